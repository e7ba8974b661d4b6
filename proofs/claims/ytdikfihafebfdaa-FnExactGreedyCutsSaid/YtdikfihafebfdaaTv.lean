/- The types of arguments that come in. -/
import Derived.Test.YtdikfihafebfdaaTy
import Derived.Test.YtdikfihafebfdaaVn
namespace Go.Proofs.Ytdikfihafebfdaa
open Go.RowKit Nm
theorem aty_int : IntT Try.prog t_int := ⟨Try.underlying3, by kernel_rfl⟩
theorem aty_lpt : PtT Try.prog t_laws_Point := ⟨by kernel_rfl, _, _, Try.underlying55, ⟨rfl, aty_int⟩, rfl, aty_int⟩
theorem aty_slp : SlPtT Try.prog t_sl_laws_Point := ⟨by kernel_rfl, _, Try.underlying22, aty_lpt⟩
theorem aty_si : SlIntT Try.prog t_sl_int := ⟨by kernel_rfl, _, Try.underlying41, aty_int⟩
theorem aty_sii : SlSlIntT Try.prog t_sl_sl_int := ⟨by kernel_rfl, _, Try.underlying26, aty_si⟩
theorem aty_lroom : RoomT Try.prog t_laws_Room := ⟨by kernel_rfl, _, Try.underlying24, rfl, aty_slp⟩
end Go.Proofs.Ytdikfihafebfdaa
