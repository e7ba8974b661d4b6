/- The types of arguments that come in. -/
import Derived.Test.YtapnjichedljbaaTy
import Derived.Test.YtapnjichedljbaaVn
namespace Go.Proofs.Ytapnjichedljbaa
open Go.RowKit Nm
theorem aty_int : IntT Try.prog t_int := ⟨Try.underlying3, by kernel_rfl⟩
theorem aty_lpt : PtT Try.prog t_laws_Point := ⟨by kernel_rfl, _, _, Try.underlying42, ⟨rfl, aty_int⟩, rfl, aty_int⟩
theorem aty_slp : SlPtT Try.prog t_sl_laws_Point := ⟨by kernel_rfl, _, Try.underlying22, aty_lpt⟩
theorem aty_si : SlIntT Try.prog t_sl_int := ⟨by kernel_rfl, _, Try.underlying51, aty_int⟩
theorem aty_sii : SlSlIntT Try.prog t_sl_sl_int := ⟨by kernel_rfl, _, Try.underlying47, aty_si⟩
theorem aty_lroom : RoomT Try.prog t_laws_Room := ⟨by kernel_rfl, _, Try.underlying31, rfl, aty_slp⟩
end Go.Proofs.Ytapnjichedljbaa
