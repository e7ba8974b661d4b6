/- The types of arguments that come in. -/
import Derived.Test.YtfjmlaciogmndaaTy
import Derived.Test.YtfjmlaciogmndaaVn
namespace Go.Proofs.Ytfjmlaciogmndaa
open Go.RowKit Nm
theorem aty_int : IntT Try.prog t_int := ⟨Try.underlying3, by kernel_rfl⟩
theorem aty_lpt : PtT Try.prog t_laws_Point := ⟨by kernel_rfl, _, _, Try.underlying54, ⟨rfl, aty_int⟩, rfl, aty_int⟩
theorem aty_slp : SlPtT Try.prog t_sl_laws_Point := ⟨by kernel_rfl, _, Try.underlying22, aty_lpt⟩
theorem aty_lroom : RoomT Try.prog t_laws_Room := ⟨by kernel_rfl, _, Try.underlying24, rfl, aty_slp⟩
end Go.Proofs.Ytfjmlaciogmndaa
