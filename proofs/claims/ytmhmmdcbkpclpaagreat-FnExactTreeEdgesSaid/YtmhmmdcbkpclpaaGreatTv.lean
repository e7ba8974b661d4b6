/- The types of arguments that come in. -/
import Derived.Test.YtmhmmdcbkpclpaaGreatTy
import Derived.Test.YtmhmmdcbkpclpaaGreatVn
namespace Go.Proofs.YtmhmmdcbkpclpaaGreat
open Go.RowKit Nm
theorem aty_int : IntT Tryz.prog t_int := ⟨Tryz.underlying3, by kernel_rfl⟩
theorem aty_lpt : PtT Tryz.prog t_laws_Point := ⟨by kernel_rfl, _, _, Tryz.underlying45, ⟨rfl, aty_int⟩, rfl, aty_int⟩
theorem aty_slp : SlPtT Tryz.prog t_sl_laws_Point := ⟨by kernel_rfl, _, Tryz.underlying22, aty_lpt⟩
theorem aty_si : SlIntT Tryz.prog t_sl_int := ⟨by kernel_rfl, _, Tryz.underlying26, aty_int⟩
theorem aty_sii : SlSlIntT Tryz.prog t_sl_sl_int := ⟨by kernel_rfl, _, Tryz.underlying37, aty_si⟩
theorem aty_lroom : RoomT Tryz.prog t_laws_Room := ⟨by kernel_rfl, _, Tryz.underlying24, rfl, aty_slp⟩
end Go.Proofs.YtmhmmdcbkpclpaaGreat
