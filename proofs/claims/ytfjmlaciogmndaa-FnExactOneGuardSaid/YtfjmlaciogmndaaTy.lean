/- The types of this program. -/
import Derived.Test.YtfjmlaciogmndaaNm
import Derived.Test.YtfjmlaciogmndaaVk
namespace Go.Proofs.Ytfjmlaciogmndaa
open Go.RowKit Nm

def tUint : TI := ⟨1, [.int .u64], .int .u64⟩
theorem ty_int : TIok Try.prog t_int tInt := ⟨by kernel_rfl, by kernel_rfl, by kernel_rfl, by kernel_rfl, Try.underlying3⟩
theorem ty_bool : TIok Try.prog t_bool tBool := ⟨by kernel_rfl, by kernel_rfl, by kernel_rfl, by kernel_rfl, Try.underlying4⟩
theorem ty_ipt : TIok Try.prog t_impl_Point tPt := ⟨by kernel_rfl, by kernel_rfl, by kernel_rfl, by kernel_rfl, by kernel_rfl, fun _ => eqOk_of (by kernel_rfl) (by kernel_rfl) Try.underlying41 rfl rfl (by kernel_rfl)⟩
theorem ty_lpt : TIok Try.prog t_laws_Point tPt := ⟨by kernel_rfl, by kernel_rfl, by kernel_rfl, by kernel_rfl, by kernel_rfl, fun _ => eqOk_of (by kernel_rfl) (by kernel_rfl) Try.underlying54 rfl rfl (by kernel_rfl)⟩
theorem ty_wall : TIok Try.prog t_impl_Wall tWall := ⟨by kernel_rfl, by kernel_rfl, by kernel_rfl, by kernel_rfl, by kernel_rfl, fun h => by cases h⟩
theorem ty_iroom : TIok Try.prog t_impl_Room tRoom := ⟨by kernel_rfl, by kernel_rfl, by kernel_rfl, by kernel_rfl, by kernel_rfl, fun h => by cases h⟩
theorem ty_lroom : TIok Try.prog t_laws_Room tRoom := ⟨by kernel_rfl, by kernel_rfl, by kernel_rfl, by kernel_rfl, by kernel_rfl, fun h => by cases h⟩
theorem ty_sip : TIok Try.prog t_sl_impl_Point (tSlP t_impl_Point) := ⟨by kernel_rfl, by kernel_rfl, by kernel_rfl, by kernel_rfl, by kernel_rfl, by kernel_rfl, by kernel_rfl, by kernel_rfl⟩
theorem ty_slp : TIok Try.prog t_sl_laws_Point (tSlP t_laws_Point) := ⟨by kernel_rfl, by kernel_rfl, by kernel_rfl, by kernel_rfl, by kernel_rfl, by kernel_rfl, by kernel_rfl, by kernel_rfl⟩
theorem ty_sw : TIok Try.prog t_sl_impl_Wall (tSlW t_impl_Wall) := ⟨by kernel_rfl, by kernel_rfl, by kernel_rfl, by kernel_rfl, by kernel_rfl, by kernel_rfl, by kernel_rfl, by kernel_rfl⟩
theorem ty_uint : TIok Try.prog t_uint tUint := ⟨by kernel_rfl, by kernel_rfl, by kernel_rfl, by kernel_rfl, Try.underlying72⟩
def tyL : List (TypeId × TI) := [(t_int, tInt), (t_bool, tBool), (t_impl_Point, tPt), (t_impl_Wall, tWall), (t_impl_Room, tRoom), (t_sl_impl_Point, tSlP t_impl_Point), (t_sl_impl_Wall, tSlW t_impl_Wall)
  , (t_laws_Point, tPt)
  , (t_laws_Room, tRoom)
  , (t_sl_laws_Point, tSlP t_laws_Point)
  , (t_uint, tUint)
  ]
theorem tys : TysOk Try.prog tyL := ⟨ty_int, ty_bool, ty_ipt, ty_wall, ty_iroom, ty_sip, ty_sw
  , ty_lpt
  , ty_lroom
  , ty_slp
  , ty_uint
  , trivial⟩
theorem mixed : Try.prog.follows .mixedOrders = true := by kernel_rfl
end Go.Proofs.Ytfjmlaciogmndaa
