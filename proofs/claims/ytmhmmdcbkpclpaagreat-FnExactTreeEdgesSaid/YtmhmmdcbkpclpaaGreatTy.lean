/- The types of this program. -/
import Derived.Test.YtmhmmdcbkpclpaaGreatNm
import Derived.Test.YtmhmmdcbkpclpaaGreatVk
namespace Go.Proofs.YtmhmmdcbkpclpaaGreat
open Go.RowKit Nm

def tUint : TI := ⟨1, [.int .u64], .int .u64⟩
theorem ty_int : TIok Tryz.prog t_int tInt := ⟨by kernel_rfl, by kernel_rfl, by kernel_rfl, by kernel_rfl, Tryz.underlying3⟩
theorem ty_bool : TIok Tryz.prog t_bool tBool := ⟨by kernel_rfl, by kernel_rfl, by kernel_rfl, by kernel_rfl, Tryz.underlying4⟩
theorem ty_ipt : TIok Tryz.prog t_impl_Point tPt := ⟨by kernel_rfl, by kernel_rfl, by kernel_rfl, by kernel_rfl, by kernel_rfl, fun _ => eqOk_of (by kernel_rfl) (by kernel_rfl) Tryz.underlying47 rfl rfl (by kernel_rfl)⟩
theorem ty_lpt : TIok Tryz.prog t_laws_Point tPt := ⟨by kernel_rfl, by kernel_rfl, by kernel_rfl, by kernel_rfl, by kernel_rfl, fun _ => eqOk_of (by kernel_rfl) (by kernel_rfl) Tryz.underlying45 rfl rfl (by kernel_rfl)⟩
theorem ty_wall : TIok Tryz.prog t_impl_Wall tWall := ⟨by kernel_rfl, by kernel_rfl, by kernel_rfl, by kernel_rfl, by kernel_rfl, fun h => by cases h⟩
theorem ty_itri : TIok Tryz.prog t_impl_Triangle tTri := ⟨by kernel_rfl, by kernel_rfl, by kernel_rfl, by kernel_rfl, by kernel_rfl, fun h => by cases h⟩
theorem ty_iroom : TIok Tryz.prog t_impl_Room tRoom := ⟨by kernel_rfl, by kernel_rfl, by kernel_rfl, by kernel_rfl, by kernel_rfl, fun h => by cases h⟩
theorem ty_lroom : TIok Tryz.prog t_laws_Room tRoom := ⟨by kernel_rfl, by kernel_rfl, by kernel_rfl, by kernel_rfl, by kernel_rfl, fun h => by cases h⟩
theorem ty_sip : TIok Tryz.prog t_sl_impl_Point (tSlP t_impl_Point) := ⟨by kernel_rfl, by kernel_rfl, by kernel_rfl, by kernel_rfl, by kernel_rfl, by kernel_rfl, by kernel_rfl, by kernel_rfl⟩
theorem ty_slp : TIok Tryz.prog t_sl_laws_Point (tSlP t_laws_Point) := ⟨by kernel_rfl, by kernel_rfl, by kernel_rfl, by kernel_rfl, by kernel_rfl, by kernel_rfl, by kernel_rfl, by kernel_rfl⟩
theorem ty_sw : TIok Tryz.prog t_sl_impl_Wall (tSlW t_impl_Wall) := ⟨by kernel_rfl, by kernel_rfl, by kernel_rfl, by kernel_rfl, by kernel_rfl, by kernel_rfl, by kernel_rfl, by kernel_rfl⟩
theorem ty_si : TIok Tryz.prog t_sl_int (tSlI t_int) := ⟨by kernel_rfl, by kernel_rfl, by kernel_rfl, by kernel_rfl, by kernel_rfl, by kernel_rfl, by kernel_rfl, by kernel_rfl⟩
theorem ty_st : TIok Tryz.prog t_sl_impl_Triangle (tSlT t_impl_Triangle) := ⟨by kernel_rfl, by kernel_rfl, by kernel_rfl, by kernel_rfl, by kernel_rfl, by kernel_rfl, by kernel_rfl, by kernel_rfl⟩
theorem ty_sii : TIok Tryz.prog t_sl_sl_int (tSlII t_sl_int) := ⟨by kernel_rfl, by kernel_rfl, by kernel_rfl, by kernel_rfl, by kernel_rfl, by kernel_rfl, by kernel_rfl, by kernel_rfl⟩
theorem ty_uint : TIok Tryz.prog t_uint tUint := ⟨by kernel_rfl, by kernel_rfl, by kernel_rfl, by kernel_rfl, Tryz.underlying74⟩
def tyL : List (TypeId × TI) := [(t_int, tInt), (t_bool, tBool), (t_impl_Point, tPt), (t_impl_Wall, tWall), (t_impl_Room, tRoom), (t_sl_impl_Point, tSlP t_impl_Point), (t_sl_impl_Wall, tSlW t_impl_Wall)
  , (t_laws_Point, tPt)
  , (t_impl_Triangle, tTri)
  , (t_laws_Room, tRoom)
  , (t_sl_laws_Point, tSlP t_laws_Point)
  , (t_sl_int, tSlI t_int)
  , (t_sl_impl_Triangle, tSlT t_impl_Triangle)
  , (t_sl_sl_int, tSlII t_sl_int)
  , (t_uint, tUint)
  ]
theorem tys : TysOk Tryz.prog tyL := ⟨ty_int, ty_bool, ty_ipt, ty_wall, ty_iroom, ty_sip, ty_sw
  , ty_lpt
  , ty_itri
  , ty_lroom
  , ty_slp
  , ty_si
  , ty_st
  , ty_sii
  , ty_uint
  , trivial⟩
theorem mixed : Tryz.prog.follows .mixedOrders = true := by kernel_rfl
end Go.Proofs.YtmhmmdcbkpclpaaGreat
