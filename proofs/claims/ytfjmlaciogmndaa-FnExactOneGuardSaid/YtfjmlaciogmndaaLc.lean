/- Contracts: points in triangles, equal rooms, parts' areas; the laws on them. -/
import Derived.Test.YtfjmlaciogmndaaLb
namespace Go.Proofs.Ytfjmlaciogmndaa
open Go.RowKit Nm
set_option maxRecDepth 10000
set_option linter.unusedSimpArgs false
set_option linter.unusedVariables false
def inTri (a b c p : Pt) : Bool := decide (0 ≤ turn a b p) && (decide (0 ≤ turn b c p) && decide (0 ≤ turn c a p))
def inTriC : Con := mkCon [.pt, .pt, .pt, .pt] (fun _ => True) fun x => vB (inTri x.1 x.2.1 x.2.2.1 x.2.2.2.1)
def inTurnC : Con := mkCon [.pt, .pt, .pt, .pt] (fun _ => True) fun x => vB (inTri x.2.1 x.2.2.1 x.2.2.2.1 x.1)
def inTriangle (xs : List Pt) (t : Tri) (p : Pt) : Bool := decide (0 < triArea xs t) && (ptOk p && inTri (pI xs t.1) (pI xs t.2.1) (pI xs t.2.2) p)
def inTriangleC : Con := mkCon [.room, .tri, .pt] (fun x => x.1.length ≤ 1048576) fun x => vB (inTriangle x.1 x.2.1 x.2.2.1)
theorem triArea_pos {xs : List Pt} {t : Tri} (h : 0 < triArea xs t) : (0 ≤ t.1 ∧ t.1 < t.2.1 ∧ t.2.1 < t.2.2 ∧ t.2.2 < xs.length) ∧ roomOk xs = true := by
  unfold triArea at h
  split at h
  · rename_i h1; simpa [triOk] using h1
  · omega

/-! ### Equal rooms -/
def hasCor (xs : List Pt) (k : Int) : Bool := btw k 0 (xs.length - 1) && roomOk xs
def hasCorC : Con := mkCon [.room, .int] (fun x => x.1.length ≤ 1048576) fun x => vB (hasCor x.1 x.2.1)
def rot {α : Type} (xs : List α) (k : Nat) : List α := xs.drop k ++ xs.take k
def startAt (xs : List Pt) (k : Int) : List Pt := if hasCor xs k then rot xs k.toNat else []
def rRoom (xs : List Pt) : RV := ⟨.agg [.own 0 0], some ⟨t_impl_Point, none, .b .pt, xs⟩⟩
def startAtC : Con := mkCon [.room, .int] (fun x => x.1.length ≤ 1048576) fun x => rRoom (startAt x.1 x.2.1)
theorem hasCor_iff {xs : List Pt} {k : Int} : hasCor xs k = true ↔ (0 ≤ k ∧ k < xs.length) ∧ roomOk xs = true := by
  simp only [hasCor, Bool.and_eq_true, btw_iff]
  exact and_congr_left fun _ => by omega
theorem rot_len {α : Type} (xs : List α) (k : Nat) : (rot xs k).length = xs.length := by simp [rot]; omega
theorem rot_get {xs : List Pt} {k i : Nat} (hk : k < xs.length) (hi : i < xs.length) : pAt (rot xs k) i = pCy xs (k + i) := by
  unfold pAt pCy rot
  rw [List.getD_eq_getElem?_getD, List.getD_eq_getElem?_getD]
  congr 1
  rcases Nat.lt_or_ge (k + i) xs.length with h | h
  · rw [Nat.mod_eq_of_lt h, List.getElem?_append_left (by simp; omega), List.getElem?_drop]
  · rw [Nat.mod_eq_sub_mod h, Nat.mod_eq_of_lt (by omega), List.getElem?_append_right (by simp; omega), List.getElem?_take_of_lt (by simp; omega)]
    congr 1
    simp; omega
theorem rot_eq {xs ys : List Pt} {k : Nat} (hk : k < xs.length) (hl : xs.length = ys.length) : rot xs k = ys ↔ ∀ j, j < xs.length → pCy xs (k + j) = pAt ys j := by
  constructor
  · rintro rfl j hj; exact (rot_get hk hj).symm
  · intro h
    refine List.ext_getElem (by rw [rot_len, hl]) fun j h1 h2 => ?_
    have h3 := h j (by omega)
    rw [← rot_get hk (by omega), pAt, pAt, getD_lt _ h1, getD_lt _ h2] at h3
    exact h3
def sameRoom (xs ys : List Pt) : Int := if roomOk xs && roomOk ys then (match (List.range xs.length).find? (fun k => decide (rot xs k = ys)) with | some k => (k : Int) | none => -1) else -1
def sameRoomC : Con := mkCon [.room, .room] (fun x => x.1.length ≤ 1048576 ∧ x.2.1.length ≤ 1048576) fun x => vI (sameRoom x.1 x.2.1)
theorem find_none {n : Nat} {f : Nat → Bool} (h : ∀ j, j < n → f j = false) : (List.range n).find? f = none := by
  rw [List.find?_eq_none]; intro x hx; rw [h x (List.mem_range.1 hx)]; decide
theorem find_some {n k : Nat} {f : Nat → Bool} (hk : k < n) (h : ∀ j, j < k → f j = false) (hf : f k = true) : (List.range n).find? f = some k := by
  rw [List.find?_eq_some_iff_getElem]
  refine ⟨hf, k, by simpa using hk, by simp, fun j hj => ?_⟩
  simp [h j hj]
end Go.Proofs.Ytfjmlaciogmndaa
