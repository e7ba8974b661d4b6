/- Contracts: witnesses, hidden corners, ears' areas, ears. -/
import Derived.Test.YteocbaobanfpdaaGh
namespace Go.Proofs.Yteocbaobanfpdaa
open Go.RowKit Go.Proofs.Yteocbaobanfpdaa.Nm
set_option maxRecDepth 10000
set_option maxHeartbeats 2000000
set_option linter.unusedSimpArgs false
set_option linter.unusedVariables false
/-! ### The corners that see a point -/
def sightM (xs : List Pt) (p : Pt) : List Bool := xs.map fun c => seesS xs c p
theorem sightM_len (xs : List Pt) (p : Pt) : (sightM xs p).length = xs.length := List.length_map _
theorem sightM_get {xs : List Pt} {p : Pt} {k : Nat} (h : k < xs.length) : (sightM xs p).getD k false = seesS xs (pAt xs k) p := by
  unfold sightM
  rw [getD_lt _ (by simpa using h), List.getElem_map, show pAt xs k = xs[k] from getD_lt _ h]
/-! ### Witnesses -/
def witM (xs l : List Pt) : Bool := decide (l.length ≤ 10) && (allInM xs l && (List.range xs.length).all fun k => (List.range l.length).all fun i => (List.range i).all fun j => !(seesS xs (pAt xs k) (pAt l i) && seesS xs (pAt xs k) (pAt l j)))
theorem witM_iff {xs l : List Pt} : witM xs l = true ↔ l.length ≤ 10 ∧ allInM xs l = true ∧ ∀ k, k < xs.length → ∀ i, i < l.length → ∀ j, j < i → ¬ (seesS xs (pAt xs k) (pAt l i) = true ∧ seesS xs (pAt xs k) (pAt l j) = true) := by
  unfold witM
  simp only [Bool.and_eq_true, decide_eq_true_eq, List.all_eq_true, List.mem_range, Bool.not_eq_true']
  refine and_congr_right fun _ => and_congr_right fun _ => forall_congr' fun k => forall_congr' fun _ => forall_congr' fun i => forall_congr' fun _ => forall_congr' fun j => forall_congr' fun _ => ?_
  rw [← Bool.not_eq_true, Bool.and_eq_true]
def witC : Con := mkCon [.room, .sl (.b .pt)] (fun x => x.1.length ≤ 1048576 ∧ x.2.1.length ≤ 1048576) fun x => vB (witM x.1 x.2.1)
/-- The corners that see one of the first i points. -/
def seenBef (xs l : List Pt) (i : Nat) : List Bool := xs.map fun c => (l.take i).any fun p => seesS xs c p
theorem seenBef_len (xs l : List Pt) (i : Nat) : (seenBef xs l i).length = xs.length := List.length_map _
theorem seenBef_get {xs l : List Pt} {i k : Nat} (h : k < xs.length) : (seenBef xs l i).getD k false = (l.take i).any fun p => seesS xs (pAt xs k) p := by
  unfold seenBef
  rw [getD_lt _ (by simpa using h), List.getElem_map, show pAt xs k = xs[k] from getD_lt _ h]
theorem seenBef_zero (xs l : List Pt) : seenBef xs l 0 = List.replicate xs.length false := by
  unfold seenBef
  exact List.ext_getElem (by simp) fun j h1 h2 => by simp
theorem seenBef_succ {xs l : List Pt} {i k : Nat} (h : k < xs.length) (hi : i < l.length) : (seenBef xs l (i + 1)).getD k false = ((seenBef xs l i).getD k false || seesS xs (pAt xs k) (pAt l i)) := by
  rw [seenBef_get h, seenBef_get h, any_succ (0, 0) hi]
theorem take_any_ex {l : List Pt} {f : Pt → Bool} {i : Nat} (hi : i ≤ l.length) : (l.take i).any f = true ↔ ∃ j, j < i ∧ f (pAt l j) = true := by
  rw [List.any_eq_true]
  constructor
  · rintro ⟨x, hx, hf⟩
    obtain ⟨j, hj, rfl⟩ := List.getElem_of_mem hx
    rw [List.length_take] at hj
    rw [List.getElem_take] at hf
    exact ⟨j, by omega, by rw [show pAt l j = l[j] from getD_lt _ (by omega)]; exact hf⟩
  · rintro ⟨j, hj, hf⟩
    refine ⟨pAt l j, ?_, hf⟩
    rw [show pAt l j = l[j] from getD_lt _ (by omega), List.mem_iff_getElem]
    exact ⟨j, by rw [List.length_take]; omega, List.getElem_take⟩
/-- Part of a row is already the next one. -/
theorem mix_getD {α : Type} {A B : List α} {k j : Nat} {d : α} (hA : k ≤ A.length) (hB : B.length = A.length) : (A.take k ++ B.drop k).getD j d = if j < k then A.getD j d else B.getD j d := by
  rw [List.getD_eq_getElem?_getD, List.getD_eq_getElem?_getD, List.getD_eq_getElem?_getD]
  split
  · rename_i h
    rw [List.getElem?_append_left (by simp; omega), List.getElem?_take, if_pos h]
  · rename_i h
    rw [List.getElem?_append_right (by simp; omega), List.length_take, Nat.min_eq_left hA, List.getElem?_drop, show k + (j - k) = j by omega]
theorem mix_put {α : Type} {xs ys : List α} {k : Nat} (h : k < xs.length) (hl : xs.length = ys.length) (d : α) : (ys.take k ++ xs.drop k).set k (ys.getD k d) = ys.take (k + 1) ++ xs.drop (k + 1) := by
  rw [List.set_append_right _ _ (by simp; omega), List.take_succ_eq_append_getElem (by omega), getD_lt _ (by omega), List.append_assoc]
  congr 1
  rw [List.length_take, Nat.min_eq_left (by omega), Nat.sub_self, List.drop_eq_getElem_cons h]
  rfl
theorem wit_get {xs l : List Pt} {i k : Nat} (h1 : k ≤ xs.length) (h2 : True) (hk : k < xs.length) : ((seenBef xs l (i + 1)).take k ++ (seenBef xs l i).drop k).getD k false = (seenBef xs l i).getD k false := by
  rw [mix_getD (by rw [seenBef_len]; omega) (by rw [seenBef_len, seenBef_len]), if_neg (by omega)]
theorem wit_set {xs l : List Pt} {i k : Nat} {b : Bool} (h1 : True) (hk : k < xs.length) (hi : i < l.length) (e : b = ((seenBef xs l i).getD k false || seesS xs (pAt xs k) (pAt l i))) : ((seenBef xs l (i + 1)).take k ++ (seenBef xs l i).drop k).set k b = (seenBef xs l (i + 1)).take (k + 1) ++ (seenBef xs l i).drop (k + 1) := by
  rw [e, ← seenBef_succ hk hi, mix_put (by rw [seenBef_len]; exact hk) (by rw [seenBef_len, seenBef_len])]
theorem mix_len {α : Type} {A B : List α} {k : Nat} (hA : k ≤ A.length) (hB : B.length = A.length) : (A.take k ++ B.drop k).length = A.length := by simp; omega
end Go.Proofs.Yteocbaobanfpdaa
