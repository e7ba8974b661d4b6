/- Contracts: lists of points in a room, who sees all corners, walks, hidden points. -/
import Derived.Test.YtdikfihafebfdaaGe
import Derived.Test.YtdikfihafebfdaaGy
import Derived.Test.YtdikfihafebfdaaLd
namespace Go.Proofs.Ytdikfihafebfdaa
open Go.RowKit Go.Proofs.Ytdikfihafebfdaa.Nm
set_option maxRecDepth 10000
set_option maxHeartbeats 2000000
set_option linter.unusedSimpArgs false
set_option linter.unusedVariables false
def sees2C : Con := mkCon [.room, .pt, .pt] (fun x => roomOk x.1 = true ∧ ptOk x.2.1 = true ∧ ptOk x.2.2.1 = true) fun x => vB (seesS x.1 x.2.1 x.2.2.1)
theorem sees2_ok : Good1 Try.prog n_impl_sees sees2C := by
  exact Good1.imp sees_ok fun x h => ⟨(room_len h.1).2, congrArg vB (sees_eq h.1 h.2.1 h.2.2).symm⟩
def inP (xs : List Pt) (p : Pt) : Bool := ptOk p && inB xs p
def allInM (xs l : List Pt) : Bool := roomOk xs && l.all (inP xs)
theorem inP_iff {xs : List Pt} {p : Pt} : inP xs p = true ↔ ptOk p = true ∧ placeM xs p ≠ 0 := by unfold inP; rw [Bool.and_eq_true, bne_iff_ne]
theorem isIn_iff {xs : List Pt} {p : Pt} : isIn xs p = true ↔ roomOk xs = true ∧ inP xs p = true := by
  unfold isIn placeIn inP
  cases ptOk p <;> cases roomOk xs <;> simp
theorem isIn_pt {xs : List Pt} {p : Pt} (h : isIn xs p = true) : ptOk p = true := (inP_iff.1 (isIn_iff.1 h).2).1
theorem isIn_room {xs : List Pt} {p : Pt} (h : isIn xs p = true) : roomOk xs = true := (isIn_iff.1 h).1
theorem allIn_iff {xs l : List Pt} : allInM xs l = true ↔ roomOk xs = true ∧ ∀ k, k < l.length → inP xs (pAt l k) = true := by
  unfold allInM
  rw [Bool.and_eq_true, List.all_eq_true]
  refine and_congr_right fun _ => ⟨fun h k hk => h _ (pAt_mem hk), fun h p hp => ?_⟩
  obtain ⟨k, hk, rfl⟩ := List.getElem_of_mem hp
  rw [← getD_lt (0, 0) hk]
  exact h k hk
theorem allIn_pt {xs l : List Pt} (h : allInM xs l = true) {k : Nat} (hk : k < l.length) : ptOk (pAt l k) = true := (inP_iff.1 ((allIn_iff.1 h).2 k hk)).1
theorem hold_out {xs : List Pt} {p : Pt} (hr : roomOk xs = true) (hp : ptOk p = true) : holdsM xs p < 0 ↔ placeM xs p = 0 := by
  rw [place_holds (bd_of_room hr) (bd_of_ok hp)]
  rcases hold_vals xs p with h | h | h <;> rw [h] <;> omega
def allInC : Con := mkCon [.room, .sl (.b .pt)] (fun x => x.1.length ≤ 1048576 ∧ x.2.1.length ≤ 1048576) fun x => vB (allInM x.1 x.2.1)
/-! ### Who sees all corners -/
def seesCs (xs : List Pt) (p : Pt) : Bool := (List.range xs.length).all fun k => seesS xs p (pAt xs k)
theorem seesCs_iff {xs : List Pt} {p : Pt} : seesCs xs p = true ↔ ∀ k, k < xs.length → seesS xs p (pAt xs k) = true := by
  unfold seesCs
  simp only [List.all_eq_true, List.mem_range]
def seesCornersM (xs : List Pt) (p : Pt) : Bool := isIn xs p && seesCs xs p
def seesCornersC : Con := mkCon [.room, .pt] (fun x => x.1.length ≤ 1048576) fun x => vB (seesCornersM x.1 x.2.1)
def seenCs (xs : List Pt) (p : Pt) (k : Nat) : List Int := ((List.range k).filter fun j => seesS xs p (pAt xs j)).map fun j : Nat => (j : Int)
theorem seenCs_succ (xs : List Pt) (p : Pt) (k : Nat) : seenCs xs p (k + 1) = seenCs xs p k ++ (if seesS xs p (pAt xs k) then [(k : Int)] else []) := by
  unfold seenCs
  rw [List.range_succ, List.filter_append, List.map_append]
  congr 1
  rw [List.filter_cons]
  by_cases h : seesS xs p (pAt xs k) = true
  · rw [if_pos h, if_pos h]; rfl
  · rw [if_neg h, if_neg h]; rfl
theorem seenCs_len (xs : List Pt) (p : Pt) (k : Nat) : (seenCs xs p k).length ≤ k := by
  unfold seenCs
  rw [List.length_map]
  exact Nat.le_trans (List.length_filter_le _ _) (by simp)
theorem seenCs_full {xs : List Pt} {p : Pt} {k : Nat} : (seenCs xs p k).length = k ↔ ∀ j, j < k → seesS xs p (pAt xs j) = true := by
  have h : (seenCs xs p k).length = ((List.range k).filter fun j => seesS xs p (pAt xs j)).length := by unfold seenCs; rw [List.length_map]
  rw [h]
  constructor
  · intro h j hj
    have := List.length_filter_eq_length_iff.1 (h.trans (List.length_range (n := k)).symm)
    exact this j (List.mem_range.2 hj)
  · intro h
    exact (List.length_filter_eq_length_iff.2 fun j hj => h j (List.mem_range.1 hj)).trans List.length_range
def cornersSeenM (xs : List Pt) (p : Pt) : List Int := if isIn xs p then seenCs xs p xs.length else []
/-! ### Walks -/
def walkM (xs l : List Pt) : Bool := decide (l.length ≤ 40) && (allInM xs l && (List.range (l.length - 1)).all fun i => seesS xs (pAt l i) (pAt l (i + 1)))
theorem walkM_iff {xs l : List Pt} : walkM xs l = true ↔ l.length ≤ 40 ∧ allInM xs l = true ∧ ∀ i, i + 1 < l.length → seesS xs (pAt l i) (pAt l (i + 1)) = true := by
  unfold walkM
  simp only [Bool.and_eq_true, decide_eq_true_eq, List.all_eq_true, List.mem_range]
  exact and_congr_right fun _ => and_congr_right fun _ => ⟨fun h i hi => h i (by omega), fun h i hi => h i (by omega)⟩
def walkC : Con := mkCon [.room, .sl (.b .pt)] (fun x => x.1.length ≤ 1048576 ∧ x.2.1.length ≤ 1048576) fun x => vB (walkM x.1 x.2.1)
/-! ### Hidden points -/
def hidM (xs l : List Pt) : Bool := decide (l.length ≤ 10) && (allInM xs l && (List.range l.length).all fun i => (List.range i).all fun k => !seesS xs (pAt l i) (pAt l k))
theorem hidM_iff {xs l : List Pt} : hidM xs l = true ↔ l.length ≤ 10 ∧ allInM xs l = true ∧ ∀ i, i < l.length → ∀ k, k < i → seesS xs (pAt l i) (pAt l k) = false := by
  unfold hidM
  simp only [Bool.and_eq_true, decide_eq_true_eq, List.all_eq_true, List.mem_range, Bool.not_eq_true']
def hidC : Con := mkCon [.room, .sl (.b .pt)] (fun x => x.1.length ≤ 1048576 ∧ x.2.1.length ≤ 1048576) fun x => vB (hidM x.1 x.2.1)
theorem pAt_take {l : List Pt} {i k : Nat} (h : k < i) : pAt (l.take i) k = pAt l k := by
  simp only [pAt, List.getD, List.getElem?_take, if_pos h]
end Go.Proofs.Ytdikfihafebfdaa
