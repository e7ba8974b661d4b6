/- The mathematics of the division into triangles: which corner is cut, what is left, the list of triangles, their colors. -/
import Derived.Test.YteocbaobanfpdaaGg
import Derived.Test.YteocbaobanfpdaaLc
namespace Go.Proofs.Yteocbaobanfpdaa
open Go.RowKit
set_option linter.unusedVariables false
/-! ### Corners that are left -/
abbrev gI (l : List Int) (k : Nat) : Int := l.getD k 0
def prvN (n i : Nat) : Nat := (i + n - 1) % n
def nxtN (n i : Nat) : Nat := (i + 1) % n
/-- Whether the corner at place i of those left can be cut off. -/
def cutM (xs : List Pt) (l : List Int) (i : Nat) : Bool :=
  ((diagM xs (gI l (prvN l.length i)) (gI l (nxtN l.length i)) || neighZ xs.length (gI l (prvN l.length i)) (gI l (nxtN l.length i))) && decide (0 < turn (pI xs (gI l (prvN l.length i))) (pI xs (gI l i)) (pI xs (gI l (nxtN l.length i))))) &&
  l.all fun x => decide (x = gI l (prvN l.length i)) || (decide (x = gI l i) || (decide (x = gI l (nxtN l.length i)) || !inTri (pI xs (gI l (prvN l.length i))) (pI xs (gI l i)) (pI xs (gI l (nxtN l.length i))) (pI xs x)))
theorem cutM_iff {xs : List Pt} {l : List Int} {i : Nat} : cutM xs l i = true ↔ (diagM xs (gI l (prvN l.length i)) (gI l (nxtN l.length i)) = true ∨ neighZ xs.length (gI l (prvN l.length i)) (gI l (nxtN l.length i)) = true) ∧
    0 < turn (pI xs (gI l (prvN l.length i))) (pI xs (gI l i)) (pI xs (gI l (nxtN l.length i))) ∧
    ∀ j, j < l.length → gI l j = gI l (prvN l.length i) ∨ gI l j = gI l i ∨ gI l j = gI l (nxtN l.length i) ∨ inTri (pI xs (gI l (prvN l.length i))) (pI xs (gI l i)) (pI xs (gI l (nxtN l.length i))) (pI xs (gI l j)) = false := by
  unfold cutM
  simp only [Bool.and_eq_true, Bool.or_eq_true, decide_eq_true_eq, List.all_eq_true, Bool.not_eq_true']
  constructor
  · rintro ⟨⟨h1, h2⟩, h3⟩
    refine ⟨h1, h2, fun j hj => h3 _ ?_⟩
    rw [show gI l j = l[j] from getD_lt _ hj]
    exact List.getElem_mem _
  · rintro ⟨h1, h2, h3⟩
    refine ⟨⟨h1, h2⟩, fun x hx => ?_⟩
    obtain ⟨j, hj, rfl⟩ := List.getElem_of_mem hx
    have := h3 j hj
    rwa [show gI l j = l[j] from getD_lt _ hj] at this
/-- The first corner that can be cut off. -/
def firstCut (xs : List Pt) (l : List Int) : Option Nat := (List.range l.length).find? (cutM xs l)
theorem firstCut_some {xs : List Pt} {l : List Int} {i : Nat} (hi : i < l.length) (h : cutM xs l i = true) (hb : ∀ j, j < i → cutM xs l j = false) : firstCut xs l = some i := by
  unfold firstCut
  rw [List.find?_range_eq_some]
  exact ⟨h, List.mem_range.2 hi, fun j hj => by rw [hb j hj]; rfl⟩
theorem firstCut_none {xs : List Pt} {l : List Int} (h : ∀ j, j < l.length → cutM xs l j = false) : firstCut xs l = none := by
  unfold firstCut
  rw [List.find?_eq_none]
  intro j hj
  rw [h j (List.mem_range.1 hj)]
  decide
theorem firstCut_spec {xs : List Pt} {l : List Int} {i : Nat} (h : firstCut xs l = some i) : i < l.length ∧ cutM xs l i = true := by
  unfold firstCut at h
  rw [List.find?_range_eq_some] at h
  exact ⟨List.mem_range.1 h.2.1, h.1⟩
/-- Three numbers in order. -/
def triS (a b c : Int) : Tri := (min (min a b) c, a + b + c - min (min a b) c - max (max a b) c, max (max a b) c)
def triAt (l : List Int) (i : Nat) : Tri := triS (gI l (prvN l.length i)) (gI l i) (gI l (nxtN l.length i))
def triRun (xs : List Pt) : Nat → List Int → List Tri → List Tri
  | 0, l, out => out ++ [triS (gI l 0) (gI l 1) (gI l 2)]
  | f + 1, l, out => match firstCut xs l with
    | none => []
    | some i => triRun xs f (l.eraseIdx i) (out ++ [triAt l i])
def allC (n : Nat) : List Int := (List.range n).map fun k : Nat => (k : Int)
def trisM (xs : List Pt) : List Tri := if roomOk xs then triRun xs (xs.length - 3) (allC xs.length) [] else []
theorem allC_len (n : Nat) : (allC n).length = n := by simp [allC]
theorem allC_succ (n : Nat) : allC (n + 1) = allC n ++ [(n : Int)] := by unfold allC; rw [List.range_succ, List.map_append]; rfl
theorem tris_bad {xs : List Pt} (h : roomOk xs = false) : trisM xs = [] := by unfold trisM; rw [h]; rfl
theorem triRun_len {xs : List Pt} : ∀ (f : Nat) (l : List Int) (out : List Tri), (triRun xs f l out).length ≤ out.length + f + 1
  | 0, l, out => by simp [triRun]
  | f + 1, l, out => by
    unfold triRun
    split
    · simp
    · have := triRun_len (xs := xs) f (l.eraseIdx ‹Nat›) (out ++ [triAt l ‹Nat›])
      simp only [List.length_append, List.length_cons, List.length_nil] at this
      omega
theorem tris_len (xs : List Pt) : (trisM xs).length ≤ xs.length + 1 := by
  unfold trisM
  split
  · have := triRun_len (xs := xs) (xs.length - 3) (allC xs.length) []
    simp only [List.length_nil] at this
    omega
  · simp
/-- What is left on the way: corners in their order, at least three. -/
structure Left (n : Nat) (l : List Int) : Prop where
  len : 3 ≤ l.length
  le : l.length ≤ n
  inc : l.Pairwise (· < ·)
  ge : ∀ x ∈ l, 0 ≤ x
  lt : ∀ x ∈ l, x < n
theorem left_all {n : Nat} (h : 3 ≤ n) : Left n (allC n) := by
  refine ⟨by rw [allC_len]; exact h, by rw [allC_len]; exact Nat.le_refl _, ?_, ?_, ?_⟩
  · unfold allC
    rw [List.pairwise_map]
    exact List.pairwise_lt_range.imp fun h => by omega
  all_goals (intro x hx; unfold allC at hx; obtain ⟨k, hk, rfl⟩ := List.mem_map.1 hx; have := List.mem_range.1 hk; omega)
theorem Left.erase {n : Nat} {l : List Int} (h : Left n l) (h4 : 3 < l.length) {i : Nat} (hi : i < l.length) : Left n (l.eraseIdx i) := by
  have hl := List.length_eraseIdx_of_lt hi
  refine ⟨by omega, by have := h.le; omega, h.inc.sublist (List.eraseIdx_sublist _ _), fun x hx => h.ge x ((List.eraseIdx_sublist _ _).mem hx), fun x hx => h.lt x ((List.eraseIdx_sublist _ _).mem hx)⟩
theorem gI_mem {l : List Int} {k : Nat} (h : k < l.length) : gI l k ∈ l := by rw [show gI l k = l[k] from getD_lt _ h]; exact List.getElem_mem _
theorem Left.at {n : Nat} {l : List Int} (h : Left n l) {k : Nat} (hk : k < l.length) : 0 ≤ gI l k ∧ gI l k < n := ⟨h.ge _ (gI_mem hk), h.lt _ (gI_mem hk)⟩
theorem Left.mono {n : Nat} {l : List Int} (h : Left n l) {i j : Nat} (hij : i < j) (hj : j < l.length) : gI l i < gI l j := by
  rw [show gI l i = l[i] from getD_lt _ (by omega), show gI l j = l[j] from getD_lt _ hj]
  exact List.pairwise_iff_getElem.1 h.inc i j (by omega) hj hij
theorem Left.inj {n : Nat} {l : List Int} (h : Left n l) {i j : Nat} (hi : i < l.length) (hj : j < l.length) (e : gI l i = gI l j) : i = j := by
  rcases Nat.lt_trichotomy i j with h1 | h1 | h1
  · have := h.mono h1 hj; omega
  · exact h1
  · have := h.mono h1 hi; omega
theorem prv_lt {n i : Nat} (h : 0 < n) : prvN n i < n := Nat.mod_lt _ h
theorem nxt_lt {n i : Nat} (h : 0 < n) : nxtN n i < n := Nat.mod_lt _ h
theorem prv_eq {n i : Nat} (hi : i < n) : (i = 0 ∧ prvN n i = n - 1) ∨ (0 < i ∧ prvN n i = i - 1) := by
  unfold prvN
  rcases Nat.eq_zero_or_pos i with h | h
  · subst h; exact .inl ⟨rfl, by rw [Nat.zero_add, Nat.mod_eq_of_lt (by omega)]⟩
  · exact .inr ⟨h, by rw [show i + n - 1 = (i - 1) + n by omega, Nat.add_mod_right, Nat.mod_eq_of_lt (by omega)]⟩
theorem nxt_eq {n i : Nat} (hi : i < n) : (i + 1 = n ∧ nxtN n i = 0) ∨ (i + 1 < n ∧ nxtN n i = i + 1) := by
  unfold nxtN
  rcases Nat.lt_or_ge (i + 1) n with h | h
  · exact .inr ⟨h, Nat.mod_eq_of_lt h⟩
  · have : i + 1 = n := by omega
    exact .inl ⟨this, by rw [this, Nat.mod_self]⟩
/-- The run goes on from every state on the way. -/
structure TriSt (xs : List Pt) (s : List Int × List Tri) : Prop where
  left : Left xs.length s.1
  run : triRun xs (s.1.length - 3) s.1 s.2 = trisM xs
  len : s.2.length + s.1.length = xs.length
theorem triSt_start {xs : List Pt} (hr : roomOk xs = true) (h3 : 3 ≤ xs.length) : TriSt xs (allC xs.length, []) :=
  ⟨left_all h3, by show triRun xs ((allC xs.length).length - 3) _ _ = _; rw [allC_len]; unfold trisM; rw [if_pos hr], by simp [allC_len]⟩
theorem TriSt.step {xs : List Pt} {s : List Int × List Tri} (h : TriSt xs s) (h4 : 3 < s.1.length) {i : Nat} (hc : firstCut xs s.1 = some i) : TriSt xs (s.1.eraseIdx i, s.2 ++ [triAt s.1 i]) := by
  have hi := (firstCut_spec hc).1
  have hl := List.length_eraseIdx_of_lt hi
  refine ⟨h.left.erase h4 hi, ?_, ?_⟩
  · have hr := h.run
    show triRun xs ((s.1.eraseIdx i).length - 3) _ _ = _
    rw [hl, show s.1.length - 1 - 3 = s.1.length - 4 by omega]
    rw [show s.1.length - 3 = (s.1.length - 4) + 1 by omega] at hr
    unfold triRun at hr
    rw [hc] at hr
    exact hr
  · have := h.len
    show (s.2 ++ [triAt s.1 i]).length + (s.1.eraseIdx i).length = _
    rw [List.length_append, hl]
    simp only [List.length_cons, List.length_nil]
    omega
theorem TriSt.none {xs : List Pt} {s : List Int × List Tri} (h : TriSt xs s) (h4 : 3 < s.1.length) (hc : firstCut xs s.1 = none) : trisM xs = [] := by
  have hr := h.run
  rw [show s.1.length - 3 = (s.1.length - 4) + 1 by omega] at hr
  unfold triRun at hr
  rw [hc] at hr
  exact hr.symm
theorem TriSt.last {xs : List Pt} {s : List Int × List Tri} (h : TriSt xs s) (h3 : s.1.length ≤ 3) : trisM xs = s.2 ++ [triS (gI s.1 0) (gI s.1 1) (gI s.1 2)] := by
  have hr := h.run
  rw [show s.1.length - 3 = 0 by omega] at hr
  exact hr.symm
end Go.Proofs.Yteocbaobanfpdaa
