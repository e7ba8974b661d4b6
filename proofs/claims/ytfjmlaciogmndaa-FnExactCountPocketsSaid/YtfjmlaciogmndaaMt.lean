/- The mathematics of the division into triangles: which corner is cut, what is left, the list of triangles, their colors. -/
import Derived.Test.YtfjmlaciogmndaaGg
import Derived.Test.YtfjmlaciogmndaaLc
import Derived.Test.YtfjmlaciogmndaaLg
namespace Go.Proofs.Ytfjmlaciogmndaa
open Go.RowKit
set_option linter.unusedVariables false
/-! ### The first place where something holds -/
def FirstFrom (f : Nat → Bool) (n k : Nat) (a : Int) : Prop := (a = -1 ∧ ∀ j, k ≤ j → j < n → f j = false) ∨ ∃ i : Nat, a = i ∧ k ≤ i ∧ i < n ∧ f i = true ∧ ∀ j, k ≤ j → j < i → f j = false
theorem ff_start (f : Nat → Bool) (n : Nat) : FirstFrom f n n (-1) := .inl ⟨rfl, fun j h1 h2 => absurd h2 (by omega)⟩
theorem ff_yes {f : Nat → Bool} {n k : Nat} {a : Int} (hk : k < n) (h : f k = true) : FirstFrom f n k k := .inr ⟨k, rfl, Nat.le_refl _, hk, h, fun j h1 h2 => absurd h2 (by omega)⟩
theorem ff_no {f : Nat → Bool} {n k : Nat} {a : Int} (h : f k = false) (hf : FirstFrom f n (k + 1) a) : FirstFrom f n k a := by
  rcases hf with ⟨rfl, h1⟩ | ⟨i, rfl, h1, h2, h3, h4⟩
  · exact .inl ⟨rfl, fun j h5 h6 => by
      rcases Nat.eq_or_lt_of_le h5 with e | e
      · rw [← e]; exact h
      · exact h1 j e h6⟩
  · exact .inr ⟨i, rfl, by omega, h2, h3, fun j h5 h6 => by
      rcases Nat.eq_or_lt_of_le h5 with e | e
      · rw [← e]; exact h
      · exact h4 j e h6⟩
theorem ff_bd {f : Nat → Bool} {n k : Nat} {a : Int} (hf : FirstFrom f n k a) : -1 ≤ a ∧ a < n := by
  rcases hf with ⟨rfl, h1⟩ | ⟨i, rfl, h1, h2, h3, h4⟩ <;> omega
theorem ff_find {f : Nat → Bool} {n : Nat} {a : Int} (hf : FirstFrom f n 0 a) : (a = -1 ∧ (List.range n).find? f = none) ∨ (0 ≤ a ∧ a < n ∧ (List.range n).find? f = some a.toNat) := by
  rcases hf with ⟨rfl, h1⟩ | ⟨i, rfl, h1, h2, h3, h4⟩
  · exact .inl ⟨rfl, List.find?_eq_none.2 fun j hj => by rw [h1 j (Nat.zero_le _) (List.mem_range.1 hj)]; decide⟩
  · exact .inr ⟨by omega, by omega, List.find?_range_eq_some.2 ⟨h3, List.mem_range.2 h2, fun j hj => by rw [h4 j (Nat.zero_le _) hj]; rfl⟩⟩
def dnV : Nat → AV
  | 0 => vInt (-1)
  | i + 1 => vInt i
theorem dnV_eq (n : Nat) : vInt ((n : Int) - 1) = dnV n := by
  cases n with
  | zero => rfl
  | succ i => exact congrArg vInt (by omega)
theorem ff_full {f : Nat → Bool} {n : Nat} {a : Int} (hf : FirstFrom f n n a) : a = -1 := by
  rcases hf with ⟨rfl, h1⟩ | ⟨i, rfl, h1, h2, h3, h4⟩ <;> omega
theorem erase_eq {α : Type} (l : List α) (k : Nat) : l.eraseIdx k = l.take k ++ l.drop (k + 1) := List.eraseIdx_eq_take_drop_succ l k
/-! ### Corners that are left -/
abbrev gI (l : List Int) (k : Nat) : Int := l.getD k 0
def prvN (n i : Nat) : Nat := (i + n - 1) % n
def nxtN (n i : Nat) : Nat := (i + 1) % n
theorem prv_int {n i : Nat} (hi : i < n) : Int.tmod ((i : Int) + n - 1) n = (prvN n i : Nat) := by
  unfold prvN
  rw [show ((i : Int) + n - 1) = ((i + n - 1 : Nat) : Int) by omega, ← Int.ofNat_tmod]
theorem nxt_int {n i : Nat} : Int.tmod ((i : Int) + 1) n = (nxtN n i : Nat) := by
  unfold nxtN
  rw [tm1]
/-- Whether the corner at place i of those left can be cut off. -/
def cutM (xs : List Pt) (l : List Int) (i : Nat) : Bool :=
  ((diagM xs (gI l (prvN l.length i)) (gI l (nxtN l.length i)) || neighZ xs.length (gI l (prvN l.length i)) (gI l (nxtN l.length i))) && decide (0 < turn (pI xs (gI l (prvN l.length i))) (pI xs (gI l i)) (pI xs (gI l (nxtN l.length i))))) &&
  l.all fun x => decide (x = gI l (prvN l.length i)) || (decide (x = gI l i) || (decide (x = gI l (nxtN l.length i)) || !inTri (pI xs (gI l (prvN l.length i))) (pI xs (gI l i)) (pI xs (gI l (nxtN l.length i))) (pI xs x)))
theorem cutM_iff {xs : List Pt} {l : List Int} {i : Nat} : cutM xs l i = true ↔ (diagM xs (gI l (prvN l.length i)) (gI l (nxtN l.length i)) = true ∨ neighZ xs.length (gI l (prvN l.length i)) (gI l (nxtN l.length i)) = true) ∧
    0 < turn (pI xs (gI l (prvN l.length i))) (pI xs (gI l i)) (pI xs (gI l (nxtN l.length i))) ∧
    ∀ j, j < l.length → gI l j = gI l (prvN l.length i) ∨ gI l j = gI l i ∨ gI l j = gI l (nxtN l.length i) ∨ inTri (pI xs (gI l (prvN l.length i))) (pI xs (gI l i)) (pI xs (gI l (nxtN l.length i))) (pI xs (gI l j)) = false := by
  unfold cutM
  simp only [Bool.and_eq_true, Bool.or_eq_true, decide_eq_true_eq, List.all_eq_true, Bool.not_eq_true']
  constructor
  · rintro ⟨⟨h1, h2⟩, h3⟩
    refine ⟨h1, h2, fun j hj => h3 _ ?_⟩
    rw [show gI l j = l[j] from getD_lt _ hj]
    exact List.getElem_mem _
  · rintro ⟨h1, h2, h3⟩
    refine ⟨⟨h1, h2⟩, fun x hx => ?_⟩
    obtain ⟨j, hj, rfl⟩ := List.getElem_of_mem hx
    have := h3 j hj
    rwa [show gI l j = l[j] from getD_lt _ hj] at this
/-- The first corner that can be cut off. -/
def firstCut (xs : List Pt) (l : List Int) : Option Nat := (List.range l.length).find? (cutM xs l)
theorem firstCut_some {xs : List Pt} {l : List Int} {i : Nat} (hi : i < l.length) (h : cutM xs l i = true) (hb : ∀ j, j < i → cutM xs l j = false) : firstCut xs l = some i := by
  unfold firstCut
  rw [List.find?_range_eq_some]
  exact ⟨h, List.mem_range.2 hi, fun j hj => by rw [hb j hj]; rfl⟩
theorem firstCut_none {xs : List Pt} {l : List Int} (h : ∀ j, j < l.length → cutM xs l j = false) : firstCut xs l = none := by
  unfold firstCut
  rw [List.find?_eq_none]
  intro j hj
  rw [h j (List.mem_range.1 hj)]
  decide
theorem firstCut_spec {xs : List Pt} {l : List Int} {i : Nat} (h : firstCut xs l = some i) : i < l.length ∧ cutM xs l i = true := by
  unfold firstCut at h
  rw [List.find?_range_eq_some] at h
  exact ⟨List.mem_range.1 h.2.1, h.1⟩
/-- Three numbers in order. -/
def triS (a b c : Int) : Tri := (min (min a b) c, a + b + c - min (min a b) c - max (max a b) c, max (max a b) c)
def triAt (l : List Int) (i : Nat) : Tri := triS (gI l (prvN l.length i)) (gI l i) (gI l (nxtN l.length i))
def triRun (xs : List Pt) : Nat → List Int → List Tri → List Tri
  | 0, l, out => out ++ [triS (gI l 0) (gI l 1) (gI l 2)]
  | f + 1, l, out => match firstCut xs l with
    | none => []
    | some i => triRun xs f (l.eraseIdx i) (out ++ [triAt l i])
def allC (n : Nat) : List Int := (List.range n).map fun k : Nat => (k : Int)
def trisM (xs : List Pt) : List Tri := if roomOk xs then triRun xs (xs.length - 3) (allC xs.length) [] else []
theorem allC_len (n : Nat) : (allC n).length = n := by simp [allC]
theorem allC_succ (n : Nat) : allC (n + 1) = allC n ++ [(n : Int)] := by unfold allC; rw [List.range_succ, List.map_append]; rfl
theorem tris_bad {xs : List Pt} (h : roomOk xs = false) : trisM xs = [] := by unfold trisM; rw [h]; rfl
theorem triRun_len {xs : List Pt} : ∀ (f : Nat) (l : List Int) (out : List Tri), (triRun xs f l out).length ≤ out.length + f + 1
  | 0, l, out => by simp [triRun]
  | f + 1, l, out => by
    unfold triRun
    split
    · simp
    · have := triRun_len (xs := xs) f (l.eraseIdx ‹Nat›) (out ++ [triAt l ‹Nat›])
      simp only [List.length_append, List.length_cons, List.length_nil] at this
      omega
theorem tris_len (xs : List Pt) : (trisM xs).length ≤ xs.length + 1 := by
  unfold trisM
  split
  · have := triRun_len (xs := xs) (xs.length - 3) (allC xs.length) []
    simp only [List.length_nil] at this
    omega
  · simp
/-- What is left on the way: corners in their order, at least three. -/
structure Left (n : Nat) (l : List Int) : Prop where
  len : 3 ≤ l.length
  le : l.length ≤ n
  inc : l.Pairwise (· < ·)
  ge : ∀ x ∈ l, 0 ≤ x
  lt : ∀ x ∈ l, x < n
theorem left_all {n : Nat} (h : 3 ≤ n) : Left n (allC n) := by
  refine ⟨by rw [allC_len]; exact h, by rw [allC_len]; exact Nat.le_refl _, ?_, ?_, ?_⟩
  · unfold allC
    rw [List.pairwise_map]
    exact List.pairwise_lt_range.imp fun h => by omega
  all_goals (intro x hx; unfold allC at hx; obtain ⟨k, hk, rfl⟩ := List.mem_map.1 hx; have := List.mem_range.1 hk; omega)
theorem Left.erase {n : Nat} {l : List Int} (h : Left n l) (h4 : 3 < l.length) {i : Nat} (hi : i < l.length) : Left n (l.eraseIdx i) := by
  have hl := List.length_eraseIdx_of_lt hi
  refine ⟨by omega, by have := h.le; omega, h.inc.sublist (List.eraseIdx_sublist _ _), fun x hx => h.ge x ((List.eraseIdx_sublist _ _).mem hx), fun x hx => h.lt x ((List.eraseIdx_sublist _ _).mem hx)⟩
theorem gI_mem {l : List Int} {k : Nat} (h : k < l.length) : gI l k ∈ l := by rw [show gI l k = l[k] from getD_lt _ h]; exact List.getElem_mem _
theorem Left.at {n : Nat} {l : List Int} (h : Left n l) {k : Nat} (hk : k < l.length) : 0 ≤ gI l k ∧ gI l k < n := ⟨h.ge _ (gI_mem hk), h.lt _ (gI_mem hk)⟩
theorem Left.mono {n : Nat} {l : List Int} (h : Left n l) {i j : Nat} (hij : i < j) (hj : j < l.length) : gI l i < gI l j := by
  rw [show gI l i = l[i] from getD_lt _ (by omega), show gI l j = l[j] from getD_lt _ hj]
  exact List.pairwise_iff_getElem.1 h.inc i j (by omega) hj hij
theorem Left.inj {n : Nat} {l : List Int} (h : Left n l) {i j : Nat} (hi : i < l.length) (hj : j < l.length) (e : gI l i = gI l j) : i = j := by
  rcases Nat.lt_trichotomy i j with h1 | h1 | h1
  · have := h.mono h1 hj; omega
  · exact h1
  · have := h.mono h1 hi; omega
theorem prv_lt {n i : Nat} (h : 0 < n) : prvN n i < n := Nat.mod_lt _ h
theorem nxt_lt {n i : Nat} (h : 0 < n) : nxtN n i < n := Nat.mod_lt _ h
theorem prv_eq {n i : Nat} (hi : i < n) : (i = 0 ∧ prvN n i = n - 1) ∨ (0 < i ∧ prvN n i = i - 1) := by
  unfold prvN
  rcases Nat.eq_zero_or_pos i with h | h
  · subst h; exact .inl ⟨rfl, by rw [Nat.zero_add, Nat.mod_eq_of_lt (by omega)]⟩
  · exact .inr ⟨h, by rw [show i + n - 1 = (i - 1) + n by omega, Nat.add_mod_right, Nat.mod_eq_of_lt (by omega)]⟩
theorem nxt_eq {n i : Nat} (hi : i < n) : (i + 1 = n ∧ nxtN n i = 0) ∨ (i + 1 < n ∧ nxtN n i = i + 1) := by
  unfold nxtN
  rcases Nat.lt_or_ge (i + 1) n with h | h
  · exact .inr ⟨h, Nat.mod_eq_of_lt h⟩
  · have : i + 1 = n := by omega
    exact .inl ⟨this, by rw [this, Nat.mod_self]⟩
/-- The run goes on from every state on the way. -/
structure TriSt (xs : List Pt) (s : List Int × List Tri) : Prop where
  left : Left xs.length s.1
  run : triRun xs (s.1.length - 3) s.1 s.2 = trisM xs
  len : s.2.length + s.1.length = xs.length
theorem triSt_start {xs : List Pt} (hr : roomOk xs = true) (h3 : 3 ≤ xs.length) : TriSt xs (allC xs.length, []) :=
  ⟨left_all h3, by show triRun xs ((allC xs.length).length - 3) _ _ = _; rw [allC_len]; unfold trisM; rw [if_pos hr], by simp [allC_len]⟩
theorem TriSt.step {xs : List Pt} {s : List Int × List Tri} (h : TriSt xs s) (h4 : 3 < s.1.length) {i : Nat} (hc : firstCut xs s.1 = some i) : TriSt xs (s.1.eraseIdx i, s.2 ++ [triAt s.1 i]) := by
  have hi := (firstCut_spec hc).1
  have hl := List.length_eraseIdx_of_lt hi
  refine ⟨h.left.erase h4 hi, ?_, ?_⟩
  · have hr := h.run
    show triRun xs ((s.1.eraseIdx i).length - 3) _ _ = _
    rw [hl, show s.1.length - 1 - 3 = s.1.length - 4 by omega]
    rw [show s.1.length - 3 = (s.1.length - 4) + 1 by omega] at hr
    unfold triRun at hr
    rw [hc] at hr
    exact hr
  · have := h.len
    show (s.2 ++ [triAt s.1 i]).length + (s.1.eraseIdx i).length = _
    rw [List.length_append, hl]
    simp only [List.length_cons, List.length_nil]
    omega
theorem TriSt.none {xs : List Pt} {s : List Int × List Tri} (h : TriSt xs s) (h4 : 3 < s.1.length) (hc : firstCut xs s.1 = none) : trisM xs = [] := by
  have hr := h.run
  rw [show s.1.length - 3 = (s.1.length - 4) + 1 by omega] at hr
  unfold triRun at hr
  rw [hc] at hr
  exact hr.symm
theorem TriSt.last {xs : List Pt} {s : List Int × List Tri} (h : TriSt xs s) (h3 : s.1.length ≤ 3) : trisM xs = s.2 ++ [triS (gI s.1 0) (gI s.1 1) (gI s.1 2)] := by
  have hr := h.run
  rw [show s.1.length - 3 = 0 by omega] at hr
  exact hr.symm
/-! ### How the list of triangles comes about -/
inductive Cutd : List Int → List Tri → Prop
  | last {l : List Int} (h : l.length = 3) : Cutd l [triS (gI l 0) (gI l 1) (gI l 2)]
  | step {l : List Int} {ts : List Tri} {i : Nat} (h : 3 < l.length) (hi : i < l.length) (hr : Cutd (l.eraseIdx i) ts) : Cutd l (triAt l i :: ts)
theorem run_cutd {xs : List Pt} : ∀ (f : Nat) (l : List Int) (out : List Tri), l.length = f + 3 → triRun xs f l out = [] ∨ ∃ ts, triRun xs f l out = out ++ ts ∧ Cutd l ts
  | 0, l, out, h => .inr ⟨_, rfl, .last (by omega)⟩
  | f + 1, l, out, h => by
    unfold triRun
    split
    · exact .inl rfl
    · rename_i i hc
      have hi := (firstCut_spec hc).1
      have hl := List.length_eraseIdx_of_lt hi
      rcases run_cutd (xs := xs) f (l.eraseIdx i) (out ++ [triAt l i]) (by omega) with e | ⟨ts, e, hd⟩
      · exact .inl e
      · exact .inr ⟨triAt l i :: ts, by rw [e]; simp, .step (by omega) hi hd⟩
theorem tris_cutd (xs : List Pt) : trisM xs = [] ∨ (roomOk xs = true ∧ Cutd (allC xs.length) (trisM xs)) := by
  unfold trisM
  split
  · rename_i hr
    have hl := room_len hr
    rcases run_cutd (xs := xs) (xs.length - 3) (allC xs.length) [] (by rw [allC_len]; omega) with e | ⟨ts, e, hd⟩
    · exact .inl e
    · rw [e, List.nil_append]; exact .inr ⟨hr, hd⟩
  · exact .inl rfl
theorem Cutd.ne {l : List Int} {ts : List Tri} (h : Cutd l ts) : ts ≠ [] := by cases h <;> simp
theorem triS_six (a b c : Int) : triS a b c = (a, b, c) ∨ triS a b c = (a, c, b) ∨ triS a b c = (b, a, c) ∨ triS a b c = (b, c, a) ∨ triS a b c = (c, a, b) ∨ triS a b c = (c, b, a) := by
  unfold triS
  simp only [Prod.mk.injEq]
  omega
theorem triS_inc {a b c : Int} (h1 : a ≠ b) (h2 : b ≠ c) (h3 : a ≠ c) : (triS a b c).1 < (triS a b c).2.1 ∧ (triS a b c).2.1 < (triS a b c).2.2 := by
  unfold triS
  simp only
  omega
theorem triS_sorted {a b c : Int} (h1 : a < b) (h2 : b < c) : triS a b c = (a, b, c) := by
  unfold triS
  simp only [Prod.mk.injEq]
  omega
/-- The corners of a triangle are corners of the room. -/
def TriIn (n : Nat) (t : Tri) : Prop := 0 ≤ t.1 ∧ t.1 < t.2.1 ∧ t.2.1 < t.2.2 ∧ t.2.2 < n
theorem triIn_of {n : Nat} {a b c : Int} (h1 : a ≠ b) (h2 : b ≠ c) (h3 : a ≠ c) (ha : 0 ≤ a ∧ a < n) (hb : 0 ≤ b ∧ b < n) (hc : 0 ≤ c ∧ c < n) : TriIn n (triS a b c) := by
  have hi := triS_inc h1 h2 h3
  unfold TriIn
  rcases triS_six a b c with e | e | e | e | e | e <;> rw [e] at hi ⊢ <;> simp only at hi ⊢ <;> omega
theorem prv_ne {n i : Nat} (h3 : 3 ≤ n) (hi : i < n) : prvN n i ≠ i ∧ nxtN n i ≠ i ∧ prvN n i ≠ nxtN n i := by
  rcases prv_eq hi with ⟨h1, h2⟩ | ⟨h1, h2⟩ <;> rcases nxt_eq hi with ⟨h4, h5⟩ | ⟨h4, h5⟩ <;> omega
theorem Left.triAt {n : Nat} {l : List Int} (h : Left n l) {i : Nat} (hi : i < l.length) : TriIn n (triAt l i) := by
  have h3 := h.len
  obtain ⟨e1, e2, e3⟩ := prv_ne h3 hi
  have hp := prv_lt (n := l.length) (i := i) (by omega)
  have hq := nxt_lt (n := l.length) (i := i) (by omega)
  exact triIn_of (fun e => e1 (h.inj hp hi e)) (fun e => e2 (h.inj hq hi e.symm)) (fun e => e3 (h.inj hp hq e)) (h.at hp) (h.at hi) (h.at hq)
theorem Cutd.triIn {n : Nat} {l : List Int} {ts : List Tri} (h : Cutd l ts) (hl : Left n l) : ∀ t ∈ ts, TriIn n t := by
  induction h with
  | last h3 =>
    rename_i l
    intro t ht
    rw [List.mem_singleton.1 ht]
    have h01 := hl.mono (i := 0) (j := 1) (by omega) (by omega)
    have h12 := hl.mono (i := 1) (j := 2) (by omega) (by omega)
    exact triIn_of (by omega) (by omega) (by omega) (hl.at (by omega)) (hl.at (by omega)) (hl.at (by omega))
  | step h4 hi hr ih =>
    intro t ht
    rcases List.mem_cons.1 ht with rfl | ht
    · exact hl.triAt hi
    · exact ih (hl.erase h4 hi) t ht
theorem tris_in {xs : List Pt} {t : Tri} (h : t ∈ trisM xs) : TriIn xs.length t := by
  rcases tris_cutd xs with e | ⟨hr, hd⟩
  · rw [e] at h; cases h
  · exact hd.triIn (left_all (room_len hr).1) t h
theorem Cutd.drop {n : Nat} {l : List Int} {ts : List Tri} (h : Cutd l ts) (hl : Left n l) : ∀ j, j < ts.length → ∃ l', Left n l' ∧ Cutd l' (ts.drop j) := by
  induction h with
  | last h3 =>
    intro j hj
    have : j = 0 := by simpa using hj
    subst this
    exact ⟨_, hl, .last h3⟩
  | step h4 hi hr ih =>
    intro j hj
    cases j with
    | zero => exact ⟨_, hl, .step h4 hi hr⟩
    | succ j => exact ih (hl.erase h4 hi) j (by simpa using hj)
/-! ### Colors -/
abbrev cI (out : List Int) (x : Int) : Int := out.getD x.toNat 0
def colBase (n : Nat) (t : Tri) : List Int := (((List.replicate n (-1 : Int)).set t.1.toNat 0).set t.2.1.toNat 1).set t.2.2.toNat 2
def colStep (out : List Int) (t : Tri) : List Int :=
  if cI out t.1 < 0 then out.set t.1.toNat (3 - cI out t.2.1 - cI out t.2.2)
  else if cI out t.2.1 < 0 then out.set t.2.1.toNat (3 - cI out t.2.2 - cI out t.1)
  else if cI out t.2.2 < 0 then out.set t.2.2.toNat (3 - cI out t.1 - cI out t.2.1)
  else out
def colF (n : Nat) : List Tri → List Int
  | [] => []
  | [t] => colBase n t
  | t :: ts => colStep (colF n ts) t
theorem colF_cons {n : Nat} {t : Tri} {ts : List Tri} (h : ts ≠ []) : colF n (t :: ts) = colStep (colF n ts) t := by
  cases ts with
  | nil => exact absurd rfl h
  | cons a r => rfl
theorem colStep_len (out : List Int) (t : Tri) : (colStep out t).length = out.length := by
  unfold colStep
  split
  · simp
  · split
    · simp
    · split <;> simp
theorem colF_len {n : Nat} : ∀ {ts : List Tri}, ts ≠ [] → (colF n ts).length = n
  | [], h => absurd rfl h
  | [t], _ => by simp [colF, colBase]
  | t :: s :: ts, _ => by rw [colF_cons (by simp), colStep_len]; exact colF_len (by simp)
theorem cI_set {out : List Int} {x y : Int} {v : Int} (hx : 0 ≤ x ∧ x < out.length) (hy : 0 ≤ y) : cI (out.set x.toNat v) y = if y = x then v else cI out y := by
  unfold cI
  rw [getD_set (by omega)]
  by_cases h : y = x
  · subst h; rw [if_pos rfl, if_pos rfl]
  · rw [if_neg h, if_neg (by omega)]
/-- The colors of the corners that are left: right where left, none elsewhere; those beside each other differ. -/
structure Col (n : Nat) (l : List Int) (out : List Int) : Prop where
  len : out.length = n
  yes : ∀ x ∈ l, 0 ≤ cI out x ∧ cI out x ≤ 2
  no : ∀ x : Int, 0 ≤ x → x < n → x ∉ l → cI out x = -1
  ne : ∀ k, k < l.length → cI out (gI l k) ≠ cI out (gI l (nxtN l.length k))
theorem gI_erase {l : List Int} {i j : Nat} (hj : j + 1 < l.length) : gI (l.eraseIdx i) j = if j < i then gI l j else gI l (j + 1) := by
  unfold gI
  rw [List.getD_eq_getElem?_getD, List.getElem?_eraseIdx]
  split <;> rw [← List.getD_eq_getElem?_getD]
theorem mem_gI {l : List Int} {x : Int} : x ∈ l ↔ ∃ k, k < l.length ∧ gI l k = x := by
  rw [List.mem_iff_getElem]
  constructor
  · rintro ⟨k, h, e⟩; exact ⟨k, h, by rw [show gI l k = l[k] from getD_lt _ h, e]⟩
  · rintro ⟨k, h, e⟩; exact ⟨k, h, by rw [← e, show gI l k = l[k] from getD_lt _ h]⟩
theorem Left.mem_erase {n : Nat} {l : List Int} (h : Left n l) {i : Nat} (hi : i < l.length) {x : Int} : x ∈ l.eraseIdx i ↔ x ∈ l ∧ x ≠ gI l i := by
  have hl := List.length_eraseIdx_of_lt hi
  rw [mem_gI, mem_gI, hl]
  constructor
  · rintro ⟨k, hk, e⟩
    rw [gI_erase (by omega)] at e
    split at e
    · exact ⟨⟨k, by omega, e⟩, fun e' => by have := h.inj (i := k) (j := i) (by omega) hi (by rw [e, e']); omega⟩
    · exact ⟨⟨k + 1, by omega, e⟩, fun e' => by have := h.inj (i := k + 1) (j := i) (by omega) hi (by rw [e, e']); omega⟩
  · rintro ⟨⟨k, hk, e⟩, hne⟩
    have hki : k ≠ i := fun e' => hne (by rw [← e, e'])
    rcases Nat.lt_or_ge k i with h1 | h1
    · exact ⟨k, by omega, by rw [gI_erase (by omega), if_pos h1, e]⟩
    · exact ⟨k - 1, by omega, by rw [gI_erase (by omega), if_neg (by omega), show k - 1 + 1 = k by omega, e]⟩
theorem colStep_cut {out : List Int} {p c q : Int} (hc : cI out c < 0) (hp : 0 ≤ cI out p) (hq : 0 ≤ cI out q) : colStep out (triS p c q) = out.set c.toNat (3 - cI out p - cI out q) := by
  unfold colStep
  rcases triS_six p c q with e | e | e | e | e | e <;> rw [e] <;> simp only
  · rw [if_neg (by omega), if_pos hc]; congr 1; omega
  · rw [if_neg (by omega), if_neg (by omega), if_pos hc]
  · rw [if_pos hc]
  · rw [if_pos hc]; congr 1; omega
  · rw [if_neg (by omega), if_neg (by omega), if_pos hc]; congr 1; omega
  · rw [if_neg (by omega), if_pos hc]
theorem Col.step {n : Nat} {l : List Int} {i : Nat} {out : List Int} (hl : Left n l) (h4 : 3 < l.length) (hi : i < l.length) (h : Col n (l.eraseIdx i) out) :
    (cI out (gI l i) = -1 ∧ (0 ≤ cI out (gI l (prvN l.length i)) ∧ cI out (gI l (prvN l.length i)) ≤ 2) ∧ (0 ≤ cI out (gI l (nxtN l.length i)) ∧ cI out (gI l (nxtN l.length i)) ≤ 2)) ∧ Col n l (colStep out (triAt l i)) := by
  have hlen := List.length_eraseIdx_of_lt hi
  obtain ⟨e1, e2, e3⟩ := prv_ne (n := l.length) (by omega) hi
  have hp := prv_lt (n := l.length) (i := i) (by omega)
  have hq := nxt_lt (n := l.length) (i := i) (by omega)
  have hpm : gI l (prvN l.length i) ∈ l.eraseIdx i := (hl.mem_erase hi).2 ⟨gI_mem hp, fun e => e1 (hl.inj hp hi e)⟩
  have hqm : gI l (nxtN l.length i) ∈ l.eraseIdx i := (hl.mem_erase hi).2 ⟨gI_mem hq, fun e => e2 (hl.inj hq hi e)⟩
  have hcn : gI l i ∉ l.eraseIdx i := fun hm => ((hl.mem_erase hi).1 hm).2 rfl
  have hc := h.no _ (hl.at hi).1 (hl.at hi).2 hcn
  have hcp := h.yes _ hpm
  have hcq := h.yes _ hqm
  -- the two beside the one that is cut stand beside each other in what is left then
  have hpq : cI out (gI l (prvN l.length i)) ≠ cI out (gI l (nxtN l.length i)) := by
    have key : ∃ k, k < (l.eraseIdx i).length ∧ gI (l.eraseIdx i) k = gI l (prvN l.length i) ∧ gI (l.eraseIdx i) (nxtN (l.eraseIdx i).length k) = gI l (nxtN l.length i) := by
      rcases prv_eq hi with ⟨h1, h2⟩ | ⟨h1, h2⟩
      · refine ⟨l.length - 2, by omega, by rw [gI_erase (by omega), if_neg (by omega), h2]; congr 1; omega, ?_⟩
        rcases nxt_eq (n := (l.eraseIdx i).length) (i := l.length - 2) (by omega) with ⟨g1, g2⟩ | ⟨g1, g2⟩
        · rcases nxt_eq hi with ⟨g3, g4⟩ | ⟨g3, g4⟩
          · omega
          · rw [g2, g4, gI_erase (by omega), if_neg (by omega)]; congr 1; omega
        · omega
      · refine ⟨i - 1, by omega, by rw [gI_erase (by omega), if_pos (by omega), h2], ?_⟩
        rcases nxt_eq hi with ⟨g3, g4⟩ | ⟨g3, g4⟩
        · rcases nxt_eq (n := (l.eraseIdx i).length) (i := i - 1) (by omega) with ⟨g1, g2⟩ | ⟨g1, g2⟩
          · rw [g2, g4, gI_erase (by omega), if_pos (by omega)]
          · omega
        · rcases nxt_eq (n := (l.eraseIdx i).length) (i := i - 1) (by omega) with ⟨g1, g2⟩ | ⟨g1, g2⟩
          · omega
          · rw [g2, g4, gI_erase (by omega), if_neg (by omega)]; congr 1; omega
    obtain ⟨k, k1, k2, k3⟩ := key
    have := h.ne k k1
    rw [k2, k3] at this
    exact this
  refine ⟨⟨hc, hcp, hcq⟩, ?_⟩
  have hs : colStep out (triAt l i) = out.set (gI l i).toNat (3 - cI out (gI l (prvN l.length i)) - cI out (gI l (nxtN l.length i))) := colStep_cut (by omega) hcp.1 hcq.1
  have hcx : 0 ≤ gI l i ∧ gI l i < out.length := by rw [h.len]; exact hl.at hi
  have hget : ∀ y, 0 ≤ y → cI (colStep out (triAt l i)) y = if y = gI l i then 3 - cI out (gI l (prvN l.length i)) - cI out (gI l (nxtN l.length i)) else cI out y := fun y hy => by rw [hs]; exact cI_set hcx hy
  refine ⟨by rw [colStep_len, h.len], fun x hx => ?_, fun x h0 h1 hx => ?_, fun k hk => ?_⟩
  · rw [hget x (hl.ge x hx)]
    split
    · omega
    · exact h.yes x ((hl.mem_erase hi).2 ⟨hx, by assumption⟩)
  · rw [hget x h0, if_neg (fun e => hx (by rw [e]; exact gI_mem hi))]
    exact h.no x h0 h1 (fun hm => hx ((hl.mem_erase hi).1 hm).1)
  · have hkn := nxt_lt (n := l.length) (i := k) (by omega)
    rw [hget _ (hl.at hk).1, hget _ (hl.at hkn).1]
    by_cases hki : k = i
    · subst hki
      rw [if_pos rfl, if_neg (fun e => e2 (hl.inj hq hi e))]
      omega
    · rw [if_neg (fun e => hki (hl.inj hk hi e))]
      by_cases hni : nxtN l.length k = i
      · rw [if_pos (by rw [hni])]
        have hkp : k = prvN l.length i := by
          rcases nxt_eq hk with ⟨g1, g2⟩ | ⟨g1, g2⟩ <;> rcases prv_eq hi with ⟨g3, g4⟩ | ⟨g3, g4⟩ <;> omega
        rw [hkp]
        omega
      · rw [if_neg (fun e => hni (hl.inj hkn hi e))]
        have key : ∃ j, j < (l.eraseIdx i).length ∧ gI (l.eraseIdx i) j = gI l k ∧ gI (l.eraseIdx i) (nxtN (l.eraseIdx i).length j) = gI l (nxtN l.length k) := by
          rcases Nat.lt_or_ge k i with h1 | h1
          · refine ⟨k, by omega, by rw [gI_erase (by omega), if_pos h1], ?_⟩
            rcases nxt_eq hk with ⟨g1, g2⟩ | ⟨g1, g2⟩
            · omega
            · rcases nxt_eq (n := (l.eraseIdx i).length) (i := k) (by omega) with ⟨g3, g4⟩ | ⟨g3, g4⟩
              · omega
              · rw [g2, g4, gI_erase (by omega), if_pos (by omega)]
          · refine ⟨k - 1, by omega, by rw [gI_erase (by omega), if_neg (by omega), show k - 1 + 1 = k by omega], ?_⟩
            rcases nxt_eq hk with ⟨g1, g2⟩ | ⟨g1, g2⟩
            · rcases nxt_eq (n := (l.eraseIdx i).length) (i := k - 1) (by omega) with ⟨g3, g4⟩ | ⟨g3, g4⟩
              · rw [g2, g4, gI_erase (by omega), if_pos (by omega)]
              · omega
            · rcases nxt_eq (n := (l.eraseIdx i).length) (i := k - 1) (by omega) with ⟨g3, g4⟩ | ⟨g3, g4⟩
              · omega
              · rw [g2, g4, gI_erase (by omega), if_neg (by omega)]; congr 1; omega
        obtain ⟨j, j1, j2, j3⟩ := key
        have := h.ne j j1
        rw [j2, j3] at this
        exact this
theorem Cutd.col {n : Nat} {l : List Int} {ts : List Tri} (h : Cutd l ts) (hl : Left n l) : Col n l (colF n ts) := by
  induction h with
  | last h3 =>
    rename_i l
    have h01 := hl.mono (i := 0) (j := 1) (by omega) (by omega)
    have h12 := hl.mono (i := 1) (j := 2) (by omega) (by omega)
    have a0 := hl.at (k := 0) (by omega)
    have a1 := hl.at (k := 1) (by omega)
    have a2 := hl.at (k := 2) (by omega)
    have hget : ∀ y : Int, 0 ≤ y → y < n → cI (colF n [triS (gI l 0) (gI l 1) (gI l 2)]) y = if y = gI l 2 then 2 else if y = gI l 1 then 1 else if y = gI l 0 then 0 else -1 := fun y hy hyn => by
      show cI (colBase n _) y = _
      rw [triS_sorted h01 h12]
      unfold colBase
      simp only
      rw [cI_set (by simp only [List.length_set, List.length_replicate]; omega) hy, cI_set (by simp only [List.length_set, List.length_replicate]; omega) hy, cI_set (by simp only [List.length_replicate]; omega) hy]
      have : cI (List.replicate n (-1 : Int)) y = -1 := by
        unfold cI
        rw [getD_lt _ (by simp; omega), List.getElem_replicate]
      rw [this]
    refine ⟨colF_len (by simp), fun x hx => ?_, fun x h0 h1 hx => ?_, fun k hk => ?_⟩
    · rw [hget x (hl.ge x hx) (hl.lt x hx)]
      obtain ⟨k, hk, rfl⟩ := mem_gI.1 hx
      have : k = 0 ∨ k = 1 ∨ k = 2 := by omega
      rcases this with rfl | rfl | rfl
      · rw [if_neg (by omega), if_neg (by omega), if_pos rfl]; omega
      · rw [if_neg (by omega), if_pos rfl]; omega
      · rw [if_pos rfl]; omega
    · rw [hget x h0 h1, if_neg (fun e => hx (by rw [e]; exact gI_mem (by omega))), if_neg (fun e => hx (by rw [e]; exact gI_mem (by omega))), if_neg (fun e => hx (by rw [e]; exact gI_mem (by omega)))]
    · have : k = 0 ∨ k = 1 ∨ k = 2 := by omega
      rw [h3]
      rcases this with rfl | rfl | rfl
      · show cI _ (gI l 0) ≠ cI _ (gI l 1)
        rw [hget _ a0.1 a0.2, hget _ a1.1 a1.2, if_neg (by omega), if_neg (by omega), if_pos rfl, if_neg (by omega), if_pos rfl]
        decide
      · show cI _ (gI l 1) ≠ cI _ (gI l 2)
        rw [hget _ a1.1 a1.2, hget _ a2.1 a2.2, if_neg (by omega), if_pos rfl, if_pos rfl]
        decide
      · show cI _ (gI l 2) ≠ cI _ (gI l 0)
        rw [hget _ a2.1 a2.2, hget _ a0.1 a0.2, if_pos rfl, if_neg (by omega), if_neg (by omega), if_pos rfl]
        decide
  | step h4 hi hr ih =>
    rw [colF_cons hr.ne]
    exact (Col.step hl h4 hi (ih (hl.erase h4 hi))).2
def colorsM (xs : List Pt) : List Int := colF xs.length (trisM xs)
theorem colors_len {xs : List Pt} (h : trisM xs ≠ []) : (colorsM xs).length = xs.length := colF_len h
/-- All corners have one of three colors in the end. -/
theorem colors_bd {xs : List Pt} {x : Int} (hx : x ∈ colorsM xs) : 0 ≤ x ∧ x ≤ 2 := by
  rcases tris_cutd xs with e | ⟨hr, hd⟩
  · unfold colorsM at hx; rw [e] at hx; cases hx
  · have hL := left_all (room_len hr).1
    have hc := hd.col hL
    obtain ⟨k, hk, rfl⟩ := mem_gI.1 hx
    have hkn : k < xs.length := by rw [← colors_len hd.ne]; exact hk
    have hm : (k : Int) ∈ allC xs.length := by unfold allC; exact List.mem_map.2 ⟨k, List.mem_range.2 hkn, rfl⟩
    have := hc.yes _ hm
    simpa [cI, colorsM] using this
/-- One corner of each further triangle has no color yet. -/
theorem colors_step {xs : List Pt} {j : Nat} (hj : j + 1 < (trisM xs).length) : ∃ p c q, (trisM xs).getD j (0, 0, 0) = triS p c q ∧ cI (colF xs.length ((trisM xs).drop (j + 1))) c = -1 ∧
    (0 ≤ cI (colF xs.length ((trisM xs).drop (j + 1))) p ∧ cI (colF xs.length ((trisM xs).drop (j + 1))) p ≤ 2) ∧ (0 ≤ cI (colF xs.length ((trisM xs).drop (j + 1))) q ∧ cI (colF xs.length ((trisM xs).drop (j + 1))) q ≤ 2) := by
  rcases tris_cutd xs with e | ⟨hr, hd⟩
  · rw [e] at hj; simp at hj
  · have hL := left_all (room_len hr).1
    obtain ⟨l, hl, hc⟩ := hd.drop hL j (by omega)
    have he : (trisM xs).drop j = (trisM xs).getD j (0, 0, 0) :: (trisM xs).drop (j + 1) := by
      rw [List.drop_eq_getElem_cons (by omega : j < (trisM xs).length), getD_lt _ (by omega)]
    rw [he] at hc
    generalize htl : (trisM xs).drop (j + 1) = ts at hc ⊢
    have hne : ts ≠ [] := by
      rw [← htl]
      intro h0
      have := congrArg List.length h0
      simp at this
      omega
    generalize (trisM xs).getD j (0, 0, 0) = t at hc ⊢
    cases hc with
    | last h3 => exact absurd rfl hne
    | step h4 hi hcr =>
      rename_i i
      obtain ⟨⟨h1, h2, h3⟩, -⟩ := Col.step hl h4 hi (hcr.col (hl.erase h4 hi))
      exact ⟨_, _, _, rfl, h1, h2, h3⟩
end Go.Proofs.Ytfjmlaciogmndaa
