/- Points, walls and rooms as plain mathematics. -/
import Derived.Test.YtfjmlaciogmndaaVm
namespace Go.Proofs.Ytfjmlaciogmndaa
open Go.RowKit

abbrev Pt := Int × Int
def btw (x lo hi : Int) : Bool := decide (lo ≤ x) && decide (x ≤ hi)
def ptOk (p : Pt) : Bool := btw p.1 (-40) 40 && btw p.2 (-40) 40
def turn (a b c : Pt) : Int := IntKind.i64.wrap ((b.1 - a.1) * (c.2 - a.2) - (b.2 - a.2) * (c.1 - a.1))
def onS (p a b : Pt) : Bool := decide (turn a b p = 0) && (btw p.1 (min a.1 b.1) (max a.1 b.1) && btw p.2 (min a.2 b.2) (max a.2 b.2))
def sgn (n : Int) : Int := if 0 < n then 1 else if n < 0 then -1 else 0
def crs (a b c d : Pt) : Bool := decide (sgn (turn a b c) * sgn (turn a b d) < 0) && decide (sgn (turn c d a) * sgn (turn c d b) < 0)
def wallOk (w : Pt × Pt) : Bool := ptOk w.1 && (ptOk w.2 && !decide (w.1 = w.2))
def meet (v w : Pt × Pt) : Bool := wallOk v && (wallOk w && (crs w.1 w.2 v.1 v.2 || (onS v.1 w.1 w.2 || (onS v.2 w.1 w.2 || (onS w.1 v.1 v.2 || onS w.2 v.1 v.2)))))
theorem ptEq (a b c d : Int) : (a == c && b == d) = decide ((a, b) = (c, d)) := by
  rw [Bool.eq_iff_iff]; simp
theorem sgn_small (n : Int) : -1 ≤ sgn n ∧ sgn n ≤ 1 := by unfold sgn; split <;> (try split) <;> omega
theorem sgn_cases (n : Int) : (0 < n ∧ sgn n = 1) ∨ (n < 0 ∧ sgn n = -1) ∨ (n = 0 ∧ sgn n = 0) := by unfold sgn; split <;> (try split) <;> omega
theorem sgn_mul (m n : Int) : -1 ≤ sgn m * sgn n ∧ sgn m * sgn n ≤ 1 := by
  rcases sgn_cases m with ⟨-, h⟩ | ⟨-, h⟩ | ⟨-, h⟩ <;> rcases sgn_cases n with ⟨-, h'⟩ | ⟨-, h'⟩ | ⟨-, h'⟩ <;> rw [h, h'] <;> decide
theorem sgn_w (m n : Int) : IntKind.i64.wrap (sgn m * sgn n) = sgn m * sgn n := by have := sgn_mul m n; exact W_in (by omega) (by omega)
theorem crs_comm (a b c d : Pt) : crs a b c d = crs c d a b := by unfold crs; rw [Bool.and_comm]
theorem btw_iff {x lo hi : Int} : btw x lo hi = true ↔ lo ≤ x ∧ x ≤ hi := by simp [btw]
theorem ptOk_iff {p : Pt} : ptOk p = true ↔ -40 ≤ p.1 ∧ p.1 ≤ 40 ∧ -40 ≤ p.2 ∧ p.2 ≤ 40 := by simp [ptOk, btw]; omega
theorem getD_lt {α : Type} {xs : List α} {k : Nat} (d : α) (h : k < xs.length) : xs.getD k d = xs[k] := by simp [List.getD, h]
theorem all_succ {α : Type} {f : α → Bool} {xs : List α} {k : Nat} (d : α) (h : k < xs.length) : (xs.take (k + 1)).all f = ((xs.take k).all f && f (xs.getD k d)) := by
  rw [List.take_succ_eq_append_getElem h, List.all_append, getD_lt _ h]; simp
theorem all_no {α : Type} {f : α → Bool} {xs : List α} {k : Nat} (d : α) (h : k < xs.length) (hf : f (xs.getD k d) = false) : xs.all f = false := by
  rw [List.all_eq_false]
  exact ⟨xs[k], List.getElem_mem h, by rw [getD_lt _ h] at hf; simp [hf]⟩
theorem take_all {α : Type} {f : α → Bool} {xs : List α} {k : Nat} (h : xs.length ≤ k) (hf : (xs.take k).all f = true) : xs.all f = true := by rwa [List.take_of_length_le h] at hf
theorem meet_spec (v w : Pt × Pt) : meet v w = (wallOk v && (wallOk w && ((wallOk v && (wallOk w && crs w.1 w.2 v.1 v.2)) || ((wallOk v && (ptOk w.1 && onS w.1 v.1 v.2)) || ((wallOk v && (ptOk w.2 && onS w.2 v.1 v.2)) || ((wallOk w && (ptOk v.1 && onS v.1 w.1 w.2)) || (wallOk w && (ptOk v.2 && onS v.2 w.1 w.2)))))))) := by
  unfold meet
  cases hv : wallOk v with
  | false => rfl
  | true =>
    cases hw : wallOk w with
    | false => rfl
    | true =>
      simp only [wallOk, Bool.and_eq_true] at hv hw
      simp only [hv.1, hv.2.1, hw.1, hw.2.1, Bool.true_and]
      cases crs w.1 w.2 v.1 v.2 <;> cases onS v.1 w.1 w.2 <;> cases onS v.2 w.1 w.2 <;> cases onS w.1 v.1 v.2 <;> cases onS w.2 v.1 v.2 <;> rfl
abbrev pAt (xs : List Pt) (k : Nat) : Pt := xs.getD k (0, 0)
abbrev pCy (xs : List Pt) (k : Nat) : Pt := xs.getD (k % xs.length) (0, 0)
def wl (xs : List Pt) (k : Nat) : Pt × Pt := (pAt xs k, pCy xs (k + 1))
def walls (xs : List Pt) : List (Pt × Pt) := (List.range xs.length).map (wl xs)
def cr (a b : Pt) : Int := a.1 * b.2 - a.2 * b.1
def dblTo (xs : List Pt) : Nat → Int
  | 0 => 0
  | k + 1 => dblTo xs k + cr (pAt xs k) (pCy xs (k + 1))
def dbl (xs : List Pt) : Int := dblTo xs xs.length
def okAt (xs : List Pt) (k : Nat) : Bool := !decide (turn (pAt xs k) (pCy xs (k + 1)) (pCy xs (k + 2)) = 0) &&
  (List.range xs.length).all fun i => decide (i = k) || (decide ((i + 1) % xs.length = k) || (decide ((k + 1) % xs.length = i) || !meet (wl xs k) (wl xs i)))
def roomOk (xs : List Pt) : Bool := (decide (3 ≤ xs.length) && decide (xs.length ≤ 10)) && (xs.all ptOk && ((List.range xs.length).all (okAt xs) && decide (0 < IntKind.i64.wrap (dbl xs))))
theorem walls_len (xs : List Pt) : (walls xs).length = xs.length := by simp [walls]
theorem walls_get {xs : List Pt} {k : Nat} (h : k < xs.length) (d : Pt × Pt) : (walls xs).getD k d = wl xs k := by simp [walls, List.getD, h]
theorem walls_take {xs : List Pt} {k : Nat} (h : k < xs.length) : (walls xs).take (k + 1) = (walls xs).take k ++ [wl xs k] := by
  rw [List.take_succ_eq_append_getElem (by rw [walls_len]; exact h)]; simp [walls]
theorem mod_nat {k j n : Nat} (h : k + j ≤ 4611686018427387904) : Int.tmod (IntKind.i64.wrap ((k : Int) + (j : Int))) (n : Int) = (((k + j) % n : Nat) : Int) := by
  rw [W_in (by omega) (by omega), ← Int.natCast_add, ← Int.ofNat_tmod]
theorem mod_nat1 {k n : Nat} (h : k + 1 ≤ 4611686018427387904) : Int.tmod (IntKind.i64.wrap ((k : Int) + 1)) (n : Int) = (((k + 1) % n : Nat) : Int) := mod_nat (j := 1) h
theorem mod_nat2 {k n : Nat} (h : k + 2 ≤ 4611686018427387904) : Int.tmod (IntKind.i64.wrap ((k : Int) + 2)) (n : Int) = (((k + 2) % n : Nat) : Int) := mod_nat (j := 2) h
theorem W_cr (s a b c d : Int) : IntKind.i64.wrap (IntKind.i64.wrap s + IntKind.i64.wrap (IntKind.i64.wrap (a * b) - IntKind.i64.wrap (c * d))) = IntKind.i64.wrap (s + (a * b - c * d)) := by
  simp only [W_l1, W_l2, W_l3, W_l4]
theorem W_cr' (s a b c d : Int) : IntKind.i64.wrap (IntKind.i64.wrap (IntKind.i64.wrap s + IntKind.i64.wrap (a * b)) - IntKind.i64.wrap (c * d)) = IntKind.i64.wrap (s + (a * b - c * d)) := by
  simp only [W_l1, W_l2, W_l3, W_l4, Int.add_sub_assoc]
theorem ilo {k j n : Nat} (h : k + j ≤ 4611686018427387904) : 0 ≤ Int.tmod (IntKind.i64.wrap ((k : Int) + (j : Int))) (n : Int) := by rw [mod_nat h]; omega
theorem ihi {k j n : Nat} (h : k + j ≤ 4611686018427387904) (hn : 0 < n) : Int.tmod (IntKind.i64.wrap ((k : Int) + (j : Int))) (n : Int) + 1 ≤ n := by
  rw [mod_nat h]; have := Nat.mod_lt (k + j) hn; omega
theorem ilo1 {k n : Nat} (h : k + 1 ≤ 4611686018427387904) : 0 ≤ Int.tmod (IntKind.i64.wrap ((k : Int) + 1)) (n : Int) := ilo (j := 1) h
theorem ihi1 {k n : Nat} (h : k + 1 ≤ 4611686018427387904) (hn : 0 < n) : Int.tmod (IntKind.i64.wrap ((k : Int) + 1)) (n : Int) + 1 ≤ n := ihi (j := 1) h hn
theorem ilo2 {k n : Nat} (h : k + 2 ≤ 4611686018427387904) : 0 ≤ Int.tmod (IntKind.i64.wrap ((k : Int) + 2)) (n : Int) := ilo (j := 2) h
theorem ihi2 {k n : Nat} (h : k + 2 ≤ 4611686018427387904) (hn : 0 < n) : Int.tmod (IntKind.i64.wrap ((k : Int) + 2)) (n : Int) + 1 ≤ n := ihi (j := 2) h hn
theorem tm1 (k n : Nat) : Int.tmod ((k : Int) + 1) (n : Int) = (((k + 1) % n : Nat) : Int) := by rw [show ((k : Int) + 1) = ((k + 1 : Nat) : Int) from rfl, ← Int.ofNat_tmod]
theorem tm2 (k n : Nat) : Int.tmod ((k : Int) + 2) (n : Int) = (((k + 2) % n : Nat) : Int) := by rw [show ((k : Int) + 2) = ((k + 2 : Nat) : Int) from rfl, ← Int.ofNat_tmod]
theorem tmj (k j n : Nat) : Int.tmod ((k : Int) + (j : Int)) (n : Int) = (((k + j) % n : Nat) : Int) := by rw [← Int.natCast_add, ← Int.ofNat_tmod]
theorem ptEq2 (a b : Pt) : (a.1 == b.1 && a.2 == b.2) = decide (a = b) := ptEq a.1 a.2 b.1 b.2
theorem mdl {a n : Nat} (h : 0 < n) : ((a % n : Nat) : Int) + 1 ≤ (n : Int) := by have := Nat.mod_lt a h; omega
theorem allLt_succ {P : Nat → Prop} {i : Nat} : (∀ j, j < i + 1 → P j) ↔ (∀ j, j < i → P j) ∧ P i := by
  constructor
  · exact fun h => ⟨fun j hj => h j (by omega), h i (by omega)⟩
  · rintro ⟨h1, h2⟩ j hj
    rcases Nat.lt_or_ge j i with h | h
    · exact h1 j h
    · rw [show j = i by omega]; exact h2
theorem inth {a b : Nat} (h : (a : Int) < b) : a < b := by omega

theorem onS_comm (p a b : Pt) : onS p a b = onS p b a := by
  have h1 : turn a b p = 0 ↔ turn b a p = 0 := by
    have e : ∀ x y : Int, x = -y → (IntKind.i64.wrap x = 0 ↔ IntKind.i64.wrap y = 0) := fun x y h => by subst h; simp only [IntKind.wrap_i64]; omega
    unfold turn
    refine e _ _ ?_
    grind
  unfold onS
  rw [Int.min_comm, Int.max_comm, Int.min_comm a.2, Int.max_comm a.2]
  simp only [h1]
theorem meet_comm (v w : Pt × Pt) : meet v w = meet w v := by
  unfold meet
  rw [crs_comm w.1 w.2 v.1 v.2]
  cases wallOk v <;> cases wallOk w <;> cases crs v.1 v.2 w.1 w.2 <;> cases onS v.1 w.1 w.2 <;> cases onS v.2 w.1 w.2 <;> cases onS w.1 v.1 v.2 <;> cases onS w.2 v.1 v.2 <;> rfl
theorem okAt_iff {xs : List Pt} {k : Nat} : okAt xs k = true ↔ turn (pAt xs k) (pCy xs (k + 1)) (pCy xs (k + 2)) ≠ 0 ∧
    ∀ i, i < xs.length → i ≠ k → (i + 1) % xs.length ≠ k → (k + 1) % xs.length ≠ i → meet (wl xs k) (wl xs i) = false := by
  simp only [okAt, Bool.and_eq_true, Bool.not_eq_true', decide_eq_false_iff_not, List.all_eq_true, List.mem_range, Bool.or_eq_true, decide_eq_true_eq]
  refine and_congr_right fun _ => forall_congr' fun i => forall_congr' fun _ => ?_
  constructor
  · rintro (h | h | h | h) h1 h2 h3
    · exact absurd h h1
    · exact absurd h h2
    · exact absurd h h3
    · exact h
  · intro h
    by_cases h1 : i = k
    · exact .inl h1
    · by_cases h2 : (i + 1) % xs.length = k
      · exact .inr (.inl h2)
      · by_cases h3 : (k + 1) % xs.length = i
        · exact .inr (.inr (.inl h3))
        · exact .inr (.inr (.inr (h h1 h2 h3)))
theorem roomOk_iff {xs : List Pt} : roomOk xs = true ↔ (3 ≤ xs.length ∧ xs.length ≤ 10) ∧ xs.all ptOk = true ∧ (∀ k, k < xs.length → okAt xs k = true) ∧ 0 < IntKind.i64.wrap (dbl xs) := by
  simp only [roomOk, Bool.and_eq_true, decide_eq_true_eq, List.all_eq_true, List.mem_range]
theorem nb {i k n : Nat} (hi : i < n) (hk : k < n) (hik : i < k) : (i + 1) % n = k ↔ k = i + 1 := by
  rw [Nat.mod_eq_of_lt (by omega)]; omega
/-- What the program's own test goes through: each pair once. -/
theorem okAt_half {xs : List Pt} : (∀ k, k < xs.length → okAt xs k = true) ↔ ∀ i, i < xs.length → turn (pAt xs i) (pCy xs (i + 1)) (pCy xs (i + 2)) ≠ 0 ∧
    ∀ k, i + 2 ≤ k → k < xs.length → (k + 1) % xs.length ≠ i → meet (wl xs i) (wl xs k) = false := by
  constructor
  · intro h i hi
    obtain ⟨h1, h2⟩ := okAt_iff.1 (h i hi)
    refine ⟨h1, fun k hk1 hk2 hk3 => h2 k hk2 (by omega) hk3 ?_⟩
    rw [Ne, nb hi hk2 (by omega)]; omega
  · intro h k hk
    refine okAt_iff.2 ⟨(h k hk).1, fun i hi h1 h2 h3 => ?_⟩
    rcases Nat.lt_or_ge i k with hlt | hge
    · rw [meet_comm]
      refine (h i hi).2 k ?_ hk h3
      rw [Ne, nb hi hk hlt] at h2; omega
    · refine (h k hk).2 i ?_ hi h2
      rw [Ne, nb hk hi (by omega)] at h3; omega
end Go.Proofs.Ytfjmlaciogmndaa
