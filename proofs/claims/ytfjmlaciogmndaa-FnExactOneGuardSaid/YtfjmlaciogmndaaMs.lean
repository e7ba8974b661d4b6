/- Plain mathematics of sight: the points on a straight way, their order, neighbours on it. -/
import Derived.Test.YtfjmlaciogmndaaMb
namespace Go.Proofs.Ytfjmlaciogmndaa
set_option linter.unusedSimpArgs false
set_option linter.unusedVariables false

def amid (a b c : Pt) : Bool := !(c.1 == a.1 && c.2 == a.2) && (!(c.1 == b.1 && c.2 == b.2) && onS c a b)
theorem amid_yes {a b c : Pt} (h1 : (c.1 == a.1 && c.2 == a.2) = false) (h2 : (c.1 == b.1 && c.2 == b.2) = false) (h3 : onS c a b = true) : amid a b c = true := by unfold amid; rw [h1, h2, h3]; rfl
theorem amid_iff {a b c : Pt} : amid a b c = true ↔ c ≠ a ∧ c ≠ b ∧ onS c a b = true := by
  unfold amid
  rw [ptEq2, ptEq2]
  simp
abbrev cutsOf (xs : List Pt) (a b : Pt) : List Pt := [a, b] ++ xs.filter (amid a b)
def twP (p : Pt) : Pt := (IntKind.i64.wrap (2 * p.1), IntKind.i64.wrap (2 * p.2))
def sumP (a b : Pt) : Pt := (IntKind.i64.wrap (a.1 + b.1), IntKind.i64.wrap (a.2 + b.2))
def midM (xs : List Pt) (a b : Pt) : Int := placeM (xs.map twP) (sumP a b)
def sqd (a p : Pt) : Int := (a.1 - p.1) * (a.1 - p.1) + (a.2 - p.2) * (a.2 - p.2)

/-! ### Points on one straight way -/
def OnZ (p a b : Pt) : Prop := turnZ a b p = 0 ∧ (min a.1 b.1 ≤ p.1 ∧ p.1 ≤ max a.1 b.1) ∧ min a.2 b.2 ≤ p.2 ∧ p.2 ≤ max a.2 b.2
theorem onS_iff {p a b : Pt} (hp : Bd p) (ha : Bd a) (hb : Bd b) : onS p a b = true ↔ OnZ p a b := by
  unfold onS OnZ
  rw [turn_exact ha hb hp]
  simp [btw]
theorem bd_on {p a b : Pt} (ha : Bd a) (hb : Bd b) (h : onS p a b = true) : Bd p := by
  unfold onS btw at h
  simp only [Bool.and_eq_true, decide_eq_true_eq] at h
  unfold Bd at *
  omega
/-- The steps from a to a point of the way to b, both signs turned so that none is negative. -/
structure Way (A B x y : Int) : Prop where
  x0 : 0 ≤ x
  xA : x ≤ A
  y0 : 0 ≤ y
  yB : y ≤ B
  eq : A * y = B * x
theorem way_le {A B x y u v : Int} (h : Way A B x y) (k : Way A B u v) : (x ≤ u ∧ y ≤ v) ∨ (u ≤ x ∧ v ≤ y) := by
  obtain ⟨h1, h2, h3, h4, h5⟩ := h
  obtain ⟨k1, k2, k3, k4, k5⟩ := k
  rcases Int.le_total x u with hx | hx
  · rcases Int.le_total y v with hy | hy
    · exact .inl ⟨hx, hy⟩
    · by_cases hA : A = 0
      · subst hA; exact .inr ⟨by omega, hy⟩
      · refine .inl ⟨hx, ?_⟩
        have hB : 0 ≤ B := by omega
        have := Int.mul_le_mul_of_nonneg_left hx hB
        rw [← h5, ← k5] at this
        exact Int.le_of_mul_le_mul_left this (by omega)
  · rcases Int.le_total v y with hy | hy
    · exact .inr ⟨hx, hy⟩
    · by_cases hA : A = 0
      · subst hA; exact .inl ⟨by omega, hy⟩
      · refine .inr ⟨hx, ?_⟩
        have hB : 0 ≤ B := by omega
        have := Int.mul_le_mul_of_nonneg_left hx hB
        rw [← h5, ← k5] at this
        exact Int.le_of_mul_le_mul_left this (by omega)
theorem sq_mono {x u : Int} (h0 : 0 ≤ x) (h : x ≤ u) : x * x ≤ u * u := Int.mul_le_mul h h h0 (by omega)
theorem sq_strict {x u : Int} (h0 : 0 ≤ x) (h : x < u) : x * x < u * u := by
  have h1 := sq_mono h0 (show x ≤ u - 1 by omega)
  have h2 : (u - 1) * (u - 1) = u * u - 2 * u + 1 := by grind
  omega
theorem way_key {A B x y u v : Int} (h : Way A B x y) (k : Way A B u v) (hk : x * x + y * y ≤ u * u + v * v) : x ≤ u ∧ y ≤ v := by
  rcases way_le h k with c | ⟨c1, c2⟩
  · exact c
  · have e1 := sq_mono k.x0 c1
    have e2 := sq_mono k.y0 c2
    refine ⟨?_, ?_⟩
    · rcases Int.lt_or_le u x with hlt | hge
      · have := sq_strict k.x0 hlt; omega
      · exact hge
    · rcases Int.lt_or_le v y with hlt | hge
      · have := sq_strict k.y0 hlt; omega
      · exact hge
theorem way_turn {A B x y u v s t : Int} (h : Way A B x y) (k : Way A B u v) (l : Way A B s t) : (u - x) * (t - y) - (v - y) * (s - x) = 0 := by
  have h5 := h.eq
  have k5 := k.eq
  have l5 := l.eq
  by_cases hA : A = 0
  · have h1 := h.x0; have h2 := h.xA; have k1 := k.x0; have k2 := k.xA; have l1 := l.x0; have l2 := l.xA
    have e1 : x = 0 := by omega
    have e2 : u = 0 := by omega
    have e3 : s = 0 := by omega
    subst e1 e2 e3
    simp
  · have e1 : A * ((u - x) * (t - y) - (v - y) * (s - x)) = 0 := by grind
    exact (Int.mul_eq_zero.1 e1).resolve_left hA

/-- The signs of a way. -/
theorem way_of {a b : Pt} (ha : Bd a) (hb : Bd b) : ∃ s t : Int, (s = 1 ∨ s = -1) ∧ (t = 1 ∨ t = -1) ∧ ∀ p, onS p a b = true → Way (s * (b.1 - a.1)) (t * (b.2 - a.2)) (s * (p.1 - a.1)) (t * (p.2 - a.2)) := by
  have key : ∀ s t : Int, (s = 1 ∨ s = -1) → (t = 1 ∨ t = -1) → 0 ≤ s * (b.1 - a.1) → 0 ≤ t * (b.2 - a.2) → ∀ p, onS p a b = true → Way (s * (b.1 - a.1)) (t * (b.2 - a.2)) (s * (p.1 - a.1)) (t * (p.2 - a.2)) := by
    intro s t hs ht h1 h2 p hp
    obtain ⟨e0, e1, e2⟩ := (onS_iff (bd_on ha hb hp) ha hb).1 hp
    unfold turnZ at e0
    have e3 : (s * (b.1 - a.1)) * (t * (p.2 - a.2)) = (t * (b.2 - a.2)) * (s * (p.1 - a.1)) := by grind
    refine ⟨?_, ?_, ?_, ?_, e3⟩ <;> rcases hs with rfl | rfl <;> rcases ht with rfl | rfl <;> omega
  rcases Int.le_total a.1 b.1 with h1 | h1 <;> rcases Int.le_total a.2 b.2 with h2 | h2
  · exact ⟨1, 1, .inl rfl, .inl rfl, key 1 1 (.inl rfl) (.inl rfl) (by omega) (by omega)⟩
  · exact ⟨1, -1, .inl rfl, .inr rfl, key 1 (-1) (.inl rfl) (.inr rfl) (by omega) (by omega)⟩
  · exact ⟨-1, 1, .inr rfl, .inl rfl, key (-1) 1 (.inr rfl) (.inl rfl) (by omega) (by omega)⟩
  · exact ⟨-1, -1, .inr rfl, .inr rfl, key (-1) (-1) (.inr rfl) (.inr rfl) (by omega) (by omega)⟩
theorem sqd_way {s t : Int} (hs : s = 1 ∨ s = -1) (ht : t = 1 ∨ t = -1) (a p : Pt) : sqd a p = (s * (p.1 - a.1)) * (s * (p.1 - a.1)) + (t * (p.2 - a.2)) * (t * (p.2 - a.2)) := by
  unfold sqd
  rcases hs with rfl | rfl <;> rcases ht with rfl | rfl <;> grind
theorem key_inj {a b p q : Pt} (ha : Bd a) (hb : Bd b) (hp : onS p a b = true) (hq : onS q a b = true) (h : sqd a p = sqd a q) : p = q := by
  obtain ⟨s, t, hs, ht, hw⟩ := way_of ha hb
  rw [sqd_way hs ht, sqd_way hs ht] at h
  have h1 := way_key (hw p hp) (hw q hq) (by omega)
  have h2 := way_key (hw q hq) (hw p hp) (by omega)
  apply Prod.ext
  · rcases hs with rfl | rfl <;> omega
  · rcases ht with rfl | rfl <;> omega
theorem key_btw {a b p q r : Pt} (ha : Bd a) (hb : Bd b) (hp : onS p a b = true) (hq : onS q a b = true) (hr : onS r a b = true) (h : sqd a p ≤ sqd a q) :
    onS r p q = true ↔ sqd a p ≤ sqd a r ∧ sqd a r ≤ sqd a q := by
  obtain ⟨s, t, hs, ht, hw⟩ := way_of ha hb
  rw [onS_iff (bd_on ha hb hr) (bd_on ha hb hp) (bd_on ha hb hq)]
  have wp := hw p hp
  have wq := hw q hq
  have wr := hw r hr
  rw [sqd_way hs ht a p, sqd_way hs ht a q] at *
  have hpq := way_key wp wq h
  have h0 := way_turn wp wq wr
  unfold OnZ turnZ
  rw [sqd_way hs ht a r]
  constructor
  · rintro ⟨-, h1, h2⟩
    have k1 : s * (p.1 - a.1) ≤ s * (r.1 - a.1) ∧ s * (r.1 - a.1) ≤ s * (q.1 - a.1) := by rcases hs with rfl | rfl <;> omega
    have k2 : t * (p.2 - a.2) ≤ t * (r.2 - a.2) ∧ t * (r.2 - a.2) ≤ t * (q.2 - a.2) := by rcases ht with rfl | rfl <;> omega
    have := sq_mono wp.x0 k1.1
    have := sq_mono wp.y0 k2.1
    have := sq_mono wr.x0 k1.2
    have := sq_mono wr.y0 k2.2
    omega
  · rintro ⟨h1, h2⟩
    have k1 := way_key wp wr h1
    have k2 := way_key wr wq h2
    refine ⟨?_, ?_, ?_⟩
    · rcases hs with rfl | rfl <;> rcases ht with rfl | rfl <;> grind
    · rcases hs with rfl | rfl <;> omega
    · rcases ht with rfl | rfl <;> omega

/-! ### Neighbours in a sorted list -/
theorem next_of {L : List Pt} {key : Pt → Int} (hs : L.Pairwise fun p q => key p ≤ key q) (hn : L.Nodup) (hi : ∀ p ∈ L, ∀ q ∈ L, key p = key q → p = q) {p q : Pt} (hp : p ∈ L) (hq : q ∈ L) (hlt : key p < key q)
    (hf : ∀ r ∈ L, r ≠ p → r ≠ q → ¬ (key p ≤ key r ∧ key r ≤ key q)) : ∃ L1 L2, L = L1 ++ p :: q :: L2 := by
  obtain ⟨L1, R, rfl⟩ := List.append_of_mem hp
  obtain ⟨s1, s2, s3⟩ := List.pairwise_append.1 hs
  obtain ⟨n1, n2, n3⟩ := List.nodup_append.1 hn
  have hqR : q ∈ R := by
    rcases List.mem_append.1 hq with h | h
    · have := s3 q h p (by simp); omega
    · rcases List.mem_cons.1 h with h | h
      · subst h; omega
      · exact h
  cases R with
  | nil => simp at hqR
  | cons r R =>
    have h1 : key p ≤ key r := (List.pairwise_cons.1 s2).1 r (by simp)
    have hrp : r ≠ p := fun e => (List.nodup_cons.1 n2).1 (by simp [e])
    have h2 : key r ≤ key q := by
      rcases List.mem_cons.1 hqR with h | h
      · rw [h]; exact Int.le_refl _
      · exact (List.pairwise_cons.1 (List.pairwise_cons.1 s2).2).1 q h
    by_cases hrq : r = q
    · subst hrq; exact ⟨L1, R, rfl⟩
    · exact absurd ⟨h1, h2⟩ (hf r (by simp) hrp hrq)
theorem of_next {L L1 L2 : List Pt} {key : Pt → Int} {p q : Pt} (e : L = L1 ++ p :: q :: L2) (hs : L.Pairwise fun p q => key p ≤ key q) (hn : L.Nodup) (hi : ∀ p ∈ L, ∀ q ∈ L, key p = key q → p = q) :
    p ≠ q ∧ key p ≤ key q ∧ ∀ r ∈ L, r ≠ p → r ≠ q → ¬ (key p ≤ key r ∧ key r ≤ key q) := by
  subst e
  obtain ⟨s1, s2, s3⟩ := List.pairwise_append.1 hs
  obtain ⟨n1, n2, n3⟩ := List.nodup_append.1 hn
  refine ⟨fun e => (List.nodup_cons.1 n2).1 (by simp [e]), (List.pairwise_cons.1 s2).1 q (by simp), fun r hr hrp hrq ⟨h1, h2⟩ => ?_⟩
  rcases List.mem_append.1 hr with h | h
  · have := s3 r h p (by simp)
    exact hrp (hi r hr p (by simp) (by omega))
  · rcases List.mem_cons.1 h with h | h
    · exact hrp h
    · rcases List.mem_cons.1 h with h | h
      · exact hrq h
      · have := (List.pairwise_cons.1 (List.pairwise_cons.1 s2).2).1 r h
        exact hrq (hi r hr q (by simp) (by omega))
theorem split_at {L : List Pt} {u : Nat} (h : u + 1 < L.length) : L = L.take u ++ pAt L u :: pAt L (u + 1) :: L.drop (u + 2) := by
  have e1 : pAt L u = L[u] := getD_lt _ (by omega)
  have e2 : pAt L (u + 1) = L[u + 1] := getD_lt _ h
  rw [e1, e2, ← List.drop_eq_getElem_cons h, ← List.drop_eq_getElem_cons (by omega), List.take_append_drop]
theorem at_split {L L1 L2 : List Pt} {p q : Pt} (e : L = L1 ++ p :: q :: L2) : L1.length + 1 < L.length ∧ pAt L L1.length = p ∧ pAt L (L1.length + 1) = q := by
  subst e
  refine ⟨by simp, by simp [List.getD], by simp [List.getD, List.getElem?_append_right]⟩

/-! ### A valid room has each corner once -/
theorem turn_same (a c : Pt) : turn a a c = 0 := by unfold turn; simp; rfl
theorem onS_self {a b : Pt} : onS a a b = true := by
  have h0 : turn a b a = 0 := by
    unfold turn
    rw [show (b.1 - a.1) * (a.2 - a.2) - (b.2 - a.2) * (a.1 - a.1) = 0 by simp]
    rfl
  unfold onS btw
  rw [h0]
  simp only [Bool.and_eq_true, decide_eq_true_eq]
  exact ⟨trivial, ⟨by omega, by omega⟩, by omega, by omega⟩
theorem pCy_lt {xs : List Pt} {k : Nat} (h : k < xs.length) : pCy xs k = pAt xs k := by show xs.getD (k % xs.length) _ = _; rw [Nat.mod_eq_of_lt h]
theorem room_ne {xs : List Pt} (h : roomOk xs = true) {k : Nat} (hk : k < xs.length) : pAt xs k ≠ pCy xs (k + 1) := fun e => by
  have := (okAt_iff.1 ((roomOk_iff.1 h).2.2.1 k hk)).1
  rw [e, turn_same] at this
  exact this rfl
theorem room_pt {xs : List Pt} (h : roomOk xs = true) {k : Nat} (hk : k < xs.length) : ptOk (pAt xs k) = true := by
  rw [show pAt xs k = xs[k] from getD_lt _ hk]
  exact List.all_eq_true.1 (roomOk_iff.1 h).2.1 _ (List.getElem_mem hk)
theorem room_wallOk {xs : List Pt} (h : roomOk xs = true) {k : Nat} (hk : k < xs.length) : wallOk (wl xs k) = true := by
  have hn : 0 < xs.length := by omega
  unfold wallOk wl
  rw [room_pt h hk, show pCy xs (k + 1) = pAt xs ((k + 1) % xs.length) from rfl, room_pt h (Nat.mod_lt _ hn)]
  simp only [Bool.true_and, Bool.not_eq_true', decide_eq_false_iff_not]
  exact room_ne h hk
theorem room_nodup {xs : List Pt} (h : roomOk xs = true) : xs.Nodup := by
  have key : ∀ i k, i < k → k < xs.length → pAt xs i ≠ pAt xs k := by
    intro i k hik hk e
    have hok := (roomOk_iff.1 h).2.2.1
    by_cases h1 : k = i + 1
    · subst h1
      exact room_ne h (k := i) (by omega) (by rw [pCy_lt hk]; exact e)
    · by_cases h2 : (k + 1) % xs.length = i
      · exact room_ne h hk (by show _ = xs.getD _ _; rw [h2]; exact e.symm)
      · have := (okAt_iff.1 (hok i (by omega))).2 k hk (by omega) h2 (by rw [Nat.mod_eq_of_lt (by omega)]; omega)
        unfold meet at this
        rw [room_wallOk h (by omega), room_wallOk h hk, show (wl xs i).1 = (wl xs k).1 from e, onS_self] at this
        simp at this
  rw [List.nodup_iff_pairwise_ne, List.pairwise_iff_getElem]
  intro i j hi hj hij e
  have := key i j hij hj
  rw [show pAt xs i = xs[i] from getD_lt _ hi, show pAt xs j = xs[j] from getD_lt _ hj] at this
  exact this e

/-! ### Sight -/
def Sees (xs : List Pt) (a b : Pt) : Prop := (∀ k, k < xs.length → crs a b (wl xs k).1 (wl xs k).2 = false) ∧
  ∀ p q, p ∈ cutsOf xs a b → q ∈ cutsOf xs a b → (p ≠ q ∨ a = b) → (∀ r ∈ cutsOf xs a b, r ≠ p → r ≠ q → onS r p q = false) → midM xs p q ≠ 0
theorem cuts_mem {xs : List Pt} {a b p : Pt} : p ∈ cutsOf xs a b ↔ p = a ∨ p = b ∨ (p ∈ xs ∧ p ≠ a ∧ p ≠ b ∧ onS p a b = true) := by
  simp only [cutsOf, List.cons_append, List.nil_append, List.mem_cons, List.mem_filter, amid_iff]
theorem onS_end {a b : Pt} : onS b a b = true := by rw [onS_comm]; exact onS_self
theorem cuts_on {xs : List Pt} {a b p : Pt} (h : p ∈ cutsOf xs a b) : onS p a b = true := by
  rcases cuts_mem.1 h with rfl | rfl | h
  · exact onS_self
  · exact onS_end
  · exact h.2.2.2
theorem cuts_nodup {xs : List Pt} {a b : Pt} (h : roomOk xs = true) (hab : a ≠ b) : (cutsOf xs a b).Nodup := by
  have h1 : (xs.filter (amid a b)).Nodup := (room_nodup h).filter _
  simp only [cutsOf, List.cons_append, List.nil_append, List.nodup_cons, List.mem_cons, List.mem_filter, amid_iff, not_or]
  exact ⟨⟨hab, fun h => h.2.1 rfl⟩, fun h => h.2.2.1 rfl, h1⟩
theorem on_point {a c : Pt} (h : onS c a a = true) : c = a := by
  unfold onS btw at h
  simp only [Bool.and_eq_true, decide_eq_true_eq] at h
  apply Prod.ext <;> omega
theorem cuts_same {xs : List Pt} {a : Pt} : cutsOf xs a a = [a, a] := by
  have : xs.filter (amid a a) = [] := List.filter_eq_nil_iff.2 fun c _ h => (amid_iff.1 h).1 (on_point (amid_iff.1 h).2.2)
  rw [cutsOf, this]; rfl
/-- Neighbours in the sorted list of the corners on the way are the pairs with no corner between them. -/
theorem sees_sorted {xs : List Pt} {a b : Pt} (hr : roomOk xs = true) (ha : ptOk a = true) (hb : ptOk b = true) {L : List Pt} (hp : L.Perm (cutsOf xs a b)) (hs : L.Pairwise fun p q => sqd a p ≤ sqd a q) :
    (∀ u, u + 1 < L.length → midM xs (pAt L u) (pAt L (u + 1)) ≠ 0) ↔ ∀ p q, p ∈ cutsOf xs a b → q ∈ cutsOf xs a b → (p ≠ q ∨ a = b) → (∀ r ∈ cutsOf xs a b, r ≠ p → r ≠ q → onS r p q = false) → midM xs p q ≠ 0 := by
  have ba := bd_of_ok ha
  have bb := bd_of_ok hb
  have comm : ∀ p q, midM xs p q = midM xs q p := fun p q => by unfold midM sumP; rw [Int.add_comm p.1, Int.add_comm p.2]
  by_cases hab : a = b
  · subst hab
    rw [cuts_same] at hp ⊢
    have hL : L = [a, a] := (List.perm_replicate (n := 2) (a := a)).1 hp
    subst hL
    constructor
    · intro h p q hp hq _ _
      have e1 : p = a := by simpa using hp
      have e2 : q = a := by simpa using hq
      subst e1 e2
      exact h 0 (by simp)
    · intro h u hu
      have : u = 0 := by simp at hu; omega
      subst this
      exact h a a (by simp) (by simp) (.inr rfl) (fun r hr h1 => absurd (by simpa using hr) h1)
  · have hn : L.Nodup := hp.nodup_iff.2 (cuts_nodup hr hab)
    have hmem : ∀ p, p ∈ L ↔ p ∈ cutsOf xs a b := fun p => hp.mem_iff
    have hon : ∀ p ∈ L, onS p a b = true := fun p h => cuts_on ((hmem p).1 h)
    have hi : ∀ p ∈ L, ∀ q ∈ L, sqd a p = sqd a q → p = q := fun p hp q hq e => key_inj ba bb (hon p hp) (hon q hq) e
    constructor
    · intro h p q hp hq hpq hf
      have hpq : p ≠ q := hpq.resolve_right hab
      have go : ∀ p q, p ∈ L → q ∈ L → sqd a p < sqd a q → (∀ r ∈ L, r ≠ p → r ≠ q → onS r p q = false) → midM xs p q ≠ 0 := by
        intro p q hp hq hlt hf
        obtain ⟨L1, L2, e⟩ := next_of (key := sqd a) hs hn hi hp hq hlt fun r hr h1 h2 hk => by
          have := (key_btw ba bb (hon p hp) (hon q hq) (hon r hr) (by omega)).2 hk
          rw [hf r hr h1 h2] at this
          cases this
        obtain ⟨k1, k2, k3⟩ := at_split e
        have := h _ k1
        rwa [k2, k3] at this
      have hp := (hmem p).2 hp
      have hq := (hmem q).2 hq
      rcases Int.lt_trichotomy (sqd a p) (sqd a q) with h1 | h1 | h1
      · exact go p q hp hq h1 fun r hr => hf r ((hmem r).1 hr)
      · exact absurd (hi p hp q hq h1) hpq
      · rw [comm]
        exact go q p hq hp h1 fun r hr h1 h2 => by rw [onS_comm]; exact hf r ((hmem r).1 hr) h2 h1
    · intro h u hu
      have e := split_at hu
      obtain ⟨h1, h2, h3⟩ := of_next (key := sqd a) e hs hn hi
      have m1 : pAt L u ∈ L := by rw [show pAt L u = L[u] from getD_lt _ (by omega)]; exact List.getElem_mem _
      have m2 : pAt L (u + 1) ∈ L := by rw [show pAt L (u + 1) = L[u + 1] from getD_lt _ hu]; exact List.getElem_mem _
      refine h _ _ ((hmem _).1 m1) ((hmem _).1 m2) (.inl h1) fun r hr k1 k2 => ?_
      rw [← Bool.not_eq_true]
      intro k3
      exact h3 r ((hmem r).2 hr) k1 k2 ((key_btw ba bb (hon _ m1) (hon _ m2) (hon r ((hmem r).2 hr)) h2).1 k3)

/-! ### The reference's way -/
def freeAt (ps : List Pt) (i k j : Nat) : Bool := decide (j = i) || (decide (j = k) || !onS (pAt ps j) (pAt ps i) (pAt ps k))
def freeTo (ps : List Pt) (i k j : Nat) : Bool := (List.range j).all (freeAt ps i k)
def midS (xs ps : List Pt) (i k : Nat) : Int := holdsM (xs.map twP) (sumP (pAt ps i) (pAt ps k))
def badPair (xs ps : List Pt) (i k : Nat) : Bool := freeTo ps i k ps.length && decide (midS xs ps i k < 0)
def seesS (xs : List Pt) (a b : Pt) : Bool := (List.range xs.length).all (fun k => !crs a b (wl xs k).1 (wl xs k).2) && (List.range (cutsOf xs a b).length).all fun i => (List.range i).all fun k => !badPair xs (cutsOf xs a b) i k
theorem seesS_no1 {xs : List Pt} {a b : Pt} {k : Nat} (hk : k < xs.length) (h : crs a b (wl xs k).1 (wl xs k).2 = true) : seesS xs a b = false := by
  unfold seesS
  rw [show (List.range xs.length).all (fun k => !crs a b (wl xs k).1 (wl xs k).2) = false from List.all_eq_false.2 ⟨k, List.mem_range.2 hk, by rw [h]; decide⟩]
  rfl
theorem seesS_no2 {xs : List Pt} {a b : Pt} {i k : Nat} (hi : i < (cutsOf xs a b).length) (hk : k < i) (h : badPair xs (cutsOf xs a b) i k = true) : seesS xs a b = false := by
  unfold seesS
  rw [show ((List.range (cutsOf xs a b).length).all fun i => (List.range i).all fun k => !badPair xs (cutsOf xs a b) i k) = false from
    List.all_eq_false.2 ⟨i, List.mem_range.2 hi, by rw [show ((List.range i).all fun k => !badPair xs (cutsOf xs a b) i k) = false from List.all_eq_false.2 ⟨k, List.mem_range.2 hk, by rw [h]; decide⟩]; decide⟩]
  exact Bool.and_false _
theorem seesS_iff' {xs : List Pt} {a b : Pt} : seesS xs a b = true ↔ (∀ k, k < xs.length → crs a b (wl xs k).1 (wl xs k).2 = false) ∧ ∀ i, i < (cutsOf xs a b).length → ∀ k, k < i → badPair xs (cutsOf xs a b) i k = false := by
  unfold seesS
  simp only [Bool.and_eq_true, List.all_eq_true, List.mem_range, Bool.not_eq_true']
theorem seesS_yes {xs : List Pt} {a b : Pt} (h1 : ∀ k, k < xs.length → crs a b (wl xs k).1 (wl xs k).2 = false) (h2 : ∀ i, i < (cutsOf xs a b).length → ∀ k, k < i → badPair xs (cutsOf xs a b) i k = false) : seesS xs a b = true := seesS_iff'.2 ⟨h1, h2⟩
theorem freeTo_succ (ps : List Pt) (i k j : Nat) : freeTo ps i k (j + 1) = (freeTo ps i k j && freeAt ps i k j) := by
  unfold freeTo
  rw [List.range_succ, List.all_append]
  simp
theorem freeTo_iff {ps : List Pt} {i k : Nat} {n : Nat} : freeTo ps i k n = true ↔ ∀ j, j < n → j = i ∨ j = k ∨ onS (pAt ps j) (pAt ps i) (pAt ps k) = false := by
  unfold freeTo freeAt
  simp only [List.all_eq_true, List.mem_range, Bool.or_eq_true, decide_eq_true_eq, Bool.not_eq_true']
theorem placeM_nonneg (xs : List Pt) (p : Pt) : 0 ≤ placeM xs p := by unfold placeM; split <;> (try split) <;> omega
theorem mid_holds {xs : List Pt} (h : ∀ q ∈ xs, -40 ≤ q.1 ∧ q.1 ≤ 40 ∧ -40 ≤ q.2 ∧ q.2 ≤ 40) {p q : Pt} (hp : -40 ≤ p.1 ∧ p.1 ≤ 40 ∧ -40 ≤ p.2 ∧ p.2 ≤ 40) (hq : -40 ≤ q.1 ∧ q.1 ≤ 40 ∧ -40 ≤ q.2 ∧ q.2 ≤ 40) :
    midM xs p q = holdsM (xs.map twP) (sumP p q) + 1 := by
  refine place_holds (fun c' hc' => ?_) ?_
  · obtain ⟨c, hc, rfl⟩ := List.mem_map.1 hc'
    have := h c hc
    unfold twP
    rw [W_in (by omega) (by omega), W_in (by omega) (by omega)]
    unfold Bd
    simp only
    omega
  · unfold sumP
    rw [W_in (by omega) (by omega), W_in (by omega) (by omega)]
    unfold Bd
    simp only
    omega
theorem on_pt40 {p a b : Pt} (ha : ptOk a = true) (hb : ptOk b = true) (h : onS p a b = true) : -40 ≤ p.1 ∧ p.1 ≤ 40 ∧ -40 ≤ p.2 ∧ p.2 ≤ 40 := by
  rw [ptOk_iff] at ha hb
  unfold onS btw at h
  simp only [Bool.and_eq_true, decide_eq_true_eq] at h
  omega
theorem pAt_mem {L : List Pt} {u : Nat} (h : u < L.length) : pAt L u ∈ L := by rw [show pAt L u = L[u] from getD_lt _ h]; exact List.getElem_mem _
theorem seesS_iff {xs : List Pt} {a b : Pt} (hr : roomOk xs = true) (ha : ptOk a = true) (hb : ptOk b = true) : seesS xs a b = true ↔ Sees xs a b := by
  rw [seesS_iff']
  refine and_congr_right fun _ => ?_
  have hb40 : ∀ p ∈ cutsOf xs a b, -40 ≤ p.1 ∧ p.1 ≤ 40 ∧ -40 ≤ p.2 ∧ p.2 ≤ 40 := fun p h => on_pt40 ha hb (cuts_on h)
  have hmid : ∀ p q, p ∈ cutsOf xs a b → q ∈ cutsOf xs a b → midM xs p q = holdsM (xs.map twP) (sumP p q) + 1 := fun p q hp hq => mid_holds (pt_of_room hr) (hb40 p hp) (hb40 q hq)
  have comm : ∀ p q, midM xs p q = midM xs q p := fun p q => by unfold midM sumP; rw [Int.add_comm p.1, Int.add_comm p.2]
  have hbad : ∀ i k, i < (cutsOf xs a b).length → k < (cutsOf xs a b).length → (badPair xs (cutsOf xs a b) i k = false ↔ ((∀ j, j < (cutsOf xs a b).length → j = i ∨ j = k ∨ onS (pAt (cutsOf xs a b) j) (pAt (cutsOf xs a b) i) (pAt (cutsOf xs a b) k) = false) → midM xs (pAt (cutsOf xs a b) i) (pAt (cutsOf xs a b) k) ≠ 0)) := by
    intro i k hi hk
    have h1 := hmid _ _ (pAt_mem hi) (pAt_mem hk)
    have h2 := placeM_nonneg (xs.map twP) (sumP (pAt (cutsOf xs a b) i) (pAt (cutsOf xs a b) k))
    have h2 : 0 ≤ midM xs (pAt (cutsOf xs a b) i) (pAt (cutsOf xs a b) k) := h2
    unfold badPair midS
    rw [← freeTo_iff, Bool.and_eq_false_iff, decide_eq_false_iff_not]
    constructor
    · rintro (h | h) hf
      · rw [hf] at h; cases h
      · omega
    · intro h
      cases hf : freeTo (cutsOf xs a b) i k (cutsOf xs a b).length with
      | false => exact .inl rfl
      | true => have := h hf; exact .inr (by omega)
  by_cases hab : a = b
  · subst hab
    constructor
    · intro h p q hp hq _ _
      have h10 := (hbad 1 0 (by rw [cuts_same]; simp) (by rw [cuts_same]; simp)).1 (h 1 (by rw [cuts_same]; simp) 0 (by omega))
      rw [cuts_same] at hp hq h10
      have e1 : p = a := by simpa using hp
      have e2 : q = a := by simpa using hq
      subst e1 e2
      exact h10 fun j hj => by
        have : j < 2 := hj
        omega
    · intro h i hi k hk
      have hi' : i < 2 := by rw [cuts_same] at hi; exact hi
      have e1 : i = 1 := by omega
      have e2 : k = 0 := by omega
      subst e1 e2
      refine (hbad 1 0 hi (by omega)).2 fun _ => ?_
      have := h a a (by rw [cuts_same]; simp) (by rw [cuts_same]; simp) (.inr rfl) (fun r hr h1 => by rw [cuts_same] at hr; exact absurd (by simpa using hr) h1)
      rw [cuts_same]
      exact this
  · have hn := cuts_nodup hr hab
    have inj : ∀ i j, i < (cutsOf xs a b).length → j < (cutsOf xs a b).length → pAt (cutsOf xs a b) i = pAt (cutsOf xs a b) j → i = j := fun i j hi hj e => by
      rw [show pAt (cutsOf xs a b) i = (cutsOf xs a b)[i] from getD_lt _ hi, show pAt (cutsOf xs a b) j = (cutsOf xs a b)[j] from getD_lt _ hj] at e
      exact (List.getElem_inj hn).1 e
    have idx : ∀ p ∈ cutsOf xs a b, ∃ i, i < (cutsOf xs a b).length ∧ pAt (cutsOf xs a b) i = p := fun p hp => by
      obtain ⟨i, hi, e⟩ := List.getElem_of_mem hp
      exact ⟨i, hi, (getD_lt _ hi).trans e⟩
    constructor
    · intro h p q hp hq hpq hf
      obtain ⟨i, hi, rfl⟩ := idx p hp
      obtain ⟨k, hk, rfl⟩ := idx q hq
      have hne : i ≠ k := fun e => (hpq.resolve_right hab) (by rw [e])
      have go : ∀ i k, i < (cutsOf xs a b).length → k < i → (∀ r ∈ cutsOf xs a b, r ≠ pAt (cutsOf xs a b) i → r ≠ pAt (cutsOf xs a b) k → onS r (pAt (cutsOf xs a b) i) (pAt (cutsOf xs a b) k) = false) → midM xs (pAt (cutsOf xs a b) i) (pAt (cutsOf xs a b) k) ≠ 0 := by
        intro i k hi hk hf
        refine (hbad i k hi (by omega)).1 (h i hi k hk) fun j hj => ?_
        by_cases h1 : j = i
        · exact .inl h1
        · by_cases h2 : j = k
          · exact .inr (.inl h2)
          · exact .inr (.inr (hf _ (pAt_mem hj) (fun e => h1 (inj _ _ hj hi e)) fun e => h2 (inj _ _ hj (by omega) e)))
      rcases Nat.lt_or_ge k i with hlt | hge
      · exact go i k hi hlt hf
      · rw [comm]
        exact go k i hk (by omega) fun r hr h1 h2 => by rw [onS_comm]; exact hf r hr h2 h1
    · intro h i hi k hk
      refine (hbad i k hi (by omega)).2 fun hf => ?_
      refine h _ _ (pAt_mem hi) (pAt_mem (by omega)) (.inl fun e => by have := inj _ _ hi (by omega) e; omega) fun r hr h1 h2 => ?_
      obtain ⟨j, hj, rfl⟩ := idx r hr
      rcases hf j hj with e | e | e
      · exact absurd (by rw [e]) h1
      · exact absurd (by rw [e]) h2
      · exact e
/-- Sight goes both ways. -/
theorem turn_swap {a b c : Pt} (ha : Bd a) (hb : Bd b) (hc : Bd c) : turn b a c = - turn a b c := by
  rw [turn_exact ha hb hc, turn_exact hb ha hc]; unfold turnZ; grind
theorem sgn_neg (n : Int) : sgn (-n) = - sgn n := by unfold sgn; split <;> split <;> (try split) <;> omega
theorem crs_swap {a b c d : Pt} (ha : Bd a) (hb : Bd b) (hc : Bd c) (hd : Bd d) : crs b a c d = crs a b c d := by
  unfold crs
  rw [turn_swap ha hb hc, turn_swap ha hb hd, sgn_neg, sgn_neg, Int.neg_mul_neg, Int.mul_comm (sgn (turn c d b))]
theorem cuts_swap {xs : List Pt} {a b p : Pt} : p ∈ cutsOf xs b a ↔ p ∈ cutsOf xs a b := by
  rw [cuts_mem, cuts_mem, onS_comm p b a]
  constructor <;> (rintro (h | h | h); exact .inr (.inl h); exact .inl h; exact .inr (.inr ⟨h.1, h.2.2.1, h.2.1, h.2.2.2⟩))
theorem Sees.swap {xs : List Pt} {a b : Pt} (hr : roomOk xs = true) (ha : ptOk a = true) (hb : ptOk b = true) (h : Sees xs a b) : Sees xs b a := by
  refine ⟨fun k hk => ?_, fun p q hp hq hpq hf => h.2 p q (cuts_swap.1 hp) (cuts_swap.1 hq) (hpq.imp id Eq.symm) fun r hr => hf r (cuts_swap.2 hr)⟩
  have hbd := bd_of_room hr
  show crs b a (pAt xs k) (pCy xs (k + 1)) = false
  rw [crs_swap (bd_of_ok ha) (bd_of_ok hb) (pAt_bd hbd hk) (pCy_bd hbd (by omega))]
  exact h.1 k hk
theorem seesS_comm {xs : List Pt} {a b : Pt} (hr : roomOk xs = true) (ha : ptOk a = true) (hb : ptOk b = true) : seesS xs a b = seesS xs b a := by
  rw [Bool.eq_iff_iff, seesS_iff hr ha hb, seesS_iff hr hb ha]
  exact ⟨Sees.swap hr ha hb, Sees.swap hr hb ha⟩
end Go.Proofs.Ytfjmlaciogmndaa
