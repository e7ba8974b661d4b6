/- Plain mathematics of hulls: the chain of left turns over sorted points, and the walk round them. -/
import Derived.Test.YtfjmlaciogmndaaMs
namespace Go.Proofs.Ytfjmlaciogmndaa
set_option linter.unusedSimpArgs false
set_option linter.unusedVariables false

/-! ### Directions -/
def cross (u v : Pt) : Int := u.1 * v.2 - u.2 * v.1
def sub (b a : Pt) : Pt := (b.1 - a.1, b.2 - a.2)
/-- Upwards (or to the right where level), the sign s turned. -/
def Up (s : Int) (d : Pt) : Prop := 0 < s * d.2 ∨ (s * d.2 = 0 ∧ 0 < s * d.1)
def Lt (s : Int) (a b : Pt) : Prop := Up s (sub b a)
abbrev Sg (s : Int) : Prop := s = 1 ∨ s = -1
theorem turn_cross (a b c : Pt) : turnZ a b c = cross (sub b a) (sub c a) := rfl
theorem up_lin {s : Int} (hs : Sg s) {d : Pt} : Up s d ↔ (s = 1 ∧ (0 < d.2 ∨ (d.2 = 0 ∧ 0 < d.1))) ∨ (s = -1 ∧ (d.2 < 0 ∨ (d.2 = 0 ∧ d.1 < 0))) := by
  unfold Up
  rcases hs with rfl | rfl <;> simp <;> omega
theorem lt_trans {s : Int} (hs : Sg s) {a b c : Pt} (h : Lt s a b) (k : Lt s b c) : Lt s a c := by
  unfold Lt sub at *
  rw [up_lin hs] at *
  simp only at *
  omega
theorem lt_irrefl {s : Int} (hs : Sg s) {a : Pt} (h : Lt s a a) : False := by
  unfold Lt sub at *
  rw [up_lin hs] at *
  simp only at *
  omega
theorem lt_total {s : Int} (hs : Sg s) (a b : Pt) : a = b ∨ Lt s a b ∨ Lt s b a := by
  unfold Lt sub
  rw [up_lin hs, up_lin hs]
  simp only
  by_cases h : a = b
  · exact .inl h
  · have : a.1 ≠ b.1 ∨ a.2 ≠ b.2 := by
      by_cases h1 : a.1 = b.1
      · exact .inr fun h2 => h (Prod.ext h1 h2)
      · exact .inl h1
    rcases hs with rfl | rfl <;> omega
theorem nn_of_mul {x y : Int} (hy : 0 < y) (h : 0 ≤ x * y) : 0 ≤ x := by
  rcases Int.lt_or_le x 0 with h1 | h1
  · have := Int.mul_neg_of_neg_of_pos h1 hy; omega
  · exact h1
/-- In a half plane 'not to the right of' goes on. -/
theorem up_trans {s : Int} (hs : Sg s) {a b c : Pt} (ha : Up s a) (hb : Up s b) (hc : Up s c) (h1 : 0 ≤ cross a b) (h2 : 0 ≤ cross b c) : 0 ≤ cross a c := by
  have e : cross a b * (s * c.2) + cross b c * (s * a.2) = cross a c * (s * b.2) := by unfold cross; grind
  have ha2 : 0 ≤ s * a.2 := by rcases ha with h | h <;> omega
  have hc2 : 0 ≤ s * c.2 := by rcases hc with h | h <;> omega
  have k1 := Int.mul_nonneg h1 hc2
  have k2 := Int.mul_nonneg h2 ha2
  rcases hb with hb | ⟨hb1, hb2⟩
  · exact nn_of_mul hb (by omega)
  · -- b is level: so a is level too
    have hb0 : b.2 = 0 := by rcases hs with rfl | rfl <;> omega
    have e1 : cross a b = -(a.2 * b.1) := by unfold cross; rw [hb0]; grind
    have e2 : cross a b * (s * s) = -((s * a.2) * (s * b.1)) := by rw [e1]; grind
    have ss : s * s = 1 := by rcases hs with rfl | rfl <;> rfl
    rw [ss, Int.mul_one] at e2
    have ha0 : s * a.2 = 0 := by
      rcases Int.lt_or_le 0 (s * a.2) with h | h
      · have := Int.mul_pos h hb2; omega
      · omega
    have ha1 : 0 < s * a.1 := by
      rcases ha with h | h
      · omega
      · exact h.2
    have e3 : cross a c = (s * a.1) * (s * c.2) - (s * a.2) * (s * c.1) := by
      have : cross a c * (s * s) = (s * a.1) * (s * c.2) - (s * a.2) * (s * c.1) := by unfold cross; grind
      rwa [ss, Int.mul_one] at this
    rw [e3, ha0, Int.zero_mul, Int.sub_zero]
    exact Int.mul_nonneg (by omega) hc2
/-- Two of the same line, both upwards, lie on the same side of a third. -/
theorem up_par {s : Int} (hs : Sg s) {u e d : Pt} (he : Up s e) (hd : Up s d) (h0 : cross e d = 0) (h : 0 < cross u e) : 0 < cross u d := by
  have ss : s * s = 1 := by rcases hs with rfl | rfl <;> rfl
  have e1 : cross u e * (s * d.2) = cross u d * (s * e.2) := by
    have : cross u e * (s * d.2) - cross u d * (s * e.2) = -(s * u.2) * cross e d := by unfold cross; grind
    rw [h0] at this; omega
  have e2 : cross u e * (s * d.1) = cross u d * (s * e.1) := by
    have : cross u e * (s * d.1) - cross u d * (s * e.1) = -(s * u.1) * cross e d := by unfold cross; grind
    rw [h0] at this; omega
  have e3 : (s * e.1) * (s * d.2) = (s * e.2) * (s * d.1) := by
    have : (s * e.1) * (s * d.2) - (s * e.2) * (s * d.1) = s * s * cross e d := by unfold cross; grind
    rw [h0] at this; omega
  have pos : ∀ {x y z : Int}, 0 < x → 0 < y → x * y = z * 0 → False := fun hx hy h => by have := Int.mul_pos hx hy; omega
  have get : ∀ {x y z t : Int}, 0 < x → 0 < y → 0 < t → x * y = z * t → 0 < z := fun {x y z t} hx hy ht h => by
    have := Int.mul_pos hx hy
    rw [h] at this
    rcases Int.lt_or_le 0 z with h1 | h1
    · exact h1
    · have := Int.mul_nonpos_of_nonpos_of_nonneg h1 (Int.le_of_lt ht); omega
  rcases he with he | ⟨he1, he2⟩ <;> rcases hd with hd | ⟨hd1, hd2⟩
  · exact get h hd he e1
  · rw [hd1, Int.mul_zero] at e3
    have := Int.mul_pos he hd2; omega
  · rw [he1, Int.zero_mul] at e3
    have := Int.mul_pos he2 hd; omega
  · exact get h hd2 he2 e2

/-! ### The chain -/
/-- The chain (its last point first) over the points that Q holds. -/
def Chain (s : Int) (Q : Pt → Prop) : List Pt → Prop
  | [] => False
  | [a] => Q a ∧ ∀ q, Q q → q = a ∨ Lt s a q
  | b :: a :: r => Q b ∧ Lt s a b ∧ (∀ q, Q q → 0 ≤ turnZ a b q) ∧ (match r with | [] => True | z :: _ => 0 < turnZ z a b) ∧ Chain s Q (a :: r)
def popS : List Pt → Pt → List Pt
  | b :: a :: r, p => if turn a b p ≤ 0 then popS (a :: r) p else b :: a :: r
  | t, _ => t
theorem turnZ_self (a b : Pt) : turnZ a b b = 0 := by unfold turnZ; grind
theorem turnZ_tail (a b : Pt) : turnZ a b a = 0 := by unfold turnZ; grind
theorem chain_head {s : Int} {Q : Pt → Prop} : ∀ {t : List Pt} {a : Pt} {r : List Pt}, Chain s Q t → t = a :: r → Q a
  | _, a, [], h, e => by subst e; exact h.1
  | _, a, _ :: _, h, e => by subst e; exact h.1
theorem chain_ext {s : Int} (hs : Sg s) {Q : Pt → Prop} {p : Pt} (hp : ∀ q, Q q → Lt s q p) : ∀ (t : List Pt), Chain s Q t → (match t with | b :: a :: _ => 0 ≤ turnZ a b p | _ => True) → Chain s (fun q => Q q ∨ q = p) t
  | [], h, _ => h
  | [a], h, _ => ⟨.inl h.1, fun q hq => by
      rcases hq with hq | rfl
      · exact h.2 q hq
      · exact .inr (hp a h.1)⟩
  | [b, a], ⟨h1, h2, h3, h4, h5⟩, ht => ⟨.inl h1, h2, fun q hq => by
      rcases hq with hq | rfl
      · exact h3 q hq
      · exact ht, h4, chain_ext hs hp [a] h5 trivial⟩
  | b :: a :: z :: r, ⟨h1, h2, h3, h4, h5⟩, ht => ⟨.inl h1, h2, fun q hq => by
      rcases hq with hq | rfl
      · exact h3 q hq
      · exact ht, h4, chain_ext hs hp (a :: z :: r) h5 (by
        have ha : Q a := chain_head h5 rfl
        have hz : Lt s z a := h5.2.1
        have hap := hp a ha
        show 0 ≤ turnZ z a p
        have e1 : turnZ z a b = cross (sub a z) (sub b a) := by unfold turnZ cross sub; grind
        have e2 : turnZ z a p = cross (sub a z) (sub p a) := by unfold turnZ cross sub; grind
        have ht : 0 ≤ turnZ a b p := ht
        rw [turn_cross] at ht
        rw [e2]
        exact up_trans hs hz h2 hap (by rw [← e1]; exact Int.le_of_lt h4) ht)⟩
theorem chain_push {s : Int} (hs : Sg s) {Q : Pt → Prop} {p : Pt} (hp : ∀ q, Q q → Lt s q p) (hb : ∀ q, Q q → Bd q) (hbp : Bd p) : ∀ (t : List Pt) {h : Pt} {r : List Pt}, t = h :: r → Chain s Q t → (∀ q, Q q → Lt s h q → 0 ≤ turnZ h p q) →
    Chain s (fun q => Q q ∨ q = p) (p :: popS t p)
  | [h], _, _, e, hc, hH => by
    cases e
    refine ⟨.inr rfl, hp h hc.1, fun q hq => ?_, trivial, chain_ext hs hp [h] hc trivial⟩
    rcases hq with hq | rfl
    · rcases hc.2 q hq with rfl | h2
      · rw [turnZ_tail]; exact Int.le_refl _
      · exact hH q hq h2
    · rw [turnZ_self]; exact Int.le_refl _
  | b :: a :: r, _, _, e, hc, hH => by
    cases e
    have hc' := hc
    obtain ⟨h1, h2, h3, h4, h5⟩ := hc
    have ha : Q a := chain_head h5 rfl
    have ex : turn a b p = turnZ a b p := turn_exact (hb a ha) (hb b h1) hbp
    unfold popS
    split
    · rename_i ht
      rw [ex] at ht
      refine chain_push hs hp hb hbp (a :: r) rfl h5 fun q hq haq => ?_
      have k1 := h3 q hq
      rw [turn_cross] at k1 ht ⊢
      have e3 : cross (sub p a) (sub b a) = - cross (sub b a) (sub p a) := by unfold cross; grind
      exact up_trans hs (hp a ha) h2 haq (by rw [e3]; omega) k1
    · rename_i ht
      rw [ex] at ht
      refine ⟨.inr rfl, hp b h1, fun q hq => ?_, by show 0 < turnZ a b p; omega, chain_ext hs hp _ hc' (by show 0 ≤ turnZ a b p; omega)⟩
      rcases hq with hq | rfl
      · rcases lt_total hs q b with rfl | hlt | hlt
        · rw [turnZ_tail]; exact Int.le_refl _
        · have k1 := h3 q hq
          have e1 : turnZ a b q = cross (sub b q) (sub b a) := by unfold turnZ cross sub; grind
          have e2 : turnZ a b p = cross (sub b a) (sub p b) := by unfold turnZ cross sub; grind
          have e3 : turnZ b p q = cross (sub b q) (sub p b) := by unfold turnZ cross sub; grind
          rw [e3]
          exact up_trans hs hlt h2 (hp b h1) (by rw [← e1]; exact k1) (by rw [← e2]; omega)
        · exact hH q hq hlt
      · rw [turnZ_self]; exact Int.le_refl _
def stackOf (l : List Pt) : List Pt := l.foldl (fun s p => p :: popS s p) []
theorem chain_congr {s : Int} {Q Q' : Pt → Prop} (h : ∀ q, Q q ↔ Q' q) {t : List Pt} (hc : Chain s Q t) : Chain s Q' t := by
  have : Q = Q' := funext fun q => propext (h q)
  rwa [← this]
theorem foldl_chain {s : Int} (hs : Sg s) : ∀ (l : List Pt) (t : List Pt) (h : Pt) (r : List Pt) (Q : Pt → Prop), t = h :: r → Chain s Q t → (∀ q, Q q → q = h ∨ Lt s q h) → (h :: l).Pairwise (Lt s) → (∀ q, Q q → Bd q) → (∀ q ∈ l, Bd q) →
    Chain s (fun q => Q q ∨ q ∈ l) (l.foldl (fun s p => p :: popS s p) t) ∧ (l.foldl (fun s p => p :: popS s p) t).head? = (h :: l).getLast?
  | [], t, h, r, Q, e, hc, hm, hp, hb, hbl => ⟨chain_congr (fun q => by simp) hc, by rw [e]; rfl⟩
  | p :: l, t, h, r, Q, e, hc, hm, hp, hb, hbl => by
    have hhp : Lt s h p := (List.pairwise_cons.1 hp).1 p (by simp)
    have hpq : ∀ q, Q q → Lt s q p := fun q hq => by
      rcases hm q hq with rfl | h1
      · exact hhp
      · exact lt_trans hs h1 hhp
    have hc1 := chain_push hs hpq hb (hbl p (by simp)) t e hc fun q hq hlt => by
      rcases hm q hq with rfl | h1
      · exact (lt_irrefl hs hlt).elim
      · exact (lt_irrefl hs (lt_trans hs h1 hlt)).elim
    obtain ⟨k1, k2⟩ := foldl_chain hs l (p :: popS t p) p (popS t p) (fun q => Q q ∨ q = p) rfl hc1 (fun q hq => by
        rcases hq with hq | rfl
        · exact .inr (hpq q hq)
        · exact .inl rfl) (List.pairwise_cons.1 hp).2 (fun q hq => by
        rcases hq with hq | rfl
        · exact hb q hq
        · exact hbl q (by simp)) (fun q hq => hbl q (by simp [hq]))
    refine ⟨chain_congr (fun q => by simp [or_assoc]) k1, ?_⟩
    rw [List.foldl_cons, k2, List.getLast?_cons_cons]
theorem stack_chain {s : Int} (hs : Sg s) {l : List Pt} (hl : l ≠ []) (hp : l.Pairwise (Lt s)) (hb : ∀ q ∈ l, Bd q) : Chain s (· ∈ l) (stackOf l) ∧ (stackOf l).head? = l.getLast? := by
  cases l with
  | nil => exact absurd rfl hl
  | cons a l =>
    obtain ⟨k1, k2⟩ := foldl_chain hs l [a] a [] (· = a) rfl ⟨rfl, fun q hq => .inl hq⟩ (fun q hq => .inl hq) hp (fun q hq => hq ▸ hb a (by simp)) (fun q hq => hb q (by simp [hq]))
    exact ⟨chain_congr (fun q => by simp) k1, k2⟩

/-! ### What an edge of the chain says -/
/-- From a on to b nothing of Q lies to the right, and what lies on the line lies between. -/
def Edge (Q : Pt → Prop) (a b : Pt) : Prop := Q a ∧ Q b ∧ a ≠ b ∧ ∀ q, Q q → 0 ≤ turnZ a b q ∧ (turnZ a b q = 0 → OnZ q a b)
theorem on_of_lt {s : Int} (hs : Sg s) {a b q : Pt} (hab : Lt s a b) (haq : q = a ∨ Lt s a q) (hqb : q = b ∨ Lt s q b) (h0 : turnZ a b q = 0) : OnZ q a b := by
  refine ⟨h0, ?_⟩
  unfold Lt sub at *
  rw [up_lin hs] at *
  simp only at *
  rcases haq with rfl | haq
  · omega
  · rcases hqb with rfl | hqb
    · omega
    · unfold turnZ at h0
      rcases hs with rfl | rfl
      · by_cases h2 : b.2 = a.2
        · rw [h2, Int.sub_self, Int.zero_mul, Int.sub_zero] at h0
          have : (b.1 - a.1) * (q.2 - a.2) = 0 := h0
          omega
        · have h3 := prop_btw (u := b.1 - a.1) (v := q.1 - a.1) (d := b.2 - a.2) (e := q.2 - a.2)
          by_cases hq2 : q.2 = a.2
          · have : (b.2 - a.2) * (q.1 - a.1) = 0 := by rw [hq2, Int.sub_self, Int.mul_zero] at h0; omega
            have : q.1 - a.1 = 0 := (Int.mul_eq_zero.1 this).resolve_left (by omega)
            omega
          · have h4 := h3 (by omega) (by omega) (by omega)
            rcases Int.le_total 0 (b.1 - a.1) with h5 | h5
            · have := h4.1 h5; omega
            · have := h4.2 h5; omega
      · by_cases h2 : b.2 = a.2
        · rw [h2, Int.sub_self, Int.zero_mul, Int.sub_zero] at h0
          have : (b.1 - a.1) * (q.2 - a.2) = 0 := h0
          omega
        · have h3 := prop_btw (u := b.1 - a.1) (v := q.1 - a.1) (d := a.2 - b.2) (e := a.2 - q.2)
          by_cases hq2 : q.2 = a.2
          · have : (b.2 - a.2) * (q.1 - a.1) = 0 := by rw [hq2, Int.sub_self, Int.mul_zero] at h0; omega
            have : q.1 - a.1 = 0 := (Int.mul_eq_zero.1 this).resolve_left (by omega)
            omega
          · have h4 := h3 (by omega) (by omega) (by grind)
            rcases Int.le_total 0 (b.1 - a.1) with h5 | h5
            · have := h4.1 h5; omega
            · have := h4.2 h5; omega
/-- All edges of a chain below a point that lies behind its last one. -/
theorem chain_edges {s : Int} (hs : Sg s) {Q : Pt → Prop} : ∀ (t : List Pt), Chain s Q t → (∀ b r, t = b :: r → (∀ q, Q q → q = b ∨ Lt s q b) ∨ ∃ y, Q y ∧ Lt s b y ∧ (match r with | [] => True | a :: _ => 0 < turnZ a b y) ∧ ∀ q, Q q → 0 ≤ turnZ b y q) →
    ∀ t1 b a t2, t = t1 ++ b :: a :: t2 → Edge Q a b
  | [], h, _, _, _, _, _, _ => h.elim
  | [x], _, _, t1, b, a, t2, e => by
    have := congrArg List.length e
    simp at this
    omega
  | b :: a :: r, hc, hy, t1, b', a', t2, e => by
    have hc' := hc
    obtain ⟨h1, h2, h3, h4, h5⟩ := hc
    have ha : Q a := chain_head h5 rfl
    cases t1 with
    | cons x t1 =>
      injection e with e1 e2
      refine chain_edges hs (a :: r) h5 (fun b0 r0 e0 => .inr ⟨b, h1, ?_, ?_, ?_⟩) t1 b' a' t2 e2
      · injection e0 with e3 e4; subst e3; exact h2
      · injection e0 with e3 e4; subst e3 e4; exact h4
      · injection e0 with e3 e4; subst e3; exact h3
    | nil =>
      injection e with e1 e2
      injection e2 with e2 e3
      subst e1 e2 e3
      refine ⟨ha, h1, fun e => lt_irrefl hs (e ▸ h2), fun q hq => ⟨h3 q hq, fun h0 => ?_⟩⟩
      refine on_of_lt hs h2 ?_ ?_ h0
      · -- q is not ahead of a
        cases r with
        | nil => exact h5.2 q hq
        | cons z r =>
          rcases lt_total hs q a with h | h | h
          · exact .inl h
          · exfalso
            have hz : Lt s z a := h5.2.1
            have k1 := h5.2.2.1 q hq
            have h4 : 0 < turnZ z a b := h4
            have e1 : turnZ z a b = cross (sub a z) (sub b a) := by unfold turnZ cross sub; grind
            have e2 : turnZ z a q = - cross (sub a z) (sub a q) := by unfold turnZ cross sub; grind
            have e3 : turnZ a b q = - cross (sub b a) (sub a q) := by unfold turnZ cross sub; grind
            have := up_par hs (u := sub a z) h2 h (by omega) (by rw [← e1]; exact h4)
            omega
          · exact .inr h
      · -- nor behind b
        rcases hy b (a :: r) rfl with h | ⟨y, hQy, hby, hty, hall⟩
        · exact h q hq
        · rcases lt_total hs q b with h | h | h
          · exact .inl h
          · exact .inr h
          · exfalso
            have hty : 0 < turnZ a b y := hty
            have k1 := hall q hq
            have e1 : turnZ a b y = - cross (sub y b) (sub b a) := by unfold turnZ cross sub; grind
            have e2 : turnZ b y q = cross (sub y b) (sub q b) := by unfold turnZ cross sub; grind
            have e3 : turnZ a b q = cross (sub b a) (sub q b) := by unfold turnZ cross sub; grind
            have := up_par hs (u := (-(sub y b).1, -(sub y b).2)) h2 h (by omega) (by unfold cross at e1 ⊢; simp only; grind)
            unfold cross at this e2
            simp only at this
            grind

/-! ### The closed way round -/
def Edges (Q : Pt → Prop) (P : List Pt) : Prop := ∀ L1 a b L2, P = L1 ++ a :: b :: L2 → Edge Q a b
theorem edges_of_chain {s : Int} (hs : Sg s) {l : List Pt} (hl : l ≠ []) (hp : l.Pairwise (Lt s)) (hb : ∀ q ∈ l, Bd q) : Edges (· ∈ l) (stackOf l).reverse := by
  obtain ⟨k1, k2⟩ := stack_chain hs hl hp hb
  intro L1 a b L2 e
  have e2 : stackOf l = L2.reverse ++ b :: a :: L1.reverse := by
    have := congrArg List.reverse e
    rw [List.reverse_reverse] at this
    rw [this]; simp
  refine chain_edges hs _ k1 (fun b0 r0 e0 => .inl fun q hq => ?_) L2.reverse b a L1.reverse e2
  rw [e0] at k2
  have k2 : some b0 = l.getLast? := k2
  obtain ⟨l0, rfl⟩ : ∃ l0, l = l0 ++ [b0] := by
    obtain ⟨l0, e1⟩ := List.getLast?_eq_some_iff.1 k2.symm
    exact ⟨l0, e1⟩
  rcases List.mem_append.1 hq with h | h
  · exact .inr ((List.pairwise_append.1 hp).2.2 q h b0 (by simp))
  · exact .inl (by simpa using h)
theorem popS_last : ∀ (t : List Pt) (p : Pt), t ≠ [] → (popS t p).getLast? = t.getLast? ∧ popS t p ≠ []
  | [], _, h => absurd rfl h
  | [a], _, _ => ⟨rfl, by simp [popS]⟩
  | b :: a :: r, p, _ => by
    unfold popS
    split
    · obtain ⟨h1, h2⟩ := popS_last (a :: r) p (by simp)
      exact ⟨by rw [h1]; rfl, h2⟩
    · exact ⟨rfl, by simp⟩
theorem popS_len : ∀ (t : List Pt) (p : Pt), (popS t p).length ≤ t.length
  | [], _ => by simp [popS]
  | [a], _ => by simp [popS]
  | b :: a :: r, p => by
    unfold popS
    split
    · exact Nat.le_trans (popS_len (a :: r) p) (by simp)
    · exact Nat.le_refl _
theorem fold_last : ∀ (l t : List Pt), t ≠ [] → (l.foldl (fun s p => p :: popS s p) t).getLast? = t.getLast?
  | [], t, _ => rfl
  | p :: l, t, h => by
    rw [List.foldl_cons, fold_last l _ (by simp)]
    obtain ⟨h1, h2⟩ := popS_last t p h
    cases hq : popS t p with
    | nil => exact absurd hq h2
    | cons x r => rw [List.getLast?_cons_cons, ← hq, h1]
theorem fold_len : ∀ (l t : List Pt), (l.foldl (fun s p => p :: popS s p) t).length ≤ t.length + l.length
  | [], t => by simp
  | p :: l, t => by
    rw [List.foldl_cons]
    have := fold_len l (p :: popS t p)
    have := popS_len t p
    simp at *
    omega
theorem stack_last {l : List Pt} : (stackOf l).getLast? = l.head? := by
  cases l with
  | nil => rfl
  | cons a l => exact fold_last l [a] (by simp)
theorem stack_len (l : List Pt) : (stackOf l).length ≤ l.length := by
  have := fold_len l []
  simpa [stackOf] using this
theorem stack_ne {l : List Pt} (h : l ≠ []) : stackOf l ≠ [] := by
  cases l with
  | nil => exact absurd rfl h
  | cons a l =>
    intro e
    have : (stackOf (a :: l)).getLast? = some a := stack_last
    rw [e] at this
    cases this
/-- The points of a chain rise. -/
theorem chain_sorted {s : Int} (hs : Sg s) {Q : Pt → Prop} : ∀ (t : List Pt), Chain s Q t → t.Pairwise fun b a => Lt s a b
  | [], h => h.elim
  | [a], _ => by simp
  | b :: a :: r, ⟨h1, h2, h3, h4, h5⟩ => by
    have ih := chain_sorted hs (a :: r) h5
    refine List.pairwise_cons.2 ⟨fun x hx => ?_, ih⟩
    rcases List.mem_cons.1 hx with rfl | hx
    · exact h2
    · exact lt_trans hs ((List.pairwise_cons.1 ih).1 x hx) h2
def halfM (l : List Pt) : List Pt := (stackOf l).tail.reverse
def rawHull (l : List Pt) : List Pt := halfM l ++ halfM l.reverse
def wayR (l : List Pt) : List Pt := halfM l ++ (stackOf l.reverse).reverse
theorem half_drop (l : List Pt) : halfM l = (stackOf l).reverse.dropLast := by
  unfold halfM
  cases stackOf l with
  | nil => rfl
  | cons a t => simp
theorem lt_neg {a b : Pt} : Lt 1 a b ↔ Lt (-1) b a := by
  unfold Lt sub Up
  simp only
  omega
/-- What the closed way is: it begins and ends with the least point, has it nowhere else, and each step is an edge. -/
structure Round (Q : Pt → Prop) (P : List Pt) : Prop where
  edge : Edges Q P
  ends : ∀ a, P.head? = some a → P.getLast? = some a
  once : ∀ a j, P.head? = some a → 0 < j → j + 1 < P.length → P[j]? ≠ some a
theorem round_of {l : List Pt} (hl : l ≠ []) (hp : l.Pairwise (Lt 1)) (hb : ∀ q ∈ l, Bd q) : Round (· ∈ l) (wayR l) ∧ (wayR l).head? = l.head? ∧ (wayR l).dropLast = rawHull l := by
  have hl' : l.reverse ≠ [] := by simpa using hl
  have hp' : l.reverse.Pairwise (Lt (-1)) := List.pairwise_reverse.2 (hp.imp fun h => lt_neg.1 h)
  have hb' : ∀ q ∈ l.reverse, Bd q := fun q h => hb q (by simpa using h)
  obtain ⟨c1, d1⟩ := stack_chain (.inl rfl) hl hp hb
  obtain ⟨c2, d2⟩ := stack_chain (.inr rfl) hl' hp' hb'
  have e1 := edges_of_chain (.inl rfl) hl hp hb
  have e2 := edges_of_chain (.inr rfl) hl' hp' hb'
  have g1 := stack_last (l := l)
  have g2 := stack_last (l := l.reverse)
  have s1 := chain_sorted (.inl rfl) _ c1
  have s2 := chain_sorted (.inr rfl) _ c2
  have n1 := stack_ne hl
  have n2 := stack_ne hl'
  unfold wayR rawHull halfM
  generalize stackOf l = A at *
  generalize stackOf l.reverse = B at *
  obtain ⟨m, A, rfl⟩ := List.exists_cons_of_ne_nil n1
  obtain ⟨c, B, rfl⟩ := List.exists_cons_of_ne_nil n2
  simp only [List.tail_cons, List.reverse_cons] at *
  -- B's last one is m
  have hm : l.getLast? = some m := d1.symm
  have hBm : (c :: B).getLast? = some m := by rw [g2, List.head?_reverse, hm]
  have hc : l.head? = some c := by rw [← List.getLast?_reverse, ← d2]; rfl
  have hAc : (m :: A).getLast? = some c := by rw [g1, hc]
  have hBr : (B.reverse ++ [c]).head? = some m := by
    rw [← List.reverse_cons, List.head?_reverse, hBm]
  obtain ⟨B', hB'⟩ : ∃ B', B.reverse ++ [c] = m :: B' := by
    cases h : B.reverse ++ [c] with
    | nil => rw [h] at hBr; cases hBr
    | cons x r => rw [h] at hBr; simp at hBr; subst hBr; exact ⟨r, rfl⟩
  have hhead : (A.reverse ++ (B.reverse ++ [c])).head? = some c := by
    cases hA : A with
    | nil =>
      rw [hA] at hAc
      have : m = c := by simpa using hAc
      rw [hB', this]; rfl
    | cons x r =>
      rw [hA, List.getLast?_cons_cons] at hAc
      rw [List.head?_append, List.head?_reverse, hAc]; rfl
  refine ⟨⟨?_, ?_, ?_⟩, by rw [hhead, hc], ?_⟩
  · -- edges
    rw [hB']
    intro L1 a b L2 e
    rcases Nat.lt_or_ge (L1.length + 1) (A.reverse.length + 1) with h | h
    · -- within the first chain
      have e3 : A.reverse ++ [m] = L1 ++ a :: b :: (L2.take (A.reverse.length - 1 - L1.length)) := by
        have := congrArg (List.take (A.reverse.length + 1)) e
        rw [List.take_append, List.take_of_length_le (by omega), Nat.add_sub_cancel_left] at this
        rw [show List.take 1 (m :: B') = [m] from rfl] at this
        rw [this, List.take_append, List.take_of_length_le (by omega)]
        rw [show A.reverse.length + 1 - L1.length = (A.reverse.length - 1 - L1.length) + 2 by omega]
        rfl
      exact e1 _ _ _ _ e3
    · have e3 : m :: B' = (L1.drop A.reverse.length) ++ a :: b :: L2 := by
        have := congrArg (List.drop A.reverse.length) e
        rw [List.drop_append, List.drop_eq_nil_of_le (Nat.le_refl _), Nat.sub_self, List.nil_append, List.drop_zero] at this
        rw [this, List.drop_append_of_le_length (by omega)]
      have := e2 _ _ _ _ (by rw [hB']; exact e3)
      obtain ⟨k1, k2, k3, k4⟩ := this
      exact ⟨by simpa using k1, by simpa using k2, k3, fun q hq => k4 q (by simpa using hq)⟩
  · intro a ha
    rw [hhead] at ha
    rw [← List.append_assoc, List.getLast?_append, ← ha]
    rfl
  · intro a j ha h0 hj e
    rw [hhead] at ha
    obtain rfl : c = a := Option.some.inj ha
    have hlenP : (A.reverse ++ (B.reverse ++ [c])).length = A.length + B.length + 1 := by simp; omega
    rw [hlenP] at hj
    rcases Nat.lt_or_ge j A.length with h | h
    · rw [List.getElem?_append_left (by simpa using h)] at e
      -- a point of the first chain that is not its first
      rw [List.getElem?_reverse h] at e
      have hlast : A.getLast? = some c := by
        cases A with
        | nil => simp at h
        | cons x r => rwa [List.getLast?_cons_cons] at hAc
      rw [List.getLast?_eq_getElem?] at hlast
      have hs := (List.pairwise_cons.1 s1).2
      rw [List.pairwise_iff_getElem] at hs
      obtain ⟨h3, h4⟩ := List.getElem?_eq_some_iff.1 e
      obtain ⟨h5, h6⟩ := List.getElem?_eq_some_iff.1 hlast
      have := hs (A.length - 1 - j) (A.length - 1) h3 h5 (by omega)
      rw [h4, h6] at this
      exact lt_irrefl (.inl rfl) this
    · rw [List.getElem?_append_right (by simpa using h), List.length_reverse, List.getElem?_append_left (by simp; omega)] at e
      have hmem : c ∈ B := by
        have := List.mem_of_getElem? e
        simpa using this
      exact lt_irrefl (.inr rfl) ((List.pairwise_cons.1 s2).1 c hmem)
  · rw [← List.append_assoc, List.dropLast_concat]

/-! ### The walk round a list of points -/
def wstep (last next q : Pt) : Pt := if q ≠ last ∧ (next = last ∨ turn last next q < 0 ∨ (turn last next q = 0 ∧ sqd last next < sqd last q)) then q else next
theorem sqd_nonneg (a b : Pt) : 0 ≤ sqd a b := by
  unfold sqd
  have h : ∀ x : Int, 0 ≤ x * x := fun x => by
    rcases Int.le_total 0 x with h | h
    · exact Int.mul_nonneg h h
    · exact Int.mul_nonneg_of_nonpos_of_nonpos h h
  have := h (a.1 - b.1)
  have := h (a.2 - b.2)
  omega
theorem on_near {a b q : Pt} (ha : Bd a) (hb : Bd b) (hq : Bd q) (h : OnZ q a b) : sqd a q ≤ sqd a b ∧ (sqd a q = sqd a b → q = b) := by
  have h1 := (onS_iff hq ha hb).2 h
  have h2 : onS b a b = true := onS_end
  refine ⟨?_, fun e => key_inj ha hb h1 h2 e⟩
  obtain ⟨s, t, hs, ht, hw⟩ := way_of ha hb
  have w1 := hw q h1
  rw [sqd_way hs ht a q, sqd_way hs ht a b]
  have := sq_mono w1.x0 w1.xA
  have := sq_mono w1.y0 w1.yB
  omega
theorem wfold {Q : Pt → Prop} (hQ : ∀ q, Q q → Bd q) {a b : Pt} (he : Edge Q a b) : ∀ (l : List Pt) (st : Pt), (∀ q ∈ l, Q q) → (st = b ∨ (b ∈ l ∧ (st = a ∨ Q st))) → l.foldl (wstep a) st = b
  | [], st, _, h => by
    rcases h with h | h
    · exact h
    · simp at h
  | q :: l, st, hl, h => by
    obtain ⟨k1, k2, k3, k4⟩ := id he
    have ba := hQ a k1
    have bb := hQ b k2
    have hq := hl q (by simp)
    have bq := hQ q hq
    rw [List.foldl_cons]
    refine wfold hQ he l _ (fun x hx => hl x (by simp [hx])) ?_
    by_cases hsb : st = b
    · subst hsb
      refine .inl ?_
      unfold wstep
      obtain ⟨h1, h2⟩ := k4 q hq
      rw [turn_exact ba bb bq]
      rw [if_neg]
      rintro ⟨-, h3 | h3 | ⟨h3, h4⟩⟩
      · exact k3 h3.symm
      · omega
      · have := (on_near ba bb bq (h2 h3)).1; omega
    · obtain ⟨hb, hst⟩ := h.resolve_left hsb
      by_cases hqb : q = b
      · subst hqb
        refine .inl ?_
        unfold wstep
        rw [if_pos]
        refine ⟨fun e => k3 e.symm, ?_⟩
        by_cases hsa : st = a
        · exact .inl hsa
        · have hQs : Q st := hst.resolve_left hsa
          have bs := hQ st hQs
          obtain ⟨h1, h2⟩ := k4 st hQs
          rw [turn_exact ba bs bb]
          have e : turnZ a st q = - turnZ a q st := by unfold turnZ; grind
          refine .inr ?_
          by_cases h0 : turnZ a q st = 0
          · refine .inr ⟨by omega, ?_⟩
            have h3 := on_near ba bb bs (h2 h0)
            have h5 : sqd a st ≠ sqd a q := fun e => hsb (h3.2 e)
            have h6 := h3.1
            omega
          · exact .inl (by omega)
      · have hbl : b ∈ l := (List.mem_cons.1 hb).resolve_left fun e => hqb e.symm
        refine .inr ⟨hbl, ?_⟩
        unfold wstep
        split
        · exact .inr hq
        · exact hst

/-! ### Points in order, each once -/
def pLess (p q : Pt) : Bool := decide (p.2 < q.2 ∨ (p.2 = q.2 ∧ p.1 < q.1))
theorem pLess_iff {p q : Pt} : pLess p q = true ↔ Lt 1 p q := by
  unfold pLess Lt sub Up
  rw [decide_eq_true_eq]
  simp only
  omega
def compM : List Pt → List Pt
  | [] => []
  | [a] => [a]
  | a :: b :: r => if a = b then compM (b :: r) else a :: compM (b :: r)
theorem compM_mem : ∀ {l : List Pt} {p : Pt}, p ∈ compM l ↔ p ∈ l
  | [], p => by simp [compM]
  | [a], p => by simp [compM]
  | a :: b :: r, p => by
    unfold compM
    split
    · rename_i h; subst h; rw [compM_mem]; simp
    · simp only [List.mem_cons, compM_mem (l := b :: r)]
theorem compM_head : ∀ {l : List Pt}, (compM l).head? = l.head?
  | [] => rfl
  | [a] => rfl
  | a :: b :: r => by
    unfold compM
    split
    · rename_i h; subst h; rw [compM_head]; rfl
    · rfl
theorem compM_sorted : ∀ {l : List Pt}, l.Pairwise (fun p q => pLess q p = false) → (compM l).Pairwise (Lt 1)
  | [], _ => by simp [compM]
  | [a], _ => by simp [compM]
  | a :: b :: r, h => by
    obtain ⟨h1, h2⟩ := List.pairwise_cons.1 h
    unfold compM
    split
    · exact compM_sorted h2
    · rename_i hne
      refine List.pairwise_cons.2 ⟨fun q hq => ?_, compM_sorted h2⟩
      have hq := compM_mem.1 hq
      have hab : Lt 1 a b := by
        rcases lt_total (.inl rfl) a b with h | h | h
        · exact absurd h hne
        · exact h
        · have := h1 b (by simp)
          rw [pLess_iff.2 h] at this; cases this
      rcases List.mem_cons.1 hq with rfl | hq
      · exact hab
      · have h3 := (List.pairwise_cons.1 h2).1 q hq
        rcases lt_total (.inl rfl) b q with h | h | h
        · exact h ▸ hab
        · exact lt_trans (.inl rfl) hab h
        · rw [pLess_iff.2 h] at h3; cases h3
def ordP (xs : List Pt) : List Pt := compM (xs.mergeSort fun p q => !pLess q p)
theorem ordP_mem {xs : List Pt} {p : Pt} : p ∈ ordP xs ↔ p ∈ xs := by unfold ordP; rw [compM_mem, List.mem_mergeSort]
theorem ordP_sorted (xs : List Pt) : (ordP xs).Pairwise (Lt 1) := by
  refine compM_sorted ?_
  have := List.pairwise_mergeSort (le := fun p q => !pLess q p) (fun a b c h1 h2 => ?_) (fun a b => ?_) xs
  · exact this.imp fun h => by simpa using h
  · simp only [Bool.not_eq_true', ← Bool.not_eq_true, pLess_iff] at *
    intro h
    rcases lt_total (.inl rfl) a b with e | e | e
    · subst e; exact h2 h
    · exact h2 (lt_trans (.inl rfl) h e)
    · exact h1 e
  · simp only [Bool.or_eq_true, Bool.not_eq_true', ← Bool.not_eq_true, pLess_iff]
    rcases lt_total (.inl rfl) a b with e | e | e
    · subst e; exact .inl (lt_irrefl (.inl rfl))
    · exact .inl fun h => lt_irrefl (.inl rfl) (lt_trans (.inl rfl) e h)
    · exact .inr fun h => lt_irrefl (.inl rfl) (lt_trans (.inl rfl) e h)
theorem compM_len : ∀ (l : List Pt), (compM l).length ≤ l.length
  | [] => by simp [compM]
  | [a] => by simp [compM]
  | a :: b :: r => by
    unfold compM
    have := compM_len (b :: r)
    split <;> simp at * <;> omega
theorem ordP_len (xs : List Pt) : (ordP xs).length ≤ xs.length := by
  unfold ordP
  exact Nat.le_trans (compM_len _) (by simp)
theorem half_len (l : List Pt) : (halfM l).length ≤ l.length - 1 := by
  unfold halfM
  have := stack_len l
  simp
  omega
theorem raw_len (l : List Pt) : (rawHull l).length ≤ 2 * (l.length - 1) := by
  unfold rawHull
  have := half_len l
  have := half_len l.reverse
  simp at *
  omega
def hullM (xs : List Pt) : List Pt := if decide (xs.length ≤ 30) && (xs.all ptOk && decide (3 ≤ (rawHull (ordP xs)).length)) then rawHull (ordP xs) else []
end Go.Proofs.Ytfjmlaciogmndaa
