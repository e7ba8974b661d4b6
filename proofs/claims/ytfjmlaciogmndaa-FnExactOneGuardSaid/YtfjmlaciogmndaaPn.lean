/- The right side of all walls; who sees both ends of a wall is not on its right. -/
import Derived.Test.YtfjmlaciogmndaaPm
namespace Go.Proofs.Ytfjmlaciogmndaa.Geo
set_option linter.unusedSimpArgs false
set_option linter.unusedVariables false
/-! ### Along the right side of all walls -/
def outd (u v w : Pt) : Pt := if 0 < turnZ u v w then psub (psub v u) (psub w v) else psub (psub w v) (psub v u)
theorem outd_right {u v w : Pt} (h : turnZ u v w ≠ 0) : turnZ u v (padd u (outd u v w)) < 0 ∧ turnZ v w (padd v (outd u v w)) < 0 := by
  unfold outd
  split
  · have e1 : turnZ u v (padd u (psub (psub v u) (psub w v))) = - turnZ u v w := by unfold turnZ padd psub; grind
    have e2 : turnZ v w (padd v (psub (psub v u) (psub w v))) = - turnZ u v w := by unfold turnZ padd psub; grind
    omega
  · have e1 : turnZ u v (padd u (psub (psub w v) (psub v u))) = turnZ u v w := by unfold turnZ padd psub; grind
    have e2 : turnZ v w (padd v (psub (psub w v) (psub v u))) = turnZ u v w := by unfold turnZ padd psub; grind
    omega
/-- A point near corner j + 1, to the right of both of its walls. -/
def qpt (P : Poly) (K : Int) (j : Nat) : Pt := padd (smul K (P.v (j + 1))) (outd (P.v j) (P.v (j + 1)) (P.v (j + 2)))
theorem far_part {a b p p' : Pt} {f : Aff} (fa : 0 < f.ev a) (fb : 0 < f.ev b) (fp : f.ev p < 0) (fp' : f.ev p' < 0) (d d' : Pt) : Late fun K => Part (smul K a) (smul K b) (padd (smul K p) d) (padd (smul K p') d') := by
  refine ⟨max (f.lin d) (f.lin d'), fun K hK h0 => ⟨f.sc K, by rw [ev_sc0]; exact pp h0 fa, by rw [ev_sc0]; exact pp h0 fb, ?_, ?_⟩⟩
  · rw [ev_sc]
    have : K * f.ev p ≤ K * (-1) := Int.mul_le_mul_of_nonneg_left (by omega) (by omega)
    omega
  · rw [ev_sc]
    have : K * f.ev p' ≤ K * (-1) := Int.mul_le_mul_of_nonneg_left (by omega) (by omega)
    omega
theorem turn_cyc (a b c : Pt) : turnZ b c a = turnZ a b c := by unfold turnZ; grind
/-- One wall has both ends on or to the left of the line a b, and the other two points are to its right. -/
theorem side_part {a b x y q r : Pt} (hx : 0 ≤ turnZ a b x) (hy : 0 ≤ turnZ a b y) (hq : turnZ a b q < 0) (hr : turnZ a b r < 0) : Part x y q r :=
  ⟨Aff.lc 1 (Aff.turn a b) 0 (Aff.turn a b) 1, by rw [ev_lc, ev_turn]; omega, by rw [ev_lc, ev_turn]; omega, by rw [ev_lc, ev_turn]; omega, by rw [ev_lc, ev_turn]; omega⟩
theorem late_neg {t c : Int} (h : t < 0) : Late fun K => K * (K * t + c) < 0 := by
  refine ⟨c + 1, fun K hK h0 => pm h0 ?_⟩
  have : K * t ≤ K * (-1) := Int.mul_le_mul_of_nonneg_left (by omega) (by omega)
  omega
theorem link_at {P : Poly} (h : SimpleP P) (hb : ∀ j, turnZ (P.v j) (P.v (j + 1)) (P.v (j + 2)) ≠ 0) (j d : Nat) (hd : d < P.n) :
    Late fun K => Part (smul K (P.v (j + 1 + d))) (smul K (P.v (j + 1 + d + 1))) (qpt P K j) (qpt P K (j + 1)) := by
  have h3 := h.n3
  obtain ⟨r1, r2⟩ := outd_right (hb j)
  obtain ⟨r3, r4⟩ := outd_right (hb (j + 1))
  have r3 : turnZ (P.v (j + 1)) (P.v (j + 2)) (padd (P.v (j + 1)) (outd (P.v (j + 1)) (P.v (j + 2)) (P.v (j + 3)))) < 0 := r3
  have r4 : turnZ (P.v (j + 2)) (P.v (j + 3)) (padd (P.v (j + 2)) (outd (P.v (j + 1)) (P.v (j + 2)) (P.v (j + 3)))) < 0 := r4
  have hb1 : turnZ (P.v (j + 1)) (P.v (j + 2)) (P.v (j + 3)) ≠ 0 := hb (j + 1)
  have z : ∀ a b : Pt, turnZ a b a = 0 ∧ turnZ a b b = 0 := fun a b => by unfold turnZ; grind
  -- both points are to the right of the wall between them
  have own : ∀ K : Int, 0 < K → turnZ (smul K (P.v (j + 1))) (smul K (P.v (j + 2))) (qpt P K j) < 0 ∧ turnZ (smul K (P.v (j + 1))) (smul K (P.v (j + 2))) (qpt P K (j + 1)) < 0 := fun K hK => by
    unfold qpt
    rw [turn_sc, turn_sc, (z _ _).1, show j + 1 + 1 = j + 2 from rfl, show j + 1 + 2 = j + 3 from rfl, (z _ _).2, Int.mul_zero, Int.zero_add, Int.zero_add]
    exact ⟨pm hK r2, pm hK r3⟩
  rcases (show d = 0 ∨ d = 1 ∨ d = P.n - 1 ∨ (2 ≤ d ∧ d + 2 ≤ P.n) by omega) with rfl | rfl | e | ⟨d1, d2⟩
  · refine Late.of fun K hK => ?_
    obtain ⟨o1, o2⟩ := own K hK
    show Part (smul K (P.v (j + 1))) (smul K (P.v (j + 2))) _ _
    exact side_part (by rw [(z _ _).1]; omega) (by rw [(z _ _).2]; omega) o1 o2
  · show Late fun K => Part (smul K (P.v (j + 2))) (smul K (P.v (j + 3))) _ _
    rcases (show 0 < turnZ (P.v (j + 1)) (P.v (j + 2)) (P.v (j + 3)) ∨ turnZ (P.v (j + 1)) (P.v (j + 2)) (P.v (j + 3)) < 0 by omega) with g | g
    · refine Late.of fun K hK => ?_
      obtain ⟨o1, o2⟩ := own K hK
      exact side_part (by rw [(z _ _).2]; omega) (by rw [turn_sc0]; have := pp hK g; have := pp hK this; omega) o1 o2
    · refine (late_neg (t := turnZ (P.v (j + 2)) (P.v (j + 3)) (P.v (j + 1))) (c := turnZ (P.v (j + 2)) (P.v (j + 3)) (padd (P.v (j + 2)) (outd (P.v j) (P.v (j + 1)) (P.v (j + 2))))) (by rw [turn_cyc]; exact g)).imp fun K hK hl => ?_
      refine side_part (a := smul K (P.v (j + 2))) (b := smul K (P.v (j + 3))) (by rw [(z _ _).1]; omega) (by rw [(z _ _).2]; omega) ?_ ?_
      · unfold qpt; rw [turn_sc]; exact hl
      · unfold qpt
        rw [turn_sc, show j + 1 + 1 = j + 2 from rfl, show j + 1 + 2 = j + 3 from rfl, (z _ _).1, Int.mul_zero, Int.zero_add]
        exact pm hK r4
  · subst e
    have e1 : P.v (j + 1 + (P.n - 1)) = P.v j := by rw [show j + 1 + (P.n - 1) = j + P.n by omega, P.per]
    have e2 : P.v (j + 1 + (P.n - 1) + 1) = P.v (j + 1) := by rw [show j + 1 + (P.n - 1) + 1 = j + 1 + P.n by omega, P.per]
    rw [e1, e2]
    rcases (show 0 < turnZ (P.v j) (P.v (j + 1)) (P.v (j + 2)) ∨ turnZ (P.v j) (P.v (j + 1)) (P.v (j + 2)) < 0 by have := hb j; omega) with g | g
    · refine Late.of fun K hK => ?_
      obtain ⟨o1, o2⟩ := own K hK
      exact side_part (by rw [turn_sc0, turn_cyc]; have := pp hK g; have := pp hK this; omega) (by rw [(z _ _).1]; omega) o1 o2
    · refine (late_neg (t := turnZ (P.v j) (P.v (j + 1)) (P.v (j + 2))) (c := turnZ (P.v j) (P.v (j + 1)) (padd (P.v j) (outd (P.v (j + 1)) (P.v (j + 2)) (P.v (j + 3))))) g).imp fun K hK hl => ?_
      refine side_part (a := smul K (P.v j)) (b := smul K (P.v (j + 1))) (by rw [(z _ _).1]; omega) (by rw [(z _ _).2]; omega) ?_ ?_
      · unfold qpt
        rw [turn_sc, (z _ _).2, Int.mul_zero, Int.zero_add]
        exact pm hK r1
      · unfold qpt; rw [turn_sc]; exact hl
  · obtain ⟨f, fa, fb, fq, fr⟩ := (h.apart (j + 1) d d1 d2).symm
    exact far_part (f := Aff.lc 2 f 0 f (-1)) (by rw [ev_lc]; omega) (by rw [ev_lc]; omega) (by rw [ev_lc]; omega) (by rw [ev_lc]; omega) _ _
theorem qpt_per (P : Poly) (K : Int) (j : Nat) : qpt P K (j + P.n) = qpt P K j := by
  unfold qpt
  rw [show j + P.n + 1 = j + 1 + P.n by omega, show j + P.n + 2 = j + 2 + P.n by omega, P.per, P.per, P.per]
theorem qpt_mod (P : Poly) (K : Int) (j i : Nat) : qpt P K (j % P.n + i) = qpt P K (j + i) := by
  unfold qpt
  rw [Nat.add_assoc, Nat.add_assoc, Nat.add_assoc, Nat.add_assoc, P.per_add, P.per_add, P.per_add]
/-- The points are linked along all walls. -/
theorem links {P : Poly} (h : SimpleP P) (hb : ∀ j, turnZ (P.v j) (P.v (j + 1)) (P.v (j + 2)) ≠ 0) : Late fun K => ∀ j k, k < P.n → Part (smul K (P.v k)) (smul K (P.v (k + 1))) (qpt P K j) (qpt P K (j + 1)) := by
  have h3 := h.n3
  have : Late fun K => ∀ j, j < P.n → ∀ d, d < P.n → Part (smul K (P.v (j + 1 + d))) (smul K (P.v (j + 1 + d + 1))) (qpt P K j) (qpt P K (j + 1)) := Late.all fun j _ => Late.all fun d hd => link_at h hb j d hd
  refine this.imp fun K _ H j k hk => ?_
  have hr : j % P.n < P.n := Nat.mod_lt _ (by omega)
  have e0 : qpt P K (j % P.n) = qpt P K j := qpt_mod P K j 0
  have e1 : qpt P K (j % P.n + 1) = qpt P K (j + 1) := qpt_mod P K j 1
  rw [← e0, ← e1]
  generalize j % P.n = i at *
  rcases (show i + 1 ≤ k ∨ k < i + 1 by omega) with g | g
  · have := H i hr (k - (i + 1)) (by omega)
    rwa [show i + 1 + (k - (i + 1)) = k by omega] at this
  · have := H i hr (k + P.n - (i + 1)) (by omega)
    rwa [show i + 1 + (k + P.n - (i + 1)) = k + P.n by omega, P.per, show k + P.n + 1 = k + 1 + P.n by omega, P.per] at this
theorem trace_same {P : Poly} {K : Int} (hl : ∀ j k, k < P.n → Part (smul K (P.v k)) (smul K (P.v (k + 1))) (qpt P K j) (qpt P K (j + 1))) (h : Aff) (j : Nat) : wnd h (P.sc K).way (qpt P K j) = wnd h (P.sc K).way (qpt P K 0) := by
  induction j with
  | zero => rfl
  | succ j ih => rw [← ih]; exact (wnd_step h (P.sc K).way fun k hk => hl j k hk).symm
/-- Nothing is counted along the right side of the walls of a positive polygon. -/
theorem trace_zero {P : Poly} (hP : SimpleP P) {h : Aff} (hg : Gen h P) (hp : Pos h P) {K : Int} (hK : 0 < K) (hl : ∀ j k, k < P.n → Part (smul K (P.v k)) (smul K (P.v (k + 1))) (qpt P K j) (qpt P K (j + 1))) (j : Nat) : wnd (h.sc K) (P.sc K).way (qpt P K j) = 0 := by
  have h3 := hP.n3
  obtain ⟨s, hs, ht⟩ := hp
  rw [trace_same hl, ← trace_same hl _ s]
  have ht : 0 < turnZ (P.v s) (P.v (s + 1)) (P.v (s + 2)) := ht
  have h0 : h.ev (P.v (s + 1)) < h.ev (P.v s) := hs 0 (by omega) (by omega)
  have h2 : h.ev (P.v (s + 1)) < h.ev (P.v (s + 2)) := hs 2 (by omega) (by omega)
  refine wnd_below fun k hk => ?_
  have hk : k < P.n := hk
  have low : h.ev (P.v (s + 1)) ≤ h.ev (P.v k) := by
    have hr : s % P.n < P.n := Nat.mod_lt _ (by omega)
    obtain ⟨t, ht, e⟩ : ∃ t, t < P.n ∧ P.v (s + t) = P.v k := by
      rcases (show s % P.n ≤ k ∨ k < s % P.n by omega) with g | g
      · exact ⟨k - s % P.n, by omega, by rw [← P.per_add]; congr 1; omega⟩
      · exact ⟨k + P.n - s % P.n, by omega, by rw [← P.per_add, show s % P.n + (k + P.n - s % P.n) = k + P.n by omega, P.per]⟩
    rcases (show t = 1 ∨ t ≠ 1 by omega) with rfl | g
    · rw [← e]; omega
    · have : h.ev (P.v (s + 1)) < h.ev (P.v (s + t)) := hs t ht g
      rw [e] at this; omega
  show (h.sc K).ev (qpt P K s) < (h.sc K).ev (smul K (P.v k))
  unfold qpt
  rw [ev_sc, ev_sc0]
  have hd : h.lin (outd (P.v s) (P.v (s + 1)) (P.v (s + 2))) < 0 := by
    unfold outd
    rw [if_pos ht]
    have : h.lin (psub (psub (P.v (s + 1)) (P.v s)) (psub (P.v (s + 2)) (P.v (s + 1)))) = (h.ev (P.v (s + 1)) - h.ev (P.v s)) - (h.ev (P.v (s + 2)) - h.ev (P.v (s + 1))) := by unfold Aff.lin psub Aff.ev; grind
    omega
  have := Int.mul_le_mul_of_nonneg_left low (show 0 ≤ K by omega)
  omega
/-! ### Who sees both ends of a wall is not on its right -/
def NC (h : Aff) : Prop := h.u ≠ 0 ∨ h.v ≠ 0
theorem sq0 {a : Int} (h : a ≠ 0) : 0 < a * a := by
  rcases (show 0 < a ∨ a < 0 by omega) with g | g
  · exact pp g g
  · exact mm g g
theorem sq1 (a : Int) : 0 ≤ a * a := by
  rcases (show 0 ≤ a ∨ a ≤ 0 by omega) with g | g
  · exact nn0 g g
  · exact mm0 g g
theorem nc_sq {h : Aff} (hn : NC h) : 0 < h.u * h.u + h.v * h.v := by
  rcases hn with g | g
  · have := sq0 g; have := sq1 h.v; omega
  · have := sq0 g; have := sq1 h.u; omega
theorem wnd_any {h1 h2 : Aff} (n1 : NC h1) (n2 : NC h2) {P : Way} {p : Pt} (ho : ∀ k, k < P.n → Off p (P.v k) (P.v (k + 1))) : wnd h1 P p = wnd h2 P p := by
  by_cases hd : h1.u * h2.v - h1.v * h2.u = 0
  · have q1 := nc_sq n1
    have q2 := nc_sq n2
    have d1 : h1.u * (⟨-h1.v, h1.u, 0⟩ : Aff).v - h1.v * (⟨-h1.v, h1.u, 0⟩ : Aff).u ≠ 0 := by
      have : h1.u * (⟨-h1.v, h1.u, 0⟩ : Aff).v - h1.v * (⟨-h1.v, h1.u, 0⟩ : Aff).u = h1.u * h1.u + h1.v * h1.v := by show h1.u * h1.u - h1.v * -h1.v = _; grind
      omega
    have d2 : h2.u * (⟨-h1.v, h1.u, 0⟩ : Aff).v - h2.v * (⟨-h1.v, h1.u, 0⟩ : Aff).u ≠ 0 := by
      intro e
      have e : h2.u * h1.u - h2.v * -h1.v = 0 := e
      have e' : h2.u * h1.u + h2.v * h1.v = 0 := by rw [Int.mul_neg] at e; omega
      have : (h1.u * h1.u + h1.v * h1.v) * (h2.u * h2.u + h2.v * h2.v) = (h2.u * h1.u + h2.v * h1.v) * (h2.u * h1.u + h2.v * h1.v) + (h1.u * h2.v - h1.v * h2.u) * (h1.u * h2.v - h1.v * h2.u) := by grind
      rw [e', hd, Int.mul_zero] at this
      have := pp q1 q2
      omega
    rw [wnd_two d1 ho, wnd_two d2 ho]
  · exact wnd_two hd ho
/-- Outside, at scale K. -/
def Outp (P : Poly) (K : Int) (m : Pt) : Prop := (∀ k, k < P.n → Off m (smul K (P.v k)) (smul K (P.v (k + 1)))) ∧ ∃ h, NC h ∧ wnd h (P.sc K).way m = 0
/-- No point between a and b is outside. -/
def NoOut (P : Poly) (a b : Pt) : Prop := ∀ s t : Int, 0 ≤ s → 0 ≤ t → 0 < s + t → ¬ Outp P (s + t) (padd (smul s a) (smul t b))
theorem smul2 (K L : Int) (p : Pt) : smul K (smul L p) = smul (K * L) p := by unfold smul; simp [Int.mul_assoc]
theorem wnd_scale (h : Aff) (P : Poly) {L : Int} (hL : 0 < L) (K : Int) (p : Pt) : wnd (h.sc L) (P.sc (L * K)).way (smul L p) = wnd h (P.sc K).way p := sumN_congr fun k _ => by
  show crN (h.sc L) (smul L p) (smul (L * K) (P.v k)) (smul (L * K) (P.v (k + 1))) = crN h p (smul K (P.v k)) (smul K (P.v (k + 1)))
  rw [← smul2, ← smul2]
  exact crN_sc h hL _ _ _
/-- What holds of two points holds of their means. -/
theorem Part.mean {a b q r : Pt} (h : Part a b q r) {s t s' t' : Int} (hs : 0 ≤ s) (ht : 0 ≤ t) (hs' : 0 ≤ s') (ht' : 0 ≤ t') {L : Int} (hL : 0 < L) (e : s + t = L) (e' : s' + t' = L) : Part (smul L a) (smul L b) (padd (smul s q) (smul t r)) (padd (smul s' q) (smul t' r)) := by
  obtain ⟨f, fa, fb, fq, fr⟩ := h
  have ev : ∀ x y : Int, x + y = L → (f.sc L).ev (padd (smul x q) (smul y r)) = x * f.ev q + y * f.ev r := fun x y exy => by subst exy; unfold Aff.ev Aff.sc padd smul; grind
  refine ⟨f.sc L, by rw [ev_sc0]; exact pp hL fa, by rw [ev_sc0]; exact pp hL fb, ?_, ?_⟩
  · rw [ev s t e]; have := pm0 hs fq; have := pm0 ht fr; omega
  · rw [ev s' t' e']; have := pm0 hs' fq; have := pm0 ht' fr; omega
/-- Linked points that are outside stay clear of what is not outside. -/
theorem link_part {P : Poly} {K : Int} (hK : 0 < K) {q r a b : Pt} (hqr : q ≠ r) {h : Aff} (hn : NC h) (hl : ∀ k, k < P.n → Part (smul K (P.v k)) (smul K (P.v (k + 1))) q r) (h0 : wnd h (P.sc K).way q = 0) (hno : NoOut P a b) : Part (smul K a) (smul K b) q r := by
  rcases part_or_meet (smul K a) (smul K b) hqr with g | ⟨s, t, s', t', hs, ht, hs', ht', hst, hst', g⟩
  · exact g.symm
  · exfalso
    have hm : padd (smul s q) (smul t r) = padd (smul (s' * K) a) (smul (t' * K) b) := by
      have g1 := g ⟨1, 0, 0⟩
      have g2 := g ⟨0, 1, 0⟩
      simp only [Aff.ev, smul, Int.one_mul, Int.zero_mul, Int.zero_add, Int.add_zero] at g1 g2
      unfold padd smul
      refine Prod.ext ?_ ?_
      · show s * q.1 + t * r.1 = s' * K * a.1 + t' * K * b.1
        rw [g1, Int.mul_assoc, Int.mul_assoc]
      · show s * q.2 + t * r.2 = s' * K * a.2 + t' * K * b.2
        rw [g2, Int.mul_assoc, Int.mul_assoc]
    have eL : s' * K + t' * K = (s + t) * K := by rw [hst', Int.add_mul]
    refine hno (s' * K) (t' * K) (nn0 hs' (by omega)) (nn0 ht' (by omega)) (by rw [eL]; exact pp hst hK) ?_
    rw [← hm, eL]
    have pw : ∀ k, k < P.n → Part (smul ((s + t) * K) (P.v k)) (smul ((s + t) * K) (P.v (k + 1))) (padd (smul s q) (smul t r)) (smul (s + t) q) := fun k hk => by
      have := (hl k hk).mean hs ht (show 0 ≤ s + t by omega) (Int.le_refl 0) hst rfl (Int.add_zero _)
      rw [smul2, smul2] at this
      have e0 : padd (smul (s + t) q) (smul 0 r) = smul (s + t) q := by unfold padd smul; simp
      rwa [e0] at this
    refine ⟨fun k hk => (pw k hk).off1, h.sc (s + t), hn, ?_⟩
    rw [wnd_step (h.sc (s + t)) (P.sc ((s + t) * K)).way (q := padd (smul s q) (smul t r)) (r := smul (s + t) q) pw, wnd_scale h P hst, h0]
/-- A triangle as a polygon. -/
def tri (a b c : Pt) : Poly := ⟨3, fun j => if j % 3 = 0 then a else if j % 3 = 1 then b else c, fun j => by show (if (j + 3) % 3 = 0 then a else if (j + 3) % 3 = 1 then b else c) = _; rw [Nat.add_mod_right]⟩
theorem tri_simple {a b c : Pt} (h : 0 < turnZ a b c) : SimpleP (tri a b c) := by
  refine simple_of (Nat.le_refl 3) (fun j hj => ?_) (fun i k h1 h2 h3 => ?_)
  · have hj : j < 3 := hj
    rcases (show j = 0 ∨ j = 1 ∨ j = 2 by omega) with rfl | rfl | rfl
    · show turnZ a b c ≠ 0; omega
    · show turnZ b c a ≠ 0; rw [turn_cyc]; omega
    · show turnZ c a b ≠ 0; rw [turn_cyc, turn_cyc]; omega
  · have h2 : k < 3 := h2
    exact absurd ⟨by omega, by show k + 1 = 3; omega⟩ h3
theorem tri_area (a b c : Pt) : (tri a b c).area = turnZ a b c := by
  show (0 + crs0 a b) + crs0 b c + crs0 c a = _
  unfold crs0 turnZ; grind
theorem own_right {P : Poly} (hb : ∀ j, turnZ (P.v j) (P.v (j + 1)) (P.v (j + 2)) ≠ 0) (j : Nat) {K : Int} (hK : 0 < K) : turnZ (smul K (P.v (j + 1))) (smul K (P.v (j + 2))) (qpt P K j) < 0 ∧ turnZ (smul K (P.v (j + 1))) (smul K (P.v (j + 2))) (qpt P K (j + 1)) < 0 := by
  have z : ∀ a b : Pt, turnZ a b a = 0 ∧ turnZ a b b = 0 := fun a b => by unfold turnZ; grind
  have r2 := (outd_right (hb j)).2
  have r3 := (outd_right (hb (j + 1))).1
  unfold qpt
  rw [turn_sc, turn_sc, (z _ _).1, show j + 1 + 1 = j + 2 from rfl, show j + 1 + 2 = j + 3 from rfl, (z _ _).2, Int.mul_zero, Int.zero_add, Int.zero_add]
  exact ⟨pm hK r2, pm hK r3⟩
theorem late_ne {x y c c' : Int} (h : x ≠ y) : Late fun K => K * x + c ≠ K * y + c' := by
  refine ⟨c - c' + c' - c + 1 + (if c ≤ c' then c' - c else c - c'), fun K hK h0 e => ?_⟩
  rcases (show x + 1 ≤ y ∨ y + 1 ≤ x by omega) with g | g
  · have := Int.mul_le_mul_of_nonneg_left g (show 0 ≤ K by omega)
    rw [Int.mul_add, Int.mul_one] at this
    split at hK <;> omega
  · have := Int.mul_le_mul_of_nonneg_left g (show 0 ≤ K by omega)
    rw [Int.mul_add, Int.mul_one] at this
    split at hK <;> omega
theorem not_right {P : Poly} (hP : SimpleP P) (hb : ∀ j, turnZ (P.v j) (P.v (j + 1)) (P.v (j + 2)) ≠ 0) (ha : 0 < P.area) {p : Pt} {j : Nat} (h1 : NoOut P p (P.v (j + 1))) (h2 : NoOut P p (P.v (j + 2))) : 0 ≤ turnZ (P.v (j + 1)) (P.v (j + 2)) p := by
  rcases (show 0 ≤ turnZ (P.v (j + 1)) (P.v (j + 2)) p ∨ turnZ (P.v (j + 1)) (P.v (j + 2)) p < 0 by omega) with g | hr
  · exact g
  exfalso
  have h3 := hP.n3
  obtain ⟨a, hA⟩ : ∃ a, a = P.v (j + 1) := ⟨_, rfl⟩
  obtain ⟨b, hB⟩ : ∃ b, b = P.v (j + 2) := ⟨_, rfl⟩
  rw [← hA, ← hB] at hr
  rw [← hA] at h1
  rw [← hB] at h2
  have hτ : 0 < turnZ p b a := by have : turnZ p b a = - turnZ a b p := by unfold turnZ; grind
                                  omega
  have hT := tri_simple hτ
  have neg : ∀ f : Aff, Late fun K => ∀ c, c < P.n → (f.ev (P.v (c + 1)) < 0 → (f.sc K).ev (qpt P K c) < 0) := fun f => Late.all fun c _ => by
    refine ⟨f.lin (outd (P.v c) (P.v (c + 1)) (P.v (c + 2))) + 1, fun K hK h0 hf => ?_⟩
    show (f.sc K).ev (qpt P K c) < 0
    unfold qpt
    rw [ev_sc]
    have : K * f.ev (P.v (c + 1)) ≤ K * (-1) := Int.mul_le_mul_of_nonneg_left (by omega) (by omega)
    omega
  -- the middle of the wall, at scale 2, is off the other sides of the triangle
  have o1 : Off (padd a b) (smul 2 p) (smul 2 b) := off_turn (by
    have : turnZ (smul 2 p) (smul 2 b) (padd a b) = 2 * turnZ p b a := by unfold turnZ smul padd; grind
    omega)
  have o2 : Off (padd a b) (smul 2 a) (smul 2 p) := off_turn (by
    have : turnZ (smul 2 a) (smul 2 p) (padd a b) = 2 * turnZ p b a := by unfold turnZ smul padd; grind
    omega)
  obtain ⟨D, hD⟩ : ∃ D, D = padd (outd (P.v j) (P.v (j + 1)) (P.v (j + 2))) (outd (P.v (j + 1)) (P.v (j + 2)) (P.v (j + 3))) := ⟨_, rfl⟩
  obtain ⟨M, hM0, hg1, hg2⟩ := ((hM_gen hP).and (hM_gen hT)).get
  have dif : Late fun K => ∀ i, i < P.n → ((hM M).sc K).ev (qpt P K i) ≠ ((hM M).sc K).ev (qpt P K (i + 1)) := Late.all fun i hi => by
    have hs : (hM M).ev (P.v (i + 1)) ≠ (hM M).ev (P.v (i + 2)) := by
      rcases (show i + 1 < P.n ∨ i + 1 = P.n by omega) with g | g
      · exact hg1.sloped (by omega) (i + 1) g
      · rw [g, P.vn, show i + 2 = 1 + P.n by omega, P.per]
        exact hg1 0 1 (by omega) (by omega) (by decide)
    refine (late_ne hs (c := (hM M).lin (outd (P.v i) (P.v (i + 1)) (P.v (i + 2)))) (c' := (hM M).lin (outd (P.v (i + 1)) (P.v (i + 2)) (P.v (i + 3))))).imp fun K _ H => ?_
    unfold qpt
    rw [ev_sc, ev_sc]; exact H
  obtain ⟨K, hK, hl, hdif, n1, n2, n3, c1, c2⟩ := ((links hP hb).and (dif.and ((neg (Aff.turn p b)).and ((neg (Aff.turn b a)).and ((neg (Aff.turn a p)).and ((o1.near D (0, 0)).and (o2.near D (0, 0)))))))).get
  have hPp := (pos_iff hP hg1).2 ha
  have z := trace_zero hP hg1 hPp hK hl
  have hnc : NC ((hM M).sc K) := .inl (by show (1 : Int) ≠ 0; decide)
  have hTl := ((pos_iff hT hg2).2 (by rw [tri_area]; exact hτ)).left hT hg2
  -- the links stay clear of the triangle's sides
  have hne : ∀ i, qpt P K i ≠ qpt P K (i + 1) := fun i e => by
    refine hdif (i % P.n) (Nat.mod_lt _ (by omega)) ?_
    have e0 : qpt P K (i % P.n) = qpt P K i := qpt_mod P K i 0
    have e1 : qpt P K (i % P.n + 1) = qpt P K (i + 1) := qpt_mod P K i 1
    rw [e0, e1, e]
  have clr : ∀ i k, k < 3 → Part (smul K ((tri p b a).v k)) (smul K ((tri p b a).v (k + 1))) (qpt P K i) (qpt P K (i + 1)) := by
    intro i k hk
    rcases (show k = 0 ∨ k = 1 ∨ k = 2 by omega) with rfl | rfl | rfl
    · exact link_part hK (hne i) hnc (fun k hk => hl i k hk) (z i) h2
    · have := hl i ((j + 1) % P.n) (Nat.mod_lt _ (by omega))
      rw [P.per_mod, P.per_add] at this
      show Part (smul K b) (smul K a) _ _
      rw [hA, hB]
      obtain ⟨f, fa, fb, fq, fr⟩ := this
      exact ⟨f, fb, fa, fq, fr⟩
    · have := link_part hK (hne i) hnc (fun k hk => hl i k hk) (z i) h1
      obtain ⟨f, fa, fb, fq, fr⟩ := this
      exact ⟨f, fb, fa, fq, fr⟩
  -- counted once in the middle of the link along this wall
  have one : wnd ((hM M).sc K) ((tri p b a).sc K).way (qpt P K j) = 1 := by
    have e2 : ∀ x : Pt, smul K (smul 2 x) = smul (2 * K) x := fun x => by rw [smul2, Int.mul_comm]
    have ex : padd (smul K (padd a b)) (0, 0) = smul K (padd a b) := by unfold padd; simp
    have em : padd (smul K (padd a b)) D = padd (qpt P K j) (qpt P K (j + 1)) := by
      rw [hD, hA, hB]; unfold qpt padd smul
      show _ = ((K * (P.v (j + 1)).1 + (outd (P.v j) (P.v (j + 1)) (P.v (j + 2))).1) + (K * (P.v (j + 2)).1 + (outd (P.v (j + 1)) (P.v (j + 2)) (P.v (j + 3))).1), (K * (P.v (j + 1)).2 + (outd (P.v j) (P.v (j + 1)) (P.v (j + 2))).2) + (K * (P.v (j + 2)).2 + (outd (P.v (j + 1)) (P.v (j + 2)) (P.v (j + 3))).2))
      refine Prod.ext ?_ ?_
      · show K * ((P.v (j + 1)).1 + (P.v (j + 2)).1) + (_ + _) = _
        rw [Int.mul_add]; omega
      · show K * ((P.v (j + 1)).2 + (P.v (j + 2)).2) + (_ + _) = _
        rw [Int.mul_add]; omega
    rw [e2, e2, ex, em] at c1 c2
    have hon : OnI (smul K (padd a b)) (smul (2 * K) b) (smul (2 * K) a) := ⟨1, 1, by decide, by decide, by unfold smul padd; grind, by unfold smul padd; grind⟩
    obtain ⟨q1, q2⟩ := own_right hb j hK
    rw [← hA, ← hB] at q1 q2
    have w1 := wnd_left (h := (hM M).sc (2 * K)) (P := (tri p b a).way.sc (2 * K)) (sloped_sc (hg2.sloped (by show 2 ≤ 3; omega)) (by omega)) (k := 1) (p := padd (qpt P K j) (qpt P K (j + 1))) (x := smul K (padd a b)) (by show 1 < 3; omega) hon (fun k hk hk1 => by
      have hk : k < 3 := hk
      rcases (show k = 0 ∨ k = 2 by omega) with rfl | rfl
      · exact c1
      · exact c2) (by
      show 0 < turnZ (smul (2 * K) b) (smul (2 * K) a) (padd (qpt P K j) (qpt P K (j + 1)))
      have : turnZ (smul (2 * K) b) (smul (2 * K) a) (padd (qpt P K j) (qpt P K (j + 1))) = -(2 * (turnZ (smul K a) (smul K b) (qpt P K j) + turnZ (smul K a) (smul K b) (qpt P K (j + 1)))) := by unfold turnZ smul padd; grind
      omega)
    have w2 := hTl.2.1 (2 * K) 1 (smul K (padd a b)) (by omega) (by show 1 < 3; omega) hon
    rw [w2] at w1
    have w3 : wnd ((hM M).sc (2 * K)) ((tri p b a).sc (2 * K)).way (padd (qpt P K j) (qpt P K (j + 1))) = wnd ((hM M).sc (2 * K)) ((tri p b a).sc (2 * K)).way (smul 2 (qpt P K j)) := wnd_step _ ((tri p b a).sc (2 * K)).way fun k hk => by
      have := (clr j k hk).mean (s := 1) (t := 1) (s' := 2) (t' := 0) (L := 2) (by decide) (by decide) (by decide) (by decide) (by decide) rfl rfl
      rw [smul2, smul2] at this
      have e1 : padd (smul 1 (qpt P K j)) (smul 1 (qpt P K (j + 1))) = padd (qpt P K j) (qpt P K (j + 1)) := by unfold padd smul; simp
      have e0 : padd (smul 2 (qpt P K j)) (smul 0 (qpt P K (j + 1))) = smul 2 (qpt P K j) := by unfold padd smul; simp
      rwa [e1, e0] at this
    have w4 := wnd_scale ((hM M).sc K) (tri p b a) (show (0 : Int) < 2 by decide) K (qpt P K j)
    have eh : ((hM M).sc K).sc 2 = (hM M).sc (2 * K) := by unfold Aff.sc; rw [← Int.mul_assoc]
    rw [eh] at w4
    rw [← w4, ← w3]; exact w1
  have all : ∀ i, wnd ((hM M).sc K) ((tri p b a).sc K).way (qpt P K (j + i)) = 1 := fun i => by
    induction i with
    | zero => exact one
    | succ i ih => rw [← ih]; exact (wnd_step _ ((tri p b a).sc K).way fun k hk => clr (j + i) k hk).symm
  have all' : ∀ c, c < P.n → wnd ((hM M).sc K) ((tri p b a).sc K).way (qpt P K c) = 1 := fun c hc => by
    have hr : j % P.n < P.n := Nat.mod_lt _ (by omega)
    rcases (show j % P.n ≤ c ∨ c < j % P.n by omega) with g | g
    · have := all (c - j % P.n)
      rw [← qpt_mod] at this
      rwa [show j % P.n + (c - j % P.n) = c by omega] at this
    · have := all (c + P.n - j % P.n)
      rw [← qpt_mod] at this
      rwa [show j % P.n + (c + P.n - j % P.n) = c + P.n by omega, qpt_per] at this
  have tv : ∀ k, k < 3 → (tri p b a).v k = p ∨ (tri p b a).v k = b ∨ (tri p b a).v k = a := fun k hk => by
    rcases (show k = 0 ∨ k = 1 ∨ k = 2 by omega) with rfl | rfl | rfl
    · exact .inl rfl
    · exact .inr (.inl rfl)
    · exact .inr (.inr rfl)
  have ins : ∀ f : Aff, 0 ≤ f.ev p → 0 ≤ f.ev b → 0 ≤ f.ev a → (∀ c, c < P.n → (f.ev (P.v (c + 1)) < 0 → (f.sc K).ev (qpt P K c) < 0)) → ∀ c, c < P.n → 0 ≤ f.ev (P.v (c + 1)) := fun f fp fb fa hn c hc => by
    rcases (show 0 ≤ f.ev (P.v (c + 1)) ∨ f.ev (P.v (c + 1)) < 0 by omega) with g | g
    · exact g
    · exfalso
      have q := hn c hc g
      have : wnd ((hM M).sc K) ((tri p b a).sc K).way (qpt P K c) = 0 := wnd_out _ (f.sc K) fun k hk => by
        show _ < (f.sc K).ev (smul K ((tri p b a).v k))
        rw [ev_sc0]
        rcases tv k hk with e | e | e <;> rw [e]
        · have := nn0 (show 0 ≤ K by omega) fp; omega
        · have := nn0 (show 0 ≤ K by omega) fb; omega
        · have := nn0 (show 0 ≤ K by omega) fa; omega
      have := all' c hc
      omega
  have z0 : ∀ a b : Pt, turnZ a b a = 0 ∧ turnZ a b b = 0 := fun a b => by unfold turnZ; grind
  have i1 := ins (Aff.turn p b) (by rw [ev_turn, (z0 _ _).1]; omega) (by rw [ev_turn, (z0 _ _).2]; omega) (by rw [ev_turn]; omega) n1
  have i2 := ins (Aff.turn b a) (by rw [ev_turn, turn_cyc]; omega) (by rw [ev_turn, (z0 _ _).1]; omega) (by rw [ev_turn, (z0 _ _).2]; omega) n2
  have onto : ∀ m, m < P.n → ∃ c, c < P.n ∧ P.v (c + 1) = P.v m := fun m hm => by
    rcases (show m = 0 ∨ 0 < m by omega) with rfl | g
    · exact ⟨P.n - 1, by omega, by rw [show P.n - 1 + 1 = P.n by omega, P.vn]⟩
    · exact ⟨m - 1, by omega, by rw [show m - 1 + 1 = m by omega]⟩
  refine no_back hP ha (j := j + 1) fun m hm => ?_
  obtain ⟨c, hc, e⟩ := onto m hm
  have k1 := i1 c hc
  have k2 := i2 c hc
  rw [ev_turn, e] at k1 k2
  rw [show j + 1 + 1 = j + 2 from rfl, ← hA, ← hB]
  refine ⟨k2, fun e0 => ?_⟩
  have e0' : turnZ a b (P.v m) = 0 := by have : turnZ a b (P.v m) = - turnZ b a (P.v m) := by unfold turnZ; grind
                                         omega
  have hab : a ≠ b := by rintro rfl; rw [(z0 _ _).2] at hτ; omega
  have lm := line_mean e0' (Aff.turn p b)
  rw [ev_turn, ev_turn, ev_turn, (z0 p b).2, Int.mul_zero, Int.add_zero] at lm
  have hN := sq_pos hab
  have g1 := nn0 (Int.le_of_lt hN) k1
  rcases (show dotZ a b (P.v m) ≤ 0 ∨ 0 < dotZ a b (P.v m) by omega) with g | g
  · exact g
  · have := mp (show -(dotZ a b (P.v m)) < 0 by omega) hτ
    omega
/-! ### Who is left of all walls sees everything -/
theorem sumN_le {f g : Nat → Int} : ∀ {n : Nat}, (∀ k, k < n → f k ≤ g k) → sumN f n ≤ sumN g n
  | 0, _ => Int.le_refl _
  | n + 1, h => by
    have h1 := sumN_le (n := n) fun k hk => h k (by omega)
    have h2 := h n (by omega)
    simp only [sumN]; omega
/-- A point on the line of a wall, at a level between its ends, is not off it. -/
theorem lev_not_off {h : Aff} {p a b : Pt} (ht : turnZ a b p = 0) (h1 : h.ev a ≤ h.ev p) (h2 : h.ev p < h.ev b) : ¬ Off p a b := by
  rintro ⟨f, fa, fb, fp⟩
  have e : (h.ev b - h.ev a) * f.ev p = (h.ev b - h.ev p) * f.ev a + (h.ev p - h.ev a) * f.ev b + turnZ a b p * (h.u * f.v - h.v * f.u) ∨
      (h.ev b - h.ev a) * f.ev p = (h.ev b - h.ev p) * f.ev a + (h.ev p - h.ev a) * f.ev b - turnZ a b p * (h.u * f.v - h.v * f.u) := by
    unfold turnZ Aff.ev; grind
  rw [ht, Int.zero_mul] at e
  have g1 := pm (show 0 < h.ev b - h.ev a by omega) fp
  have g2 := pp (show 0 < h.ev b - h.ev p by omega) fa
  have g3 := nn0 (show 0 ≤ h.ev p - h.ev a by omega) (show 0 ≤ f.ev b by omega)
  omega
theorem star_wall {p q a b : Pt} (hk : 0 ≤ turnZ a b p) {s t L : Int} (hs : 0 ≤ s) (ht : 0 ≤ t) (e : s + t = L) (hL : 0 < L) (ho : Off (padd (smul s p) (smul t q)) (smul L a) (smul L b)) :
    crN (Aff.turn p q) q a b ≤ crN ((Aff.turn p q).sc L) (padd (smul s p) (smul t q)) (smul L a) (smul L b) := by
  have l1 : (Aff.turn p q).ev q = 0 := by rw [ev_turn]; unfold turnZ; grind
  have l2 : ((Aff.turn p q).sc L).ev (padd (smul s p) (smul t q)) = 0 := by subst e; unfold Aff.turn Aff.ev Aff.sc padd smul; grind
  have la : ((Aff.turn p q).sc L).ev (smul L a) = L * (Aff.turn p q).ev a := ev_sc0 _ _ _
  have lb : ((Aff.turn p q).sc L).ev (smul L b) = L * (Aff.turn p q).ev b := ev_sc0 _ _ _
  have tm : turnZ (smul L a) (smul L b) (padd (smul s p) (smul t q)) = L * (s * turnZ a b p + t * turnZ a b q) := by subst e; unfold turnZ padd smul; grind
  have td : turnZ a b q - turnZ a b p = (Aff.turn p q).ev a - (Aff.turn p q).ev b := by rw [ev_turn, ev_turn]; unfold turnZ; grind
  have np := nn0 hs hk
  have A1 : (Aff.turn p q).ev a ≤ 0 → L * (Aff.turn p q).ev a ≤ 0 := fun g => pm0 (by omega) g
  have A2 : 0 < L * (Aff.turn p q).ev a → 0 < (Aff.turn p q).ev a := fun g => by
    rcases (show 0 < (Aff.turn p q).ev a ∨ (Aff.turn p q).ev a ≤ 0 by omega) with k | k
    · exact k
    · have := A1 k; omega
  have B1 : 0 < (Aff.turn p q).ev b → 0 < L * (Aff.turn p q).ev b := fun g => pp hL g
  have B2 : L * (Aff.turn p q).ev b ≤ 0 → (Aff.turn p q).ev b ≤ 0 := fun g => by
    rcases (show (Aff.turn p q).ev b ≤ 0 ∨ 0 < (Aff.turn p q).ev b by omega) with k | k
    · exact k
    · have := B1 k; omega
  unfold crN
  rw [l1, l2, la, lb, tm]
  by_cases c1 : (Aff.turn p q).ev a ≤ 0 ∧ 0 < (Aff.turn p q).ev b ∧ 0 < turnZ a b q
  · obtain ⟨g1, g2, g3⟩ := c1
    have nq := nn0 ht (show 0 ≤ turnZ a b q by omega)
    have : 0 < L * (s * turnZ a b p + t * turnZ a b q) := by
      rcases (show 0 < s * turnZ a b p + t * turnZ a b q ∨ s * turnZ a b p + t * turnZ a b q = 0 by omega) with k | k
      · exact pp hL k
      · exfalso
        refine lev_not_off (h := (Aff.turn p q).sc L) ?_ ?_ ?_ ho
        · rw [tm, k, Int.mul_zero]
        · rw [l2, la]; exact A1 g1
        · rw [l2, lb]; exact B1 g2
    rw [if_pos ⟨g1, g2, g3⟩, if_pos ⟨A1 g1, B1 g2, this⟩]
    omega
  · rw [if_neg c1]
    by_cases c2 : L * (Aff.turn p q).ev b ≤ 0 ∧ 0 < L * (Aff.turn p q).ev a ∧ L * (s * turnZ a b p + t * turnZ a b q) < 0
    · exfalso
      obtain ⟨g1, g2, g3⟩ := c2
      have k1 := B2 g1
      have k2 := A2 g2
      have nq := nn0 ht (show 0 ≤ turnZ a b q by omega)
      have := nn0 (show 0 ≤ L by omega) (show 0 ≤ s * turnZ a b p + t * turnZ a b q by omega)
      omega
    · repeat' split
      all_goals omega
theorem star_core {P : Poly} {K : Int} {p q : Pt} (hk : ∀ k, k < P.n → 0 ≤ turnZ (smul K (P.v k)) (smul K (P.v (k + 1))) p) {s t : Int} (hs : 0 ≤ s) (ht : 0 ≤ t) (hst : 0 < s + t)
    (hoff : ∀ k, k < P.n → Off (padd (smul s p) (smul t q)) (smul ((s + t) * K) (P.v k)) (smul ((s + t) * K) (P.v (k + 1)))) :
    wnd (Aff.turn p q) (P.sc K).way q ≤ wnd ((Aff.turn p q).sc (s + t)) (P.sc ((s + t) * K)).way (padd (smul s p) (smul t q)) := sumN_le fun k hkn => by
  have hkn : k < P.n := hkn
  have ho := hoff k hkn
  rw [← smul2, ← smul2] at ho
  show crN _ q (smul K (P.v k)) (smul K (P.v (k + 1))) ≤ crN _ _ (smul ((s + t) * K) (P.v k)) (smul ((s + t) * K) (P.v (k + 1)))
  rw [← smul2, ← smul2]
  exact star_wall (hk k hkn) hs ht rfl hst ho
/-! ### Along the left side of all walls -/
def inpt (P : Poly) (K : Int) (j : Nat) : Pt := padd (smul K (P.v (j + 1))) (psub (0, 0) (outd (P.v j) (P.v (j + 1)) (P.v (j + 2))))
theorem mirP_mirP (a : Pt) : mirP (mirP a) = a := by unfold mirP; simp
theorem Part.unmir {a b q r : Pt} (h : Part (mirP a) (mirP b) (mirP q) (mirP r)) : Part a b q r := by
  obtain ⟨f, fa, fb, fq, fr⟩ := h
  have e : ∀ x : Pt, f.mir.ev x = f.ev (mirP x) := fun x => by have := ev_mir f (mirP x); rwa [mirP_mirP] at this
  exact ⟨f.mir, by rw [e]; exact fa, by rw [e]; exact fb, by rw [e]; exact fq, by rw [e]; exact fr⟩
theorem qpt_mir {P : Poly} (hb : ∀ j, turnZ (P.v j) (P.v (j + 1)) (P.v (j + 2)) ≠ 0) (K : Int) (j : Nat) : qpt P.mir K j = mirP (inpt P K j) := by
  show padd (smul K (mirP (P.v (j + 1)))) (outd (mirP (P.v j)) (mirP (P.v (j + 1))) (mirP (P.v (j + 2)))) = _
  unfold outd inpt
  rw [turn_mir]
  unfold outd
  have := hb j
  split
  · rw [if_neg (by omega)]
    unfold padd smul mirP psub
    refine Prod.ext ?_ ?_
    · show K * -_ + ((- _ - - _) - (- _ - - _)) = -(K * _ + (0 - _)); rw [Int.mul_neg]; simp only; omega
    · show K * _ + _ = K * _ + (0 - _); simp only; omega
  · rw [if_pos (by omega)]
    unfold padd smul mirP psub
    refine Prod.ext ?_ ?_
    · show K * -_ + ((- _ - - _) - (- _ - - _)) = -(K * _ + (0 - _)); rw [Int.mul_neg]; simp only; omega
    · show K * _ + _ = K * _ + (0 - _); simp only; omega
theorem ilinks {P : Poly} (h : SimpleP P) (hb : ∀ j, turnZ (P.v j) (P.v (j + 1)) (P.v (j + 2)) ≠ 0) : Late fun K => ∀ j k, k < P.n → Part (smul K (P.v k)) (smul K (P.v (k + 1))) (inpt P K j) (inpt P K (j + 1)) := by
  have hb' : ∀ j, turnZ (P.mir.v j) (P.mir.v (j + 1)) (P.mir.v (j + 2)) ≠ 0 := fun j => by
    show turnZ (mirP _) (mirP _) (mirP _) ≠ 0
    rw [turn_mir]; have := hb j; omega
  refine (links h.mir hb').imp fun K _ H j k hk => ?_
  have := H j k hk
  rw [qpt_mir hb, qpt_mir hb] at this
  have e : ∀ x : Pt, smul K (mirP x) = mirP (smul K x) := fun x => by unfold smul mirP; simp [Int.mul_neg]
  have this : Part (smul K (mirP (P.v k))) (smul K (mirP (P.v (k + 1)))) _ _ := this
  rw [e, e] at this
  exact this.unmir
theorem own_left {P : Poly} (hb : ∀ j, turnZ (P.v j) (P.v (j + 1)) (P.v (j + 2)) ≠ 0) (j : Nat) {K : Int} (hK : 0 < K) : 0 < turnZ (smul K (P.v (j + 1))) (smul K (P.v (j + 2))) (inpt P K j) ∧ 0 < turnZ (smul K (P.v (j + 1))) (smul K (P.v (j + 2))) (inpt P K (j + 1)) := by
  have z : ∀ a b : Pt, turnZ a b a = 0 ∧ turnZ a b b = 0 := fun a b => by unfold turnZ; grind
  have ng : ∀ a b d : Pt, turnZ a b (padd a (psub (0, 0) d)) = - turnZ a b (padd a d) := fun a b d => by unfold turnZ padd psub; grind
  have r2 := (outd_right (hb j)).2
  have r3 := (outd_right (hb (j + 1))).1
  unfold inpt
  rw [turn_sc, turn_sc, (z _ _).1, show j + 1 + 1 = j + 2 from rfl, show j + 1 + 2 = j + 3 from rfl, (z _ _).2, Int.mul_zero, Int.zero_add, Int.zero_add, ng, ng]
  exact ⟨pp hK (by omega), pp hK (by show 0 < - turnZ (P.v (j + 1)) (P.v (j + 1 + 1)) _; exact Int.neg_pos_of_neg r3)⟩
theorem mid_off {P : Poly} (h : SimpleP P) (hb : ∀ j, turnZ (P.v j) (P.v (j + 1)) (P.v (j + 2)) ≠ 0) {m : Nat} (hm : m < P.n) (h1 : m ≠ 1) : Off (padd (P.v 1) (P.v 2)) (smul 2 (P.v m)) (smul 2 (P.v (m + 1))) := by
  rcases (show m = 0 ∨ m = 2 ∨ 3 ≤ m by omega) with rfl | rfl | g
  · refine off_turn ?_
    have e : turnZ (smul 2 (P.v 0)) (smul 2 (P.v 1)) (padd (P.v 1) (P.v 2)) = 2 * turnZ (P.v 0) (P.v 1) (P.v 2) := by unfold turnZ smul padd; grind
    have := hb 0
    show turnZ (smul 2 (P.v 0)) (smul 2 (P.v 1)) (padd (P.v 1) (P.v 2)) ≠ 0
    rw [e]
    have : turnZ (P.v 0) (P.v 1) (P.v 2) ≠ 0 := hb 0
    omega
  · refine off_turn ?_
    have e : turnZ (smul 2 (P.v 2)) (smul 2 (P.v 3)) (padd (P.v 1) (P.v 2)) = 2 * turnZ (P.v 1) (P.v 2) (P.v 3) := by unfold turnZ smul padd; grind
    show turnZ (smul 2 (P.v 2)) (smul 2 (P.v 3)) (padd (P.v 1) (P.v 2)) ≠ 0
    rw [e]
    have : turnZ (P.v 1) (P.v 2) (P.v 3) ≠ 0 := hb 1
    omega
  · obtain ⟨f, fa, fb, fq, fr⟩ := (h.apartI (i := 1) hm (by omega) (by omega)).symm
    have e : (f.sc 2).ev (padd (P.v 1) (P.v 2)) = f.ev (P.v 1) + f.ev (P.v 2) := by unfold Aff.ev Aff.sc padd; grind
    have fr : f.ev (P.v 2) ≤ 0 := fr
    exact ⟨Aff.lc 1 (f.sc 2) 0 f (-1), by rw [ev_lc, ev_sc0]; omega, by rw [ev_lc, ev_sc0]; omega, by rw [ev_lc, e]; omega⟩
/-- Counted once along the left side of the walls of a positive polygon. -/
theorem itrace {P : Poly} (hP : SimpleP P) (hb : ∀ j, turnZ (P.v j) (P.v (j + 1)) (P.v (j + 2)) ≠ 0) {h : Aff} (hg : Gen h P) (hl1 : LeftIs h P.way 1) :
    Late fun K => (∀ j k, k < P.n → Part (smul K (P.v k)) (smul K (P.v (k + 1))) (inpt P K j) (inpt P K (j + 1))) ∧ ∀ j, wnd (h.sc K) (P.sc K).way (inpt P K j) = 1 := by
  have h3 := hP.n3
  obtain ⟨D, hD⟩ : ∃ D, D = padd (psub (0, 0) (outd (P.v 0) (P.v 1) (P.v 2))) (psub (0, 0) (outd (P.v 1) (P.v 2) (P.v 3))) := ⟨_, rfl⟩
  have near : Late fun K => ∀ m, m < P.n → (m ≠ 1 → Part (smul K (smul 2 (P.v m))) (smul K (smul 2 (P.v (m + 1)))) (padd (smul K (padd (P.v 1) (P.v 2))) D) (padd (smul K (padd (P.v 1) (P.v 2))) (0, 0))) := Late.all fun m hm => by
    by_cases e : m = 1
    · exact Late.of fun K _ g => absurd e g
    · exact ((mid_off hP hb hm e).near D (0, 0)).imp fun K _ H _ => H
  refine ((ilinks hP hb).and near).imp fun K hK ⟨hl, hn⟩ => ⟨hl, ?_⟩
  have all : ∀ j, wnd (h.sc K) (P.sc K).way (inpt P K j) = wnd (h.sc K) (P.sc K).way (inpt P K 0) := fun j => by
    induction j with
    | zero => rfl
    | succ j ih => rw [← ih]; exact (wnd_step _ (P.sc K).way fun k hk => hl j k hk).symm
  intro j
  rw [all]
  have e2 : ∀ x : Pt, smul K (smul 2 x) = smul (2 * K) x := fun x => by rw [smul2, Int.mul_comm]
  have ex : padd (smul K (padd (P.v 1) (P.v 2))) (0, 0) = smul K (padd (P.v 1) (P.v 2)) := by unfold padd; simp
  have em : padd (smul K (padd (P.v 1) (P.v 2))) D = padd (inpt P K 0) (inpt P K 1) := by
    rw [hD]
    show _ = padd (padd (smul K (P.v 1)) (psub (0, 0) (outd (P.v 0) (P.v 1) (P.v 2)))) (padd (smul K (P.v 2)) (psub (0, 0) (outd (P.v 1) (P.v 2) (P.v 3))))
    generalize psub (0, 0) (outd (P.v 0) (P.v 1) (P.v 2)) = x
    generalize psub (0, 0) (outd (P.v 1) (P.v 2) (P.v 3)) = y
    unfold padd smul
    refine Prod.ext ?_ ?_
    · show K * (_ + _) + (_ + _) = _ + _ + (_ + _); rw [Int.mul_add]; omega
    · show K * (_ + _) + (_ + _) = _ + _ + (_ + _); rw [Int.mul_add]; omega
  have hon : OnI (smul K (padd (P.v 1) (P.v 2))) (smul (2 * K) (P.v 1)) (smul (2 * K) (P.v 2)) := ⟨1, 1, by decide, by decide, by unfold smul padd; grind, by unfold smul padd; grind⟩
  obtain ⟨q1, q2⟩ := own_left hb 0 hK
  have q1 : 0 < turnZ (smul K (P.v 1)) (smul K (P.v 2)) (inpt P K 0) := q1
  have q2 : 0 < turnZ (smul K (P.v 1)) (smul K (P.v 2)) (inpt P K 1) := q2
  have w1 := wnd_left (h := h.sc (2 * K)) (P := P.way.sc (2 * K)) (sloped_sc (hg.sloped (by omega)) (by omega)) (k := 1) (p := padd (inpt P K 0) (inpt P K 1)) (x := smul K (padd (P.v 1) (P.v 2))) (by show 1 < P.n; omega) hon (fun k hk hk1 => by
    have := hn k hk hk1
    rw [e2, e2, ex, em] at this
    exact this) (by
    show 0 < turnZ (smul (2 * K) (P.v 1)) (smul (2 * K) (P.v 2)) (padd (inpt P K 0) (inpt P K 1))
    have : turnZ (smul (2 * K) (P.v 1)) (smul (2 * K) (P.v 2)) (padd (inpt P K 0) (inpt P K 1)) = 2 * (turnZ (smul K (P.v 1)) (smul K (P.v 2)) (inpt P K 0) + turnZ (smul K (P.v 1)) (smul K (P.v 2)) (inpt P K 1)) := by unfold turnZ smul padd; grind
    omega)
  have w2 := hl1.2.1 (2 * K) 1 (smul K (padd (P.v 1) (P.v 2))) (by omega) (by show 1 < P.n; omega) hon
  rw [w2] at w1
  have w3 : wnd (h.sc (2 * K)) (P.sc (2 * K)).way (padd (inpt P K 0) (inpt P K 1)) = wnd (h.sc (2 * K)) (P.sc (2 * K)).way (smul 2 (inpt P K 0)) := wnd_step _ (P.sc (2 * K)).way fun k hk => by
    have := (hl 0 k hk).mean (s := 1) (t := 1) (s' := 2) (t' := 0) (L := 2) (by decide) (by decide) (by decide) (by decide) (by decide) rfl rfl
    rw [smul2, smul2] at this
    have e1 : padd (smul 1 (inpt P K 0)) (smul 1 (inpt P K (0 + 1))) = padd (inpt P K 0) (inpt P K 1) := by unfold padd smul; simp
    have e0 : padd (smul 2 (inpt P K 0)) (smul 0 (inpt P K (0 + 1))) = smul 2 (inpt P K 0) := by unfold padd smul; simp
    rwa [e1, e0] at this
  have w4 := wnd_scale (h.sc K) P (show (0 : Int) < 2 by decide) K (inpt P K 0)
  have eh : (h.sc K).sc 2 = h.sc (2 * K) := by unfold Aff.sc; rw [← Int.mul_assoc]
  rw [eh] at w4
  rw [← w4, ← w3]; exact w1
/-! ### Seen from the kernel -/
theorem nc_turn {p q : Pt} (h : p ≠ q) : NC (Aff.turn p q) := by
  have : ¬ (q.1 - p.1 = 0 ∧ q.2 - p.2 = 0) := fun ⟨e1, e2⟩ => h (Prod.ext (by omega) (by omega))
  unfold NC Aff.turn
  simp only
  omega
theorem wnd_free {h1 h2 : Aff} (n1 : NC h1) (n2 : NC h2) {P : Poly} {K : Int} {p : Pt} (ho : ∀ k, k < P.n → Off p (smul K (P.v k)) (smul K (P.v (k + 1)))) : wnd h1 (P.sc K).way p = wnd h2 (P.sc K).way p := wnd_any (P := (P.sc K).way) n1 n2 ho
theorem sc_one (P : Poly) : P.sc 1 = P := Poly.ext' rfl fun j => by show smul 1 (P.v j) = _; unfold smul; simp
/-- A point off the walls of a positive polygon is counted once or not at all. -/
theorem wnd_zero_one {P : Poly} (hP : SimpleP P) (ha : 0 < P.area) {h : Aff} (hn : NC h) {p : Pt} (ho : ∀ k, k < P.n → Off p (P.v k) (P.v (k + 1))) : wnd h P.way p = 0 ∨ wnd h P.way p = 1 := by
  have lv : Late fun M => ∀ k, k < P.n → (hM M).ev (P.v k) ≠ (hM M).ev p := Late.all fun k hk => by
    have hne : P.v k ≠ p := fun e => (Off.ne (ho k hk)).1 e.symm
    by_cases e : (P.v k).2 = p.2
    · refine Late.of fun M _ e2 => hne (Prod.ext ?_ e)
      have e2 : 1 * (P.v k).1 + M * (P.v k).2 + 0 = 1 * p.1 + M * p.2 + 0 := e2
      rw [e] at e2; omega
    · refine (late_ne (c := (P.v k).1) (c' := p.1) e).imp fun M _ H e2 => H ?_
      have e2 : 1 * (P.v k).1 + M * (P.v k).2 + 0 = 1 * p.1 + M * p.2 + 0 := e2
      omega
  obtain ⟨M, hM0, hg, hl⟩ := ((hM_gen hP).and lv).get
  have hL := ((pos_iff hP hg).2 ha).left hP hg
  have hc : Clear (hM M) P.way p := Off.clear (P := P.way) ho hl
  have e1 : (hM M).sc 1 = hM M := by unfold Aff.sc; rw [Int.one_mul]
  have e2 : P.way.sc 1 = P.way := congrArg Poly.way (sc_one P)
  have := hL.2.2 1 p (by decide) (by rw [e1, e2]; exact hc)
  rw [e1, e2] at this
  have e3 : wnd h P.way p = wnd (hM M) P.way p := wnd_any hn (.inl (by show (1 : Int) ≠ 0; decide)) ho
  rw [e3]; omega
theorem Late.mul {Q : Int → Prop} (h : Late Q) {X : Int} (hX : 0 < X) : Late fun K => Q (X * K) := by
  obtain ⟨k0, hk⟩ := h
  refine ⟨k0, fun K h1 h2 => hk _ ?_ (pp hX h2)⟩
  have := Int.mul_le_mul_of_nonneg_right (show 1 ≤ X by omega) (show 0 ≤ K by omega)
  rw [Int.one_mul] at this
  omega
theorem star {P : Poly} (hP : SimpleP P) (hb : ∀ j, turnZ (P.v j) (P.v (j + 1)) (P.v (j + 2)) ≠ 0) (ha : 0 < P.area) {p q : Pt} (hk : ∀ k, k < P.n → 0 ≤ turnZ (P.v k) (P.v (k + 1)) p) (hq : ¬ Outp P 1 q) : NoOut P p q := by
  intro s t hs ht hst ⟨hoff, h, hnc, h0⟩
  have h3 := hP.n3
  by_cases hqo : ∀ k, k < P.n → Off q (P.v k) (P.v (k + 1))
  · -- q is off the walls: counted once
    have hqo' : ∀ k, k < P.n → Off q (smul 1 (P.v k)) (smul 1 (P.v (k + 1))) := fun k hk => by rw [smul_one, smul_one]; exact hqo k hk
    have one : ∀ g : Aff, NC g → wnd g (P.sc 1).way q = 1 := fun g hg => by
      rw [sc_one]
      rcases wnd_zero_one hP ha hg hqo with e | e
      · exact absurd ⟨hqo', g, hg, by rw [sc_one]; exact e⟩ hq
      · exact e
    by_cases hpq : p = q
    · subst hpq
      have e : padd (smul s p) (smul t p) = smul (s + t) p := by unfold padd smul; simp [Int.add_mul]
      rw [e] at hoff h0
      have := wnd_scale h P hst 1 p
      rw [Int.mul_one, one h hnc, wnd_free (h1 := h.sc (s + t)) (h2 := h) hnc hnc hoff, h0] at this
      omega
    · have c := star_core (P := P) (K := 1) (p := p) (q := q) (fun k hkn => by rw [smul_one, smul_one]; exact hk k hkn) hs ht hst (by rw [Int.mul_one]; exact hoff)
      rw [one _ (nc_turn hpq), Int.mul_one, wnd_free (h1 := (Aff.turn p q).sc (s + t)) (h2 := h) (nc_turn hpq) hnc hoff, h0] at c
      omega
  · -- q is on a wall: counted once close by
    have ⟨k, hkn, hno⟩ : ∃ k, k < P.n ∧ ¬ Off q (P.v k) (P.v (k + 1)) := by
      apply Classical.byContradiction
      intro hc
      exact hqo fun k hk => Classical.byContradiction fun hn => hc ⟨k, hk, hn⟩
    rcases off_or_on q (hP.ne k) with g | ⟨x, y, hx, hy, hxy, hon⟩
    · exact hno g
    have eq : smul (x + y) q = padd (smul x (P.v k)) (smul y (P.v (k + 1))) := by
      have g1 := hon ⟨1, 0, 0⟩
      have g2 := hon ⟨0, 1, 0⟩
      simp only [Aff.ev, Int.one_mul, Int.zero_mul, Int.zero_add, Int.add_zero] at g1 g2
      exact Prod.ext g1 g2
    generalize hX : x + y = X at *
    obtain ⟨j, hj⟩ : ∃ j, j + 1 = k + P.n := ⟨k + P.n - 1, by omega⟩
    have v1 : P.v (j + 1) = P.v k := by rw [hj, P.per]
    have v2 : P.v (j + 2) = P.v (k + 1) := by rw [show j + 2 = k + 1 + P.n by omega, P.per]
    obtain ⟨d1, hd1⟩ : ∃ d, d = psub (0, 0) (outd (P.v j) (P.v (j + 1)) (P.v (j + 2))) := ⟨_, rfl⟩
    obtain ⟨d2, hd2⟩ : ∃ d, d = psub (0, 0) (outd (P.v (j + 1)) (P.v (j + 2)) (P.v (j + 3))) := ⟨_, rfl⟩
    have i1 : ∀ K, inpt P K j = padd (smul K (P.v k)) d1 := fun K => by rw [hd1, ← v1]; rfl
    have i2 : ∀ K, inpt P K (j + 1) = padd (smul K (P.v (k + 1))) d2 := fun K => by rw [hd2, ← v2]; rfl
    obtain ⟨E, hE⟩ : ∃ E, E = padd (smul x d1) (smul y d2) := ⟨_, rfl⟩
    obtain ⟨M, hM0, hg⟩ := (hM_gen hP).get
    have hL := ((pos_iff hP hg).2 ha).left hP hg
    have near : Late fun K => ∀ i, i < P.n → Part (smul K (smul (s + t) (P.v i))) (smul K (smul (s + t) (P.v (i + 1)))) (padd (smul K (padd (smul s p) (smul t q))) (smul t E)) (padd (smul K (padd (smul s p) (smul t q))) (0, 0)) := Late.all fun i hi => (hoff i hi).near _ _
    obtain ⟨K, hK, ⟨hlk, hone⟩, hnr⟩ := ((itrace hP hb hg hL).and (near.mul hxy)).get
    obtain ⟨q', hq'⟩ : ∃ q', q' = padd (smul x (inpt P K j)) (smul y (inpt P K (j + 1))) := ⟨_, rfl⟩
    have hXK : 0 < X * K := pp hxy hK
    have hpart : ∀ i, i < P.n → Part (smul (X * K) (P.v i)) (smul (X * K) (P.v (i + 1))) q' (smul X (inpt P K j)) := fun i hi => by
      have := (hlk j i hi).mean hx hy (Int.le_of_lt hxy) (Int.le_refl 0) hxy hX (Int.add_zero X)
      rw [smul2, smul2, ← hq'] at this
      have e0 : padd (smul X (inpt P K j)) (smul 0 (inpt P K (j + 1))) = smul X (inpt P K j) := by unfold padd smul; simp
      rwa [e0] at this
    have hoq : ∀ i, i < P.n → Off q' (smul (X * K) (P.v i)) (smul (X * K) (P.v (i + 1))) := fun i hi => (hpart i hi).off1
    have nM : NC (hM M) := .inl (by show (1 : Int) ≠ 0; decide)
    have oneq : ∀ g : Aff, NC g → wnd g (P.sc (X * K)).way q' = 1 := fun g hg => by
      rw [wnd_free (h2 := ((hM M).sc K).sc X) hg nM hoq, wnd_step _ (P.sc (X * K)).way (q := q') (r := smul X (inpt P K j)) hpart, wnd_scale _ P hxy, hone]
    have em : padd (smul s (smul (X * K) p)) (smul t q') = padd (smul (X * K) (padd (smul s p) (smul t q))) (smul t E) := by
      have eq1 : X * q.1 = x * (P.v k).1 + y * (P.v (k + 1)).1 := congrArg Prod.fst eq
      have eq2 : X * q.2 = x * (P.v k).2 + y * (P.v (k + 1)).2 := congrArg Prod.snd eq
      rw [hq', i1, i2, hE]
      unfold padd smul
      refine Prod.ext ?_ ?_
      · show s * (X * K * p.1) + t * (x * (K * (P.v k).1 + d1.1) + y * (K * (P.v (k + 1)).1 + d2.1)) = X * K * (s * p.1 + t * q.1) + t * (x * d1.1 + y * d2.1)
        have : X * K * (s * p.1 + t * q.1) = X * K * (s * p.1) + K * t * (X * q.1) := by grind
        rw [this, eq1]; grind
      · show s * (X * K * p.2) + t * (x * (K * (P.v k).2 + d1.2) + y * (K * (P.v (k + 1)).2 + d2.2)) = X * K * (s * p.2 + t * q.2) + t * (x * d1.2 + y * d2.2)
        have : X * K * (s * p.2 + t * q.2) = X * K * (s * p.2) + K * t * (X * q.2) := by grind
        rw [this, eq2]; grind
    have ez : padd (smul (X * K) (padd (smul s p) (smul t q))) (0, 0) = smul (X * K) (padd (smul s p) (smul t q)) := by unfold padd; simp
    have hnr' : ∀ i, i < P.n → Part (smul ((s + t) * (X * K)) (P.v i)) (smul ((s + t) * (X * K)) (P.v (i + 1))) (padd (smul s (smul (X * K) p)) (smul t q')) (smul (X * K) (padd (smul s p) (smul t q))) := fun i hi => by
      have := hnr i hi
      rw [smul2, smul2, ← em, ez, Int.mul_comm (X * K) (s + t)] at this
      exact this
    have hom : ∀ i, i < P.n → Off (padd (smul s (smul (X * K) p)) (smul t q')) (smul ((s + t) * (X * K)) (P.v i)) (smul ((s + t) * (X * K)) (P.v (i + 1))) := fun i hi => (hnr' i hi).off1
    have zm : ∀ g : Aff, NC g → wnd g (P.sc ((s + t) * (X * K))).way (padd (smul s (smul (X * K) p)) (smul t q')) = 0 := fun g hg => by
      rw [wnd_free (h2 := h.sc (X * K)) hg hnc hom, wnd_step _ (P.sc ((s + t) * (X * K))).way (q := padd (smul s (smul (X * K) p)) (smul t q')) (r := smul (X * K) (padd (smul s p) (smul t q))) hnr', Int.mul_comm (s + t), wnd_scale h P hXK, h0]
    by_cases hpq : smul (X * K) p = q'
    · have e : padd (smul s (smul (X * K) p)) (smul t q') = smul (s + t) q' := by rw [hpq]; unfold padd smul; simp [Int.add_mul]
      have a := zm (h.sc (s + t)) hnc
      rw [e, wnd_scale h P hst, oneq h hnc] at a
      omega
    · have c := star_core (P := P) (K := X * K) (p := smul (X * K) p) (q := q') (fun i hi => by rw [turn_sc0]; exact nn0 (Int.le_of_lt hXK) (nn0 (Int.le_of_lt hXK) (hk i hi))) hs ht hst hom
      rw [oneq _ (nc_turn hpq), zm ((Aff.turn (smul (X * K) p) q').sc (s + t)) (nc_turn hpq)] at c
      omega
theorem wnd_zero_oneK {P : Poly} (hP : SimpleP P) (ha : 0 < P.area) {K : Int} (hK : 0 < K) {h : Aff} (hn : NC h) {p : Pt} (ho : ∀ k, k < P.n → Off p (smul K (P.v k)) (smul K (P.v (k + 1)))) : wnd h (P.sc K).way p = 0 ∨ wnd h (P.sc K).way p = 1 := by
  have ev : ∀ (M : Int) (x : Pt), ((hM M).sc K).ev x = x.1 + M * x.2 := fun M x => by unfold hM Aff.sc Aff.ev; simp
  have lv : Late fun M => ∀ k, k < P.n → ((hM M).sc K).ev (smul K (P.v k)) ≠ ((hM M).sc K).ev p := Late.all fun k hk => by
    have hne : smul K (P.v k) ≠ p := fun e => (Off.ne (ho k hk)).1 e.symm
    by_cases e : (smul K (P.v k)).2 = p.2
    · refine Late.of fun M _ e2 => hne (Prod.ext ?_ e)
      rw [ev, ev, e] at e2; omega
    · refine (late_ne (c := (smul K (P.v k)).1) (c' := p.1) e).imp fun M _ H e2 => H ?_
      rw [ev, ev] at e2; omega
  obtain ⟨M, hM0, hg, hl⟩ := ((hM_gen hP).and lv).get
  have hL := ((pos_iff hP hg).2 ha).left hP hg
  have hc : Clear ((hM M).sc K) (P.sc K).way p := Off.clear (P := (P.sc K).way) ho hl
  have : wnd ((hM M).sc K) (P.sc K).way p = 1 ∨ wnd ((hM M).sc K) (P.sc K).way p = 1 - 1 := hL.2.2 K p hK hc
  rw [wnd_free hn (h2 := (hM M).sc K) (.inl (by show (1 : Int) ≠ 0; decide)) ho]
  omega
/-! ### A wall that crosses what has no point outside -/
def Opp (x y : Int) : Prop := (x < 0 ∧ 0 < y) ∨ (y < 0 ∧ 0 < x)
theorem cross_not_part {a b q r : Pt} (h : Part a b q r) (o1 : Opp (turnZ q r a) (turnZ q r b)) (o2 : Opp (turnZ a b q) (turnZ a b r)) : False := by
  obtain ⟨f, fa, fb, fq, fr⟩ := h
  have E0 := tid a b q r
  have e := aid f a b q r
  unfold Opp at o1 o2
  rcases o1 with ⟨g1, g2⟩ | ⟨g1, g2⟩ <;> rcases o2 with ⟨g3, g4⟩ | ⟨g3, g4⟩
  · have := pp g2 fa; have := mp g1 fb; have := mp0 (Int.le_of_lt g3) (Int.le_refl 0)
    first
      | omega
      | (have k1 := pm0 (Int.le_of_lt g4) fq; have k2 := mm0 (Int.le_of_lt g3) fr; omega)
      | (have k1 := pm0 (Int.le_of_lt g4) fq; have k2 := mm0 (Int.le_of_lt g3) fr; have k3 := mm0 (Int.le_of_lt g3) fq; have k4 := pm0 (Int.le_of_lt g4) fr; omega)
  · have := pp g2 fa; have := mp g1 fb
    have k1 := mm0 (Int.le_of_lt g3) fq; have k2 := pm0 (Int.le_of_lt g4) fr; have k3 := mm0 (Int.le_of_lt g3) fr; have k4 := pm0 (Int.le_of_lt g4) fq
    omega
  · have := pp g2 fb; have := mp g1 fa; have := pp g2 fa; have := mp g1 fb
    have k1 := mm0 (Int.le_of_lt g3) fq; have k2 := pm0 (Int.le_of_lt g4) fr; have k3 := mm0 (Int.le_of_lt g3) fr; have k4 := pm0 (Int.le_of_lt g4) fq
    omega
  · have := pp g2 fb; have := mp g1 fa; have := pp g2 fa; have := mp g1 fb
    have k1 := mm0 (Int.le_of_lt g3) fq; have k2 := pm0 (Int.le_of_lt g4) fr; have k3 := mm0 (Int.le_of_lt g3) fr; have k4 := pm0 (Int.le_of_lt g4) fq
    omega
theorem late_neg2 {t c e : Int} (h : t < 0) : Late fun K => K * (K * t + c) + e < 0 := by
  refine ⟨max (c + 1) (e + 1), fun K hK h0 => ?_⟩
  have g : K * t ≤ K * (-1) := Int.mul_le_mul_of_nonneg_left (by omega) (by omega)
  have g2 : K * (K * t + c) ≤ K * (-1) := Int.mul_le_mul_of_nonneg_left (by omega) (by omega)
  omega
theorem late_pos2 {t c e : Int} (h : 0 < t) : Late fun K => 0 < K * (K * t + c) + e := (late_neg2 (t := -t) (c := -c) (e := -e) (by omega)).imp fun K _ g => by
  have : K * (K * -t + -c) = -(K * (K * t + c)) := by grind
  omega
theorem late_opp {t1 t2 c1 c2 e1 e2 : Int} (h : Opp t1 t2) : Late fun K => Opp (K * (K * t1 + c1) + e1) (K * (K * t2 + c2) + e2) := by
  rcases h with ⟨h1, h2⟩ | ⟨h1, h2⟩
  · exact ((late_neg2 h1).and (late_pos2 h2)).imp fun K _ g => .inl g
  · exact ((late_neg2 h1).and (late_pos2 h2)).imp fun K _ g => .inr g
theorem turn_two (K : Int) (u w d d' a : Pt) : turnZ (padd (smul K u) d) (padd (smul K w) d') (smul K a) = K * (K * turnZ u w a + (((d'.1 - d.1) * (a.2 - u.2) - (d'.2 - d.2) * (a.1 - u.1)) - ((w.1 - u.1) * d.2 - (w.2 - u.2) * d.1))) + ((d'.2 - d.2) * d.1 - (d'.1 - d.1) * d.2) := by unfold turnZ padd smul; grind
theorem no_cross {P : Poly} (hP : SimpleP P) (hb : ∀ j, turnZ (P.v j) (P.v (j + 1)) (P.v (j + 2)) ≠ 0) (ha : 0 < P.area) {a b : Pt} (hno : NoOut P a b) {k : Nat} (o1 : Opp (turnZ a b (P.v k)) (turnZ a b (P.v (k + 1)))) (o2 : Opp (turnZ (P.v k) (P.v (k + 1)) a) (turnZ (P.v k) (P.v (k + 1)) b)) : False := by
  have h3 := hP.n3
  obtain ⟨j, hj⟩ : ∃ j, j + 1 = k + P.n := ⟨k + P.n - 1, by omega⟩
  have v1 : P.v (j + 1) = P.v k := by rw [hj, P.per]
  have v2 : P.v (j + 2) = P.v (k + 1) := by rw [show j + 2 = k + 1 + P.n by omega, P.per]
  rw [← v1, ← v2] at o1 o2
  obtain ⟨M, hM0, hg⟩ := (hM_gen hP).get
  have hPp := (pos_iff hP hg).2 ha
  have s1 : Late fun K => Opp (turnZ (smul K a) (smul K b) (qpt P K j)) (turnZ (smul K a) (smul K b) (qpt P K (j + 1))) :=
    (late_opp (c1 := turnZ a b (padd a (outd (P.v j) (P.v (j + 1)) (P.v (j + 2))))) (c2 := turnZ a b (padd a (outd (P.v (j + 1)) (P.v (j + 2)) (P.v (j + 3))))) (e1 := 0) (e2 := 0) o1).imp fun K _ g => by
      unfold qpt
      rw [turn_sc, turn_sc]
      rwa [Int.add_zero, Int.add_zero] at g
  have s2 : Late fun K => Opp (turnZ (qpt P K j) (qpt P K (j + 1)) (smul K a)) (turnZ (qpt P K j) (qpt P K (j + 1)) (smul K b)) := by
    unfold qpt
    simp only [turn_two]
    exact late_opp o2
  obtain ⟨K, hK, hl, g1, g2⟩ := ((links hP hb).and (s1.and s2)).get
  have z := trace_zero hP hg hPp hK hl
  have hnc : NC ((hM M).sc K) := .inl (by show (1 : Int) ≠ 0; decide)
  have hne : qpt P K j ≠ qpt P K (j + 1) := fun e => by
    rw [e] at g1
    unfold Opp at g1; omega
  exact cross_not_part (link_part hK hne hnc (fun k hk => hl j k hk) (z j) hno) g2 g1
/-! ### What the program sees has no point outside -/
/-- A point on the line a b by its dot. -/
theorem on_line {a b c : Pt} (h : turnZ a b c = 0) : ((b.1 - a.1) * (b.1 - a.1) + (b.2 - a.2) * (b.2 - a.2)) * c.1 = (((b.1 - a.1) * (b.1 - a.1) + (b.2 - a.2) * (b.2 - a.2)) - (((b.1 - a.1) * (b.1 - a.1) + (b.2 - a.2) * (b.2 - a.2)) + dotZ a b c)) * a.1 + (((b.1 - a.1) * (b.1 - a.1) + (b.2 - a.2) * (b.2 - a.2)) + dotZ a b c) * b.1 ∧
    ((b.1 - a.1) * (b.1 - a.1) + (b.2 - a.2) * (b.2 - a.2)) * c.2 = (((b.1 - a.1) * (b.1 - a.1) + (b.2 - a.2) * (b.2 - a.2)) - (((b.1 - a.1) * (b.1 - a.1) + (b.2 - a.2) * (b.2 - a.2)) + dotZ a b c)) * a.2 + (((b.1 - a.1) * (b.1 - a.1) + (b.2 - a.2) * (b.2 - a.2)) + dotZ a b c) * b.2 := by
  have m1 := line_mean h ⟨1, 0, 0⟩
  have m2 := line_mean h ⟨0, 1, 0⟩
  simp only [Aff.ev, Int.one_mul, Int.zero_mul, Int.zero_add, Int.add_zero] at m1 m2
  constructor
  · rw [m1]; congr 1; congr 1; omega
  · rw [m2]; congr 1; congr 1; omega
/-- How far along a b. -/
def phi (a b c : Pt) : Int := ((b.1 - a.1) * (b.1 - a.1) + (b.2 - a.2) * (b.2 - a.2)) + dotZ a b c
/-- Three points on the line a b: the one between is a mean of the others. -/
theorem flat_mean {a b p q c : Pt} (hab : a ≠ b) (hp : turnZ a b p = 0) (hq : turnZ a b q = 0) (hc : turnZ a b c = 0) (h1 : phi a b p ≤ phi a b c) (h2 : phi a b c ≤ phi a b q) (h3 : phi a b p < phi a b q) : OnM c p q := by
  have hN := sq_pos hab
  have e : ∀ f : Aff, (phi a b q - phi a b p) * f.ev c = (phi a b q - phi a b c) * f.ev p + (phi a b c - phi a b p) * f.ev q := fun f => by
    have mp := line_mean hp f
    have mq := line_mean hq f
    have mc := line_mean hc f
    unfold phi
    generalize (b.1 - a.1) * (b.1 - a.1) + (b.2 - a.2) * (b.2 - a.2) = N at *
    have hN0 : N ≠ 0 := by omega
    refine Int.eq_of_mul_eq_mul_left hN0 ?_
    have e1 : N * ((N + dotZ a b q - (N + dotZ a b p)) * f.ev c) = (dotZ a b q - dotZ a b p) * (N * f.ev c) := by grind
    have e2 : N * ((N + dotZ a b q - (N + dotZ a b c)) * f.ev p + (N + dotZ a b c - (N + dotZ a b p)) * f.ev q) = (dotZ a b q - dotZ a b c) * (N * f.ev p) + (dotZ a b c - dotZ a b p) * (N * f.ev q) := by grind
    rw [e1, e2, mp, mq, mc]; grind
  exact ⟨phi a b q - phi a b c, phi a b c - phi a b p, by omega, by omega, by omega, fun f => by rw [show phi a b q - phi a b c + (phi a b c - phi a b p) = phi a b q - phi a b p by omega]; exact e f⟩
theorem phi_a (a b : Pt) : phi a b a = 0 := by unfold phi dotZ; grind
theorem phi_b (a b : Pt) : phi a b b = (b.1 - a.1) * (b.1 - a.1) + (b.2 - a.2) * (b.2 - a.2) := by unfold phi dotZ; grind
end Go.Proofs.Ytfjmlaciogmndaa.Geo
