/- What the proof of 'FnHulls' needs, part 5: conditions and steps of the functions that it reaches, and the mathematics. -/
import Derived.Test.YtnepfcnlngpchaaRows
import Derived.WalkKit
import Derived.WalkSpells
import Derived.Below
import Derived.Orders
import Derived.Maps.AppendAt
import Derived.Laws.StructEq
import Derived.WideShapes
import Derived.ChangeSlices
import Derived.Deep.Strs
import Derived.ChangeOld
import Derived.Test.YtnepfcnlngpchaaSFnHulls4
set_option linter.unusedSimpArgs false
set_option linter.unusedVariables false
namespace Go.Proofs.Ytnepfcnlngpchaa.Geo
def outd (u v w : Pt) : Pt := if 0 < turnZ u v w then psub (psub v u) (psub w v) else psub (psub w v) (psub v u)
theorem outd_right {u v w : Pt} (h : turnZ u v w ≠ 0) : turnZ u v (padd u (outd u v w)) < 0 ∧ turnZ v w (padd v (outd u v w)) < 0 := by
  unfold outd
  split
  · have e1 : turnZ u v (padd u (psub (psub v u) (psub w v))) = - turnZ u v w := by unfold turnZ padd psub; grind
    have e2 : turnZ v w (padd v (psub (psub v u) (psub w v))) = - turnZ u v w := by unfold turnZ padd psub; grind
    omega
  · have e1 : turnZ u v (padd u (psub (psub w v) (psub v u))) = turnZ u v w := by unfold turnZ padd psub; grind
    have e2 : turnZ v w (padd v (psub (psub w v) (psub v u))) = turnZ u v w := by unfold turnZ padd psub; grind
    omega
def qpt (P : Poly) (K : Int) (j : Nat) : Pt := padd (smul K (P.v (j + 1))) (outd (P.v j) (P.v (j + 1)) (P.v (j + 2)))
theorem far_part {a b p p' : Pt} {f : Aff} (fa : 0 < f.ev a) (fb : 0 < f.ev b) (fp : f.ev p < 0) (fp' : f.ev p' < 0) (d d' : Pt) : Late fun K => Part (smul K a) (smul K b) (padd (smul K p) d) (padd (smul K p') d') := by
  refine ⟨max (f.lin d) (f.lin d'), fun K hK h0 => ⟨f.sc K, by rw [ev_sc0]; exact pp h0 fa, by rw [ev_sc0]; exact pp h0 fb, ?_, ?_⟩⟩
  · rw [ev_sc]
    have : K * f.ev p ≤ K * (-1) := Int.mul_le_mul_of_nonneg_left (by omega) (by omega)
    omega
  · rw [ev_sc]
    have : K * f.ev p' ≤ K * (-1) := Int.mul_le_mul_of_nonneg_left (by omega) (by omega)
    omega
theorem turn_cyc (a b c : Pt) : turnZ b c a = turnZ a b c := by unfold turnZ; grind
theorem side_part {a b x y q r : Pt} (hx : 0 ≤ turnZ a b x) (hy : 0 ≤ turnZ a b y) (hq : turnZ a b q < 0) (hr : turnZ a b r < 0) : Part x y q r :=
  ⟨Aff.lc 1 (Aff.turn a b) 0 (Aff.turn a b) 1, by rw [ev_lc, ev_turn]; omega, by rw [ev_lc, ev_turn]; omega, by rw [ev_lc, ev_turn]; omega, by rw [ev_lc, ev_turn]; omega⟩
theorem late_neg {t c : Int} (h : t < 0) : Late fun K => K * (K * t + c) < 0 := by
  refine ⟨c + 1, fun K hK h0 => pm h0 ?_⟩
  have : K * t ≤ K * (-1) := Int.mul_le_mul_of_nonneg_left (by omega) (by omega)
  omega
theorem link_at {P : Poly} (h : SimpleP P) (hb : ∀ j, turnZ (P.v j) (P.v (j + 1)) (P.v (j + 2)) ≠ 0) (j d : Nat) (hd : d < P.n) :
    Late fun K => Part (smul K (P.v (j + 1 + d))) (smul K (P.v (j + 1 + d + 1))) (qpt P K j) (qpt P K (j + 1)) := by
  have h3 := h.n3
  obtain ⟨r1, r2⟩ := outd_right (hb j)
  obtain ⟨r3, r4⟩ := outd_right (hb (j + 1))
  have r3 : turnZ (P.v (j + 1)) (P.v (j + 2)) (padd (P.v (j + 1)) (outd (P.v (j + 1)) (P.v (j + 2)) (P.v (j + 3)))) < 0 := r3
  have r4 : turnZ (P.v (j + 2)) (P.v (j + 3)) (padd (P.v (j + 2)) (outd (P.v (j + 1)) (P.v (j + 2)) (P.v (j + 3)))) < 0 := r4
  have hb1 : turnZ (P.v (j + 1)) (P.v (j + 2)) (P.v (j + 3)) ≠ 0 := hb (j + 1)
  have z : ∀ a b : Pt, turnZ a b a = 0 ∧ turnZ a b b = 0 := fun a b => by unfold turnZ; grind
  have own : ∀ K : Int, 0 < K → turnZ (smul K (P.v (j + 1))) (smul K (P.v (j + 2))) (qpt P K j) < 0 ∧ turnZ (smul K (P.v (j + 1))) (smul K (P.v (j + 2))) (qpt P K (j + 1)) < 0 := fun K hK => by
    unfold qpt
    rw [turn_sc, turn_sc, (z _ _).1, show j + 1 + 1 = j + 2 from rfl, show j + 1 + 2 = j + 3 from rfl, (z _ _).2, Int.mul_zero, Int.zero_add, Int.zero_add]
    exact ⟨pm hK r2, pm hK r3⟩
  rcases (show d = 0 ∨ d = 1 ∨ d = P.n - 1 ∨ (2 ≤ d ∧ d + 2 ≤ P.n) by omega) with rfl | rfl | e | ⟨d1, d2⟩
  · refine Late.of fun K hK => ?_
    obtain ⟨o1, o2⟩ := own K hK
    show Part (smul K (P.v (j + 1))) (smul K (P.v (j + 2))) _ _
    exact side_part (by rw [(z _ _).1]; omega) (by rw [(z _ _).2]; omega) o1 o2
  · show Late fun K => Part (smul K (P.v (j + 2))) (smul K (P.v (j + 3))) _ _
    rcases (show 0 < turnZ (P.v (j + 1)) (P.v (j + 2)) (P.v (j + 3)) ∨ turnZ (P.v (j + 1)) (P.v (j + 2)) (P.v (j + 3)) < 0 by omega) with g | g
    · refine Late.of fun K hK => ?_
      obtain ⟨o1, o2⟩ := own K hK
      exact side_part (by rw [(z _ _).2]; omega) (by rw [turn_sc0]; have := pp hK g; have := pp hK this; omega) o1 o2
    · refine (late_neg (t := turnZ (P.v (j + 2)) (P.v (j + 3)) (P.v (j + 1))) (c := turnZ (P.v (j + 2)) (P.v (j + 3)) (padd (P.v (j + 2)) (outd (P.v j) (P.v (j + 1)) (P.v (j + 2))))) (by rw [turn_cyc]; exact g)).imp fun K hK hl => ?_
      refine side_part (a := smul K (P.v (j + 2))) (b := smul K (P.v (j + 3))) (by rw [(z _ _).1]; omega) (by rw [(z _ _).2]; omega) ?_ ?_
      · unfold qpt; rw [turn_sc]; exact hl
      · unfold qpt
        rw [turn_sc, show j + 1 + 1 = j + 2 from rfl, show j + 1 + 2 = j + 3 from rfl, (z _ _).1, Int.mul_zero, Int.zero_add]
        exact pm hK r4
  · subst e
    have e1 : P.v (j + 1 + (P.n - 1)) = P.v j := by rw [show j + 1 + (P.n - 1) = j + P.n by omega, P.per]
    have e2 : P.v (j + 1 + (P.n - 1) + 1) = P.v (j + 1) := by rw [show j + 1 + (P.n - 1) + 1 = j + 1 + P.n by omega, P.per]
    rw [e1, e2]
    rcases (show 0 < turnZ (P.v j) (P.v (j + 1)) (P.v (j + 2)) ∨ turnZ (P.v j) (P.v (j + 1)) (P.v (j + 2)) < 0 by have := hb j; omega) with g | g
    · refine Late.of fun K hK => ?_
      obtain ⟨o1, o2⟩ := own K hK
      exact side_part (by rw [turn_sc0, turn_cyc]; have := pp hK g; have := pp hK this; omega) (by rw [(z _ _).1]; omega) o1 o2
    · refine (late_neg (t := turnZ (P.v j) (P.v (j + 1)) (P.v (j + 2))) (c := turnZ (P.v j) (P.v (j + 1)) (padd (P.v j) (outd (P.v (j + 1)) (P.v (j + 2)) (P.v (j + 3))))) g).imp fun K hK hl => ?_
      refine side_part (a := smul K (P.v j)) (b := smul K (P.v (j + 1))) (by rw [(z _ _).1]; omega) (by rw [(z _ _).2]; omega) ?_ ?_
      · unfold qpt
        rw [turn_sc, (z _ _).2, Int.mul_zero, Int.zero_add]
        exact pm hK r1
      · unfold qpt; rw [turn_sc]; exact hl
  · obtain ⟨f, fa, fb, fq, fr⟩ := (h.apart (j + 1) d d1 d2).symm
    exact far_part (f := Aff.lc 2 f 0 f (-1)) (by rw [ev_lc]; omega) (by rw [ev_lc]; omega) (by rw [ev_lc]; omega) (by rw [ev_lc]; omega) _ _
theorem qpt_mod (P : Poly) (K : Int) (j i : Nat) : qpt P K (j % P.n + i) = qpt P K (j + i) := by
  unfold qpt
  rw [Nat.add_assoc, Nat.add_assoc, Nat.add_assoc, Nat.add_assoc, P.per_add, P.per_add, P.per_add]
theorem links {P : Poly} (h : SimpleP P) (hb : ∀ j, turnZ (P.v j) (P.v (j + 1)) (P.v (j + 2)) ≠ 0) : Late fun K => ∀ j k, k < P.n → Part (smul K (P.v k)) (smul K (P.v (k + 1))) (qpt P K j) (qpt P K (j + 1)) := by
  have h3 := h.n3
  have : Late fun K => ∀ j, j < P.n → ∀ d, d < P.n → Part (smul K (P.v (j + 1 + d))) (smul K (P.v (j + 1 + d + 1))) (qpt P K j) (qpt P K (j + 1)) := Late.all fun j _ => Late.all fun d hd => link_at h hb j d hd
  refine this.imp fun K _ H j k hk => ?_
  have hr : j % P.n < P.n := Nat.mod_lt _ (by omega)
  have e0 : qpt P K (j % P.n) = qpt P K j := qpt_mod P K j 0
  have e1 : qpt P K (j % P.n + 1) = qpt P K (j + 1) := qpt_mod P K j 1
  rw [← e0, ← e1]
  generalize j % P.n = i at *
  rcases (show i + 1 ≤ k ∨ k < i + 1 by omega) with g | g
  · have := H i hr (k - (i + 1)) (by omega)
    rwa [show i + 1 + (k - (i + 1)) = k by omega] at this
  · have := H i hr (k + P.n - (i + 1)) (by omega)
    rwa [show i + 1 + (k + P.n - (i + 1)) = k + P.n by omega, P.per, show k + P.n + 1 = k + 1 + P.n by omega, P.per] at this
theorem trace_same {P : Poly} {K : Int} (hl : ∀ j k, k < P.n → Part (smul K (P.v k)) (smul K (P.v (k + 1))) (qpt P K j) (qpt P K (j + 1))) (h : Aff) (j : Nat) : wnd h (P.sc K).way (qpt P K j) = wnd h (P.sc K).way (qpt P K 0) := by
  induction j with
  | zero => rfl
  | succ j ih => rw [← ih]; exact (wnd_step h (P.sc K).way fun k hk => hl j k hk).symm
theorem trace_zero {P : Poly} (hP : SimpleP P) {h : Aff} (hg : Gen h P) (hp : Pos h P) {K : Int} (hK : 0 < K) (hl : ∀ j k, k < P.n → Part (smul K (P.v k)) (smul K (P.v (k + 1))) (qpt P K j) (qpt P K (j + 1))) (j : Nat) : wnd (h.sc K) (P.sc K).way (qpt P K j) = 0 := by
  have h3 := hP.n3
  obtain ⟨s, hs, ht⟩ := hp
  rw [trace_same hl, ← trace_same hl _ s]
  have ht : 0 < turnZ (P.v s) (P.v (s + 1)) (P.v (s + 2)) := ht
  have h0 : h.ev (P.v (s + 1)) < h.ev (P.v s) := hs 0 (by omega) (by omega)
  have h2 : h.ev (P.v (s + 1)) < h.ev (P.v (s + 2)) := hs 2 (by omega) (by omega)
  refine wnd_below fun k hk => ?_
  have hk : k < P.n := hk
  have low : h.ev (P.v (s + 1)) ≤ h.ev (P.v k) := by
    have hr : s % P.n < P.n := Nat.mod_lt _ (by omega)
    obtain ⟨t, ht, e⟩ : ∃ t, t < P.n ∧ P.v (s + t) = P.v k := by
      rcases (show s % P.n ≤ k ∨ k < s % P.n by omega) with g | g
      · exact ⟨k - s % P.n, by omega, by rw [← P.per_add]; congr 1; omega⟩
      · exact ⟨k + P.n - s % P.n, by omega, by rw [← P.per_add, show s % P.n + (k + P.n - s % P.n) = k + P.n by omega, P.per]⟩
    rcases (show t = 1 ∨ t ≠ 1 by omega) with rfl | g
    · rw [← e]; omega
    · have : h.ev (P.v (s + 1)) < h.ev (P.v (s + t)) := hs t ht g
      rw [e] at this; omega
  show (h.sc K).ev (qpt P K s) < (h.sc K).ev (smul K (P.v k))
  unfold qpt
  rw [ev_sc, ev_sc0]
  have hd : h.lin (outd (P.v s) (P.v (s + 1)) (P.v (s + 2))) < 0 := by
    unfold outd
    rw [if_pos ht]
    have : h.lin (psub (psub (P.v (s + 1)) (P.v s)) (psub (P.v (s + 2)) (P.v (s + 1)))) = (h.ev (P.v (s + 1)) - h.ev (P.v s)) - (h.ev (P.v (s + 2)) - h.ev (P.v (s + 1))) := by unfold Aff.lin psub Aff.ev; grind
    omega
  have := Int.mul_le_mul_of_nonneg_left low (show 0 ≤ K by omega)
  omega
def NC (h : Aff) : Prop := h.u ≠ 0 ∨ h.v ≠ 0
theorem sq0 {a : Int} (h : a ≠ 0) : 0 < a * a := by
  rcases (show 0 < a ∨ a < 0 by omega) with g | g
  · exact pp g g
  · exact mm g g
theorem sq1 (a : Int) : 0 ≤ a * a := by
  rcases (show 0 ≤ a ∨ a ≤ 0 by omega) with g | g
  · exact nn0 g g
  · exact mm0 g g
theorem nc_sq {h : Aff} (hn : NC h) : 0 < h.u * h.u + h.v * h.v := by
  rcases hn with g | g
  · have := sq0 g; have := sq1 h.v; omega
  · have := sq0 g; have := sq1 h.u; omega
theorem wnd_any {h1 h2 : Aff} (n1 : NC h1) (n2 : NC h2) {P : Way} {p : Pt} (ho : ∀ k, k < P.n → Off p (P.v k) (P.v (k + 1))) : wnd h1 P p = wnd h2 P p := by
  by_cases hd : h1.u * h2.v - h1.v * h2.u = 0
  · have q1 := nc_sq n1
    have q2 := nc_sq n2
    have d1 : h1.u * (⟨-h1.v, h1.u, 0⟩ : Aff).v - h1.v * (⟨-h1.v, h1.u, 0⟩ : Aff).u ≠ 0 := by
      have : h1.u * (⟨-h1.v, h1.u, 0⟩ : Aff).v - h1.v * (⟨-h1.v, h1.u, 0⟩ : Aff).u = h1.u * h1.u + h1.v * h1.v := by show h1.u * h1.u - h1.v * -h1.v = _; grind
      omega
    have d2 : h2.u * (⟨-h1.v, h1.u, 0⟩ : Aff).v - h2.v * (⟨-h1.v, h1.u, 0⟩ : Aff).u ≠ 0 := by
      intro e
      have e : h2.u * h1.u - h2.v * -h1.v = 0 := e
      have e' : h2.u * h1.u + h2.v * h1.v = 0 := by rw [Int.mul_neg] at e; omega
      have : (h1.u * h1.u + h1.v * h1.v) * (h2.u * h2.u + h2.v * h2.v) = (h2.u * h1.u + h2.v * h1.v) * (h2.u * h1.u + h2.v * h1.v) + (h1.u * h2.v - h1.v * h2.u) * (h1.u * h2.v - h1.v * h2.u) := by grind
      rw [e', hd, Int.mul_zero] at this
      have := pp q1 q2
      omega
    rw [wnd_two d1 ho, wnd_two d2 ho]
  · exact wnd_two hd ho
def Outp (P : Poly) (K : Int) (m : Pt) : Prop := (∀ k, k < P.n → Off m (smul K (P.v k)) (smul K (P.v (k + 1)))) ∧ ∃ h, NC h ∧ wnd h (P.sc K).way m = 0
def NoOut (P : Poly) (a b : Pt) : Prop := ∀ s t : Int, 0 ≤ s → 0 ≤ t → 0 < s + t → ¬ Outp P (s + t) (padd (smul s a) (smul t b))
theorem smul2 (K L : Int) (p : Pt) : smul K (smul L p) = smul (K * L) p := by unfold smul; simp [Int.mul_assoc]
theorem wnd_scale (h : Aff) (P : Poly) {L : Int} (hL : 0 < L) (K : Int) (p : Pt) : wnd (h.sc L) (P.sc (L * K)).way (smul L p) = wnd h (P.sc K).way p := sumN_congr fun k _ => by
  show crN (h.sc L) (smul L p) (smul (L * K) (P.v k)) (smul (L * K) (P.v (k + 1))) = crN h p (smul K (P.v k)) (smul K (P.v (k + 1)))
  rw [← smul2, ← smul2]
  exact crN_sc h hL _ _ _
theorem Part.mean {a b q r : Pt} (h : Part a b q r) {s t s' t' : Int} (hs : 0 ≤ s) (ht : 0 ≤ t) (hs' : 0 ≤ s') (ht' : 0 ≤ t') {L : Int} (hL : 0 < L) (e : s + t = L) (e' : s' + t' = L) : Part (smul L a) (smul L b) (padd (smul s q) (smul t r)) (padd (smul s' q) (smul t' r)) := by
  obtain ⟨f, fa, fb, fq, fr⟩ := h
  have ev : ∀ x y : Int, x + y = L → (f.sc L).ev (padd (smul x q) (smul y r)) = x * f.ev q + y * f.ev r := fun x y exy => by subst exy; unfold Aff.ev Aff.sc padd smul; grind
  refine ⟨f.sc L, by rw [ev_sc0]; exact pp hL fa, by rw [ev_sc0]; exact pp hL fb, ?_, ?_⟩
  · rw [ev s t e]; have := pm0 hs fq; have := pm0 ht fr; omega
  · rw [ev s' t' e']; have := pm0 hs' fq; have := pm0 ht' fr; omega
theorem link_part {P : Poly} {K : Int} (hK : 0 < K) {q r a b : Pt} (hqr : q ≠ r) {h : Aff} (hn : NC h) (hl : ∀ k, k < P.n → Part (smul K (P.v k)) (smul K (P.v (k + 1))) q r) (h0 : wnd h (P.sc K).way q = 0) (hno : NoOut P a b) : Part (smul K a) (smul K b) q r := by
  rcases part_or_meet (smul K a) (smul K b) hqr with g | ⟨s, t, s', t', hs, ht, hs', ht', hst, hst', g⟩
  · exact g.symm
  · exfalso
    have hm : padd (smul s q) (smul t r) = padd (smul (s' * K) a) (smul (t' * K) b) := by
      have g1 := g ⟨1, 0, 0⟩
      have g2 := g ⟨0, 1, 0⟩
      simp only [Aff.ev, smul, Int.one_mul, Int.zero_mul, Int.zero_add, Int.add_zero] at g1 g2
      unfold padd smul
      refine Prod.ext ?_ ?_
      · show s * q.1 + t * r.1 = s' * K * a.1 + t' * K * b.1
        rw [g1, Int.mul_assoc, Int.mul_assoc]
      · show s * q.2 + t * r.2 = s' * K * a.2 + t' * K * b.2
        rw [g2, Int.mul_assoc, Int.mul_assoc]
    have eL : s' * K + t' * K = (s + t) * K := by rw [hst', Int.add_mul]
    refine hno (s' * K) (t' * K) (nn0 hs' (by omega)) (nn0 ht' (by omega)) (by rw [eL]; exact pp hst hK) ?_
    rw [← hm, eL]
    have pw : ∀ k, k < P.n → Part (smul ((s + t) * K) (P.v k)) (smul ((s + t) * K) (P.v (k + 1))) (padd (smul s q) (smul t r)) (smul (s + t) q) := fun k hk => by
      have := (hl k hk).mean hs ht (show 0 ≤ s + t by omega) (Int.le_refl 0) hst rfl (Int.add_zero _)
      rw [smul2, smul2] at this
      have e0 : padd (smul (s + t) q) (smul 0 r) = smul (s + t) q := by unfold padd smul; simp
      rwa [e0] at this
    refine ⟨fun k hk => (pw k hk).off1, h.sc (s + t), hn, ?_⟩
    rw [wnd_step (h.sc (s + t)) (P.sc ((s + t) * K)).way (q := padd (smul s q) (smul t r)) (r := smul (s + t) q) pw, wnd_scale h P hst, h0]
theorem late_ne {x y c c' : Int} (h : x ≠ y) : Late fun K => K * x + c ≠ K * y + c' := by
  refine ⟨c - c' + c' - c + 1 + (if c ≤ c' then c' - c else c - c'), fun K hK h0 e => ?_⟩
  rcases (show x + 1 ≤ y ∨ y + 1 ≤ x by omega) with g | g
  · have := Int.mul_le_mul_of_nonneg_left g (show 0 ≤ K by omega)
    rw [Int.mul_add, Int.mul_one] at this
    split at hK <;> omega
  · have := Int.mul_le_mul_of_nonneg_left g (show 0 ≤ K by omega)
    rw [Int.mul_add, Int.mul_one] at this
    split at hK <;> omega
theorem sumN_le {f g : Nat → Int} : ∀ {n : Nat}, (∀ k, k < n → f k ≤ g k) → sumN f n ≤ sumN g n
  | 0, _ => Int.le_refl _
  | n + 1, h => by
    have h1 := sumN_le (n := n) fun k hk => h k (by omega)
    have h2 := h n (by omega)
    simp only [sumN]; omega
theorem lev_not_off {h : Aff} {p a b : Pt} (ht : turnZ a b p = 0) (h1 : h.ev a ≤ h.ev p) (h2 : h.ev p < h.ev b) : ¬ Off p a b := by
  rintro ⟨f, fa, fb, fp⟩
  have e : (h.ev b - h.ev a) * f.ev p = (h.ev b - h.ev p) * f.ev a + (h.ev p - h.ev a) * f.ev b + turnZ a b p * (h.u * f.v - h.v * f.u) ∨
      (h.ev b - h.ev a) * f.ev p = (h.ev b - h.ev p) * f.ev a + (h.ev p - h.ev a) * f.ev b - turnZ a b p * (h.u * f.v - h.v * f.u) := by
    unfold turnZ Aff.ev; grind
  rw [ht, Int.zero_mul] at e
  have g1 := pm (show 0 < h.ev b - h.ev a by omega) fp
  have g2 := pp (show 0 < h.ev b - h.ev p by omega) fa
  have g3 := nn0 (show 0 ≤ h.ev p - h.ev a by omega) (show 0 ≤ f.ev b by omega)
  omega
theorem star_wall {p q a b : Pt} (hk : 0 ≤ turnZ a b p) {s t L : Int} (hs : 0 ≤ s) (ht : 0 ≤ t) (e : s + t = L) (hL : 0 < L) (ho : Off (padd (smul s p) (smul t q)) (smul L a) (smul L b)) :
    crN (Aff.turn p q) q a b ≤ crN ((Aff.turn p q).sc L) (padd (smul s p) (smul t q)) (smul L a) (smul L b) := by
  have l1 : (Aff.turn p q).ev q = 0 := by rw [ev_turn]; unfold turnZ; grind
  have l2 : ((Aff.turn p q).sc L).ev (padd (smul s p) (smul t q)) = 0 := by subst e; unfold Aff.turn Aff.ev Aff.sc padd smul; grind
  have la : ((Aff.turn p q).sc L).ev (smul L a) = L * (Aff.turn p q).ev a := ev_sc0 _ _ _
  have lb : ((Aff.turn p q).sc L).ev (smul L b) = L * (Aff.turn p q).ev b := ev_sc0 _ _ _
  have tm : turnZ (smul L a) (smul L b) (padd (smul s p) (smul t q)) = L * (s * turnZ a b p + t * turnZ a b q) := by subst e; unfold turnZ padd smul; grind
  have td : turnZ a b q - turnZ a b p = (Aff.turn p q).ev a - (Aff.turn p q).ev b := by rw [ev_turn, ev_turn]; unfold turnZ; grind
  have np := nn0 hs hk
  have A1 : (Aff.turn p q).ev a ≤ 0 → L * (Aff.turn p q).ev a ≤ 0 := fun g => pm0 (by omega) g
  have A2 : 0 < L * (Aff.turn p q).ev a → 0 < (Aff.turn p q).ev a := fun g => by
    rcases (show 0 < (Aff.turn p q).ev a ∨ (Aff.turn p q).ev a ≤ 0 by omega) with k | k
    · exact k
    · have := A1 k; omega
  have B1 : 0 < (Aff.turn p q).ev b → 0 < L * (Aff.turn p q).ev b := fun g => pp hL g
  have B2 : L * (Aff.turn p q).ev b ≤ 0 → (Aff.turn p q).ev b ≤ 0 := fun g => by
    rcases (show (Aff.turn p q).ev b ≤ 0 ∨ 0 < (Aff.turn p q).ev b by omega) with k | k
    · exact k
    · have := B1 k; omega
  unfold crN
  rw [l1, l2, la, lb, tm]
  by_cases c1 : (Aff.turn p q).ev a ≤ 0 ∧ 0 < (Aff.turn p q).ev b ∧ 0 < turnZ a b q
  · obtain ⟨g1, g2, g3⟩ := c1
    have nq := nn0 ht (show 0 ≤ turnZ a b q by omega)
    have : 0 < L * (s * turnZ a b p + t * turnZ a b q) := by
      rcases (show 0 < s * turnZ a b p + t * turnZ a b q ∨ s * turnZ a b p + t * turnZ a b q = 0 by omega) with k | k
      · exact pp hL k
      · exfalso
        refine lev_not_off (h := (Aff.turn p q).sc L) ?_ ?_ ?_ ho
        · rw [tm, k, Int.mul_zero]
        · rw [l2, la]; exact A1 g1
        · rw [l2, lb]; exact B1 g2
    rw [if_pos ⟨g1, g2, g3⟩, if_pos ⟨A1 g1, B1 g2, this⟩]
    omega
  · rw [if_neg c1]
    by_cases c2 : L * (Aff.turn p q).ev b ≤ 0 ∧ 0 < L * (Aff.turn p q).ev a ∧ L * (s * turnZ a b p + t * turnZ a b q) < 0
    · exfalso
      obtain ⟨g1, g2, g3⟩ := c2
      have k1 := B2 g1
      have k2 := A2 g2
      have nq := nn0 ht (show 0 ≤ turnZ a b q by omega)
      have := nn0 (show 0 ≤ L by omega) (show 0 ≤ s * turnZ a b p + t * turnZ a b q by omega)
      omega
    · repeat' split
      all_goals omega
theorem star_core {P : Poly} {K : Int} {p q : Pt} (hk : ∀ k, k < P.n → 0 ≤ turnZ (smul K (P.v k)) (smul K (P.v (k + 1))) p) {s t : Int} (hs : 0 ≤ s) (ht : 0 ≤ t) (hst : 0 < s + t)
    (hoff : ∀ k, k < P.n → Off (padd (smul s p) (smul t q)) (smul ((s + t) * K) (P.v k)) (smul ((s + t) * K) (P.v (k + 1)))) :
    wnd (Aff.turn p q) (P.sc K).way q ≤ wnd ((Aff.turn p q).sc (s + t)) (P.sc ((s + t) * K)).way (padd (smul s p) (smul t q)) := sumN_le fun k hkn => by
  have hkn : k < P.n := hkn
  have ho := hoff k hkn
  rw [← smul2, ← smul2] at ho
  show crN _ q (smul K (P.v k)) (smul K (P.v (k + 1))) ≤ crN _ _ (smul ((s + t) * K) (P.v k)) (smul ((s + t) * K) (P.v (k + 1)))
  rw [← smul2, ← smul2]
  exact star_wall (hk k hkn) hs ht rfl hst ho
def inpt (P : Poly) (K : Int) (j : Nat) : Pt := padd (smul K (P.v (j + 1))) (psub (0, 0) (outd (P.v j) (P.v (j + 1)) (P.v (j + 2))))
theorem mirP_mirP (a : Pt) : mirP (mirP a) = a := by unfold mirP; simp
theorem Part.unmir {a b q r : Pt} (h : Part (mirP a) (mirP b) (mirP q) (mirP r)) : Part a b q r := by
  obtain ⟨f, fa, fb, fq, fr⟩ := h
  have e : ∀ x : Pt, f.mir.ev x = f.ev (mirP x) := fun x => by have := ev_mir f (mirP x); rwa [mirP_mirP] at this
  exact ⟨f.mir, by rw [e]; exact fa, by rw [e]; exact fb, by rw [e]; exact fq, by rw [e]; exact fr⟩
theorem qpt_mir {P : Poly} (hb : ∀ j, turnZ (P.v j) (P.v (j + 1)) (P.v (j + 2)) ≠ 0) (K : Int) (j : Nat) : qpt P.mir K j = mirP (inpt P K j) := by
  show padd (smul K (mirP (P.v (j + 1)))) (outd (mirP (P.v j)) (mirP (P.v (j + 1))) (mirP (P.v (j + 2)))) = _
  unfold outd inpt
  rw [turn_mir]
  unfold outd
  have := hb j
  split
  · rw [if_neg (by omega)]
    unfold padd smul mirP psub
    refine Prod.ext ?_ ?_
    · show K * -_ + ((- _ - - _) - (- _ - - _)) = -(K * _ + (0 - _)); rw [Int.mul_neg]; simp only; omega
    · show K * _ + _ = K * _ + (0 - _); simp only; omega
  · rw [if_pos (by omega)]
    unfold padd smul mirP psub
    refine Prod.ext ?_ ?_
    · show K * -_ + ((- _ - - _) - (- _ - - _)) = -(K * _ + (0 - _)); rw [Int.mul_neg]; simp only; omega
    · show K * _ + _ = K * _ + (0 - _); simp only; omega
theorem ilinks {P : Poly} (h : SimpleP P) (hb : ∀ j, turnZ (P.v j) (P.v (j + 1)) (P.v (j + 2)) ≠ 0) : Late fun K => ∀ j k, k < P.n → Part (smul K (P.v k)) (smul K (P.v (k + 1))) (inpt P K j) (inpt P K (j + 1)) := by
  have hb' : ∀ j, turnZ (P.mir.v j) (P.mir.v (j + 1)) (P.mir.v (j + 2)) ≠ 0 := fun j => by
    show turnZ (mirP _) (mirP _) (mirP _) ≠ 0
    rw [turn_mir]; have := hb j; omega
  refine (links h.mir hb').imp fun K _ H j k hk => ?_
  have := H j k hk
  rw [qpt_mir hb, qpt_mir hb] at this
  have e : ∀ x : Pt, smul K (mirP x) = mirP (smul K x) := fun x => by unfold smul mirP; simp [Int.mul_neg]
  have this : Part (smul K (mirP (P.v k))) (smul K (mirP (P.v (k + 1)))) _ _ := this
  rw [e, e] at this
  exact this.unmir
theorem own_left {P : Poly} (hb : ∀ j, turnZ (P.v j) (P.v (j + 1)) (P.v (j + 2)) ≠ 0) (j : Nat) {K : Int} (hK : 0 < K) : 0 < turnZ (smul K (P.v (j + 1))) (smul K (P.v (j + 2))) (inpt P K j) ∧ 0 < turnZ (smul K (P.v (j + 1))) (smul K (P.v (j + 2))) (inpt P K (j + 1)) := by
  have z : ∀ a b : Pt, turnZ a b a = 0 ∧ turnZ a b b = 0 := fun a b => by unfold turnZ; grind
  have ng : ∀ a b d : Pt, turnZ a b (padd a (psub (0, 0) d)) = - turnZ a b (padd a d) := fun a b d => by unfold turnZ padd psub; grind
  have r2 := (outd_right (hb j)).2
  have r3 := (outd_right (hb (j + 1))).1
  unfold inpt
  rw [turn_sc, turn_sc, (z _ _).1, show j + 1 + 1 = j + 2 from rfl, show j + 1 + 2 = j + 3 from rfl, (z _ _).2, Int.mul_zero, Int.zero_add, Int.zero_add, ng, ng]
  exact ⟨pp hK (by omega), pp hK (by show 0 < - turnZ (P.v (j + 1)) (P.v (j + 1 + 1)) _; exact Int.neg_pos_of_neg r3)⟩
theorem mid_off {P : Poly} (h : SimpleP P) (hb : ∀ j, turnZ (P.v j) (P.v (j + 1)) (P.v (j + 2)) ≠ 0) {m : Nat} (hm : m < P.n) (h1 : m ≠ 1) : Off (padd (P.v 1) (P.v 2)) (smul 2 (P.v m)) (smul 2 (P.v (m + 1))) := by
  rcases (show m = 0 ∨ m = 2 ∨ 3 ≤ m by omega) with rfl | rfl | g
  · refine off_turn ?_
    have e : turnZ (smul 2 (P.v 0)) (smul 2 (P.v 1)) (padd (P.v 1) (P.v 2)) = 2 * turnZ (P.v 0) (P.v 1) (P.v 2) := by unfold turnZ smul padd; grind
    have := hb 0
    show turnZ (smul 2 (P.v 0)) (smul 2 (P.v 1)) (padd (P.v 1) (P.v 2)) ≠ 0
    rw [e]
    have : turnZ (P.v 0) (P.v 1) (P.v 2) ≠ 0 := hb 0
    omega
  · refine off_turn ?_
    have e : turnZ (smul 2 (P.v 2)) (smul 2 (P.v 3)) (padd (P.v 1) (P.v 2)) = 2 * turnZ (P.v 1) (P.v 2) (P.v 3) := by unfold turnZ smul padd; grind
    show turnZ (smul 2 (P.v 2)) (smul 2 (P.v 3)) (padd (P.v 1) (P.v 2)) ≠ 0
    rw [e]
    have : turnZ (P.v 1) (P.v 2) (P.v 3) ≠ 0 := hb 1
    omega
  · obtain ⟨f, fa, fb, fq, fr⟩ := (h.apartI (i := 1) hm (by omega) (by omega)).symm
    have e : (f.sc 2).ev (padd (P.v 1) (P.v 2)) = f.ev (P.v 1) + f.ev (P.v 2) := by unfold Aff.ev Aff.sc padd; grind
    have fr : f.ev (P.v 2) ≤ 0 := fr
    exact ⟨Aff.lc 1 (f.sc 2) 0 f (-1), by rw [ev_lc, ev_sc0]; omega, by rw [ev_lc, ev_sc0]; omega, by rw [ev_lc, e]; omega⟩
theorem itrace {P : Poly} (hP : SimpleP P) (hb : ∀ j, turnZ (P.v j) (P.v (j + 1)) (P.v (j + 2)) ≠ 0) {h : Aff} (hg : Gen h P) (hl1 : LeftIs h P.way 1) :
    Late fun K => (∀ j k, k < P.n → Part (smul K (P.v k)) (smul K (P.v (k + 1))) (inpt P K j) (inpt P K (j + 1))) ∧ ∀ j, wnd (h.sc K) (P.sc K).way (inpt P K j) = 1 := by
  have h3 := hP.n3
  obtain ⟨D, hD⟩ : ∃ D, D = padd (psub (0, 0) (outd (P.v 0) (P.v 1) (P.v 2))) (psub (0, 0) (outd (P.v 1) (P.v 2) (P.v 3))) := ⟨_, rfl⟩
  have near : Late fun K => ∀ m, m < P.n → (m ≠ 1 → Part (smul K (smul 2 (P.v m))) (smul K (smul 2 (P.v (m + 1)))) (padd (smul K (padd (P.v 1) (P.v 2))) D) (padd (smul K (padd (P.v 1) (P.v 2))) (0, 0))) := Late.all fun m hm => by
    by_cases e : m = 1
    · exact Late.of fun K _ g => absurd e g
    · exact ((mid_off hP hb hm e).near D (0, 0)).imp fun K _ H _ => H
  refine ((ilinks hP hb).and near).imp fun K hK ⟨hl, hn⟩ => ⟨hl, ?_⟩
  have all : ∀ j, wnd (h.sc K) (P.sc K).way (inpt P K j) = wnd (h.sc K) (P.sc K).way (inpt P K 0) := fun j => by
    induction j with
    | zero => rfl
    | succ j ih => rw [← ih]; exact (wnd_step _ (P.sc K).way fun k hk => hl j k hk).symm
  intro j
  rw [all]
  have e2 : ∀ x : Pt, smul K (smul 2 x) = smul (2 * K) x := fun x => by rw [smul2, Int.mul_comm]
  have ex : padd (smul K (padd (P.v 1) (P.v 2))) (0, 0) = smul K (padd (P.v 1) (P.v 2)) := by unfold padd; simp
  have em : padd (smul K (padd (P.v 1) (P.v 2))) D = padd (inpt P K 0) (inpt P K 1) := by
    rw [hD]
    show _ = padd (padd (smul K (P.v 1)) (psub (0, 0) (outd (P.v 0) (P.v 1) (P.v 2)))) (padd (smul K (P.v 2)) (psub (0, 0) (outd (P.v 1) (P.v 2) (P.v 3))))
    generalize psub (0, 0) (outd (P.v 0) (P.v 1) (P.v 2)) = x
    generalize psub (0, 0) (outd (P.v 1) (P.v 2) (P.v 3)) = y
    unfold padd smul
    refine Prod.ext ?_ ?_
    · show K * (_ + _) + (_ + _) = _ + _ + (_ + _); rw [Int.mul_add]; omega
    · show K * (_ + _) + (_ + _) = _ + _ + (_ + _); rw [Int.mul_add]; omega
  have hon : OnI (smul K (padd (P.v 1) (P.v 2))) (smul (2 * K) (P.v 1)) (smul (2 * K) (P.v 2)) := ⟨1, 1, by decide, by decide, by unfold smul padd; grind, by unfold smul padd; grind⟩
  obtain ⟨q1, q2⟩ := own_left hb 0 hK
  have q1 : 0 < turnZ (smul K (P.v 1)) (smul K (P.v 2)) (inpt P K 0) := q1
  have q2 : 0 < turnZ (smul K (P.v 1)) (smul K (P.v 2)) (inpt P K 1) := q2
  have w1 := wnd_left (h := h.sc (2 * K)) (P := P.way.sc (2 * K)) (sloped_sc (hg.sloped (by omega)) (by omega)) (k := 1) (p := padd (inpt P K 0) (inpt P K 1)) (x := smul K (padd (P.v 1) (P.v 2))) (by show 1 < P.n; omega) hon (fun k hk hk1 => by
    have := hn k hk hk1
    rw [e2, e2, ex, em] at this
    exact this) (by
    show 0 < turnZ (smul (2 * K) (P.v 1)) (smul (2 * K) (P.v 2)) (padd (inpt P K 0) (inpt P K 1))
    have : turnZ (smul (2 * K) (P.v 1)) (smul (2 * K) (P.v 2)) (padd (inpt P K 0) (inpt P K 1)) = 2 * (turnZ (smul K (P.v 1)) (smul K (P.v 2)) (inpt P K 0) + turnZ (smul K (P.v 1)) (smul K (P.v 2)) (inpt P K 1)) := by unfold turnZ smul padd; grind
    omega)
  have w2 := hl1.2.1 (2 * K) 1 (smul K (padd (P.v 1) (P.v 2))) (by omega) (by show 1 < P.n; omega) hon
  rw [w2] at w1
  have w3 : wnd (h.sc (2 * K)) (P.sc (2 * K)).way (padd (inpt P K 0) (inpt P K 1)) = wnd (h.sc (2 * K)) (P.sc (2 * K)).way (smul 2 (inpt P K 0)) := wnd_step _ (P.sc (2 * K)).way fun k hk => by
    have := (hl 0 k hk).mean (s := 1) (t := 1) (s' := 2) (t' := 0) (L := 2) (by decide) (by decide) (by decide) (by decide) (by decide) rfl rfl
    rw [smul2, smul2] at this
    have e1 : padd (smul 1 (inpt P K 0)) (smul 1 (inpt P K (0 + 1))) = padd (inpt P K 0) (inpt P K 1) := by unfold padd smul; simp
    have e0 : padd (smul 2 (inpt P K 0)) (smul 0 (inpt P K (0 + 1))) = smul 2 (inpt P K 0) := by unfold padd smul; simp
    rwa [e1, e0] at this
  have w4 := wnd_scale (h.sc K) P (show (0 : Int) < 2 by decide) K (inpt P K 0)
  have eh : (h.sc K).sc 2 = h.sc (2 * K) := by unfold Aff.sc; rw [← Int.mul_assoc]
  rw [eh] at w4
  rw [← w4, ← w3]; exact w1
theorem nc_turn {p q : Pt} (h : p ≠ q) : NC (Aff.turn p q) := by
  have : ¬ (q.1 - p.1 = 0 ∧ q.2 - p.2 = 0) := fun ⟨e1, e2⟩ => h (Prod.ext (by omega) (by omega))
  unfold NC Aff.turn
  simp only
  omega
theorem wnd_free {h1 h2 : Aff} (n1 : NC h1) (n2 : NC h2) {P : Poly} {K : Int} {p : Pt} (ho : ∀ k, k < P.n → Off p (smul K (P.v k)) (smul K (P.v (k + 1)))) : wnd h1 (P.sc K).way p = wnd h2 (P.sc K).way p := wnd_any (P := (P.sc K).way) n1 n2 ho
theorem sc_one (P : Poly) : P.sc 1 = P := Poly.ext' rfl fun j => by show smul 1 (P.v j) = _; unfold smul; simp
theorem wnd_zero_one {P : Poly} (hP : SimpleP P) (ha : 0 < P.area) {h : Aff} (hn : NC h) {p : Pt} (ho : ∀ k, k < P.n → Off p (P.v k) (P.v (k + 1))) : wnd h P.way p = 0 ∨ wnd h P.way p = 1 := by
  have lv : Late fun M => ∀ k, k < P.n → (hM M).ev (P.v k) ≠ (hM M).ev p := Late.all fun k hk => by
    have hne : P.v k ≠ p := fun e => (Off.ne (ho k hk)).1 e.symm
    by_cases e : (P.v k).2 = p.2
    · refine Late.of fun M _ e2 => hne (Prod.ext ?_ e)
      have e2 : 1 * (P.v k).1 + M * (P.v k).2 + 0 = 1 * p.1 + M * p.2 + 0 := e2
      rw [e] at e2; omega
    · refine (late_ne (c := (P.v k).1) (c' := p.1) e).imp fun M _ H e2 => H ?_
      have e2 : 1 * (P.v k).1 + M * (P.v k).2 + 0 = 1 * p.1 + M * p.2 + 0 := e2
      omega
  obtain ⟨M, hM0, hg, hl⟩ := ((hM_gen hP).and lv).get
  have hL := ((pos_iff hP hg).2 ha).left hP hg
  have hc : Clear (hM M) P.way p := Off.clear (P := P.way) ho hl
  have e1 : (hM M).sc 1 = hM M := by unfold Aff.sc; rw [Int.one_mul]
  have e2 : P.way.sc 1 = P.way := congrArg Poly.way (sc_one P)
  have := hL.2.2 1 p (by decide) (by rw [e1, e2]; exact hc)
  rw [e1, e2] at this
  have e3 : wnd h P.way p = wnd (hM M) P.way p := wnd_any hn (.inl (by show (1 : Int) ≠ 0; decide)) ho
  rw [e3]; omega
theorem Late.mul {Q : Int → Prop} (h : Late Q) {X : Int} (hX : 0 < X) : Late fun K => Q (X * K) := by
  obtain ⟨k0, hk⟩ := h
  refine ⟨k0, fun K h1 h2 => hk _ ?_ (pp hX h2)⟩
  have := Int.mul_le_mul_of_nonneg_right (show 1 ≤ X by omega) (show 0 ≤ K by omega)
  rw [Int.one_mul] at this
  omega
theorem star {P : Poly} (hP : SimpleP P) (hb : ∀ j, turnZ (P.v j) (P.v (j + 1)) (P.v (j + 2)) ≠ 0) (ha : 0 < P.area) {p q : Pt} (hk : ∀ k, k < P.n → 0 ≤ turnZ (P.v k) (P.v (k + 1)) p) (hq : ¬ Outp P 1 q) : NoOut P p q := by
  intro s t hs ht hst ⟨hoff, h, hnc, h0⟩
  have h3 := hP.n3
  by_cases hqo : ∀ k, k < P.n → Off q (P.v k) (P.v (k + 1))
  · -- q is off the walls: counted once
    have hqo' : ∀ k, k < P.n → Off q (smul 1 (P.v k)) (smul 1 (P.v (k + 1))) := fun k hk => by rw [smul_one, smul_one]; exact hqo k hk
    have one : ∀ g : Aff, NC g → wnd g (P.sc 1).way q = 1 := fun g hg => by
      rw [sc_one]
      rcases wnd_zero_one hP ha hg hqo with e | e
      · exact absurd ⟨hqo', g, hg, by rw [sc_one]; exact e⟩ hq
      · exact e
    by_cases hpq : p = q
    · subst hpq
      have e : padd (smul s p) (smul t p) = smul (s + t) p := by unfold padd smul; simp [Int.add_mul]
      rw [e] at hoff h0
      have := wnd_scale h P hst 1 p
      rw [Int.mul_one, one h hnc, wnd_free (h1 := h.sc (s + t)) (h2 := h) hnc hnc hoff, h0] at this
      omega
    · have c := star_core (P := P) (K := 1) (p := p) (q := q) (fun k hkn => by rw [smul_one, smul_one]; exact hk k hkn) hs ht hst (by rw [Int.mul_one]; exact hoff)
      rw [one _ (nc_turn hpq), Int.mul_one, wnd_free (h1 := (Aff.turn p q).sc (s + t)) (h2 := h) (nc_turn hpq) hnc hoff, h0] at c
      omega
  · -- q is on a wall: counted once close by
    have ⟨k, hkn, hno⟩ : ∃ k, k < P.n ∧ ¬ Off q (P.v k) (P.v (k + 1)) := by
      apply Classical.byContradiction
      intro hc
      exact hqo fun k hk => Classical.byContradiction fun hn => hc ⟨k, hk, hn⟩
    rcases off_or_on q (hP.ne k) with g | ⟨x, y, hx, hy, hxy, hon⟩
    · exact hno g
    have eq : smul (x + y) q = padd (smul x (P.v k)) (smul y (P.v (k + 1))) := by
      have g1 := hon ⟨1, 0, 0⟩
      have g2 := hon ⟨0, 1, 0⟩
      simp only [Aff.ev, Int.one_mul, Int.zero_mul, Int.zero_add, Int.add_zero] at g1 g2
      exact Prod.ext g1 g2
    generalize hX : x + y = X at *
    obtain ⟨j, hj⟩ : ∃ j, j + 1 = k + P.n := ⟨k + P.n - 1, by omega⟩
    have v1 : P.v (j + 1) = P.v k := by rw [hj, P.per]
    have v2 : P.v (j + 2) = P.v (k + 1) := by rw [show j + 2 = k + 1 + P.n by omega, P.per]
    obtain ⟨d1, hd1⟩ : ∃ d, d = psub (0, 0) (outd (P.v j) (P.v (j + 1)) (P.v (j + 2))) := ⟨_, rfl⟩
    obtain ⟨d2, hd2⟩ : ∃ d, d = psub (0, 0) (outd (P.v (j + 1)) (P.v (j + 2)) (P.v (j + 3))) := ⟨_, rfl⟩
    have i1 : ∀ K, inpt P K j = padd (smul K (P.v k)) d1 := fun K => by rw [hd1, ← v1]; rfl
    have i2 : ∀ K, inpt P K (j + 1) = padd (smul K (P.v (k + 1))) d2 := fun K => by rw [hd2, ← v2]; rfl
    obtain ⟨E, hE⟩ : ∃ E, E = padd (smul x d1) (smul y d2) := ⟨_, rfl⟩
    obtain ⟨M, hM0, hg⟩ := (hM_gen hP).get
    have hL := ((pos_iff hP hg).2 ha).left hP hg
    have near : Late fun K => ∀ i, i < P.n → Part (smul K (smul (s + t) (P.v i))) (smul K (smul (s + t) (P.v (i + 1)))) (padd (smul K (padd (smul s p) (smul t q))) (smul t E)) (padd (smul K (padd (smul s p) (smul t q))) (0, 0)) := Late.all fun i hi => (hoff i hi).near _ _
    obtain ⟨K, hK, ⟨hlk, hone⟩, hnr⟩ := ((itrace hP hb hg hL).and (near.mul hxy)).get
    obtain ⟨q', hq'⟩ : ∃ q', q' = padd (smul x (inpt P K j)) (smul y (inpt P K (j + 1))) := ⟨_, rfl⟩
    have hXK : 0 < X * K := pp hxy hK
    have hpart : ∀ i, i < P.n → Part (smul (X * K) (P.v i)) (smul (X * K) (P.v (i + 1))) q' (smul X (inpt P K j)) := fun i hi => by
      have := (hlk j i hi).mean hx hy (Int.le_of_lt hxy) (Int.le_refl 0) hxy hX (Int.add_zero X)
      rw [smul2, smul2, ← hq'] at this
      have e0 : padd (smul X (inpt P K j)) (smul 0 (inpt P K (j + 1))) = smul X (inpt P K j) := by unfold padd smul; simp
      rwa [e0] at this
    have hoq : ∀ i, i < P.n → Off q' (smul (X * K) (P.v i)) (smul (X * K) (P.v (i + 1))) := fun i hi => (hpart i hi).off1
    have nM : NC (hM M) := .inl (by show (1 : Int) ≠ 0; decide)
    have oneq : ∀ g : Aff, NC g → wnd g (P.sc (X * K)).way q' = 1 := fun g hg => by
      rw [wnd_free (h2 := ((hM M).sc K).sc X) hg nM hoq, wnd_step _ (P.sc (X * K)).way (q := q') (r := smul X (inpt P K j)) hpart, wnd_scale _ P hxy, hone]
    have em : padd (smul s (smul (X * K) p)) (smul t q') = padd (smul (X * K) (padd (smul s p) (smul t q))) (smul t E) := by
      have eq1 : X * q.1 = x * (P.v k).1 + y * (P.v (k + 1)).1 := congrArg Prod.fst eq
      have eq2 : X * q.2 = x * (P.v k).2 + y * (P.v (k + 1)).2 := congrArg Prod.snd eq
      rw [hq', i1, i2, hE]
      unfold padd smul
      refine Prod.ext ?_ ?_
      · show s * (X * K * p.1) + t * (x * (K * (P.v k).1 + d1.1) + y * (K * (P.v (k + 1)).1 + d2.1)) = X * K * (s * p.1 + t * q.1) + t * (x * d1.1 + y * d2.1)
        have : X * K * (s * p.1 + t * q.1) = X * K * (s * p.1) + K * t * (X * q.1) := by grind
        rw [this, eq1]; grind
      · show s * (X * K * p.2) + t * (x * (K * (P.v k).2 + d1.2) + y * (K * (P.v (k + 1)).2 + d2.2)) = X * K * (s * p.2 + t * q.2) + t * (x * d1.2 + y * d2.2)
        have : X * K * (s * p.2 + t * q.2) = X * K * (s * p.2) + K * t * (X * q.2) := by grind
        rw [this, eq2]; grind
    have ez : padd (smul (X * K) (padd (smul s p) (smul t q))) (0, 0) = smul (X * K) (padd (smul s p) (smul t q)) := by unfold padd; simp
    have hnr' : ∀ i, i < P.n → Part (smul ((s + t) * (X * K)) (P.v i)) (smul ((s + t) * (X * K)) (P.v (i + 1))) (padd (smul s (smul (X * K) p)) (smul t q')) (smul (X * K) (padd (smul s p) (smul t q))) := fun i hi => by
      have := hnr i hi
      rw [smul2, smul2, ← em, ez, Int.mul_comm (X * K) (s + t)] at this
      exact this
    have hom : ∀ i, i < P.n → Off (padd (smul s (smul (X * K) p)) (smul t q')) (smul ((s + t) * (X * K)) (P.v i)) (smul ((s + t) * (X * K)) (P.v (i + 1))) := fun i hi => (hnr' i hi).off1
    have zm : ∀ g : Aff, NC g → wnd g (P.sc ((s + t) * (X * K))).way (padd (smul s (smul (X * K) p)) (smul t q')) = 0 := fun g hg => by
      rw [wnd_free (h2 := h.sc (X * K)) hg hnc hom, wnd_step _ (P.sc ((s + t) * (X * K))).way (q := padd (smul s (smul (X * K) p)) (smul t q')) (r := smul (X * K) (padd (smul s p) (smul t q))) hnr', Int.mul_comm (s + t), wnd_scale h P hXK, h0]
    by_cases hpq : smul (X * K) p = q'
    · have e : padd (smul s (smul (X * K) p)) (smul t q') = smul (s + t) q' := by rw [hpq]; unfold padd smul; simp [Int.add_mul]
      have a := zm (h.sc (s + t)) hnc
      rw [e, wnd_scale h P hst, oneq h hnc] at a
      omega
    · have c := star_core (P := P) (K := X * K) (p := smul (X * K) p) (q := q') (fun i hi => by rw [turn_sc0]; exact nn0 (Int.le_of_lt hXK) (nn0 (Int.le_of_lt hXK) (hk i hi))) hs ht hst hom
      rw [oneq _ (nc_turn hpq), zm ((Aff.turn (smul (X * K) p) q').sc (s + t)) (nc_turn hpq)] at c
      omega
theorem wnd_zero_oneK {P : Poly} (hP : SimpleP P) (ha : 0 < P.area) {K : Int} (hK : 0 < K) {h : Aff} (hn : NC h) {p : Pt} (ho : ∀ k, k < P.n → Off p (smul K (P.v k)) (smul K (P.v (k + 1)))) : wnd h (P.sc K).way p = 0 ∨ wnd h (P.sc K).way p = 1 := by
  have ev : ∀ (M : Int) (x : Pt), ((hM M).sc K).ev x = x.1 + M * x.2 := fun M x => by unfold hM Aff.sc Aff.ev; simp
  have lv : Late fun M => ∀ k, k < P.n → ((hM M).sc K).ev (smul K (P.v k)) ≠ ((hM M).sc K).ev p := Late.all fun k hk => by
    have hne : smul K (P.v k) ≠ p := fun e => (Off.ne (ho k hk)).1 e.symm
    by_cases e : (smul K (P.v k)).2 = p.2
    · refine Late.of fun M _ e2 => hne (Prod.ext ?_ e)
      rw [ev, ev, e] at e2; omega
    · refine (late_ne (c := (smul K (P.v k)).1) (c' := p.1) e).imp fun M _ H e2 => H ?_
      rw [ev, ev] at e2; omega
  obtain ⟨M, hM0, hg, hl⟩ := ((hM_gen hP).and lv).get
  have hL := ((pos_iff hP hg).2 ha).left hP hg
  have hc : Clear ((hM M).sc K) (P.sc K).way p := Off.clear (P := (P.sc K).way) ho hl
  have : wnd ((hM M).sc K) (P.sc K).way p = 1 ∨ wnd ((hM M).sc K) (P.sc K).way p = 1 - 1 := hL.2.2 K p hK hc
  rw [wnd_free hn (h2 := (hM M).sc K) (.inl (by show (1 : Int) ≠ 0; decide)) ho]
  omega
def Opp (x y : Int) : Prop := (x < 0 ∧ 0 < y) ∨ (y < 0 ∧ 0 < x)
theorem cross_not_part {a b q r : Pt} (h : Part a b q r) (o1 : Opp (turnZ q r a) (turnZ q r b)) (o2 : Opp (turnZ a b q) (turnZ a b r)) : False := by
  obtain ⟨f, fa, fb, fq, fr⟩ := h
  have E0 := tid a b q r
  have e := aid f a b q r
  unfold Opp at o1 o2
  rcases o1 with ⟨g1, g2⟩ | ⟨g1, g2⟩ <;> rcases o2 with ⟨g3, g4⟩ | ⟨g3, g4⟩
  · have := pp g2 fa; have := mp g1 fb; have := mp0 (Int.le_of_lt g3) (Int.le_refl 0)
    first
      | omega
      | (have k1 := pm0 (Int.le_of_lt g4) fq; have k2 := mm0 (Int.le_of_lt g3) fr; omega)
      | (have k1 := pm0 (Int.le_of_lt g4) fq; have k2 := mm0 (Int.le_of_lt g3) fr; have k3 := mm0 (Int.le_of_lt g3) fq; have k4 := pm0 (Int.le_of_lt g4) fr; omega)
  · have := pp g2 fa; have := mp g1 fb
    have k1 := mm0 (Int.le_of_lt g3) fq; have k2 := pm0 (Int.le_of_lt g4) fr; have k3 := mm0 (Int.le_of_lt g3) fr; have k4 := pm0 (Int.le_of_lt g4) fq
    omega
  · have := pp g2 fb; have := mp g1 fa; have := pp g2 fa; have := mp g1 fb
    have k1 := mm0 (Int.le_of_lt g3) fq; have k2 := pm0 (Int.le_of_lt g4) fr; have k3 := mm0 (Int.le_of_lt g3) fr; have k4 := pm0 (Int.le_of_lt g4) fq
    omega
  · have := pp g2 fb; have := mp g1 fa; have := pp g2 fa; have := mp g1 fb
    have k1 := mm0 (Int.le_of_lt g3) fq; have k2 := pm0 (Int.le_of_lt g4) fr; have k3 := mm0 (Int.le_of_lt g3) fr; have k4 := pm0 (Int.le_of_lt g4) fq
    omega
theorem late_neg2 {t c e : Int} (h : t < 0) : Late fun K => K * (K * t + c) + e < 0 := by
  refine ⟨max (c + 1) (e + 1), fun K hK h0 => ?_⟩
  have g : K * t ≤ K * (-1) := Int.mul_le_mul_of_nonneg_left (by omega) (by omega)
  have g2 : K * (K * t + c) ≤ K * (-1) := Int.mul_le_mul_of_nonneg_left (by omega) (by omega)
  omega
theorem late_pos2 {t c e : Int} (h : 0 < t) : Late fun K => 0 < K * (K * t + c) + e := (late_neg2 (t := -t) (c := -c) (e := -e) (by omega)).imp fun K _ g => by
  have : K * (K * -t + -c) = -(K * (K * t + c)) := by grind
  omega
theorem late_opp {t1 t2 c1 c2 e1 e2 : Int} (h : Opp t1 t2) : Late fun K => Opp (K * (K * t1 + c1) + e1) (K * (K * t2 + c2) + e2) := by
  rcases h with ⟨h1, h2⟩ | ⟨h1, h2⟩
  · exact ((late_neg2 h1).and (late_pos2 h2)).imp fun K _ g => .inl g
  · exact ((late_neg2 h1).and (late_pos2 h2)).imp fun K _ g => .inr g
theorem turn_two (K : Int) (u w d d' a : Pt) : turnZ (padd (smul K u) d) (padd (smul K w) d') (smul K a) = K * (K * turnZ u w a + (((d'.1 - d.1) * (a.2 - u.2) - (d'.2 - d.2) * (a.1 - u.1)) - ((w.1 - u.1) * d.2 - (w.2 - u.2) * d.1))) + ((d'.2 - d.2) * d.1 - (d'.1 - d.1) * d.2) := by unfold turnZ padd smul; grind
theorem no_cross {P : Poly} (hP : SimpleP P) (hb : ∀ j, turnZ (P.v j) (P.v (j + 1)) (P.v (j + 2)) ≠ 0) (ha : 0 < P.area) {a b : Pt} (hno : NoOut P a b) {k : Nat} (o1 : Opp (turnZ a b (P.v k)) (turnZ a b (P.v (k + 1)))) (o2 : Opp (turnZ (P.v k) (P.v (k + 1)) a) (turnZ (P.v k) (P.v (k + 1)) b)) : False := by
  have h3 := hP.n3
  obtain ⟨j, hj⟩ : ∃ j, j + 1 = k + P.n := ⟨k + P.n - 1, by omega⟩
  have v1 : P.v (j + 1) = P.v k := by rw [hj, P.per]
  have v2 : P.v (j + 2) = P.v (k + 1) := by rw [show j + 2 = k + 1 + P.n by omega, P.per]
  rw [← v1, ← v2] at o1 o2
  obtain ⟨M, hM0, hg⟩ := (hM_gen hP).get
  have hPp := (pos_iff hP hg).2 ha
  have s1 : Late fun K => Opp (turnZ (smul K a) (smul K b) (qpt P K j)) (turnZ (smul K a) (smul K b) (qpt P K (j + 1))) :=
    (late_opp (c1 := turnZ a b (padd a (outd (P.v j) (P.v (j + 1)) (P.v (j + 2))))) (c2 := turnZ a b (padd a (outd (P.v (j + 1)) (P.v (j + 2)) (P.v (j + 3))))) (e1 := 0) (e2 := 0) o1).imp fun K _ g => by
      unfold qpt
      rw [turn_sc, turn_sc]
      rwa [Int.add_zero, Int.add_zero] at g
  have s2 : Late fun K => Opp (turnZ (qpt P K j) (qpt P K (j + 1)) (smul K a)) (turnZ (qpt P K j) (qpt P K (j + 1)) (smul K b)) := by
    unfold qpt
    simp only [turn_two]
    exact late_opp o2
  obtain ⟨K, hK, hl, g1, g2⟩ := ((links hP hb).and (s1.and s2)).get
  have z := trace_zero hP hg hPp hK hl
  have hnc : NC ((hM M).sc K) := .inl (by show (1 : Int) ≠ 0; decide)
  have hne : qpt P K j ≠ qpt P K (j + 1) := fun e => by
    rw [e] at g1
    unfold Opp at g1; omega
  exact cross_not_part (link_part hK hne hnc (fun k hk => hl j k hk) (z j) hno) g2 g1
theorem on_line {a b c : Pt} (h : turnZ a b c = 0) : ((b.1 - a.1) * (b.1 - a.1) + (b.2 - a.2) * (b.2 - a.2)) * c.1 = (((b.1 - a.1) * (b.1 - a.1) + (b.2 - a.2) * (b.2 - a.2)) - (((b.1 - a.1) * (b.1 - a.1) + (b.2 - a.2) * (b.2 - a.2)) + dotZ a b c)) * a.1 + (((b.1 - a.1) * (b.1 - a.1) + (b.2 - a.2) * (b.2 - a.2)) + dotZ a b c) * b.1 ∧
    ((b.1 - a.1) * (b.1 - a.1) + (b.2 - a.2) * (b.2 - a.2)) * c.2 = (((b.1 - a.1) * (b.1 - a.1) + (b.2 - a.2) * (b.2 - a.2)) - (((b.1 - a.1) * (b.1 - a.1) + (b.2 - a.2) * (b.2 - a.2)) + dotZ a b c)) * a.2 + (((b.1 - a.1) * (b.1 - a.1) + (b.2 - a.2) * (b.2 - a.2)) + dotZ a b c) * b.2 := by
  have m1 := line_mean h ⟨1, 0, 0⟩
  have m2 := line_mean h ⟨0, 1, 0⟩
  simp only [Aff.ev, Int.one_mul, Int.zero_mul, Int.zero_add, Int.add_zero] at m1 m2
  constructor
  · rw [m1]; congr 1; congr 1; omega
  · rw [m2]; congr 1; congr 1; omega
def phi (a b c : Pt) : Int := ((b.1 - a.1) * (b.1 - a.1) + (b.2 - a.2) * (b.2 - a.2)) + dotZ a b c
theorem flat_mean {a b p q c : Pt} (hab : a ≠ b) (hp : turnZ a b p = 0) (hq : turnZ a b q = 0) (hc : turnZ a b c = 0) (h1 : phi a b p ≤ phi a b c) (h2 : phi a b c ≤ phi a b q) (h3 : phi a b p < phi a b q) : OnM c p q := by
  have hN := sq_pos hab
  have e : ∀ f : Aff, (phi a b q - phi a b p) * f.ev c = (phi a b q - phi a b c) * f.ev p + (phi a b c - phi a b p) * f.ev q := fun f => by
    have mp := line_mean hp f
    have mq := line_mean hq f
    have mc := line_mean hc f
    unfold phi
    generalize (b.1 - a.1) * (b.1 - a.1) + (b.2 - a.2) * (b.2 - a.2) = N at *
    have hN0 : N ≠ 0 := by omega
    refine Int.eq_of_mul_eq_mul_left hN0 ?_
    have e1 : N * ((N + dotZ a b q - (N + dotZ a b p)) * f.ev c) = (dotZ a b q - dotZ a b p) * (N * f.ev c) := by grind
    have e2 : N * ((N + dotZ a b q - (N + dotZ a b c)) * f.ev p + (N + dotZ a b c - (N + dotZ a b p)) * f.ev q) = (dotZ a b q - dotZ a b c) * (N * f.ev p) + (dotZ a b c - dotZ a b p) * (N * f.ev q) := by grind
    rw [e1, e2, mp, mq, mc]; grind
  exact ⟨phi a b q - phi a b c, phi a b c - phi a b p, by omega, by omega, by omega, fun f => by rw [show phi a b q - phi a b c + (phi a b c - phi a b p) = phi a b q - phi a b p by omega]; exact e f⟩
theorem phi_a (a b : Pt) : phi a b a = 0 := by unfold phi dotZ; grind
theorem phi_b (a b : Pt) : phi a b b = (b.1 - a.1) * (b.1 - a.1) + (b.2 - a.2) * (b.2 - a.2) := by unfold phi dotZ; grind
theorem par_odd {f : Nat → Bool} {c : Nat → Int} : ∀ {n : Nat}, (∀ k, k < n → (f k = true ∧ (c k = 1 ∨ c k = -1)) ∨ (f k = false ∧ c k = 0)) → (par f n = true ↔ sumN c n % 2 = 1)
  | 0, _ => by simp [par, sumN]
  | n + 1, h => by
    have ih := par_odd (n := n) (f := f) (c := c) fun k hk => h k (by omega)
    simp only [par, sumN]
    rcases h n (by omega) with ⟨e, g | g⟩ | ⟨e, g⟩ <;> rw [e, g] <;> cases hp : par f n <;> rw [hp] at ih <;> simp at ih ⊢ <;> omega
theorem place_out {xs ys : List Pt} (hr : roomOk xs = true) {K : Int} (hK : 0 < K) (hy : ys.length = xs.length) (hv : ∀ k, pCy ys k = smul K (pCy xs k)) (hb : ∀ q ∈ ys, Bd q) {p : Pt} (hp : Bd p) : placeM ys p = 0 ↔ Outp (roomP xs) K p := by
  have hP := room_simple hr
  have ha := (room_area hr).2.1
  have hn := room_pos hr
  have wa : ∀ k, k < xs.length → pAt ys k = smul K ((roomP xs).v k) ∧ pCy ys (k + 1) = smul K ((roomP xs).v (k + 1)) := fun k hk => ⟨(pCy_lt (by omega)).symm.trans (hv k), hv (k + 1)⟩
  have ne : ∀ k, k < xs.length → smul K ((roomP xs).v k) ≠ smul K ((roomP xs).v (k + 1)) := fun k hk e => by
    apply hP.ne k
    have e1 := congrArg Prod.fst e
    have e2 := congrArg Prod.snd e
    exact Prod.ext (Int.eq_of_mul_eq_mul_left (by omega) e1) (Int.eq_of_mul_eq_mul_left (by omega) e2)
  have onoff : ∀ k, k < xs.length → (onAt ys p k = false ↔ Off p (smul K ((roomP xs).v k)) (smul K ((roomP xs).v (k + 1)))) := fun k hk => by
    have b1 : Bd (pAt ys k) := pAt_bd hb (by omega)
    have b2 : Bd (pCy ys (k + 1)) := pCy_bd hb (by omega)
    show onS p (pAt ys k) (pCy ys (k + 1)) = false ↔ _
    constructor
    · intro h0
      rcases off_or_on p (ne k hk) with g | g
      · exact g
      · rw [← (wa k hk).1, ← (wa k hk).2] at g
        rw [g.onS b1 b2 hp] at h0
        exact absurd h0 (by decide)
    · intro g
      cases h0 : onS p (pAt ys k) (pCy ys (k + 1)) with
      | false => rfl
      | true =>
        exfalso
        have := onS_OnM b1 b2 hp h0
        rw [(wa k hk).1, (wa k hk).2] at this
        exact this.not_off g
  have hh := place_holds hb hp
  have hnc : NC (⟨0, 1, 0⟩ : Aff) := .inr (by decide)
  have odd : par (upSAt ys p) ys.length = true ↔ wnd ⟨0, 1, 0⟩ ((roomP xs).sc K).way p % 2 = 1 := by
    rw [hy]
    refine par_odd (n := xs.length) fun k hk => ?_
    show (upS p (pAt ys k) (pCy ys (k + 1)) = true ∧ _) ∨ _
    have b1 : Bd (pAt ys k) := pAt_bd hb (by omega)
    have b2 : Bd (pCy ys (k + 1)) := pCy_bd hb (by omega)
    have e : crN ⟨0, 1, 0⟩ p (((roomP xs).sc K).way.v k) (((roomP xs).sc K).way.v (k + 1)) = crN ⟨0, 1, 0⟩ p (pAt ys k) (pCy ys (k + 1)) := by
      rw [(wa k hk).1, (wa k hk).2]; rfl
    show (upS p (pAt ys k) (pCy ys (k + 1)) = true ∧ (crN ⟨0, 1, 0⟩ p (((roomP xs).sc K).way.v k) (((roomP xs).sc K).way.v (k + 1)) = 1 ∨ crN ⟨0, 1, 0⟩ p (((roomP xs).sc K).way.v k) (((roomP xs).sc K).way.v (k + 1)) = -1)) ∨ (upS p (pAt ys k) (pCy ys (k + 1)) = false ∧ crN ⟨0, 1, 0⟩ p (((roomP xs).sc K).way.v k) (((roomP xs).sc K).way.v (k + 1)) = 0)
    rw [e]
    generalize pAt ys k = a at *
    generalize pCy ys (k + 1) = b at *
    have lv : ∀ x : Pt, (⟨0, 1, 0⟩ : Aff).ev x = x.2 := fun x => by unfold Aff.ev; simp
    unfold upS crN
    rw [turn_exact b1 b2 hp, lv, lv, lv]
    by_cases c1 : a.2 ≤ p.2 ∧ p.2 < b.2 ∧ 0 < turnZ a b p
    · rw [if_pos c1]; left; simp [c1]
    · rw [if_neg c1]
      by_cases c2 : b.2 ≤ p.2 ∧ p.2 < a.2 ∧ turnZ a b p < 0
      · rw [if_pos c2]; left; simp [c2]
      · rw [if_neg c2]; right
        refine ⟨?_, rfl⟩
        rw [Bool.eq_false_iff]
        intro h
        simp only [Bool.or_eq_true, Bool.and_eq_true, decide_eq_true_eq] at h
        rcases h with h | h
        · exact c1 h
        · exact c2 h
  rw [hh]
  unfold holdsM
  constructor
  · intro h0
    have hon : onAny ys p = false := by
      cases e : onAny ys p with
      | false => rfl
      | true => rw [e] at h0; simp at h0
    rw [hon] at h0
    have hpar : ¬ par (upSAt ys p) ys.length = true := fun e => by rw [e] at h0; simp at h0
    have ho : ∀ k, k < xs.length → Off p (smul K ((roomP xs).v k)) (smul K ((roomP xs).v (k + 1))) := fun k hk => (onoff k hk).1 (by
      cases e : onAt ys p k with
      | false => rfl
      | true => rw [onAny_yes (by omega) e] at hon; exact absurd hon (by decide))
    refine ⟨ho, ⟨0, 1, 0⟩, hnc, ?_⟩
    rcases wnd_zero_oneK hP ha hK hnc ho with g | g
    · exact g
    · exact absurd (odd.2 (by rw [g]; decide)) hpar
  · rintro ⟨ho, h, hn', h0⟩
    have hon : onAny ys p = false := onAny_no fun k hk => (onoff k (by omega)).2 (ho k (by show k < xs.length; omega))
    have w0 : wnd ⟨0, 1, 0⟩ ((roomP xs).sc K).way p = 0 := by rw [wnd_free hnc hn' ho, h0]
    have hpar : par (upSAt ys p) ys.length = false := by
      rw [Bool.eq_false_iff]
      intro e
      have := odd.1 e
      rw [w0] at this
      exact absurd this (by decide)
    rw [hon, hpar]
    rfl
theorem twP_eq {q : Pt} (h : -40 ≤ q.1 ∧ q.1 ≤ 40 ∧ -40 ≤ q.2 ∧ q.2 ≤ 40) : twP q = smul 2 q := by
  unfold twP smul
  rw [W_in (by omega) (by omega), W_in (by omega) (by omega)]
theorem mid_out {xs : List Pt} (hr : roomOk xs = true) {p q : Pt} (hp : -40 ≤ p.1 ∧ p.1 ≤ 40 ∧ -40 ≤ p.2 ∧ p.2 ≤ 40) (hq : -40 ≤ q.1 ∧ q.1 ≤ 40 ∧ -40 ≤ q.2 ∧ q.2 ≤ 40) : midM xs p q = 0 ↔ Outp (roomP xs) 2 (padd p q) := by
  have h := pt_of_room hr
  have hn := room_pos hr
  have e : sumP p q = padd p q := by
    unfold sumP padd
    rw [W_in (by omega) (by omega), W_in (by omega) (by omega)]
  unfold midM
  rw [e]
  refine place_out hr (by decide) (by simp) (fun k => ?_) (fun c' hc' => ?_) ?_
  · have hk : k % xs.length < xs.length := Nat.mod_lt _ hn
    show (xs.map twP).getD (k % (xs.map twP).length) (0, 0) = smul 2 (xs.getD (k % xs.length) (0, 0))
    rw [List.length_map, getD_lt _ (by rw [List.length_map]; exact hk), getD_lt _ hk, List.getElem_map]
    exact twP_eq (h _ (List.getElem_mem hk))
  · obtain ⟨c, hc, rfl⟩ := List.mem_map.1 hc'
    have := h c hc
    rw [twP_eq this]
    unfold Bd smul
    simp only
    omega
  · unfold Bd padd
    simp only
    omega
theorem room_turns {xs : List Pt} (hr : roomOk xs = true) (j : Nat) : turnZ ((roomP xs).v j) ((roomP xs).v (j + 1)) ((roomP xs).v (j + 2)) ≠ 0 := by
  have hn := room_pos hr
  have hb := bd_of_room hr
  have hk : j % xs.length < xs.length := Nat.mod_lt _ hn
  have := (okAt_iff.1 ((roomOk_iff.1 hr).2.2.1 _ hk)).1
  rw [turn_exact (pAt_bd hb hk) (pCy_bd hb hn) (pCy_bd hb hn)] at this
  have e1 : pCy xs (j % xs.length + 1) = (roomP xs).v (j + 1) := (roomP xs).per_add j 1
  have e2 : pCy xs (j % xs.length + 2) = (roomP xs).v (j + 2) := (roomP xs).per_add j 2
  rw [e1, e2] at this
  exact this
theorem Outp.scale {P : Poly} {K : Int} {m : Pt} (h : Outp P K m) {L : Int} (hL : 0 < L) : Outp P (L * K) (smul L m) := by
  obtain ⟨ho, g, hg, h0⟩ := h
  refine ⟨fun k hk => ?_, g.sc L, hg, by rw [wnd_scale g P hL, h0]⟩
  obtain ⟨f, fa, fb, fp⟩ := ho k hk
  rw [← smul2, ← smul2]
  exact ⟨f.sc L, by rw [ev_sc0]; exact pp hL fa, by rw [ev_sc0]; exact pp hL fb, by rw [ev_sc0]; exact pm hL fp⟩
theorem OnM.coords {p a b : Pt} (h : OnM p a b) : ∃ s t : Int, 0 ≤ s ∧ 0 ≤ t ∧ 0 < s + t ∧ (s + t) * p.1 = s * a.1 + t * b.1 ∧ (s + t) * p.2 = s * a.2 + t * b.2 := by
  obtain ⟨s, t, hs, ht, h0, h⟩ := h
  have g1 := h ⟨1, 0, 0⟩
  have g2 := h ⟨0, 1, 0⟩
  simp only [Aff.ev, Int.one_mul, Int.zero_mul, Int.zero_add, Int.add_zero] at g1 g2
  exact ⟨s, t, hs, ht, h0, g1, g2⟩
theorem sees_of {xs : List Pt} (hr : roomOk xs = true) {a b : Pt} (ha : ptOk a = true) (hb : ptOk b = true) (h : NoOut (roomP xs) a b) : Sees xs a b := by
  have hbd := bd_of_room hr
  have hn := room_pos hr
  have ba := bd_of_ok ha
  have bb := bd_of_ok hb
  constructor
  · intro k hk
    cases hc : crs a b (wl xs k).1 (wl xs k).2 with
    | false => rfl
    | true =>
      exfalso
      unfold crs at hc
      rw [Bool.and_eq_true, decide_eq_true_eq, decide_eq_true_eq, sgn_opp, sgn_opp] at hc
      have b1 : Bd (wl xs k).1 := pAt_bd hbd hk
      have b2 : Bd (wl xs k).2 := pCy_bd hbd hn
      rw [turn_exact ba bb b1, turn_exact ba bb b2, turn_exact b1 b2 ba, turn_exact b1 b2 bb] at hc
      have e1 : (wl xs k).1 = (roomP xs).v k := (pCy_lt hk).symm
      have e2 : (wl xs k).2 = (roomP xs).v (k + 1) := rfl
      rw [e1, e2] at hc
      exact no_cross (room_simple hr) (room_turns hr) (room_area hr).2.1 h hc.1 hc.2
  · intro p q hp hq _ _ e0
    have op := cuts_on hp
    have oq := cuts_on hq
    have p40 := on_pt40 ha hb op
    have q40 := on_pt40 ha hb oq
    have bp : Bd p := by unfold Bd; omega
    have bq : Bd q := by unfold Bd; omega
    obtain ⟨s, t, hs, ht, h0, x1, x2⟩ := (onS_OnM ba bb bp op).coords
    obtain ⟨s', t', hs', ht', h0', y1, y2⟩ := (onS_OnM ba bb bq oq).coords
    have o := ((mid_out hr p40 q40).1 e0).scale (pp h0 h0')
    have eL : (s + t) * (s' + t') * 2 = ((s' + t') * s + (s + t) * s') + ((s' + t') * t + (s + t) * t') := by grind
    have em : smul ((s + t) * (s' + t')) (padd p q) = padd (smul ((s' + t') * s + (s + t) * s') a) (smul ((s' + t') * t + (s + t) * t') b) := by
      unfold smul padd
      refine Prod.ext ?_ ?_
      · show (s + t) * (s' + t') * (p.1 + q.1) = _ * a.1 + _ * b.1
        have : (s + t) * (s' + t') * (p.1 + q.1) = (s' + t') * ((s + t) * p.1) + (s + t) * ((s' + t') * q.1) := by grind
        rw [this, x1, y1]; grind
      · show (s + t) * (s' + t') * (p.2 + q.2) = _ * a.2 + _ * b.2
        have : (s + t) * (s' + t') * (p.2 + q.2) = (s' + t') * ((s + t) * p.2) + (s + t) * ((s' + t') * q.2) := by grind
        rw [this, x2, y2]; grind
    rw [eL, em] at o
    have n1 := nn0 (show 0 ≤ s' + t' by omega) hs
    have n2 := nn0 (show 0 ≤ s + t by omega) hs'
    have n3 := nn0 (show 0 ≤ s' + t' by omega) ht
    have n4 := nn0 (show 0 ≤ s + t by omega) ht'
    exact h _ _ (by omega) (by omega) (by rw [← eL]; have := pp h0 h0'; omega) o
theorem onS_flat {p a b : Pt} (ha : Bd a) (hb : Bd b) (hp : Bd p) (h : onS p a b = true) : turnZ a b p = 0 ∧ 0 ≤ phi a b p ∧ phi a b p ≤ phi a b b := by
  have g := (onS_iff hp ha hb).1 h
  obtain ⟨h0, ⟨h1, h2⟩, h3, h4⟩ := g
  refine ⟨h0, ?_, ?_⟩
  · have e : phi a b p = (b.1 - a.1) * (p.1 - a.1) + (b.2 - a.2) * (p.2 - a.2) := by unfold phi dotZ; grind
    rw [e]
    have g1 : 0 ≤ (b.1 - a.1) * (p.1 - a.1) := by
      rcases (show a.1 ≤ b.1 ∨ b.1 ≤ a.1 by omega) with g | g
      · exact nn0 (by omega) (by omega)
      · exact mm0 (by omega) (by omega)
    have g2 : 0 ≤ (b.2 - a.2) * (p.2 - a.2) := by
      rcases (show a.2 ≤ b.2 ∨ b.2 ≤ a.2 by omega) with g | g
      · exact nn0 (by omega) (by omega)
      · exact mm0 (by omega) (by omega)
    omega
  · have e : phi a b b - phi a b p = (b.1 - a.1) * (b.1 - p.1) + (b.2 - a.2) * (b.2 - p.2) := by unfold phi dotZ; grind
    have g1 : 0 ≤ (b.1 - a.1) * (b.1 - p.1) := by
      rcases (show a.1 ≤ b.1 ∨ b.1 ≤ a.1 by omega) with g | g
      · exact nn0 (by omega) (by omega)
      · exact mm0 (by omega) (by omega)
    have g2 : 0 ≤ (b.2 - a.2) * (b.2 - p.2) := by
      rcases (show a.2 ≤ b.2 ∨ b.2 ≤ a.2 by omega) with g | g
      · exact nn0 (by omega) (by omega)
      · exact mm0 (by omega) (by omega)
    omega
theorem flat_onS {p a b : Pt} (ha : Bd a) (hb : Bd b) (hp : Bd p) (hab : a ≠ b) (h0 : turnZ a b p = 0) (h1 : 0 ≤ phi a b p) (h2 : phi a b p ≤ phi a b b) : onS p a b = true := by
  have hN := sq_pos hab
  refine OnM.onS ha hb hp (flat_mean hab ?_ ?_ h0 (by rw [phi_a]; exact h1) h2 (by rw [phi_a, phi_b]; exact hN))
  · unfold turnZ; grind
  · unfold turnZ; grind
theorem phi_inj {a b p q : Pt} (hab : a ≠ b) (hp : turnZ a b p = 0) (hq : turnZ a b q = 0) (h : phi a b p = phi a b q) : p = q := by
  have hN := sq_pos hab
  obtain ⟨p1, p2⟩ := on_line hp
  obtain ⟨q1, q2⟩ := on_line hq
  have h' : dotZ a b p = dotZ a b q := by unfold phi at h; omega
  rw [h'] at p1 p2
  exact Prod.ext (Int.eq_of_mul_eq_mul_left (by omega) (p1.trans q1.symm)) (Int.eq_of_mul_eq_mul_left (by omega) (p2.trans q2.symm))
theorem cut_pair {xs : List Pt} {a b : Pt} (hr : roomOk xs = true) (ha : ptOk a = true) (hb : ptOk b = true) (hab : a ≠ b) {L w : Int} (hL : 0 < L) (h0 : 0 < w) (h1 : w < L * phi a b b) (hne : ∀ r ∈ cutsOf xs a b, L * phi a b r ≠ w) :
    ∃ p q, p ∈ cutsOf xs a b ∧ q ∈ cutsOf xs a b ∧ L * phi a b p < w ∧ w < L * phi a b q ∧ ∀ r ∈ cutsOf xs a b, r = p ∨ r = q ∨ phi a b r < phi a b p ∨ phi a b q < phi a b r := by
  have ba := bd_of_ok ha
  have bb := bd_of_ok hb
  have hf : ∀ r ∈ cutsOf xs a b, turnZ a b r = 0 := fun r hr' => by
    have h4 := on_pt40 ha hb (cuts_on hr')
    exact (onS_flat ba bb (by unfold Bd; omega) (cuts_on hr')).1
  have gm : ∀ k, k < (cutsOf xs a b).length → pAt (cutsOf xs a b) k ∈ cutsOf xs a b := fun k hk => by rw [show pAt (cutsOf xs a b) k = (cutsOf xs a b)[k] from getD_lt _ hk]; exact List.getElem_mem hk
  have mg : ∀ r ∈ cutsOf xs a b, ∃ k, k < (cutsOf xs a b).length ∧ pAt (cutsOf xs a b) k = r := fun r hr' => by
    obtain ⟨k, hk, e⟩ := List.getElem_of_mem hr'
    exact ⟨k, hk, by rw [show pAt (cutsOf xs a b) k = (cutsOf xs a b)[k] from getD_lt _ hk]; exact e⟩
  have lt : ∀ x y : Int, L * x < L * y ↔ x < y := fun x y => by
    constructor
    · intro g
      rcases (show x < y ∨ y ≤ x by omega) with k | k
      · exact k
      · have := Int.mul_le_mul_of_nonneg_left k (show 0 ≤ L by omega); omega
    · intro g
      have := pp hL (show 0 < y - x by omega)
      rw [Int.mul_sub] at this; omega
  obtain ⟨ka, hka, ea⟩ := mg a (cuts_mem.2 (.inl rfl))
  obtain ⟨kb, hkb, eb⟩ := mg b (cuts_mem.2 (.inr (.inl rfl)))
  obtain ⟨i, ⟨hi, hil⟩, him⟩ := ex_max (fun k => k < (cutsOf xs a b).length ∧ L * phi a b (pAt (cutsOf xs a b) k) < w) (fun k => phi a b (pAt (cutsOf xs a b) k)) (cutsOf xs a b).length (fun k h => h.1) ⟨ka, hka, by rw [ea, phi_a, Int.mul_zero]; exact h0⟩
  obtain ⟨j, ⟨hj, hjl⟩, hjm⟩ := ex_max (fun k => k < (cutsOf xs a b).length ∧ w < L * phi a b (pAt (cutsOf xs a b) k)) (fun k => - phi a b (pAt (cutsOf xs a b) k)) (cutsOf xs a b).length (fun k h => h.1) ⟨kb, hkb, by rw [eb]; exact h1⟩
  refine ⟨_, _, gm i hi, gm j hj, hil, hjl, fun r hr' => ?_⟩
  obtain ⟨k, hk, e⟩ := mg r hr'
  have hn := hne r hr'
  rcases (show L * phi a b r < w ∨ w < L * phi a b r by omega) with g | g
  · have := him k ⟨hk, by rw [e]; exact g⟩
    rw [e] at this
    rcases (show phi a b r < phi a b (pAt (cutsOf xs a b) i) ∨ phi a b r = phi a b (pAt (cutsOf xs a b) i) by omega) with c | c
    · exact .inr (.inr (.inl c))
    · exact .inl (phi_inj hab (hf r hr') (hf _ (gm i hi)) c)
  · have := hjm k ⟨hk, by rw [e]; exact g⟩
    rw [e] at this
    rcases (show phi a b (pAt (cutsOf xs a b) j) < phi a b r ∨ phi a b r = phi a b (pAt (cutsOf xs a b) j) by omega) with c | c
    · exact .inr (.inr (.inr c))
    · exact .inr (.inl (phi_inj hab (hf r hr') (hf _ (gm j hj)) c))
theorem Outp.desc {P : Poly} {K L : Int} (hL : 0 < L) {m : Pt} (h : Outp P (L * K) (smul L m)) : Outp P K m := by
  obtain ⟨ho, g, hg, h0⟩ := h
  refine ⟨fun k hk => ?_, g, hg, ?_⟩
  · obtain ⟨f, fa, fb, fp⟩ := ho k hk
    have e : ∀ x : Pt, (⟨L * f.u, L * f.v, f.w⟩ : Aff).ev x = f.ev (smul L x) := fun x => by unfold Aff.ev smul; grind
    rw [← smul2, ← e] at fa fb
    rw [← e] at fp
    exact ⟨_, fa, fb, fp⟩
  · rw [← wnd_scale g P hL, wnd_free (h2 := g) (show NC (g.sc L) from hg) hg ho, h0]
theorem open_part {P : Poly} {a b p q : Pt} (hab : a ≠ b) (p0 : 0 ≤ phi a b p) (q1 : phi a b q ≤ phi a b b) (nocut : ∀ k, turnZ a b (P.v k) = 0 → phi a b p < phi a b (P.v k) → phi a b (P.v k) < phi a b q → False)
    {k : Nat} (nocross : ¬ (Opp (turnZ a b (P.v k)) (turnZ a b (P.v (k + 1))) ∧ Opp (turnZ (P.v k) (P.v (k + 1)) a) (turnZ (P.v k) (P.v (k + 1)) b)))
    {S T S' T' L : Int} (hL : 0 < L) (e : S + T = L) (e' : S' + T' = L) (hS : 0 ≤ S) (hT : 0 ≤ T) (hS' : 0 ≤ S') (hT' : 0 ≤ T')
    (x1 : L * phi a b p < T * phi a b b) (x2 : T * phi a b b < L * phi a b q) (y1 : L * phi a b p < T' * phi a b b) (y2 : T' * phi a b b < L * phi a b q) (hne : P.v k ≠ P.v (k + 1))
    (ho : Off (padd (smul S a) (smul T b)) (smul L (P.v k)) (smul L (P.v (k + 1)))) : Part (smul L (P.v k)) (smul L (P.v (k + 1))) (padd (smul S a) (smul T b)) (padd (smul S' a) (smul T' b)) := by
  have hN := sq_pos hab
  rw [← phi_b] at hN
  have taa : turnZ a b a = 0 := by unfold turnZ; grind
  have tbb : turnZ a b b = 0 := by unfold turnZ; grind
  have pe : ∀ v : Pt, (Aff.dot a b).ev v + phi a b b = phi a b v := fun v => by rw [ev_dot, phi_b]; unfold phi; omega
  generalize hx : padd (smul S a) (smul T b) = x at *
  generalize hy : padd (smul S' a) (smul T' b) = y at *
  by_cases exy : x = y
  · subst exy
    obtain ⟨f, fa, fb, fp⟩ := ho
    exact ⟨f, fa, fb, by omega, by omega⟩
  have hne' : smul L (P.v k) ≠ smul L (P.v (k + 1)) := fun e => hne (Prod.ext (Int.eq_of_mul_eq_mul_left (by omega) (congrArg Prod.fst e)) (Int.eq_of_mul_eq_mul_left (by omega) (congrArg Prod.snd e)))
  have Fx : ∀ f : Aff, (f.sc L).ev x = S * f.ev a + T * f.ev b := fun f => by rw [← hx, ← e]; unfold Aff.ev Aff.sc padd smul; grind
  have Fy : ∀ f : Aff, (f.sc L).ev y = S' * f.ev a + T' * f.ev b := fun f => by rw [← hy, ← e']; unfold Aff.ev Aff.sc padd smul; grind
  have ends : ∀ i, OnM (smul L (P.v i)) x y → False := fun i hi => by
    obtain ⟨σ, τ, hσ, hτ, h0, hf⟩ := hi
    have h1 := hf ((Aff.turn a b).sc L)
    have h2 := hf ((Aff.dot a b).sc L)
    rw [Fx, Fy, ev_sc0, ev_turn, ev_turn, ev_turn, taa, tbb] at h1
    rw [Fx, Fy, ev_sc0] at h2
    have e1 := pe a
    have e2 := pe b
    have e3 := pe (P.v i)
    rw [phi_a] at e1
    have t0 : turnZ a b (P.v i) = 0 := by
      have z : (σ + τ) * (L * turnZ a b (P.v i)) = 0 := by rw [h1]; simp
      rcases Int.mul_eq_zero.1 z with z | z
      · omega
      · rcases Int.mul_eq_zero.1 z with z | z
        · omega
        · exact z
    have key : (σ + τ) * (L * phi a b (P.v i)) = σ * (T * phi a b b) + τ * (T' * phi a b b) := by
      have hA : (Aff.dot a b).ev a = - phi a b b := by omega
      have hB : (Aff.dot a b).ev b = 0 := by omega
      have hD : (Aff.dot a b).ev (P.v i) = phi a b (P.v i) - phi a b b := by omega
      rw [hA, hB, hD] at h2
      have hS1 : S = L - T := by omega
      have hS2 : S' = L - T' := by omega
      rw [hS1, hS2] at h2
      have a1 : (σ + τ) * (L * (phi a b (P.v i) - phi a b b)) = (σ + τ) * (L * phi a b (P.v i)) - (σ + τ) * (L * phi a b b) := by grind
      have a2 : σ * ((L - T) * - phi a b b + T * 0) + τ * ((L - T') * - phi a b b + T' * 0) = σ * (T * phi a b b) + τ * (T' * phi a b b) - (σ + τ) * (L * phi a b b) := by grind
      omega
    have low : ∀ w : Int, L * w < T * phi a b b → L * w < T' * phi a b b → w < phi a b (P.v i) := fun w k1 k2 => by
      rcases (show w < phi a b (P.v i) ∨ phi a b (P.v i) ≤ w by omega) with g | g
      · exact g
      · exfalso
        have c0 := Int.mul_le_mul_of_nonneg_left g (show 0 ≤ L by omega)
        have c1 := nn0 hσ (show 0 ≤ T * phi a b b - L * phi a b (P.v i) - 1 by omega)
        have c2 := nn0 hτ (show 0 ≤ T' * phi a b b - L * phi a b (P.v i) - 1 by omega)
        rw [Int.mul_sub, Int.mul_sub, Int.mul_one] at c1 c2
        rw [Int.add_mul] at key
        omega
    have high : ∀ w : Int, T * phi a b b < L * w → T' * phi a b b < L * w → phi a b (P.v i) < w := fun w k1 k2 => by
      rcases (show phi a b (P.v i) < w ∨ w ≤ phi a b (P.v i) by omega) with g | g
      · exact g
      · exfalso
        have c0 := Int.mul_le_mul_of_nonneg_left g (show 0 ≤ L by omega)
        have c1 := nn0 hσ (show 0 ≤ L * phi a b (P.v i) - T * phi a b b - 1 by omega)
        have c2 := nn0 hτ (show 0 ≤ L * phi a b (P.v i) - T' * phi a b b - 1 by omega)
        rw [Int.mul_sub, Int.mul_sub, Int.mul_one] at c1 c2
        rw [Int.add_mul] at key
        omega
    exact nocut i t0 (low _ x1 y1) (high _ x2 y2)
  rcases part_or_on hne' exy with g | g | g | g | g | ⟨g1, g2⟩
  · exact g
  · exact absurd ho g.not_off
  · obtain ⟨σ, τ, hσ, hτ, h0, hf⟩ := g
    have hφ : ∀ z : Pt, turnZ (smul L a) (smul L b) z = (L * (b.1 - a.1)) * (z.2 - L * a.2) - (L * (b.2 - a.2)) * (z.1 - L * a.1) := fun z => by unfold turnZ smul; grind
    have e1 := hf ((Aff.turn a b).sc L)
    rw [Fy, ev_sc0, ev_sc0, ev_turn, ev_turn, ev_turn, ev_turn, taa, tbb] at e1
    have e2 := hf ((Aff.turn (P.v k) (P.v (k + 1))).sc L)
    have tv : turnZ (P.v k) (P.v (k + 1)) (P.v k) = 0 := by unfold turnZ; grind
    have tv' : turnZ (P.v k) (P.v (k + 1)) (P.v (k + 1)) = 0 := by unfold turnZ; grind
    rw [Fy, ev_sc0, ev_sc0, ev_turn, ev_turn, ev_turn, ev_turn, tv, tv'] at e2
    have hT0 : 0 < T' := by
      rcases (show 0 < T' ∨ T' = 0 by omega) with c | c
      · exact c
      · rw [c, Int.zero_mul] at y1
        have := nn0 (show 0 ≤ L by omega) p0
        omega
    have hS0 : 0 < S' := by
      rcases (show 0 < S' ∨ S' = 0 by omega) with c | c
      · exact c
      · rw [show T' = L by omega] at y2
        have := Int.mul_le_mul_of_nonneg_left q1 (show 0 ≤ L by omega)
        omega
    have hid := tid a b (P.v k) (P.v (k + 1))
    by_cases s0 : σ = 0
    · refine (ends (k + 1) ⟨0, 1, by decide, by decide, by decide, fun f => ?_⟩).elim
      have := hf f
      rw [s0] at this h0
      have := Int.eq_of_mul_eq_mul_left (a := τ) (show τ ≠ 0 by omega) (show τ * f.ev y = τ * f.ev (smul L (P.v (k + 1))) by grind)
      grind
    by_cases t0 : τ = 0
    · refine (ends k ⟨0, 1, by decide, by decide, by decide, fun f => ?_⟩).elim
      have := hf f
      rw [t0] at this h0
      have := Int.eq_of_mul_eq_mul_left (a := σ) (show σ ≠ 0 by omega) (show σ * f.ev y = σ * f.ev (smul L (P.v k)) by grind)
      grind
    have k2 : S' * turnZ (P.v k) (P.v (k + 1)) a + T' * turnZ (P.v k) (P.v (k + 1)) b = 0 := by
      have z : (σ + τ) * (S' * turnZ (P.v k) (P.v (k + 1)) a + T' * turnZ (P.v k) (P.v (k + 1)) b) = 0 := by rw [e2]; simp
      rcases Int.mul_eq_zero.1 z with z | z
      · omega
      · exact z
    have k1 : σ * turnZ a b (P.v k) + τ * turnZ a b (P.v (k + 1)) = 0 := by
      have z : L * (σ * turnZ a b (P.v k) + τ * turnZ a b (P.v (k + 1))) = 0 := by
        have : L * (σ * turnZ a b (P.v k) + τ * turnZ a b (P.v (k + 1))) = σ * (L * turnZ a b (P.v k)) + τ * (L * turnZ a b (P.v (k + 1))) := by grind
        rw [this, ← e1]; simp
      rcases Int.mul_eq_zero.1 z with z | z
      · omega
      · exact z
    have s1 := sgn_of (show 0 < σ by omega) (show 0 < τ by omega) k1
    have s2 := sgn_of hS0 hT0 k2
    by_cases hC : turnZ a b (P.v k) = 0
    · have hD : turnZ a b (P.v (k + 1)) = 0 := by omega
      have TT : T ≠ T' := fun c => exy (by rw [← hx, ← hy, c, show S = S' by omega])
      have hLab : smul L a ≠ smul L b := fun e => hab (Prod.ext (Int.eq_of_mul_eq_mul_left (by omega) (congrArg Prod.fst e)) (Int.eq_of_mul_eq_mul_left (by omega) (congrArg Prod.snd e)))
      have lx : turnZ (smul L a) (smul L b) x = 0 := by rw [← hx, ← e]; unfold turnZ smul padd; grind
      have ly : turnZ (smul L a) (smul L b) y = 0 := by rw [← hy, ← e']; unfold turnZ smul padd; grind
      have lv : turnZ (smul L a) (smul L b) (smul L (P.v k)) = 0 := by rw [turn_sc0, hC]; simp
      have lv' : turnZ (smul L a) (smul L b) (smul L (P.v (k + 1))) = 0 := by rw [turn_sc0, hD]; simp
      have fx : phi (smul L a) (smul L b) x = L * (T * phi a b b) := by rw [← hx, ← e]; unfold phi dotZ smul padd; grind
      have fy : phi (smul L a) (smul L b) y = L * (T' * phi a b b) := by rw [← hy, ← e']; unfold phi dotZ smul padd; grind
      have X0 : phi (smul L a) (smul L b) x ≠ phi (smul L a) (smul L b) y := fun c => by
        rw [fx, fy] at c
        exact TT (Int.eq_of_mul_eq_mul_right (by omega) (Int.eq_of_mul_eq_mul_left (by omega) c))
      have V0 : phi (smul L a) (smul L b) (smul L (P.v k)) ≠ phi (smul L a) (smul L b) (smul L (P.v (k + 1))) := fun c => hne' (phi_inj hLab lv lv' c)
      have hY := hf (Aff.dot (smul L a) (smul L b))
      have pe2 : ∀ v : Pt, (Aff.dot (smul L a) (smul L b)).ev v = phi (smul L a) (smul L b) v - phi (smul L a) (smul L b) (smul L b) := fun v => by rw [ev_dot, phi_b]; unfold phi; omega
      rw [pe2, pe2, pe2] at hY
      have hY2 : (σ + τ) * phi (smul L a) (smul L b) y = σ * phi (smul L a) (smul L b) (smul L (P.v k)) + τ * phi (smul L a) (smul L b) (smul L (P.v (k + 1))) := by grind
      have mb := mean_between hσ hτ h0 hY2
      have FM := fun {p q c : Pt} => flat_mean (p := p) (q := q) (c := c) hLab
      have sw : ∀ {c p q : Pt}, OnM c p q → OnM c q p := fun h => by
        obtain ⟨s, t, hs, ht, h0, hf⟩ := h
        exact ⟨t, s, ht, hs, by omega, fun f => by rw [Int.add_comm t s, hf]; omega⟩
      have notx : OnM x (smul L (P.v k)) (smul L (P.v (k + 1))) → False := fun h => h.not_off ho
      rcases (show phi (smul L a) (smul L b) (smul L (P.v k)) < phi (smul L a) (smul L b) (smul L (P.v (k + 1))) ∨ phi (smul L a) (smul L b) (smul L (P.v (k + 1))) < phi (smul L a) (smul L b) (smul L (P.v k)) by omega) with d | d
      · rcases (show phi (smul L a) (smul L b) x < phi (smul L a) (smul L b) (smul L (P.v k)) ∨ phi (smul L a) (smul L b) (smul L (P.v (k + 1))) < phi (smul L a) (smul L b) x ∨ (phi (smul L a) (smul L b) (smul L (P.v k)) ≤ phi (smul L a) (smul L b) x ∧ phi (smul L a) (smul L b) x ≤ phi (smul L a) (smul L b) (smul L (P.v (k + 1)))) by omega) with c | c | c
        · exact (ends k (FM lx ly lv (by omega) (by omega) (by omega))).elim
        · exact (ends (k + 1) (sw (FM ly lx lv' (by omega) (by omega) (by omega)))).elim
        · exact (notx (FM lv lv' lx (by omega) (by omega) (by omega))).elim
      · rcases (show phi (smul L a) (smul L b) x < phi (smul L a) (smul L b) (smul L (P.v (k + 1))) ∨ phi (smul L a) (smul L b) (smul L (P.v k)) < phi (smul L a) (smul L b) x ∨ (phi (smul L a) (smul L b) (smul L (P.v (k + 1))) ≤ phi (smul L a) (smul L b) x ∧ phi (smul L a) (smul L b) x ≤ phi (smul L a) (smul L b) (smul L (P.v k))) by omega) with c | c | c
        · exact (ends (k + 1) (FM lx ly lv' (by omega) (by omega) (by omega))).elim
        · exact (ends k (sw (FM ly lx lv (by omega) (by omega) (by omega)))).elim
        · exact (notx (sw (FM lv' lv lx (by omega) (by omega) (by omega)))).elim
    · exfalso
      unfold Opp at nocross
      omega
  · exact (ends k g).elim
  · exact (ends (k + 1) g).elim
  · exfalso
    have c1 : ∀ v : Pt, turnZ x y (smul L v) = (T' - T) * (L * turnZ a b v) := fun v => by
      rw [← hx, ← hy]
      have hS1 : S = L - T := by omega
      have hS2 : S' = L - T' := by omega
      rw [hS1, hS2]; unfold turnZ smul padd; grind
    have c2 : ∀ u v : Pt, turnZ (smul L u) (smul L v) x = L * (S * turnZ u v a + T * turnZ u v b) := fun u v => by rw [← hx, ← e]; unfold turnZ smul padd; grind
    have c3 : ∀ u v : Pt, turnZ (smul L u) (smul L v) y = L * (S' * turnZ u v a + T' * turnZ u v b) := fun u v => by rw [← hy, ← e']; unfold turnZ smul padd; grind
    rw [c1, c1] at g1
    rw [c2, c3] at g2
    have nn : ∀ {w z : Int}, 0 ≤ w → 0 ≤ z → 0 ≤ L * (S * w + T * z) ∧ 0 ≤ L * (S' * w + T' * z) := fun {w z} hw hz => by
      have := nn0 hS hw; have := nn0 hT hz; have := nn0 hS' hw; have := nn0 hT' hz
      exact ⟨nn0 (by omega) (by omega), nn0 (by omega) (by omega)⟩
    have np : ∀ {w z : Int}, w ≤ 0 → z ≤ 0 → L * (S * w + T * z) ≤ 0 ∧ L * (S' * w + T' * z) ≤ 0 := fun {w z} hw hz => by
      have := pm0 hS hw; have := pm0 hT hz; have := pm0 hS' hw; have := pm0 hT' hz
      exact ⟨pm0 (by omega) (by omega), pm0 (by omega) (by omega)⟩
    have mp2 : ∀ z : Int, (0 < z → 0 < L * z) ∧ (z < 0 → L * z < 0) ∧ (z = 0 → L * z = 0) := fun z => ⟨fun g => pp hL g, fun g => pm hL g, fun g => by rw [g, Int.mul_zero]⟩
    refine nocross ⟨?_, ?_⟩
    · have m1 := mp2 (turnZ a b (P.v k))
      have m2 := mp2 (turnZ a b (P.v (k + 1)))
      generalize L * turnZ a b (P.v k) = w1 at *
      generalize L * turnZ a b (P.v (k + 1)) = w2 at *
      have sgn3 : ∀ z : Int, (0 < z → (0 < T' - T → 0 < (T' - T) * z) ∧ (T' - T < 0 → (T' - T) * z < 0)) ∧ (z < 0 → (0 < T' - T → (T' - T) * z < 0) ∧ (T' - T < 0 → 0 < (T' - T) * z)) ∧ (z = 0 → (T' - T) * z = 0) ∧ (T' - T = 0 → (T' - T) * z = 0) := fun z =>
        ⟨fun g => ⟨fun g2 => pp g2 g, fun g2 => mp g2 g⟩, fun g => ⟨fun g2 => pm g2 g, fun g2 => mm g2 g⟩, fun g => by rw [g, Int.mul_zero], fun g => by rw [g, Int.zero_mul]⟩
      have s1 := sgn3 w1
      have s2 := sgn3 w2
      unfold Opp
      omega
    · generalize turnZ (P.v k) (P.v (k + 1)) a = A at *
      generalize turnZ (P.v k) (P.v (k + 1)) b = B at *
      unfold Opp
      rcases (show (0 ≤ A ∧ 0 ≤ B) ∨ (A ≤ 0 ∧ B ≤ 0) ∨ ((A < 0 ∧ 0 < B) ∨ (B < 0 ∧ 0 < A)) by omega) with c | c | c
      · have := nn c.1 c.2; omega
      · have := np c.1 c.2; omega
      · exact c
theorem noout_of {xs : List Pt} (hr : roomOk xs = true) {a b : Pt} (ha : ptOk a = true) (hb : ptOk b = true) (hsa : ¬ Outp (roomP xs) 1 a) (hsb : ¬ Outp (roomP xs) 1 b) (h : Sees xs a b) : NoOut (roomP xs) a b := by
  intro s t hs ht hst o
  have ba := bd_of_ok ha
  have bb := bd_of_ok hb
  have dsc : ∀ c : Pt, ¬ Outp (roomP xs) 1 c → padd (smul s a) (smul t b) = smul (s + t) c → False := fun c hc e => by
    rw [e] at o
    exact hc (Outp.desc hst (by rw [Int.mul_one]; exact o))
  by_cases hab : a = b
  · exact dsc a hsa (by rw [hab]; unfold padd smul; simp [Int.add_mul])
  have hN := sq_pos hab
  rw [← phi_b] at hN
  have t0 : 0 < t := by
    rcases (show 0 < t ∨ t = 0 by omega) with g | g
    · exact g
    · exact absurd (dsc a hsa (by subst g; unfold padd smul; simp)) (by simp)
  have s0 : 0 < s := by
    rcases (show 0 < s ∨ s = 0 by omega) with g | g
    · exact g
    · exact absurd (dsc b hsb (by subst g; unfold padd smul; simp)) (by simp)
  have w0 := pp t0 hN
  have w1 : t * phi a b b < (s + t) * phi a b b := by have := pp s0 hN; rw [Int.add_mul]; omega
  have hbr := bd_of_room hr
  have flat : ∀ r ∈ cutsOf xs a b, turnZ a b r = 0 ∧ 0 ≤ phi a b r ∧ phi a b r ≤ phi a b b := fun r hr' => by
    have h4 := on_pt40 ha hb (cuts_on hr')
    exact onS_flat ba bb (by unfold Bd; omega) (cuts_on hr')
  have at_ : ∀ r, turnZ a b r = 0 → (s + t) * phi a b r = t * phi a b b → padd (smul s a) (smul t b) = smul (s + t) r := fun r h0 e => by
    obtain ⟨p1, p2⟩ := on_line h0
    rw [← phi_b] at p1 p2
    have eφ : phi a b b + dotZ a b r = phi a b r := by rw [phi_b]; rfl
    rw [eφ] at p1 p2
    have hN0 : phi a b b ≠ 0 := by omega
    unfold padd smul
    refine Prod.ext ?_ ?_
    · refine Int.eq_of_mul_eq_mul_left hN0 ?_
      show phi a b b * (s * a.1 + t * b.1) = phi a b b * ((s + t) * r.1)
      have e1 : phi a b b * ((s + t) * r.1) = (s + t) * (phi a b b * r.1) := by grind
      rw [e1, p1]
      have e2 : (s + t) * ((phi a b b - phi a b r) * a.1 + phi a b r * b.1) = ((s + t) * phi a b b - (s + t) * phi a b r) * a.1 + ((s + t) * phi a b r) * b.1 := by grind
      rw [e2, e]; grind
    · refine Int.eq_of_mul_eq_mul_left hN0 ?_
      show phi a b b * (s * a.2 + t * b.2) = phi a b b * ((s + t) * r.2)
      have e1 : phi a b b * ((s + t) * r.2) = (s + t) * (phi a b b * r.2) := by grind
      rw [e1, p2]
      have e2 : (s + t) * ((phi a b b - phi a b r) * a.2 + phi a b r * b.2) = ((s + t) * phi a b b - (s + t) * phi a b r) * a.2 + ((s + t) * phi a b r) * b.2 := by grind
      rw [e2, e]; grind
  have hne : ∀ r ∈ cutsOf xs a b, (s + t) * phi a b r ≠ t * phi a b b := fun r hr' e => by
    have em := at_ r (flat r hr').1 e
    rcases cuts_mem.1 hr' with rfl | rfl | ⟨hx, _⟩
    · exact dsc _ hsa em
    · exact dsc _ hsb em
    · obtain ⟨k, hk, e⟩ := List.getElem_of_mem hx
      have ho := o.1 k hk
      rw [em, show (roomP xs).v k = r from (pCy_lt hk).trans ((getD_lt _ hk).trans e)] at ho
      exact (Off.ne ho).1 rfl
  obtain ⟨p, q, hp, hq, hpw, hqw, hpq⟩ := cut_pair hr ha hb hab hst w0 w1 hne
  have nocut : ∀ k, turnZ a b ((roomP xs).v k) = 0 → phi a b p < phi a b ((roomP xs).v k) → phi a b ((roomP xs).v k) < phi a b q → False := fun k h0 g1 g2 => by
    have hk : k % xs.length < xs.length := Nat.mod_lt _ (room_pos hr)
    have hc : (roomP xs).v k ∈ xs := by
      rw [show (roomP xs).v k = xs[k % xs.length] from getD_lt _ hk]; exact List.getElem_mem hk
    generalize (roomP xs).v k = c at *
    have hin : c ∈ cutsOf xs a b := by
      by_cases e1 : c = a
      · exact cuts_mem.2 (.inl e1)
      · by_cases e2 : c = b
        · exact cuts_mem.2 (.inr (.inl e2))
        · have := flat p hp
          have := flat q hq
          exact cuts_mem.2 (.inr (.inr ⟨hc, e1, e2, flat_onS ba bb (hbr c hc) hab h0 (by omega) (by omega)⟩))
    rcases hpq c hin with e | e | e | e
    · rw [e] at g1; omega
    · rw [e] at g2; omega
    · omega
    · omega
  obtain ⟨fp, p0, pN⟩ := flat p hp
  obtain ⟨fq, q0, qN⟩ := flat q hq
  have p40 := on_pt40 ha hb (cuts_on hp)
  have q40 := on_pt40 ha hb (cuts_on hq)
  have ltL : ∀ x y : Int, (s + t) * x < (s + t) * y → x < y := fun x y g => by
    rcases (show x < y ∨ y ≤ x by omega) with k | k
    · exact k
    · have := Int.mul_le_mul_of_nonneg_left k (show 0 ≤ s + t by omega); omega
  have lpq : phi a b p < phi a b q := ltL _ _ (by omega)
  have hm := h.2 p q hp hq (.inl (fun e => by rw [e] at lpq; omega)) (fun r hr' n1 n2 => by
    cases hon : onS r p q with
    | false => rfl
    | true =>
      exfalso
      have r40 := on_pt40 ha hb (cuts_on hr')
      obtain ⟨x, y, hx, hy, hxy, hf⟩ := onS_OnM (by unfold Bd; omega) (by unfold Bd; omega) (by unfold Bd; omega) hon
      have e := hf (Aff.dot a b)
      rw [ev_dot, ev_dot, ev_dot] at e
      have pe : ∀ v : Pt, dotZ a b v = phi a b v - phi a b b := fun v => by rw [phi_b]; unfold phi; omega
      rw [pe, pe, pe] at e
      have e : (x + y) * phi a b r = x * phi a b p + y * phi a b q := by
        have : (x + y) * (phi a b r - phi a b b) = (x + y) * phi a b r - (x + y) * phi a b b := by rw [Int.mul_sub]
        rw [this] at e
        have : x * (phi a b p - phi a b b) + y * (phi a b q - phi a b b) = x * phi a b p + y * phi a b q - (x + y) * phi a b b := by grind
        omega
      rcases hpq r hr' with c | c | c | c
      · exact n1 c
      · exact n2 c
      · have c1 := nn0 hx (show 0 ≤ phi a b p - phi a b r - 1 by omega)
        have c2 := nn0 hy (show 0 ≤ phi a b q - phi a b r - 1 by omega)
        rw [Int.mul_sub, Int.mul_sub, Int.mul_one] at c1 c2
        rw [Int.add_mul] at e
        omega
      · have c1 := nn0 hx (show 0 ≤ phi a b r - phi a b p - 1 by omega)
        have c2 := nn0 hy (show 0 ≤ phi a b r - phi a b q - 1 by omega)
        rw [Int.mul_sub, Int.mul_sub, Int.mul_one] at c1 c2
        rw [Int.add_mul] at e
        omega)
  refine hm ((mid_out hr p40 q40).2 ?_)
  obtain ⟨N, hNe⟩ : ∃ N, N = phi a b b := ⟨_, rfl⟩
  rw [← hNe] at hN w0 w1 hpw hqw pN qN
  have hL : 0 < (s + t) * N * 2 := by have := pp hst hN; omega
  refine Outp.desc (L := (s + t) * N) (pp hst hN) ?_
  have ox := o.scale (L := N * 2) (by omega)
  have eL : N * 2 * (s + t) = (s + t) * N * 2 := by grind
  have eX : smul (N * 2) (padd (smul s a) (smul t b)) = padd (smul (2 * s * N) a) (smul (2 * t * N) b) := by
    unfold smul padd
    refine Prod.ext ?_ ?_
    · show N * 2 * (s * a.1 + t * b.1) = 2 * s * N * a.1 + 2 * t * N * b.1; grind
    · show N * 2 * (s * a.2 + t * b.2) = 2 * s * N * a.2 + 2 * t * N * b.2; grind
  have coord : ∀ r, turnZ a b r = 0 → N * r.1 = (N - phi a b r) * a.1 + phi a b r * b.1 ∧ N * r.2 = (N - phi a b r) * a.2 + phi a b r * b.2 := fun r h0 => by
    have := on_line h0
    rw [← phi_b, ← hNe] at this
    have eφ : N + dotZ a b r = phi a b r := by rw [hNe, phi_b]; rfl
    rw [eφ] at this; exact this
  obtain ⟨cp1, cp2⟩ := coord p fp
  obtain ⟨cq1, cq2⟩ := coord q fq
  have eY : smul ((s + t) * N) (padd p q) = padd (smul ((s + t) * (2 * N - phi a b p - phi a b q)) a) (smul ((s + t) * (phi a b p + phi a b q)) b) := by
    unfold smul padd
    refine Prod.ext ?_ ?_
    · show (s + t) * N * (p.1 + q.1) = _ * a.1 + _ * b.1
      have : (s + t) * N * (p.1 + q.1) = (s + t) * (N * p.1 + N * q.1) := by grind
      rw [this, cp1, cq1]; grind
    · show (s + t) * N * (p.2 + q.2) = _ * a.2 + _ * b.2
      have : (s + t) * N * (p.2 + q.2) = (s + t) * (N * p.2 + N * q.2) := by grind
      rw [this, cp2, cq2]; grind
  rw [eX, eL] at ox
  rw [eY]
  obtain ⟨hox, g, hg, h0⟩ := ox
  have gx1 := pp hN (show 0 < t * N - (s + t) * phi a b p by omega)
  have gx2 := pp hN (show 0 < (s + t) * phi a b q - t * N by omega)
  have gy := pp (pp hst hN) (show 0 < phi a b q - phi a b p by omega)
  have parts : ∀ k, k < (roomP xs).n → Part (smul ((s + t) * N * 2) ((roomP xs).v k)) (smul ((s + t) * N * 2) ((roomP xs).v (k + 1))) (padd (smul (2 * s * N) a) (smul (2 * t * N) b)) (padd (smul ((s + t) * (2 * N - phi a b p - phi a b q)) a) (smul ((s + t) * (phi a b p + phi a b q)) b)) := fun k hk => by
    refine open_part hab p0 (by rw [← hNe]; exact qN) nocut ?_ hL ?_ ?_ ?_ ?_ ?_ ?_ ?_ ?_ ?_ ?_ ((room_simple hr).ne k) (hox k hk)
    · rintro ⟨o1, o2⟩
      have hk : k < xs.length := hk
      have c := h.1 k hk
      have e1 : (wl xs k).1 = (roomP xs).v k := (pCy_lt hk).symm
      have e2 : (wl xs k).2 = (roomP xs).v (k + 1) := rfl
      have b1 : Bd (wl xs k).1 := pAt_bd hbr hk
      have b2 : Bd (wl xs k).2 := pCy_bd hbr (room_pos hr)
      rw [← e1, ← e2] at o1 o2
      unfold crs at c
      rw [turn_exact ba bb b1, turn_exact ba bb b2, turn_exact b1 b2 ba, turn_exact b1 b2 bb, decide_eq_true (sgn_opp.2 o1), decide_eq_true (sgn_opp.2 o2)] at c
      exact absurd c (by decide)
    · grind
    · grind
    · have := pp s0 hN; have e : 2 * s * N = 2 * (s * N) := by grind
      omega
    · have := pp t0 hN; have e : 2 * t * N = 2 * (t * N) := by grind
      omega
    · exact nn0 (by omega) (by omega)
    · exact nn0 (by omega) (by omega)
    · rw [← hNe]; grind
    · rw [← hNe]; grind
    · rw [← hNe]; grind
    · rw [← hNe]; grind
  exact ⟨fun k hk => (parts k hk).off2, g, hg, by rw [← h0]; exact (wnd_step g ((roomP xs).sc ((s + t) * N * 2)).way parts).symm⟩
theorem out_iff {xs : List Pt} (hr : roomOk xs = true) {p : Pt} (hp : Bd p) : placeM xs p = 0 ↔ Outp (roomP xs) 1 p :=
  place_out hr (by decide) rfl (fun k => (smul_one _).symm) (bd_of_room hr) hp
theorem seesS_noout {xs : List Pt} (hr : roomOk xs = true) {a b : Pt} (ha : ptOk a = true) (hb : ptOk b = true) (ia : placeM xs a ≠ 0) (ib : placeM xs b ≠ 0) : seesS xs a b = true ↔ NoOut (roomP xs) a b :=
  (seesS_iff hr ha hb).trans ⟨noout_of hr ha hb (fun o => ia ((out_iff hr (bd_of_ok ha)).2 o)) fun o => ib ((out_iff hr (bd_of_ok hb)).2 o), sees_of hr ha hb⟩
theorem v_lt {xs : List Pt} {k : Nat} (hk : k < xs.length) : (roomP xs).v k = pAt xs k := pCy_lt hk
theorem corner_mem {xs : List Pt} {k : Nat} (hk : k < xs.length) : pAt xs k ∈ xs := by
  show xs.getD k _ ∈ xs
  rw [getD_lt _ hk]; exact List.getElem_mem hk
theorem corner_ok {xs : List Pt} (hr : roomOk xs = true) {k : Nat} (hk : k < xs.length) : ptOk (pAt xs k) = true := List.all_eq_true.1 (roomOk_iff.1 hr).2.1 _ (corner_mem hk)
theorem corner_in {xs : List Pt} (hr : roomOk xs = true) {k : Nat} (hk : k < xs.length) : placeM xs (pAt xs k) ≠ 0 := by
  intro h
  have := ((out_iff hr (bd_of_ok (corner_ok hr hk))).1 h).1 k hk
  rw [smul_one, smul_one, v_lt hk] at this
  exact (Off.ne this).1 rfl
theorem foldmin_le {g : Pt → Int} : ∀ (l : List Pt) (z : Int), l.foldl (fun m p => min m (g p)) z ≤ z ∧ ∀ q ∈ l, l.foldl (fun m p => min m (g p)) z ≤ g q
  | [], z => ⟨Int.le_refl _, fun q hq => by cases hq⟩
  | a :: l, z => by
    have ih := foldmin_le (g := g) l (min z (g a))
    refine ⟨by show l.foldl _ (min z (g a)) ≤ z; omega, fun q hq => ?_⟩
    show l.foldl _ (min z (g a)) ≤ g q
    rcases List.mem_cons.1 hq with rfl | hq
    · omega
    · exact ih.2 q hq
theorem foldmax_le {g : Pt → Int} : ∀ (l : List Pt) (z : Int), z ≤ l.foldl (fun m p => max m (g p)) z ∧ ∀ q ∈ l, g q ≤ l.foldl (fun m p => max m (g p)) z
  | [], z => ⟨Int.le_refl _, fun q hq => by cases hq⟩
  | a :: l, z => by
    have ih := foldmax_le (g := g) l (max z (g a))
    refine ⟨by show z ≤ l.foldl _ (max z (g a)); omega, fun q hq => ?_⟩
    show g q ≤ l.foldl _ (max z (g a))
    rcases List.mem_cons.1 hq with rfl | hq
    · omega
    · exact ih.2 q hq
theorem box {xs : List Pt} {q : Pt} (hq : q ∈ xs) : minX xs xs.length ≤ q.1 ∧ q.1 ≤ maxX xs xs.length ∧ minY xs xs.length ≤ q.2 ∧ q.2 ≤ maxY xs xs.length := by
  unfold minX maxX minY maxY
  rw [List.take_length]
  exact ⟨(foldmin_le (g := fun p => p.1) xs _).2 q hq, (foldmax_le (g := fun p => p.1) xs _).2 q hq, (foldmin_le (g := fun p => p.2) xs _).2 q hq, (foldmax_le (g := fun p => p.2) xs _).2 q hq⟩
structure Mv where
  a : Int
  b : Int
  e : Int
  f : Int
  one : a * a + b * b = 1
def Mv.app (g : Mv) (p : Pt) : Pt := (g.a * p.1 - g.b * p.2 + g.e, g.b * p.1 + g.a * p.2 + g.f)
theorem turn_mv (g : Mv) (p q r : Pt) : turnZ (g.app p) (g.app q) (g.app r) = turnZ p q r := by
  have : turnZ (g.app p) (g.app q) (g.app r) = (g.a * g.a + g.b * g.b) * turnZ p q r := by unfold turnZ Mv.app; grind
  rw [this, g.one, Int.one_mul]
theorem dot_mv (g : Mv) (p q r : Pt) : dotZ (g.app p) (g.app q) (g.app r) = dotZ p q r := by
  have : dotZ (g.app p) (g.app q) (g.app r) = (g.a * g.a + g.b * g.b) * dotZ p q r := by unfold dotZ Mv.app; grind
  rw [this, g.one, Int.one_mul]
def Aff.mv (h : Aff) (g : Mv) : Aff := ⟨h.u * g.a - h.v * g.b, h.u * g.b + h.v * g.a, h.w - (h.u * g.a - h.v * g.b) * g.e - (h.u * g.b + h.v * g.a) * g.f⟩
theorem ev_mv (h : Aff) (g : Mv) (p : Pt) : (h.mv g).ev (g.app p) = h.ev p := by
  have : (h.mv g).ev (g.app p) = (g.a * g.a + g.b * g.b) * (h.u * p.1 + h.v * p.2) + h.w := by unfold Aff.ev Aff.mv Mv.app; grind
  rw [this, g.one, Int.one_mul]; rfl
theorem mv_inj (g : Mv) {p q : Pt} (h : g.app p = g.app q) : p = q := by
  have h1 := congrArg Prod.fst h
  have h2 := congrArg Prod.snd h
  simp only [Mv.app] at h1 h2
  have o := g.one
  refine Prod.ext ?_ ?_
  · have : (g.a * g.a + g.b * g.b) * p.1 = (g.a * g.a + g.b * g.b) * q.1 := by grind
    rwa [o, Int.one_mul, Int.one_mul] at this
  · have : (g.a * g.a + g.b * g.b) * p.2 = (g.a * g.a + g.b * g.b) * q.2 := by grind
    rwa [o, Int.one_mul, Int.one_mul] at this
def Poly.mv (P : Poly) (g : Mv) : Poly := ⟨P.n, fun j => g.app (P.v j), fun j => by show g.app (P.v (j + P.n)) = _; rw [P.per]⟩
theorem Part.mv {a b q r : Pt} (h : Part a b q r) (g : Mv) : Part (g.app a) (g.app b) (g.app q) (g.app r) := by
  obtain ⟨f, h1, h2, h3, h4⟩ := h
  exact ⟨f.mv g, by rwa [ev_mv], by rwa [ev_mv], by rwa [ev_mv], by rwa [ev_mv]⟩
theorem Off.mv {p a b : Pt} (h : Off p a b) (g : Mv) : Off (g.app p) (g.app a) (g.app b) := by
  obtain ⟨f, h1, h2, h3⟩ := h
  exact ⟨f.mv g, by rwa [ev_mv], by rwa [ev_mv], by rwa [ev_mv]⟩
theorem Bends.mv {a b z : Pt} (h : Bends a b z) (g : Mv) : Bends (g.app a) (g.app b) (g.app z) :=
  ⟨fun e => h.1 (mv_inj g e), by rw [turn_mv, dot_mv]; exact h.2⟩
theorem SimpleP.mv {P : Poly} (h : SimpleP P) (g : Mv) : SimpleP (P.mv g) :=
  ⟨h.n3, fun j d h1 h2 => (h.off j d h1 h2).mv g, fun j d h1 h2 => (h.apart j d h1 h2).mv g, fun k => ⟨(h.bend k).1.mv g, (h.bend k).2.mv g⟩⟩
theorem sumN_add (f g : Nat → Int) : ∀ n, sumN (fun k => f k + g k) n = sumN f n + sumN g n
  | 0 => rfl
  | n + 1 => by simp only [sumN]; rw [sumN_add f g n]; omega
theorem area_mv (P : Poly) (g : Mv) : (P.mv g).area = P.area := by
  obtain ⟨J, hJ⟩ : ∃ J : Nat → Int, ∀ j, J j = g.e * (g.b * (P.v j).1 + g.a * (P.v j).2) - g.f * (g.a * (P.v j).1 - g.b * (P.v j).2) := ⟨_, fun _ => rfl⟩
  have e : ∀ k, crs0 ((P.mv g).v k) ((P.mv g).v (k + 1)) = crs0 (P.v k) (P.v (k + 1)) + (J (k + 1) - J k) := fun k => by
    have o := g.one
    show crs0 (g.app (P.v k)) (g.app (P.v (k + 1))) = _
    rw [hJ, hJ]
    generalize P.v k = p
    generalize P.v (k + 1) = q
    have : crs0 (g.app p) (g.app q) = (g.a * g.a + g.b * g.b) * crs0 p q + (g.e * (g.b * q.1 + g.a * q.2) - g.f * (g.a * q.1 - g.b * q.2) - (g.e * (g.b * p.1 + g.a * p.2) - g.f * (g.a * p.1 - g.b * p.2))) := by unfold crs0 Mv.app; grind
    rw [this, o, Int.one_mul]
  unfold Poly.area
  show sumN (fun k => crs0 ((P.mv g).v k) ((P.mv g).v (k + 1))) P.n = _
  rw [sumN_congr fun k _ => e k, sumN_add, sumN_tel, hJ, hJ, P.vn]
  omega
theorem part_meet {v w : Pt × Pt} (hv : Bd v.1 ∧ Bd v.2) (hw : Bd w.1 ∧ Bd w.2) (h : Part v.1 v.2 w.1 w.2) : meet v w = false := by
  have on : ∀ {p a b : Pt}, Bd p → Bd a → Bd b → Off p a b → onS p a b = false := fun {p a b} hp ha hb ho => by
    cases hc : onS p a b with
    | false => rfl
    | true => exact absurd ho (onS_OnM ha hb hp hc).not_off
  have hs := h.symm
  have o1 := on hv.1 hw.1 hw.2 hs.off1
  have o2 := on hv.2 hw.1 hw.2 hs.off2
  have o3 := on hw.1 hv.1 hv.2 h.off1
  have o4 := on hw.2 hv.1 hv.2 h.off2
  have o5 : crs w.1 w.2 v.1 v.2 = false := by
    cases hc : crs w.1 w.2 v.1 v.2 with
    | false => rfl
    | true =>
      exfalso
      unfold crs at hc
      rw [turn_exact hw.1 hw.2 hv.1, turn_exact hw.1 hw.2 hv.2, turn_exact hv.1 hv.2 hw.1, turn_exact hv.1 hv.2 hw.2, Bool.and_eq_true, decide_eq_true_eq, decide_eq_true_eq, sgn_opp, sgn_opp] at hc
      exact cross_not_part h hc.1 hc.2
  unfold meet
  rw [o1, o2, o3, o4, o5]
  simp
theorem room_of {xs : List Pt} (h3 : 3 ≤ xs.length) (h10 : xs.length ≤ 10) (hp : ∀ q ∈ xs, ptOk q = true) (hs : SimpleP (roomP xs)) (ht : ∀ j, turnZ ((roomP xs).v j) ((roomP xs).v (j + 1)) ((roomP xs).v (j + 2)) ≠ 0) (hA : 0 < (roomP xs).area) : roomOk xs = true := by
  have hb : ∀ q ∈ xs, Bd q := fun q hq => bd_of_ok (hp q hq)
  refine roomOk_iff.2 ⟨⟨h3, h10⟩, List.all_eq_true.2 hp, okAt_half.2 fun i hi => ⟨?_, fun k hik hk hne => ?_⟩, ?_⟩
  · rw [turn_exact (pAt_bd hb hi) (pCy_bd hb (by omega)) (pCy_bd hb (by omega)), ← v_lt hi]
    exact ht i
  · refine part_meet ⟨pAt_bd hb hi, pCy_bd hb (by omega)⟩ ⟨pAt_bd hb hk, pCy_bd hb (by omega)⟩ ?_
    show Part (pAt xs i) (pCy xs (i + 1)) (pAt xs k) (pCy xs (k + 1))
    rw [← v_lt hi, ← v_lt hk]
    refine hs.apartI hk hik fun ⟨e1, e2⟩ => hne ?_
    have e2 : k + 1 = xs.length := e2
    rw [e2, Nat.mod_self, e1]
  · obtain ⟨e, l, u⟩ := room_dbl (fun q hq => ptOk_iff.1 (hp q hq)) (by omega) xs.length (Nat.le_refl _)
    have e : dbl xs = (roomP xs).area := e
    have hd : dbl xs = dblTo xs xs.length := rfl
    rw [W_in (by omega) (by omega), e]; exact hA
theorem area_rot' (P : Poly) (s : Nat) (g : Mv) : ((P.rot s).mv g).area = P.area := (area_mv _ g).trans (area_rot P s)
theorem room_moved {xs ys : List Pt} (hr : roomOk xs = true) (s : Nat) (g : Mv) (hl : ys.length = xs.length) (hv : ∀ j, pCy ys j = g.app (pCy xs (s + j))) (hp : ∀ q ∈ ys, ptOk q = true) : roomOk ys = true := by
  have h3 := (roomOk_iff.1 hr).1
  have e : roomP ys = ((roomP xs).rot s).mv g := Poly.ext' hl fun j => hv j
  refine room_of (by omega) (by omega) hp (by rw [e]; exact ((room_simple hr).rot s).mv g) (fun j => ?_) (by rw [e, area_rot']; exact (room_area hr).2.1)
  rw [e]
  show turnZ (g.app _) (g.app _) (g.app _) ≠ 0
  rw [turn_mv]
  exact room_turns hr (s + j)
end Go.Proofs.Ytnepfcnlngpchaa.Geo
namespace Go.Proofs.Ytnepfcnlngpchaa
def cross (u v : Pt) : Int := u.1 * v.2 - u.2 * v.1
def sub (b a : Pt) : Pt := (b.1 - a.1, b.2 - a.2)
def Up (s : Int) (d : Pt) : Prop := 0 < s * d.2 ∨ (s * d.2 = 0 ∧ 0 < s * d.1)
def Lt (s : Int) (a b : Pt) : Prop := Up s (sub b a)
abbrev Sg (s : Int) : Prop := s = 1 ∨ s = -1
theorem turn_cross (a b c : Pt) : turnZ a b c = cross (sub b a) (sub c a) := rfl
theorem up_lin {s : Int} (hs : Sg s) {d : Pt} : Up s d ↔ (s = 1 ∧ (0 < d.2 ∨ (d.2 = 0 ∧ 0 < d.1))) ∨ (s = -1 ∧ (d.2 < 0 ∨ (d.2 = 0 ∧ d.1 < 0))) := by
  unfold Up
  rcases hs with rfl | rfl <;> simp <;> omega
theorem lt_trans {s : Int} (hs : Sg s) {a b c : Pt} (h : Lt s a b) (k : Lt s b c) : Lt s a c := by
  unfold Lt sub at *
  rw [up_lin hs] at *
  simp only at *
  omega
theorem lt_irrefl {s : Int} (hs : Sg s) {a : Pt} (h : Lt s a a) : False := by
  unfold Lt sub at *
  rw [up_lin hs] at *
  simp only at *
  omega
theorem lt_total {s : Int} (hs : Sg s) (a b : Pt) : a = b ∨ Lt s a b ∨ Lt s b a := by
  unfold Lt sub
  rw [up_lin hs, up_lin hs]
  simp only
  by_cases h : a = b
  · exact .inl h
  · have : a.1 ≠ b.1 ∨ a.2 ≠ b.2 := by
      by_cases h1 : a.1 = b.1
      · exact .inr fun h2 => h (Prod.ext h1 h2)
      · exact .inl h1
    rcases hs with rfl | rfl <;> omega
theorem nn_of_mul {x y : Int} (hy : 0 < y) (h : 0 ≤ x * y) : 0 ≤ x := by
  rcases Int.lt_or_le x 0 with h1 | h1
  · have := Int.mul_neg_of_neg_of_pos h1 hy; omega
  · exact h1
theorem up_trans {s : Int} (hs : Sg s) {a b c : Pt} (ha : Up s a) (hb : Up s b) (hc : Up s c) (h1 : 0 ≤ cross a b) (h2 : 0 ≤ cross b c) : 0 ≤ cross a c := by
  have e : cross a b * (s * c.2) + cross b c * (s * a.2) = cross a c * (s * b.2) := by unfold cross; grind
  have ha2 : 0 ≤ s * a.2 := by rcases ha with h | h <;> omega
  have hc2 : 0 ≤ s * c.2 := by rcases hc with h | h <;> omega
  have k1 := Int.mul_nonneg h1 hc2
  have k2 := Int.mul_nonneg h2 ha2
  rcases hb with hb | ⟨hb1, hb2⟩
  · exact nn_of_mul hb (by omega)
  · -- b is level: so a is level too
    have hb0 : b.2 = 0 := by rcases hs with rfl | rfl <;> omega
    have e1 : cross a b = -(a.2 * b.1) := by unfold cross; rw [hb0]; grind
    have e2 : cross a b * (s * s) = -((s * a.2) * (s * b.1)) := by rw [e1]; grind
    have ss : s * s = 1 := by rcases hs with rfl | rfl <;> rfl
    rw [ss, Int.mul_one] at e2
    have ha0 : s * a.2 = 0 := by
      rcases Int.lt_or_le 0 (s * a.2) with h | h
      · have := Int.mul_pos h hb2; omega
      · omega
    have ha1 : 0 < s * a.1 := by
      rcases ha with h | h
      · omega
      · exact h.2
    have e3 : cross a c = (s * a.1) * (s * c.2) - (s * a.2) * (s * c.1) := by
      have : cross a c * (s * s) = (s * a.1) * (s * c.2) - (s * a.2) * (s * c.1) := by unfold cross; grind
      rwa [ss, Int.mul_one] at this
    rw [e3, ha0, Int.zero_mul, Int.sub_zero]
    exact Int.mul_nonneg (by omega) hc2
theorem up_par {s : Int} (hs : Sg s) {u e d : Pt} (he : Up s e) (hd : Up s d) (h0 : cross e d = 0) (h : 0 < cross u e) : 0 < cross u d := by
  have ss : s * s = 1 := by rcases hs with rfl | rfl <;> rfl
  have e1 : cross u e * (s * d.2) = cross u d * (s * e.2) := by
    have : cross u e * (s * d.2) - cross u d * (s * e.2) = -(s * u.2) * cross e d := by unfold cross; grind
    rw [h0] at this; omega
  have e2 : cross u e * (s * d.1) = cross u d * (s * e.1) := by
    have : cross u e * (s * d.1) - cross u d * (s * e.1) = -(s * u.1) * cross e d := by unfold cross; grind
    rw [h0] at this; omega
  have e3 : (s * e.1) * (s * d.2) = (s * e.2) * (s * d.1) := by
    have : (s * e.1) * (s * d.2) - (s * e.2) * (s * d.1) = s * s * cross e d := by unfold cross; grind
    rw [h0] at this; omega
  have pos : ∀ {x y z : Int}, 0 < x → 0 < y → x * y = z * 0 → False := fun hx hy h => by have := Int.mul_pos hx hy; omega
  have get : ∀ {x y z t : Int}, 0 < x → 0 < y → 0 < t → x * y = z * t → 0 < z := fun {x y z t} hx hy ht h => by
    have := Int.mul_pos hx hy
    rw [h] at this
    rcases Int.lt_or_le 0 z with h1 | h1
    · exact h1
    · have := Int.mul_nonpos_of_nonpos_of_nonneg h1 (Int.le_of_lt ht); omega
  rcases he with he | ⟨he1, he2⟩ <;> rcases hd with hd | ⟨hd1, hd2⟩
  · exact get h hd he e1
  · rw [hd1, Int.mul_zero] at e3
    have := Int.mul_pos he hd2; omega
  · rw [he1, Int.zero_mul] at e3
    have := Int.mul_pos he2 hd; omega
  · exact get h hd2 he2 e2
def Chain (s : Int) (Q : Pt → Prop) : List Pt → Prop
  | [] => False
  | [a] => Q a ∧ ∀ q, Q q → q = a ∨ Lt s a q
  | b :: a :: r => Q b ∧ Lt s a b ∧ (∀ q, Q q → 0 ≤ turnZ a b q) ∧ (match r with | [] => True | z :: _ => 0 < turnZ z a b) ∧ Chain s Q (a :: r)
def popS : List Pt → Pt → List Pt
  | b :: a :: r, p => if turn a b p ≤ 0 then popS (a :: r) p else b :: a :: r
  | t, _ => t
theorem turnZ_self (a b : Pt) : turnZ a b b = 0 := by unfold turnZ; grind
theorem turnZ_tail (a b : Pt) : turnZ a b a = 0 := by unfold turnZ; grind
theorem chain_head {s : Int} {Q : Pt → Prop} : ∀ {t : List Pt} {a : Pt} {r : List Pt}, Chain s Q t → t = a :: r → Q a
  | _, a, [], h, e => by subst e; exact h.1
  | _, a, _ :: _, h, e => by subst e; exact h.1
theorem chain_ext {s : Int} (hs : Sg s) {Q : Pt → Prop} {p : Pt} (hp : ∀ q, Q q → Lt s q p) : ∀ (t : List Pt), Chain s Q t → (match t with | b :: a :: _ => 0 ≤ turnZ a b p | _ => True) → Chain s (fun q => Q q ∨ q = p) t
  | [], h, _ => h
  | [a], h, _ => ⟨.inl h.1, fun q hq => by
      rcases hq with hq | rfl
      · exact h.2 q hq
      · exact .inr (hp a h.1)⟩
  | [b, a], ⟨h1, h2, h3, h4, h5⟩, ht => ⟨.inl h1, h2, fun q hq => by
      rcases hq with hq | rfl
      · exact h3 q hq
      · exact ht, h4, chain_ext hs hp [a] h5 trivial⟩
  | b :: a :: z :: r, ⟨h1, h2, h3, h4, h5⟩, ht => ⟨.inl h1, h2, fun q hq => by
      rcases hq with hq | rfl
      · exact h3 q hq
      · exact ht, h4, chain_ext hs hp (a :: z :: r) h5 (by
        have ha : Q a := chain_head h5 rfl
        have hz : Lt s z a := h5.2.1
        have hap := hp a ha
        show 0 ≤ turnZ z a p
        have e1 : turnZ z a b = cross (sub a z) (sub b a) := by unfold turnZ cross sub; grind
        have e2 : turnZ z a p = cross (sub a z) (sub p a) := by unfold turnZ cross sub; grind
        have ht : 0 ≤ turnZ a b p := ht
        rw [turn_cross] at ht
        rw [e2]
        exact up_trans hs hz h2 hap (by rw [← e1]; exact Int.le_of_lt h4) ht)⟩
theorem chain_push {s : Int} (hs : Sg s) {Q : Pt → Prop} {p : Pt} (hp : ∀ q, Q q → Lt s q p) (hb : ∀ q, Q q → Bd q) (hbp : Bd p) : ∀ (t : List Pt) {h : Pt} {r : List Pt}, t = h :: r → Chain s Q t → (∀ q, Q q → Lt s h q → 0 ≤ turnZ h p q) →
    Chain s (fun q => Q q ∨ q = p) (p :: popS t p)
  | [h], _, _, e, hc, hH => by
    cases e
    refine ⟨.inr rfl, hp h hc.1, fun q hq => ?_, trivial, chain_ext hs hp [h] hc trivial⟩
    rcases hq with hq | rfl
    · rcases hc.2 q hq with rfl | h2
      · rw [turnZ_tail]; exact Int.le_refl _
      · exact hH q hq h2
    · rw [turnZ_self]; exact Int.le_refl _
  | b :: a :: r, _, _, e, hc, hH => by
    cases e
    have hc' := hc
    obtain ⟨h1, h2, h3, h4, h5⟩ := hc
    have ha : Q a := chain_head h5 rfl
    have ex : turn a b p = turnZ a b p := turn_exact (hb a ha) (hb b h1) hbp
    unfold popS
    split
    · rename_i ht
      rw [ex] at ht
      refine chain_push hs hp hb hbp (a :: r) rfl h5 fun q hq haq => ?_
      have k1 := h3 q hq
      rw [turn_cross] at k1 ht ⊢
      have e3 : cross (sub p a) (sub b a) = - cross (sub b a) (sub p a) := by unfold cross; grind
      exact up_trans hs (hp a ha) h2 haq (by rw [e3]; omega) k1
    · rename_i ht
      rw [ex] at ht
      refine ⟨.inr rfl, hp b h1, fun q hq => ?_, by show 0 < turnZ a b p; omega, chain_ext hs hp _ hc' (by show 0 ≤ turnZ a b p; omega)⟩
      rcases hq with hq | rfl
      · rcases lt_total hs q b with rfl | hlt | hlt
        · rw [turnZ_tail]; exact Int.le_refl _
        · have k1 := h3 q hq
          have e1 : turnZ a b q = cross (sub b q) (sub b a) := by unfold turnZ cross sub; grind
          have e2 : turnZ a b p = cross (sub b a) (sub p b) := by unfold turnZ cross sub; grind
          have e3 : turnZ b p q = cross (sub b q) (sub p b) := by unfold turnZ cross sub; grind
          rw [e3]
          exact up_trans hs hlt h2 (hp b h1) (by rw [← e1]; exact k1) (by rw [← e2]; omega)
        · exact hH q hq hlt
      · rw [turnZ_self]; exact Int.le_refl _
def stackOf (l : List Pt) : List Pt := l.foldl (fun s p => p :: popS s p) []
theorem chain_congr {s : Int} {Q Q' : Pt → Prop} (h : ∀ q, Q q ↔ Q' q) {t : List Pt} (hc : Chain s Q t) : Chain s Q' t := by
  have : Q = Q' := funext fun q => propext (h q)
  rwa [← this]
theorem foldl_chain {s : Int} (hs : Sg s) : ∀ (l : List Pt) (t : List Pt) (h : Pt) (r : List Pt) (Q : Pt → Prop), t = h :: r → Chain s Q t → (∀ q, Q q → q = h ∨ Lt s q h) → (h :: l).Pairwise (Lt s) → (∀ q, Q q → Bd q) → (∀ q ∈ l, Bd q) →
    Chain s (fun q => Q q ∨ q ∈ l) (l.foldl (fun s p => p :: popS s p) t) ∧ (l.foldl (fun s p => p :: popS s p) t).head? = (h :: l).getLast?
  | [], t, h, r, Q, e, hc, hm, hp, hb, hbl => ⟨chain_congr (fun q => by simp) hc, by rw [e]; rfl⟩
  | p :: l, t, h, r, Q, e, hc, hm, hp, hb, hbl => by
    have hhp : Lt s h p := (List.pairwise_cons.1 hp).1 p (by simp)
    have hpq : ∀ q, Q q → Lt s q p := fun q hq => by
      rcases hm q hq with rfl | h1
      · exact hhp
      · exact lt_trans hs h1 hhp
    have hc1 := chain_push hs hpq hb (hbl p (by simp)) t e hc fun q hq hlt => by
      rcases hm q hq with rfl | h1
      · exact (lt_irrefl hs hlt).elim
      · exact (lt_irrefl hs (lt_trans hs h1 hlt)).elim
    obtain ⟨k1, k2⟩ := foldl_chain hs l (p :: popS t p) p (popS t p) (fun q => Q q ∨ q = p) rfl hc1 (fun q hq => by
        rcases hq with hq | rfl
        · exact .inr (hpq q hq)
        · exact .inl rfl) (List.pairwise_cons.1 hp).2 (fun q hq => by
        rcases hq with hq | rfl
        · exact hb q hq
        · exact hbl q (by simp)) (fun q hq => hbl q (by simp [hq]))
    refine ⟨chain_congr (fun q => by simp [or_assoc]) k1, ?_⟩
    rw [List.foldl_cons, k2, List.getLast?_cons_cons]
theorem stack_chain {s : Int} (hs : Sg s) {l : List Pt} (hl : l ≠ []) (hp : l.Pairwise (Lt s)) (hb : ∀ q ∈ l, Bd q) : Chain s (· ∈ l) (stackOf l) ∧ (stackOf l).head? = l.getLast? := by
  cases l with
  | nil => exact absurd rfl hl
  | cons a l =>
    obtain ⟨k1, k2⟩ := foldl_chain hs l [a] a [] (· = a) rfl ⟨rfl, fun q hq => .inl hq⟩ (fun q hq => .inl hq) hp (fun q hq => hq ▸ hb a (by simp)) (fun q hq => hb q (by simp [hq]))
    exact ⟨chain_congr (fun q => by simp) k1, k2⟩
def Edge (Q : Pt → Prop) (a b : Pt) : Prop := Q a ∧ Q b ∧ a ≠ b ∧ ∀ q, Q q → 0 ≤ turnZ a b q ∧ (turnZ a b q = 0 → OnZ q a b)
theorem on_of_lt {s : Int} (hs : Sg s) {a b q : Pt} (hab : Lt s a b) (haq : q = a ∨ Lt s a q) (hqb : q = b ∨ Lt s q b) (h0 : turnZ a b q = 0) : OnZ q a b := by
  refine ⟨h0, ?_⟩
  unfold Lt sub at *
  rw [up_lin hs] at *
  simp only at *
  rcases haq with rfl | haq
  · omega
  · rcases hqb with rfl | hqb
    · omega
    · unfold turnZ at h0
      rcases hs with rfl | rfl
      · by_cases h2 : b.2 = a.2
        · rw [h2, Int.sub_self, Int.zero_mul, Int.sub_zero] at h0
          have : (b.1 - a.1) * (q.2 - a.2) = 0 := h0
          omega
        · have h3 := prop_btw (u := b.1 - a.1) (v := q.1 - a.1) (d := b.2 - a.2) (e := q.2 - a.2)
          by_cases hq2 : q.2 = a.2
          · have : (b.2 - a.2) * (q.1 - a.1) = 0 := by rw [hq2, Int.sub_self, Int.mul_zero] at h0; omega
            have : q.1 - a.1 = 0 := (Int.mul_eq_zero.1 this).resolve_left (by omega)
            omega
          · have h4 := h3 (by omega) (by omega) (by omega)
            rcases Int.le_total 0 (b.1 - a.1) with h5 | h5
            · have := h4.1 h5; omega
            · have := h4.2 h5; omega
      · by_cases h2 : b.2 = a.2
        · rw [h2, Int.sub_self, Int.zero_mul, Int.sub_zero] at h0
          have : (b.1 - a.1) * (q.2 - a.2) = 0 := h0
          omega
        · have h3 := prop_btw (u := b.1 - a.1) (v := q.1 - a.1) (d := a.2 - b.2) (e := a.2 - q.2)
          by_cases hq2 : q.2 = a.2
          · have : (b.2 - a.2) * (q.1 - a.1) = 0 := by rw [hq2, Int.sub_self, Int.mul_zero] at h0; omega
            have : q.1 - a.1 = 0 := (Int.mul_eq_zero.1 this).resolve_left (by omega)
            omega
          · have h4 := h3 (by omega) (by omega) (by grind)
            rcases Int.le_total 0 (b.1 - a.1) with h5 | h5
            · have := h4.1 h5; omega
            · have := h4.2 h5; omega
theorem chain_edges {s : Int} (hs : Sg s) {Q : Pt → Prop} : ∀ (t : List Pt), Chain s Q t → (∀ b r, t = b :: r → (∀ q, Q q → q = b ∨ Lt s q b) ∨ ∃ y, Q y ∧ Lt s b y ∧ (match r with | [] => True | a :: _ => 0 < turnZ a b y) ∧ ∀ q, Q q → 0 ≤ turnZ b y q) →
    ∀ t1 b a t2, t = t1 ++ b :: a :: t2 → Edge Q a b
  | [], h, _, _, _, _, _, _ => h.elim
  | [x], _, _, t1, b, a, t2, e => by
    have := congrArg List.length e
    simp at this
    omega
  | b :: a :: r, hc, hy, t1, b', a', t2, e => by
    have hc' := hc
    obtain ⟨h1, h2, h3, h4, h5⟩ := hc
    have ha : Q a := chain_head h5 rfl
    cases t1 with
    | cons x t1 =>
      injection e with e1 e2
      refine chain_edges hs (a :: r) h5 (fun b0 r0 e0 => .inr ⟨b, h1, ?_, ?_, ?_⟩) t1 b' a' t2 e2
      · injection e0 with e3 e4; subst e3; exact h2
      · injection e0 with e3 e4; subst e3 e4; exact h4
      · injection e0 with e3 e4; subst e3; exact h3
    | nil =>
      injection e with e1 e2
      injection e2 with e2 e3
      subst e1 e2 e3
      refine ⟨ha, h1, fun e => lt_irrefl hs (e ▸ h2), fun q hq => ⟨h3 q hq, fun h0 => ?_⟩⟩
      refine on_of_lt hs h2 ?_ ?_ h0
      · -- q is not ahead of a
        cases r with
        | nil => exact h5.2 q hq
        | cons z r =>
          rcases lt_total hs q a with h | h | h
          · exact .inl h
          · exfalso
            have hz : Lt s z a := h5.2.1
            have k1 := h5.2.2.1 q hq
            have h4 : 0 < turnZ z a b := h4
            have e1 : turnZ z a b = cross (sub a z) (sub b a) := by unfold turnZ cross sub; grind
            have e2 : turnZ z a q = - cross (sub a z) (sub a q) := by unfold turnZ cross sub; grind
            have e3 : turnZ a b q = - cross (sub b a) (sub a q) := by unfold turnZ cross sub; grind
            have := up_par hs (u := sub a z) h2 h (by omega) (by rw [← e1]; exact h4)
            omega
          · exact .inr h
      · -- nor behind b
        rcases hy b (a :: r) rfl with h | ⟨y, hQy, hby, hty, hall⟩
        · exact h q hq
        · rcases lt_total hs q b with h | h | h
          · exact .inl h
          · exact .inr h
          · exfalso
            have hty : 0 < turnZ a b y := hty
            have k1 := hall q hq
            have e1 : turnZ a b y = - cross (sub y b) (sub b a) := by unfold turnZ cross sub; grind
            have e2 : turnZ b y q = cross (sub y b) (sub q b) := by unfold turnZ cross sub; grind
            have e3 : turnZ a b q = cross (sub b a) (sub q b) := by unfold turnZ cross sub; grind
            have := up_par hs (u := (-(sub y b).1, -(sub y b).2)) h2 h (by omega) (by unfold cross at e1 ⊢; simp only; grind)
            unfold cross at this e2
            simp only at this
            grind
def Edges (Q : Pt → Prop) (P : List Pt) : Prop := ∀ L1 a b L2, P = L1 ++ a :: b :: L2 → Edge Q a b
theorem edges_of_chain {s : Int} (hs : Sg s) {l : List Pt} (hl : l ≠ []) (hp : l.Pairwise (Lt s)) (hb : ∀ q ∈ l, Bd q) : Edges (· ∈ l) (stackOf l).reverse := by
  obtain ⟨k1, k2⟩ := stack_chain hs hl hp hb
  intro L1 a b L2 e
  have e2 : stackOf l = L2.reverse ++ b :: a :: L1.reverse := by
    have := congrArg List.reverse e
    rw [List.reverse_reverse] at this
    rw [this]; simp
  refine chain_edges hs _ k1 (fun b0 r0 e0 => .inl fun q hq => ?_) L2.reverse b a L1.reverse e2
  rw [e0] at k2
  have k2 : some b0 = l.getLast? := k2
  obtain ⟨l0, rfl⟩ : ∃ l0, l = l0 ++ [b0] := by
    obtain ⟨l0, e1⟩ := List.getLast?_eq_some_iff.1 k2.symm
    exact ⟨l0, e1⟩
  rcases List.mem_append.1 hq with h | h
  · exact .inr ((List.pairwise_append.1 hp).2.2 q h b0 (by simp))
  · exact .inl (by simpa using h)
theorem popS_last : ∀ (t : List Pt) (p : Pt), t ≠ [] → (popS t p).getLast? = t.getLast? ∧ popS t p ≠ []
  | [], _, h => absurd rfl h
  | [a], _, _ => ⟨rfl, by simp [popS]⟩
  | b :: a :: r, p, _ => by
    unfold popS
    split
    · obtain ⟨h1, h2⟩ := popS_last (a :: r) p (by simp)
      exact ⟨by rw [h1]; rfl, h2⟩
    · exact ⟨rfl, by simp⟩
theorem popS_len : ∀ (t : List Pt) (p : Pt), (popS t p).length ≤ t.length
  | [], _ => by simp [popS]
  | [a], _ => by simp [popS]
  | b :: a :: r, p => by
    unfold popS
    split
    · exact Nat.le_trans (popS_len (a :: r) p) (by simp)
    · exact Nat.le_refl _
theorem fold_last : ∀ (l t : List Pt), t ≠ [] → (l.foldl (fun s p => p :: popS s p) t).getLast? = t.getLast?
  | [], t, _ => rfl
  | p :: l, t, h => by
    rw [List.foldl_cons, fold_last l _ (by simp)]
    obtain ⟨h1, h2⟩ := popS_last t p h
    cases hq : popS t p with
    | nil => exact absurd hq h2
    | cons x r => rw [List.getLast?_cons_cons, ← hq, h1]
theorem fold_len : ∀ (l t : List Pt), (l.foldl (fun s p => p :: popS s p) t).length ≤ t.length + l.length
  | [], t => by simp
  | p :: l, t => by
    rw [List.foldl_cons]
    have := fold_len l (p :: popS t p)
    have := popS_len t p
    simp at *
    omega
theorem stack_last {l : List Pt} : (stackOf l).getLast? = l.head? := by
  cases l with
  | nil => rfl
  | cons a l => exact fold_last l [a] (by simp)
theorem stack_len (l : List Pt) : (stackOf l).length ≤ l.length := by
  have := fold_len l []
  simpa [stackOf] using this
theorem stack_ne {l : List Pt} (h : l ≠ []) : stackOf l ≠ [] := by
  cases l with
  | nil => exact absurd rfl h
  | cons a l =>
    intro e
    have : (stackOf (a :: l)).getLast? = some a := stack_last
    rw [e] at this
    cases this
theorem chain_sorted {s : Int} (hs : Sg s) {Q : Pt → Prop} : ∀ (t : List Pt), Chain s Q t → t.Pairwise fun b a => Lt s a b
  | [], h => h.elim
  | [a], _ => by simp
  | b :: a :: r, ⟨h1, h2, h3, h4, h5⟩ => by
    have ih := chain_sorted hs (a :: r) h5
    refine List.pairwise_cons.2 ⟨fun x hx => ?_, ih⟩
    rcases List.mem_cons.1 hx with rfl | hx
    · exact h2
    · exact lt_trans hs ((List.pairwise_cons.1 ih).1 x hx) h2
def halfM (l : List Pt) : List Pt := (stackOf l).tail.reverse
def rawHull (l : List Pt) : List Pt := halfM l ++ halfM l.reverse
def wayR (l : List Pt) : List Pt := halfM l ++ (stackOf l.reverse).reverse
theorem half_drop (l : List Pt) : halfM l = (stackOf l).reverse.dropLast := by
  unfold halfM
  cases stackOf l with
  | nil => rfl
  | cons a t => simp
theorem lt_neg {a b : Pt} : Lt 1 a b ↔ Lt (-1) b a := by
  unfold Lt sub Up
  simp only
  omega
structure Round (Q : Pt → Prop) (P : List Pt) : Prop where
  edge : Edges Q P
  ends : ∀ a, P.head? = some a → P.getLast? = some a
  once : ∀ a j, P.head? = some a → 0 < j → j + 1 < P.length → P[j]? ≠ some a
theorem round_of {l : List Pt} (hl : l ≠ []) (hp : l.Pairwise (Lt 1)) (hb : ∀ q ∈ l, Bd q) : Round (· ∈ l) (wayR l) ∧ (wayR l).head? = l.head? ∧ (wayR l).dropLast = rawHull l := by
  have hl' : l.reverse ≠ [] := by simpa using hl
  have hp' : l.reverse.Pairwise (Lt (-1)) := List.pairwise_reverse.2 (hp.imp fun h => lt_neg.1 h)
  have hb' : ∀ q ∈ l.reverse, Bd q := fun q h => hb q (by simpa using h)
  obtain ⟨c1, d1⟩ := stack_chain (.inl rfl) hl hp hb
  obtain ⟨c2, d2⟩ := stack_chain (.inr rfl) hl' hp' hb'
  have e1 := edges_of_chain (.inl rfl) hl hp hb
  have e2 := edges_of_chain (.inr rfl) hl' hp' hb'
  have g1 := stack_last (l := l)
  have g2 := stack_last (l := l.reverse)
  have s1 := chain_sorted (.inl rfl) _ c1
  have s2 := chain_sorted (.inr rfl) _ c2
  have n1 := stack_ne hl
  have n2 := stack_ne hl'
  unfold wayR rawHull halfM
  generalize stackOf l = A at *
  generalize stackOf l.reverse = B at *
  obtain ⟨m, A, rfl⟩ := List.exists_cons_of_ne_nil n1
  obtain ⟨c, B, rfl⟩ := List.exists_cons_of_ne_nil n2
  simp only [List.tail_cons, List.reverse_cons] at *
  have hm : l.getLast? = some m := d1.symm
  have hBm : (c :: B).getLast? = some m := by rw [g2, List.head?_reverse, hm]
  have hc : l.head? = some c := by rw [← List.getLast?_reverse, ← d2]; rfl
  have hAc : (m :: A).getLast? = some c := by rw [g1, hc]
  have hBr : (B.reverse ++ [c]).head? = some m := by
    rw [← List.reverse_cons, List.head?_reverse, hBm]
  obtain ⟨B', hB'⟩ : ∃ B', B.reverse ++ [c] = m :: B' := by
    cases h : B.reverse ++ [c] with
    | nil => rw [h] at hBr; cases hBr
    | cons x r => rw [h] at hBr; simp at hBr; subst hBr; exact ⟨r, rfl⟩
  have hhead : (A.reverse ++ (B.reverse ++ [c])).head? = some c := by
    cases hA : A with
    | nil =>
      rw [hA] at hAc
      have : m = c := by simpa using hAc
      rw [hB', this]; rfl
    | cons x r =>
      rw [hA, List.getLast?_cons_cons] at hAc
      rw [List.head?_append, List.head?_reverse, hAc]; rfl
  refine ⟨⟨?_, ?_, ?_⟩, by rw [hhead, hc], ?_⟩
  · -- edges
    rw [hB']
    intro L1 a b L2 e
    rcases Nat.lt_or_ge (L1.length + 1) (A.reverse.length + 1) with h | h
    · -- within the first chain
      have e3 : A.reverse ++ [m] = L1 ++ a :: b :: (L2.take (A.reverse.length - 1 - L1.length)) := by
        have := congrArg (List.take (A.reverse.length + 1)) e
        rw [List.take_append, List.take_of_length_le (by omega), Nat.add_sub_cancel_left] at this
        rw [show List.take 1 (m :: B') = [m] from rfl] at this
        rw [this, List.take_append, List.take_of_length_le (by omega)]
        rw [show A.reverse.length + 1 - L1.length = (A.reverse.length - 1 - L1.length) + 2 by omega]
        rfl
      exact e1 _ _ _ _ e3
    · have e3 : m :: B' = (L1.drop A.reverse.length) ++ a :: b :: L2 := by
        have := congrArg (List.drop A.reverse.length) e
        rw [List.drop_append, List.drop_eq_nil_of_le (Nat.le_refl _), Nat.sub_self, List.nil_append, List.drop_zero] at this
        rw [this, List.drop_append_of_le_length (by omega)]
      have := e2 _ _ _ _ (by rw [hB']; exact e3)
      obtain ⟨k1, k2, k3, k4⟩ := this
      exact ⟨by simpa using k1, by simpa using k2, k3, fun q hq => k4 q (by simpa using hq)⟩
  · intro a ha
    rw [hhead] at ha
    rw [← List.append_assoc, List.getLast?_append, ← ha]
    rfl
  · intro a j ha h0 hj e
    rw [hhead] at ha
    obtain rfl : c = a := Option.some.inj ha
    have hlenP : (A.reverse ++ (B.reverse ++ [c])).length = A.length + B.length + 1 := by simp; omega
    rw [hlenP] at hj
    rcases Nat.lt_or_ge j A.length with h | h
    · rw [List.getElem?_append_left (by simpa using h)] at e
      rw [List.getElem?_reverse h] at e
      have hlast : A.getLast? = some c := by
        cases A with
        | nil => simp at h
        | cons x r => rwa [List.getLast?_cons_cons] at hAc
      rw [List.getLast?_eq_getElem?] at hlast
      have hs := (List.pairwise_cons.1 s1).2
      rw [List.pairwise_iff_getElem] at hs
      obtain ⟨h3, h4⟩ := List.getElem?_eq_some_iff.1 e
      obtain ⟨h5, h6⟩ := List.getElem?_eq_some_iff.1 hlast
      have := hs (A.length - 1 - j) (A.length - 1) h3 h5 (by omega)
      rw [h4, h6] at this
      exact lt_irrefl (.inl rfl) this
    · rw [List.getElem?_append_right (by simpa using h), List.length_reverse, List.getElem?_append_left (by simp; omega)] at e
      have hmem : c ∈ B := by
        have := List.mem_of_getElem? e
        simpa using this
      exact lt_irrefl (.inr rfl) ((List.pairwise_cons.1 s2).1 c hmem)
  · rw [← List.append_assoc, List.dropLast_concat]
def wstep (last next q : Pt) : Pt := if q ≠ last ∧ (next = last ∨ turn last next q < 0 ∨ (turn last next q = 0 ∧ sqd last next < sqd last q)) then q else next
theorem on_near {a b q : Pt} (ha : Bd a) (hb : Bd b) (hq : Bd q) (h : OnZ q a b) : sqd a q ≤ sqd a b ∧ (sqd a q = sqd a b → q = b) := by
  have h1 := (onS_iff hq ha hb).2 h
  have h2 : onS b a b = true := onS_end
  refine ⟨?_, fun e => key_inj ha hb h1 h2 e⟩
  obtain ⟨s, t, hs, ht, hw⟩ := way_of ha hb
  have w1 := hw q h1
  rw [sqd_way hs ht a q, sqd_way hs ht a b]
  have := sq_mono w1.x0 w1.xA
  have := sq_mono w1.y0 w1.yB
  omega
theorem wfold {Q : Pt → Prop} (hQ : ∀ q, Q q → Bd q) {a b : Pt} (he : Edge Q a b) : ∀ (l : List Pt) (st : Pt), (∀ q ∈ l, Q q) → (st = b ∨ (b ∈ l ∧ (st = a ∨ Q st))) → l.foldl (wstep a) st = b
  | [], st, _, h => by
    rcases h with h | h
    · exact h
    · simp at h
  | q :: l, st, hl, h => by
    obtain ⟨k1, k2, k3, k4⟩ := id he
    have ba := hQ a k1
    have bb := hQ b k2
    have hq := hl q (by simp)
    have bq := hQ q hq
    rw [List.foldl_cons]
    refine wfold hQ he l _ (fun x hx => hl x (by simp [hx])) ?_
    by_cases hsb : st = b
    · subst hsb
      refine .inl ?_
      unfold wstep
      obtain ⟨h1, h2⟩ := k4 q hq
      rw [turn_exact ba bb bq]
      rw [if_neg]
      rintro ⟨-, h3 | h3 | ⟨h3, h4⟩⟩
      · exact k3 h3.symm
      · omega
      · have := (on_near ba bb bq (h2 h3)).1; omega
    · obtain ⟨hb, hst⟩ := h.resolve_left hsb
      by_cases hqb : q = b
      · subst hqb
        refine .inl ?_
        unfold wstep
        rw [if_pos]
        refine ⟨fun e => k3 e.symm, ?_⟩
        by_cases hsa : st = a
        · exact .inl hsa
        · have hQs : Q st := hst.resolve_left hsa
          have bs := hQ st hQs
          obtain ⟨h1, h2⟩ := k4 st hQs
          rw [turn_exact ba bs bb]
          have e : turnZ a st q = - turnZ a q st := by unfold turnZ; grind
          refine .inr ?_
          by_cases h0 : turnZ a q st = 0
          · refine .inr ⟨by omega, ?_⟩
            have h3 := on_near ba bb bs (h2 h0)
            have h5 : sqd a st ≠ sqd a q := fun e => hsb (h3.2 e)
            have h6 := h3.1
            omega
          · exact .inl (by omega)
      · have hbl : b ∈ l := (List.mem_cons.1 hb).resolve_left fun e => hqb e.symm
        refine .inr ⟨hbl, ?_⟩
        unfold wstep
        split
        · exact .inr hq
        · exact hst
def pLess (p q : Pt) : Bool := decide (p.2 < q.2 ∨ (p.2 = q.2 ∧ p.1 < q.1))
theorem pLess_iff {p q : Pt} : pLess p q = true ↔ Lt 1 p q := by
  unfold pLess Lt sub Up
  rw [decide_eq_true_eq]
  simp only
  omega
def compM : List Pt → List Pt
  | [] => []
  | [a] => [a]
  | a :: b :: r => if a = b then compM (b :: r) else a :: compM (b :: r)
theorem compM_mem : ∀ {l : List Pt} {p : Pt}, p ∈ compM l ↔ p ∈ l
  | [], p => by simp [compM]
  | [a], p => by simp [compM]
  | a :: b :: r, p => by
    unfold compM
    split
    · rename_i h; subst h; rw [compM_mem]; simp
    · simp only [List.mem_cons, compM_mem (l := b :: r)]
theorem compM_sorted : ∀ {l : List Pt}, l.Pairwise (fun p q => pLess q p = false) → (compM l).Pairwise (Lt 1)
  | [], _ => by simp [compM]
  | [a], _ => by simp [compM]
  | a :: b :: r, h => by
    obtain ⟨h1, h2⟩ := List.pairwise_cons.1 h
    unfold compM
    split
    · exact compM_sorted h2
    · rename_i hne
      refine List.pairwise_cons.2 ⟨fun q hq => ?_, compM_sorted h2⟩
      have hq := compM_mem.1 hq
      have hab : Lt 1 a b := by
        rcases lt_total (.inl rfl) a b with h | h | h
        · exact absurd h hne
        · exact h
        · have := h1 b (by simp)
          rw [pLess_iff.2 h] at this; cases this
      rcases List.mem_cons.1 hq with rfl | hq
      · exact hab
      · have h3 := (List.pairwise_cons.1 h2).1 q hq
        rcases lt_total (.inl rfl) b q with h | h | h
        · exact h ▸ hab
        · exact lt_trans (.inl rfl) hab h
        · rw [pLess_iff.2 h] at h3; cases h3
def ordP (xs : List Pt) : List Pt := compM (xs.mergeSort fun p q => !pLess q p)
theorem ordP_mem {xs : List Pt} {p : Pt} : p ∈ ordP xs ↔ p ∈ xs := by unfold ordP; rw [compM_mem, List.mem_mergeSort]
theorem ordP_sorted (xs : List Pt) : (ordP xs).Pairwise (Lt 1) := by
  refine compM_sorted ?_
  have := List.pairwise_mergeSort (le := fun p q => !pLess q p) (fun a b c h1 h2 => ?_) (fun a b => ?_) xs
  · exact this.imp fun h => by simpa using h
  · simp only [Bool.not_eq_true', ← Bool.not_eq_true, pLess_iff] at *
    intro h
    rcases lt_total (.inl rfl) a b with e | e | e
    · subst e; exact h2 h
    · exact h2 (lt_trans (.inl rfl) h e)
    · exact h1 e
  · simp only [Bool.or_eq_true, Bool.not_eq_true', ← Bool.not_eq_true, pLess_iff]
    rcases lt_total (.inl rfl) a b with e | e | e
    · subst e; exact .inl (lt_irrefl (.inl rfl))
    · exact .inl fun h => lt_irrefl (.inl rfl) (lt_trans (.inl rfl) e h)
    · exact .inr fun h => lt_irrefl (.inl rfl) (lt_trans (.inl rfl) e h)
theorem compM_len : ∀ (l : List Pt), (compM l).length ≤ l.length
  | [] => by simp [compM]
  | [a] => by simp [compM]
  | a :: b :: r => by
    unfold compM
    have := compM_len (b :: r)
    split <;> simp at * <;> omega
theorem ordP_len (xs : List Pt) : (ordP xs).length ≤ xs.length := by
  unfold ordP
  exact Nat.le_trans (compM_len _) (by simp)
theorem half_len (l : List Pt) : (halfM l).length ≤ l.length - 1 := by
  unfold halfM
  have := stack_len l
  simp
  omega
theorem raw_len (l : List Pt) : (rawHull l).length ≤ 2 * (l.length - 1) := by
  unfold rawHull
  have := half_len l
  have := half_len l.reverse
  simp at *
  omega
def hullM (xs : List Pt) : List Pt := if decide (xs.length ≤ 30) && (xs.all ptOk && decide (3 ≤ (rawHull (ordP xs)).length)) then rawHull (ordP xs) else []
end Go.Proofs.Ytnepfcnlngpchaa
namespace Go.Proofs.Ytnepfcnlngpchaa.Geo
theorem no_back0 {P : Poly} (hP : SimpleP P) (ha : 0 < P.area) (he : ∀ k, k < P.n → turnZ (P.v 0) (P.v 1) (P.v k) ≤ 0) : False := by
  have h3 := hP.n3
  obtain ⟨M, hM0, hg⟩ := (hM_gen hP).get
  have hl := ((pos_iff hP hg).2 ha).left hP hg
  have hab : P.v 0 ≠ P.v 1 := hP.ne 0
  have hN := sq_pos hab
  have hoff : ∀ j, j < P.n → j ≠ 0 → Off (padd (P.v 0) (P.v 1)) (smul 2 (P.v j)) (smul 2 (P.v (j + 1))) := fun j hj h0 => by
    have hx : OnI (padd (P.v 0) (P.v 1)) (smul 2 (P.v 0)) (smul 2 (P.v 1)) := ⟨1, 1, by decide, by decide, by unfold padd smul; simp only; omega, by unfold padd smul; simp only; omega⟩
    have hk : 0 < ((P.way).sc 2).n := by show 0 < P.n; omega
    have := (hP.simple.sc (K := 2) (by decide)).inn (k := 0) hk hx hx (j := j) hj h0
    exact this.off1
  obtain ⟨K, hK0, hK⟩ := (Late.all (n := P.n) (Q := fun j K => j ≠ 0 → Part (smul K (smul 2 (P.v j))) (smul K (smul 2 (P.v (j + 1)))) (padd (smul K (padd (P.v 0) (P.v 1))) (rotP (psub (P.v 1) (P.v 0)))) (padd (smul K (padd (P.v 0) (P.v 1))) (0, 0))) fun j hj => by
    by_cases h0 : j = 0
    · exact Late.of fun K _ h => absurd h0 h
    · exact ((hoff j hj h0).near _ _).imp fun K _ g _ => g).get
  have hp0 : padd (smul K (padd (P.v 0) (P.v 1))) (0, 0) = smul K (padd (P.v 0) (P.v 1)) := by unfold padd smul; simp
  rw [hp0] at hK
  generalize hp : padd (smul K (padd (P.v 0) (P.v 1))) (rotP (psub (P.v 1) (P.v 0))) = p at *
  have hK2 : 0 < K * 2 := by omega
  have hx : OnI (smul K (padd (P.v 0) (P.v 1))) (smul (K * 2) (P.v 0)) (smul (K * 2) (P.v 1)) := by
    refine ⟨1, 1, by decide, by decide, ?_, ?_⟩
    · unfold padd smul; simp only; grind
    · unfold padd smul; simp only; grind
  have hlam := hl.2.1 (K * 2) 0 _ hK2 (by show 0 < P.n; omega) hx
  have hsl : Sloped ((hM M).sc (K * 2)) ((P.way).sc (K * 2)) := fun k hk => by
    have := hg.sloped (by omega) k hk
    show ((hM M).sc (K * 2)).ev (smul (K * 2) (P.v k)) ≠ ((hM M).sc (K * 2)).ev (smul (K * 2) (P.v (k + 1)))
    rw [ev_sc0, ev_sc0]
    exact fun e => this (Int.eq_of_mul_eq_mul_left (by omega) e)
  have hturn : 0 < turnZ (smul (K * 2) (P.v 0)) (smul (K * 2) (P.v 1)) p := by
    have : turnZ (smul (K * 2) (P.v 0)) (smul (K * 2) (P.v 1)) p = (K * 2) * (((P.v 1).1 - (P.v 0).1) * ((P.v 1).1 - (P.v 0).1) + ((P.v 1).2 - (P.v 0).2) * ((P.v 1).2 - (P.v 0).2)) := by
      rw [← hp]; unfold turnZ smul padd psub rotP; grind
    rw [this]; exact pp hK2 hN
  have hw := wnd_left hsl (k := 0) (by show 0 < P.n; omega) hx (fun j hj h0 => by
    have := hK j hj h0
    rw [smul2, smul2] at this
    exact this) hturn
  rw [hlam] at hw
  have hout := wnd_out ((hM M).sc (K * 2)) (P := (P.way).sc (K * 2)) (p := p) (Aff.lc (-1) ((Aff.turn (P.v 0) (P.v 1)).sc (K * 2)) 0 (Aff.dot (P.v 0) (P.v 1)) 0) (fun k hk => by
    have hk : k < P.n := hk
    show _ < (Aff.lc (-1) ((Aff.turn (P.v 0) (P.v 1)).sc (K * 2)) 0 (Aff.dot (P.v 0) (P.v 1)) 0).ev (smul (K * 2) (P.v k))
    rw [ev_lc, ev_lc, ev_sc0, ev_turn]
    have h1 := he k hk
    have h2 := mp0 (a := turnZ (P.v 0) (P.v 1) (P.v k)) (b := K * 2) h1 (by omega)
    have h3 : ((Aff.turn (P.v 0) (P.v 1)).sc (K * 2)).ev p = ((P.v 1).1 - (P.v 0).1) * ((P.v 1).1 - (P.v 0).1) + ((P.v 1).2 - (P.v 0).2) * ((P.v 1).2 - (P.v 0).2) := by
      rw [← hp]; unfold Aff.sc Aff.turn Aff.ev smul padd psub rotP; grind
    rw [h3, Int.mul_comm (K * 2)]
    omega)
  rw [hout] at hw
  exact absurd hw (by decide)
theorem no_back' {P : Poly} (hP : SimpleP P) (ha : 0 < P.area) {j : Nat} (he : ∀ k, k < P.n → turnZ (P.v j) (P.v (j + 1)) (P.v k) ≤ 0) : False := by
  have h3 := hP.n3
  refine no_back0 (hP.rot j) (by rw [area_rot]; exact ha) fun k hk => ?_
  have := he ((j + k) % P.n) (Nat.mod_lt _ (by omega))
  rw [P.per_mod] at this
  exact this
theorem outer_chord {P : Poly} (hP : SimpleP P) {m : Nat} (m2 : 2 ≤ m) (mn : m + 2 ≤ P.n) (hf : ∀ j, j < P.n → 0 ≤ turnZ (P.v 0) (P.v m) (P.v j))
    (hs : ∀ j, j < P.n → j ≠ 0 → j ≠ m → turnZ (P.v 0) (P.v m) (P.v j) = 0 → phi (P.v 0) (P.v m) (P.v j) < 0 ∨ phi (P.v 0) (P.v m) (P.v m) < phi (P.v 0) (P.v m) (P.v j)) : Chord P m := by
  have hab : P.v 0 ≠ P.v m := hP.inj (by omega) (by omega) (by omega)
  have hN := sq_pos hab
  rw [← phi_b] at hN
  have taa : turnZ (P.v 0) (P.v m) (P.v 0) = 0 := by unfold turnZ; grind
  have tbb : turnZ (P.v 0) (P.v m) (P.v m) = 0 := by unfold turnZ; grind
  have paa := phi_a (P.v 0) (P.v m)
  have pe : ∀ v : Pt, (Aff.dot (P.v 0) (P.v m)).ev v = phi (P.v 0) (P.v m) v - phi (P.v 0) (P.v m) (P.v m) := fun v => by rw [ev_dot, phi_b]; unfold phi; omega
  refine Chord.mk' hP m2 mn (fun j h0 hj hm => ?_) (fun j h0 hj hm hm1 => ?_)
  · by_cases hz : turnZ (P.v 0) (P.v m) (P.v j) = 0
    · rcases hs j hj (by omega) hm hz with g | g
      · exact ⟨Aff.lc 2 (Aff.dot (P.v 0) (P.v m)) 0 (Aff.dot (P.v 0) (P.v m)) (2 * phi (P.v 0) (P.v m) (P.v m) + 1), by rw [ev_lc, pe, paa]; omega, by rw [ev_lc, pe]; omega, by rw [ev_lc, pe]; omega⟩
      · exact ⟨Aff.lc (-2) (Aff.dot (P.v 0) (P.v m)) 0 (Aff.dot (P.v 0) (P.v m)) 1, by rw [ev_lc, pe, paa]; omega, by rw [ev_lc, pe]; omega, by rw [ev_lc, pe]; omega⟩
    · exact off_turn hz
  · have f1 := hf j (by omega)
    have f2 := hf (j + 1) hj
    have mix : ∀ (s : Int) (c : Int) (u w : Pt), 0 < turnZ (P.v 0) (P.v m) u → ∃ K : Int, 0 < K ∧ 0 < K * turnZ (P.v 0) (P.v m) u + (s * (Aff.dot (P.v 0) (P.v m)).ev u + c) := fun s c u w hu => by
      refine ⟨(s * (Aff.dot (P.v 0) (P.v m)).ev u + c).natAbs + 1, by omega, ?_⟩
      have := Int.mul_le_mul_of_nonneg_left (show 1 ≤ turnZ (P.v 0) (P.v m) u by omega) (show 0 ≤ (((s * (Aff.dot (P.v 0) (P.v m)).ev u + c).natAbs : Int) + 1) by omega)
      omega
    have one : ∀ u w : Pt, turnZ (P.v 0) (P.v m) u = 0 → 0 < turnZ (P.v 0) (P.v m) w → (phi (P.v 0) (P.v m) u < 0 ∨ phi (P.v 0) (P.v m) (P.v m) < phi (P.v 0) (P.v m) u) → Part u w (P.v 0) (P.v m) := fun u w hu hw hφ => by
      rcases hφ with g | g
      · obtain ⟨K, hK, hk⟩ := mix (-1) (-(phi (P.v 0) (P.v m) (P.v m))) w w hw
        refine ⟨Aff.lc K (Aff.turn (P.v 0) (P.v m)) (-1) (Aff.dot (P.v 0) (P.v m)) (-(phi (P.v 0) (P.v m) (P.v m))), ?_, ?_, ?_, ?_⟩
        · rw [ev_lc, ev_turn, hu, pe]; omega
        · rw [ev_lc, ev_turn]; omega
        · rw [ev_lc, ev_turn, taa, pe, paa]; omega
        · rw [ev_lc, ev_turn, tbb, pe]; omega
      · obtain ⟨K, hK, hk⟩ := mix 1 0 w w hw
        refine ⟨Aff.lc K (Aff.turn (P.v 0) (P.v m)) 1 (Aff.dot (P.v 0) (P.v m)) 0, ?_, ?_, ?_, ?_⟩
        · rw [ev_lc, ev_turn, hu, pe]; omega
        · rw [ev_lc, ev_turn]; omega
        · rw [ev_lc, ev_turn, taa, pe, paa]; omega
        · rw [ev_lc, ev_turn, tbb, pe]; omega
    rcases (show 0 < turnZ (P.v 0) (P.v m) (P.v j) ∨ turnZ (P.v 0) (P.v m) (P.v j) = 0 by omega) with a1 | a1
    · rcases (show 0 < turnZ (P.v 0) (P.v m) (P.v (j + 1)) ∨ turnZ (P.v 0) (P.v m) (P.v (j + 1)) = 0 by omega) with a2 | a2
      · exact ⟨Aff.turn (P.v 0) (P.v m), by rw [ev_turn]; exact a1, by rw [ev_turn]; exact a2, by rw [ev_turn, taa]; omega, by rw [ev_turn, tbb]; omega⟩
      · exact (one _ _ a2 a1 (hs (j + 1) hj (by omega) hm1 a2)).swap
    · rcases (show 0 < turnZ (P.v 0) (P.v m) (P.v (j + 1)) ∨ turnZ (P.v 0) (P.v m) (P.v (j + 1)) = 0 by omega) with a2 | a2
      · exact one _ _ a1 a2 (hs j (by omega) (by omega) hm a1)
      · have s1 := hs j (by omega) (by omega) hm a1
        have s2 := hs (j + 1) hj (by omega) hm1 a2
        have hoff : Off (P.v 0) (P.v j) (P.v (j + 1)) := hP.offI (i := j) (k := 0) (by omega) (by omega) (by omega) (by omega) (by omega)
        rcases s1 with g1 | g1 <;> rcases s2 with g2 | g2
        · exact ⟨Aff.lc (-1) (Aff.dot (P.v 0) (P.v m)) 0 (Aff.dot (P.v 0) (P.v m)) (-(phi (P.v 0) (P.v m) (P.v m))), by rw [ev_lc, pe]; omega, by rw [ev_lc, pe]; omega, by rw [ev_lc, pe, paa]; omega, by rw [ev_lc, pe]; omega⟩
        · exact absurd hoff (flat_mean hab a1 a2 taa (by omega) (by omega) (by omega)).not_off
        · exact absurd hoff.swap (flat_mean hab a2 a1 taa (by omega) (by omega) (by omega)).not_off
        · exact ⟨Aff.dot (P.v 0) (P.v m), by rw [pe]; omega, by rw [pe]; omega, by rw [pe, paa]; omega, by rw [pe]; omega⟩
theorem outer_neg {P : Poly} (hP : SimpleP P) {m : Nat} (c : Chord P m) (hf : ∀ j, j < P.n → 0 ≤ turnZ (P.v 0) (P.v m) (P.v j)) : ¬ 0 < (P.arc m).area := fun ha => by
  have hmn := c.mn
  refine no_back' (hP.arc c) ha (j := m) fun k hk => ?_
  have hk : k < m + 1 := hk
  rw [arc_v P (Nat.le_refl m), arc_v0, arc_v P (by omega)]
  have := hf k (by omega)
  have e : turnZ (P.v m) (P.v 0) (P.v k) = - turnZ (P.v 0) (P.v m) (P.v k) := by unfold turnZ; grind
  omega
theorem outer_reflex {P : Poly} (hP : SimpleP P) {m : Nat} (c : Chord P m) (hf : ∀ j, j < P.n → 0 ≤ turnZ (P.v 0) (P.v m) (P.v j)) : ∃ t, 0 < t ∧ t < m ∧ turnZ (P.v (t - 1)) (P.v t) (P.v (t + 1)) < 0 := by
  have hm2 := c.m2
  have hmn := c.mn
  have hQ := hP.arc c
  have hab : P.v 0 ≠ P.v m := hP.inj (by omega) (by omega) (by omega)
  have hN := sq_pos hab
  have taa : turnZ (P.v 0) (P.v m) (P.v 0) = 0 := by unfold turnZ; grind
  have tbb : turnZ (P.v 0) (P.v m) (P.v m) = 0 := by unfold turnZ; grind
  obtain ⟨N, hN0, hg, hbig⟩ := ((gen_two hQ (f := Aff.lc (-1) (Aff.turn (P.v 0) (P.v m)) 0 (Aff.turn (P.v 0) (P.v m)) 0) (g := Aff.dot (P.v 0) (P.v m)) (by
    have : (Aff.lc (-1) (Aff.turn (P.v 0) (P.v m)) 0 (Aff.turn (P.v 0) (P.v m)) 0).u * (Aff.dot (P.v 0) (P.v m)).v - (Aff.lc (-1) (Aff.turn (P.v 0) (P.v m)) 0 (Aff.turn (P.v 0) (P.v m)) 0).v * (Aff.dot (P.v 0) (P.v m)).u = (((P.v m).1 - (P.v 0).1) * ((P.v m).1 - (P.v 0).1) + ((P.v m).2 - (P.v 0).2) * ((P.v m).2 - (P.v 0).2)) := by
      unfold Aff.turn Aff.lc Aff.dot; grind
    omega)).and (Late.all (n := m + 1) (Q := fun j N => 0 < turnZ (P.v 0) (P.v m) (P.v j) → (Aff.dot (P.v 0) (P.v m)).ev (P.v j) - (Aff.dot (P.v 0) (P.v m)).ev (P.v 0) < N * turnZ (P.v 0) (P.v m) (P.v j) ∧ (Aff.dot (P.v 0) (P.v m)).ev (P.v j) - (Aff.dot (P.v 0) (P.v m)).ev (P.v m) < N * turnZ (P.v 0) (P.v m) (P.v j)) fun j _ => by
      refine ⟨(((Aff.dot (P.v 0) (P.v m)).ev (P.v j) - (Aff.dot (P.v 0) (P.v m)).ev (P.v 0)).natAbs : Int) + (((Aff.dot (P.v 0) (P.v m)).ev (P.v j) - (Aff.dot (P.v 0) (P.v m)).ev (P.v m)).natAbs : Int) + 1, fun N hN1 hN2 ht => ?_⟩
      have := Int.mul_le_mul_of_nonneg_left (show 1 ≤ turnZ (P.v 0) (P.v m) (P.v j) by omega) (show 0 ≤ N by omega)
      omega)).get
  have hneg := (pos_or_neg hQ hg).resolve_left fun g => absurd (area_pos hQ hg g) (outer_neg hP c hf)
  obtain ⟨s, hlow, ht⟩ := hneg
  have red : ∀ j, (P.arc m).v j = P.v (j % (m + 1)) := fun _ => rfl
  have hr : (s + 1) % (m + 1) < m + 1 := Nat.mod_lt _ (by omega)
  have hnot : ∀ e, e < m + 1 → (e = 0 ∨ e = m) → (s + 1) % (m + 1) = e → False := fun e he1 he2 he => by
    have hte : turnZ (P.v 0) (P.v m) (P.v e) = 0 := by rcases he2 with rfl | rfl <;> assumption
    have all0 : ∀ j, j < m + 1 → turnZ (P.v 0) (P.v m) (P.v j) = 0 := fun j hj => by
      have h0 := hf j (by omega)
      rcases (show turnZ (P.v 0) (P.v m) (P.v j) = 0 ∨ 0 < turnZ (P.v 0) (P.v m) (P.v j) by omega) with g | g
      · exact g
      · exfalso
        have hje : j ≠ e := fun q => by rw [q, hte] at g; omega
        have hj' : ((j + (m + 1) * (s + 1) - s) % (m + 1)) < m + 1 := Nat.mod_lt _ (by omega)
        have hle : s ≤ (m + 1) * (s + 1) := by
          have : 1 * (s + 1) ≤ (m + 1) * (s + 1) := Nat.mul_le_mul_right _ (by omega)
          omega
        have hmod : (s + (j + (m + 1) * (s + 1) - s) % (m + 1)) % (m + 1) = j := by
          rw [Nat.add_mod_mod, show s + (j + (m + 1) * (s + 1) - s) = j + (m + 1) * (s + 1) by omega, Nat.add_mul_mod_self_left, Nat.mod_eq_of_lt hj]
        have hl := hlow ((j + (m + 1) * (s + 1) - s) % (m + 1)) hj' (fun q => by rw [q] at hmod; omega)
        have e1 : ((P.arc m).rot s).v 1 = P.v e := by show P.v ((s + 1) % (m + 1)) = _; rw [he]
        have e2 : ((P.arc m).rot s).v ((j + (m + 1) * (s + 1) - s) % (m + 1)) = P.v j := by show P.v ((s + _) % (m + 1)) = _; rw [hmod]
        rw [e1, e2, ev_lc, ev_lc, ev_lc, ev_lc, ev_turn, ev_turn, hte] at hl
        have hb := hbig j hj g
        rcases he2 with rfl | rfl
        · have := hb.1
          have ex : N * (-1 * turnZ (P.v 0) (P.v m) (P.v j) + 0 * turnZ (P.v 0) (P.v m) (P.v j) + 0) = -(N * turnZ (P.v 0) (P.v m) (P.v j)) := by grind
          rw [ex] at hl
          omega
        · have := hb.2
          have ex : N * (-1 * turnZ (P.v 0) (P.v e) (P.v j) + 0 * turnZ (P.v 0) (P.v e) (P.v j) + 0) = -(N * turnZ (P.v 0) (P.v e) (P.v j)) := by grind
          rw [ex] at hl
          omega
    have z : ∀ j, turnZ (P.v 0) (P.v m) (((P.arc m).rot s).v j) = 0 := fun j => all0 _ (Nat.mod_lt _ (by omega))
    have t0 := z 0
    have t1 := z 1
    have t2 := z 2
    generalize ((P.arc m).rot s).v 0 = x at *
    generalize ((P.arc m).rot s).v 1 = y at *
    generalize ((P.arc m).rot s).v 2 = w at *
    obtain ⟨x1, x2⟩ := on_line t0
    obtain ⟨y1, y2⟩ := on_line t1
    obtain ⟨w1, w2⟩ := on_line t2
    generalize hNN : ((P.v m).1 - (P.v 0).1) * ((P.v m).1 - (P.v 0).1) + ((P.v m).2 - (P.v 0).2) * ((P.v m).2 - (P.v 0).2) = NN at *
    have hz : NN * (NN * turnZ x y w) = 0 := by
      have ex : NN * (NN * turnZ x y w) = (NN * y.1 - NN * x.1) * (NN * w.2 - NN * x.2) - (NN * y.2 - NN * x.2) * (NN * w.1 - NN * x.1) := by unfold turnZ; grind
      rw [ex, x1, x2, y1, y2, w1, w2]; grind
    rcases Int.mul_eq_zero.1 hz with q | q
    · omega
    · rcases Int.mul_eq_zero.1 q with q | q <;> omega
  refine ⟨(s + 1) % (m + 1), ?_, ?_, ?_⟩
  · rcases Nat.eq_zero_or_pos ((s + 1) % (m + 1)) with g | g
    · exact (hnot 0 (by omega) (.inl rfl) g).elim
    · exact g
  · rcases (show (s + 1) % (m + 1) < m ∨ (s + 1) % (m + 1) = m by omega) with g | g
    · exact g
    · exact (hnot m (by omega) (.inr rfl) g).elim
  · have g0 : 0 < (s + 1) % (m + 1) := by
      rcases Nat.eq_zero_or_pos ((s + 1) % (m + 1)) with g | g
      · exact (hnot 0 (by omega) (.inl rfl) g).elim
      · exact g
    have gm : (s + 1) % (m + 1) < m := by
      rcases (show (s + 1) % (m + 1) < m ∨ (s + 1) % (m + 1) = m by omega) with g | g
      · exact g
      · exact (hnot m (by omega) (.inr rfl) g).elim
    have ht : turnZ (P.v ((s + 0) % (m + 1))) (P.v ((s + 1) % (m + 1))) (P.v ((s + 2) % (m + 1))) < 0 := ht
    have e2 : (s + 2) % (m + 1) = (s + 1) % (m + 1) + 1 := by
      rw [show s + 2 = s + 1 + 1 by omega, Nat.add_mod, Nat.mod_eq_of_lt (show 1 < m + 1 by omega), Nat.mod_eq_of_lt (by omega)]
    have e0 : (s + 0) % (m + 1) = (s + 1) % (m + 1) - 1 := by
      have : (s + 1) % (m + 1) = (s % (m + 1) + 1) % (m + 1) := by rw [Nat.mod_add_mod]
      have h1 : s % (m + 1) < m + 1 := Nat.mod_lt _ (by omega)
      rcases (show s % (m + 1) + 1 < m + 1 ∨ s % (m + 1) + 1 = m + 1 by omega) with g | g
      · rw [Nat.mod_eq_of_lt g] at this
        rw [Nat.add_zero]; omega
      · rw [g, Nat.mod_self] at this; omega
    rw [e2, e0] at ht
    exact ht
theorem line_turn {a b p q : Pt} (hp : turnZ a b p = 0) (hq : turnZ a b q = 0) (x : Pt) : phi a b b * turnZ p q x = (phi a b q - phi a b p) * turnZ a b x ∧ phi a b b * phi p q x = (phi a b q - phi a b p) * (phi a b x - phi a b p) := by
  obtain ⟨p1, p2⟩ := on_line hp
  obtain ⟨q1, q2⟩ := on_line hq
  rw [← phi_b] at p1 p2 q1 q2
  have eφ : ∀ c, phi a b b + dotZ a b c = phi a b c := fun c => by rw [phi_b]; rfl
  rw [eφ] at p1 p2 q1 q2
  have hz : turnZ a b x - turnZ a b p = turnZ a b x := by omega
  constructor
  · have e : phi a b b * turnZ p q x = (phi a b b * q.1 - phi a b b * p.1) * (x.2 - p.2) - (phi a b b * q.2 - phi a b b * p.2) * (x.1 - p.1) := by unfold turnZ; grind
    rw [e, p1, p2, q1, q2, ← hz]
    unfold turnZ; grind
  · have e : phi a b b * phi p q x = (phi a b b * q.1 - phi a b b * p.1) * (x.1 - p.1) + (phi a b b * q.2 - phi a b b * p.2) * (x.2 - p.2) := by unfold phi dotZ; grind
    rw [e, p1, p2, q1, q2]
    unfold phi dotZ; grind
theorem conv_next {P : Poly} (hP : SimpleP P) (ha : 0 < P.area) (hc : ∀ j, 0 < turnZ (P.v j) (P.v (j + 1)) (P.v (j + 2))) {m : Nat} (m0 : 0 < m) (mn : m < P.n) (hf : ∀ j, j < P.n → 0 ≤ turnZ (P.v 0) (P.v m) (P.v j))
    (hs : ∀ j, j < P.n → j ≠ 0 → j ≠ m → turnZ (P.v 0) (P.v m) (P.v j) = 0 → phi (P.v 0) (P.v m) (P.v j) < 0 ∨ phi (P.v 0) (P.v m) (P.v m) < phi (P.v 0) (P.v m) (P.v j)) : m = 1 := by
  have h3 := hP.n3
  rcases (show m = 1 ∨ m + 1 = P.n ∨ (2 ≤ m ∧ m + 2 ≤ P.n) by omega) with g | g | ⟨g1, g2⟩
  · exact g
  · exfalso
    refine no_back' hP ha (j := m) fun k hk => ?_
    rw [g, P.vn]
    have := hf k hk
    have e : turnZ (P.v m) (P.v 0) (P.v k) = - turnZ (P.v 0) (P.v m) (P.v k) := by unfold turnZ; grind
    omega
  · exfalso
    obtain ⟨t, t0, tm, ht⟩ := outer_reflex hP (outer_chord hP g1 g2 hf hs) hf
    have := hc (t - 1)
    rw [show t - 1 + 1 = t by omega, show t - 1 + 2 = t + 1 by omega] at this
    omega
theorem conv_line {P : Poly} (hP : SimpleP P) (ha : 0 < P.area) (hc : ∀ j, 0 < turnZ (P.v j) (P.v (j + 1)) (P.v (j + 2))) {a b : Pt} (hab : a ≠ b) (hl : ∀ j, 0 ≤ turnZ a b (P.v j))
    {i k : Nat} (hi : turnZ a b (P.v i) = 0) (hk : turnZ a b (P.v k) = 0) (hφ : phi a b (P.v i) < phi a b (P.v k))
    (hn : ∀ j, turnZ a b (P.v j) = 0 → phi a b (P.v i) < phi a b (P.v j) → phi a b (P.v j) < phi a b (P.v k) → False) : P.v k = P.v (i + 1) := by
  have h3 := hP.n3
  have hN := sq_pos hab
  rw [← phi_b] at hN
  have hle : i ≤ P.n * (i + 1) := by
    have : 1 * (i + 1) ≤ P.n * (i + 1) := Nat.mul_le_mul_right _ (by omega)
    omega
  have hm : ∃ m, m < P.n ∧ P.v (i + m) = P.v k := ⟨(k + P.n * (i + 1) - i) % P.n, Nat.mod_lt _ (by omega), by
    rw [← P.per_mod, Nat.add_mod_mod, show i + (k + P.n * (i + 1) - i) = k + P.n * (i + 1) by omega, P.per_mod, P.per_mul]⟩
  obtain ⟨m, hmn, hmk⟩ := hm
  have m0 : 0 < m := by
    rcases Nat.eq_zero_or_pos m with g | g
    · rw [g, Nat.add_zero] at hmk; rw [hmk] at hφ; omega
    · exact g
  have e0 : (P.rot i).v 0 = P.v i := by show P.v (i + 0) = _; rw [Nat.add_zero]
  have em : (P.rot i).v m = P.v k := hmk
  have key := fun x => line_turn hi hk x
  have hpos : 0 < phi a b (P.v k) - phi a b (P.v i) := by omega
  have m1 : m = 1 := by
    refine conv_next (hP.rot i) (by rw [area_rot]; exact ha) (fun j => by have := hc (i + j); simpa only [Poly.rot, Nat.add_assoc] using this) m0 hmn (fun j hj => ?_) (fun j hj j0 jm hz => ?_)
    · rw [e0, em]
      show 0 ≤ turnZ _ _ (P.v (i + j))
      have h1 := (key (P.v (i + j))).1
      have h2 := nn0 (show 0 ≤ phi a b (P.v k) - phi a b (P.v i) by omega) (hl (i + j))
      rw [← h1] at h2
      rcases (show 0 ≤ turnZ (P.v i) (P.v k) (P.v (i + j)) ∨ turnZ (P.v i) (P.v k) (P.v (i + j)) < 0 by omega) with g | g
      · exact g
      · have := pm hN g; omega
    · rw [e0, em] at hz ⊢
      have hz : turnZ (P.v i) (P.v k) (P.v (i + j)) = 0 := hz
      show phi _ _ (P.v (i + j)) < 0 ∨ _ < phi _ _ (P.v (i + j))
      obtain ⟨h1, h2⟩ := key (P.v (i + j))
      obtain ⟨-, h4⟩ := key (P.v k)
      rw [hz, Int.mul_zero] at h1
      have hz' : turnZ a b (P.v (i + j)) = 0 := by
        rcases Int.mul_eq_zero.1 h1.symm with g | g <;> omega
      have ni : P.v (i + j) ≠ P.v i := fun e => by
        have := (hP.rot i).inj (i := j) (j := 0) hj (by show 0 < P.n; omega) j0
        rw [e0] at this; exact this e
      have nk : P.v (i + j) ≠ P.v k := fun e => by
        have := (hP.rot i).inj (i := j) (j := m) hj hmn jm
        rw [em] at this; exact this e
      have q1 : phi a b (P.v (i + j)) ≠ phi a b (P.v i) := fun e => ni (phi_inj hab hz' hi e)
      have q2 : phi a b (P.v (i + j)) ≠ phi a b (P.v k) := fun e => nk (phi_inj hab hz' hk e)
      rcases (show phi a b (P.v (i + j)) < phi a b (P.v i) ∨ phi a b (P.v k) < phi a b (P.v (i + j)) ∨ (phi a b (P.v i) < phi a b (P.v (i + j)) ∧ phi a b (P.v (i + j)) < phi a b (P.v k)) by omega) with g | g | ⟨g1, g2⟩
      · left
        have := pm hpos (show phi a b (P.v (i + j)) - phi a b (P.v i) < 0 by omega)
        rw [← h2] at this
        rcases (show phi (P.v i) (P.v k) (P.v (i + j)) < 0 ∨ 0 ≤ phi (P.v i) (P.v k) (P.v (i + j)) by omega) with q | q
        · exact q
        · have := nn0 (show 0 ≤ phi a b b by omega) q; omega
      · right
        have := pp hpos (show 0 < phi a b (P.v (i + j)) - phi a b (P.v k) by omega)
        have e : (phi a b (P.v k) - phi a b (P.v i)) * (phi a b (P.v (i + j)) - phi a b (P.v k)) = (phi a b (P.v k) - phi a b (P.v i)) * (phi a b (P.v (i + j)) - phi a b (P.v i)) - (phi a b (P.v k) - phi a b (P.v i)) * (phi a b (P.v k) - phi a b (P.v i)) := by grind
        rw [e, ← h2, ← h4, ← Int.mul_sub] at this
        rcases (show phi (P.v i) (P.v k) (P.v k) < phi (P.v i) (P.v k) (P.v (i + j)) ∨ phi (P.v i) (P.v k) (P.v (i + j)) - phi (P.v i) (P.v k) (P.v k) ≤ 0 by omega) with q | q
        · exact q
        · have := pm0 (show 0 ≤ phi a b b by omega) q; omega
      · exact (hn _ hz' g1 g2).elim
  rw [← hmk, m1]
theorem phi_onZ {a b q : Pt} (h : OnZ q a b) : 0 ≤ phi a b q ∧ phi a b q ≤ phi a b b := by
  obtain ⟨h0, ⟨h1, h2⟩, h3, h4⟩ := h
  have e1 : phi a b q = (b.1 - a.1) * (q.1 - a.1) + (b.2 - a.2) * (q.2 - a.2) := by unfold phi dotZ; grind
  have e2 : phi a b b - phi a b q = (b.1 - a.1) * (b.1 - q.1) + (b.2 - a.2) * (b.2 - q.2) := by unfold phi dotZ; grind
  have s : ∀ x lo hi : Int, min lo hi ≤ x → x ≤ max lo hi → 0 ≤ (hi - lo) * (x - lo) ∧ 0 ≤ (hi - lo) * (hi - x) := fun x lo hi g1 g2 => by
    rcases (show lo ≤ hi ∨ hi ≤ lo by omega) with g | g
    · exact ⟨nn0 (by omega) (by omega), nn0 (by omega) (by omega)⟩
    · exact ⟨mm0 (by omega) (by omega), mm0 (by omega) (by omega)⟩
  have s1 := s q.1 a.1 b.1 h1 h2
  have s2 := s q.2 a.2 b.2 h3 h4
  omega
theorem conv_edge {P : Poly} (hP : SimpleP P) (ha : 0 < P.area) (hc : ∀ j, 0 < turnZ (P.v j) (P.v (j + 1)) (P.v (j + 2))) {i k : Nat} (hik : P.v i ≠ P.v k)
    (he : ∀ j, 0 ≤ turnZ (P.v i) (P.v k) (P.v j) ∧ (turnZ (P.v i) (P.v k) (P.v j) = 0 → OnZ (P.v j) (P.v i) (P.v k))) : P.v k = P.v (i + 1) := by
  have h3 := hP.n3
  have hN := sq_pos hik
  rw [← phi_b] at hN
  have tii : turnZ (P.v i) (P.v k) (P.v i) = 0 := by unfold turnZ; grind
  have tkk : turnZ (P.v i) (P.v k) (P.v k) = 0 := by unfold turnZ; grind
  have pii := phi_a (P.v i) (P.v k)
  have next : ∀ w : Nat, turnZ (P.v i) (P.v k) (P.v w) = 0 → phi (P.v i) (P.v k) (P.v w) < phi (P.v i) (P.v k) (P.v k) → turnZ (P.v i) (P.v k) (P.v (w + 1)) = 0 ∧ phi (P.v i) (P.v k) (P.v w) < phi (P.v i) (P.v k) (P.v (w + 1)) := fun w hw hwk => by
    obtain ⟨c, ⟨hcn, hc0, hcw⟩, hmin⟩ := ex_max (fun c => c < P.n ∧ turnZ (P.v i) (P.v k) (P.v c) = 0 ∧ phi (P.v i) (P.v k) (P.v w) < phi (P.v i) (P.v k) (P.v c)) (fun c => - phi (P.v i) (P.v k) (P.v c)) P.n (fun c h => h.1)
      ⟨k % P.n, Nat.mod_lt _ (by omega), by rw [P.per_mod]; exact tkk, by rw [P.per_mod]; exact hwk⟩
    have := conv_line hP ha hc hik (fun j => (he j).1) hw hc0 hcw fun j hj g1 g2 => by
      have := hmin (j % P.n) ⟨Nat.mod_lt _ (by omega), by rw [P.per_mod]; exact hj, by rw [P.per_mod]; exact g1⟩
      rw [P.per_mod] at this
      omega
    rw [← this]
    exact ⟨hc0, hcw⟩
  obtain ⟨n1, n2⟩ := next i tii (by omega)
  rcases (show phi (P.v i) (P.v k) (P.v (i + 1)) = phi (P.v i) (P.v k) (P.v k) ∨ phi (P.v i) (P.v k) (P.v (i + 1)) < phi (P.v i) (P.v k) (P.v k) by have := phi_onZ ((he (i + 1)).2 n1); omega) with g | g
  · exact phi_inj hik tkk n1 g.symm
  · exfalso
    obtain ⟨n3, n4⟩ := next (i + 1) n1 g
    have ht := hc i
    have := (line_turn tii n1 (P.v (i + 2))).1
    rw [show (i + 1 + 1) = i + 2 by omega] at n3
    rw [n3, Int.mul_zero] at this
    have := pp hN ht
    omega
theorem conv_all {xs : List Pt} (hr : roomOk xs = true) (hc : ∀ j, 0 < turnZ ((roomP xs).v j) ((roomP xs).v (j + 1)) ((roomP xs).v (j + 2))) (k j : Nat) : 0 ≤ turnZ ((roomP xs).v k) ((roomP xs).v (k + 1)) ((roomP xs).v j) := by
  have hP := room_simple hr
  have ha := (room_area hr).2.1
  have h3 := (room_len hr).1
  have hn : (roomP xs).n = xs.length := rfl
  have hbd : ∀ q ∈ ordP xs, Bd q := fun q hq => bd_of_room hr q (ordP_mem.1 hq)
  have hv : ∀ j, (roomP xs).v j ∈ xs := fun j => by
    have hj := Nat.mod_lt j (show 0 < xs.length by omega)
    rw [show (roomP xs).v j = xs[j % xs.length] from getD_lt _ hj]; exact List.getElem_mem hj
  have hx : ∀ q ∈ xs, ∃ j, q = (roomP xs).v j := fun q hq => by
    obtain ⟨j, hj, e⟩ := List.getElem_of_mem hq
    exact ⟨j, by rw [v_lt hj, show pAt xs j = xs[j] from getD_lt _ hj, e]⟩
  have hne : ordP xs ≠ [] := fun e => by
    have := ordP_mem.2 (hv 0)
    rw [e] at this; cases this
  obtain ⟨⟨r1, r2, -⟩, -, -⟩ := round_of hne (ordP_sorted xs) hbd
  have hlen : 2 ≤ (wayR (ordP xs)).length := by
    have l1 : 1 ≤ (stackOf (ordP xs).reverse).length := by
      have := stack_ne (l := (ordP xs).reverse) (by simpa using hne)
      cases hs : stackOf (ordP xs).reverse with
      | nil => exact absurd hs this
      | cons _ _ => simp
    have l2 : 2 ≤ (stackOf (ordP xs)).length := by
      have hh := (stack_chain (.inl rfl) hne (ordP_sorted xs) hbd).2
      have ht := stack_last (l := ordP xs)
      have hs0 := stack_ne hne
      cases hs : stackOf (ordP xs) with
      | nil => exact absurd hs hs0
      | cons a r =>
        cases r with
        | cons b r => simp
        | nil =>
          exfalso
          rw [hs] at hh ht
          simp only [List.head?_cons] at hh
          have ht : some a = (ordP xs).head? := ht
          have hsort := ordP_sorted xs
          cases ho : ordP xs with
          | nil => exact absurd ho hne
          | cons c l =>
            rw [ho] at hh ht hsort
            simp only [List.head?_cons, Option.some.injEq] at ht
            subst ht
            cases l with
            | nil =>
              have m : ∀ j, (roomP xs).v j = a := fun j => by
                have := ordP_mem.2 (hv j)
                rw [ho] at this
                simpa using this
              exact hP.ne 0 (by rw [m, m])
            | cons d l =>
              have hin : a ∈ d :: l := by
                have : (d :: l).getLast? = some a := by rw [hh]; simp
                exact List.mem_of_getLast? this
              exact lt_irrefl (.inl rfl) (List.rel_of_pairwise_cons hsort hin)
    show 2 ≤ (halfM (ordP xs) ++ (stackOf (ordP xs).reverse).reverse).length
    unfold halfM
    rw [List.length_append, List.length_reverse, List.length_reverse, List.length_tail]
    omega
  generalize hW : wayR (ordP xs) = W at *
  have hedge : ∀ t, t + 1 < W.length → Edge (· ∈ ordP xs) (W.getD t (0, 0)) (W.getD (t + 1) (0, 0)) := fun t ht => by
    refine r1 (W.take t) _ _ (W.drop (t + 2)) ?_
    rw [getD_lt _ (by omega), getD_lt _ (by omega), ← List.drop_eq_getElem_cons (show t + 1 < W.length by omega), ← List.drop_eq_getElem_cons (show t < W.length by omega), List.take_append_drop]
  obtain ⟨i0, hi0⟩ : ∃ i, W.getD 0 (0, 0) = (roomP xs).v i := hx _ (ordP_mem.1 (hedge 0 (by omega)).1)
  have hstep : ∀ t, t < W.length → W.getD t (0, 0) = (roomP xs).v (i0 + t) := fun t => by
    induction t with
    | zero => intro _; exact hi0
    | succ t ih =>
      intro ht
      have e := hedge t ht
      obtain ⟨q, hq⟩ := hx _ (ordP_mem.1 e.2.1)
      have h1 := ih (by omega)
      rw [h1, hq] at e
      rw [hq]
      exact conv_edge hP ha hc e.2.2.1 fun j => e.2.2.2 _ (ordP_mem.2 (hv j))
  have hlast : (roomP xs).v (i0 + (W.length - 1)) = (roomP xs).v i0 := by
    rw [← hstep _ (by omega), ← hi0]
    have h0 : W.head? = some (W.getD 0 (0, 0)) := by
      cases W with
      | nil => simp at hlen
      | cons a l => rfl
    have := r2 _ h0
    rw [List.getLast?_eq_getElem?, List.getElem?_eq_getElem (by omega)] at this
    rw [getD_lt _ (by omega)]
    exact Option.some.inj this
  have hbig : xs.length ≤ W.length - 1 := by
    rcases (show xs.length ≤ W.length - 1 ∨ W.length - 1 < xs.length by omega) with g | g
    · exact g
    · exfalso
      have := (hP.rot i0).inj (i := W.length - 1) (j := 0) g (by show 0 < xs.length; omega) (by omega)
      refine this ?_
      show (roomP xs).v (i0 + (W.length - 1)) = (roomP xs).v (i0 + 0)
      rw [hlast, Nat.add_zero]
  have hle : i0 ≤ xs.length * (i0 + 1) := by
    have : 1 * (i0 + 1) ≤ xs.length * (i0 + 1) := Nat.mul_le_mul_right _ (by omega)
    omega
  have ht := Nat.mod_lt (k + xs.length * (i0 + 1) - i0) (show 0 < xs.length by omega)
  have hmod : ∀ d, (roomP xs).v (i0 + (k + xs.length * (i0 + 1) - i0) % xs.length + d) = (roomP xs).v (k + d) := fun d => by
    rw [← (roomP xs).per_mod, show i0 + (k + xs.length * (i0 + 1) - i0) % xs.length + d = (i0 + d) + (k + xs.length * (i0 + 1) - i0) % xs.length by omega, hn, Nat.add_mod_mod,
      show i0 + d + (k + xs.length * (i0 + 1) - i0) = (k + d) + xs.length * (i0 + 1) by omega, ← hn, (roomP xs).per_mod, (roomP xs).per_mul]
  have e := hedge ((k + xs.length * (i0 + 1) - i0) % xs.length) (by omega)
  rw [hstep _ (by omega), hstep _ (by omega), show i0 + ((k + xs.length * (i0 + 1) - i0) % xs.length + 1) = i0 + (k + xs.length * (i0 + 1) - i0) % xs.length + 1 by omega, hmod 1] at e
  have h0 := hmod 0
  rw [Nat.add_zero, Nat.add_zero] at h0
  rw [h0] at e
  exact (e.2.2.2 _ (ordP_mem.2 (hv j))).1
abbrev partB (P : Poly) (m : Nat) : Poly := (P.rot m).arc (P.n - m)
theorem A_walls {P : Poly} {m : Nat} {Q : Pt → Pt → Prop} : (∀ k, k < (P.arc m).n → Q ((P.arc m).v k) ((P.arc m).v (k + 1))) ↔ (∀ k, k < m → Q (P.v k) (P.v (k + 1))) ∧ Q (P.v m) (P.v 0) := by
  constructor
  · intro h
    refine ⟨fun k hk => ?_, ?_⟩
    · have := h k (by show k < m + 1; omega)
      rwa [arc_v P (by omega), arc_v P (by omega)] at this
    · have := h m (by show m < m + 1; omega)
      rwa [arc_v P (Nat.le_refl m), arc_v0] at this
  · rintro ⟨h1, h2⟩ k hk
    have hk : k < m + 1 := hk
    rcases (show k < m ∨ k = m by omega) with g | g
    · rw [arc_v P (by omega), arc_v P (by omega)]; exact h1 k g
    · subst g; rw [arc_v P (Nat.le_refl k), arc_v0]; exact h2
theorem B_v {P : Poly} {m j : Nat} (hm : m ≤ P.n) (hj : j ≤ P.n - m) : (partB P m).v j = P.v (m + j) := arc_v (P.rot m) hj
theorem B_walls {P : Poly} {m : Nat} (hm : m < P.n) {Q : Pt → Pt → Prop} : (∀ k, k < (partB P m).n → Q ((partB P m).v k) ((partB P m).v (k + 1))) ↔ (∀ k, m ≤ k → k < P.n → Q (P.v k) (P.v (k + 1))) ∧ Q (P.v 0) (P.v m) := by
  have h := A_walls (P := P.rot m) (m := P.n - m) (Q := Q)
  have e1 : (P.rot m).v (P.n - m) = P.v 0 := by show P.v (m + (P.n - m)) = _; rw [show m + (P.n - m) = P.n by omega, P.vn]
  have e0 : (P.rot m).v 0 = P.v m := by show P.v (m + 0) = _; rw [Nat.add_zero]
  rw [e1, e0] at h
  rw [h]
  refine and_congr ⟨fun g k h1 h2 => ?_, fun g k hk => ?_⟩ Iff.rfl
  · have := g (k - m) (by omega)
    rwa [show (P.rot m).v (k - m) = P.v k by show P.v (m + (k - m)) = _; rw [show m + (k - m) = k by omega], show (P.rot m).v (k - m + 1) = P.v (k + 1) by show P.v (m + (k - m + 1)) = _; rw [show m + (k - m + 1) = k + 1 by omega]] at this
  · exact g (m + k) (by omega) (by omega)
theorem P_walls {P : Poly} {m : Nat} (hm : m < P.n) {Q : Pt → Pt → Prop} (hA : ∀ k, k < (P.arc m).n → Q ((P.arc m).v k) ((P.arc m).v (k + 1))) (hB : ∀ k, k < (partB P m).n → Q ((partB P m).v k) ((partB P m).v (k + 1))) : ∀ k, k < P.n → Q (P.v k) (P.v (k + 1)) := fun k hk => by
  rcases (show k < m ∨ m ≤ k by omega) with g | g
  · exact (A_walls.1 hA).1 k g
  · exact ((B_walls hm).1 hB).1 k g hk
theorem cut_sum (h : Aff) (P : Poly) (K : Int) {m : Nat} (hm : m ≤ P.n) (x : Pt) : wnd h (P.sc K).way x = wnd h ((P.arc m).sc K).way x + wnd h ((partB P m).sc K).way x := wnd_cut h (P.sc K) hm x
def OffP (P : Poly) (K : Int) (m : Pt) : Prop := ∀ k, k < P.n → Off m (smul K (P.v k)) (smul K (P.v (k + 1)))
def Inn (P : Poly) (K : Int) (m : Pt) : Prop := OffP P K m ∧ ∃ h, NC h ∧ wnd h (P.sc K).way m = 1
theorem Outp.off {P : Poly} {K : Int} {m : Pt} (h : Outp P K m) : OffP P K m := h.1
theorem Outp.w {P : Poly} {K : Int} {m : Pt} (h : Outp P K m) {g : Aff} (hg : NC g) : wnd g (P.sc K).way m = 0 := by
  obtain ⟨ho, f, hf, e⟩ := h
  rw [← e]; exact wnd_free hg hf ho
theorem Inn.w {P : Poly} {K : Int} {m : Pt} (h : Inn P K m) {g : Aff} (hg : NC g) : wnd g (P.sc K).way m = 1 := by
  obtain ⟨ho, f, hf, e⟩ := h
  rw [← e]; exact wnd_free hg hf ho
def up : Aff := ⟨0, 1, 0⟩
theorem nc_up : NC up := .inr (by decide)
theorem out_or_in {P : Poly} (hP : SimpleP P) (ha : 0 < P.area) {K : Int} (hK : 0 < K) {m : Pt} (ho : OffP P K m) : Outp P K m ∨ Inn P K m := by
  rcases wnd_zero_oneK hP ha hK nc_up ho with g | g
  · exact .inl ⟨ho, up, nc_up, g⟩
  · exact .inr ⟨ho, up, nc_up, g⟩
theorem Inn.not_out {P : Poly} {K : Int} {m : Pt} (h : Inn P K m) : ¬ Outp P K m := fun o => by
  have := o.w nc_up
  rw [h.w nc_up] at this
  exact absurd this (by decide)
theorem OffP.scale {P : Poly} {K : Int} {m : Pt} (h : OffP P K m) {L : Int} (hL : 0 < L) : OffP P (L * K) (smul L m) := fun k hk => by
  rw [← smul2, ← smul2]; exact (h k hk).sc hL
theorem Inn.scale {P : Poly} {K : Int} {m : Pt} (h : Inn P K m) {L : Int} (hL : 0 < L) : Inn P (L * K) (smul L m) := by
  obtain ⟨ho, g, hg, e⟩ := h
  exact ⟨OffP.scale ho hL, g.sc L, hg, by rw [wnd_scale g P hL]; exact e⟩
theorem near {P : Poly} {K : Int} {x : Pt} (ho : OffP P K x) (d : Pt) : Late fun L => OffP P (L * K) (padd (smul L x) d) ∧ ∀ h : Aff, wnd (h.sc L) (P.sc (L * K)).way (padd (smul L x) d) = wnd h (P.sc K).way x := by
  have : Late fun L => ∀ k, k < P.n → Part (smul L (smul K (P.v k))) (smul L (smul K (P.v (k + 1)))) (padd (smul L x) d) (padd (smul L x) (0, 0)) := Late.all fun k hk => (ho k hk).near d (0, 0)
  refine this.imp fun L hL g => ?_
  have e0 : padd (smul L x) (0, 0) = smul L x := by unfold padd; simp
  rw [e0] at g
  refine ⟨fun k hk => ?_, fun h => ?_⟩
  · have := (g k hk).off1
    rwa [smul2, smul2] at this
  · rw [← wnd_scale h P hL]
    refine wnd_step (h.sc L) (P.sc (L * K)).way fun k hk => ?_
    have := g k hk
    rw [smul2, smul2] at this
    exact this
theorem wall_sides {Q : Poly} (hQ : SimpleP Q) {h : Aff} (hg : Gen h Q) {l : Int} (hl : LeftIs h Q.way l) {k : Nat} (hk : k < Q.n) {s t K : Int} (hs : 0 < s) (ht : 0 < t) (e : s + t = K) {x : Pt} (hx : x = padd (smul s (Q.v k)) (smul t (Q.v (k + 1)))) {d : Pt} :
    Late fun L => (0 < turnZ (Q.v k) (Q.v (k + 1)) (padd (Q.v k) d) → wnd (h.sc (L * K)) (Q.sc (L * K)).way (padd (smul L x) d) = l ∧ OffP Q (L * K) (padd (smul L x) d)) ∧
      (turnZ (Q.v k) (Q.v (k + 1)) (padd (Q.v k) d) < 0 → wnd (h.sc (L * K)) (Q.sc (L * K)).way (padd (smul L x) d) = l - 1 ∧ OffP Q (L * K) (padd (smul L x) d)) := by
  have hn := hQ.n3
  have hK : 0 < K := by omega
  have hon : OnI x (smul K (Q.v k)) (smul K (Q.v (k + 1))) := by
    refine ⟨s, t, hs, ht, ?_, ?_⟩
    · rw [hx, ← e]; unfold padd smul; simp only; grind
    · rw [hx, ← e]; unfold padd smul; simp only; grind
  have hoff : ∀ j, j < Q.n → j ≠ k → Off x (smul K (Q.v j)) (smul K (Q.v (j + 1))) := fun j hj hjk => by
    have := (hQ.simple.sc hK).inn (k := k) hk hon hon (j := j) hj hjk
    exact this.off1
  have : Late fun L => ∀ j, j < Q.n → j ≠ k → Part (smul L (smul K (Q.v j))) (smul L (smul K (Q.v (j + 1)))) (padd (smul L x) d) (padd (smul L x) (0, 0)) := Late.all fun j hj => by
    by_cases hjk : j = k
    · exact Late.of fun _ _ h => absurd hjk h
    · exact ((hoff j hj hjk).near d (0, 0)).imp fun _ _ g _ => g
  refine this.imp fun L hL g => ?_
  have e0 : padd (smul L x) (0, 0) = smul L x := by unfold padd; simp
  rw [e0] at g
  have hLK : 0 < L * K := pp hL hK
  have g' : ∀ j, j < Q.n → j ≠ k → Part (smul (L * K) (Q.v j)) (smul (L * K) (Q.v (j + 1))) (padd (smul L x) d) (smul L x) := fun j hj hjk => by
    have := g j hj hjk
    rwa [smul2, smul2] at this
  have honL : OnI (smul L x) (smul (L * K) (Q.v k)) (smul (L * K) (Q.v (k + 1))) := by
    have := smul_on hL hon
    rwa [smul2, smul2] at this
  have hlam := hl.2.1 (L * K) k (smul L x) hLK hk honL
  have hsl : Sloped (h.sc (L * K)) (Q.way.sc (L * K)) := fun j hj => by
    have := hg.sloped (by omega) j hj
    show (h.sc (L * K)).ev (smul (L * K) (Q.v j)) ≠ (h.sc (L * K)).ev (smul (L * K) (Q.v (j + 1)))
    rw [ev_sc0, ev_sc0]
    exact fun e => this (Int.eq_of_mul_eq_mul_left (by omega) e)
  have hturn : turnZ (smul (L * K) (Q.v k)) (smul (L * K) (Q.v (k + 1))) (padd (smul L x) d) = (L * K) * turnZ (Q.v k) (Q.v (k + 1)) (padd (Q.v k) d) := by
    rw [hx, ← e]; unfold turnZ padd smul; grind
  have off : turnZ (Q.v k) (Q.v (k + 1)) (padd (Q.v k) d) ≠ 0 → OffP Q (L * K) (padd (smul L x) d) := fun hne j hj => by
    by_cases hjk : j = k
    · subst hjk
      exact off_turn (by rw [hturn]; exact fun e => by rcases Int.mul_eq_zero.1 e with q | q <;> omega)
    · exact (g' j hj hjk).off1
  refine ⟨fun hp => ⟨?_, off (by omega)⟩, fun hp => ⟨?_, off (by omega)⟩⟩
  · have := wnd_left hsl (k := k) hk honL (fun j hj hjk => g' j hj hjk) (by show 0 < turnZ (smul (L * K) (Q.v k)) (smul (L * K) (Q.v (k + 1))) _; rw [hturn]; exact pp hLK hp)
    rw [hlam] at this; exact this
  · have := wnd_right hsl (k := k) hk honL (fun j hj hjk => g' j hj hjk) (by show turnZ (smul (L * K) (Q.v k)) (smul (L * K) (Q.v (k + 1))) _ < 0; rw [hturn]; exact pm hLK hp)
    rw [hlam] at this; exact this
theorem chord_off {P : Poly} {m : Nat} (c : Chord P m) {s t K : Int} (hs : 0 < s) (ht : 0 < t) (e : s + t = K) : OffP P K (padd (smul s (P.v 0)) (smul t (P.v m))) := by
  have hm2 := c.m2
  have hmn := c.mn
  have hK : 0 < K := by omega
  have hon : OnI (padd (smul s (P.v 0)) (smul t (P.v m))) (smul K (P.v 0)) (smul K (P.v m)) := by
    refine ⟨s, t, hs, ht, ?_, ?_⟩
    · rw [← e]; unfold padd smul; simp only; grind
    · rw [← e]; unfold padd smul; simp only; grind
  have bend : ∀ {a b z : Pt}, Bends a b z → OnI (padd (smul s (P.v 0)) (smul t (P.v m))) (smul K a) (smul K b) → Off (padd (smul s (P.v 0)) (smul t (P.v m))) (smul K b) (smul K z) := fun hb ho => ((hb.sc hK).part ho ho).off1
  intro k hk
  rcases (show k = 0 ∨ k + 1 = m ∨ k = m ∨ k + 1 = P.n ∨ (0 < k ∧ k + 1 < P.n ∧ k ≠ m ∧ k + 1 ≠ m) by omega) with g | g | g | g | ⟨g1, g2, g3, g4⟩
  · subst g; exact bend c.b0.1.1 hon.swap
  · have := bend c.bm.1.1 hon
    rw [← g] at this ⊢
    rw [show k + 1 - 1 = k by omega] at this
    exact this.swap
  · subst g; exact bend c.bm.2.1 hon
  · have := bend c.b0.2.1 hon.swap
    rw [show P.n - 1 = k by omega] at this
    rw [g, P.vn]; exact this.swap
  · exact (((c.apart k g1 g2 g3 g4).sc hK).inn hon hon).off1
theorem sc_sc (h : Aff) (L K : Int) : (h.sc K).sc L = h.sc (L * K) := by unfold Aff.sc; rw [Int.mul_assoc]
theorem chord_sum {P : Poly} (hP : SimpleP P) {m : Nat} (c : Chord P m) {h : Aff} (hg : Gen h P) {l1 l2 : Int} (hA : LeftIs h (P.arc m).way l1) (hB : LeftIs h (partB P m).way l2) {s t K : Int} (hs : 0 < s) (ht : 0 < t) (e : s + t = K) :
    wnd (h.sc K) (P.sc K).way (padd (smul s (P.v 0)) (smul t (P.v m))) = l1 + l2 - 1 := by
  have hm2 := c.m2
  have hmn := c.mn
  have hSA := hP.arc c
  have hSB : SimpleP (partB P m) := (hP.rot m).arc c.rot
  have hgA : Gen h (P.arc m) := hg.arc (by omega)
  have hgB : Gen h (partB P m) := (hg.rot m).arc (by show P.n - m < P.n; omega)
  have hab : P.v 0 ≠ P.v m := hP.inj (by omega) (by omega) (by omega)
  have hN := sq_pos hab
  have nB : P.n - m < (partB P m).n := by show P.n - m < P.n - m + 1; omega
  have bB0 : (partB P m).v (P.n - m) = P.v 0 := by rw [B_v (by omega) (by omega), show m + (P.n - m) = P.n by omega, P.vn]
  have bB1 : (partB P m).v (P.n - m + 1) = P.v m := by show (P.rot m).v ((P.n - m + 1) % (P.n - m + 1)) = _; rw [Nat.mod_self]; show P.v (m + 0) = _; rw [Nat.add_zero]
  have lA := wall_sides hSA hgA hA (k := m) (by show m < m + 1; omega) ht hs (show t + s = K by omega) (x := padd (smul s (P.v 0)) (smul t (P.v m))) (by rw [arc_v P (Nat.le_refl m), arc_v0]; unfold padd smul; refine Prod.ext ?_ ?_ <;> simp only <;> omega) (d := rotP (psub (P.v 0) (P.v m)))
  have lB := wall_sides hSB hgB hB (k := P.n - m) nB hs ht e (x := padd (smul s (P.v 0)) (smul t (P.v m))) (by rw [bB0, bB1]) (d := rotP (psub (P.v 0) (P.v m)))
  obtain ⟨L, hL, ⟨gA, gB⟩, gP⟩ := ((lA.and lB).and (near (chord_off c hs ht e) (rotP (psub (P.v 0) (P.v m))))).get
  rw [arc_v P (Nat.le_refl m), arc_v0] at gA
  rw [bB0, bB1] at gB
  have tA : 0 < turnZ (P.v m) (P.v 0) (padd (P.v m) (rotP (psub (P.v 0) (P.v m)))) := by
    have : turnZ (P.v m) (P.v 0) (padd (P.v m) (rotP (psub (P.v 0) (P.v m)))) = ((P.v m).1 - (P.v 0).1) * ((P.v m).1 - (P.v 0).1) + ((P.v m).2 - (P.v 0).2) * ((P.v m).2 - (P.v 0).2) := by unfold turnZ padd rotP psub; grind
    omega
  have tB : turnZ (P.v 0) (P.v m) (padd (P.v 0) (rotP (psub (P.v 0) (P.v m)))) < 0 := by
    have : turnZ (P.v 0) (P.v m) (padd (P.v 0) (rotP (psub (P.v 0) (P.v m)))) = -(((P.v m).1 - (P.v 0).1) * ((P.v m).1 - (P.v 0).1) + ((P.v m).2 - (P.v 0).2) * ((P.v m).2 - (P.v 0).2)) := by unfold turnZ padd rotP psub; grind
    omega
  have wA := (gA.1 tA).1
  have wB := (gB.2 tB).1
  have wP := gP.2 (h.sc K)
  rw [sc_sc, cut_sum _ P _ (show m ≤ P.n by omega), wA, wB] at wP
  omega
structure Cut (P : Poly) (m : Nat) : Prop where
  c : Chord P m
  a : 0 < (P.arc m).area
  b : 0 < (partB P m).area
theorem left_of_area {P : Poly} (hP : SimpleP P) {h : Aff} (hg : Gen h P) (ha : 0 < P.area) : LeftIs h P.way 1 := ((pos_iff hP hg).2 ha).left hP hg
theorem left_ex {P : Poly} (hP : SimpleP P) {h : Aff} (hg : Gen h P) : ∃ l, LeftIs h P.way l ∧ (l = 1 → 0 < P.area) := by
  obtain ⟨s, hs⟩ := hg.low hP.n3
  rcases side_or hP hg hs with ⟨g, q⟩ | ⟨g, q⟩
  · exact ⟨1, g, fun _ => area_pos hP hg ⟨s, hs, q⟩⟩
  · exact ⟨0, g, fun e => by omega⟩
theorem cut_of {P : Poly} (hP : SimpleP P) {m : Nat} (c : Chord P m) {s t K : Int} (hs : 0 < s) (ht : 0 < t) (e : s + t = K) (hin : Inn P K (padd (smul s (P.v 0)) (smul t (P.v m)))) : Cut P m := by
  have hm2 := c.m2
  have hmn := c.mn
  have hSA := hP.arc c
  have hSB : SimpleP (partB P m) := (hP.rot m).arc c.rot
  obtain ⟨M, -, hg⟩ := (hM_gen hP).get
  obtain ⟨l1, hA, a1⟩ := left_ex hSA (hg.arc (by omega))
  obtain ⟨l2, hB, a2⟩ := left_ex hSB (h := hM M) ((hg.rot m).arc (by show P.n - m < P.n; omega))
  have := chord_sum hP c hg hA hB hs ht e
  rw [hin.w (g := (hM M).sc K) (.inl (show (1 : Int) ≠ 0 by decide))] at this
  have b1 := hA.1
  have b2 := hB.1
  exact ⟨c, a1 (by omega), a2 (by omega)⟩
theorem Cut.simA {P : Poly} (hP : SimpleP P) {m : Nat} (c : Cut P m) : SimpleP (P.arc m) := hP.arc c.c
theorem Cut.simB {P : Poly} (hP : SimpleP P) {m : Nat} (c : Cut P m) : SimpleP (partB P m) := (hP.rot m).arc c.c.rot
theorem Cut.area {P : Poly} {m : Nat} (c : Cut P m) : 0 < P.area := by
  have := area_cut P (m := m) (by have := c.c.mn; omega)
  have h1 := c.a
  have h2 : 0 < ((P.rot m).arc (P.n - m)).area := c.b
  omega
theorem Cut.inn {P : Poly} (hP : SimpleP P) {m : Nat} (c : Cut P m) {s t K : Int} (hs : 0 < s) (ht : 0 < t) (e : s + t = K) : Inn P K (padd (smul s (P.v 0)) (smul t (P.v m))) := by
  have hm2 := c.c.m2
  have hmn := c.c.mn
  obtain ⟨M, -, hg⟩ := (hM_gen hP).get
  have := chord_sum hP c.c hg (left_of_area (c.simA hP) (hg.arc (by omega)) c.a) (left_of_area (c.simB hP) ((hg.rot m).arc (by show P.n - m < P.n; omega)) c.b) hs ht e
  exact ⟨chord_off c.c hs ht e, (hM M).sc K, .inl (show (1 : Int) ≠ 0 by decide), this⟩
theorem Cut.out {P : Poly} {m : Nat} (c : Cut P m) {K : Int} {x : Pt} (hA : Outp (P.arc m) K x) (hB : Outp (partB P m) K x) : Outp P K x := by
  have hmn := c.c.mn
  refine ⟨P_walls (m := m) (by omega) (Q := fun a b => Off x (smul K a) (smul K b)) hA.1 hB.1, up, nc_up, ?_⟩
  rw [cut_sum _ P K (show m ≤ P.n by omega), hA.w nc_up, hB.w nc_up]; rfl
theorem Cut.out_both {P : Poly} (hP : SimpleP P) {m : Nat} (c : Cut P m) {K : Int} (hK : 0 < K) {x : Pt} (h : Outp P K x) : Outp (P.arc m) K x ∧ Outp (partB P m) K x := by
  have hm2 := c.c.m2
  have hmn := c.c.mn
  have hab : P.v 0 ≠ P.v m := hP.inj (by omega) (by omega) (by omega)
  have habK : smul K (P.v 0) ≠ smul K (P.v m) := fun e => hab (Prod.ext (Int.eq_of_mul_eq_mul_left (by omega) (congrArg Prod.fst e)) (Int.eq_of_mul_eq_mul_left (by omega) (congrArg Prod.snd e)))
  have hoff : Off x (smul K (P.v 0)) (smul K (P.v m)) := by
    rcases off_or_on x habK with g | g
    · exact g
    · exfalso
      obtain ⟨s, t, hs, ht, h0, hf⟩ := g
      have x1 := hf ⟨1, 0, 0⟩
      have x2 := hf ⟨0, 1, 0⟩
      simp only [Aff.ev, Int.one_mul, Int.zero_mul, Int.zero_add, Int.add_zero] at x1 x2
      have ends : ∀ j, j < P.n → x ≠ smul K (P.v j) := fun j hj e => by
        have := h.1 j hj
        rw [e] at this
        exact (Off.ne this).1 rfl
      by_cases s0 : s = 0
      · refine ends m (by omega) (Prod.ext ?_ ?_)
        · rw [s0] at x1; exact Int.eq_of_mul_eq_mul_left (show t ≠ 0 by omega) (by simpa using x1)
        · rw [s0] at x2; exact Int.eq_of_mul_eq_mul_left (show t ≠ 0 by omega) (by simpa using x2)
      by_cases t0 : t = 0
      · refine ends 0 (by omega) (Prod.ext ?_ ?_)
        · rw [t0] at x1; exact Int.eq_of_mul_eq_mul_left (show s ≠ 0 by omega) (by simpa using x1)
        · rw [t0] at x2; exact Int.eq_of_mul_eq_mul_left (show s ≠ 0 by omega) (by simpa using x2)
      have hi := c.inn hP (s := s * K) (t := t * K) (K := (s + t) * K) (pp (by omega) hK) (pp (by omega) hK) (by rw [Int.add_mul])
      have ho := h.scale (L := s + t) h0
      have e : smul (s + t) x = padd (smul (s * K) (P.v 0)) (smul (t * K) (P.v m)) := by
        unfold smul padd at *
        refine Prod.ext ?_ ?_
        · show (s + t) * x.1 = s * K * (P.v 0).1 + t * K * (P.v m).1
          rw [x1]; grind
        · show (s + t) * x.2 = s * K * (P.v 0).2 + t * K * (P.v m).2
          rw [x2]; grind
      rw [e] at ho
      exact hi.not_out ho
  have oA : OffP (P.arc m) K x := A_walls (Q := fun a b => Off x (smul K a) (smul K b)) |>.2 ⟨fun k hk => h.1 k (by omega), hoff.swap⟩
  have oB : OffP (partB P m) K x := (B_walls (show m < P.n by omega) (Q := fun a b => Off x (smul K a) (smul K b))).2 ⟨fun k _ hk => h.1 k hk, hoff⟩
  have sum := cut_sum up P K (show m ≤ P.n by omega) x
  rw [h.w nc_up] at sum
  have wA := wnd_zero_oneK (c.simA hP) c.a hK nc_up oA
  have wB := wnd_zero_oneK (c.simB hP) c.b hK nc_up oB
  exact ⟨⟨oA, up, nc_up, by omega⟩, ⟨oB, up, nc_up, by omega⟩⟩
theorem corner_not_out (P : Poly) (j : Nat) (hn : 0 < P.n) : ¬ Outp P 1 (P.v j) := fun h => by
  have := h.1 (j % P.n) (Nat.mod_lt _ hn)
  rw [smul_one, smul_one, P.per_mod] at this
  exact (Off.ne this).1 rfl
theorem tri_area' {P : Poly} (hn : P.n = 3) : P.area = turnZ (P.v 0) (P.v 1) (P.v 2) := by
  unfold Poly.area; rw [hn]; simp only [sumN]
  have e := P.vn; rw [hn] at e; rw [e]
  unfold crs0 turnZ; grind
theorem tri_turns {P : Poly} (hn : P.n = 3) (j : Nat) : turnZ (P.v j) (P.v (j + 1)) (P.v (j + 2)) = turnZ (P.v 0) (P.v 1) (P.v 2) := by
  have c3 : ∀ j, P.v (j + 3) = P.v j := fun j => by rw [← hn, P.per]
  have t1 : turnZ (P.v 1) (P.v 2) (P.v 3) = turnZ (P.v 0) (P.v 1) (P.v 2) := by rw [c3 0]; unfold turnZ; grind
  have t2 : turnZ (P.v 2) (P.v 3) (P.v 4) = turnZ (P.v 0) (P.v 1) (P.v 2) := by rw [c3 0, c3 1]; unfold turnZ; grind
  have hm : ∀ i d, P.v (i + d) = P.v (i % 3 + d) := fun i d => by rw [← hn, P.per_add]
  have h0 : P.v j = P.v (j % 3) := by have := hm j 0; simpa using this
  rw [h0, hm j 1, hm j 2]
  rcases (show j % 3 = 0 ∨ j % 3 = 1 ∨ j % 3 = 2 by omega) with q | q | q <;> rw [q]
  · exact t1
  · exact t2
theorem Outp.rot {P : Poly} {K : Int} {x : Pt} (h : Outp P K x) (s : Nat) : Outp (P.rot s) K x := by
  obtain ⟨ho, g, hg, e⟩ := h
  refine ⟨fun k hk => ?_, g, hg, by rw [← e]; exact wnd_rot g (P.sc K) s x⟩
  have hn : 0 < P.n := by have hk : k < P.n := hk; omega
  have := ho ((s + k) % P.n) (Nat.mod_lt _ hn)
  rw [P.per_mod, P.per_add] at this
  exact this
theorem Outp.rot_iff {P : Poly} {K : Int} {x : Pt} (hn : 1 ≤ P.n) (s : Nat) : Outp (P.rot s) K x ↔ Outp P K x :=
  ⟨fun h => by have := h.rot (s * (P.n - 1)); rw [rot_back P s hn] at this; exact this, fun h => h.rot s⟩
theorem NoOut.rot_iff {P : Poly} {a b : Pt} (hn : 1 ≤ P.n) (s : Nat) : NoOut (P.rot s) a b ↔ NoOut P a b :=
  ⟨fun h s' t' hs ht hst o => h s' t' hs ht hst (o.rot s), fun h s' t' hs ht hst o => h s' t' hs ht hst ((Outp.rot_iff hn s).1 o)⟩
end Go.Proofs.Ytnepfcnlngpchaa.Geo
namespace Go.Proofs.Ytnepfcnlngpchaa
open Go.RowKit Go.Proofs.Ytnepfcnlngpchaa.Nm
set_option maxRecDepth 10000
def vI (n : Int) : RV := .val (.one (.d (.int .i64 n)))
def vB (b : Bool) : RV := .val (.one (.d (.bool b)))
def btwC : Con := mkCon [.int, .int, .int] (fun _ => True) fun x => vB (btw x.1 x.2.1 x.2.2.1)
theorem _root_.Go.Proofs.Ytnepfcnlngpchaa.vS1 : type_of% (And.intro @cond_true.{1} (And.intro @cond_false.{1} (And.intro @decide_eq_true_eq (And.intro @decide_eq_false_iff_not (And.intro @Bool.not_eq_true' (And.intro @Bool.not_eq_false' (And.intro @Int.toNat_natCast @prodEta))))))) := ⟨cond_true, cond_false, decide_eq_true_eq, decide_eq_false_iff_not, Bool.not_eq_true', Bool.not_eq_false', Int.toNat_natCast, prodEta⟩
theorem between_ok : Good1 Try.prog n_impl_between btwC := by
  refine good_of (tys := tyL) (env := []) [] [] mixed tys trivial Try.func79 rfl (by kernel_rfl) (by decide) (by kernel_rfl) ?_
  rintro ⟨x, lo, hi, ⟨⟩⟩ _
  (repeat' (first | (with_reducible first | exact True.intro | refine zQ ?_ | (refine zG hG_ ?_; intro K_ hK_) | (refine zR ?_; intro K_ hK_) | (refine hK_ _ _ ?_; try clear hK_ K_) | refine sq_n ?_ | refine sq_r ?_ | refine sq_e ?_ | refine bq_n ?_ | refine bq_r ?_ | refine bq_q ?_ | refine zB ?_ | refine zX ?_ | refine zT ?_ | refine zK ?_ | refine gq_n ?_ | refine gq_r ?_ | refine gq_e ?_ | refine lq_n ?_ | refine lq_r ?_ | refine lq_e ?_ | refine bq_e (by decide) ?_) | ((with_reducible refine zC (b := ?b_) ?hb_ ?_ ?_); case hb_ => rfl) | ((conv => whnf); first | (with_reducible refine hK_ _ _ ?_; try clear hK_ K_) | (with_reducible refine fun (g_ : Sl) (o_ : Ow) => ?_) | (with_reducible first | exact True.intro | refine And.intro trivial ?_ | refine And.intro ?_ ?_) | exact Nat.le_of_ble_eq_true rfl | exact Or.inl rfl | (intro h_; cases h_) | (intro h_; (try simp only [vS1] at h_)) | rfl))) <;> (try (conv => whnf)) <;> (try first | change (_ : Int) ≤ _ | change (_ : Nat) ≤ _) <;> simp_all [btw] <;> omega
theorem l01In_ok : Good1 Try.prog n_spec_l01In btwC := by
  refine good_of (tys := tyL) (env := []) [] [] mixed tys trivial Try.func128 rfl (by kernel_rfl) (by decide) (by kernel_rfl) ?_
  rintro ⟨x, lo, hi, ⟨⟩⟩ _
  (repeat' (first | (with_reducible first | exact True.intro | refine zQ ?_ | (refine zG hG_ ?_; intro K_ hK_) | (refine zR ?_; intro K_ hK_) | (refine hK_ _ _ ?_; try clear hK_ K_) | refine sq_n ?_ | refine sq_r ?_ | refine sq_e ?_ | refine bq_n ?_ | refine bq_r ?_ | refine bq_q ?_ | refine zB ?_ | refine zX ?_ | refine zT ?_ | refine zK ?_ | refine gq_n ?_ | refine gq_r ?_ | refine gq_e ?_ | refine lq_n ?_ | refine lq_r ?_ | refine lq_e ?_ | refine bq_e (by decide) ?_) | ((with_reducible refine zC (b := ?b_) ?hb_ ?_ ?_); case hb_ => rfl) | ((conv => whnf); first | (with_reducible refine hK_ _ _ ?_; try clear hK_ K_) | (with_reducible refine fun (g_ : Sl) (o_ : Ow) => ?_) | (with_reducible first | exact True.intro | refine And.intro trivial ?_ | refine And.intro ?_ ?_) | exact Nat.le_of_ble_eq_true rfl | exact Or.inl rfl | (intro h_; cases h_) | (intro h_; (try simp only [vS1] at h_)) | rfl))) <;> (try (conv => whnf)) <;> (try first | change (_ : Int) ≤ _ | change (_ : Nat) ≤ _) <;> simp_all [btw] <;> omega
def ptOkC : Con := mkCon [.pt] (fun _ => True) fun x => vB (ptOk x.1)
theorem iPointOk_ok : Good1 Try.prog n_impl_PointOk ptOkC := by
  refine good_of (tys := tyL) (env := [(n_impl_between, btwC)]) [] [] mixed tys ⟨between_ok, trivial⟩ Try.func86 rfl (by kernel_rfl) (by decide) (by kernel_rfl) ?_
  rintro ⟨⟨x, y⟩, ⟨⟩⟩ _
  (repeat' (first | (with_reducible first | exact True.intro | refine zQ ?_ | (refine zG hG_ ?_; intro K_ hK_) | (refine zR ?_; intro K_ hK_) | (refine hK_ _ _ ?_; try clear hK_ K_) | refine sq_n ?_ | refine sq_r ?_ | refine sq_e ?_ | refine bq_n ?_ | refine bq_r ?_ | refine bq_q ?_ | refine zB ?_ | refine zX ?_ | refine zT ?_ | refine zK ?_ | refine gq_n ?_ | refine gq_r ?_ | refine gq_e ?_ | refine lq_n ?_ | refine lq_r ?_ | refine lq_e ?_ | refine bq_e (by decide) ?_) | ((with_reducible refine zC (b := ?b_) ?hb_ ?_ ?_); case hb_ => rfl) | ((conv => whnf); first | (with_reducible refine hK_ _ _ ?_; try clear hK_ K_) | (with_reducible refine fun (g_ : Sl) (o_ : Ow) => ?_) | (with_reducible first | exact True.intro | refine And.intro trivial ?_ | refine And.intro ?_ ?_) | exact Nat.le_of_ble_eq_true rfl | exact Or.inl rfl | (intro h_; cases h_) | (intro h_; (try simp only [vS1] at h_)) | rfl))) <;> (try (conv => whnf)) <;> (try first | change (_ : Int) ≤ _ | change (_ : Nat) ≤ _) <;> simp_all [ptOk]
theorem sPointOk_ok : Good1 Try.prog n_spec_PointOk ptOkC := by
  refine good_of (tys := tyL) (env := [(n_spec_l01In, btwC)]) [] [] mixed tys ⟨l01In_ok, trivial⟩ Try.func129 rfl (by kernel_rfl) (by decide) (by kernel_rfl) ?_
  rintro ⟨⟨x, y⟩, ⟨⟩⟩ _
  (repeat' (first | (with_reducible first | exact True.intro | refine zQ ?_ | (refine zG hG_ ?_; intro K_ hK_) | (refine zR ?_; intro K_ hK_) | (refine hK_ _ _ ?_; try clear hK_ K_) | refine sq_n ?_ | refine sq_r ?_ | refine sq_e ?_ | refine bq_n ?_ | refine bq_r ?_ | refine bq_q ?_ | refine zB ?_ | refine zX ?_ | refine zT ?_ | refine zK ?_ | refine gq_n ?_ | refine gq_r ?_ | refine gq_e ?_ | refine lq_n ?_ | refine lq_r ?_ | refine lq_e ?_ | refine bq_e (by decide) ?_) | ((with_reducible refine zC (b := ?b_) ?hb_ ?_ ?_); case hb_ => rfl) | ((conv => whnf); first | (with_reducible refine hK_ _ _ ?_; try clear hK_ K_) | (with_reducible refine fun (g_ : Sl) (o_ : Ow) => ?_) | (with_reducible first | exact True.intro | refine And.intro trivial ?_ | refine And.intro ?_ ?_) | exact Nat.le_of_ble_eq_true rfl | exact Or.inl rfl | (intro h_; cases h_) | (intro h_; (try simp only [vS1] at h_)) | rfl))) <;> (try (conv => whnf)) <;> (try first | change (_ : Int) ≤ _ | change (_ : Nat) ≤ _) <;> simp_all [ptOk]
def turnC : Con := mkCon [.pt, .pt, .pt] (fun _ => True) fun x => vI (turn x.1 x.2.1 x.2.2.1)
theorem turn_ok : Good1 Try.prog n_impl_turn turnC := by
  refine good_of (tys := tyL) (env := []) [] [] mixed tys trivial Try.func72 rfl (by kernel_rfl) (by decide) (by kernel_rfl) ?_
  rintro ⟨⟨a, b⟩, ⟨c, d⟩, ⟨e, f⟩, ⟨⟩⟩ _
  (repeat' (first | (with_reducible first | exact True.intro | refine zQ ?_ | (refine zG hG_ ?_; intro K_ hK_) | (refine zR ?_; intro K_ hK_) | (refine hK_ _ _ ?_; try clear hK_ K_) | refine sq_n ?_ | refine sq_r ?_ | refine sq_e ?_ | refine bq_n ?_ | refine bq_r ?_ | refine bq_q ?_ | refine zB ?_ | refine zX ?_ | refine zT ?_ | refine zK ?_ | refine gq_n ?_ | refine gq_r ?_ | refine gq_e ?_ | refine lq_n ?_ | refine lq_r ?_ | refine lq_e ?_ | refine bq_e (by decide) ?_) | ((with_reducible refine zC (b := ?b_) ?hb_ ?_ ?_); case hb_ => rfl) | ((conv => whnf); first | (with_reducible refine hK_ _ _ ?_; try clear hK_ K_) | (with_reducible refine fun (g_ : Sl) (o_ : Ow) => ?_) | (with_reducible first | exact True.intro | refine And.intro trivial ?_ | refine And.intro ?_ ?_) | exact Nat.le_of_ble_eq_true rfl | exact Or.inl rfl | (intro h_; cases h_) | (intro h_; (try simp only [vS1] at h_)) | rfl))) <;> (try (conv => whnf)) <;> (try first | change (_ : Int) ≤ _ | change (_ : Nat) ≤ _)
  simp only [turn]; simp only [W_l1, W_l2, W_l3, W_l4, W_m1, W_m2, W_w]
theorem l02Turn_ok : Good1 Try.prog n_spec_l02Turn turnC := by
  refine good_of (tys := tyL) (env := []) [] [] mixed tys trivial Try.func130 rfl (by kernel_rfl) (by decide) (by kernel_rfl) ?_
  rintro ⟨⟨a, b⟩, ⟨c, d⟩, ⟨e, f⟩, ⟨⟩⟩ _
  (repeat' (first | (with_reducible first | exact True.intro | refine zQ ?_ | (refine zG hG_ ?_; intro K_ hK_) | (refine zR ?_; intro K_ hK_) | (refine hK_ _ _ ?_; try clear hK_ K_) | refine sq_n ?_ | refine sq_r ?_ | refine sq_e ?_ | refine bq_n ?_ | refine bq_r ?_ | refine bq_q ?_ | refine zB ?_ | refine zX ?_ | refine zT ?_ | refine zK ?_ | refine gq_n ?_ | refine gq_r ?_ | refine gq_e ?_ | refine lq_n ?_ | refine lq_r ?_ | refine lq_e ?_ | refine bq_e (by decide) ?_) | ((with_reducible refine zC (b := ?b_) ?hb_ ?_ ?_); case hb_ => rfl) | ((conv => whnf); first | (with_reducible refine hK_ _ _ ?_; try clear hK_ K_) | (with_reducible refine fun (g_ : Sl) (o_ : Ow) => ?_) | (with_reducible first | exact True.intro | refine And.intro trivial ?_ | refine And.intro ?_ ?_) | exact Nat.le_of_ble_eq_true rfl | exact Or.inl rfl | (intro h_; cases h_) | (intro h_; (try simp only [vS1] at h_)) | rfl))) <;> (try (conv => whnf)) <;> (try first | change (_ : Int) ≤ _ | change (_ : Nat) ≤ _)
  simp only [turn]; simp only [W_l1, W_l2, W_l3, W_l4, W_m1, W_m2, W_w]
def onC : Con := mkCon [.pt, .pt, .pt] (fun _ => True) fun x => vB (onS x.1 x.2.1 x.2.2.1)
theorem on_ok : Good1 Try.prog n_impl_on onC := by
  refine good_of (tys := tyL) (env := [(n_impl_turn, turnC), (n_impl_between, btwC)]) [] [] mixed tys ⟨turn_ok, between_ok, trivial⟩ Try.func119 rfl (by kernel_rfl) (by decide) (by kernel_rfl) ?_
  rintro ⟨⟨a, b⟩, ⟨c, d⟩, ⟨e, f⟩, ⟨⟩⟩ _
  (repeat' (first | (with_reducible first | exact True.intro | refine zQ ?_ | (refine zG hG_ ?_; intro K_ hK_) | (refine zR ?_; intro K_ hK_) | (refine hK_ _ _ ?_; try clear hK_ K_) | refine sq_n ?_ | refine sq_r ?_ | refine sq_e ?_ | refine bq_n ?_ | refine bq_r ?_ | refine bq_q ?_ | refine zB ?_ | refine zX ?_ | refine zT ?_ | refine zK ?_ | refine gq_n ?_ | refine gq_r ?_ | refine gq_e ?_ | refine lq_n ?_ | refine lq_r ?_ | refine lq_e ?_ | refine bq_e (by decide) ?_) | ((with_reducible refine zC (b := ?b_) ?hb_ ?_ ?_); case hb_ => rfl) | ((conv => whnf); first | (with_reducible refine hK_ _ _ ?_; try clear hK_ K_) | (with_reducible refine fun (g_ : Sl) (o_ : Ow) => ?_) | (with_reducible first | exact True.intro | refine And.intro trivial ?_ | refine And.intro ?_ ?_) | exact Nat.le_of_ble_eq_true rfl | exact Or.inl rfl | (intro h_; cases h_) | (intro h_; (try simp only [vS1] at h_)) | rfl))) <;> (try (conv => whnf)) <;> (try first | change (_ : Int) ≤ _ | change (_ : Nat) ≤ _) <;> simp_all [onS]
theorem l02Between_ok : Good1 Try.prog n_spec_l02Between onC := by
  refine good_of (tys := tyL) (env := [(n_spec_l02Turn, turnC), (n_spec_l01In, btwC)]) [] [] mixed tys ⟨l02Turn_ok, l01In_ok, trivial⟩ Try.func161 rfl (by kernel_rfl) (by decide) (by kernel_rfl) ?_
  rintro ⟨⟨a, b⟩, ⟨c, d⟩, ⟨e, f⟩, ⟨⟩⟩ _
  (repeat' (first | (with_reducible first | exact True.intro | refine zQ ?_ | (refine zG hG_ ?_; intro K_ hK_) | (refine zR ?_; intro K_ hK_) | (refine hK_ _ _ ?_; try clear hK_ K_) | refine sq_n ?_ | refine sq_r ?_ | refine sq_e ?_ | refine bq_n ?_ | refine bq_r ?_ | refine bq_q ?_ | refine zB ?_ | refine zX ?_ | refine zT ?_ | refine zK ?_ | refine gq_n ?_ | refine gq_r ?_ | refine gq_e ?_ | refine lq_n ?_ | refine lq_r ?_ | refine lq_e ?_ | refine bq_e (by decide) ?_) | ((with_reducible refine zC (b := ?b_) ?hb_ ?_ ?_); case hb_ => rfl) | ((conv => whnf); first | (with_reducible refine hK_ _ _ ?_; try clear hK_ K_) | (with_reducible refine fun (g_ : Sl) (o_ : Ow) => ?_) | (with_reducible first | exact True.intro | refine And.intro trivial ?_ | refine And.intro ?_ ?_) | exact Nat.le_of_ble_eq_true rfl | exact Or.inl rfl | (intro h_; cases h_) | (intro h_; (try simp only [vS1] at h_)) | rfl))) <;> (try (conv => whnf)) <;> (try first | change (_ : Int) ≤ _ | change (_ : Nat) ≤ _) <;> simp_all [onS]
def pointsOkC : Con := mkCon [.sl (.b .pt)] (fun x => x.1.length ≤ 1073741824) fun x => vB (x.1.all ptOk)
theorem pointsOk_ok : Good1 Try.prog n_impl_pointsOk pointsOkC := by
  refine good_of (tys := tyL) (env := [(n_impl_PointOk, ptOkC)]) [] [] mixed tys ⟨iPointOk_ok, trivial⟩ Try.func73 rfl (by kernel_rfl) (by decide) (by kernel_rfl) ?_
  rintro ⟨xs, ⟨⟩⟩ hlen
  change xs.length ≤ _ at hlen
  (repeat' (first | (with_reducible first | exact True.intro | refine zQ ?_ | (refine zG hG_ ?_; intro K_ hK_) | (refine zR ?_; intro K_ hK_) | (refine hK_ _ _ ?_; try clear hK_ K_) | refine sq_n ?_ | refine sq_r ?_ | refine sq_e ?_ | refine bq_n ?_ | refine bq_r ?_ | refine bq_q ?_ | refine zB ?_ | refine zX ?_ | refine zT ?_ | refine zK ?_ | refine gq_n ?_ | refine gq_r ?_ | refine gq_e ?_ | refine lq_n ?_ | refine lq_r ?_ | refine lq_e ?_ | refine bq_e (by decide) ?_) | ((with_reducible refine zC (b := ?b_) ?hb_ ?_ ?_); case hb_ => rfl) | ((conv => whnf); first | (with_reducible refine hK_ _ _ ?_; try clear hK_ K_) | (with_reducible refine fun (g_ : Sl) (o_ : Ow) => ?_) | (with_reducible first | exact True.intro | refine And.intro trivial ?_ | refine And.intro ?_ ?_) | exact Nat.le_of_ble_eq_true rfl | exact Or.inl rfl | (intro h_; cases h_) | (intro h_; (try simp only [vS1] at h_)) | rfl))) <;> (try (conv => whnf)) <;> (try first | change (_ : Int) ≤ _ | change (_ : Nat) ≤ _)
  refine awp'_loop (fun k σ => k ≤ xs.length ∧ (xs.take k).all ptOk = true ∧ Has σ [(5, vPts xs), (6, vInt xs.length), (7, vInt k)]) (fun k => xs.length - k) 0 ⟨Nat.zero_le _, by simp, ?_⟩ ?_
  · (repeat' (first | (with_reducible first | exact True.intro | refine zQ ?_ | (refine zG hG_ ?_; intro K_ hK_) | (refine zR ?_; intro K_ hK_) | (refine hK_ _ _ ?_; try clear hK_ K_) | refine sq_n ?_ | refine sq_r ?_ | refine sq_e ?_ | refine bq_n ?_ | refine bq_r ?_ | refine bq_q ?_ | refine zB ?_ | refine zX ?_ | refine zT ?_ | refine zK ?_ | refine gq_n ?_ | refine gq_r ?_ | refine gq_e ?_ | refine lq_n ?_ | refine lq_r ?_ | refine lq_e ?_ | refine bq_e (by decide) ?_) | ((with_reducible refine zC (b := ?b_) ?hb_ ?_ ?_); case hb_ => rfl) | ((conv => whnf); first | (with_reducible refine hK_ _ _ ?_; try clear hK_ K_) | (with_reducible refine fun (g_ : Sl) (o_ : Ow) => ?_) | (with_reducible first | exact True.intro | refine And.intro trivial ?_ | refine And.intro ?_ ?_) | exact Nat.le_of_ble_eq_true rfl | exact Or.inl rfl | (intro h_; cases h_) | (intro h_; (try simp only [vS1] at h_)) | rfl))) <;> (try (conv => whnf)) <;> (try first | change (_ : Int) ≤ _ | change (_ : Nat) ≤ _)
  rintro k s_ w_ ⟨hk, hall, h⟩
  obtain ⟨g, rfl⟩ := has_ex h
  clear h
  (repeat' (first | (with_reducible first | exact True.intro | refine zQ ?_ | (refine zG hG_ ?_; intro K_ hK_) | (refine zR ?_; intro K_ hK_) | (refine hK_ _ _ ?_; try clear hK_ K_) | refine sq_n ?_ | refine sq_r ?_ | refine sq_e ?_ | refine bq_n ?_ | refine bq_r ?_ | refine bq_q ?_ | refine zB ?_ | refine zX ?_ | refine zT ?_ | refine zK ?_ | refine gq_n ?_ | refine gq_r ?_ | refine gq_e ?_ | refine lq_n ?_ | refine lq_r ?_ | refine lq_e ?_ | refine bq_e (by decide) ?_) | ((with_reducible refine zC (b := ?b_) ?hb_ ?_ ?_); case hb_ => rfl) | ((conv => whnf); first | (with_reducible refine hK_ _ _ ?_; try clear hK_ K_) | (with_reducible refine fun (g_ : Sl) (o_ : Ow) => ?_) | (with_reducible first | exact True.intro | refine And.intro trivial ?_ | refine And.intro ?_ ?_) | exact Nat.le_of_ble_eq_true rfl | exact Or.inl rfl | (intro h_; cases h_) | (intro h_; (try simp only [vS1] at h_)) | rfl))) <;> (try (conv => whnf)) <;> (try first | change (_ : Int) ≤ _ | change (_ : Nat) ≤ _) <;> (try ((fail_if_success (with_reducible apply Exists.intro)); (try dsimp only); (try simp only [vS1])))
  · omega
  · omega
  · exact (all_no (k := k) _ (by omega) ‹_›).symm
  · refine ⟨k + 1, by omega, by omega, ?_, ?_⟩
    · rw [all_succ (0, 0) (by omega), hall]; simpa using ‹_›
    · rw [← W_nat (by omega)]; (repeat' (first | (with_reducible first | exact True.intro | refine zQ ?_ | (refine zG hG_ ?_; intro K_ hK_) | (refine zR ?_; intro K_ hK_) | (refine hK_ _ _ ?_; try clear hK_ K_) | refine sq_n ?_ | refine sq_r ?_ | refine sq_e ?_ | refine bq_n ?_ | refine bq_r ?_ | refine bq_q ?_ | refine zB ?_ | refine zX ?_ | refine zT ?_ | refine zK ?_ | refine gq_n ?_ | refine gq_r ?_ | refine gq_e ?_ | refine lq_n ?_ | refine lq_r ?_ | refine lq_e ?_ | refine bq_e (by decide) ?_) | ((with_reducible refine zC (b := ?b_) ?hb_ ?_ ?_); case hb_ => rfl) | ((conv => whnf); first | (with_reducible refine hK_ _ _ ?_; try clear hK_ K_) | (with_reducible refine fun (g_ : Sl) (o_ : Ow) => ?_) | (with_reducible first | exact True.intro | refine And.intro trivial ?_ | refine And.intro ?_ ?_) | exact Nat.le_of_ble_eq_true rfl | exact Or.inl rfl | (intro h_; cases h_) | (intro h_; (try simp only [vS1] at h_)) | rfl))) <;> (try (conv => whnf)) <;> (try first | change (_ : Int) ≤ _ | change (_ : Nat) ≤ _)
  · exact (take_all (by omega) hall).symm
def wallOkC : Con := mkCon [.wall] (fun _ => True) fun x => vB (wallOk x.1)
theorem iWallOk_ok : Good1 Try.prog n_impl_WallOk wallOkC := by
  refine good_of (tys := tyL) (env := [(n_impl_pointsOk, pointsOkC)]) [] [] mixed tys ⟨pointsOk_ok, trivial⟩ Try.func133 rfl (by kernel_rfl) (by decide) (by kernel_rfl) ?_
  rintro ⟨⟨⟨a, b⟩, ⟨c, d⟩⟩, ⟨⟩⟩ _
  (repeat' (first | (with_reducible first | exact True.intro | refine zQ ?_ | (refine zG hG_ ?_; intro K_ hK_) | (refine zR ?_; intro K_ hK_) | (refine hK_ _ _ ?_; try clear hK_ K_) | refine sq_n ?_ | refine sq_r ?_ | refine sq_e ?_ | refine bq_n ?_ | refine bq_r ?_ | refine bq_q ?_ | refine zB ?_ | refine zX ?_ | refine zT ?_ | refine zK ?_ | refine gq_n ?_ | refine gq_r ?_ | refine gq_e ?_ | refine lq_n ?_ | refine lq_r ?_ | refine lq_e ?_ | refine bq_e (by decide) ?_) | ((with_reducible refine zC (b := ?b_) ?hb_ ?_ ?_); case hb_ => rfl) | ((conv => whnf); first | (with_reducible refine hK_ _ _ ?_; try clear hK_ K_) | (with_reducible refine fun (g_ : Sl) (o_ : Ow) => ?_) | (with_reducible first | exact True.intro | refine And.intro trivial ?_ | refine And.intro ?_ ?_) | exact Nat.le_of_ble_eq_true rfl | exact Or.inl rfl | (intro h_; cases h_) | (intro h_; (try simp only [vS1] at h_)) | rfl))) <;> (try (conv => whnf)) <;> (try first | change (_ : Int) ≤ _ | change (_ : Nat) ≤ _) <;> simp_all [wallOk, ptEq]
theorem sWallOk_ok : Good1 Try.prog n_spec_WallOk wallOkC := by
  refine good_of (tys := tyL) (env := [(n_spec_PointOk, ptOkC)]) [] [] mixed tys ⟨sPointOk_ok, trivial⟩ Try.func153 rfl (by kernel_rfl) (by decide) (by kernel_rfl) ?_
  rintro ⟨⟨⟨a, b⟩, ⟨c, d⟩⟩, ⟨⟩⟩ _
  (repeat' (first | (with_reducible first | exact True.intro | refine zQ ?_ | (refine zG hG_ ?_; intro K_ hK_) | (refine zR ?_; intro K_ hK_) | (refine hK_ _ _ ?_; try clear hK_ K_) | refine sq_n ?_ | refine sq_r ?_ | refine sq_e ?_ | refine bq_n ?_ | refine bq_r ?_ | refine bq_q ?_ | refine zB ?_ | refine zX ?_ | refine zT ?_ | refine zK ?_ | refine gq_n ?_ | refine gq_r ?_ | refine gq_e ?_ | refine lq_n ?_ | refine lq_r ?_ | refine lq_e ?_ | refine bq_e (by decide) ?_) | ((with_reducible refine zC (b := ?b_) ?hb_ ?_ ?_); case hb_ => rfl) | ((conv => whnf); first | (with_reducible refine hK_ _ _ ?_; try clear hK_ K_) | (with_reducible refine fun (g_ : Sl) (o_ : Ow) => ?_) | (with_reducible first | exact True.intro | refine And.intro trivial ?_ | refine And.intro ?_ ?_) | exact Nat.le_of_ble_eq_true rfl | exact Or.inl rfl | (intro h_; cases h_) | (intro h_; (try simp only [vS1] at h_)) | rfl))) <;> (try (conv => whnf)) <;> (try first | change (_ : Int) ≤ _ | change (_ : Nat) ≤ _) <;> simp_all [wallOk, ptEq]
def sgnC : Con := mkCon [.int] (fun _ => True) fun x => vI (sgn x.1)
theorem sign_ok : Good1 Try.prog n_impl_sign sgnC := by
  refine good_of (tys := tyL) (env := []) [] [] mixed tys trivial Try.func144 rfl (by kernel_rfl) (by decide) (by kernel_rfl) ?_
  rintro ⟨n, ⟨⟩⟩ _
  (repeat' (first | (with_reducible first | exact True.intro | refine zQ ?_ | (refine zG hG_ ?_; intro K_ hK_) | (refine zR ?_; intro K_ hK_) | (refine hK_ _ _ ?_; try clear hK_ K_) | refine sq_n ?_ | refine sq_r ?_ | refine sq_e ?_ | refine bq_n ?_ | refine bq_r ?_ | refine bq_q ?_ | refine zB ?_ | refine zX ?_ | refine zT ?_ | refine zK ?_ | refine gq_n ?_ | refine gq_r ?_ | refine gq_e ?_ | refine lq_n ?_ | refine lq_r ?_ | refine lq_e ?_ | refine bq_e (by decide) ?_) | ((with_reducible refine zC (b := ?b_) ?hb_ ?_ ?_); case hb_ => rfl) | ((conv => whnf); first | (with_reducible refine hK_ _ _ ?_; try clear hK_ K_) | (with_reducible refine fun (g_ : Sl) (o_ : Ow) => ?_) | (with_reducible first | exact True.intro | refine And.intro trivial ?_ | refine And.intro ?_ ?_) | exact Nat.le_of_ble_eq_true rfl | exact Or.inl rfl | (intro h_; cases h_) | (intro h_; (try simp only [vS1] at h_)) | rfl))) <;> (try (conv => whnf)) <;> (try first | change (_ : Int) ≤ _ | change (_ : Nat) ≤ _) <;> simp_all [sgn] <;> omega
theorem l03Sign_ok : Good1 Try.prog n_spec_l03Sign sgnC := by
  refine good_of (tys := tyL) (env := []) [] [] mixed tys trivial Try.func178 rfl (by kernel_rfl) (by decide) (by kernel_rfl) ?_
  rintro ⟨n, ⟨⟩⟩ _
  (repeat' (first | (with_reducible first | exact True.intro | refine zQ ?_ | (refine zG hG_ ?_; intro K_ hK_) | (refine zR ?_; intro K_ hK_) | (refine hK_ _ _ ?_; try clear hK_ K_) | refine sq_n ?_ | refine sq_r ?_ | refine sq_e ?_ | refine bq_n ?_ | refine bq_r ?_ | refine bq_q ?_ | refine zB ?_ | refine zX ?_ | refine zT ?_ | refine zK ?_ | refine gq_n ?_ | refine gq_r ?_ | refine gq_e ?_ | refine lq_n ?_ | refine lq_r ?_ | refine lq_e ?_ | refine bq_e (by decide) ?_) | ((with_reducible refine zC (b := ?b_) ?hb_ ?_ ?_); case hb_ => rfl) | ((conv => whnf); first | (with_reducible refine hK_ _ _ ?_; try clear hK_ K_) | (with_reducible refine fun (g_ : Sl) (o_ : Ow) => ?_) | (with_reducible first | exact True.intro | refine And.intro trivial ?_ | refine And.intro ?_ ?_) | exact Nat.le_of_ble_eq_true rfl | exact Or.inl rfl | (intro h_; cases h_) | (intro h_; (try simp only [vS1] at h_)) | rfl))) <;> (try (conv => whnf)) <;> (try first | change (_ : Int) ≤ _ | change (_ : Nat) ≤ _) <;> simp_all [sgn] <;> omega
def crossesC : Con := mkCon [.wall, .wall] (fun _ => True) fun x => vB (crs x.2.1.1 x.2.1.2 x.1.1 x.1.2)
theorem crosses_ok : Good1 Try.prog n_impl_crosses crossesC := by
  refine good_of (tys := tyL) (env := [(n_impl_turn, turnC), (n_impl_sign, sgnC)]) [] [] mixed tys ⟨turn_ok, sign_ok, trivial⟩ Try.func121 rfl (by kernel_rfl) (by decide) (by kernel_rfl) ?_
  rintro ⟨⟨⟨a, b⟩, ⟨c, d⟩⟩, ⟨⟨e, f⟩, ⟨g, h⟩⟩, ⟨⟩⟩ _
  (repeat' (first | (with_reducible first | exact True.intro | refine zQ ?_ | (refine zG hG_ ?_; intro K_ hK_) | (refine zR ?_; intro K_ hK_) | (refine hK_ _ _ ?_; try clear hK_ K_) | refine sq_n ?_ | refine sq_r ?_ | refine sq_e ?_ | refine bq_n ?_ | refine bq_r ?_ | refine bq_q ?_ | refine zB ?_ | refine zX ?_ | refine zT ?_ | refine zK ?_ | refine gq_n ?_ | refine gq_r ?_ | refine gq_e ?_ | refine lq_n ?_ | refine lq_r ?_ | refine lq_e ?_ | refine bq_e (by decide) ?_) | ((with_reducible refine zC (b := ?b_) ?hb_ ?_ ?_); case hb_ => rfl) | ((conv => whnf); first | (with_reducible refine hK_ _ _ ?_; try clear hK_ K_) | (with_reducible refine fun (g_ : Sl) (o_ : Ow) => ?_) | (with_reducible first | exact True.intro | refine And.intro trivial ?_ | refine And.intro ?_ ?_) | exact Nat.le_of_ble_eq_true rfl | exact Or.inl rfl | (intro h_; cases h_) | (intro h_; (try simp only [vS1] at h_)) | rfl))) <;> (try (conv => whnf)) <;> (try first | change (_ : Int) ≤ _ | change (_ : Nat) ≤ _) <;> (try ((fail_if_success (with_reducible apply Exists.intro)); (try dsimp only); (try simp only [vS1]))) <;> (try simp only [sgn_w] at *) <;> grind [crs]
def l03CrossC : Con := mkCon [.pt, .pt, .pt, .pt] (fun _ => True) fun x => vB (crs x.1 x.2.1 x.2.2.1 x.2.2.2.1)
theorem l03Cross_ok : Good1 Try.prog n_spec_l03Cross l03CrossC := by
  refine good_of (tys := tyL) (env := [(n_spec_l02Turn, turnC), (n_spec_l03Sign, sgnC)]) [] [] mixed tys ⟨l02Turn_ok, l03Sign_ok, trivial⟩ Try.func171 rfl (by kernel_rfl) (by decide) (by kernel_rfl) ?_
  rintro ⟨⟨a, b⟩, ⟨c, d⟩, ⟨e, f⟩, ⟨g, h⟩, ⟨⟩⟩ _
  (repeat' (first | (with_reducible first | exact True.intro | refine zQ ?_ | (refine zG hG_ ?_; intro K_ hK_) | (refine zR ?_; intro K_ hK_) | (refine hK_ _ _ ?_; try clear hK_ K_) | refine sq_n ?_ | refine sq_r ?_ | refine sq_e ?_ | refine bq_n ?_ | refine bq_r ?_ | refine bq_q ?_ | refine zB ?_ | refine zX ?_ | refine zT ?_ | refine zK ?_ | refine gq_n ?_ | refine gq_r ?_ | refine gq_e ?_ | refine lq_n ?_ | refine lq_r ?_ | refine lq_e ?_ | refine bq_e (by decide) ?_) | ((with_reducible refine zC (b := ?b_) ?hb_ ?_ ?_); case hb_ => rfl) | ((conv => whnf); first | (with_reducible refine hK_ _ _ ?_; try clear hK_ K_) | (with_reducible refine fun (g_ : Sl) (o_ : Ow) => ?_) | (with_reducible first | exact True.intro | refine And.intro trivial ?_ | refine And.intro ?_ ?_) | exact Nat.le_of_ble_eq_true rfl | exact Or.inl rfl | (intro h_; cases h_) | (intro h_; (try simp only [vS1] at h_)) | rfl))) <;> (try (conv => whnf)) <;> (try first | change (_ : Int) ≤ _ | change (_ : Nat) ≤ _) <;> (try ((fail_if_success (with_reducible apply Exists.intro)); (try dsimp only); (try simp only [vS1]))) <;> (try simp only [sgn_w] at *) <;> grind [crs]
def meetC : Con := mkCon [.wall, .wall] (fun _ => True) fun x => vB (meet x.1 x.2.1)
theorem iDoMeet_ok : Good1 Try.prog n_impl_DoMeet meetC := by
  refine good_of (tys := tyL) (env := [(n_impl_WallOk, wallOkC), (n_impl_crosses, crossesC), (n_impl_on, onC)]) [] [] mixed tys ⟨iWallOk_ok, crosses_ok, on_ok, trivial⟩ Try.func113 rfl (by kernel_rfl) (by decide) (by kernel_rfl) ?_
  rintro ⟨⟨⟨a, b⟩, ⟨c, d⟩⟩, ⟨⟨e, f⟩, ⟨g, h⟩⟩, ⟨⟩⟩ _
  (repeat' (first | (with_reducible first | exact True.intro | refine zQ ?_ | (refine zG hG_ ?_; intro K_ hK_) | (refine zR ?_; intro K_ hK_) | (refine hK_ _ _ ?_; try clear hK_ K_) | refine sq_n ?_ | refine sq_r ?_ | refine sq_e ?_ | refine bq_n ?_ | refine bq_r ?_ | refine bq_q ?_ | refine zB ?_ | refine zX ?_ | refine zT ?_ | refine zK ?_ | refine gq_n ?_ | refine gq_r ?_ | refine gq_e ?_ | refine lq_n ?_ | refine lq_r ?_ | refine lq_e ?_ | refine bq_e (by decide) ?_) | ((with_reducible refine zC (b := ?b_) ?hb_ ?_ ?_); case hb_ => rfl) | ((conv => whnf); first | (with_reducible refine hK_ _ _ ?_; try clear hK_ K_) | (with_reducible refine fun (g_ : Sl) (o_ : Ow) => ?_) | (with_reducible first | exact True.intro | refine And.intro trivial ?_ | refine And.intro ?_ ?_) | exact Nat.le_of_ble_eq_true rfl | exact Or.inl rfl | (intro h_; cases h_) | (intro h_; (try simp only [vS1] at h_)) | rfl))) <;> (try (conv => whnf)) <;> (try first | change (_ : Int) ≤ _ | change (_ : Nat) ≤ _) <;> (try ((fail_if_success (with_reducible apply Exists.intro)); (try dsimp only); (try simp only [vS1]))) <;> grind [meet]
def crossC : Con := mkCon [.wall, .wall] (fun _ => True) fun x => vB (wallOk x.1 && (wallOk x.2.1 && crs x.2.1.1 x.2.1.2 x.1.1 x.1.2))
theorem sDoCross_ok : Good1 Try.prog n_spec_DoCross crossC := by
  refine good_of (tys := tyL) (env := [(n_spec_WallOk, wallOkC), (n_spec_l03Cross, l03CrossC)]) [] [] mixed tys ⟨sWallOk_ok, l03Cross_ok, trivial⟩ Try.func154 rfl (by kernel_rfl) (by decide) (by kernel_rfl) ?_
  rintro ⟨⟨⟨a, b⟩, ⟨c, d⟩⟩, ⟨⟨e, f⟩, ⟨g, h⟩⟩, ⟨⟩⟩ _
  (repeat' (first | (with_reducible first | exact True.intro | refine zQ ?_ | (refine zG hG_ ?_; intro K_ hK_) | (refine zR ?_; intro K_ hK_) | (refine hK_ _ _ ?_; try clear hK_ K_) | refine sq_n ?_ | refine sq_r ?_ | refine sq_e ?_ | refine bq_n ?_ | refine bq_r ?_ | refine bq_q ?_ | refine zB ?_ | refine zX ?_ | refine zT ?_ | refine zK ?_ | refine gq_n ?_ | refine gq_r ?_ | refine gq_e ?_ | refine lq_n ?_ | refine lq_r ?_ | refine lq_e ?_ | refine bq_e (by decide) ?_) | ((with_reducible refine zC (b := ?b_) ?hb_ ?_ ?_); case hb_ => rfl) | ((conv => whnf); first | (with_reducible refine hK_ _ _ ?_; try clear hK_ K_) | (with_reducible refine fun (g_ : Sl) (o_ : Ow) => ?_) | (with_reducible first | exact True.intro | refine And.intro trivial ?_ | refine And.intro ?_ ?_) | exact Nat.le_of_ble_eq_true rfl | exact Or.inl rfl | (intro h_; cases h_) | (intro h_; (try simp only [vS1] at h_)) | rfl))) <;> (try (conv => whnf)) <;> (try first | change (_ : Int) ≤ _ | change (_ : Nat) ≤ _) <;> (try ((fail_if_success (with_reducible apply Exists.intro)); (try dsimp only); (try simp only [vS1]))) <;> grind [crs_comm (a, b) (c, d) (e, f) (g, h)]
def isBtwC : Con := mkCon [.pt, .pt, .pt] (fun _ => True) fun x => vB (ptOk x.1 && (ptOk x.2.1 && (ptOk x.2.2.1 && onS x.1 x.2.1 x.2.2.1)))
theorem sIsBetween_ok : Good1 Try.prog n_spec_IsBetween isBtwC := by
  refine good_of (tys := tyL) (env := [(n_spec_PointOk, ptOkC), (n_spec_l02Between, onC)]) [] [] mixed tys ⟨sPointOk_ok, l02Between_ok, trivial⟩ Try.func172 rfl (by kernel_rfl) (by decide) (by kernel_rfl) ?_
  rintro ⟨⟨a, b⟩, ⟨c, d⟩, ⟨e, f⟩, ⟨⟩⟩ _
  (repeat' (first | (with_reducible first | exact True.intro | refine zQ ?_ | (refine zG hG_ ?_; intro K_ hK_) | (refine zR ?_; intro K_ hK_) | (refine hK_ _ _ ?_; try clear hK_ K_) | refine sq_n ?_ | refine sq_r ?_ | refine sq_e ?_ | refine bq_n ?_ | refine bq_r ?_ | refine bq_q ?_ | refine zB ?_ | refine zX ?_ | refine zT ?_ | refine zK ?_ | refine gq_n ?_ | refine gq_r ?_ | refine gq_e ?_ | refine lq_n ?_ | refine lq_r ?_ | refine lq_e ?_ | refine bq_e (by decide) ?_) | ((with_reducible refine zC (b := ?b_) ?hb_ ?_ ?_); case hb_ => rfl) | ((conv => whnf); first | (with_reducible refine hK_ _ _ ?_; try clear hK_ K_) | (with_reducible refine fun (g_ : Sl) (o_ : Ow) => ?_) | (with_reducible first | exact True.intro | refine And.intro trivial ?_ | refine And.intro ?_ ?_) | exact Nat.le_of_ble_eq_true rfl | exact Or.inl rfl | (intro h_; cases h_) | (intro h_; (try simp only [vS1] at h_)) | rfl))) <;> (try (conv => whnf)) <;> (try first | change (_ : Int) ≤ _ | change (_ : Nat) ≤ _) <;> (try ((fail_if_success (with_reducible apply Exists.intro)); (try dsimp only); (try simp only [vS1]))) <;> grind
def isOnWallC : Con := mkCon [.wall, .pt] (fun _ => True) fun x => vB (wallOk x.1 && (ptOk x.2.1 && onS x.2.1 x.1.1 x.1.2))
theorem sIsOnWall_ok : Good1 Try.prog n_spec_IsOnWall isOnWallC := by
  refine good_of (tys := tyL) (env := [(n_spec_WallOk, wallOkC), (n_spec_IsBetween, isBtwC)]) [] [] mixed tys ⟨sWallOk_ok, sIsBetween_ok, trivial⟩ Try.func155 rfl (by kernel_rfl) (by decide) (by kernel_rfl) ?_
  rintro ⟨⟨⟨a, b⟩, ⟨c, d⟩⟩, ⟨e, f⟩, ⟨⟩⟩ _
  (repeat' (first | (with_reducible first | exact True.intro | refine zQ ?_ | (refine zG hG_ ?_; intro K_ hK_) | (refine zR ?_; intro K_ hK_) | (refine hK_ _ _ ?_; try clear hK_ K_) | refine sq_n ?_ | refine sq_r ?_ | refine sq_e ?_ | refine bq_n ?_ | refine bq_r ?_ | refine bq_q ?_ | refine zB ?_ | refine zX ?_ | refine zT ?_ | refine zK ?_ | refine gq_n ?_ | refine gq_r ?_ | refine gq_e ?_ | refine lq_n ?_ | refine lq_r ?_ | refine lq_e ?_ | refine bq_e (by decide) ?_) | ((with_reducible refine zC (b := ?b_) ?hb_ ?_ ?_); case hb_ => rfl) | ((conv => whnf); first | (with_reducible refine hK_ _ _ ?_; try clear hK_ K_) | (with_reducible refine fun (g_ : Sl) (o_ : Ow) => ?_) | (with_reducible first | exact True.intro | refine And.intro trivial ?_ | refine And.intro ?_ ?_) | exact Nat.le_of_ble_eq_true rfl | exact Or.inl rfl | (intro h_; cases h_) | (intro h_; (try simp only [vS1] at h_)) | rfl))) <;> (try (conv => whnf)) <;> (try first | change (_ : Int) ≤ _ | change (_ : Nat) ≤ _) <;> (try ((fail_if_success (with_reducible apply Exists.intro)); (try dsimp only); (try simp only [vS1]))) <;> grind [wallOk]
theorem sDoMeet_ok : Good1 Try.prog n_spec_DoMeet meetC := by
  refine good_of (tys := tyL) (env := [(n_spec_WallOk, wallOkC), (n_spec_DoCross, crossC), (n_spec_IsOnWall, isOnWallC)]) [] [] mixed tys ⟨sWallOk_ok, sDoCross_ok, sIsOnWall_ok, trivial⟩ Try.func131 rfl (by kernel_rfl) (by decide) (by kernel_rfl) ?_
  rintro ⟨⟨⟨a, b⟩, ⟨c, d⟩⟩, ⟨⟨e, f⟩, ⟨g, h⟩⟩, ⟨⟩⟩ _
  (repeat' (first | (with_reducible first | exact True.intro | refine zQ ?_ | (refine zG hG_ ?_; intro K_ hK_) | (refine zR ?_; intro K_ hK_) | (refine hK_ _ _ ?_; try clear hK_ K_) | refine sq_n ?_ | refine sq_r ?_ | refine sq_e ?_ | refine bq_n ?_ | refine bq_r ?_ | refine bq_q ?_ | refine zB ?_ | refine zX ?_ | refine zT ?_ | refine zK ?_ | refine gq_n ?_ | refine gq_r ?_ | refine gq_e ?_ | refine lq_n ?_ | refine lq_r ?_ | refine lq_e ?_ | refine bq_e (by decide) ?_) | ((with_reducible refine zC (b := ?b_) ?hb_ ?_ ?_); case hb_ => rfl) | ((conv => whnf); first | (with_reducible refine hK_ _ _ ?_; try clear hK_ K_) | (with_reducible refine fun (g_ : Sl) (o_ : Ow) => ?_) | (with_reducible first | exact True.intro | refine And.intro trivial ?_ | refine And.intro ?_ ?_) | exact Nat.le_of_ble_eq_true rfl | exact Or.inl rfl | (intro h_; cases h_) | (intro h_; (try simp only [vS1] at h_)) | rfl))) <;> (try (conv => whnf)) <;> (try first | change (_ : Int) ≤ _ | change (_ : Nat) ≤ _) <;> (try ((fail_if_success (with_reducible apply Exists.intro)); (try dsimp only); (try simp only [vS1]))) <;> grind [meet_spec]
def wallsOfC : Con := mkCon [.sl (.b .pt)] (fun x => x.1.length ≤ 1048576) fun x => ⟨.one (.own 0 0), some ⟨t_impl_Wall, none, .b .wall, walls x.1⟩⟩
theorem wallsOf_ok : Good1 Try.prog n_impl_wallsOf wallsOfC := by
  refine good_of (tys := tyL) (env := []) [6] [] mixed tys trivial Try.func88 rfl (by kernel_rfl) (by decide) (by kernel_rfl) ?_
  rintro ⟨xs, ⟨⟩⟩ hlen
  change xs.length ≤ _ at hlen
  (repeat' (first | (with_reducible first | exact True.intro | refine zQ ?_ | (refine zG hG_ ?_; intro K_ hK_) | (refine zR ?_; intro K_ hK_) | (refine hK_ _ _ ?_; try clear hK_ K_) | refine sq_n ?_ | refine sq_r ?_ | refine sq_e ?_ | refine bq_n ?_ | refine bq_r ?_ | refine bq_q ?_ | refine zB ?_ | refine zX ?_ | refine zT ?_ | refine zK ?_ | refine gq_n ?_ | refine gq_r ?_ | refine gq_e ?_ | refine lq_n ?_ | refine lq_r ?_ | refine lq_e ?_ | refine bq_e (by decide) ?_) | ((with_reducible refine zC (b := ?b_) ?hb_ ?_ ?_); case hb_ => rfl) | ((conv => whnf); first | (with_reducible refine hK_ _ _ ?_; try clear hK_ K_) | (with_reducible refine fun (g_ : Sl) (o_ : Ow) => ?_) | (with_reducible first | exact True.intro | refine And.intro trivial ?_ | refine And.intro ?_ ?_) | exact Nat.le_of_ble_eq_true rfl | exact Or.inl rfl | (intro h_; cases h_) | (intro h_; (try simp only [vS1] at h_)) | rfl))) <;> (try (conv => whnf)) <;> (try first | change (_ : Int) ≤ _ | change (_ : Nat) ≤ _)
  refine awp'_loop (fun k σ => k ≤ xs.length ∧ Has1 σ [(0, vPts xs), (7, vPts xs), (8, vInt xs.length), (9, vInt k)] 3 6 (.row t_impl_Wall (.b .wall) ((walls xs).take k))) (fun k => xs.length - k) 0 ⟨Nat.zero_le _, ⟨?_, ?_, ?_⟩⟩ ?_
  · (repeat' (first | (with_reducible first | exact True.intro | refine zQ ?_ | (refine zG hG_ ?_; intro K_ hK_) | (refine zR ?_; intro K_ hK_) | (refine hK_ _ _ ?_; try clear hK_ K_) | refine sq_n ?_ | refine sq_r ?_ | refine sq_e ?_ | refine bq_n ?_ | refine bq_r ?_ | refine bq_q ?_ | refine zB ?_ | refine zX ?_ | refine zT ?_ | refine zK ?_ | refine gq_n ?_ | refine gq_r ?_ | refine gq_e ?_ | refine lq_n ?_ | refine lq_r ?_ | refine lq_e ?_ | refine bq_e (by decide) ?_) | ((with_reducible refine zC (b := ?b_) ?hb_ ?_ ?_); case hb_ => rfl) | ((conv => whnf); first | (with_reducible refine hK_ _ _ ?_; try clear hK_ K_) | (with_reducible refine fun (g_ : Sl) (o_ : Ow) => ?_) | (with_reducible first | exact True.intro | refine And.intro trivial ?_ | refine And.intro ?_ ?_) | exact Nat.le_of_ble_eq_true rfl | exact Or.inl rfl | (intro h_; cases h_) | (intro h_; (try simp only [vS1] at h_)) | rfl))) <;> (try (conv => whnf)) <;> (try first | change (_ : Int) ≤ _ | change (_ : Nat) ≤ _)
  · rfl
  · rfl
  rintro k s_ w_ ⟨hk, h⟩
  obtain ⟨g, o, v, rfl, rfl⟩ := has1_ex h
  clear h
  have hpos : (k : Int) < xs.length → 0 < xs.length := fun h => by omega
  (repeat' (first | (with_reducible first | exact True.intro | refine zQ ?_ | (refine zG hG_ ?_; intro K_ hK_) | (refine zR ?_; intro K_ hK_) | (refine hK_ _ _ ?_; try clear hK_ K_) | refine sq_n ?_ | refine sq_r ?_ | refine sq_e ?_ | refine bq_n ?_ | refine bq_r ?_ | refine bq_q ?_ | refine zB ?_ | refine zX ?_ | refine zT ?_ | refine zK ?_ | refine gq_n ?_ | refine gq_r ?_ | refine gq_e ?_ | refine lq_n ?_ | refine lq_r ?_ | refine lq_e ?_ | refine bq_e (by decide) ?_) | ((with_reducible refine zC (b := ?b_) ?hb_ ?_ ?_); case hb_ => rfl) | ((conv => whnf); first | (with_reducible refine hK_ _ _ ?_; try clear hK_ K_) | (with_reducible refine fun (g_ : Sl) (o_ : Ow) => ?_) | (with_reducible first | exact True.intro | refine And.intro trivial ?_ | refine And.intro ?_ ?_) | exact Nat.le_of_ble_eq_true rfl | exact Or.inl rfl | (intro h_; cases h_) | (intro h_; (try simp only [vS1] at h_)) | rfl))) <;> (try (conv => whnf)) <;> (try first | change (_ : Int) ≤ _ | change (_ : Nat) ≤ _) <;> (try ((fail_if_success (with_reducible apply Exists.intro)); (try dsimp only); (try simp only [vS1])))
  · omega
  · omega
  · have := hpos (by omega); omega
  · rw [mod_nat1 (by omega)]; omega
  · have := Nat.mod_lt (k + 1) (hpos (by omega)); rw [mod_nat1 (by omega)]; omega
  · simp only [List.length_take, List.length_cons, List.length_nil]; omega
  · refine ⟨k + 1, by omega, by omega, ⟨?_, rfl, ?_⟩⟩
    · rw [← W_nat (by omega)]; (repeat' (first | (with_reducible first | exact True.intro | refine zQ ?_ | (refine zG hG_ ?_; intro K_ hK_) | (refine zR ?_; intro K_ hK_) | (refine hK_ _ _ ?_; try clear hK_ K_) | refine sq_n ?_ | refine sq_r ?_ | refine sq_e ?_ | refine bq_n ?_ | refine bq_r ?_ | refine bq_q ?_ | refine zB ?_ | refine zX ?_ | refine zT ?_ | refine zK ?_ | refine gq_n ?_ | refine gq_r ?_ | refine gq_e ?_ | refine lq_n ?_ | refine lq_r ?_ | refine lq_e ?_ | refine bq_e (by decide) ?_) | ((with_reducible refine zC (b := ?b_) ?hb_ ?_ ?_); case hb_ => rfl) | ((conv => whnf); first | (with_reducible refine hK_ _ _ ?_; try clear hK_ K_) | (with_reducible refine fun (g_ : Sl) (o_ : Ow) => ?_) | (with_reducible first | exact True.intro | refine And.intro trivial ?_ | refine And.intro ?_ ?_) | exact Nat.le_of_ble_eq_true rfl | exact Or.inl rfl | (intro h_; cases h_) | (intro h_; (try simp only [vS1] at h_)) | rfl))) <;> (try (conv => whnf)) <;> (try first | change (_ : Int) ≤ _ | change (_ : Nat) ≤ _)
    · rw [walls_take (by omega)]
      show Own.row _ _ (_ ++ [(_, _)]) = _
      rw [mod_nat1 (by omega)]; rfl
  · rw [List.take_of_length_le (by rw [walls_len]; omega)]; rfl
def areaC : Con := mkCon [.sl (.b .pt)] (fun x => x.1.length ≤ 1048576) fun x => vI (IntKind.i64.wrap (dbl x.1))
theorem area_ok : Good1 Try.prog n_impl_area areaC := by
  refine good_of (tys := tyL) (env := [(n_impl_wallsOf, wallsOfC)]) [] [] mixed tys ⟨wallsOf_ok, trivial⟩ Try.func74 rfl (by kernel_rfl) (by decide) (by kernel_rfl) ?_
  rintro ⟨xs, ⟨⟩⟩ hlen
  change xs.length ≤ _ at hlen
  have hl := walls_len xs
  (repeat' (first | (with_reducible first | exact True.intro | refine zQ ?_ | (refine zG hG_ ?_; intro K_ hK_) | (refine zR ?_; intro K_ hK_) | (refine hK_ _ _ ?_; try clear hK_ K_) | refine sq_n ?_ | refine sq_r ?_ | refine sq_e ?_ | refine bq_n ?_ | refine bq_r ?_ | refine bq_q ?_ | refine zB ?_ | refine zX ?_ | refine zT ?_ | refine zK ?_ | refine gq_n ?_ | refine gq_r ?_ | refine gq_e ?_ | refine lq_n ?_ | refine lq_r ?_ | refine lq_e ?_ | refine bq_e (by decide) ?_) | ((with_reducible refine zC (b := ?b_) ?hb_ ?_ ?_); case hb_ => rfl) | ((conv => whnf); first | (with_reducible refine hK_ _ _ ?_; try clear hK_ K_) | (with_reducible refine fun (g_ : Sl) (o_ : Ow) => ?_) | (with_reducible first | exact True.intro | refine And.intro trivial ?_ | refine And.intro ?_ ?_) | exact Nat.le_of_ble_eq_true rfl | exact Or.inl rfl | (intro h_; cases h_) | (intro h_; (try simp only [vS1] at h_)) | rfl))) <;> (try (conv => whnf)) <;> (try first | change (_ : Int) ≤ _ | change (_ : Nat) ≤ _)
  · assumption
  refine awp'_loop (fun k σ => k ≤ xs.length ∧ Has σ [(7, .one (.d (.sl none (.b .wall) (walls xs)))), (8, vInt (walls xs).length), (9, vInt k), (3, vInt (IntKind.i64.wrap (dblTo xs k)))]) (fun k => xs.length - k) 0 ⟨Nat.zero_le _, ?_⟩ ?_
  · (repeat' (first | (with_reducible first | exact True.intro | refine zQ ?_ | (refine zG hG_ ?_; intro K_ hK_) | (refine zR ?_; intro K_ hK_) | (refine hK_ _ _ ?_; try clear hK_ K_) | refine sq_n ?_ | refine sq_r ?_ | refine sq_e ?_ | refine bq_n ?_ | refine bq_r ?_ | refine bq_q ?_ | refine zB ?_ | refine zX ?_ | refine zT ?_ | refine zK ?_ | refine gq_n ?_ | refine gq_r ?_ | refine gq_e ?_ | refine lq_n ?_ | refine lq_r ?_ | refine lq_e ?_ | refine bq_e (by decide) ?_) | ((with_reducible refine zC (b := ?b_) ?hb_ ?_ ?_); case hb_ => rfl) | ((conv => whnf); first | (with_reducible refine hK_ _ _ ?_; try clear hK_ K_) | (with_reducible refine fun (g_ : Sl) (o_ : Ow) => ?_) | (with_reducible first | exact True.intro | refine And.intro trivial ?_ | refine And.intro ?_ ?_) | exact Nat.le_of_ble_eq_true rfl | exact Or.inl rfl | (intro h_; cases h_) | (intro h_; (try simp only [vS1] at h_)) | rfl))) <;> (try (conv => whnf)) <;> (try first | change (_ : Int) ≤ _ | change (_ : Nat) ≤ _)
  rintro k s_ w_ ⟨hk, h⟩
  obtain ⟨g, rfl⟩ := has_ex h
  clear h
  (repeat' (first | (with_reducible first | exact True.intro | refine zQ ?_ | (refine zG hG_ ?_; intro K_ hK_) | (refine zR ?_; intro K_ hK_) | (refine hK_ _ _ ?_; try clear hK_ K_) | refine sq_n ?_ | refine sq_r ?_ | refine sq_e ?_ | refine bq_n ?_ | refine bq_r ?_ | refine bq_q ?_ | refine zB ?_ | refine zX ?_ | refine zT ?_ | refine zK ?_ | refine gq_n ?_ | refine gq_r ?_ | refine gq_e ?_ | refine lq_n ?_ | refine lq_r ?_ | refine lq_e ?_ | refine bq_e (by decide) ?_) | ((with_reducible refine zC (b := ?b_) ?hb_ ?_ ?_); case hb_ => rfl) | ((conv => whnf); first | (with_reducible refine hK_ _ _ ?_; try clear hK_ K_) | (with_reducible refine fun (g_ : Sl) (o_ : Ow) => ?_) | (with_reducible first | exact True.intro | refine And.intro trivial ?_ | refine And.intro ?_ ?_) | exact Nat.le_of_ble_eq_true rfl | exact Or.inl rfl | (intro h_; cases h_) | (intro h_; (try simp only [vS1] at h_)) | rfl))) <;> (try (conv => whnf)) <;> (try first | change (_ : Int) ≤ _ | change (_ : Nat) ≤ _) <;> (try ((fail_if_success (with_reducible apply Exists.intro)); (try dsimp only); (try simp only [vS1])))
  · omega
  · omega
  · refine ⟨k + 1, by omega, by omega, ?_⟩
    rw [← W_nat (by omega)]; (repeat' (first | (with_reducible first | exact True.intro | refine zQ ?_ | (refine zG hG_ ?_; intro K_ hK_) | (refine zR ?_; intro K_ hK_) | (refine hK_ _ _ ?_; try clear hK_ K_) | refine sq_n ?_ | refine sq_r ?_ | refine sq_e ?_ | refine bq_n ?_ | refine bq_r ?_ | refine bq_q ?_ | refine zB ?_ | refine zX ?_ | refine zT ?_ | refine zK ?_ | refine gq_n ?_ | refine gq_r ?_ | refine gq_e ?_ | refine lq_n ?_ | refine lq_r ?_ | refine lq_e ?_ | refine bq_e (by decide) ?_) | ((with_reducible refine zC (b := ?b_) ?hb_ ?_ ?_); case hb_ => rfl) | ((conv => whnf); first | (with_reducible refine hK_ _ _ ?_; try clear hK_ K_) | (with_reducible refine fun (g_ : Sl) (o_ : Ow) => ?_) | (with_reducible first | exact True.intro | refine And.intro trivial ?_ | refine And.intro ?_ ?_) | exact Nat.le_of_ble_eq_true rfl | exact Or.inl rfl | (intro h_; cases h_) | (intro h_; (try simp only [vS1] at h_)) | rfl))) <;> (try (conv => whnf)) <;> (try first | change (_ : Int) ≤ _ | change (_ : Nat) ≤ _)
    rw [walls_get (by omega)]
    exact congrArg vInt (W_cr _ _ _ _ _)
  · rw [show k = xs.length by omega]; rfl
theorem l04Double_ok : Good1 Try.prog n_spec_l04Double areaC := by
  refine good_of (tys := tyL) (env := []) [] [] mixed tys trivial Try.func132 rfl (by kernel_rfl) (by decide) (by kernel_rfl) ?_
  rintro ⟨xs, ⟨⟩⟩ hlen
  change xs.length ≤ _ at hlen
  (repeat' (first | (with_reducible first | exact True.intro | refine zQ ?_ | (refine zG hG_ ?_; intro K_ hK_) | (refine zR ?_; intro K_ hK_) | (refine hK_ _ _ ?_; try clear hK_ K_) | refine sq_n ?_ | refine sq_r ?_ | refine sq_e ?_ | refine bq_n ?_ | refine bq_r ?_ | refine bq_q ?_ | refine zB ?_ | refine zX ?_ | refine zT ?_ | refine zK ?_ | refine gq_n ?_ | refine gq_r ?_ | refine gq_e ?_ | refine lq_n ?_ | refine lq_r ?_ | refine lq_e ?_ | refine bq_e (by decide) ?_) | ((with_reducible refine zC (b := ?b_) ?hb_ ?_ ?_); case hb_ => rfl) | ((conv => whnf); first | (with_reducible refine hK_ _ _ ?_; try clear hK_ K_) | (with_reducible refine fun (g_ : Sl) (o_ : Ow) => ?_) | (with_reducible first | exact True.intro | refine And.intro trivial ?_ | refine And.intro ?_ ?_) | exact Nat.le_of_ble_eq_true rfl | exact Or.inl rfl | (intro h_; cases h_) | (intro h_; (try simp only [vS1] at h_)) | rfl))) <;> (try (conv => whnf)) <;> (try first | change (_ : Int) ≤ _ | change (_ : Nat) ≤ _)
  refine awp'_loop (fun k σ => k ≤ xs.length ∧ Has σ [(0, vPts xs), (4, vInt k), (3, vInt (IntKind.i64.wrap (dblTo xs k)))]) (fun k => xs.length - k) 0 ⟨Nat.zero_le _, ?_⟩ ?_
  · (repeat' (first | (with_reducible first | exact True.intro | refine zQ ?_ | (refine zG hG_ ?_; intro K_ hK_) | (refine zR ?_; intro K_ hK_) | (refine hK_ _ _ ?_; try clear hK_ K_) | refine sq_n ?_ | refine sq_r ?_ | refine sq_e ?_ | refine bq_n ?_ | refine bq_r ?_ | refine bq_q ?_ | refine zB ?_ | refine zX ?_ | refine zT ?_ | refine zK ?_ | refine gq_n ?_ | refine gq_r ?_ | refine gq_e ?_ | refine lq_n ?_ | refine lq_r ?_ | refine lq_e ?_ | refine bq_e (by decide) ?_) | ((with_reducible refine zC (b := ?b_) ?hb_ ?_ ?_); case hb_ => rfl) | ((conv => whnf); first | (with_reducible refine hK_ _ _ ?_; try clear hK_ K_) | (with_reducible refine fun (g_ : Sl) (o_ : Ow) => ?_) | (with_reducible first | exact True.intro | refine And.intro trivial ?_ | refine And.intro ?_ ?_) | exact Nat.le_of_ble_eq_true rfl | exact Or.inl rfl | (intro h_; cases h_) | (intro h_; (try simp only [vS1] at h_)) | rfl))) <;> (try (conv => whnf)) <;> (try first | change (_ : Int) ≤ _ | change (_ : Nat) ≤ _)
  rintro k s_ w_ ⟨hk, h⟩
  obtain ⟨g, rfl⟩ := has_ex h
  clear h
  (repeat' (first | (with_reducible first | exact True.intro | refine zQ ?_ | (refine zG hG_ ?_; intro K_ hK_) | (refine zR ?_; intro K_ hK_) | (refine hK_ _ _ ?_; try clear hK_ K_) | refine sq_n ?_ | refine sq_r ?_ | refine sq_e ?_ | refine bq_n ?_ | refine bq_r ?_ | refine bq_q ?_ | refine zB ?_ | refine zX ?_ | refine zT ?_ | refine zK ?_ | refine gq_n ?_ | refine gq_r ?_ | refine gq_e ?_ | refine lq_n ?_ | refine lq_r ?_ | refine lq_e ?_ | refine bq_e (by decide) ?_) | ((with_reducible refine zC (b := ?b_) ?hb_ ?_ ?_); case hb_ => rfl) | ((conv => whnf); first | (with_reducible refine hK_ _ _ ?_; try clear hK_ K_) | (with_reducible refine fun (g_ : Sl) (o_ : Ow) => ?_) | (with_reducible first | exact True.intro | refine And.intro trivial ?_ | refine And.intro ?_ ?_) | exact Nat.le_of_ble_eq_true rfl | exact Or.inl rfl | (intro h_; cases h_) | (intro h_; (try simp only [vS1] at h_)) | rfl))) <;> (try (conv => whnf)) <;> (try first | change (_ : Int) ≤ _ | change (_ : Nat) ≤ _) <;> (try ((fail_if_success (with_reducible apply Exists.intro)); (try dsimp only); (try simp only [vS1])))
  all_goals (try (fail_if_success (with_reducible apply Exists.intro)); first | with_reducible assumption | omega | exact mdl (by omega) | exact ilo1 (by omega) | exact ilo2 (by omega) | exact ihi1 (by omega) (by omega) | exact ihi2 (by omega) (by omega))
  · refine ⟨k + 1, by omega, by omega, ?_⟩
    rw [← W_nat (by omega)]; (repeat' (first | (with_reducible first | exact True.intro | refine zQ ?_ | (refine zG hG_ ?_; intro K_ hK_) | (refine zR ?_; intro K_ hK_) | (refine hK_ _ _ ?_; try clear hK_ K_) | refine sq_n ?_ | refine sq_r ?_ | refine sq_e ?_ | refine bq_n ?_ | refine bq_r ?_ | refine bq_q ?_ | refine zB ?_ | refine zX ?_ | refine zT ?_ | refine zK ?_ | refine gq_n ?_ | refine gq_r ?_ | refine gq_e ?_ | refine lq_n ?_ | refine lq_r ?_ | refine lq_e ?_ | refine bq_e (by decide) ?_) | ((with_reducible refine zC (b := ?b_) ?hb_ ?_ ?_); case hb_ => rfl) | ((conv => whnf); first | (with_reducible refine hK_ _ _ ?_; try clear hK_ K_) | (with_reducible refine fun (g_ : Sl) (o_ : Ow) => ?_) | (with_reducible first | exact True.intro | refine And.intro trivial ?_ | refine And.intro ?_ ?_) | exact Nat.le_of_ble_eq_true rfl | exact Or.inl rfl | (intro h_; cases h_) | (intro h_; (try simp only [vS1] at h_)) | rfl))) <;> (try (conv => whnf)) <;> (try first | change (_ : Int) ≤ _ | change (_ : Nat) ≤ _)
    rw [mod_nat1 (by omega)]
    exact congrArg vInt (W_cr' _ _ _ _ _)
  · rw [show k = xs.length by omega]; rfl
def roomOkC : Con := mkCon [.room] (fun x => x.1.length ≤ 1048576) fun x => vB (roomOk x.1)
theorem iRoomOk_ok : Good1 Try.prog n_impl_RoomOk roomOkC := by
  refine good_of (tys := tyL) (env := [(n_impl_between, btwC), (n_impl_pointsOk, pointsOkC), (n_impl_wallsOf, wallsOfC), (n_impl_turn, turnC), (n_impl_DoMeet, meetC), (n_impl_area, areaC)]) [] [] mixed tys ⟨between_ok, pointsOk_ok, wallsOf_ok, turn_ok, iDoMeet_ok, area_ok, trivial⟩ Try.func63 rfl (by kernel_rfl) (by decide) (by kernel_rfl) ?_
  rintro ⟨xs, ⟨⟩⟩ hlen
  change xs.length ≤ _ at hlen
  have hl := walls_len xs
  (repeat' (first | (with_reducible first | exact True.intro | refine zQ ?_ | (refine zG hG_ ?_; intro K_ hK_) | (refine zR ?_; intro K_ hK_) | (refine hK_ _ _ ?_; try clear hK_ K_) | refine sq_n ?_ | refine sq_r ?_ | refine sq_e ?_ | refine bq_n ?_ | refine bq_r ?_ | refine bq_q ?_ | refine zB ?_ | refine zX ?_ | refine zT ?_ | refine zK ?_ | refine gq_n ?_ | refine gq_r ?_ | refine gq_e ?_ | refine lq_n ?_ | refine lq_r ?_ | refine lq_e ?_ | refine bq_e (by decide) ?_) | ((with_reducible refine zC (b := ?b_) ?hb_ ?_ ?_); case hb_ => rfl) | ((conv => whnf); first | (with_reducible refine hK_ _ _ ?_; try clear hK_ K_) | (with_reducible refine fun (g_ : Sl) (o_ : Ow) => ?_) | (with_reducible first | exact True.intro | refine And.intro trivial ?_ | refine And.intro ?_ ?_) | exact Nat.le_of_ble_eq_true rfl | exact Or.inl rfl | (intro h_; cases h_) | (intro h_; (try simp only [vS1] at h_)) | rfl))) <;> (try (conv => whnf)) <;> (try first | change (_ : Int) ≤ _ | change (_ : Nat) ≤ _) <;> (try ((fail_if_success (with_reducible apply Exists.intro)); (try dsimp only); (try simp only [vS1])))
  all_goals (try (fail_if_success (with_reducible apply Exists.intro)); first | with_reducible assumption | omega | exact mdl (by omega) | exact ilo1 (by omega) | exact ilo2 (by omega) | exact ihi1 (by omega) (by omega) | exact ihi2 (by omega) (by omega))
  · symm; rw [← Bool.not_eq_true, roomOk_iff]; simp [btw] at *; omega
  · symm; rw [← Bool.not_eq_true, roomOk_iff]; simp [*]
  refine awp'_loop (fun k σ => k ≤ xs.length ∧ (∀ i, i < k → turn (pAt xs i) (pCy xs (i + 1)) (pCy xs (i + 2)) ≠ 0 ∧
    ∀ k, i + 2 ≤ k → k < xs.length → (k + 1) % xs.length ≠ i → meet (wl xs i) (wl xs k) = false) ∧ HasX σ [(1, vRoom xs), (3, vInt xs.length), (4, vWalls (walls xs)), (23, vWalls (walls xs)), (24, vInt (walls xs).length), (25, vInt k)] []) (fun k => xs.length - k) 0 ⟨Nat.zero_le _, fun i hi => absurd hi (by omega), ?_⟩ ?_
  · (repeat' (first | (with_reducible first | exact True.intro | refine zQ ?_ | (refine zG hG_ ?_; intro K_ hK_) | (refine zR ?_; intro K_ hK_) | (refine hK_ _ _ ?_; try clear hK_ K_) | refine sq_n ?_ | refine sq_r ?_ | refine sq_e ?_ | refine bq_n ?_ | refine bq_r ?_ | refine bq_q ?_ | refine zB ?_ | refine zX ?_ | refine zT ?_ | refine zK ?_ | refine gq_n ?_ | refine gq_r ?_ | refine gq_e ?_ | refine lq_n ?_ | refine lq_r ?_ | refine lq_e ?_ | refine bq_e (by decide) ?_) | ((with_reducible refine zC (b := ?b_) ?hb_ ?_ ?_); case hb_ => rfl) | ((conv => whnf); first | (with_reducible refine hK_ _ _ ?_; try clear hK_ K_) | (with_reducible refine fun (g_ : Sl) (o_ : Ow) => ?_) | (with_reducible first | exact True.intro | refine And.intro trivial ?_ | refine And.intro ?_ ?_) | exact Nat.le_of_ble_eq_true rfl | exact Or.inl rfl | (intro h_; cases h_) | (intro h_; (try simp only [vS1] at h_)) | rfl))) <;> (try (conv => whnf)) <;> (try first | change (_ : Int) ≤ _ | change (_ : Nat) ≤ _)
  rintro i s_ w_ ⟨hi, hall, h⟩
  obtain ⟨g, o, v, rfl, rfl⟩ := hasX_ex h
  clear h
  (repeat' (first | (with_reducible first | exact True.intro | refine zQ ?_ | (refine zG hG_ ?_; intro K_ hK_) | (refine zR ?_; intro K_ hK_) | (refine hK_ _ _ ?_; try clear hK_ K_) | refine sq_n ?_ | refine sq_r ?_ | refine sq_e ?_ | refine bq_n ?_ | refine bq_r ?_ | refine bq_q ?_ | refine zB ?_ | refine zX ?_ | refine zT ?_ | refine zK ?_ | refine gq_n ?_ | refine gq_r ?_ | refine gq_e ?_ | refine lq_n ?_ | refine lq_r ?_ | refine lq_e ?_ | refine bq_e (by decide) ?_) | ((with_reducible refine zC (b := ?b_) ?hb_ ?_ ?_); case hb_ => rfl) | ((conv => whnf); first | (with_reducible refine hK_ _ _ ?_; try clear hK_ K_) | (with_reducible refine fun (g_ : Sl) (o_ : Ow) => ?_) | (with_reducible first | exact True.intro | refine And.intro trivial ?_ | refine And.intro ?_ ?_) | exact Nat.le_of_ble_eq_true rfl | exact Or.inl rfl | (intro h_; cases h_) | (intro h_; (try simp only [vS1] at h_)) | rfl))) <;> (try (conv => whnf)) <;> (try first | change (_ : Int) ≤ _ | change (_ : Nat) ≤ _) <;> (try ((fail_if_success (with_reducible apply Exists.intro)); (try dsimp only); (try simp only [vS1])))
  all_goals (try (fail_if_success (with_reducible apply Exists.intro)); first | with_reducible assumption | omega | exact mdl (by omega) | exact ilo1 (by omega) | exact ilo2 (by omega) | exact ihi1 (by omega) (by omega) | exact ihi2 (by omega) (by omega))
  · symm; rw [← Bool.not_eq_true, roomOk_iff, okAt_half]
    rintro ⟨-, -, h, -⟩
    have h1 := (h i (by omega)).1
    rw [walls_get (by omega)] at *
    simp only [mod_nat2 (show i + 2 ≤ 4611686018427387904 by omega), Int.toNat_natCast] at *
    simp_all [wl]
  · have hin : (i : Int) < (walls xs).length := by omega
    have ht : turn (pAt xs i) (pCy xs (i + 1)) (pCy xs (i + 2)) ≠ 0 := by
      have := h_
      rw [walls_get (by omega), mod_nat2 (by omega), Int.toNat_natCast] at this
      exact fun e => by simp_all [wl]
    refine awp'_loop (fun k σ => i + 2 ≤ k ∧ (∀ j, i + 2 ≤ j → j < k → j < xs.length → (j + 1) % xs.length ≠ i → meet (wl xs i) (wl xs j) = false) ∧ HasX σ [(1, vRoom xs), (3, vInt xs.length), (4, vWalls (walls xs)), (23, vWalls (walls xs)), (24, vInt (walls xs).length), (25, vInt i), (5, vInt i), (7, vInt k)]
      [(6, 6, true, .box t_impl_Wall (cWall ((walls xs).getD i ((0, 0), (0, 0)))))]) (fun k => xs.length - k) (i + 2) ⟨Nat.le_refl _, fun j h1 h2 => absurd h1 (by omega), ?_⟩ ?_
    · (repeat' (first | (with_reducible first | exact True.intro | refine zQ ?_ | (refine zG hG_ ?_; intro K_ hK_) | (refine zR ?_; intro K_ hK_) | (refine hK_ _ _ ?_; try clear hK_ K_) | refine sq_n ?_ | refine sq_r ?_ | refine sq_e ?_ | refine bq_n ?_ | refine bq_r ?_ | refine bq_q ?_ | refine zB ?_ | refine zX ?_ | refine zT ?_ | refine zK ?_ | refine gq_n ?_ | refine gq_r ?_ | refine gq_e ?_ | refine lq_n ?_ | refine lq_r ?_ | refine lq_e ?_ | refine bq_e (by decide) ?_) | ((with_reducible refine zC (b := ?b_) ?hb_ ?_ ?_); case hb_ => rfl) | ((conv => whnf); first | (with_reducible refine hK_ _ _ ?_; try clear hK_ K_) | (with_reducible refine fun (g_ : Sl) (o_ : Ow) => ?_) | (with_reducible first | exact True.intro | refine And.intro trivial ?_ | refine And.intro ?_ ?_) | exact Nat.le_of_ble_eq_true rfl | exact Or.inl rfl | (intro h_; cases h_) | (intro h_; (try simp only [vS1] at h_)) | rfl))) <;> (try (conv => whnf)) <;> (try first | change (_ : Int) ≤ _ | change (_ : Nat) ≤ _)
      exact congrArg vInt (by rw [W_in (by omega) (by omega)]; rfl)
    rintro k s_ w_ ⟨hk, hin2, h⟩
    obtain ⟨g, o, v, rfl, rfl⟩ := hasX_ex h
    clear h
    have hk2 : (k : Int) < xs.length → IntKind.i64.wrap ((k : Int) + 1) = ((k + 1 : Nat) : Int) := fun _ => W_nat (by omega)
    have hk3 : (k : Int) < xs.length → (IntKind.i64.wrap ((k : Int) + 1)).tmod xs.length = (((k + 1) % xs.length : Nat) : Int) := fun _ => mod_nat1 (by omega)
    (repeat' (first | (with_reducible first | exact True.intro | refine zQ ?_ | (refine zG hG_ ?_; intro K_ hK_) | (refine zR ?_; intro K_ hK_) | (refine hK_ _ _ ?_; try clear hK_ K_) | refine sq_n ?_ | refine sq_r ?_ | refine sq_e ?_ | refine bq_n ?_ | refine bq_r ?_ | refine bq_q ?_ | refine zB ?_ | refine zX ?_ | refine zT ?_ | refine zK ?_ | refine gq_n ?_ | refine gq_r ?_ | refine gq_e ?_ | refine lq_n ?_ | refine lq_r ?_ | refine lq_e ?_ | refine bq_e (by decide) ?_) | ((with_reducible refine zC (b := ?b_) ?hb_ ?_ ?_); case hb_ => rfl) | ((conv => whnf); first | (with_reducible refine hK_ _ _ ?_; try clear hK_ K_) | (with_reducible refine fun (g_ : Sl) (o_ : Ow) => ?_) | (with_reducible first | exact True.intro | refine And.intro trivial ?_ | refine And.intro ?_ ?_) | exact Nat.le_of_ble_eq_true rfl | exact Or.inl rfl | (intro h_; cases h_) | (intro h_; (try simp only [vS1] at h_)) | rfl))) <;> (try (conv => whnf)) <;> (try first | change (_ : Int) ≤ _ | change (_ : Nat) ≤ _) <;> (try ((fail_if_success (with_reducible apply Exists.intro)); (try dsimp only); (try simp only [vS1])))
    all_goals (try (fail_if_success (with_reducible apply Exists.intro)); first | with_reducible assumption | omega | exact mdl (by omega) | exact ilo1 (by omega) | exact ilo2 (by omega) | exact ihi1 (by omega) (by omega) | exact ihi2 (by omega) (by omega))
    · rename_i hlt hne
      have hm := h_
      symm; rw [← Bool.not_eq_true, roomOk_iff, okAt_half]
      rintro ⟨-, -, h, -⟩
      rw [hk3 hlt] at hne
      rw [walls_get (by omega), walls_get (by omega)] at hm
      rw [(h i (by omega)).2 k hk (by omega) (fun e => by simp [e] at hne)] at hm
      cases hm
    · rename_i hlt hne
      have hm := h_
      rw [walls_get (by omega), walls_get (by omega)] at hm
      refine ⟨k + 1, by omega, by omega, fun j h1 h2 h3 h4 => ?_, ?_⟩
      · rcases Nat.lt_or_ge j k with h5 | h5
        · exact hin2 j h1 h5 h3 h4
        · rw [show j = k by omega]; exact hm
      · rw [← hk2 hlt]; (repeat' (first | (with_reducible first | exact True.intro | refine zQ ?_ | (refine zG hG_ ?_; intro K_ hK_) | (refine zR ?_; intro K_ hK_) | (refine hK_ _ _ ?_; try clear hK_ K_) | refine sq_n ?_ | refine sq_r ?_ | refine sq_e ?_ | refine bq_n ?_ | refine bq_r ?_ | refine bq_q ?_ | refine zB ?_ | refine zX ?_ | refine zT ?_ | refine zK ?_ | refine gq_n ?_ | refine gq_r ?_ | refine gq_e ?_ | refine lq_n ?_ | refine lq_r ?_ | refine lq_e ?_ | refine bq_e (by decide) ?_) | ((with_reducible refine zC (b := ?b_) ?hb_ ?_ ?_); case hb_ => rfl) | ((conv => whnf); first | (with_reducible refine hK_ _ _ ?_; try clear hK_ K_) | (with_reducible refine fun (g_ : Sl) (o_ : Ow) => ?_) | (with_reducible first | exact True.intro | refine And.intro trivial ?_ | refine And.intro ?_ ?_) | exact Nat.le_of_ble_eq_true rfl | exact Or.inl rfl | (intro h_; cases h_) | (intro h_; (try simp only [vS1] at h_)) | rfl))) <;> (try (conv => whnf)) <;> (try first | change (_ : Int) ≤ _ | change (_ : Nat) ≤ _)
    · rename_i hlt
      have hne := h_
      rw [hk3 hlt] at hne
      refine ⟨k + 1, by omega, by omega, fun j h1 h2 h3 h4 => ?_, ?_⟩
      · rcases Nat.lt_or_ge j k with h5 | h5
        · exact hin2 j h1 h5 h3 h4
        · exact absurd (by rw [show j = k by omega]; exact Int.ofNat_inj.1 (bne_eq_false_iff_eq.1 hne)) h4
      · rw [← hk2 hlt]; (repeat' (first | (with_reducible first | exact True.intro | refine zQ ?_ | (refine zG hG_ ?_; intro K_ hK_) | (refine zR ?_; intro K_ hK_) | (refine hK_ _ _ ?_; try clear hK_ K_) | refine sq_n ?_ | refine sq_r ?_ | refine sq_e ?_ | refine bq_n ?_ | refine bq_r ?_ | refine bq_q ?_ | refine zB ?_ | refine zX ?_ | refine zT ?_ | refine zK ?_ | refine gq_n ?_ | refine gq_r ?_ | refine gq_e ?_ | refine lq_n ?_ | refine lq_r ?_ | refine lq_e ?_ | refine bq_e (by decide) ?_) | ((with_reducible refine zC (b := ?b_) ?hb_ ?_ ?_); case hb_ => rfl) | ((conv => whnf); first | (with_reducible refine hK_ _ _ ?_; try clear hK_ K_) | (with_reducible refine fun (g_ : Sl) (o_ : Ow) => ?_) | (with_reducible first | exact True.intro | refine And.intro trivial ?_ | refine And.intro ?_ ?_) | exact Nat.le_of_ble_eq_true rfl | exact Or.inl rfl | (intro h_; cases h_) | (intro h_; (try simp only [vS1] at h_)) | rfl))) <;> (try (conv => whnf)) <;> (try first | change (_ : Int) ≤ _ | change (_ : Nat) ≤ _)
    · have hge := h_
      refine ⟨i + 1, by omega, by omega, fun j hj => ?_, ?_⟩
      · rcases Nat.lt_or_ge j i with h5 | h5
        · exact hall j h5
        · rw [show j = i by omega]
          refine ⟨?_, fun m h1 h2 h3 => hin2 m h1 (by omega) h2 h3⟩
          exact ht
      · rw [← W_nat (by omega)]; (repeat' (first | (with_reducible first | exact True.intro | refine zQ ?_ | (refine zG hG_ ?_; intro K_ hK_) | (refine zR ?_; intro K_ hK_) | (refine hK_ _ _ ?_; try clear hK_ K_) | refine sq_n ?_ | refine sq_r ?_ | refine sq_e ?_ | refine bq_n ?_ | refine bq_r ?_ | refine bq_q ?_ | refine zB ?_ | refine zX ?_ | refine zT ?_ | refine zK ?_ | refine gq_n ?_ | refine gq_r ?_ | refine gq_e ?_ | refine lq_n ?_ | refine lq_r ?_ | refine lq_e ?_ | refine bq_e (by decide) ?_) | ((with_reducible refine zC (b := ?b_) ?hb_ ?_ ?_); case hb_ => rfl) | ((conv => whnf); first | (with_reducible refine hK_ _ _ ?_; try clear hK_ K_) | (with_reducible refine fun (g_ : Sl) (o_ : Ow) => ?_) | (with_reducible first | exact True.intro | refine And.intro trivial ?_ | refine And.intro ?_ ?_) | exact Nat.le_of_ble_eq_true rfl | exact Or.inl rfl | (intro h_; cases h_) | (intro h_; (try simp only [vS1] at h_)) | rfl))) <;> (try (conv => whnf)) <;> (try first | change (_ : Int) ≤ _ | change (_ : Nat) ≤ _)
  · have hin : i = xs.length := by omega
    subst hin
    have hb := btw_iff.1 ‹btw _ _ _ = true›
    have hb2 : 3 ≤ xs.length ∧ xs.length ≤ 10 := by omega
    rw [Bool.eq_iff_iff, roomOk_iff, okAt_half]
    simp_all [btw]
end Go.Proofs.Ytnepfcnlngpchaa
