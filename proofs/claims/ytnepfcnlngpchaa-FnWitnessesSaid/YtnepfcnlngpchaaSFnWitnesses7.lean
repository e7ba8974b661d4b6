/- What the proof of 'FnWitnesses' needs, part 7: conditions and steps of the functions that it reaches, and the mathematics. -/
import Derived.Test.YtnepfcnlngpchaaRows
import Derived.WalkKit
import Derived.WalkSpells
import Derived.Below
import Derived.Orders
import Derived.Maps.AppendAt
import Derived.Laws.StructEq
import Derived.WideShapes
import Derived.ChangeSlices
import Derived.Deep.Strs
import Derived.ChangeOld
import Derived.Shelf.SlLaysF0
import Derived.Shelf.SlSortCmp.InsertionK
import Derived.Shelf.SlSortCmp.SmallK
import Derived.Shelf.SlSortCmp.Xorshift
import Derived.Sort.LotA
import Derived.Test.YtnepfcnlngpchaaSFnWitnesses6
set_option linter.unusedSimpArgs false
set_option linter.unusedVariables false
namespace Go.Proofs.Ytnepfcnlngpchaa.Geo
abbrev partB (P : Poly) (m : Nat) : Poly := (P.rot m).arc (P.n - m)
theorem A_walls {P : Poly} {m : Nat} {Q : Pt → Pt → Prop} : (∀ k, k < (P.arc m).n → Q ((P.arc m).v k) ((P.arc m).v (k + 1))) ↔ (∀ k, k < m → Q (P.v k) (P.v (k + 1))) ∧ Q (P.v m) (P.v 0) := by
  constructor
  · intro h
    refine ⟨fun k hk => ?_, ?_⟩
    · have := h k (by show k < m + 1; omega)
      rwa [arc_v P (by omega), arc_v P (by omega)] at this
    · have := h m (by show m < m + 1; omega)
      rwa [arc_v P (Nat.le_refl m), arc_v0] at this
  · rintro ⟨h1, h2⟩ k hk
    have hk : k < m + 1 := hk
    rcases (show k < m ∨ k = m by omega) with g | g
    · rw [arc_v P (by omega), arc_v P (by omega)]; exact h1 k g
    · subst g; rw [arc_v P (Nat.le_refl k), arc_v0]; exact h2
theorem B_v {P : Poly} {m j : Nat} (hm : m ≤ P.n) (hj : j ≤ P.n - m) : (partB P m).v j = P.v (m + j) := arc_v (P.rot m) hj
theorem B_walls {P : Poly} {m : Nat} (hm : m < P.n) {Q : Pt → Pt → Prop} : (∀ k, k < (partB P m).n → Q ((partB P m).v k) ((partB P m).v (k + 1))) ↔ (∀ k, m ≤ k → k < P.n → Q (P.v k) (P.v (k + 1))) ∧ Q (P.v 0) (P.v m) := by
  have h := A_walls (P := P.rot m) (m := P.n - m) (Q := Q)
  have e1 : (P.rot m).v (P.n - m) = P.v 0 := by show P.v (m + (P.n - m)) = _; rw [show m + (P.n - m) = P.n by omega, P.vn]
  have e0 : (P.rot m).v 0 = P.v m := by show P.v (m + 0) = _; rw [Nat.add_zero]
  rw [e1, e0] at h
  rw [h]
  refine and_congr ⟨fun g k h1 h2 => ?_, fun g k hk => ?_⟩ Iff.rfl
  · have := g (k - m) (by omega)
    rwa [show (P.rot m).v (k - m) = P.v k by show P.v (m + (k - m)) = _; rw [show m + (k - m) = k by omega], show (P.rot m).v (k - m + 1) = P.v (k + 1) by show P.v (m + (k - m + 1)) = _; rw [show m + (k - m + 1) = k + 1 by omega]] at this
  · exact g (m + k) (by omega) (by omega)
theorem P_walls {P : Poly} {m : Nat} (hm : m < P.n) {Q : Pt → Pt → Prop} (hA : ∀ k, k < (P.arc m).n → Q ((P.arc m).v k) ((P.arc m).v (k + 1))) (hB : ∀ k, k < (partB P m).n → Q ((partB P m).v k) ((partB P m).v (k + 1))) : ∀ k, k < P.n → Q (P.v k) (P.v (k + 1)) := fun k hk => by
  rcases (show k < m ∨ m ≤ k by omega) with g | g
  · exact (A_walls.1 hA).1 k g
  · exact ((B_walls hm).1 hB).1 k g hk
theorem cut_sum (h : Aff) (P : Poly) (K : Int) {m : Nat} (hm : m ≤ P.n) (x : Pt) : wnd h (P.sc K).way x = wnd h ((P.arc m).sc K).way x + wnd h ((partB P m).sc K).way x := wnd_cut h (P.sc K) hm x
def OffP (P : Poly) (K : Int) (m : Pt) : Prop := ∀ k, k < P.n → Off m (smul K (P.v k)) (smul K (P.v (k + 1)))
def Inn (P : Poly) (K : Int) (m : Pt) : Prop := OffP P K m ∧ ∃ h, NC h ∧ wnd h (P.sc K).way m = 1
theorem Outp.off {P : Poly} {K : Int} {m : Pt} (h : Outp P K m) : OffP P K m := h.1
theorem Outp.w {P : Poly} {K : Int} {m : Pt} (h : Outp P K m) {g : Aff} (hg : NC g) : wnd g (P.sc K).way m = 0 := by
  obtain ⟨ho, f, hf, e⟩ := h
  rw [← e]; exact wnd_free hg hf ho
theorem Inn.w {P : Poly} {K : Int} {m : Pt} (h : Inn P K m) {g : Aff} (hg : NC g) : wnd g (P.sc K).way m = 1 := by
  obtain ⟨ho, f, hf, e⟩ := h
  rw [← e]; exact wnd_free hg hf ho
def up : Aff := ⟨0, 1, 0⟩
theorem nc_up : NC up := .inr (by decide)
theorem Inn.not_out {P : Poly} {K : Int} {m : Pt} (h : Inn P K m) : ¬ Outp P K m := fun o => by
  have := o.w nc_up
  rw [h.w nc_up] at this
  exact absurd this (by decide)
theorem OffP.scale {P : Poly} {K : Int} {m : Pt} (h : OffP P K m) {L : Int} (hL : 0 < L) : OffP P (L * K) (smul L m) := fun k hk => by
  rw [← smul2, ← smul2]; exact (h k hk).sc hL
theorem Inn.scale {P : Poly} {K : Int} {m : Pt} (h : Inn P K m) {L : Int} (hL : 0 < L) : Inn P (L * K) (smul L m) := by
  obtain ⟨ho, g, hg, e⟩ := h
  exact ⟨OffP.scale ho hL, g.sc L, hg, by rw [wnd_scale g P hL]; exact e⟩
theorem near {P : Poly} {K : Int} {x : Pt} (ho : OffP P K x) (d : Pt) : Late fun L => OffP P (L * K) (padd (smul L x) d) ∧ ∀ h : Aff, wnd (h.sc L) (P.sc (L * K)).way (padd (smul L x) d) = wnd h (P.sc K).way x := by
  have : Late fun L => ∀ k, k < P.n → Part (smul L (smul K (P.v k))) (smul L (smul K (P.v (k + 1)))) (padd (smul L x) d) (padd (smul L x) (0, 0)) := Late.all fun k hk => (ho k hk).near d (0, 0)
  refine this.imp fun L hL g => ?_
  have e0 : padd (smul L x) (0, 0) = smul L x := by unfold padd; simp
  rw [e0] at g
  refine ⟨fun k hk => ?_, fun h => ?_⟩
  · have := (g k hk).off1
    rwa [smul2, smul2] at this
  · rw [← wnd_scale h P hL]
    refine wnd_step (h.sc L) (P.sc (L * K)).way fun k hk => ?_
    have := g k hk
    rw [smul2, smul2] at this
    exact this
theorem wall_sides {Q : Poly} (hQ : SimpleP Q) {h : Aff} (hg : Gen h Q) {l : Int} (hl : LeftIs h Q.way l) {k : Nat} (hk : k < Q.n) {s t K : Int} (hs : 0 < s) (ht : 0 < t) (e : s + t = K) {x : Pt} (hx : x = padd (smul s (Q.v k)) (smul t (Q.v (k + 1)))) {d : Pt} :
    Late fun L => (0 < turnZ (Q.v k) (Q.v (k + 1)) (padd (Q.v k) d) → wnd (h.sc (L * K)) (Q.sc (L * K)).way (padd (smul L x) d) = l ∧ OffP Q (L * K) (padd (smul L x) d)) ∧
      (turnZ (Q.v k) (Q.v (k + 1)) (padd (Q.v k) d) < 0 → wnd (h.sc (L * K)) (Q.sc (L * K)).way (padd (smul L x) d) = l - 1 ∧ OffP Q (L * K) (padd (smul L x) d)) := by
  have hn := hQ.n3
  have hK : 0 < K := by omega
  have hon : OnI x (smul K (Q.v k)) (smul K (Q.v (k + 1))) := by
    refine ⟨s, t, hs, ht, ?_, ?_⟩
    · rw [hx, ← e]; unfold padd smul; simp only; grind
    · rw [hx, ← e]; unfold padd smul; simp only; grind
  have hoff : ∀ j, j < Q.n → j ≠ k → Off x (smul K (Q.v j)) (smul K (Q.v (j + 1))) := fun j hj hjk => by
    have := (hQ.simple.sc hK).inn (k := k) hk hon hon (j := j) hj hjk
    exact this.off1
  have : Late fun L => ∀ j, j < Q.n → j ≠ k → Part (smul L (smul K (Q.v j))) (smul L (smul K (Q.v (j + 1)))) (padd (smul L x) d) (padd (smul L x) (0, 0)) := Late.all fun j hj => by
    by_cases hjk : j = k
    · exact Late.of fun _ _ h => absurd hjk h
    · exact ((hoff j hj hjk).near d (0, 0)).imp fun _ _ g _ => g
  refine this.imp fun L hL g => ?_
  have e0 : padd (smul L x) (0, 0) = smul L x := by unfold padd; simp
  rw [e0] at g
  have hLK : 0 < L * K := pp hL hK
  have g' : ∀ j, j < Q.n → j ≠ k → Part (smul (L * K) (Q.v j)) (smul (L * K) (Q.v (j + 1))) (padd (smul L x) d) (smul L x) := fun j hj hjk => by
    have := g j hj hjk
    rwa [smul2, smul2] at this
  have honL : OnI (smul L x) (smul (L * K) (Q.v k)) (smul (L * K) (Q.v (k + 1))) := by
    have := smul_on hL hon
    rwa [smul2, smul2] at this
  have hlam := hl.2.1 (L * K) k (smul L x) hLK hk honL
  have hsl : Sloped (h.sc (L * K)) (Q.way.sc (L * K)) := fun j hj => by
    have := hg.sloped (by omega) j hj
    show (h.sc (L * K)).ev (smul (L * K) (Q.v j)) ≠ (h.sc (L * K)).ev (smul (L * K) (Q.v (j + 1)))
    rw [ev_sc0, ev_sc0]
    exact fun e => this (Int.eq_of_mul_eq_mul_left (by omega) e)
  have hturn : turnZ (smul (L * K) (Q.v k)) (smul (L * K) (Q.v (k + 1))) (padd (smul L x) d) = (L * K) * turnZ (Q.v k) (Q.v (k + 1)) (padd (Q.v k) d) := by
    rw [hx, ← e]; unfold turnZ padd smul; grind
  have off : turnZ (Q.v k) (Q.v (k + 1)) (padd (Q.v k) d) ≠ 0 → OffP Q (L * K) (padd (smul L x) d) := fun hne j hj => by
    by_cases hjk : j = k
    · subst hjk
      exact off_turn (by rw [hturn]; exact fun e => by rcases Int.mul_eq_zero.1 e with q | q <;> omega)
    · exact (g' j hj hjk).off1
  refine ⟨fun hp => ⟨?_, off (by omega)⟩, fun hp => ⟨?_, off (by omega)⟩⟩
  · have := wnd_left hsl (k := k) hk honL (fun j hj hjk => g' j hj hjk) (by show 0 < turnZ (smul (L * K) (Q.v k)) (smul (L * K) (Q.v (k + 1))) _; rw [hturn]; exact pp hLK hp)
    rw [hlam] at this; exact this
  · have := wnd_right hsl (k := k) hk honL (fun j hj hjk => g' j hj hjk) (by show turnZ (smul (L * K) (Q.v k)) (smul (L * K) (Q.v (k + 1))) _ < 0; rw [hturn]; exact pm hLK hp)
    rw [hlam] at this; exact this
theorem chord_off {P : Poly} {m : Nat} (c : Chord P m) {s t K : Int} (hs : 0 < s) (ht : 0 < t) (e : s + t = K) : OffP P K (padd (smul s (P.v 0)) (smul t (P.v m))) := by
  have hm2 := c.m2
  have hmn := c.mn
  have hK : 0 < K := by omega
  have hon : OnI (padd (smul s (P.v 0)) (smul t (P.v m))) (smul K (P.v 0)) (smul K (P.v m)) := by
    refine ⟨s, t, hs, ht, ?_, ?_⟩
    · rw [← e]; unfold padd smul; simp only; grind
    · rw [← e]; unfold padd smul; simp only; grind
  have bend : ∀ {a b z : Pt}, Bends a b z → OnI (padd (smul s (P.v 0)) (smul t (P.v m))) (smul K a) (smul K b) → Off (padd (smul s (P.v 0)) (smul t (P.v m))) (smul K b) (smul K z) := fun hb ho => ((hb.sc hK).part ho ho).off1
  intro k hk
  rcases (show k = 0 ∨ k + 1 = m ∨ k = m ∨ k + 1 = P.n ∨ (0 < k ∧ k + 1 < P.n ∧ k ≠ m ∧ k + 1 ≠ m) by omega) with g | g | g | g | ⟨g1, g2, g3, g4⟩
  · subst g; exact bend c.b0.1.1 hon.swap
  · have := bend c.bm.1.1 hon
    rw [← g] at this ⊢
    rw [show k + 1 - 1 = k by omega] at this
    exact this.swap
  · subst g; exact bend c.bm.2.1 hon
  · have := bend c.b0.2.1 hon.swap
    rw [show P.n - 1 = k by omega] at this
    rw [g, P.vn]; exact this.swap
  · exact (((c.apart k g1 g2 g3 g4).sc hK).inn hon hon).off1
theorem sc_sc (h : Aff) (L K : Int) : (h.sc K).sc L = h.sc (L * K) := by unfold Aff.sc; rw [Int.mul_assoc]
theorem chord_sum {P : Poly} (hP : SimpleP P) {m : Nat} (c : Chord P m) {h : Aff} (hg : Gen h P) {l1 l2 : Int} (hA : LeftIs h (P.arc m).way l1) (hB : LeftIs h (partB P m).way l2) {s t K : Int} (hs : 0 < s) (ht : 0 < t) (e : s + t = K) :
    wnd (h.sc K) (P.sc K).way (padd (smul s (P.v 0)) (smul t (P.v m))) = l1 + l2 - 1 := by
  have hm2 := c.m2
  have hmn := c.mn
  have hSA := hP.arc c
  have hSB : SimpleP (partB P m) := (hP.rot m).arc c.rot
  have hgA : Gen h (P.arc m) := hg.arc (by omega)
  have hgB : Gen h (partB P m) := (hg.rot m).arc (by show P.n - m < P.n; omega)
  have hab : P.v 0 ≠ P.v m := hP.inj (by omega) (by omega) (by omega)
  have hN := sq_pos hab
  have nB : P.n - m < (partB P m).n := by show P.n - m < P.n - m + 1; omega
  have bB0 : (partB P m).v (P.n - m) = P.v 0 := by rw [B_v (by omega) (by omega), show m + (P.n - m) = P.n by omega, P.vn]
  have bB1 : (partB P m).v (P.n - m + 1) = P.v m := by show (P.rot m).v ((P.n - m + 1) % (P.n - m + 1)) = _; rw [Nat.mod_self]; show P.v (m + 0) = _; rw [Nat.add_zero]
  have lA := wall_sides hSA hgA hA (k := m) (by show m < m + 1; omega) ht hs (show t + s = K by omega) (x := padd (smul s (P.v 0)) (smul t (P.v m))) (by rw [arc_v P (Nat.le_refl m), arc_v0]; unfold padd smul; refine Prod.ext ?_ ?_ <;> simp only <;> omega) (d := rotP (psub (P.v 0) (P.v m)))
  have lB := wall_sides hSB hgB hB (k := P.n - m) nB hs ht e (x := padd (smul s (P.v 0)) (smul t (P.v m))) (by rw [bB0, bB1]) (d := rotP (psub (P.v 0) (P.v m)))
  obtain ⟨L, hL, ⟨gA, gB⟩, gP⟩ := ((lA.and lB).and (near (chord_off c hs ht e) (rotP (psub (P.v 0) (P.v m))))).get
  rw [arc_v P (Nat.le_refl m), arc_v0] at gA
  rw [bB0, bB1] at gB
  have tA : 0 < turnZ (P.v m) (P.v 0) (padd (P.v m) (rotP (psub (P.v 0) (P.v m)))) := by
    have : turnZ (P.v m) (P.v 0) (padd (P.v m) (rotP (psub (P.v 0) (P.v m)))) = ((P.v m).1 - (P.v 0).1) * ((P.v m).1 - (P.v 0).1) + ((P.v m).2 - (P.v 0).2) * ((P.v m).2 - (P.v 0).2) := by unfold turnZ padd rotP psub; grind
    omega
  have tB : turnZ (P.v 0) (P.v m) (padd (P.v 0) (rotP (psub (P.v 0) (P.v m)))) < 0 := by
    have : turnZ (P.v 0) (P.v m) (padd (P.v 0) (rotP (psub (P.v 0) (P.v m)))) = -(((P.v m).1 - (P.v 0).1) * ((P.v m).1 - (P.v 0).1) + ((P.v m).2 - (P.v 0).2) * ((P.v m).2 - (P.v 0).2)) := by unfold turnZ padd rotP psub; grind
    omega
  have wA := (gA.1 tA).1
  have wB := (gB.2 tB).1
  have wP := gP.2 (h.sc K)
  rw [sc_sc, cut_sum _ P _ (show m ≤ P.n by omega), wA, wB] at wP
  omega
structure Cut (P : Poly) (m : Nat) : Prop where
  c : Chord P m
  a : 0 < (P.arc m).area
  b : 0 < (partB P m).area
theorem left_of_area {P : Poly} (hP : SimpleP P) {h : Aff} (hg : Gen h P) (ha : 0 < P.area) : LeftIs h P.way 1 := ((pos_iff hP hg).2 ha).left hP hg
theorem Cut.simA {P : Poly} (hP : SimpleP P) {m : Nat} (c : Cut P m) : SimpleP (P.arc m) := hP.arc c.c
theorem Cut.simB {P : Poly} (hP : SimpleP P) {m : Nat} (c : Cut P m) : SimpleP (partB P m) := (hP.rot m).arc c.c.rot
theorem Cut.area {P : Poly} {m : Nat} (c : Cut P m) : 0 < P.area := by
  have := area_cut P (m := m) (by have := c.c.mn; omega)
  have h1 := c.a
  have h2 : 0 < ((P.rot m).arc (P.n - m)).area := c.b
  omega
theorem Cut.inn {P : Poly} (hP : SimpleP P) {m : Nat} (c : Cut P m) {s t K : Int} (hs : 0 < s) (ht : 0 < t) (e : s + t = K) : Inn P K (padd (smul s (P.v 0)) (smul t (P.v m))) := by
  have hm2 := c.c.m2
  have hmn := c.c.mn
  obtain ⟨M, -, hg⟩ := (hM_gen hP).get
  have := chord_sum hP c.c hg (left_of_area (c.simA hP) (hg.arc (by omega)) c.a) (left_of_area (c.simB hP) ((hg.rot m).arc (by show P.n - m < P.n; omega)) c.b) hs ht e
  exact ⟨chord_off c.c hs ht e, (hM M).sc K, .inl (show (1 : Int) ≠ 0 by decide), this⟩
theorem Cut.out {P : Poly} {m : Nat} (c : Cut P m) {K : Int} {x : Pt} (hA : Outp (P.arc m) K x) (hB : Outp (partB P m) K x) : Outp P K x := by
  have hmn := c.c.mn
  refine ⟨P_walls (m := m) (by omega) (Q := fun a b => Off x (smul K a) (smul K b)) hA.1 hB.1, up, nc_up, ?_⟩
  rw [cut_sum _ P K (show m ≤ P.n by omega), hA.w nc_up, hB.w nc_up]; rfl
theorem Cut.out_both {P : Poly} (hP : SimpleP P) {m : Nat} (c : Cut P m) {K : Int} (hK : 0 < K) {x : Pt} (h : Outp P K x) : Outp (P.arc m) K x ∧ Outp (partB P m) K x := by
  have hm2 := c.c.m2
  have hmn := c.c.mn
  have hab : P.v 0 ≠ P.v m := hP.inj (by omega) (by omega) (by omega)
  have habK : smul K (P.v 0) ≠ smul K (P.v m) := fun e => hab (Prod.ext (Int.eq_of_mul_eq_mul_left (by omega) (congrArg Prod.fst e)) (Int.eq_of_mul_eq_mul_left (by omega) (congrArg Prod.snd e)))
  have hoff : Off x (smul K (P.v 0)) (smul K (P.v m)) := by
    rcases off_or_on x habK with g | g
    · exact g
    · exfalso
      obtain ⟨s, t, hs, ht, h0, hf⟩ := g
      have x1 := hf ⟨1, 0, 0⟩
      have x2 := hf ⟨0, 1, 0⟩
      simp only [Aff.ev, Int.one_mul, Int.zero_mul, Int.zero_add, Int.add_zero] at x1 x2
      have ends : ∀ j, j < P.n → x ≠ smul K (P.v j) := fun j hj e => by
        have := h.1 j hj
        rw [e] at this
        exact (Off.ne this).1 rfl
      by_cases s0 : s = 0
      · refine ends m (by omega) (Prod.ext ?_ ?_)
        · rw [s0] at x1; exact Int.eq_of_mul_eq_mul_left (show t ≠ 0 by omega) (by simpa using x1)
        · rw [s0] at x2; exact Int.eq_of_mul_eq_mul_left (show t ≠ 0 by omega) (by simpa using x2)
      by_cases t0 : t = 0
      · refine ends 0 (by omega) (Prod.ext ?_ ?_)
        · rw [t0] at x1; exact Int.eq_of_mul_eq_mul_left (show s ≠ 0 by omega) (by simpa using x1)
        · rw [t0] at x2; exact Int.eq_of_mul_eq_mul_left (show s ≠ 0 by omega) (by simpa using x2)
      have hi := c.inn hP (s := s * K) (t := t * K) (K := (s + t) * K) (pp (by omega) hK) (pp (by omega) hK) (by rw [Int.add_mul])
      have ho := h.scale (L := s + t) h0
      have e : smul (s + t) x = padd (smul (s * K) (P.v 0)) (smul (t * K) (P.v m)) := by
        unfold smul padd at *
        refine Prod.ext ?_ ?_
        · show (s + t) * x.1 = s * K * (P.v 0).1 + t * K * (P.v m).1
          rw [x1]; grind
        · show (s + t) * x.2 = s * K * (P.v 0).2 + t * K * (P.v m).2
          rw [x2]; grind
      rw [e] at ho
      exact hi.not_out ho
  have oA : OffP (P.arc m) K x := A_walls (Q := fun a b => Off x (smul K a) (smul K b)) |>.2 ⟨fun k hk => h.1 k (by omega), hoff.swap⟩
  have oB : OffP (partB P m) K x := (B_walls (show m < P.n by omega) (Q := fun a b => Off x (smul K a) (smul K b))).2 ⟨fun k _ hk => h.1 k hk, hoff⟩
  have sum := cut_sum up P K (show m ≤ P.n by omega) x
  rw [h.w nc_up] at sum
  have wA := wnd_zero_oneK (c.simA hP) c.a hK nc_up oA
  have wB := wnd_zero_oneK (c.simB hP) c.b hK nc_up oB
  exact ⟨⟨oA, up, nc_up, by omega⟩, ⟨oB, up, nc_up, by omega⟩⟩
theorem Cut.noout {P : Poly} (hP : SimpleP P) {m : Nat} (c : Cut P m) {a b : Pt} (h : NoOut (P.arc m) a b ∨ NoOut (partB P m) a b) : NoOut P a b := fun s t hs ht hst o => by
  obtain ⟨h1, h2⟩ := c.out_both hP hst o
  rcases h with h | h
  · exact h s t hs ht hst h1
  · exact h s t hs ht hst h2
theorem tri_in {P : Poly} (hn : P.n = 3) {p : Pt} (hp : ¬ Outp P 1 p) : ∀ k, k < P.n → 0 ≤ turnZ (P.v k) (P.v (k + 1)) (P.v (k + 2)) → 0 ≤ turnZ (P.v k) (P.v (k + 1)) p := fun k hk ht => by
  rcases (show 0 ≤ turnZ (P.v k) (P.v (k + 1)) p ∨ turnZ (P.v k) (P.v (k + 1)) p < 0 by omega) with g | g
  · exact g
  · refine absurd (out_half (f := Aff.turn (P.v k) (P.v (k + 1))) fun j hj => ?_) hp
    rw [ev_turn, ev_turn]
    have e : P.v j = P.v k ∨ P.v j = P.v (k + 1) ∨ P.v j = P.v (k + 2) := by
      rcases (show j = k ∨ j = k + 1 ∨ j = k + 2 ∨ j + 3 = k + 1 ∨ j + 3 = k + 2 by omega) with q | q | q | q | q
      · exact .inl (by rw [q])
      · exact .inr (.inl (by rw [q]))
      · exact .inr (.inr (by rw [q]))
      · exact .inr (.inl (by rw [← q, ← hn, P.per]))
      · exact .inr (.inr (by rw [← q, ← hn, P.per]))
    have taa : turnZ (P.v k) (P.v (k + 1)) (P.v k) = 0 := by unfold turnZ; grind
    have tbb : turnZ (P.v k) (P.v (k + 1)) (P.v (k + 1)) = 0 := by unfold turnZ; grind
    rcases e with e | e | e <;> rw [e] <;> omega
theorem corner_not_out (P : Poly) (j : Nat) (hn : 0 < P.n) : ¬ Outp P 1 (P.v j) := fun h => by
  have := h.1 (j % P.n) (Nat.mod_lt _ hn)
  rw [smul_one, smul_one, P.per_mod] at this
  exact (Off.ne this).1 rfl
theorem tri_area' {P : Poly} (hn : P.n = 3) : P.area = turnZ (P.v 0) (P.v 1) (P.v 2) := by
  unfold Poly.area; rw [hn]; simp only [sumN]
  have e := P.vn; rw [hn] at e; rw [e]
  unfold crs0 turnZ; grind
theorem tri_turns {P : Poly} (hn : P.n = 3) (j : Nat) : turnZ (P.v j) (P.v (j + 1)) (P.v (j + 2)) = turnZ (P.v 0) (P.v 1) (P.v 2) := by
  have c3 : ∀ j, P.v (j + 3) = P.v j := fun j => by rw [← hn, P.per]
  have t1 : turnZ (P.v 1) (P.v 2) (P.v 3) = turnZ (P.v 0) (P.v 1) (P.v 2) := by rw [c3 0]; unfold turnZ; grind
  have t2 : turnZ (P.v 2) (P.v 3) (P.v 4) = turnZ (P.v 0) (P.v 1) (P.v 2) := by rw [c3 0, c3 1]; unfold turnZ; grind
  have hm : ∀ i d, P.v (i + d) = P.v (i % 3 + d) := fun i d => by rw [← hn, P.per_add]
  have h0 : P.v j = P.v (j % 3) := by have := hm j 0; simpa using this
  rw [h0, hm j 1, hm j 2]
  rcases (show j % 3 = 0 ∨ j % 3 = 1 ∨ j % 3 = 2 by omega) with q | q | q <;> rw [q]
  · exact t1
  · exact t2
theorem Outp.rot {P : Poly} {K : Int} {x : Pt} (h : Outp P K x) (s : Nat) : Outp (P.rot s) K x := by
  obtain ⟨ho, g, hg, e⟩ := h
  refine ⟨fun k hk => ?_, g, hg, by rw [← e]; exact wnd_rot g (P.sc K) s x⟩
  have hn : 0 < P.n := by have hk : k < P.n := hk; omega
  have := ho ((s + k) % P.n) (Nat.mod_lt _ hn)
  rw [P.per_mod, P.per_add] at this
  exact this
theorem Outp.rot_iff {P : Poly} {K : Int} {x : Pt} (hn : 1 ≤ P.n) (s : Nat) : Outp (P.rot s) K x ↔ Outp P K x :=
  ⟨fun h => by have := h.rot (s * (P.n - 1)); rw [rot_back P s hn] at this; exact this, fun h => h.rot s⟩
theorem NoOut.rot_iff {P : Poly} {a b : Pt} (hn : 1 ≤ P.n) (s : Nat) : NoOut (P.rot s) a b ↔ NoOut P a b :=
  ⟨fun h s' t' hs ht hst o => h s' t' hs ht hst (o.rot s), fun h s' t' hs ht hst o => h s' t' hs ht hst ((Outp.rot_iff hn s).1 o)⟩
theorem sees_corner {P : Poly} (hP : SimpleP P) (ha : 0 < P.area) {p : Pt} (hp : ¬ Outp P 1 p) : ∃ k, NoOut P p (P.v k) := by
  obtain ⟨M, -, hg⟩ := (hM_gen hP).get
  refine pos_induct (hM M) (fun P => ¬ Outp P 1 p → ∃ k, NoOut P p (P.v k)) (fun P hP hg hn ht hp => ?_) (fun P s hP hg hpos ih hp => ?_) (fun P m hP hg hpos c hA hB ihA ihB hp => ?_) P hP hg ((pos_iff hP hg).2 ha) hp
  · -- a triangle
    have hturn : ∀ j, 0 < turnZ (P.v j) (P.v (j + 1)) (P.v (j + 2)) := fun j => by rw [tri_turns hn]; exact ht
    exact ⟨0, star hP (fun j => by have := hturn j; omega) (by rw [tri_area' hn]; exact ht) (fun k hk => tri_in hn hp k hk (by have := hturn k; omega)) (corner_not_out P 0 (by omega))⟩
  · have hn := hP.n3
    obtain ⟨k, hno⟩ := ih (fun o => hp ((Outp.rot_iff (by omega) s).1 o))
    exact ⟨s + k, (NoOut.rot_iff (by omega) s).1 hno⟩
  · have cut : Cut P m := ⟨c, area_pos (hP.arc c) (hg.arc (by have := c.mn; omega)) hA, area_pos ((hP.rot m).arc c.rot) ((hg.rot m).arc (by have := c.m2; have := c.mn; show P.n - m < P.n; omega)) hB⟩
    by_cases oA : Outp (P.arc m) 1 p
    · by_cases oB : Outp (partB P m) 1 p
      · exact absurd (cut.out oA oB) hp
      · obtain ⟨k, hno⟩ := ihB oB
        exact ⟨m + k % (P.n - m + 1), cut.noout hP (.inr hno)⟩
    · obtain ⟨k, hno⟩ := ihA oA
      exact ⟨k % (m + 1), cut.noout hP (.inl hno)⟩
end Go.Proofs.Ytnepfcnlngpchaa.Geo
namespace Go.Proofs.Ytnepfcnlngpchaa
open Go.RowKit Go.Proofs.Ytnepfcnlngpchaa.Nm
set_option maxRecDepth 10000
abbrev Cur := List Int × Int × Int
def curL (c : Cur) : List D := [.sl none (.b .u8) c.1, .int .i64 c.2.1, .int .i64 c.2.2]
structure curOk (c : Cur) : Prop where
  len : c.1.length ≤ 1048576
  lo : 0 ≤ c.2.1
  hi : c.2.1 ≤ 1048576
def newH (bs : List Int) : Nat → Int
  | 0 => W (99143 + (bs.length : Int))
  | i + 1 => bitI .and .i64 (W (W (W (newH bs i * 131) + W (bs.getD i 0)) + 7)) 1073741823
def newC (bs : List Int) : Cur := (bs, 0, newH bs (min bs.length 4000))
def byteH (c : Cur) : Int := W (c.2.2 * 6364136223846793005 + 1442695040888963407)
def byte0 (c : Cur) : Int := bitI .and .i64 (bitI .xor .i64 (bitI .shr .i64 (byteH c) 33) (bitI .shr .i64 (byteH c) 45)) 255
def byteX (c : Cur) : Int := if c.2.1 < (c.1.length : Int) then bitI .and .i64 (W (byte0 c + W (c.1.getD c.2.1.toNat 0))) 255 else byte0 c
def byteC (c : Cur) : Cur := (c.1, if c.2.1 < (c.1.length : Int) then c.2.1 + 1 else c.2.1, byteH c)
theorem and255 (x : Int) : 0 ≤ bitI .and .i64 x 255 ∧ bitI .and .i64 x 255 ≤ 255 := by
  have h : (BitVec.ofInt IntKind.i64.bits x &&& BitVec.ofInt IntKind.i64.bits 255).toNat ≤ 255 := by
    rw [BitVec.toNat_and]
    exact Nat.le_trans Nat.and_le_right (by decide)
  have e : bitI .and .i64 x 255 = (((BitVec.ofInt IntKind.i64.bits x &&& BitVec.ofInt IntKind.i64.bits 255).toNat : Nat) : Int) := W_in (by omega) (by omega)
  rw [e]
  omega
theorem byteX_bd (c : Cur) : 0 ≤ byteX c ∧ byteX c ≤ 255 := by
  unfold byteX
  split
  · exact and255 _
  · exact and255 _
theorem byteC_ok {c : Cur} (h : curOk c) : curOk (byteC c) := by
  obtain ⟨h1, h2, h3⟩ := h
  refine ⟨h1, ?_, ?_⟩ <;> (unfold byteC; simp only; split <;> omega)
def belowX (c : Cur) (n : Int) : Int :=
  if n ≤ 0 then 0 else if n ≤ 256 then (byteX c).tmod n
  else (byteX c * 16777216 + byteX (byteC c) * 65536 + byteX (byteC (byteC c)) * 256 + byteX (byteC (byteC (byteC c)))).tmod n
def belowC (c : Cur) (n : Int) : Cur := if n ≤ 0 then c else if n ≤ 256 then byteC c else byteC (byteC (byteC (byteC c)))
theorem below_bd {c : Cur} {n : Int} (h : 0 < n) : 0 ≤ belowX c n ∧ belowX c n < n := by
  unfold belowX
  have h1 := byteX_bd c
  have h2 := byteX_bd (byteC c)
  have h3 := byteX_bd (byteC (byteC c))
  have h4 := byteX_bd (byteC (byteC (byteC c)))
  rw [if_neg (by omega)]
  split
  · exact ⟨Int.tmod_nonneg _ h1.1, Int.tmod_lt_of_pos _ h⟩
  · exact ⟨Int.tmod_nonneg _ (by omega), Int.tmod_lt_of_pos _ h⟩
theorem belowC_ok {c : Cur} {n : Int} (h : curOk c) : curOk (belowC c n) := by
  unfold belowC
  split
  · exact h
  · split
    · exact byteC_ok h
    · exact byteC_ok (byteC_ok (byteC_ok (byteC_ok h)))
theorem newC_ok {bs : List Int} (h : bs.length ≤ 1048576) : curOk (newC bs) := ⟨h, Int.le_refl 0, show (0 : Int) ≤ 1048576 by decide⟩
def l01NewC : ConD := mkConN [.sl (.b .u8)] t_spec_l01Cur (fun x => x.1.length ≤ 1048576) fun x => curL (newC x.1)
set_option maxRecDepth 200000 in
theorem l01New_ok : GoodD Try.prog n_spec_l01New l01NewC := by
  refine good_ofN (tys := tyL) (env := []) (envw := []) (envd := []) [31] [] [] [] [] mixed tys trivial trivial trivial Try.func62 rfl (by kernel_rfl) (by decide) (by kernel_rfl) ?_
  have hG_ := kpz [(0, [0]), (1, [0, 3]), (2, [0, 3, 4]), (3, [0, 3, 4, 15]), (4, [0, 3, 4]), (5, [0, 3, 4]), (6, [2])] [] [] []
  rintro ⟨(bs : List Int), ⟨⟩⟩ (h1 : bs.length ≤ _)
  (repeat' (first | (with_reducible first | exact True.intro | refine zQ ?_ | (refine zG hG_ ?_; intro K_ hK_) | (refine zR ?_; intro K_ hK_) | (refine hK_ _ _ ?_; try clear hK_ K_) | refine sq_n ?_ | refine sq_r ?_ | refine sq_e ?_ | refine bq_n ?_ | refine bq_r ?_ | refine bq_q ?_ | refine zB ?_ | refine zX ?_ | refine zT ?_ | refine zK ?_ | refine gq_n ?_ | refine gq_r ?_ | refine gq_e ?_ | refine lq_n ?_ | refine lq_r ?_ | refine lq_e ?_ | refine bq_e (by decide) ?_) | ((with_reducible refine zC (b := ?b_) ?hb_ ?_ ?_); case hb_ => rfl) | ((conv => whnf); first | (with_reducible refine hK_ _ _ ?_; try clear hK_ K_) | (with_reducible refine fun (g_ : Sl) (o_ : Ow) => ?_) | (with_reducible first | exact True.intro | refine And.intro trivial ?_ | refine And.intro ?_ ?_) | exact Nat.le_of_ble_eq_true rfl | exact Or.inl rfl | (intro h_; cases h_) | (intro h_; (try simp only [vS1] at h_)) | rfl))) <;> (try (conv => whnf)) <;> (try first | change (_ : Int) ≤ _ | change (_ : Nat) ≤ _) <;> (try ((fail_if_success (with_reducible apply Exists.intro)); (try dsimp only); (try simp only [vS1])))
  refine awp'_loopG (α := Nat) (fun i ver_ => [(3, vInt (newH bs i)), (4, vInt i)]) (fun i ver_ => []) (fun i ver_ => []) (fun i => i ≤ bs.length ∧ i ≤ 4000) (fun i => bs.length - i) [0] [] (0) ?_
  conv => whnf
  refine ⟨⟨?inv1_, ?vals1_, ?own1_, ?fix1_⟩, ?body1_⟩
  case' vals1_ => (repeat' (first | (with_reducible first | exact True.intro | refine And.intro ?_ ?_ | refine Head.mk ?_ ?_ ?_ ?_) | ((conv => lhs; whnf); first | (with_reducible first | rfl | exact vInt_s (by omega)) | exact rfl) | ((conv => whnf); first | (with_reducible first | exact True.intro | refine And.intro ?_ ?_)))) <;> (try (conv => lhs; whnf))
  case' own1_ => (repeat' (first | (with_reducible first | exact True.intro | refine And.intro ?_ ?_ | refine Head.mk ?_ ?_ ?_ ?_) | ((conv => lhs; whnf); first | (with_reducible first | rfl | exact vInt_s (by omega)) | exact rfl) | ((conv => whnf); first | (with_reducible first | exact True.intro | refine And.intro ?_ ?_)))) <;> (try (conv => lhs; whnf))
  case' fix1_ => (repeat' (first | (with_reducible first | exact True.intro | refine And.intro ?_ ?_ | refine Head.mk ?_ ?_ ?_ ?_) | ((conv => lhs; whnf); first | (with_reducible first | rfl | exact vInt_s (by omega)) | exact rfl) | ((conv => whnf); first | (with_reducible first | exact True.intro | refine And.intro ?_ ?_)))) <;> (try (conv => lhs; whnf))
  · exact ⟨Nat.zero_le _, Nat.zero_le _⟩
  rintro i g_ o_ v_ ⟨hi, hi2⟩
  have hG_ := kpz [(0, [0]), (1, [0, 3]), (2, [0, 3, 4]), (3, [0, 3, 4, 15]), (4, [0, 3, 4]), (5, [0, 3, 4]), (6, [2])] [(6, [31])] [] []
  (repeat' (first | (with_reducible first | exact True.intro | refine zQ ?_ | (refine zG hG_ ?_; intro K_ hK_) | (refine zR ?_; intro K_ hK_) | (refine hK_ _ _ ?_; try clear hK_ K_) | refine sq_n ?_ | refine sq_r ?_ | refine sq_e ?_ | refine bq_n ?_ | refine bq_r ?_ | refine bq_q ?_ | refine zB ?_ | refine zX ?_ | refine zT ?_ | refine zK ?_ | refine gq_n ?_ | refine gq_r ?_ | refine gq_e ?_ | refine lq_n ?_ | refine lq_r ?_ | refine lq_e ?_ | refine bq_e (by decide) ?_) | ((with_reducible refine zC (b := ?b_) ?hb_ ?_ ?_); case hb_ => rfl) | ((conv => whnf); first | (with_reducible refine hK_ _ _ ?_; try clear hK_ K_) | (with_reducible refine fun (g_ : Sl) (o_ : Ow) => ?_) | (with_reducible first | exact True.intro | refine And.intro trivial ?_ | refine And.intro ?_ ?_) | exact Nat.le_of_ble_eq_true rfl | exact Or.inl rfl | (intro h_; cases h_) | (intro h_; (try simp only [vS1] at h_)) | rfl))) <;> (try (conv => whnf)) <;> (try first | change (_ : Int) ≤ _ | change (_ : Nat) ≤ _) <;> (try ((fail_if_success (with_reducible apply Exists.intro)); (try dsimp only); (try simp only [vS1])))
  all_goals (try (fail_if_success (with_reducible apply Exists.intro)); first | with_reducible assumption | omega | exact mdl (by omega) | exact ilo1 (by omega) | exact ilo2 (by omega) | exact ihi1 (by omega) (by omega) | exact ihi2 (by omega) (by omega))
  · refine ⟨i + 1, by omega, by omega, ?_⟩
    (repeat' (first | (with_reducible first | exact True.intro | refine And.intro ?_ ?_ | refine Head.mk ?_ ?_ ?_ ?_) | ((conv => lhs; whnf); first | (with_reducible first | rfl | exact vInt_s (by omega)) | exact rfl) | ((conv => whnf); first | (with_reducible first | exact True.intro | refine And.intro ?_ ?_)))) <;> (try (conv => lhs; whnf))
  · show dOf _ = some _
    unfold curL newC
    rw [show min bs.length 4000 = i by omega]; rfl
  · show dOf _ = some _
    unfold curL newC
    rw [show min bs.length 4000 = i by omega]; rfl
def l01ByteC : ConD := mkConB [.cur] 0 t_spec_l01Cur (fun x => curOk x.1) (fun x => vInt (byteX x.1)) fun x => curL (byteC x.1)
theorem l01Byte_ok : GoodD Try.prog n_spec_l01Byte l01ByteC := by
  refine good_ofB (tys := tyL) (env := []) (envw := []) (envd := []) [1000] [] [] [] [] mixed tys trivial trivial trivial Try.func116 rfl (by kernel_rfl) ⟨by decide, rfl⟩ (by kernel_rfl) ?_
  have hG_ := kpz [(0, [0]), (1, [0]), (2, [0, 3]), (3, [0, 3, 34]), (4, [0, 3]), (5, [3]), (6, [2])] [(0, [1000]), (1, [1000]), (2, [1000]), (3, [1000]), (4, [1000]), (5, [1000]), (6, [1000])] [] []
  rintro ⟨⟨(bs : List Int), (i : Int), (h : Int)⟩, ⟨⟩⟩ ⟨(h1 : bs.length ≤ _), (h2 : 0 ≤ i), (h3 : i ≤ _)⟩
  (repeat' (first | (with_reducible first | exact True.intro | refine zQ ?_ | (refine zG hG_ ?_; intro K_ hK_) | (refine zR ?_; intro K_ hK_) | (refine hK_ _ _ ?_; try clear hK_ K_) | refine sq_n ?_ | refine sq_r ?_ | refine sq_e ?_ | refine bq_n ?_ | refine bq_r ?_ | refine bq_q ?_ | refine zB ?_ | refine zX ?_ | refine zT ?_ | refine zK ?_ | refine gq_n ?_ | refine gq_r ?_ | refine gq_e ?_ | refine lq_n ?_ | refine lq_r ?_ | refine lq_e ?_ | refine bq_e (by decide) ?_) | ((with_reducible refine zC (b := ?b_) ?hb_ ?_ ?_); case hb_ => rfl) | ((conv => whnf); first | (with_reducible refine hK_ _ _ ?_; try clear hK_ K_) | (with_reducible refine fun (g_ : Sl) (o_ : Ow) => ?_) | (with_reducible first | exact True.intro | refine And.intro trivial ?_ | refine And.intro ?_ ?_) | exact Nat.le_of_ble_eq_true rfl | exact Or.inl rfl | (intro h_; cases h_) | (intro h_; (try simp only [vS1] at h_)) | rfl))) <;> (try (conv => whnf)) <;> (try first | change (_ : Int) ≤ _ | change (_ : Nat) ≤ _) <;> (try ((fail_if_success (with_reducible apply Exists.intro)); (try dsimp only); (try simp only [vS1])))
  all_goals (try (fail_if_success (with_reducible apply Exists.intro)); first | with_reducible assumption | omega | exact mdl (by omega) | exact ilo1 (by omega) | exact ilo2 (by omega) | exact ihi1 (by omega) (by omega) | exact ihi2 (by omega) (by omega))
  · show dOf _ = some _
    unfold curL byteC byteH
    simp only [W_l1, if_pos h_, W_in (show -9223372036854775808 ≤ i + 1 by omega) (show i + 1 ≤ 9223372036854775807 by omega)]; rfl
  · unfold byteX byte0 byteH
    simp only [W_l1, if_pos h_]
  · show dOf _ = some _
    unfold curL byteC byteH
    simp only [W_l1, if_neg h_]; rfl
  · unfold byteX byte0 byteH
    simp only [W_l1, if_neg h_]
def l01BelowC : ConD := mkConB [.cur, .int] 0 t_spec_l01Cur (fun x => curOk x.1) (fun x => vInt (belowX x.1 x.2.1)) fun x => curL (belowC x.1 x.2.1)
theorem l01Below_ok : GoodD Try.prog n_spec_l01Below l01BelowC := by
  refine good_ofB (tys := tyL) (env := []) (envw := []) (envd := [(n_spec_l01Byte, l01ByteC)]) [14, 18, 20, 22, 24, 1000] [14, 18, 20, 22, 24, 1000] [] [] [14, 18, 20, 22, 24] mixed tys trivial trivial ⟨l01Byte_ok, trivial⟩ Try.func77 rfl (by kernel_rfl) ⟨by decide, rfl⟩ (by kernel_rfl) ?_
  have hG_ := kpz [(0, [0, 1]), (1, [0, 1, 10]), (2, [4]), (3, [0, 1, 12]), (4, [4]), (5, [0, 1, 5]), (6, [0, 1, 5, 6]), (7, [0, 1, 5, 6, 7]), (8, [1, 5, 6, 7, 8]), (9, [4])] [(0, [1000]), (1, [1000]), (2, [1000]), (3, [1000]), (4, [1000]), (5, [1000]), (6, [1000]), (7, [1000]), (8, [1000]), (9, [1000])] [] []
  rintro ⟨⟨(bs : List Int), (i : Int), (h : Int)⟩, (n : Int), ⟨⟩⟩ (hc : curOk (bs, i, h))
  have h1 := byteC_ok hc
  have h2 := byteC_ok h1
  have h3 := byteC_ok h2
  have b0 := byteX_bd (bs, i, h)
  have b1 := byteX_bd (byteC (bs, i, h))
  have b2 := byteX_bd (byteC (byteC (bs, i, h)))
  have b3 := byteX_bd (byteC (byteC (byteC (bs, i, h))))
  (repeat' (first | (with_reducible first | exact True.intro | refine zQ ?_ | (refine zG hG_ ?_; intro K_ hK_) | (refine zR ?_; intro K_ hK_) | (refine hK_ _ _ ?_; try clear hK_ K_) | refine sq_n ?_ | refine sq_r ?_ | refine sq_e ?_ | refine bq_n ?_ | refine bq_r ?_ | refine bq_q ?_ | refine zB ?_ | refine zX ?_ | refine zT ?_ | refine zK ?_ | refine gq_n ?_ | refine gq_r ?_ | refine gq_e ?_ | refine lq_n ?_ | refine lq_r ?_ | refine lq_e ?_ | refine bq_e (by decide) ?_) | ((with_reducible refine zC (b := ?b_) ?hb_ ?_ ?_); case hb_ => rfl) | ((conv => whnf); first | (with_reducible refine hK_ _ _ ?_; try clear hK_ K_) | (with_reducible refine fun (g_ : Sl) (o_ : Ow) => ?_) | (with_reducible first | exact True.intro | refine And.intro trivial ?_ | refine And.intro ?_ ?_) | exact Nat.le_of_ble_eq_true rfl | exact Or.inl rfl | (intro h_; cases h_) | (intro h_; (try simp only [vS1] at h_)) | rfl))) <;> (try (conv => whnf)) <;> (try first | change (_ : Int) ≤ _ | change (_ : Nat) ≤ _) <;> (try ((fail_if_success (with_reducible apply Exists.intro)); (try dsimp only); (try simp only [vS1])))
  all_goals (try (fail_if_success (with_reducible apply Exists.intro)); first | with_reducible assumption | omega | exact mdl (by omega) | exact ilo1 (by omega) | exact ilo2 (by omega) | exact ihi1 (by omega) (by omega) | exact ihi2 (by omega) (by omega))
  · show dOf _ = some _
    unfold curL belowC
    simp only [if_pos h_]; rfl
  · unfold belowX
    simp only [if_pos h_]
  · exact ‹¬ Int.ofNat 0 ≤ 0› (by decide)
  · show dOf _ = some _
    unfold curL belowC
    simp only [if_neg ‹¬ n ≤ 0›, if_pos h_]; rfl
  · unfold belowX
    simp only [if_neg ‹¬ n ≤ 0›, if_pos h_]
  · exact ‹¬ Int.ofNat 0 ≤ 0› (by decide)
  · show dOf _ = some _
    unfold curL belowC
    simp only [if_neg ‹¬ n ≤ 0›, if_neg h_]; rfl
  · unfold belowX
    simp only [if_neg ‹¬ n ≤ 0›, if_neg h_, W_l1, W_l2]
    rw [W_in (by omega) (by omega)]
end Go.Proofs.Ytnepfcnlngpchaa
namespace Go.Proofs.Ytnepfcnlngpchaa
open Go.RowKit Go.Proofs.Ytnepfcnlngpchaa.Nm
set_option maxRecDepth 10000
set_option maxHeartbeats 2000000
def reflexM (xs : List Pt) (k : Nat) : Bool := decide (turn (pCy xs (k + xs.length - 1)) (pAt xs k) (pCy xs (k + 1)) < 0)
theorem mod_back {k n : Nat} (hk : k < n) (hn : n ≤ 1048576) : Int.tmod (W (W ((k : Int) + (n : Int)) - 1)) (n : Int) = (((k + n - 1) % n : Nat) : Int) := by
  unfold W
  rw [W_in (show -9223372036854775808 ≤ (k : Int) + n by omega) (by omega), W_in (by omega) (by omega), show (k : Int) + n - 1 = ((k + n - 1 : Nat) : Int) by omega, ← Int.ofNat_tmod]
def reflexC : Con := mkCon [.room, .int] (fun x => roomOk x.1 = true ∧ ∃ k : Nat, x.2.1 = k ∧ k < x.1.length) fun x => vB (reflexM x.1 x.2.1.toNat)
theorem reflex_ok : Good1 Try.prog n_impl_reflex reflexC := by
  refine good_ofG (tys := tyL) (env := [(n_impl_turn, turnC)]) (envw := []) (envd := []) [] [] [] [] [] mixed tys ⟨turn_ok, trivial⟩ trivial trivial Try.func76 rfl (by kernel_rfl) (by decide) (by kernel_rfl) ?_
  have hG_ := kpz [(0, [1, 2]), (1, [1, 2, 5]), (2, [4])] [] [] []
  rintro ⟨(xs : List Pt), (z : Int), ⟨⟩⟩ ⟨(hr : roomOk xs = true), k, (rfl : z = _), (hk : k < xs.length)⟩
  have hl := room_len hr
  have hb := mod_back hk (by omega)
  have hm := Nat.mod_lt (k + xs.length - 1) (show 0 < xs.length by omega)
  unfold W at hb
  (repeat' (first | (with_reducible first | exact True.intro | refine zQ ?_ | (refine zG hG_ ?_; intro K_ hK_) | (refine zR ?_; intro K_ hK_) | (refine hK_ _ _ ?_; try clear hK_ K_) | refine sq_n ?_ | refine sq_r ?_ | refine sq_e ?_ | refine bq_n ?_ | refine bq_r ?_ | refine bq_q ?_ | refine zB ?_ | refine zX ?_ | refine zT ?_ | refine zK ?_ | refine gq_n ?_ | refine gq_r ?_ | refine gq_e ?_ | refine lq_n ?_ | refine lq_r ?_ | refine lq_e ?_ | refine bq_e (by decide) ?_) | ((with_reducible refine zC (b := ?b_) ?hb_ ?_ ?_); case hb_ => rfl) | ((conv => whnf); first | (with_reducible refine hK_ _ _ ?_; try clear hK_ K_) | (with_reducible refine fun (g_ : Sl) (o_ : Ow) => ?_) | (with_reducible first | exact True.intro | refine And.intro trivial ?_ | refine And.intro ?_ ?_) | exact Nat.le_of_ble_eq_true rfl | exact Or.inl rfl | (intro h_; cases h_) | (intro h_; (try simp only [vS1] at h_)) | rfl))) <;> (try (conv => whnf)) <;> (try first | change (_ : Int) ≤ _ | change (_ : Nat) ≤ _) <;> (try ((fail_if_success (with_reducible apply Exists.intro)); (try dsimp only); (try simp only [vS1])))
  all_goals (try ((fail_if_success (with_reducible apply Exists.intro)); first | with_reducible assumption | omega))
  · exact ilo1 (by omega)
  · exact ihi1 (by omega) (by omega)
  · unfold reflexM
    rw [hb, mod_nat1 (by omega), Int.toNat_natCast, Int.toNat_natCast]
def reflK (xs : List Pt) (k : Nat) : List Int := ((List.range k).filter (reflexM xs)).map fun j : Nat => (j : Int)
theorem reflK_succ (xs : List Pt) (k : Nat) : reflK xs (k + 1) = reflK xs k ++ (if reflexM xs k then [(k : Int)] else []) := by
  unfold reflK
  rw [List.range_succ, List.filter_append, List.map_append, List.filter_cons, List.filter_nil]
  cases reflexM xs k <;> rfl
theorem reflK_len (xs : List Pt) (k : Nat) : (reflK xs k).length ≤ k := by
  unfold reflK
  rw [List.length_map]
  exact Nat.le_trans (List.length_filter_le _ _) (by rw [List.length_range]; omega)
theorem beq_dec (a b : Int) : (a == b) = decide (a = b) := by rw [Bool.eq_iff_iff]; simp
def reflM (xs : List Pt) : List Int := if roomOk xs then reflK xs xs.length else []
def convM (xs : List Pt) : Bool := roomOk xs && decide (((reflM xs).length : Int) = 0)
theorem convM_iff {xs : List Pt} : convM xs = true ↔ roomOk xs = true ∧ ∀ k, k < xs.length → reflexM xs k = false := by
  unfold convM
  rw [Bool.and_eq_true, decide_eq_true_eq]
  refine and_congr_right fun hr => ?_
  unfold reflM
  rw [if_pos hr]
  unfold reflK
  rw [List.length_map]
  constructor
  · intro h k hk
    have : (List.filter (reflexM xs) (List.range xs.length)) = [] := List.eq_nil_of_length_eq_zero (by omega)
    have := List.filter_eq_nil_iff.1 this k (List.mem_range.2 hk)
    simpa using this
  · intro h
    rw [List.filter_eq_nil_iff.2 fun k hk => by rw [h k (List.mem_range.1 hk)]; decide]
    rfl
def reflC : Con := mkCon [.room] (fun x => x.1.length ≤ 1048576) fun x => rowI (reflM x.1)
theorem reflCorners_ok : Good1 Try.prog n_impl_ReflexCorners reflC := by
  refine good_ofG (tys := tyL) (env := [(n_impl_RoomOk, roomOkC), (n_impl_reflex, reflexC)]) (envw := []) (envd := []) [8] [] [] [] [] mixed tys ⟨iRoomOk_ok, reflex_ok, trivial⟩ trivial trivial Try.func68 rfl (by kernel_rfl) (by decide) (by kernel_rfl) ?_
  have hG_ := kpz [(0, [1]), (1, [1, 7]), (2, [2]), (3, [1, 3]), (4, [1, 3, 11, 12]), (5, [1, 3, 11, 12, 13]), (6, [1, 3, 4, 11, 12]), (7, [1, 3, 4, 11, 12, 17]), (8, [1, 3, 11, 12]), (9, [1, 3, 11, 12]), (10, [2])] [(3, [8]), (4, [8]), (5, [8]), (6, [8]), (7, [8]), (8, [8]), (9, [8]), (10, [8])] [] []
  rintro ⟨(xs : List Pt), ⟨⟩⟩ (h1 : xs.length ≤ _)
  (repeat' (first | (with_reducible first | exact True.intro | refine zQ ?_ | (refine zG hG_ ?_; intro K_ hK_) | (refine zR ?_; intro K_ hK_) | (refine hK_ _ _ ?_; try clear hK_ K_) | refine sq_n ?_ | refine sq_r ?_ | refine sq_e ?_ | refine bq_n ?_ | refine bq_r ?_ | refine bq_q ?_ | refine zB ?_ | refine zX ?_ | refine zT ?_ | refine zK ?_ | refine gq_n ?_ | refine gq_r ?_ | refine gq_e ?_ | refine lq_n ?_ | refine lq_r ?_ | refine lq_e ?_ | refine bq_e (by decide) ?_) | ((with_reducible refine zC (b := ?b_) ?hb_ ?_ ?_); case hb_ => rfl) | ((conv => whnf); first | (with_reducible refine hK_ _ _ ?_; try clear hK_ K_) | (with_reducible refine fun (g_ : Sl) (o_ : Ow) => ?_) | (with_reducible first | exact True.intro | refine And.intro trivial ?_ | refine And.intro ?_ ?_) | exact Nat.le_of_ble_eq_true rfl | exact Or.inl rfl | (intro h_; cases h_) | (intro h_; (try simp only [vS1] at h_)) | rfl))) <;> (try (conv => whnf)) <;> (try first | change (_ : Int) ≤ _ | change (_ : Nat) ≤ _) <;> (try ((fail_if_success (with_reducible apply Exists.intro)); (try dsimp only); (try simp only [vS1]))) <;> (try simp (disch := omega) only [vS3, Int.add_sub_cancel, tn1, tnp, tnc, vS2] at *)
  all_goals (try ((fail_if_success (with_reducible apply Exists.intro)); first | with_reducible assumption | omega))
  · unfold reflM; rw [h_]; rfl
  have hr : roomOk xs = true := by assumption
  have hl := room_len hr
  refine awp'_loopG (α := Nat) (fun k ver_ => [(12, vInt k)]) (fun k ver_ => [(3, 8, false, .row t_int (.b .int) (reflK xs k))]) (fun k ver_ => []) (fun k => k ≤ xs.length) (fun k => xs.length - k) [1, 11] [] (0) ?_
  conv => whnf
  refine ⟨⟨?inv1_, ?vals1_, ?own1_, ?fix1_⟩, ?body1_⟩
  case' vals1_ => (repeat' (first | (with_reducible first | exact True.intro | refine And.intro ?_ ?_ | refine Head.mk ?_ ?_ ?_ ?_) | ((conv => lhs; whnf); first | (with_reducible first | rfl | exact vInt_s (by omega)) | exact rfl) | ((conv => whnf); first | (with_reducible first | exact True.intro | refine And.intro ?_ ?_)))) <;> (try (conv => lhs; whnf))
  case' own1_ => (repeat' (first | (with_reducible first | exact True.intro | refine And.intro ?_ ?_ | refine Head.mk ?_ ?_ ?_ ?_) | ((conv => lhs; whnf); first | (with_reducible first | rfl | exact vInt_s (by omega)) | exact rfl) | ((conv => whnf); first | (with_reducible first | exact True.intro | refine And.intro ?_ ?_)))) <;> (try (conv => lhs; whnf))
  case' fix1_ => (repeat' (first | (with_reducible first | exact True.intro | refine And.intro ?_ ?_ | refine Head.mk ?_ ?_ ?_ ?_) | ((conv => lhs; whnf); first | (with_reducible first | rfl | exact vInt_s (by omega)) | exact rfl) | ((conv => whnf); first | (with_reducible first | exact True.intro | refine And.intro ?_ ?_)))) <;> (try (conv => lhs; whnf))
  · exact Nat.zero_le _
  rintro k g_ o_ v_ hk
  have hlen := reflK_len xs k
  (repeat' (first | (with_reducible first | exact True.intro | refine zQ ?_ | (refine zG hG_ ?_; intro K_ hK_) | (refine zR ?_; intro K_ hK_) | (refine hK_ _ _ ?_; try clear hK_ K_) | refine sq_n ?_ | refine sq_r ?_ | refine sq_e ?_ | refine bq_n ?_ | refine bq_r ?_ | refine bq_q ?_ | refine zB ?_ | refine zX ?_ | refine zT ?_ | refine zK ?_ | refine gq_n ?_ | refine gq_r ?_ | refine gq_e ?_ | refine lq_n ?_ | refine lq_r ?_ | refine lq_e ?_ | refine bq_e (by decide) ?_) | ((with_reducible refine zC (b := ?b_) ?hb_ ?_ ?_); case hb_ => rfl) | ((conv => whnf); first | (with_reducible refine hK_ _ _ ?_; try clear hK_ K_) | (with_reducible refine fun (g_ : Sl) (o_ : Ow) => ?_) | (with_reducible first | exact True.intro | refine And.intro trivial ?_ | refine And.intro ?_ ?_) | exact Nat.le_of_ble_eq_true rfl | exact Or.inl rfl | (intro h_; cases h_) | (intro h_; (try simp only [vS1] at h_)) | rfl))) <;> (try (conv => whnf)) <;> (try first | change (_ : Int) ≤ _ | change (_ : Nat) ≤ _) <;> (try ((fail_if_success (with_reducible apply Exists.intro)); (try dsimp only); (try simp only [vS1]))) <;> (try simp (disch := omega) only [vS3, Int.add_sub_cancel, tn1, tnp, tnc, vS2] at *)
  all_goals (try ((fail_if_success (with_reducible apply Exists.intro)); first | with_reducible assumption | omega))
  · exact ⟨k, rfl, by omega⟩
  · refine ⟨k + 1, by omega, by omega, ?_⟩
    (repeat' (first | (with_reducible first | exact True.intro | refine And.intro ?_ ?_ | refine Head.mk ?_ ?_ ?_ ?_) | ((conv => lhs; whnf); first | (with_reducible first | rfl | exact vInt_s (by omega)) | exact rfl) | ((conv => whnf); first | (with_reducible first | exact True.intro | refine And.intro ?_ ?_)))) <;> (try (conv => lhs; whnf))
    exact congrArg (Own.row _ _) (by rw [reflK_succ, if_pos (by assumption)])
  · refine ⟨k + 1, by omega, by omega, ?_⟩
    (repeat' (first | (with_reducible first | exact True.intro | refine And.intro ?_ ?_ | refine Head.mk ?_ ?_ ?_ ?_) | ((conv => lhs; whnf); first | (with_reducible first | rfl | exact vInt_s (by omega)) | exact rfl) | ((conv => whnf); first | (with_reducible first | exact True.intro | refine And.intro ?_ ?_)))) <;> (try (conv => lhs; whnf))
    exact congrArg (Own.row _ _) (by rw [reflK_succ, if_neg (by rw [Bool.not_eq_true]; assumption), List.append_nil])
  · unfold reflM
    rw [if_pos hr, show k = xs.length by omega]; rfl
def convC : Con := mkCon [.room] (fun x => x.1.length ≤ 1048576) fun x => vB (convM x.1)
theorem isConvex_ok : Good1 Try.prog n_impl_IsConvex convC := by
  refine good_ofG (tys := tyL) (env := [(n_impl_RoomOk, roomOkC), (n_impl_ReflexCorners, reflC)]) (envw := []) (envd := []) [] [] [] [] [] mixed tys ⟨iRoomOk_ok, reflCorners_ok, trivial⟩ trivial trivial Try.func19 rfl (by kernel_rfl) (by decide) (by kernel_rfl) ?_
  have hG_ := kpz [(0, [1]), (1, [2])] [] [] []
  rintro ⟨(xs : List Pt), ⟨⟩⟩ (h1 : xs.length ≤ _)
  (repeat' (first | (with_reducible first | exact True.intro | refine zQ ?_ | (refine zG hG_ ?_; intro K_ hK_) | (refine zR ?_; intro K_ hK_) | (refine hK_ _ _ ?_; try clear hK_ K_) | refine sq_n ?_ | refine sq_r ?_ | refine sq_e ?_ | refine bq_n ?_ | refine bq_r ?_ | refine bq_q ?_ | refine zB ?_ | refine zX ?_ | refine zT ?_ | refine zK ?_ | refine gq_n ?_ | refine gq_r ?_ | refine gq_e ?_ | refine lq_n ?_ | refine lq_r ?_ | refine lq_e ?_ | refine bq_e (by decide) ?_) | ((with_reducible refine zC (b := ?b_) ?hb_ ?_ ?_); case hb_ => rfl) | ((conv => whnf); first | (with_reducible refine hK_ _ _ ?_; try clear hK_ K_) | (with_reducible refine fun (g_ : Sl) (o_ : Ow) => ?_) | (with_reducible first | exact True.intro | refine And.intro trivial ?_ | refine And.intro ?_ ?_) | exact Nat.le_of_ble_eq_true rfl | exact Or.inl rfl | (intro h_; cases h_) | (intro h_; (try simp only [vS1] at h_)) | rfl))) <;> (try (conv => whnf)) <;> (try first | change (_ : Int) ≤ _ | change (_ : Nat) ≤ _) <;> (try ((fail_if_success (with_reducible apply Exists.intro)); (try dsimp only); (try simp only [vS1]))) <;> (try simp (disch := omega) only [vS3, Int.add_sub_cancel, tn1, tnp, tnc, vS2] at *)
  all_goals (try ((fail_if_success (with_reducible apply Exists.intro)); first | with_reducible assumption | omega))
  · unfold convM
    rw [h_, Bool.true_and]
    exact beq_dec _ _
  · unfold convM; rw [h_]; rfl
def bigC : Con := mkCon [.sl (.b .u8)] (fun _ => True) fun x => vB (decide ((x.1.length : Int) > 1048576))
theorem big_ok : Good1 Try.prog n_laws_big bigC := by
  refine good_ofG (tys := tyL) (env := []) (envw := []) (envd := []) [] [] [] [] [] mixed tys trivial trivial trivial Try.func11 rfl (by kernel_rfl) (by decide) (by kernel_rfl) ?_
  have hG_ := kpz [(0, [0]), (1, [2])] [] [] []
  rintro ⟨(bs : List Int), ⟨⟩⟩ -
  (repeat' (first | (with_reducible first | exact True.intro | refine zQ ?_ | (refine zG hG_ ?_; intro K_ hK_) | (refine zR ?_; intro K_ hK_) | (refine hK_ _ _ ?_; try clear hK_ K_) | refine sq_n ?_ | refine sq_r ?_ | refine sq_e ?_ | refine bq_n ?_ | refine bq_r ?_ | refine bq_q ?_ | refine zB ?_ | refine zX ?_ | refine zT ?_ | refine zK ?_ | refine gq_n ?_ | refine gq_r ?_ | refine gq_e ?_ | refine lq_n ?_ | refine lq_r ?_ | refine lq_e ?_ | refine bq_e (by decide) ?_) | ((with_reducible refine zC (b := ?b_) ?hb_ ?_ ?_); case hb_ => rfl) | ((conv => whnf); first | (with_reducible refine hK_ _ _ ?_; try clear hK_ K_) | (with_reducible refine fun (g_ : Sl) (o_ : Ow) => ?_) | (with_reducible first | exact True.intro | refine And.intro trivial ?_ | refine And.intro ?_ ?_) | exact Nat.le_of_ble_eq_true rfl | exact Or.inl rfl | (intro h_; cases h_) | (intro h_; (try simp only [vS1] at h_)) | rfl))) <;> (try (conv => whnf)) <;> (try first | change (_ : Int) ≤ _ | change (_ : Nat) ≤ _) <;> (try ((fail_if_success (with_reducible apply Exists.intro)); (try dsimp only); (try simp only [vS1])))
  all_goals (try ((fail_if_success (with_reducible apply Exists.intro)); first | with_reducible assumption | omega))
def hasM (l : List Int) (k : Int) : Bool := l.any fun x => x == k
def hasC : Con := mkCon [.sl (.b .int), .int] (fun x => x.1.length ≤ 1048576) fun x => vB (hasM x.1 x.2.1)
theorem has_ok : Good1 Try.prog n_laws_has hasC := by
  refine good_ofG (tys := tyL) (env := []) (envw := []) (envd := []) [] [] [] [] [] mixed tys trivial trivial trivial Try.func45 rfl (by kernel_rfl) (by decide) (by kernel_rfl) ?_
  have hG_ := kpz [(0, [0, 1]), (1, [0, 1, 5]), (2, [0, 1, 5, 9]), (3, [0, 1, 5]), (4, [0, 1, 5, 17]), (5, [4]), (6, [4])] [] [] []
  rintro ⟨(l : List Int), (k : Int), ⟨⟩⟩ (h1 : l.length ≤ _)
  (repeat' (first | (with_reducible first | exact True.intro | refine zQ ?_ | (refine zG hG_ ?_; intro K_ hK_) | (refine zR ?_; intro K_ hK_) | (refine hK_ _ _ ?_; try clear hK_ K_) | refine sq_n ?_ | refine sq_r ?_ | refine sq_e ?_ | refine bq_n ?_ | refine bq_r ?_ | refine bq_q ?_ | refine zB ?_ | refine zX ?_ | refine zT ?_ | refine zK ?_ | refine gq_n ?_ | refine gq_r ?_ | refine gq_e ?_ | refine lq_n ?_ | refine lq_r ?_ | refine lq_e ?_ | refine bq_e (by decide) ?_) | ((with_reducible refine zC (b := ?b_) ?hb_ ?_ ?_); case hb_ => rfl) | ((conv => whnf); first | (with_reducible refine hK_ _ _ ?_; try clear hK_ K_) | (with_reducible refine fun (g_ : Sl) (o_ : Ow) => ?_) | (with_reducible first | exact True.intro | refine And.intro trivial ?_ | refine And.intro ?_ ?_) | exact Nat.le_of_ble_eq_true rfl | exact Or.inl rfl | (intro h_; cases h_) | (intro h_; (try simp only [vS1] at h_)) | rfl))) <;> (try (conv => whnf)) <;> (try first | change (_ : Int) ≤ _ | change (_ : Nat) ≤ _) <;> (try ((fail_if_success (with_reducible apply Exists.intro)); (try dsimp only); (try simp only [vS1])))
  all_goals (try ((fail_if_success (with_reducible apply Exists.intro)); first | with_reducible assumption | omega))
  refine awp'_loopG (α := Nat) (fun i ver_ => [(5, vInt i)]) (fun i ver_ => []) (fun i ver_ => []) (fun i => i ≤ l.length ∧ (l.take i).any (fun x => x == k) = false) (fun i => l.length - i) [0, 1] [] (0) ?_
  conv => whnf
  refine ⟨⟨?inv2_, ?vals2_, ?own2_, ?fix2_⟩, ?body2_⟩
  case' vals2_ => (repeat' (first | (with_reducible first | exact True.intro | refine And.intro ?_ ?_ | refine Head.mk ?_ ?_ ?_ ?_) | ((conv => lhs; whnf); first | (with_reducible first | rfl | exact vInt_s (by omega)) | exact rfl) | ((conv => whnf); first | (with_reducible first | exact True.intro | refine And.intro ?_ ?_)))) <;> (try (conv => lhs; whnf))
  case' own2_ => (repeat' (first | (with_reducible first | exact True.intro | refine And.intro ?_ ?_ | refine Head.mk ?_ ?_ ?_ ?_) | ((conv => lhs; whnf); first | (with_reducible first | rfl | exact vInt_s (by omega)) | exact rfl) | ((conv => whnf); first | (with_reducible first | exact True.intro | refine And.intro ?_ ?_)))) <;> (try (conv => lhs; whnf))
  case' fix2_ => (repeat' (first | (with_reducible first | exact True.intro | refine And.intro ?_ ?_ | refine Head.mk ?_ ?_ ?_ ?_) | ((conv => lhs; whnf); first | (with_reducible first | rfl | exact vInt_s (by omega)) | exact rfl) | ((conv => whnf); first | (with_reducible first | exact True.intro | refine And.intro ?_ ?_)))) <;> (try (conv => lhs; whnf))
  · exact ⟨Nat.zero_le _, rfl⟩
  rintro i g_ o_ v_ ⟨hi, hall⟩
  (repeat' (first | (with_reducible first | exact True.intro | refine zQ ?_ | (refine zG hG_ ?_; intro K_ hK_) | (refine zR ?_; intro K_ hK_) | (refine hK_ _ _ ?_; try clear hK_ K_) | refine sq_n ?_ | refine sq_r ?_ | refine sq_e ?_ | refine bq_n ?_ | refine bq_r ?_ | refine bq_q ?_ | refine zB ?_ | refine zX ?_ | refine zT ?_ | refine zK ?_ | refine gq_n ?_ | refine gq_r ?_ | refine gq_e ?_ | refine lq_n ?_ | refine lq_r ?_ | refine lq_e ?_ | refine bq_e (by decide) ?_) | ((with_reducible refine zC (b := ?b_) ?hb_ ?_ ?_); case hb_ => rfl) | ((conv => whnf); first | (with_reducible refine hK_ _ _ ?_; try clear hK_ K_) | (with_reducible refine fun (g_ : Sl) (o_ : Ow) => ?_) | (with_reducible first | exact True.intro | refine And.intro trivial ?_ | refine And.intro ?_ ?_) | exact Nat.le_of_ble_eq_true rfl | exact Or.inl rfl | (intro h_; cases h_) | (intro h_; (try simp only [vS1] at h_)) | rfl))) <;> (try (conv => whnf)) <;> (try first | change (_ : Int) ≤ _ | change (_ : Nat) ≤ _) <;> (try ((fail_if_success (with_reducible apply Exists.intro)); (try dsimp only); (try simp only [vS1])))
  all_goals (try ((fail_if_success (with_reducible apply Exists.intro)); first | with_reducible assumption | omega))
  · have hlt : i < l.length := by omega
    exact (List.any_eq_true.2 ⟨l[i], List.getElem_mem hlt, by rw [← getD_lt 0 hlt]; exact h_⟩).symm
  · have hlt : i < l.length := by omega
    refine ⟨i + 1, by omega, ⟨by omega, ?_⟩, by (repeat' (first | (with_reducible first | exact True.intro | refine And.intro ?_ ?_ | refine Head.mk ?_ ?_ ?_ ?_) | ((conv => lhs; whnf); first | (with_reducible first | rfl | exact vInt_s (by omega)) | exact rfl) | ((conv => whnf); first | (with_reducible first | exact True.intro | refine And.intro ?_ ?_)))) <;> (try (conv => lhs; whnf))⟩
    rw [List.take_succ_eq_append_getElem hlt, List.any_append, hall, ← getD_lt 0 hlt]
    simpa using h_
  · rw [List.take_of_length_le (by omega)] at hall
    exact hall.symm
end Go.Proofs.Ytnepfcnlngpchaa
namespace Go.Proofs.Ytnepfcnlngpchaa
open Go.RowKit Go.Proofs.Ytnepfcnlngpchaa.Nm
set_option maxRecDepth 10000
theorem corner_sees {xs : List Pt} {p : Pt} (hp : p ∈ floorPts xs) : ∃ k, k < xs.length ∧ seesS xs (pAt xs k) p = true := by
  obtain ⟨hr, hpt, hi⟩ := Geo.mem_floor.1 hp
  have hn := room_pos hr
  obtain ⟨j, hj⟩ := Geo.sees_corner (Geo.room_simple hr) (Geo.room_area hr).2.1 (p := p) fun o => hi ((Geo.out_iff hr (bd_of_ok hpt)).2 o)
  have hm : j % xs.length < xs.length := Nat.mod_lt _ hn
  refine ⟨j % xs.length, hm, ?_⟩
  rw [seesS_comm hr (Geo.corner_ok hr hm) hpt]
  exact (Geo.seesS_noout hr hpt (Geo.corner_ok hr hm) hi (Geo.corner_in hr hm)).2 hj
def Rise (n : Nat) : Nat → List Int → Prop
  | _, [] => True
  | a, x :: r => ∃ k : Nat, x = (k : Int) ∧ a ≤ k ∧ k < n ∧ Rise n (k + 1) r
theorem fsN_some {α : Type} {f : Nat → Option α} : ∀ {n a r}, fsN f n a = some r → ∃ k, a ≤ k ∧ k < a + n ∧ f k = some r
  | 0, a, r, h => by cases h
  | n + 1, a, r, h => by
    unfold fsN at h
    cases hf : f a with
    | some x => rw [hf] at h; exact ⟨a, Nat.le_refl _, by omega, by rw [hf]; exact h⟩
    | none =>
      rw [hf] at h
      obtain ⟨k, h1, h2, h3⟩ := fsN_some (n := n) (a := a + 1) h
      exact ⟨k, by omega, by omega, h3⟩
theorem fsR_some {α : Type} {f : Nat → Option α} {a b : Nat} {r : α} (h : fsR f a b = some r) : ∃ k, a ≤ k ∧ k < b ∧ f k = some r := by
  obtain ⟨k, h1, h2, h3⟩ := fsN_some h
  exact ⟨k, h1, by omega, h3⟩
theorem fsN_first {α : Type} {f : Nat → Option α} : ∀ {n a r}, fsN f n a = some r → ∃ k, a ≤ k ∧ k < a + n ∧ f k = some r ∧ ∀ j, a ≤ j → j < k → f j = none
  | 0, a, r, h => by cases h
  | n + 1, a, r, h => by
    unfold fsN at h
    cases hf : f a with
    | some x => rw [hf] at h; exact ⟨a, Nat.le_refl _, by omega, by rw [hf]; exact h, fun j h1 h2 => by omega⟩
    | none =>
      rw [hf] at h
      obtain ⟨k, h1, h2, h3, h4⟩ := fsN_first (n := n) (a := a + 1) h
      refine ⟨k, by omega, by omega, h3, fun j g1 g2 => ?_⟩
      rcases (show j = a ∨ a + 1 ≤ j by omega) with e | e
      · rw [e]; exact hf
      · exact h4 j e g2
theorem ch_some (M : Msk) : ∀ m l a r, chM M m l a = some r → ∃ l', r = l ++ l' ∧ l'.length = m ∧ Rise M.length a l' ∧ covM M r = true
  | 0, l, a, r, h => by
    rw [chM] at h
    split at h
    · rename_i hc
      injection h with h
      exact ⟨[], by rw [← h]; simp, rfl, trivial, by rw [← h]; exact hc⟩
    · cases h
  | m + 1, l, a, r, h => by
    rw [chM] at h
    obtain ⟨k, h1, h2, h3⟩ := fsR_some h
    obtain ⟨l', e, hl, hr, hc⟩ := ch_some M m _ _ r h3
    exact ⟨(k : Int) :: l', by rw [e]; simp, by simp [hl], ⟨k, rfl, h1, h2, hr⟩, hc⟩
theorem fsR_ne {α : Type} {f : Nat → Option α} {a b k : Nat} (h1 : a ≤ k) (h2 : k < b) (h : f k ≠ none) : fsR f a b ≠ none := fun e => h (fsR_none e h1 h2)
theorem ch_find (M : Msk) : ∀ l' l a, Rise M.length a l' → covM M (l ++ l') = true → chM M l'.length l a ≠ none
  | [], l, a, _, hc => by
    rw [List.append_nil] at hc
    show chM M 0 l a ≠ none
    rw [chM, if_pos hc]; simp
  | x :: r, l, a, ⟨k, e, h1, h2, h3⟩, hc => by
    show chM M (r.length + 1) l a ≠ none
    rw [chM]
    refine fsR_ne h1 h2 ?_
    subst e
    exact ch_find M r _ _ h3 (by simpa using hc)
theorem Rise.mem {n : Nat} : ∀ {a : Nat} {l : List Int}, Rise n a l → ∀ x ∈ l, ∃ k : Nat, x = (k : Int) ∧ a ≤ k ∧ k < n
  | _, [], _, x, hx => by cases hx
  | a, y :: r, ⟨k, e, h1, h2, h3⟩, x, hx => by
    rcases List.mem_cons.1 hx with rfl | hx
    · exact ⟨k, e, h1, h2⟩
    · obtain ⟨j, e', g1, g2⟩ := h3.mem x hx
      exact ⟨j, e', by omega, g2⟩
def covF (xs : List Pt) (l : List Int) : Prop := ∀ p ∈ floorPts xs, ∃ k ∈ l, seesS xs (pAt xs k.toNat) p = true
theorem cov_iff {xs : List Pt} (hr : roomOk xs = true) {l : List Int} (hl : ∀ x ∈ l, ∃ k : Nat, x = (k : Int) ∧ k < xs.length) : covM (masksM xs) l = true ↔ covF xs l := by
  have hn := room_pos hr
  have hw : wid (masksM xs) = (floorPts xs).length := by
    unfold wid
    rw [masks_get hn, mask_yes hr hn, List.length_map]
  have hs : ∀ x ∈ l, ∀ i, i < (floorPts xs).length → ((masksM xs).getD x.toNat []).getD i false = seesS xs (pAt xs x.toNat) (pAt (floorPts xs) i) := fun x hx i hi => by
    obtain ⟨k, rfl, hk⟩ := hl x hx
    rw [Int.toNat_natCast, masks_get hk, mask_yes hr hk, List.getD_eq_getElem?_getD, List.getElem?_map, List.getElem?_eq_getElem hi]
    show seesS xs _ (floorPts xs)[i] = seesS xs _ ((floorPts xs).getD i (0, 0))
    rw [getD_lt _ hi]
  unfold covM seenOf covF
  rw [hw, List.all_eq_true]
  constructor
  · intro h p hp
    obtain ⟨i, hi, rfl⟩ := List.getElem_of_mem hp
    obtain ⟨k, hk, hg⟩ := List.any_eq_true.1 (h i (List.mem_range.2 hi))
    rw [hs k hk i hi] at hg
    refine ⟨k, hk, ?_⟩
    rw [← getD_lt (0, 0) hi]; exact hg
  · intro h i hi
    have hi := List.mem_range.1 hi
    obtain ⟨k, hk, hg⟩ := h _ (List.getElem_mem hi)
    refine List.any_eq_true.2 ⟨k, hk, ?_⟩
    rw [hs k hk i hi]
    show seesS xs _ ((floorPts xs).getD i (0, 0)) = true
    rw [getD_lt _ hi]; exact hg
theorem rise_range (n a : Nat) : ∀ m, a + m ≤ n → Rise n a ((List.range' a m).map fun k : Nat => (k : Int))
  | 0, _ => trivial
  | m + 1, h => ⟨a, rfl, Nat.le_refl _, by omega, rise_range n (a + 1) m (by omega)⟩
theorem few_spec {xs : List Pt} (hr : roomOk xs = true) : 1 ≤ (fewM xs).length ∧ Rise xs.length 0 (fewM xs) ∧ covF xs (fewM xs) ∧ ∀ l, 1 ≤ l.length → Rise xs.length 0 l → covF xs l → (fewM xs).length ≤ l.length := by
  have hn := room_pos hr
  have hM : (masksM xs).length = xs.length := masks_len xs
  have mem : ∀ {l : List Int}, Rise xs.length 0 l → ∀ x ∈ l, ∃ k : Nat, x = (k : Int) ∧ k < xs.length := fun h x hx => by
    obtain ⟨k, e, _, g⟩ := h.mem x hx
    exact ⟨k, e, g⟩
  have all : fewO (masksM xs) ≠ none := by
    unfold fewO
    refine fsR_ne (k := xs.length) (by omega) (by omega) ?_
    have hri := rise_range xs.length 0 xs.length (by omega)
    have := ch_find (masksM xs) ((List.range' 0 xs.length).map fun k : Nat => (k : Int)) [] 0 (by rw [hM]; exact hri) (by
      rw [List.nil_append, cov_iff hr (mem hri)]
      intro p hp
      obtain ⟨k, hk, hs⟩ := corner_sees hp
      exact ⟨(k : Int), List.mem_map.2 ⟨k, by simp [List.mem_range']; exact hk, rfl⟩, by rw [Int.toNat_natCast]; exact hs⟩)
    rwa [List.length_map, List.length_range'] at this
  obtain ⟨r, hr'⟩ : ∃ r, fewO (masksM xs) = some r := by
    cases h : fewO (masksM xs) with
    | none => exact absurd h all
    | some r => exact ⟨r, rfl⟩
  have hf : fewM xs = r := by rw [few_ok hr, hr']; rfl
  rw [hf]
  unfold fewO at hr'
  obtain ⟨n, n1, n2, n3, n4⟩ := fsN_first hr'
  obtain ⟨l', e, hl, hri, hc⟩ := ch_some _ _ _ _ _ n3
  rw [List.nil_append] at e
  subst e
  rw [hM] at hri
  refine ⟨by omega, hri, (cov_iff hr (mem hri)).1 hc, fun l h1 h2 h3 => ?_⟩
  rcases (show r.length ≤ l.length ∨ l.length < n by omega) with g | g
  · exact g
  · exfalso
    refine ch_find (masksM xs) l [] 0 (by rw [hM]; exact h2) ?_ (n4 l.length h1 g)
    rw [List.nil_append, cov_iff hr (mem h2)]; exact h3
theorem pigeon : ∀ (n : Nat) (G : List Int) (f : Nat → Int), (∀ i, i < n → f i ∈ G) → (∀ i j, i < j → j < n → f i ≠ f j) → n ≤ G.length
  | 0, _, _, _, _ => Nat.zero_le _
  | n + 1, G, f, h1, h2 => by
    have hm := h1 n (by omega)
    have := pigeon n (G.erase (f n)) f (fun i hi => (List.mem_erase_of_ne (h2 i n hi (by omega))).2 (h1 i (by omega))) fun i j hi hj => h2 i j hi (by omega)
    rw [List.length_erase_of_mem hm] at this
    have := List.length_pos_of_mem hm
    omega
theorem wit_le {xs W : List Pt} {G : List Int} (hG : covF xs G) (hg : ∀ x ∈ G, ∃ k : Nat, x = (k : Int) ∧ k < xs.length) (hW : ∀ p ∈ W, p ∈ floorPts xs)
    (h1 : ∀ k, k < xs.length → ∀ i, i < W.length → ∀ j, j < i → ¬ (seesS xs (pAt xs k) (pAt W i) = true ∧ seesS xs (pAt xs k) (pAt W j) = true)) : W.length ≤ G.length := by
  have ex : ∀ i, ∃ g : Int, i < W.length → g ∈ G ∧ seesS xs (pAt xs g.toNat) (pAt W i) = true := fun i => by
    by_cases hi : i < W.length
    · obtain ⟨g, h, hs⟩ := hG _ (hW _ (pAt_mem hi))
      exact ⟨g, fun _ => ⟨h, hs⟩⟩
    · exact ⟨0, fun h => absurd h hi⟩
  obtain ⟨f, hf⟩ := Classical.axiomOfChoice ex
  refine pigeon W.length G f (fun i hi => (hf i hi).1) fun i j hij hj e => ?_
  obtain ⟨g1, s1⟩ := hf i (by omega)
  obtain ⟨g2, s2⟩ := hf j hj
  obtain ⟨k, ek, hk⟩ := hg _ g1
  rw [← e, ek, Int.toNat_natCast] at s2
  rw [ek, Int.toNat_natCast] at s1
  exact h1 k hk j hj i hij ⟨s2, s1⟩
theorem gd_mem {xs : List Pt} : ∀ {i : Nat}, i ≤ (floorPts xs).length → ∀ p ∈ (gdTo xs i).1, p ∈ floorPts xs
  | 0, _, p, hp => by cases hp
  | i + 1, hi, p, hp => by
    have ih := gd_mem (xs := xs) (i := i) (by omega)
    rw [gdTo] at hp
    split at hp
    · exact ih p hp
    · split at hp
      · rcases List.mem_append.1 hp with h | h
        · exact ih p h
        · have : p = pAt (floorPts xs) i := by simpa using h
          rw [this]; exact pAt_mem (by omega)
      · exact ih p hp
theorem gd_seen {xs : List Pt} : ∀ (i : Nat) {k : Nat}, k < xs.length → (gdTo xs i).2.getD k false = (gdTo xs i).1.any fun p => seesS xs (pAt xs k) p
  | 0, k, hk => by simp only [gdTo, List.any_nil, List.getD_eq_getElem?_getD, List.getElem?_replicate, if_pos hk, Option.getD_some]
  | i + 1, k, hk => by
    have ih := gd_seen (xs := xs) i hk
    rw [gdTo]
    split
    · exact ih
    · split
      · simp only
        rw [gOr_get hk, ih, List.any_append]
        simp
      · exact ih
theorem gd_pair {xs : List Pt} : ∀ (i : Nat), (gdTo xs i).1.Pairwise fun p q => ∀ k, k < xs.length → ¬ (seesS xs (pAt xs k) p = true ∧ seesS xs (pAt xs k) q = true)
  | 0 => List.Pairwise.nil
  | i + 1 => by
    have ih := gd_pair (xs := xs) i
    rw [gdTo]
    split
    · exact ih
    · split
      · rename_i hf
        refine List.pairwise_append.2 ⟨ih, by simp, fun p hp q hq k hk hb => ?_⟩
        have hq : q = pAt (floorPts xs) i := by simpa using hq
        subst hq
        have := List.all_eq_true.1 hf k (List.mem_range.2 hk)
        rw [gd_seen i hk, hb.2, Bool.true_and] at this
        have h2 : (gdTo xs i).1.any (fun p => seesS xs (pAt xs k) p) = true := List.any_eq_true.2 ⟨p, hp, hb.1⟩
        rw [h2] at this
        exact absurd this (by decide)
      · exact ih
theorem gd_mono {xs : List Pt} {i : Nat} : ∀ {j : Nat}, i ≤ j → (gdTo xs i).1.length ≤ (gdTo xs j).1.length
  | 0, h => by rw [show i = 0 by omega]; exact Nat.le_refl _
  | j + 1, h => by
    rcases Nat.eq_or_lt_of_le h with e | e
    · rw [e]; exact Nat.le_refl _
    · refine Nat.le_trans (gd_mono (j := j) (by omega)) ?_
      rw [gdTo]
      split
      · exact Nat.le_refl _
      · split
        · simp
        · exact Nat.le_refl _
theorem gd_one {xs : List Pt} : (gdTo xs 1).1 = [pAt (floorPts xs) 0] := by
  have h : gFree xs (gdTo xs 0).2 (pAt (floorPts xs) 0) xs.length = true := List.all_eq_true.2 fun k hk => by
    have hk := List.mem_range.1 hk
    show (!(_ && (List.replicate xs.length false).getD k false)) = true
    simp [List.getD, hk]
  rw [gd_yes (by simp [gdTo]) h]
  rfl
theorem greedy_wit {xs : List Pt} (hr : roomOk xs = true) : witM xs (greedyM xs) = true := by
  have e : greedyM xs = (gdTo xs (floorPts xs).length).1 := by unfold greedyM; rw [if_pos hr]
  rw [e]
  refine witM_iff.2 ⟨(gd_len xs _).1, allIn_iff.2 ⟨hr, fun k hk => ?_⟩, fun k hk i hi j hj hb => ?_⟩
  · obtain ⟨_, h1, h2⟩ := Geo.mem_floor.1 (gd_mem (Nat.le_refl _) _ (pAt_mem hk))
    exact inP_iff.2 ⟨h1, h2⟩
  · have := List.pairwise_iff_getElem.1 (gd_pair (xs := xs) (floorPts xs).length) j i (by omega) hi hj k hk
    rw [← getD_lt (0, 0) hi, ← getD_lt (0, 0) (show j < _ by omega)] at this
    exact this ⟨hb.2, hb.1⟩
theorem floor_pos' {xs : List Pt} (hr : roomOk xs = true) : 0 < (floorPts xs).length := List.length_pos_of_mem (Geo.corner_floor hr (room_pos hr))
theorem greedy_pos {xs : List Pt} (hr : roomOk xs = true) : 1 ≤ (greedyM xs).length := by
  have e : greedyM xs = (gdTo xs (floorPts xs).length).1 := by unfold greedyM; rw [if_pos hr]
  have := gd_mono (xs := xs) (i := 1) (j := (floorPts xs).length) (floor_pos' hr)
  rw [gd_one] at this
  rw [e]; exact this
theorem greedy_few {xs : List Pt} (hr : roomOk xs = true) : (greedyM xs).length ≤ (fewM xs).length := by
  obtain ⟨h1, h2, h3, -⟩ := few_spec hr
  have hw := (witM_iff.1 (greedy_wit hr)).2.2
  refine wit_le h3 (fun x hx => ?_) (fun p hp => ?_) hw
  · obtain ⟨k, e, _, g⟩ := h2.mem x hx
    exact ⟨k, e, g⟩
  · unfold greedyM at hp
    rw [if_pos hr] at hp
    exact gd_mem (Nat.le_refl _) _ hp
theorem greedy_all {xs : List Pt} (hr : roomOk xs = true) (h : ∀ k, k < xs.length → ∀ p ∈ floorPts xs, seesS xs (pAt xs k) p = true) : (greedyM xs).length = 1 := by
  have e : greedyM xs = (gdTo xs (floorPts xs).length).1 := by unfold greedyM; rw [if_pos hr]
  have hn := room_pos hr
  have key : ∀ i, 1 ≤ i → i ≤ (floorPts xs).length → gdTo xs i = gdTo xs 1 := fun i h1 => by
    induction i with
    | zero => omega
    | succ i ih =>
      intro hi
      rcases (show i = 0 ∨ 1 ≤ i by omega) with g | g
      · rw [g]
      · have e1 := ih g (by omega)
        have hno : gFree xs (gdTo xs i).2 (pAt (floorPts xs) i) xs.length = false := by
          cases hg : gFree xs (gdTo xs i).2 (pAt (floorPts xs) i) xs.length with
          | false => rfl
          | true =>
            exfalso
            have := List.all_eq_true.1 hg 0 (List.mem_range.2 hn)
            rw [h 0 hn _ (pAt_mem (by omega)), gd_seen i hn, e1, gd_one] at this
            have h0 := h 0 hn _ (pAt_mem (L := floorPts xs) (u := 0) (by omega))
            simp only [List.any_cons, List.any_nil, Bool.or_false, Bool.true_and] at this
            rw [h0] at this
            exact absurd this (by decide)
        rw [gd_no hno]; exact e1
  rw [e, key _ (floor_pos' hr) (Nat.le_refl _), gd_one]; rfl
theorem hid_zero {xs : List Pt} : ∀ k, 1 ≤ k → ∃ r, hidTo xs k = 0 :: r
  | 0, h => by omega
  | 1, _ => ⟨[], rfl⟩
  | k + 2, _ => by
    obtain ⟨r, hr⟩ := hid_zero (xs := xs) (k + 1) (by omega)
    rw [hidTo, hr]
    split
    · exact ⟨r ++ [k + 1], rfl⟩
    · exact ⟨r, rfl⟩
theorem hid_all {xs : List Pt} (h : ∀ k, k < xs.length → seesS xs (pAt xs 0) (pAt xs k) = true) : ∀ k, 1 ≤ k → k ≤ xs.length → hidTo xs k = [0]
  | 0, h, _ => by omega
  | 1, _, _ => rfl
  | k + 2, _, hk => by
    have := hid_all h (k + 1) (by omega) (by omega)
    have hs := h (k + 1) (by omega)
    rw [hidTo, this, if_neg]
    rw [List.all_cons, hs]; simp
theorem hidden_ok {xs : List Pt} (hr : roomOk xs = true) : hidM xs (ptsOf xs (hiddenM xs)) = true := by
  have hlr := room_len hr
  have e : hiddenM xs = (hidTo xs xs.length).map fun j : Nat => (j : Int) := by unfold hiddenM; rw [if_pos hr]; rfl
  have hin : ∀ j ∈ hidTo xs xs.length, j < xs.length := fun j hj => hidTo_lt hj
  have ep : ptsOf xs (hiddenM xs) = (hidTo xs xs.length).map (pAt xs) := by
    rw [ptsOf_ok hr (by
      rw [e, List.all_map]
      refine List.all_eq_true.2 fun j hj => ?_
      have := hin j hj
      show btw (j : Int) 0 (xs.length - 1) = true
      rw [btw_iff]; omega), e, List.map_map]
    exact List.map_congr_left fun j hj => by
      show pI xs (j : Int) = pAt xs j
      unfold pI; rw [Int.toNat_natCast]
  rw [ep]
  have hp := hidTo_pair hr (Nat.le_refl xs.length)
  have hl := hidTo_len xs xs.length
  refine hidM_iff.2 ⟨by rw [List.length_map]; omega, allIn_iff.2 ⟨hr, fun k hk => ?_⟩, fun i hi k hk => ?_⟩
  · rw [List.length_map] at hk
    have e1 : pAt ((hidTo xs xs.length).map (pAt xs)) k = pAt xs (hidTo xs xs.length)[k] := by
      rw [pAt, List.getD_eq_getElem?_getD, List.getElem?_map, List.getElem?_eq_getElem hk]; rfl
    rw [e1]
    exact corner_in hr (hin _ (List.getElem_mem hk))
  · rw [List.length_map] at hi
    have g : ∀ t, (ht : t < (hidTo xs xs.length).length) → pAt ((hidTo xs xs.length).map (pAt xs)) t = pAt xs (hidTo xs xs.length)[t] := fun t ht => by
      rw [pAt, List.getD_eq_getElem?_getD, List.getElem?_map, List.getElem?_eq_getElem ht]; rfl
    rw [g i hi, g k (by omega)]
    exact List.pairwise_iff_getElem.1 hp k i (by omega) hi hk
theorem l04Copy_ok : Good1 Try.prog n_spec_l04Copy (roomRoomC id) := by
  refine good_ofG (tys := tyL) (env := []) (envw := []) (envd := []) [3] [] [] [] [] mixed tys trivial trivial trivial Try.func111 rfl (by kernel_rfl) (by decide) (by kernel_rfl) ?_
  have hG_ := kpz [(0, [1, 2]), (1, [2])] [(0, [2]), (1, [2, 3])] [] []
  rintro ⟨(xs : List Pt), ⟨⟩⟩ (h1 : xs.length ≤ _)
  (repeat' (first | (with_reducible first | exact True.intro | refine zQ ?_ | (refine zG hG_ ?_; intro K_ hK_) | (refine zR ?_; intro K_ hK_) | (refine hK_ _ _ ?_; try clear hK_ K_) | refine sq_n ?_ | refine sq_r ?_ | refine sq_e ?_ | refine bq_n ?_ | refine bq_r ?_ | refine bq_q ?_ | refine zB ?_ | refine zX ?_ | refine zT ?_ | refine zK ?_ | refine gq_n ?_ | refine gq_r ?_ | refine gq_e ?_ | refine lq_n ?_ | refine lq_r ?_ | refine lq_e ?_ | refine bq_e (by decide) ?_) | ((with_reducible refine zC (b := ?b_) ?hb_ ?_ ?_); case hb_ => rfl) | ((conv => whnf); first | (with_reducible refine hK_ _ _ ?_; try clear hK_ K_) | (with_reducible refine fun (g_ : Sl) (o_ : Ow) => ?_) | (with_reducible first | exact True.intro | refine And.intro trivial ?_ | refine And.intro ?_ ?_) | exact Nat.le_of_ble_eq_true rfl | exact Or.inl rfl | (intro h_; cases h_) | (intro h_; (try simp only [vS1] at h_)) | rfl))) <;> (try (conv => whnf)) <;> (try first | change (_ : Int) ≤ _ | change (_ : Nat) ≤ _) <;> (try ((fail_if_success (with_reducible apply Exists.intro)); (try dsimp only); (try simp only [vS1]))) <;> (try simp (disch := omega) only [vS3, vS2] at *)
  all_goals (try (fail_if_success (with_reducible apply Exists.intro)); first | with_reducible assumption | omega | exact mdl (by omega) | exact ilo1 (by omega) | exact ilo2 (by omega) | exact ihi1 (by omega) (by omega) | exact ihi2 (by omega) (by omega))
end Go.Proofs.Ytnepfcnlngpchaa
namespace Go.Proofs.Ytnepfcnlngpchaa
open Go.RowKit Go.Proofs.Ytnepfcnlngpchaa.Nm
set_option maxRecDepth 10000
set_option maxHeartbeats 4000000
def shapeM (k : Int) : List Pt :=
  if k = 0 then [(0, 0), (4, 0), (4, 4), (0, 4)] else
  if k = 1 then [(0, 0), (5, 0), (2, 4)] else
  if k = 2 then [(0, 0), (6, 0), (6, 2), (2, 2), (2, 6), (0, 6)] else
  if k = 3 then [(0, 0), (8, 0), (8, 6), (4, 2), (0, 6)] else
  if k = 4 then [(0, 0), (10, 0), (10, 5), (8, 1), (5, 5), (2, 1), (0, 5)] else
  if k = 5 then [(0, 0), (7, 0), (7, 7), (1, 7), (1, 3), (3, 3), (3, 5), (5, 5), (5, 2), (0, 2)] else
  if k = 6 then [(0, 0), (4, 2), (8, 0), (5, 3), (4, 7), (3, 3)] else [(0, 0), (6, 1), (7, 4), (3, 6), (1, 3)]
def l04ShapeC : Con := mkCon [.int] (fun _ => True) fun x => .val (.agg [.d (.sl none (.b .pt) (shapeM x.1))])
theorem l04Shape_ok : Good1 Try.prog n_spec_l04Shape l04ShapeC := by
  refine good_ofG (tys := tyL) (env := []) (envw := []) (envd := []) [] [] [] [] [] mixed tys trivial trivial trivial Try.func110 rfl (by kernel_rfl) (by decide) (by kernel_rfl) ?_
  have hG_ := kpz [(0, [0, 2]), (1, [2, 3]), (2, [2, 3, 4]), (3, [2]), (4, [2, 3, 12]), (5, [2]), (6, [2, 3, 19]), (7, [2]), (8, [2, 3, 29]), (9, [2]), (10, [2, 3, 38]), (11, [2]), (12, [2, 3, 49]), (13, [2]), (14, [2, 63]), (15, [2]), (16, [2])] [(0, [2]), (1, [2]), (2, [2]), (3, [2]), (4, [2]), (5, [2]), (6, [2]), (7, [2]), (8, [2]), (9, [2]), (10, [2]), (11, [2]), (12, [2]), (13, [2]), (14, [2]), (15, [2]), (16, [2])] [] []
  rintro ⟨(k : Int), ⟨⟩⟩ -
  (repeat' (first | (with_reducible first | exact True.intro | refine zQ ?_ | (refine zG hG_ ?_; intro K_ hK_) | (refine zR ?_; intro K_ hK_) | (refine hK_ _ _ ?_; try clear hK_ K_) | refine sq_n ?_ | refine sq_r ?_ | refine sq_e ?_ | refine bq_n ?_ | refine bq_r ?_ | refine bq_q ?_ | refine zB ?_ | refine zX ?_ | refine zT ?_ | refine zK ?_ | refine gq_n ?_ | refine gq_r ?_ | refine gq_e ?_ | refine lq_n ?_ | refine lq_r ?_ | refine lq_e ?_ | refine bq_e (by decide) ?_) | ((with_reducible refine zC (b := ?b_) ?hb_ ?_ ?_); case hb_ => rfl) | ((conv => whnf); first | (with_reducible refine hK_ _ _ ?_; try clear hK_ K_) | (with_reducible refine fun (g_ : Sl) (o_ : Ow) => ?_) | (with_reducible first | exact True.intro | refine And.intro trivial ?_ | refine And.intro ?_ ?_) | exact Nat.le_of_ble_eq_true rfl | exact Or.inl rfl | (intro h_; cases h_) | (intro h_; (try simp only [vS1] at h_)) | rfl))) <;> (try (conv => whnf)) <;> (try first | change (_ : Int) ≤ _ | change (_ : Nat) ≤ _) <;> (try ((fail_if_success (with_reducible apply Exists.intro)); (try dsimp only); (try simp only [vS1])))
  all_goals (try (fail_if_success (with_reducible apply Exists.intro)); first | with_reducible assumption | omega | exact mdl (by omega) | exact ilo1 (by omega) | exact ilo2 (by omega) | exact ihi1 (by omega) (by omega) | exact ihi2 (by omega) (by omega))
  all_goals first
    | (have e := eq_of_beq h_; subst e; rfl)
    | (unfold shapeM; simp_all; rfl)
def stepX (xs : List Pt) (c : Cur) : List Pt :=
  xs.set (belowX c xs.length).toNat ((xs.getD (belowX c xs.length).toNat (0, 0)).1 + belowX (belowC c xs.length) 3 - 1, (xs.getD (belowX c xs.length).toNat (0, 0)).2 + belowX (belowC (belowC c xs.length) 3) 3 - 1)
def stepC (n : Int) (c : Cur) : Cur := belowC (belowC (belowC c n) 3) 3
def stepR (s : List Pt × Cur) : List Pt × Cur := (if roomOk (stepX s.1 s.2) then stepX s.1 s.2 else s.1, stepC s.1.length s.2)
def iterR (s : List Pt × Cur) : Nat → List Pt × Cur
  | 0 => s
  | j + 1 => stepR (iterR s j)
def turnP (turn : Int) (p : Pt) : Pt := if turn = 1 then (-p.2, p.1) else if turn = 2 then (-p.1, -p.2) else p
def laidP (turn dx : Int) (p : Pt) : Pt := ((turnP turn p).1 + dx, (turnP turn p).2)
def laidAt (xs : List Pt) (turn first dx : Int) (k : Nat) : Pt := laidP turn dx (xs.getD ((first.toNat + k) % xs.length) (0, 0))
def laidR (xs : List Pt) (turn first dx : Int) : List Pt := (List.range xs.length).map (laidAt xs turn first dx)
def room0 (c : Cur) : List Pt × Cur := (shapeM (belowX c 8), belowC (belowC c 8) 4)
def roomK (c : Cur) : Int := belowX (belowC c 8) 4
def roomS (c : Cur) : List Pt × Cur := iterR (room0 c) (roomK c).toNat
def roomX (c : Cur) : List Pt :=
  laidR (roomS c).1 (belowX (roomS c).2 4) (belowX (belowC (roomS c).2 4) (roomS c).1.length) (belowX (belowC (belowC (roomS c).2 4) (roomS c).1.length) 5 - 2)
def roomC (c : Cur) : Cur := belowC (belowC (belowC (roomS c).2 4) (roomS c).1.length) 5
theorem stepX_len (xs : List Pt) (c : Cur) : (stepX xs c).length = xs.length := List.length_set ..
theorem stepR_len (s : List Pt × Cur) : (stepR s).1.length = s.1.length := by
  unfold stepR
  simp only
  split
  · exact stepX_len _ _
  · rfl
theorem iterR_len (s : List Pt × Cur) : ∀ j, (iterR s j).1.length = s.1.length
  | 0 => rfl
  | j + 1 => (stepR_len _).trans (iterR_len s j)
theorem stepC_ok {n : Int} {c : Cur} (h : curOk c) : curOk (stepC n c) := belowC_ok (belowC_ok (belowC_ok h))
theorem iterR_cur {s : List Pt × Cur} (h : curOk s.2) : ∀ j, curOk (iterR s j).2
  | 0 => h
  | j + 1 => stepC_ok (iterR_cur h j)
theorem shape_len (k : Int) : 3 ≤ (shapeM k).length ∧ (shapeM k).length ≤ 10 := by
  unfold shapeM
  repeat' split
  all_goals decide
def setXY (xs : List Pt) (i : Nat) (a b : Int) : List Pt :=
  (xs.set i (W (W ((xs.getD i (0, 0)).1 + a) - 1), (xs.getD i (0, 0)).2)).set i
    (((xs.set i (W (W ((xs.getD i (0, 0)).1 + a) - 1), (xs.getD i (0, 0)).2)).getD i (0, 0)).1,
      W (W (((xs.set i (W (W ((xs.getD i (0, 0)).1 + a) - 1), (xs.getD i (0, 0)).2)).getD i (0, 0)).2 + b) - 1))
theorem pt_room {xs : List Pt} (hr : roomOk xs = true) {i : Nat} (hi : i < xs.length) : -40 ≤ (xs.getD i (0, 0)).1 ∧ (xs.getD i (0, 0)).1 ≤ 40 ∧ -40 ≤ (xs.getD i (0, 0)).2 ∧ (xs.getD i (0, 0)).2 ≤ 40 := by
  rw [getD_lt _ hi]
  exact ptOk_iff.1 (List.all_eq_true.1 (roomOk_iff.1 hr).2.1 _ (List.getElem_mem hi))
theorem setXY_eq {xs : List Pt} (hr : roomOk xs = true) {i : Nat} (hi : i < xs.length) {a b : Int} (ha : 0 ≤ a ∧ a < 3) (hb : 0 ≤ b ∧ b < 3) :
    setXY xs i a b = xs.set i ((xs.getD i (0, 0)).1 + a - 1, (xs.getD i (0, 0)).2 + b - 1) := by
  have h := pt_room hr hi
  have g : ∀ x : Pt, (xs.set i x).getD i (0, 0) = x := fun x => by rw [getD_lt _ (by rw [List.length_set]; exact hi), List.getElem_set_self]
  unfold setXY
  rw [List.set_set, g]
  simp only [W_l3]
  rw [W_in (by omega) (by omega), W_in (by omega) (by omega)]
theorem shape_ok (k : Int) : roomOk (shapeM k) = true := by
  unfold shapeM
  repeat' split
  all_goals decide +kernel
theorem iterR_ok {s : List Pt × Cur} (h : roomOk s.1 = true) : ∀ j, roomOk (iterR s j).1 = true
  | 0 => h
  | j + 1 => by
    show roomOk (stepR (iterR s j)).1 = true
    unfold stepR
    simp only
    split
    · assumption
    · exact iterR_ok h j
theorem stepX_setXY {xs : List Pt} (hr : roomOk xs = true) (c : Cur) : setXY xs (belowX c xs.length).toNat (belowX (belowC c xs.length) 3) (belowX (belowC (belowC c xs.length) 3) 3) = stepX xs c := by
  have h3 := (roomOk_iff.1 hr).1
  have hb := below_bd (c := c) (n := (xs.length : Int)) (by omega)
  exact setXY_eq hr (by omega) (below_bd (by decide)) (below_bd (by decide))
theorem rng1 {f : Nat → Pt} {x : Pt} (h : x = f 0) : [x] = (List.range (0 + 1)).map f := by rw [h]; rfl
theorem rngS {f : Nat → Pt} {k : Nat} {x : Pt} (h : x = f k) : (List.range k).map f ++ [x] = (List.range (k + 1)).map f := by
  rw [List.range_succ, List.map_append, h]; rfl
theorem laid_1 {xs : List Pt} (hr : roomOk xs = true) {turn first dx : Int} {k m : Nat} (ht : (turn == 1) = true) (hm : m = (first.toNat + k) % xs.length) (hdx : -2 ≤ dx ∧ dx ≤ 2) :
    (W (W (0 - (xs.getD m (0, 0)).2) + dx), (xs.getD m (0, 0)).1) = laidAt xs turn first dx k := by
  have h3 := (roomOk_iff.1 hr).1
  have h := pt_room hr (i := m) (by rw [hm]; exact Nat.mod_lt _ (by omega))
  unfold laidAt laidP turnP W
  rw [← hm, if_pos (eq_of_beq ht), W_l1, W_in (by omega) (by omega)]
  simp
theorem laid_2 {xs : List Pt} (hr : roomOk xs = true) {turn first dx : Int} {k m : Nat} (hn : (turn == 1) = false) (ht : (turn == 2) = true) (hm : m = (first.toNat + k) % xs.length) (hdx : -2 ≤ dx ∧ dx ≤ 2) :
    (W (W (0 - (xs.getD m (0, 0)).1) + dx), W (0 - (xs.getD m (0, 0)).2)) = laidAt xs turn first dx k := by
  have h3 := (roomOk_iff.1 hr).1
  have h := pt_room hr (i := m) (by rw [hm]; exact Nat.mod_lt _ (by omega))
  unfold laidAt laidP turnP W
  rw [← hm, if_neg (ne_of_beq_false hn), if_pos (eq_of_beq ht), W_l1, W_in (by omega) (by omega), W_in (by omega) (by omega)]
  simp
theorem laid_0 {xs : List Pt} (hr : roomOk xs = true) {turn first dx : Int} {k m : Nat} (hn : (turn == 1) = false) (ht : (turn == 2) = false) (hm : m = (first.toNat + k) % xs.length) (hdx : -2 ≤ dx ∧ dx ≤ 2) :
    (W ((xs.getD m (0, 0)).1 + dx), (xs.getD m (0, 0)).2) = laidAt xs turn first dx k := by
  have h3 := (roomOk_iff.1 hr).1
  have h := pt_room hr (i := m) (by rw [hm]; exact Nat.mod_lt _ (by omega))
  unfold laidAt laidP turnP W
  rw [← hm, if_neg (ne_of_beq_false hn), if_neg (ne_of_beq_false ht), W_in (by omega) (by omega)]
def l04RoomC : ConD := mkConB [.cur] 0 t_spec_l01Cur (fun x => curOk x.1) (fun x => .agg [.d (.sl none (.b .pt) (roomX x.1))]) fun x => curL (roomC x.1)
theorem l04Room_ok : GoodD Try.prog n_spec_l04Room l04RoomC := by
  refine good_ofB (tys := tyL) (env := [(n_spec_l04Shape, l04ShapeC), (n_spec_l04Copy, (roomRoomC id)), (n_spec_RoomOk, roomOkC)]) (envw := []) (envd := [(n_spec_l01Below, l01BelowC)]) [15, 21, 28, 30, 41, 56, 66, 69, 71, 1000] [13, 15, 21, 28, 41, 56, 66, 69, 71, 1000] [31, 32, 34, 35, 37, 38, 39, 44, 45, 46, 47, 49, 50, 52, 53, 54, 59, 60] [] [15, 21, 28, 41, 56, 66, 69, 71] mixed tys ⟨l04Shape_ok, l04Copy_ok, sRoomOk_ok, trivial⟩ trivial ⟨l01Below_ok, trivial⟩ Try.func61 rfl (by kernel_rfl) ⟨by decide, rfl⟩ (by kernel_rfl) ?_
  have hG_ := kpz [(0, [0, 2]), (1, [0, 2, 3]), (2, [0, 2, 3, 4]), (3, [0, 2, 3, 4, 5]), (4, [0, 2, 3, 4, 5, 23]), (5, [0, 2, 3, 4, 5]), (6, [0, 2, 3, 4, 5, 6]), (7, [0, 2, 3, 4, 5, 6, 7]), (8, [0, 2, 3, 4, 5, 6, 7]), (9, [0, 2, 3, 4, 5, 7]), (10, [0, 2, 3, 4, 5, 7, 62]), (11, [0, 2, 3, 4, 5]), (12, [0, 2, 3, 4, 8]), (13, [0, 2, 3, 4, 8, 9]), (14, [0, 2, 3, 4, 8, 9, 10]), (15, [2, 3, 4, 8, 9, 10, 11]), (16, [2, 3, 4, 8, 9, 10, 11, 12]), (17, [2, 3, 4, 8, 9, 10, 11, 12, 75]), (18, [2, 3, 4, 8, 9, 10, 11, 12]), (19, [2, 3, 4, 8, 9, 10, 11, 12, 13]), (20, [2, 3, 4, 8, 9, 10, 11, 12, 13, 87]), (21, [2, 3, 4, 8, 9, 10, 11, 12, 13, 87, 88]), (22, [2, 3, 4, 8, 9, 10, 11, 12, 13]), (23, [2, 3, 4, 8, 9, 10, 11, 12, 13, 96]), (24, [2, 3, 4, 8, 9, 10, 11, 12, 13]), (25, [2, 3, 4, 8, 9, 10, 11, 12, 13]), (26, [2, 3, 4, 8, 9, 10, 11, 12]), (27, [2])] [(0, [2, 1000]), (1, [2, 3, 1000]), (2, [2, 3, 1000]), (3, [2, 3, 1000]), (4, [2, 3, 1000]), (5, [2, 3, 30, 1000]), (6, [2, 3, 1000]), (7, [2, 3, 7, 30, 1000]), (8, [2, 3, 7, 30, 1000]), (9, [2, 3, 7, 30, 1000]), (10, [2, 3, 7, 30, 1000]), (11, [2, 3, 30, 1000]), (12, [2, 3, 8, 1000]), (13, [2, 3, 8, 1000]), (14, [2, 3, 8, 1000]), (15, [2, 3, 8, 1000]), (16, [2, 3, 8, 1000]), (17, [2, 3, 8, 1000]), (18, [2, 3, 8, 1000]), (19, [2, 3, 8, 13, 1000]), (20, [2, 3, 8, 13, 1000]), (21, [2, 3, 8, 13, 1000]), (22, [2, 3, 8, 13, 1000]), (23, [2, 3, 8, 13, 1000]), (24, [2, 3, 8, 13, 1000]), (25, [2, 3, 8, 13, 1000]), (26, [2, 3, 8, 1000]), (27, [2, 1000])] [(11, [30])] []
  rintro ⟨⟨(bs : List Int), (i : Int), (h : Int)⟩, ⟨⟩⟩ (hc : curOk (bs, i, h))
  have hb1 : 0 ≤ roomK (bs, i, h) ∧ roomK (bs, i, h) < 4 := below_bd (c := belowC (bs, i, h) 8) (n := 4) (by decide)
  have hl0 : 3 ≤ (room0 (bs, i, h)).1.length ∧ (room0 (bs, i, h)).1.length ≤ 10 := shape_len _
  have h1 : curOk (belowC (bs, i, h) 8) := belowC_ok hc
  have hlen := iterR_len (room0 (bs, i, h))
  have hcur : ∀ j, curOk (iterR (room0 (bs, i, h)) j).2 := iterR_cur (s := room0 (bs, i, h)) (show curOk (belowC (belowC (bs, i, h) 8) 4) from belowC_ok (belowC_ok hc))
  (repeat' (first | (with_reducible first | exact True.intro | refine zQ ?_ | (refine zG hG_ ?_; intro K_ hK_) | (refine zR ?_; intro K_ hK_) | (refine hK_ _ _ ?_; try clear hK_ K_) | refine sq_n ?_ | refine sq_r ?_ | refine sq_e ?_ | refine bq_n ?_ | refine bq_r ?_ | refine bq_q ?_ | refine zB ?_ | refine zX ?_ | refine zT ?_ | refine zK ?_ | refine gq_n ?_ | refine gq_r ?_ | refine gq_e ?_ | refine lq_n ?_ | refine lq_r ?_ | refine lq_e ?_ | refine bq_e (by decide) ?_) | ((with_reducible refine zC (b := ?b_) ?hb_ ?_ ?_); case hb_ => rfl) | ((conv => whnf); first | (with_reducible refine hK_ _ _ ?_; try clear hK_ K_) | (with_reducible refine fun (g_ : Sl) (o_ : Ow) => ?_) | (with_reducible first | exact True.intro | refine And.intro trivial ?_ | refine And.intro ?_ ?_) | exact Nat.le_of_ble_eq_true rfl | exact Or.inl rfl | (intro h_; cases h_) | (intro h_; (try simp only [vS1] at h_)) | rfl))) <;> (try (conv => whnf)) <;> (try first | change (_ : Int) ≤ _ | change (_ : Nat) ≤ _) <;> (try ((fail_if_success (with_reducible apply Exists.intro)); (try dsimp only); (try simp only [vS1])))
  all_goals (try (fail_if_success (with_reducible apply Exists.intro)); first | with_reducible assumption | omega | exact mdl (by omega) | exact ilo1 (by omega) | exact ilo2 (by omega) | exact ihi1 (by omega) (by omega) | exact ihi2 (by omega) (by omega))
  refine awp'_loopG (α := Nat) (fun j ver_ => [(5, vInt (roomK (bs, i, h) - j)), (4, vInt ((iterR (room0 (bs, i, h)) j).1.length : Nat))]) (fun j ver_ => [(3, 3, true, .box t_impl_Room [.d (.sl none (.b .pt) (iterR (room0 (bs, i, h)) j).1)])]) (fun j ver_ => [(1000, ⟨0, .box t_spec_l01Cur ((curL (iterR (room0 (bs, i, h)) j).2).map .d)⟩), (13, ⟨ver_ 13, .dead⟩)]) (fun j => j ≤ (roomK (bs, i, h)).toNat) (fun j => (roomK (bs, i, h)).toNat - j) [0, 2] [2] (0) ?_
  conv => whnf
  refine ⟨⟨?inv1_, ?vals1_, ?own1_, ?fix1_⟩, ?body1_⟩
  case' vals1_ => (repeat' (first | (with_reducible first | exact True.intro | refine And.intro ?_ ?_ | refine Head.mk ?_ ?_ ?_ ?_) | ((conv => lhs; whnf); first | (with_reducible first | rfl | exact vInt_s (by omega)) | exact rfl) | ((conv => whnf); first | (with_reducible first | exact True.intro | refine And.intro ?_ ?_)))) <;> (try (conv => lhs; whnf))
  case' own1_ => (repeat' (first | (with_reducible first | exact True.intro | refine And.intro ?_ ?_ | refine Head.mk ?_ ?_ ?_ ?_) | ((conv => lhs; whnf); first | (with_reducible first | rfl | exact vInt_s (by omega)) | exact rfl) | ((conv => whnf); first | (with_reducible first | exact True.intro | refine And.intro ?_ ?_)))) <;> (try (conv => lhs; whnf))
  case' fix1_ => (repeat' (first | (with_reducible first | exact True.intro | refine And.intro ?_ ?_ | refine Head.mk ?_ ?_ ?_ ?_) | ((conv => lhs; whnf); first | (with_reducible first | rfl | exact vInt_s (by omega)) | exact rfl) | ((conv => whnf); first | (with_reducible first | exact True.intro | refine And.intro ?_ ?_)))) <;> (try (conv => lhs; whnf))
  · exact (Int.sub_zero _).symm ▸ rfl
  · exact Nat.zero_le _
  rintro j g_ o_ v_ hj
  have hn := hlen j
  have hcj := hcur j
  have hrj := iterR_ok (s := room0 (bs, i, h)) (shape_ok _) j
  generalize hs : iterR (room0 (bs, i, h)) j = s at *
  have hstep : iterR (room0 (bs, i, h)) (j + 1) = stepR s := by show stepR _ = _; rw [hs]
  obtain ⟨xs, c⟩ := s
  have hc1 : curOk (belowC c (xs.length : Int)) := belowC_ok hcj
  have hc2 : curOk (belowC (belowC c (xs.length : Int)) 3) := belowC_ok hc1
  have hx3 : 3 ≤ xs.length ∧ xs.length ≤ 10 := by have : xs.length = _ := hn; omega
  have hbx := below_bd (c := c) (n := (xs.length : Int)) (by omega)
  (repeat' (first | (with_reducible first | exact True.intro | refine zQ ?_ | (refine zG hG_ ?_; intro K_ hK_) | (refine zR ?_; intro K_ hK_) | (refine hK_ _ _ ?_; try clear hK_ K_) | refine sq_n ?_ | refine sq_r ?_ | refine sq_e ?_ | refine bq_n ?_ | refine bq_r ?_ | refine bq_q ?_ | refine zB ?_ | refine zX ?_ | refine zT ?_ | refine zK ?_ | refine gq_n ?_ | refine gq_r ?_ | refine gq_e ?_ | refine lq_n ?_ | refine lq_r ?_ | refine lq_e ?_ | refine bq_e (by decide) ?_) | ((with_reducible refine zC (b := ?b_) ?hb_ ?_ ?_); case hb_ => rfl) | ((conv => whnf); first | (with_reducible refine hK_ _ _ ?_; try clear hK_ K_) | (with_reducible refine fun (g_ : Sl) (o_ : Ow) => ?_) | (with_reducible first | exact True.intro | refine And.intro trivial ?_ | refine And.intro ?_ ?_) | exact Nat.le_of_ble_eq_true rfl | exact Or.inl rfl | (intro h_; cases h_) | (intro h_; (try simp only [vS1] at h_)) | rfl))) <;> (try (conv => whnf)) <;> (try first | change (_ : Int) ≤ _ | change (_ : Nat) ≤ _) <;> (try ((fail_if_success (with_reducible apply Exists.intro)); (try dsimp only); (try simp only [vS1])))
  all_goals (try (fail_if_success (with_reducible apply Exists.intro)); first | with_reducible assumption | omega | exact mdl (by omega) | exact ilo1 (by omega) | exact ilo2 (by omega) | exact ihi1 (by omega) (by omega) | exact ihi2 (by omega) (by omega))
  all_goals (try (simp only [id_eq, List.length_set]; omega))
  · have hE := stepX_setXY hrj c
    have h_ : roomOk (setXY xs (belowX c xs.length).toNat (belowX (belowC c xs.length) 3) (belowX (belowC (belowC c xs.length) 3) 3)) = true := h_
    rw [hE] at h_
    have e1 : iterR (room0 (bs, i, h)) (j + 1) = (stepX xs c, stepC xs.length c) := by rw [hstep]; unfold stepR; simp only; rw [if_pos h_]
    refine ⟨j + 1, by omega, by omega, ?_⟩
    rw [e1]
    (repeat' (first | (with_reducible first | exact True.intro | refine And.intro ?_ ?_ | refine Head.mk ?_ ?_ ?_ ?_) | ((conv => lhs; whnf); first | (with_reducible first | rfl | exact vInt_s (by omega)) | exact rfl) | ((conv => whnf); first | (with_reducible first | exact True.intro | refine And.intro ?_ ?_)))) <;> (try (conv => lhs; whnf))
    · exact congrArg vInt (by rw [W_in (by omega) (by omega)]; omega)
    · exact congrArg vInt (by show ((xs.length : Nat) : Int) = ((stepX xs c).length : Int); rw [stepX_len])
    · exact congrArg (fun l => Own.box t_impl_Room [.d (.sl none (.b .pt) l)]) hE
  · have hE := stepX_setXY hrj c
    have h_ : roomOk (setXY xs (belowX c xs.length).toNat (belowX (belowC c xs.length) 3) (belowX (belowC (belowC c xs.length) 3) 3)) = false := h_
    rw [hE] at h_
    have e1 : iterR (room0 (bs, i, h)) (j + 1) = (xs, stepC xs.length c) := by rw [hstep]; unfold stepR; simp only; rw [if_neg (by rw [h_]; decide)]
    refine ⟨j + 1, by omega, by omega, ?_⟩
    rw [e1]
    (repeat' (first | (with_reducible first | exact True.intro | refine And.intro ?_ ?_ | refine Head.mk ?_ ?_ ?_ ?_) | ((conv => lhs; whnf); first | (with_reducible first | rfl | exact vInt_s (by omega)) | exact rfl) | ((conv => whnf); first | (with_reducible first | exact True.intro | refine And.intro ?_ ?_)))) <;> (try (conv => lhs; whnf))
    · exact congrArg vInt (by rw [W_in (by omega) (by omega)]; omega)
  · exact belowC_ok hcj
  · exact belowC_ok (belowC_ok hcj)
  have hj2 : j = (roomK (bs, i, h)).toNat := by omega
  have hS : roomS (bs, i, h) = (xs, c) := by unfold roomS; rw [← hj2]; exact hs
  have b1 := below_bd (c := c) (n := 4) (by decide)
  have b2 := below_bd (c := belowC c 4) (n := (xs.length : Int)) (by omega)
  have b3 := below_bd (c := belowC (belowC c 4) xs.length) (n := 5) (by decide)
  have hX : roomX (bs, i, h) = laidR xs (belowX c 4) (belowX (belowC c 4) xs.length) (belowX (belowC (belowC c 4) xs.length) 5 - 2) := by unfold roomX; rw [hS]
  have hC : roomC (bs, i, h) = belowC (belowC (belowC c 4) xs.length) 5 := by unfold roomC; rw [hS]
  generalize hT : belowX c 4 = turn at *
  generalize hF : belowX (belowC c 4) xs.length = first at *
  generalize hD : belowX (belowC (belowC c 4) xs.length) 5 = dx at *
  refine awp'_loopG (α := Nat) (fun k ver_ => [(4, vInt (xs.length : Nat)), (9, vInt turn), (10, vInt first), (11, vInt (dx - 2)), (12, vInt k)]) (fun k ver_ => [(8, 8, true, .box t_impl_Room [match k with | 0 => .d .nil | _ + 1 => .own 114 (ver_ 114)])]) (fun k ver_ => match k with | 0 => [] | _ + 1 => [(114, ⟨ver_ 114, .row t_impl_Point (.b .pt) ((List.range k).map (laidAt xs turn first (dx - 2)))⟩)]) (fun k => k ≤ xs.length) (fun k => xs.length - k) [2, 3] [2, 3, 1000] (0) ?_
  conv => whnf
  refine ⟨⟨?inv2_, ?vals2_, ?own2_, ?fix2_⟩, ?body2_⟩
  case' vals2_ => (repeat' (first | (with_reducible first | exact True.intro | refine And.intro ?_ ?_ | refine Head.mk ?_ ?_ ?_ ?_) | ((conv => lhs; whnf); first | (with_reducible first | rfl | exact vInt_s (by omega)) | exact rfl) | ((conv => whnf); first | (with_reducible first | exact True.intro | refine And.intro ?_ ?_)))) <;> (try (conv => lhs; whnf))
  case' own2_ => (repeat' (first | (with_reducible first | exact True.intro | refine And.intro ?_ ?_ | refine Head.mk ?_ ?_ ?_ ?_) | ((conv => lhs; whnf); first | (with_reducible first | rfl | exact vInt_s (by omega)) | exact rfl) | ((conv => whnf); first | (with_reducible first | exact True.intro | refine And.intro ?_ ?_)))) <;> (try (conv => lhs; whnf))
  case' fix2_ => (repeat' (first | (with_reducible first | exact True.intro | refine And.intro ?_ ?_ | refine Head.mk ?_ ?_ ?_ ?_) | ((conv => lhs; whnf); first | (with_reducible first | rfl | exact vInt_s (by omega)) | exact rfl) | ((conv => whnf); first | (with_reducible first | exact True.intro | refine And.intro ?_ ?_)))) <;> (try (conv => lhs; whnf))
  · exact congrArg vInt (W_in (by omega) (by omega))
  · exact Nat.zero_le _
  have hix : ∀ k : Nat, k < xs.length → Int.tmod (W (first + (k : Int))) (xs.length : Int) = (((first.toNat + k) % xs.length : Nat) : Int) := fun k hk => by
    rw [show first = ((first.toNat : Nat) : Int) by omega]
    exact mod_nat (by omega)
  have hlt : ∀ k : Nat, ((first.toNat + k) % xs.length) < xs.length := fun k => Nat.mod_lt _ (by omega)
  have hin : ∀ k : Nat, k < xs.length → 0 ≤ Int.tmod (W (first + (k : Int))) (xs.length : Int) ∧ Int.tmod (W (first + (k : Int))) (xs.length : Int) + 1 ≤ (xs.length : Int) := fun k hk => by
    have := hlt k
    rw [hix k hk]; omega
  have him : ∀ k : Nat, k < xs.length → (Int.tmod (W (first + (k : Int))) (xs.length : Int)).toNat = (first.toNat + k) % xs.length := fun k hk => by rw [hix k hk]; exact Int.toNat_natCast _
  rintro (_ | k) g_ o_ v_ hk
  ·
    have hG_ := kpz [(0, [0, 2]), (1, [0, 2, 3]), (2, [0, 2, 3, 4]), (3, [0, 2, 3, 4, 5]), (4, [0, 2, 3, 4, 5, 23]), (5, [0, 2, 3, 4, 5]), (6, [0, 2, 3, 4, 5, 6]), (7, [0, 2, 3, 4, 5, 6, 7]), (8, [0, 2, 3, 4, 5, 6, 7]), (9, [0, 2, 3, 4, 5, 7]), (10, [0, 2, 3, 4, 5, 7, 62]), (11, [0, 2, 3, 4, 5]), (12, [0, 2, 3, 4, 8]), (13, [0, 2, 3, 4, 8, 9]), (14, [0, 2, 3, 4, 8, 9, 10]), (15, [2, 3, 4, 8, 9, 10, 11]), (16, [2, 3, 4, 8, 9, 10, 11, 12]), (17, [2, 3, 4, 8, 9, 10, 11, 12, 75]), (18, [2, 3, 4, 8, 9, 10, 11, 12]), (19, [2, 3, 4, 8, 9, 10, 11, 12, 13]), (20, [2, 3, 4, 8, 9, 10, 11, 12, 13, 87]), (21, [2, 3, 4, 8, 9, 10, 11, 12, 13, 87, 88]), (22, [2, 3, 4, 8, 9, 10, 11, 12, 13]), (23, [2, 3, 4, 8, 9, 10, 11, 12, 13, 96]), (24, [2, 3, 4, 8, 9, 10, 11, 12, 13]), (25, [2, 3, 4, 8, 9, 10, 11, 12, 13]), (26, [2, 3, 4, 8, 9, 10, 11, 12]), (27, [2])] [(0, [2, 1000]), (1, [2, 3, 1000]), (2, [2, 3, 1000]), (3, [2, 3, 1000]), (4, [2, 3, 1000]), (5, [2, 3, 30, 1000]), (6, [2, 3, 1000]), (7, [2, 3, 7, 30, 1000]), (8, [2, 3, 7, 30, 1000]), (9, [2, 3, 7, 30, 1000]), (10, [2, 3, 7, 30, 1000]), (11, [2, 3, 30, 1000]), (12, [2, 3, 8, 1000]), (13, [2, 3, 8, 1000]), (14, [2, 3, 8, 1000]), (15, [2, 3, 8, 1000]), (16, [2, 3, 8, 1000]), (17, [2, 3, 8, 1000]), (18, [2, 3, 8, 114, 1000]), (19, [2, 3, 8, 13, 1000]), (20, [2, 3, 8, 13, 1000]), (21, [2, 3, 8, 13, 1000]), (22, [2, 3, 8, 13, 1000]), (23, [2, 3, 8, 13, 1000]), (24, [2, 3, 8, 13, 1000]), (25, [2, 3, 8, 13, 1000]), (26, [2, 3, 8, 114, 1000]), (27, [2, 1000])] [(11, [30])] []
    (repeat' (first | (with_reducible first | exact True.intro | refine zQ ?_ | (refine zG hG_ ?_; intro K_ hK_) | (refine zR ?_; intro K_ hK_) | (refine hK_ _ _ ?_; try clear hK_ K_) | refine sq_n ?_ | refine sq_r ?_ | refine sq_e ?_ | refine bq_n ?_ | refine bq_r ?_ | refine bq_q ?_ | refine zB ?_ | refine zX ?_ | refine zT ?_ | refine zK ?_ | refine gq_n ?_ | refine gq_r ?_ | refine gq_e ?_ | refine lq_n ?_ | refine lq_r ?_ | refine lq_e ?_ | refine bq_e (by decide) ?_) | ((with_reducible refine zC (b := ?b_) ?hb_ ?_ ?_); case hb_ => rfl) | ((conv => whnf); first | (with_reducible refine hK_ _ _ ?_; try clear hK_ K_) | (with_reducible refine fun (g_ : Sl) (o_ : Ow) => ?_) | (with_reducible first | exact True.intro | refine And.intro trivial ?_ | refine And.intro ?_ ?_) | exact Nat.le_of_ble_eq_true rfl | exact Or.inl rfl | (intro h_; cases h_) | (intro h_; (try simp only [vS1] at h_)) | rfl))) <;> (try (conv => whnf)) <;> (try first | change (_ : Int) ≤ _ | change (_ : Nat) ≤ _) <;> (try ((fail_if_success (with_reducible apply Exists.intro)); (try dsimp only); (try simp only [vS1])))
    all_goals (try ((fail_if_success (with_reducible apply Exists.intro)); first | with_reducible assumption | exact (hin _ (by omega)).1 | exact (hin _ (by omega)).2 | (simp only [List.length_map, List.length_range, List.length_singleton]; omega) | omega))
    · refine ⟨1, by omega, by omega, ?_⟩
      (repeat' (first | (with_reducible first | exact True.intro | refine And.intro ?_ ?_ | refine Head.mk ?_ ?_ ?_ ?_) | ((conv => lhs; whnf); first | (with_reducible first | rfl | exact vInt_s (by omega)) | exact rfl) | ((conv => whnf); first | (with_reducible first | exact True.intro | refine And.intro ?_ ?_)))) <;> (try (conv => lhs; whnf))
      exact locRow_eq (rng1 (laid_1 hrj ‹_› (him 0 (by omega)) (by omega)))
    · refine ⟨1, by omega, by omega, ?_⟩
      (repeat' (first | (with_reducible first | exact True.intro | refine And.intro ?_ ?_ | refine Head.mk ?_ ?_ ?_ ?_) | ((conv => lhs; whnf); first | (with_reducible first | rfl | exact vInt_s (by omega)) | exact rfl) | ((conv => whnf); first | (with_reducible first | exact True.intro | refine And.intro ?_ ?_)))) <;> (try (conv => lhs; whnf))
      exact locRow_eq (rng1 (laid_2 hrj ‹_› ‹_› (him 0 (by omega)) (by omega)))
    · refine ⟨1, by omega, by omega, ?_⟩
      (repeat' (first | (with_reducible first | exact True.intro | refine And.intro ?_ ?_ | refine Head.mk ?_ ?_ ?_ ?_) | ((conv => lhs; whnf); first | (with_reducible first | rfl | exact vInt_s (by omega)) | exact rfl) | ((conv => whnf); first | (with_reducible first | exact True.intro | refine And.intro ?_ ?_)))) <;> (try (conv => lhs; whnf))
      exact locRow_eq (rng1 (laid_0 hrj ‹_› ‹_› (him 0 (by omega)) (by omega)))
  ·
    have hG_ := kpz [(0, [0, 2]), (1, [0, 2, 3]), (2, [0, 2, 3, 4]), (3, [0, 2, 3, 4, 5]), (4, [0, 2, 3, 4, 5, 23]), (5, [0, 2, 3, 4, 5]), (6, [0, 2, 3, 4, 5, 6]), (7, [0, 2, 3, 4, 5, 6, 7]), (8, [0, 2, 3, 4, 5, 6, 7]), (9, [0, 2, 3, 4, 5, 7]), (10, [0, 2, 3, 4, 5, 7, 62]), (11, [0, 2, 3, 4, 5]), (12, [0, 2, 3, 4, 8]), (13, [0, 2, 3, 4, 8, 9]), (14, [0, 2, 3, 4, 8, 9, 10]), (15, [2, 3, 4, 8, 9, 10, 11]), (16, [2, 3, 4, 8, 9, 10, 11, 12]), (17, [2, 3, 4, 8, 9, 10, 11, 12, 75]), (18, [2, 3, 4, 8, 9, 10, 11, 12]), (19, [2, 3, 4, 8, 9, 10, 11, 12, 13]), (20, [2, 3, 4, 8, 9, 10, 11, 12, 13, 87]), (21, [2, 3, 4, 8, 9, 10, 11, 12, 13, 87, 88]), (22, [2, 3, 4, 8, 9, 10, 11, 12, 13]), (23, [2, 3, 4, 8, 9, 10, 11, 12, 13, 96]), (24, [2, 3, 4, 8, 9, 10, 11, 12, 13]), (25, [2, 3, 4, 8, 9, 10, 11, 12, 13]), (26, [2, 3, 4, 8, 9, 10, 11, 12]), (27, [2])] [(0, [2, 114, 1000]), (1, [2, 3, 114, 1000]), (2, [2, 3, 114, 1000]), (3, [2, 3, 114, 1000]), (4, [2, 3, 114, 1000]), (5, [2, 3, 30, 114, 1000]), (6, [2, 3, 114, 1000]), (7, [2, 3, 7, 30, 114, 1000]), (8, [2, 3, 7, 30, 114, 1000]), (9, [2, 3, 7, 30, 114, 1000]), (10, [2, 3, 7, 30, 114, 1000]), (11, [2, 3, 30, 114, 1000]), (12, [2, 3, 8, 114, 1000]), (13, [2, 3, 8, 114, 1000]), (14, [2, 3, 8, 114, 1000]), (15, [2, 3, 8, 114, 1000]), (16, [2, 3, 8, 114, 1000]), (17, [2, 3, 8, 114, 1000]), (18, [2, 3, 8, 114, 1000]), (19, [2, 3, 8, 13, 114, 1000]), (20, [2, 3, 8, 13, 114, 1000]), (21, [2, 3, 8, 13, 114, 1000]), (22, [2, 3, 8, 13, 114, 1000]), (23, [2, 3, 8, 13, 114, 1000]), (24, [2, 3, 8, 13, 114, 1000]), (25, [2, 3, 8, 13, 114, 1000]), (26, [2, 3, 8, 114, 1000]), (27, [2, 114, 1000])] [(11, [30])] []
    (repeat' (first | (with_reducible first | exact True.intro | refine zQ ?_ | (refine zG hG_ ?_; intro K_ hK_) | (refine zR ?_; intro K_ hK_) | (refine hK_ _ _ ?_; try clear hK_ K_) | refine sq_n ?_ | refine sq_r ?_ | refine sq_e ?_ | refine bq_n ?_ | refine bq_r ?_ | refine bq_q ?_ | refine zB ?_ | refine zX ?_ | refine zT ?_ | refine zK ?_ | refine gq_n ?_ | refine gq_r ?_ | refine gq_e ?_ | refine lq_n ?_ | refine lq_r ?_ | refine lq_e ?_ | refine bq_e (by decide) ?_) | ((with_reducible refine zC (b := ?b_) ?hb_ ?_ ?_); case hb_ => rfl) | ((conv => whnf); first | (with_reducible refine hK_ _ _ ?_; try clear hK_ K_) | (with_reducible refine fun (g_ : Sl) (o_ : Ow) => ?_) | (with_reducible first | exact True.intro | refine And.intro trivial ?_ | refine And.intro ?_ ?_) | exact Nat.le_of_ble_eq_true rfl | exact Or.inl rfl | (intro h_; cases h_) | (intro h_; (try simp only [vS1] at h_)) | rfl))) <;> (try (conv => whnf)) <;> (try first | change (_ : Int) ≤ _ | change (_ : Nat) ≤ _) <;> (try ((fail_if_success (with_reducible apply Exists.intro)); (try dsimp only); (try simp only [vS1])))
    all_goals (try ((fail_if_success (with_reducible apply Exists.intro)); first | with_reducible assumption | exact (hin _ (by omega)).1 | exact (hin _ (by omega)).2 | (simp only [List.length_map, List.length_range, List.length_singleton]; omega) | omega))
    · refine ⟨k + 2, by omega, by omega, ?_⟩
      (repeat' (first | (with_reducible first | exact True.intro | refine And.intro ?_ ?_ | refine Head.mk ?_ ?_ ?_ ?_) | ((conv => lhs; whnf); first | (with_reducible first | rfl | exact vInt_s (by omega)) | exact rfl) | ((conv => whnf); first | (with_reducible first | exact True.intro | refine And.intro ?_ ?_)))) <;> (try (conv => lhs; whnf))
      exact locRow_eq (rngS (laid_1 hrj ‹_› (him (k + 1) (by omega)) (by omega)))
    · refine ⟨k + 2, by omega, by omega, ?_⟩
      (repeat' (first | (with_reducible first | exact True.intro | refine And.intro ?_ ?_ | refine Head.mk ?_ ?_ ?_ ?_) | ((conv => lhs; whnf); first | (with_reducible first | rfl | exact vInt_s (by omega)) | exact rfl) | ((conv => whnf); first | (with_reducible first | exact True.intro | refine And.intro ?_ ?_)))) <;> (try (conv => lhs; whnf))
      exact locRow_eq (rngS (laid_2 hrj ‹_› ‹_› (him (k + 1) (by omega)) (by omega)))
    · refine ⟨k + 2, by omega, by omega, ?_⟩
      (repeat' (first | (with_reducible first | exact True.intro | refine And.intro ?_ ?_ | refine Head.mk ?_ ?_ ?_ ?_) | ((conv => lhs; whnf); first | (with_reducible first | rfl | exact vInt_s (by omega)) | exact rfl) | ((conv => whnf); first | (with_reducible first | exact True.intro | refine And.intro ?_ ?_)))) <;> (try (conv => lhs; whnf))
      exact locRow_eq (rngS (laid_0 hrj ‹_› ‹_› (him (k + 1) (by omega)) (by omega)))
    · show dOf _ = some _
      rw [hC]; rfl
    · rw [hX, show k + 1 = xs.length by omega]; rfl
def drawRoomM (bs : List Int) : List Pt := roomX (newC bs)
def drawRoomC : Con := mkCon [.sl (.b .u8)] (fun x => x.1.length ≤ 1048576) fun x => .val (.agg [.d (.sl none (.b .pt) (drawRoomM x.1))])
theorem drawRoom_ok : Good1 Try.prog n_spec_DrawRoom drawRoomC := by
  refine good_ofG (tys := tyL) (env := []) (envw := []) (envd := [(n_spec_l01New, l01NewC), (n_spec_l04Room, l04RoomC)]) [4, 5] [4, 5] [] [] [4, 5] mixed tys trivial trivial ⟨l01New_ok, l04Room_ok, trivial⟩ Try.func12 rfl (by kernel_rfl) (by decide) (by kernel_rfl) ?_
  have hG_ := kpz [(0, [0, 2]), (1, [2])] [(0, [2]), (1, [2, 4])] [] []
  rintro ⟨(bs : List Int), ⟨⟩⟩ (h1 : bs.length ≤ _)
  have hc := newC_ok h1
  (repeat' (first | (with_reducible first | exact True.intro | refine zQ ?_ | (refine zG hG_ ?_; intro K_ hK_) | (refine zR ?_; intro K_ hK_) | (refine hK_ _ _ ?_; try clear hK_ K_) | refine sq_n ?_ | refine sq_r ?_ | refine sq_e ?_ | refine bq_n ?_ | refine bq_r ?_ | refine bq_q ?_ | refine zB ?_ | refine zX ?_ | refine zT ?_ | refine zK ?_ | refine gq_n ?_ | refine gq_r ?_ | refine gq_e ?_ | refine lq_n ?_ | refine lq_r ?_ | refine lq_e ?_ | refine bq_e (by decide) ?_) | ((with_reducible refine zC (b := ?b_) ?hb_ ?_ ?_); case hb_ => rfl) | ((conv => whnf); first | (with_reducible refine hK_ _ _ ?_; try clear hK_ K_) | (with_reducible refine fun (g_ : Sl) (o_ : Ow) => ?_) | (with_reducible first | exact True.intro | refine And.intro trivial ?_ | refine And.intro ?_ ?_) | exact Nat.le_of_ble_eq_true rfl | exact Or.inl rfl | (intro h_; cases h_) | (intro h_; (try simp only [vS1] at h_)) | rfl))) <;> (try (conv => whnf)) <;> (try first | change (_ : Int) ≤ _ | change (_ : Nat) ≤ _) <;> (try ((fail_if_success (with_reducible apply Exists.intro)); (try dsimp only); (try simp only [vS1])))
  all_goals (try (fail_if_success (with_reducible apply Exists.intro)); first | with_reducible assumption | omega | exact mdl (by omega) | exact ilo1 (by omega) | exact ilo2 (by omega) | exact ihi1 (by omega) (by omega) | exact ihi2 (by omega) (by omega))
end Go.Proofs.Ytnepfcnlngpchaa
namespace Go.Proofs.Ytnepfcnlngpchaa
open Go.RowKit Go.Proofs.Ytnepfcnlngpchaa.Nm
set_option maxRecDepth 10000
theorem shape_bd (k : Int) : ∀ q ∈ shapeM k, 0 ≤ q.1 ∧ q.1 ≤ 10 ∧ 0 ≤ q.2 ∧ q.2 ≤ 10 := by
  unfold shapeM
  repeat' split
  all_goals decide
theorem stepR_bd {s : List Pt × Cur} {j : Int} (hr : roomOk s.1 = true) (h : ∀ q ∈ s.1, -j ≤ q.1 ∧ q.1 ≤ 10 + j ∧ -j ≤ q.2 ∧ q.2 ≤ 10 + j) : ∀ q ∈ (stepR s).1, -(j + 1) ≤ q.1 ∧ q.1 ≤ 10 + (j + 1) ∧ -(j + 1) ≤ q.2 ∧ q.2 ≤ 10 + (j + 1) := by
  have h3 := (roomOk_iff.1 hr).1
  intro q hq
  have old : q ∈ s.1 → -(j + 1) ≤ q.1 ∧ q.1 ≤ 10 + (j + 1) ∧ -(j + 1) ≤ q.2 ∧ q.2 ≤ 10 + (j + 1) := fun hq => by have := h q hq; omega
  unfold stepR at hq
  simp only at hq
  split at hq
  · unfold stepX at hq
    rcases List.mem_or_eq_of_mem_set hq with hq | rfl
    · exact old hq
    · have hb := below_bd (c := s.2) (n := (s.1.length : Int)) (by omega)
      have hi : (belowX s.2 s.1.length).toNat < s.1.length := by omega
      have := h _ (List.getElem_mem hi)
      rw [← getD_lt (0, 0) hi] at this
      have b1 := below_bd (c := belowC s.2 s.1.length) (n := 3) (by decide)
      have b2 := below_bd (c := belowC (belowC s.2 s.1.length) 3) (n := 3) (by decide)
      simp only
      omega
  · exact old hq
theorem iterR_bd (c : Cur) : ∀ j : Nat, ∀ q ∈ (iterR (room0 c) j).1, -(j : Int) ≤ q.1 ∧ q.1 ≤ 10 + (j : Int) ∧ -(j : Int) ≤ q.2 ∧ q.2 ≤ 10 + (j : Int)
  | 0 => fun q hq => by have := shape_bd _ q hq; omega
  | j + 1 => stepR_bd (iterR_ok (shape_ok _) j) (iterR_bd c j)
def laidMv (turn dx : Int) : Geo.Mv := if turn = 1 then ⟨0, 1, dx, 0, rfl⟩ else if turn = 2 then ⟨-1, 0, dx, 0, rfl⟩ else ⟨1, 0, dx, 0, rfl⟩
theorem laidMv_app (turn dx : Int) (p : Pt) : laidP turn dx p = (laidMv turn dx).app p := by
  unfold laidP turnP laidMv Geo.Mv.app
  split
  · refine Prod.ext ?_ ?_ <;> simp only <;> omega
  · split
    · refine Prod.ext ?_ ?_ <;> simp only <;> omega
    · refine Prod.ext ?_ ?_ <;> simp only <;> omega
theorem laidR_len (xs : List Pt) (turn first dx : Int) : (laidR xs turn first dx).length = xs.length := by unfold laidR; simp
theorem laid_ok {xs : List Pt} (hr : roomOk xs = true) {turn first dx : Int} (hb : ∀ q ∈ xs, -30 ≤ q.1 ∧ q.1 ≤ 30 ∧ -30 ≤ q.2 ∧ q.2 ≤ 30) (hd : -2 ≤ dx ∧ dx ≤ 2) : roomOk (laidR xs turn first dx) = true := by
  have h3 := (roomOk_iff.1 hr).1
  have hn : 0 < xs.length := by omega
  refine Geo.room_moved hr first.toNat (laidMv turn dx) (laidR_len _ _ _ _) (fun j => ?_) fun q hq => ?_
  · show (laidR xs turn first dx).getD (j % (laidR xs turn first dx).length) (0, 0) = _
    rw [laidR_len]
    have hj := Nat.mod_lt j hn
    rw [getD_lt _ (by rw [laidR_len]; exact hj)]
    unfold laidR
    rw [List.getElem_map, List.getElem_range]
    show laidP turn dx (xs.getD ((first.toNat + j % xs.length) % xs.length) (0, 0)) = _
    rw [laidMv_app, Nat.add_mod_mod]
  · unfold laidR at hq
    obtain ⟨k, -, rfl⟩ := List.mem_map.1 hq
    have hm : (first.toNat + k) % xs.length < xs.length := Nat.mod_lt _ hn
    have := hb _ (List.getElem_mem hm)
    rw [← getD_lt (0, 0) hm] at this
    show ptOk (laidP turn dx (xs.getD _ _)) = true
    refine ptOk_iff.2 ?_
    unfold laidP turnP
    repeat' split
    all_goals simp only; omega
theorem roomX_ok (c : Cur) : roomOk (roomX c) = true := by
  have hK : 0 ≤ roomK c ∧ roomK c < 4 := below_bd (by decide)
  refine laid_ok (iterR_ok (s := room0 c) (shape_ok _) _) (fun q hq => ?_) ?_
  · have := iterR_bd c _ q hq
    omega
  · have := below_bd (c := belowC (belowC (roomS c).2 4) (roomS c).1.length) (n := 5) (by decide)
    omega
theorem drawRoom_room (bs : List Int) : roomOk (drawRoomM bs) = true := roomX_ok _
end Go.Proofs.Ytnepfcnlngpchaa
namespace Go.Proofs.Ytnepfcnlngpchaa
open Go.RowKit Go.Proofs.Ytnepfcnlngpchaa.Nm
set_option maxRecDepth 10000
set_option maxHeartbeats 4000000
theorem conv_turns {xs : List Pt} (h : convM xs = true) (j : Nat) : 0 < turnZ ((Geo.roomP xs).v j) ((Geo.roomP xs).v (j + 1)) ((Geo.roomP xs).v (j + 2)) := by
  obtain ⟨hr, hc⟩ := convM_iff.1 h
  have h3 := room_len hr
  have hb := bd_of_room hr
  have hn : (Geo.roomP xs).n = xs.length := rfl
  have hm := Nat.mod_lt (j + 1) (show 0 < xs.length by omega)
  have h1 := hc _ hm
  unfold reflexM at h1
  rw [decide_eq_false_iff_not, turn_exact (pCy_bd hb (by omega)) (pAt_bd hb hm) (pCy_bd hb (by omega))] at h1
  have e1 : pAt xs ((j + 1) % xs.length) = (Geo.roomP xs).v (j + 1) := rfl
  have e2 : pCy xs ((j + 1) % xs.length + 1) = (Geo.roomP xs).v (j + 2) := by
    show (Geo.roomP xs).v ((j + 1) % (Geo.roomP xs).n + 1) = _
    rw [(Geo.roomP xs).per_add]
  have e0 : pCy xs ((j + 1) % xs.length + xs.length - 1) = (Geo.roomP xs).v j := by
    show (Geo.roomP xs).v ((j + 1) % (Geo.roomP xs).n + xs.length - 1) = _
    rw [show (j + 1) % (Geo.roomP xs).n + xs.length - 1 = (j + 1) % (Geo.roomP xs).n + (xs.length - 1) by omega, (Geo.roomP xs).per_add, show j + 1 + (xs.length - 1) = j + (Geo.roomP xs).n by rw [hn]; omega, (Geo.roomP xs).per]
  rw [e0, e1, e2] at h1
  have := Geo.room_turns hr j
  omega
theorem conv_ker {xs : List Pt} (h : convM xs = true) {p : Pt} (hp : p ∈ floorPts xs) : inKer xs p = true := by
  obtain ⟨hr, hpt, hi⟩ := Geo.mem_floor.1 hp
  refine (Geo.inKer_iff hr hpt).2 fun k hk => Int.not_lt.1 fun hneg => hi ((Geo.out_iff hr (bd_of_ok hpt)).2 (Geo.out_half (f := Geo.Aff.turn ((Geo.roomP xs).v k) ((Geo.roomP xs).v (k + 1))) fun j hj => ?_))
  rw [Geo.ev_turn, Geo.ev_turn]
  have := Geo.conv_all hr (conv_turns h) k j
  omega
theorem conv_sees {xs : List Pt} (h : convM xs = true) {p q : Pt} (hp : p ∈ floorPts xs) (hq : q ∈ floorPts xs) : seesS xs p q = true := Geo.ker_sees hp hq (conv_ker h hp)
theorem hiddenM_yes {xs : List Pt} (hr : roomOk xs = true) : hiddenM xs = (hidTo xs xs.length).map fun j : Nat => (j : Int) := by unfold hiddenM; rw [if_pos hr]; rfl
theorem hidden_facts {xs : List Pt} (hr : roomOk xs = true) : 1 ≤ (hiddenM xs).length ∧ (hiddenM xs).length ≤ 10 ∧ hasM (hiddenM xs) 0 = true ∧ (convM xs = true → (hiddenM xs).length = 1) := by
  have hl := room_len hr
  obtain ⟨r, e⟩ := hid_zero (xs := xs) xs.length (by omega)
  have hle := hidTo_len xs xs.length
  rw [hiddenM_yes hr, List.length_map]
  refine ⟨by rw [e]; simp, by omega, ?_, fun hc => ?_⟩
  · unfold hasM; rw [e]; rfl
  · rw [hid_all (fun k hk => conv_sees hc (Geo.corner_floor hr (by omega)) (Geo.corner_floor hr hk)) xs.length (by omega) (Nat.le_refl _)]; rfl
theorem fnWitnesses_ok : Good1 Try.prog n_laws_FnWitnesses (lawCon [.sl (.b .u8)]) := by
  refine good_ofG (tys := tyL) (env := [(n_laws_big, bigC), (n_spec_DrawRoom, drawRoomC), (n_impl_GreedyWitnesses, greedyC), (n_impl_HiddenCorners, hiddenC), (n_impl_WitnessBound, witBoundC), (n_impl_CountGuards, cntC), (n_impl_AreWitnesses, witC), (n_impl_PointsOf, ptsOfC), (n_impl_AreHidden, hidC), (n_laws_has, hasC), (n_impl_IsConvex, convC)]) (envw := []) (envd := []) [] [] [] [] [] mixed tys ⟨big_ok, drawRoom_ok, iGreedyWitnesses_ok, iHiddenCorners_ok, iWitnessBound_ok, iCount_ok, iAreWitnesses_ok, iPointsOf_ok, iAreHidden_ok, has_ok, isConvex_ok, trivial⟩ trivial trivial Try.func7 rfl (by kernel_rfl) (by decide) (by kernel_rfl) ?_
  have hG_ := kpz [(0, [0]), (1, [0, 8]), (2, [2]), (3, [3]), (4, [3, 4]), (5, [3, 4, 5]), (6, [3, 4, 5, 6]), (7, [2])] [(3, [3]), (4, [3]), (5, [3]), (6, [3])] [] []
  rintro ⟨(bs : List Int), ⟨⟩⟩ ⟨(h0 : bs.length ≤ _), -⟩
  have hr := drawRoom_room bs
  have hl := room_len hr
  have hf := floor_len (drawRoomM bs)
  obtain ⟨d1, d2, d3, d4⟩ := hidden_facts hr
  have g1 := greedy_pos hr
  have g2 := greedy_few hr
  have g3 := greedy_wit hr
  have g4 := hidden_ok hr
  have g5 := greedy_len (drawRoomM bs)
  have g6 := ptsOf_len (xs := drawRoomM bs) (ks := hiddenM (drawRoomM bs)) d2
  have g7 : convM (drawRoomM bs) = true → (greedyM (drawRoomM bs)).length = 1 := fun hc => greedy_all hr fun k hk p hp => conv_sees hc (Geo.corner_floor hr hk) hp
  (repeat' (first | (with_reducible first | exact True.intro | refine zQ ?_ | (refine zG hG_ ?_; intro K_ hK_) | (refine zR ?_; intro K_ hK_) | (refine hK_ _ _ ?_; try clear hK_ K_) | refine sq_n ?_ | refine sq_r ?_ | refine sq_e ?_ | refine bq_n ?_ | refine bq_r ?_ | refine bq_q ?_ | refine zB ?_ | refine zX ?_ | refine zT ?_ | refine zK ?_ | refine gq_n ?_ | refine gq_r ?_ | refine gq_e ?_ | refine lq_n ?_ | refine lq_r ?_ | refine lq_e ?_ | refine bq_e (by decide) ?_) | ((with_reducible refine zC (b := ?b_) ?hb_ ?_ ?_); case hb_ => rfl) | ((conv => whnf); first | (with_reducible refine hK_ _ _ ?_; try clear hK_ K_) | (with_reducible refine fun (g_ : Sl) (o_ : Ow) => ?_) | (with_reducible first | exact True.intro | refine And.intro trivial ?_ | refine And.intro ?_ ?_) | exact Nat.le_of_ble_eq_true rfl | exact Or.inl rfl | (intro h_; cases h_) | (intro h_; (try simp only [vS1] at h_)) | rfl))) <;> (try (conv => whnf)) <;> (try first | change (_ : Int) ≤ _ | change (_ : Nat) ≤ _) <;> (try ((fail_if_success (with_reducible apply Exists.intro)); (try dsimp only); (try simp only [vS1]))) <;> (try simp (disch := omega) only [vS3, Int.add_sub_cancel, tn1, tnp, tnc, vS2] at *)
  all_goals (try ((fail_if_success (with_reducible apply Exists.intro)); first | with_reducible assumption | omega))
  all_goals try exact absurd trivial ‹¬ True›
  all_goals try exact absurd (g3.symm.trans ‹_ = false›) (by decide)
  all_goals try exact absurd (g4.symm.trans ‹_ = false›) (by decide)
  all_goals try exact absurd (d3.symm.trans ‹_ = false›) (by decide)
  all_goals first
    | (have := d4 ‹convM (drawRoomM bs) = true›; omega)
    | (have := g7 ‹convM (drawRoomM bs) = true›; exfalso; omega)
    | skip
end Go.Proofs.Ytnepfcnlngpchaa
