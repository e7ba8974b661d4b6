/- The place that the program gives a point, and the outside. -/
import Derived.Test.YtfjmlaciogmndaaPn
namespace Go.Proofs.Ytfjmlaciogmndaa.Geo
set_option linter.unusedSimpArgs false
set_option linter.unusedVariables false
/-! ### The program's place and the outside -/
theorem par_odd {f : Nat → Bool} {c : Nat → Int} : ∀ {n : Nat}, (∀ k, k < n → (f k = true ∧ (c k = 1 ∨ c k = -1)) ∨ (f k = false ∧ c k = 0)) → (par f n = true ↔ sumN c n % 2 = 1)
  | 0, _ => by simp [par, sumN]
  | n + 1, h => by
    have ih := par_odd (n := n) (f := f) (c := c) fun k hk => h k (by omega)
    simp only [par, sumN]
    rcases h n (by omega) with ⟨e, g | g⟩ | ⟨e, g⟩ <;> rw [e, g] <;> cases hp : par f n <;> rw [hp] at ih <;> simp at ih ⊢ <;> omega
/-- The program's place is 0 just outside. -/
theorem place_out {xs ys : List Pt} (hr : roomOk xs = true) {K : Int} (hK : 0 < K) (hy : ys.length = xs.length) (hv : ∀ k, pCy ys k = smul K (pCy xs k)) (hb : ∀ q ∈ ys, Bd q) {p : Pt} (hp : Bd p) : placeM ys p = 0 ↔ Outp (roomP xs) K p := by
  have hP := room_simple hr
  have ha := (room_area hr).2.1
  have hn := room_pos hr
  have wa : ∀ k, k < xs.length → pAt ys k = smul K ((roomP xs).v k) ∧ pCy ys (k + 1) = smul K ((roomP xs).v (k + 1)) := fun k hk => ⟨(pCy_lt (by omega)).symm.trans (hv k), hv (k + 1)⟩
  have ne : ∀ k, k < xs.length → smul K ((roomP xs).v k) ≠ smul K ((roomP xs).v (k + 1)) := fun k hk e => by
    apply hP.ne k
    have e1 := congrArg Prod.fst e
    have e2 := congrArg Prod.snd e
    exact Prod.ext (Int.eq_of_mul_eq_mul_left (by omega) e1) (Int.eq_of_mul_eq_mul_left (by omega) e2)
  have onoff : ∀ k, k < xs.length → (onAt ys p k = false ↔ Off p (smul K ((roomP xs).v k)) (smul K ((roomP xs).v (k + 1)))) := fun k hk => by
    have b1 : Bd (pAt ys k) := pAt_bd hb (by omega)
    have b2 : Bd (pCy ys (k + 1)) := pCy_bd hb (by omega)
    show onS p (pAt ys k) (pCy ys (k + 1)) = false ↔ _
    constructor
    · intro h0
      rcases off_or_on p (ne k hk) with g | g
      · exact g
      · rw [← (wa k hk).1, ← (wa k hk).2] at g
        rw [g.onS b1 b2 hp] at h0
        exact absurd h0 (by decide)
    · intro g
      cases h0 : onS p (pAt ys k) (pCy ys (k + 1)) with
      | false => rfl
      | true =>
        exfalso
        have := onS_OnM b1 b2 hp h0
        rw [(wa k hk).1, (wa k hk).2] at this
        exact this.not_off g
  have hh := place_holds hb hp
  have hnc : NC (⟨0, 1, 0⟩ : Aff) := .inr (by decide)
  have odd : par (upSAt ys p) ys.length = true ↔ wnd ⟨0, 1, 0⟩ ((roomP xs).sc K).way p % 2 = 1 := by
    rw [hy]
    refine par_odd (n := xs.length) fun k hk => ?_
    show (upS p (pAt ys k) (pCy ys (k + 1)) = true ∧ _) ∨ _
    have b1 : Bd (pAt ys k) := pAt_bd hb (by omega)
    have b2 : Bd (pCy ys (k + 1)) := pCy_bd hb (by omega)
    have e : crN ⟨0, 1, 0⟩ p (((roomP xs).sc K).way.v k) (((roomP xs).sc K).way.v (k + 1)) = crN ⟨0, 1, 0⟩ p (pAt ys k) (pCy ys (k + 1)) := by
      rw [(wa k hk).1, (wa k hk).2]; rfl
    show (upS p (pAt ys k) (pCy ys (k + 1)) = true ∧ (crN ⟨0, 1, 0⟩ p (((roomP xs).sc K).way.v k) (((roomP xs).sc K).way.v (k + 1)) = 1 ∨ crN ⟨0, 1, 0⟩ p (((roomP xs).sc K).way.v k) (((roomP xs).sc K).way.v (k + 1)) = -1)) ∨ (upS p (pAt ys k) (pCy ys (k + 1)) = false ∧ crN ⟨0, 1, 0⟩ p (((roomP xs).sc K).way.v k) (((roomP xs).sc K).way.v (k + 1)) = 0)
    rw [e]
    generalize pAt ys k = a at *
    generalize pCy ys (k + 1) = b at *
    have lv : ∀ x : Pt, (⟨0, 1, 0⟩ : Aff).ev x = x.2 := fun x => by unfold Aff.ev; simp
    unfold upS crN
    rw [turn_exact b1 b2 hp, lv, lv, lv]
    by_cases c1 : a.2 ≤ p.2 ∧ p.2 < b.2 ∧ 0 < turnZ a b p
    · rw [if_pos c1]; left; simp [c1]
    · rw [if_neg c1]
      by_cases c2 : b.2 ≤ p.2 ∧ p.2 < a.2 ∧ turnZ a b p < 0
      · rw [if_pos c2]; left; simp [c2]
      · rw [if_neg c2]; right
        refine ⟨?_, rfl⟩
        rw [Bool.eq_false_iff]
        intro h
        simp only [Bool.or_eq_true, Bool.and_eq_true, decide_eq_true_eq] at h
        rcases h with h | h
        · exact c1 h
        · exact c2 h
  rw [hh]
  unfold holdsM
  constructor
  · intro h0
    have hon : onAny ys p = false := by
      cases e : onAny ys p with
      | false => rfl
      | true => rw [e] at h0; simp at h0
    rw [hon] at h0
    have hpar : ¬ par (upSAt ys p) ys.length = true := fun e => by rw [e] at h0; simp at h0
    have ho : ∀ k, k < xs.length → Off p (smul K ((roomP xs).v k)) (smul K ((roomP xs).v (k + 1))) := fun k hk => (onoff k hk).1 (by
      cases e : onAt ys p k with
      | false => rfl
      | true => rw [onAny_yes (by omega) e] at hon; exact absurd hon (by decide))
    refine ⟨ho, ⟨0, 1, 0⟩, hnc, ?_⟩
    rcases wnd_zero_oneK hP ha hK hnc ho with g | g
    · exact g
    · exact absurd (odd.2 (by rw [g]; decide)) hpar
  · rintro ⟨ho, h, hn', h0⟩
    have hon : onAny ys p = false := onAny_no fun k hk => (onoff k (by omega)).2 (ho k (by show k < xs.length; omega))
    have w0 : wnd ⟨0, 1, 0⟩ ((roomP xs).sc K).way p = 0 := by rw [wnd_free hnc hn' ho, h0]
    have hpar : par (upSAt ys p) ys.length = false := by
      rw [Bool.eq_false_iff]
      intro e
      have := odd.1 e
      rw [w0] at this
      exact absurd this (by decide)
    rw [hon, hpar]
    rfl
theorem twP_eq {q : Pt} (h : -40 ≤ q.1 ∧ q.1 ≤ 40 ∧ -40 ≤ q.2 ∧ q.2 ≤ 40) : twP q = smul 2 q := by
  unfold twP smul
  rw [W_in (by omega) (by omega), W_in (by omega) (by omega)]
theorem mid_out {xs : List Pt} (hr : roomOk xs = true) {p q : Pt} (hp : -40 ≤ p.1 ∧ p.1 ≤ 40 ∧ -40 ≤ p.2 ∧ p.2 ≤ 40) (hq : -40 ≤ q.1 ∧ q.1 ≤ 40 ∧ -40 ≤ q.2 ∧ q.2 ≤ 40) : midM xs p q = 0 ↔ Outp (roomP xs) 2 (padd p q) := by
  have h := pt_of_room hr
  have hn := room_pos hr
  have e : sumP p q = padd p q := by
    unfold sumP padd
    rw [W_in (by omega) (by omega), W_in (by omega) (by omega)]
  unfold midM
  rw [e]
  refine place_out hr (by decide) (by simp) (fun k => ?_) (fun c' hc' => ?_) ?_
  · have hk : k % xs.length < xs.length := Nat.mod_lt _ hn
    show (xs.map twP).getD (k % (xs.map twP).length) (0, 0) = smul 2 (xs.getD (k % xs.length) (0, 0))
    rw [List.length_map, getD_lt _ (by rw [List.length_map]; exact hk), getD_lt _ hk, List.getElem_map]
    exact twP_eq (h _ (List.getElem_mem hk))
  · obtain ⟨c, hc, rfl⟩ := List.mem_map.1 hc'
    have := h c hc
    rw [twP_eq this]
    unfold Bd smul
    simp only
    omega
  · unfold Bd padd
    simp only
    omega
theorem room_turns {xs : List Pt} (hr : roomOk xs = true) (j : Nat) : turnZ ((roomP xs).v j) ((roomP xs).v (j + 1)) ((roomP xs).v (j + 2)) ≠ 0 := by
  have hn := room_pos hr
  have hb := bd_of_room hr
  have hk : j % xs.length < xs.length := Nat.mod_lt _ hn
  have := (okAt_iff.1 ((roomOk_iff.1 hr).2.2.1 _ hk)).1
  rw [turn_exact (pAt_bd hb hk) (pCy_bd hb hn) (pCy_bd hb hn)] at this
  have e1 : pCy xs (j % xs.length + 1) = (roomP xs).v (j + 1) := (roomP xs).per_add j 1
  have e2 : pCy xs (j % xs.length + 2) = (roomP xs).v (j + 2) := (roomP xs).per_add j 2
  rw [e1, e2] at this
  exact this
theorem Outp.scale {P : Poly} {K : Int} {m : Pt} (h : Outp P K m) {L : Int} (hL : 0 < L) : Outp P (L * K) (smul L m) := by
  obtain ⟨ho, g, hg, h0⟩ := h
  refine ⟨fun k hk => ?_, g.sc L, hg, by rw [wnd_scale g P hL, h0]⟩
  obtain ⟨f, fa, fb, fp⟩ := ho k hk
  rw [← smul2, ← smul2]
  exact ⟨f.sc L, by rw [ev_sc0]; exact pp hL fa, by rw [ev_sc0]; exact pp hL fb, by rw [ev_sc0]; exact pm hL fp⟩
theorem OnM.coords {p a b : Pt} (h : OnM p a b) : ∃ s t : Int, 0 ≤ s ∧ 0 ≤ t ∧ 0 < s + t ∧ (s + t) * p.1 = s * a.1 + t * b.1 ∧ (s + t) * p.2 = s * a.2 + t * b.2 := by
  obtain ⟨s, t, hs, ht, h0, h⟩ := h
  have g1 := h ⟨1, 0, 0⟩
  have g2 := h ⟨0, 1, 0⟩
  simp only [Aff.ev, Int.one_mul, Int.zero_mul, Int.zero_add, Int.add_zero] at g1 g2
  exact ⟨s, t, hs, ht, h0, g1, g2⟩
/-- Where no point between is outside, the program sees. -/
theorem sees_of {xs : List Pt} (hr : roomOk xs = true) {a b : Pt} (ha : ptOk a = true) (hb : ptOk b = true) (h : NoOut (roomP xs) a b) : Sees xs a b := by
  have hbd := bd_of_room hr
  have hn := room_pos hr
  have ba := bd_of_ok ha
  have bb := bd_of_ok hb
  constructor
  · intro k hk
    cases hc : crs a b (wl xs k).1 (wl xs k).2 with
    | false => rfl
    | true =>
      exfalso
      unfold crs at hc
      rw [Bool.and_eq_true, decide_eq_true_eq, decide_eq_true_eq, sgn_opp, sgn_opp] at hc
      have b1 : Bd (wl xs k).1 := pAt_bd hbd hk
      have b2 : Bd (wl xs k).2 := pCy_bd hbd hn
      rw [turn_exact ba bb b1, turn_exact ba bb b2, turn_exact b1 b2 ba, turn_exact b1 b2 bb] at hc
      have e1 : (wl xs k).1 = (roomP xs).v k := (pCy_lt hk).symm
      have e2 : (wl xs k).2 = (roomP xs).v (k + 1) := rfl
      rw [e1, e2] at hc
      exact no_cross (room_simple hr) (room_turns hr) (room_area hr).2.1 h hc.1 hc.2
  · intro p q hp hq _ _ e0
    have op := cuts_on hp
    have oq := cuts_on hq
    have p40 := on_pt40 ha hb op
    have q40 := on_pt40 ha hb oq
    have bp : Bd p := by unfold Bd; omega
    have bq : Bd q := by unfold Bd; omega
    obtain ⟨s, t, hs, ht, h0, x1, x2⟩ := (onS_OnM ba bb bp op).coords
    obtain ⟨s', t', hs', ht', h0', y1, y2⟩ := (onS_OnM ba bb bq oq).coords
    have o := ((mid_out hr p40 q40).1 e0).scale (pp h0 h0')
    have eL : (s + t) * (s' + t') * 2 = ((s' + t') * s + (s + t) * s') + ((s' + t') * t + (s + t) * t') := by grind
    have em : smul ((s + t) * (s' + t')) (padd p q) = padd (smul ((s' + t') * s + (s + t) * s') a) (smul ((s' + t') * t + (s + t) * t') b) := by
      unfold smul padd
      refine Prod.ext ?_ ?_
      · show (s + t) * (s' + t') * (p.1 + q.1) = _ * a.1 + _ * b.1
        have : (s + t) * (s' + t') * (p.1 + q.1) = (s' + t') * ((s + t) * p.1) + (s + t) * ((s' + t') * q.1) := by grind
        rw [this, x1, y1]; grind
      · show (s + t) * (s' + t') * (p.2 + q.2) = _ * a.2 + _ * b.2
        have : (s + t) * (s' + t') * (p.2 + q.2) = (s' + t') * ((s + t) * p.2) + (s + t) * ((s' + t') * q.2) := by grind
        rw [this, x2, y2]; grind
    rw [eL, em] at o
    have n1 := nn0 (show 0 ≤ s' + t' by omega) hs
    have n2 := nn0 (show 0 ≤ s + t by omega) hs'
    have n3 := nn0 (show 0 ≤ s' + t' by omega) ht
    have n4 := nn0 (show 0 ≤ s + t by omega) ht'
    exact h _ _ (by omega) (by omega) (by rw [← eL]; have := pp h0 h0'; omega) o
theorem onS_flat {p a b : Pt} (ha : Bd a) (hb : Bd b) (hp : Bd p) (h : onS p a b = true) : turnZ a b p = 0 ∧ 0 ≤ phi a b p ∧ phi a b p ≤ phi a b b := by
  have g := (onS_iff hp ha hb).1 h
  obtain ⟨h0, ⟨h1, h2⟩, h3, h4⟩ := g
  refine ⟨h0, ?_, ?_⟩
  · have e : phi a b p = (b.1 - a.1) * (p.1 - a.1) + (b.2 - a.2) * (p.2 - a.2) := by unfold phi dotZ; grind
    rw [e]
    have g1 : 0 ≤ (b.1 - a.1) * (p.1 - a.1) := by
      rcases (show a.1 ≤ b.1 ∨ b.1 ≤ a.1 by omega) with g | g
      · exact nn0 (by omega) (by omega)
      · exact mm0 (by omega) (by omega)
    have g2 : 0 ≤ (b.2 - a.2) * (p.2 - a.2) := by
      rcases (show a.2 ≤ b.2 ∨ b.2 ≤ a.2 by omega) with g | g
      · exact nn0 (by omega) (by omega)
      · exact mm0 (by omega) (by omega)
    omega
  · have e : phi a b b - phi a b p = (b.1 - a.1) * (b.1 - p.1) + (b.2 - a.2) * (b.2 - p.2) := by unfold phi dotZ; grind
    have g1 : 0 ≤ (b.1 - a.1) * (b.1 - p.1) := by
      rcases (show a.1 ≤ b.1 ∨ b.1 ≤ a.1 by omega) with g | g
      · exact nn0 (by omega) (by omega)
      · exact mm0 (by omega) (by omega)
    have g2 : 0 ≤ (b.2 - a.2) * (b.2 - p.2) := by
      rcases (show a.2 ≤ b.2 ∨ b.2 ≤ a.2 by omega) with g | g
      · exact nn0 (by omega) (by omega)
      · exact mm0 (by omega) (by omega)
    omega
theorem flat_onS {p a b : Pt} (ha : Bd a) (hb : Bd b) (hp : Bd p) (hab : a ≠ b) (h0 : turnZ a b p = 0) (h1 : 0 ≤ phi a b p) (h2 : phi a b p ≤ phi a b b) : onS p a b = true := by
  have hN := sq_pos hab
  refine OnM.onS ha hb hp (flat_mean hab ?_ ?_ h0 (by rw [phi_a]; exact h1) h2 (by rw [phi_a, phi_b]; exact hN))
  · unfold turnZ; grind
  · unfold turnZ; grind
theorem phi_inj {a b p q : Pt} (hab : a ≠ b) (hp : turnZ a b p = 0) (hq : turnZ a b q = 0) (h : phi a b p = phi a b q) : p = q := by
  have hN := sq_pos hab
  obtain ⟨p1, p2⟩ := on_line hp
  obtain ⟨q1, q2⟩ := on_line hq
  have h' : dotZ a b p = dotZ a b q := by unfold phi at h; omega
  rw [h'] at p1 p2
  exact Prod.ext (Int.eq_of_mul_eq_mul_left (by omega) (p1.trans q1.symm)) (Int.eq_of_mul_eq_mul_left (by omega) (p2.trans q2.symm))
/-- Around a place on the way that is no cut: the cuts just before and behind it. -/
theorem cut_pair {xs : List Pt} {a b : Pt} (hr : roomOk xs = true) (ha : ptOk a = true) (hb : ptOk b = true) (hab : a ≠ b) {L w : Int} (hL : 0 < L) (h0 : 0 < w) (h1 : w < L * phi a b b) (hne : ∀ r ∈ cutsOf xs a b, L * phi a b r ≠ w) :
    ∃ p q, p ∈ cutsOf xs a b ∧ q ∈ cutsOf xs a b ∧ L * phi a b p < w ∧ w < L * phi a b q ∧ ∀ r ∈ cutsOf xs a b, r = p ∨ r = q ∨ phi a b r < phi a b p ∨ phi a b q < phi a b r := by
  have ba := bd_of_ok ha
  have bb := bd_of_ok hb
  have hf : ∀ r ∈ cutsOf xs a b, turnZ a b r = 0 := fun r hr' => by
    have h4 := on_pt40 ha hb (cuts_on hr')
    exact (onS_flat ba bb (by unfold Bd; omega) (cuts_on hr')).1
  have gm : ∀ k, k < (cutsOf xs a b).length → pAt (cutsOf xs a b) k ∈ cutsOf xs a b := fun k hk => by rw [show pAt (cutsOf xs a b) k = (cutsOf xs a b)[k] from getD_lt _ hk]; exact List.getElem_mem hk
  have mg : ∀ r ∈ cutsOf xs a b, ∃ k, k < (cutsOf xs a b).length ∧ pAt (cutsOf xs a b) k = r := fun r hr' => by
    obtain ⟨k, hk, e⟩ := List.getElem_of_mem hr'
    exact ⟨k, hk, by rw [show pAt (cutsOf xs a b) k = (cutsOf xs a b)[k] from getD_lt _ hk]; exact e⟩
  have lt : ∀ x y : Int, L * x < L * y ↔ x < y := fun x y => by
    constructor
    · intro g
      rcases (show x < y ∨ y ≤ x by omega) with k | k
      · exact k
      · have := Int.mul_le_mul_of_nonneg_left k (show 0 ≤ L by omega); omega
    · intro g
      have := pp hL (show 0 < y - x by omega)
      rw [Int.mul_sub] at this; omega
  obtain ⟨ka, hka, ea⟩ := mg a (cuts_mem.2 (.inl rfl))
  obtain ⟨kb, hkb, eb⟩ := mg b (cuts_mem.2 (.inr (.inl rfl)))
  obtain ⟨i, ⟨hi, hil⟩, him⟩ := ex_max (fun k => k < (cutsOf xs a b).length ∧ L * phi a b (pAt (cutsOf xs a b) k) < w) (fun k => phi a b (pAt (cutsOf xs a b) k)) (cutsOf xs a b).length (fun k h => h.1) ⟨ka, hka, by rw [ea, phi_a, Int.mul_zero]; exact h0⟩
  obtain ⟨j, ⟨hj, hjl⟩, hjm⟩ := ex_max (fun k => k < (cutsOf xs a b).length ∧ w < L * phi a b (pAt (cutsOf xs a b) k)) (fun k => - phi a b (pAt (cutsOf xs a b) k)) (cutsOf xs a b).length (fun k h => h.1) ⟨kb, hkb, by rw [eb]; exact h1⟩
  refine ⟨_, _, gm i hi, gm j hj, hil, hjl, fun r hr' => ?_⟩
  obtain ⟨k, hk, e⟩ := mg r hr'
  have hn := hne r hr'
  rcases (show L * phi a b r < w ∨ w < L * phi a b r by omega) with g | g
  · have := him k ⟨hk, by rw [e]; exact g⟩
    rw [e] at this
    rcases (show phi a b r < phi a b (pAt (cutsOf xs a b) i) ∨ phi a b r = phi a b (pAt (cutsOf xs a b) i) by omega) with c | c
    · exact .inr (.inr (.inl c))
    · exact .inl (phi_inj hab (hf r hr') (hf _ (gm i hi)) c)
  · have := hjm k ⟨hk, by rw [e]; exact g⟩
    rw [e] at this
    rcases (show phi a b (pAt (cutsOf xs a b) j) < phi a b r ∨ phi a b r = phi a b (pAt (cutsOf xs a b) j) by omega) with c | c
    · exact .inr (.inr (.inr c))
    · exact .inr (.inl (phi_inj hab (hf r hr') (hf _ (gm j hj)) c))
/-! ### What the program sees: no point outside -/
theorem Outp.desc {P : Poly} {K L : Int} (hL : 0 < L) {m : Pt} (h : Outp P (L * K) (smul L m)) : Outp P K m := by
  obtain ⟨ho, g, hg, h0⟩ := h
  refine ⟨fun k hk => ?_, g, hg, ?_⟩
  · obtain ⟨f, fa, fb, fp⟩ := ho k hk
    have e : ∀ x : Pt, (⟨L * f.u, L * f.v, f.w⟩ : Aff).ev x = f.ev (smul L x) := fun x => by unfold Aff.ev smul; grind
    rw [← smul2, ← e] at fa fb
    rw [← e] at fp
    exact ⟨_, fa, fb, fp⟩
  · rw [← wnd_scale g P hL, wnd_free (h2 := g) (show NC (g.sc L) from hg) hg ho, h0]
theorem open_part {P : Poly} {a b p q : Pt} (hab : a ≠ b) (p0 : 0 ≤ phi a b p) (q1 : phi a b q ≤ phi a b b) (nocut : ∀ k, turnZ a b (P.v k) = 0 → phi a b p < phi a b (P.v k) → phi a b (P.v k) < phi a b q → False)
    {k : Nat} (nocross : ¬ (Opp (turnZ a b (P.v k)) (turnZ a b (P.v (k + 1))) ∧ Opp (turnZ (P.v k) (P.v (k + 1)) a) (turnZ (P.v k) (P.v (k + 1)) b)))
    {S T S' T' L : Int} (hL : 0 < L) (e : S + T = L) (e' : S' + T' = L) (hS : 0 ≤ S) (hT : 0 ≤ T) (hS' : 0 ≤ S') (hT' : 0 ≤ T')
    (x1 : L * phi a b p < T * phi a b b) (x2 : T * phi a b b < L * phi a b q) (y1 : L * phi a b p < T' * phi a b b) (y2 : T' * phi a b b < L * phi a b q) (hne : P.v k ≠ P.v (k + 1))
    (ho : Off (padd (smul S a) (smul T b)) (smul L (P.v k)) (smul L (P.v (k + 1)))) : Part (smul L (P.v k)) (smul L (P.v (k + 1))) (padd (smul S a) (smul T b)) (padd (smul S' a) (smul T' b)) := by
  have hN := sq_pos hab
  rw [← phi_b] at hN
  have taa : turnZ a b a = 0 := by unfold turnZ; grind
  have tbb : turnZ a b b = 0 := by unfold turnZ; grind
  have pe : ∀ v : Pt, (Aff.dot a b).ev v + phi a b b = phi a b v := fun v => by rw [ev_dot, phi_b]; unfold phi; omega
  generalize hx : padd (smul S a) (smul T b) = x at *
  generalize hy : padd (smul S' a) (smul T' b) = y at *
  by_cases exy : x = y
  · subst exy
    obtain ⟨f, fa, fb, fp⟩ := ho
    exact ⟨f, fa, fb, by omega, by omega⟩
  have hne' : smul L (P.v k) ≠ smul L (P.v (k + 1)) := fun e => hne (Prod.ext (Int.eq_of_mul_eq_mul_left (by omega) (congrArg Prod.fst e)) (Int.eq_of_mul_eq_mul_left (by omega) (congrArg Prod.snd e)))
  have Fx : ∀ f : Aff, (f.sc L).ev x = S * f.ev a + T * f.ev b := fun f => by rw [← hx, ← e]; unfold Aff.ev Aff.sc padd smul; grind
  have Fy : ∀ f : Aff, (f.sc L).ev y = S' * f.ev a + T' * f.ev b := fun f => by rw [← hy, ← e']; unfold Aff.ev Aff.sc padd smul; grind
  -- an end of a wall between the two points is a cut
  have ends : ∀ i, OnM (smul L (P.v i)) x y → False := fun i hi => by
    obtain ⟨σ, τ, hσ, hτ, h0, hf⟩ := hi
    have h1 := hf ((Aff.turn a b).sc L)
    have h2 := hf ((Aff.dot a b).sc L)
    rw [Fx, Fy, ev_sc0, ev_turn, ev_turn, ev_turn, taa, tbb] at h1
    rw [Fx, Fy, ev_sc0] at h2
    have e1 := pe a
    have e2 := pe b
    have e3 := pe (P.v i)
    rw [phi_a] at e1
    have t0 : turnZ a b (P.v i) = 0 := by
      have z : (σ + τ) * (L * turnZ a b (P.v i)) = 0 := by rw [h1]; simp
      rcases Int.mul_eq_zero.1 z with z | z
      · omega
      · rcases Int.mul_eq_zero.1 z with z | z
        · omega
        · exact z
    have key : (σ + τ) * (L * phi a b (P.v i)) = σ * (T * phi a b b) + τ * (T' * phi a b b) := by
      have hA : (Aff.dot a b).ev a = - phi a b b := by omega
      have hB : (Aff.dot a b).ev b = 0 := by omega
      have hD : (Aff.dot a b).ev (P.v i) = phi a b (P.v i) - phi a b b := by omega
      rw [hA, hB, hD] at h2
      have hS1 : S = L - T := by omega
      have hS2 : S' = L - T' := by omega
      rw [hS1, hS2] at h2
      have a1 : (σ + τ) * (L * (phi a b (P.v i) - phi a b b)) = (σ + τ) * (L * phi a b (P.v i)) - (σ + τ) * (L * phi a b b) := by grind
      have a2 : σ * ((L - T) * - phi a b b + T * 0) + τ * ((L - T') * - phi a b b + T' * 0) = σ * (T * phi a b b) + τ * (T' * phi a b b) - (σ + τ) * (L * phi a b b) := by grind
      omega
    have low : ∀ w : Int, L * w < T * phi a b b → L * w < T' * phi a b b → w < phi a b (P.v i) := fun w k1 k2 => by
      rcases (show w < phi a b (P.v i) ∨ phi a b (P.v i) ≤ w by omega) with g | g
      · exact g
      · exfalso
        have c0 := Int.mul_le_mul_of_nonneg_left g (show 0 ≤ L by omega)
        have c1 := nn0 hσ (show 0 ≤ T * phi a b b - L * phi a b (P.v i) - 1 by omega)
        have c2 := nn0 hτ (show 0 ≤ T' * phi a b b - L * phi a b (P.v i) - 1 by omega)
        rw [Int.mul_sub, Int.mul_sub, Int.mul_one] at c1 c2
        rw [Int.add_mul] at key
        omega
    have high : ∀ w : Int, T * phi a b b < L * w → T' * phi a b b < L * w → phi a b (P.v i) < w := fun w k1 k2 => by
      rcases (show phi a b (P.v i) < w ∨ w ≤ phi a b (P.v i) by omega) with g | g
      · exact g
      · exfalso
        have c0 := Int.mul_le_mul_of_nonneg_left g (show 0 ≤ L by omega)
        have c1 := nn0 hσ (show 0 ≤ L * phi a b (P.v i) - T * phi a b b - 1 by omega)
        have c2 := nn0 hτ (show 0 ≤ L * phi a b (P.v i) - T' * phi a b b - 1 by omega)
        rw [Int.mul_sub, Int.mul_sub, Int.mul_one] at c1 c2
        rw [Int.add_mul] at key
        omega
    exact nocut i t0 (low _ x1 y1) (high _ x2 y2)
  rcases part_or_on hne' exy with g | g | g | g | g | ⟨g1, g2⟩
  · exact g
  · exact absurd ho g.not_off
  · obtain ⟨σ, τ, hσ, hτ, h0, hf⟩ := g
    have hφ : ∀ z : Pt, turnZ (smul L a) (smul L b) z = (L * (b.1 - a.1)) * (z.2 - L * a.2) - (L * (b.2 - a.2)) * (z.1 - L * a.1) := fun z => by unfold turnZ smul; grind
    have e1 := hf ((Aff.turn a b).sc L)
    rw [Fy, ev_sc0, ev_sc0, ev_turn, ev_turn, ev_turn, ev_turn, taa, tbb] at e1
    have e2 := hf ((Aff.turn (P.v k) (P.v (k + 1))).sc L)
    have tv : turnZ (P.v k) (P.v (k + 1)) (P.v k) = 0 := by unfold turnZ; grind
    have tv' : turnZ (P.v k) (P.v (k + 1)) (P.v (k + 1)) = 0 := by unfold turnZ; grind
    rw [Fy, ev_sc0, ev_sc0, ev_turn, ev_turn, ev_turn, ev_turn, tv, tv'] at e2
    have hT0 : 0 < T' := by
      rcases (show 0 < T' ∨ T' = 0 by omega) with c | c
      · exact c
      · rw [c, Int.zero_mul] at y1
        have := nn0 (show 0 ≤ L by omega) p0
        omega
    have hS0 : 0 < S' := by
      rcases (show 0 < S' ∨ S' = 0 by omega) with c | c
      · exact c
      · rw [show T' = L by omega] at y2
        have := Int.mul_le_mul_of_nonneg_left q1 (show 0 ≤ L by omega)
        omega
    have hid := tid a b (P.v k) (P.v (k + 1))
    by_cases s0 : σ = 0
    · refine (ends (k + 1) ⟨0, 1, by decide, by decide, by decide, fun f => ?_⟩).elim
      have := hf f
      rw [s0] at this h0
      have := Int.eq_of_mul_eq_mul_left (a := τ) (show τ ≠ 0 by omega) (show τ * f.ev y = τ * f.ev (smul L (P.v (k + 1))) by grind)
      grind
    by_cases t0 : τ = 0
    · refine (ends k ⟨0, 1, by decide, by decide, by decide, fun f => ?_⟩).elim
      have := hf f
      rw [t0] at this h0
      have := Int.eq_of_mul_eq_mul_left (a := σ) (show σ ≠ 0 by omega) (show σ * f.ev y = σ * f.ev (smul L (P.v k)) by grind)
      grind
    have k2 : S' * turnZ (P.v k) (P.v (k + 1)) a + T' * turnZ (P.v k) (P.v (k + 1)) b = 0 := by
      have z : (σ + τ) * (S' * turnZ (P.v k) (P.v (k + 1)) a + T' * turnZ (P.v k) (P.v (k + 1)) b) = 0 := by rw [e2]; simp
      rcases Int.mul_eq_zero.1 z with z | z
      · omega
      · exact z
    have k1 : σ * turnZ a b (P.v k) + τ * turnZ a b (P.v (k + 1)) = 0 := by
      have z : L * (σ * turnZ a b (P.v k) + τ * turnZ a b (P.v (k + 1))) = 0 := by
        have : L * (σ * turnZ a b (P.v k) + τ * turnZ a b (P.v (k + 1))) = σ * (L * turnZ a b (P.v k)) + τ * (L * turnZ a b (P.v (k + 1))) := by grind
        rw [this, ← e1]; simp
      rcases Int.mul_eq_zero.1 z with z | z
      · omega
      · exact z
    have s1 := sgn_of (show 0 < σ by omega) (show 0 < τ by omega) k1
    have s2 := sgn_of hS0 hT0 k2
    by_cases hC : turnZ a b (P.v k) = 0
    · have hD : turnZ a b (P.v (k + 1)) = 0 := by omega
      have TT : T ≠ T' := fun c => exy (by rw [← hx, ← hy, c, show S = S' by omega])
      have hLab : smul L a ≠ smul L b := fun e => hab (Prod.ext (Int.eq_of_mul_eq_mul_left (by omega) (congrArg Prod.fst e)) (Int.eq_of_mul_eq_mul_left (by omega) (congrArg Prod.snd e)))
      have lx : turnZ (smul L a) (smul L b) x = 0 := by rw [← hx, ← e]; unfold turnZ smul padd; grind
      have ly : turnZ (smul L a) (smul L b) y = 0 := by rw [← hy, ← e']; unfold turnZ smul padd; grind
      have lv : turnZ (smul L a) (smul L b) (smul L (P.v k)) = 0 := by rw [turn_sc0, hC]; simp
      have lv' : turnZ (smul L a) (smul L b) (smul L (P.v (k + 1))) = 0 := by rw [turn_sc0, hD]; simp
      have fx : phi (smul L a) (smul L b) x = L * (T * phi a b b) := by rw [← hx, ← e]; unfold phi dotZ smul padd; grind
      have fy : phi (smul L a) (smul L b) y = L * (T' * phi a b b) := by rw [← hy, ← e']; unfold phi dotZ smul padd; grind
      have X0 : phi (smul L a) (smul L b) x ≠ phi (smul L a) (smul L b) y := fun c => by
        rw [fx, fy] at c
        exact TT (Int.eq_of_mul_eq_mul_right (by omega) (Int.eq_of_mul_eq_mul_left (by omega) c))
      have V0 : phi (smul L a) (smul L b) (smul L (P.v k)) ≠ phi (smul L a) (smul L b) (smul L (P.v (k + 1))) := fun c => hne' (phi_inj hLab lv lv' c)
      have hY := hf (Aff.dot (smul L a) (smul L b))
      have pe2 : ∀ v : Pt, (Aff.dot (smul L a) (smul L b)).ev v = phi (smul L a) (smul L b) v - phi (smul L a) (smul L b) (smul L b) := fun v => by rw [ev_dot, phi_b]; unfold phi; omega
      rw [pe2, pe2, pe2] at hY
      have hY2 : (σ + τ) * phi (smul L a) (smul L b) y = σ * phi (smul L a) (smul L b) (smul L (P.v k)) + τ * phi (smul L a) (smul L b) (smul L (P.v (k + 1))) := by grind
      have mb := mean_between hσ hτ h0 hY2
      have FM := fun {p q c : Pt} => flat_mean (p := p) (q := q) (c := c) hLab
      have sw : ∀ {c p q : Pt}, OnM c p q → OnM c q p := fun h => by
        obtain ⟨s, t, hs, ht, h0, hf⟩ := h
        exact ⟨t, s, ht, hs, by omega, fun f => by rw [Int.add_comm t s, hf]; omega⟩
      have notx : OnM x (smul L (P.v k)) (smul L (P.v (k + 1))) → False := fun h => h.not_off ho
      rcases (show phi (smul L a) (smul L b) (smul L (P.v k)) < phi (smul L a) (smul L b) (smul L (P.v (k + 1))) ∨ phi (smul L a) (smul L b) (smul L (P.v (k + 1))) < phi (smul L a) (smul L b) (smul L (P.v k)) by omega) with d | d
      · rcases (show phi (smul L a) (smul L b) x < phi (smul L a) (smul L b) (smul L (P.v k)) ∨ phi (smul L a) (smul L b) (smul L (P.v (k + 1))) < phi (smul L a) (smul L b) x ∨ (phi (smul L a) (smul L b) (smul L (P.v k)) ≤ phi (smul L a) (smul L b) x ∧ phi (smul L a) (smul L b) x ≤ phi (smul L a) (smul L b) (smul L (P.v (k + 1)))) by omega) with c | c | c
        · exact (ends k (FM lx ly lv (by omega) (by omega) (by omega))).elim
        · exact (ends (k + 1) (sw (FM ly lx lv' (by omega) (by omega) (by omega)))).elim
        · exact (notx (FM lv lv' lx (by omega) (by omega) (by omega))).elim
      · rcases (show phi (smul L a) (smul L b) x < phi (smul L a) (smul L b) (smul L (P.v (k + 1))) ∨ phi (smul L a) (smul L b) (smul L (P.v k)) < phi (smul L a) (smul L b) x ∨ (phi (smul L a) (smul L b) (smul L (P.v (k + 1))) ≤ phi (smul L a) (smul L b) x ∧ phi (smul L a) (smul L b) x ≤ phi (smul L a) (smul L b) (smul L (P.v k))) by omega) with c | c | c
        · exact (ends (k + 1) (FM lx ly lv' (by omega) (by omega) (by omega))).elim
        · exact (ends k (sw (FM ly lx lv (by omega) (by omega) (by omega)))).elim
        · exact (notx (sw (FM lv' lv lx (by omega) (by omega) (by omega)))).elim
    · exfalso
      unfold Opp at nocross
      omega
  · exact (ends k g).elim
  · exact (ends (k + 1) g).elim
  · exfalso
    have c1 : ∀ v : Pt, turnZ x y (smul L v) = (T' - T) * (L * turnZ a b v) := fun v => by
      rw [← hx, ← hy]
      have hS1 : S = L - T := by omega
      have hS2 : S' = L - T' := by omega
      rw [hS1, hS2]; unfold turnZ smul padd; grind
    have c2 : ∀ u v : Pt, turnZ (smul L u) (smul L v) x = L * (S * turnZ u v a + T * turnZ u v b) := fun u v => by rw [← hx, ← e]; unfold turnZ smul padd; grind
    have c3 : ∀ u v : Pt, turnZ (smul L u) (smul L v) y = L * (S' * turnZ u v a + T' * turnZ u v b) := fun u v => by rw [← hy, ← e']; unfold turnZ smul padd; grind
    rw [c1, c1] at g1
    rw [c2, c3] at g2
    have nn : ∀ {w z : Int}, 0 ≤ w → 0 ≤ z → 0 ≤ L * (S * w + T * z) ∧ 0 ≤ L * (S' * w + T' * z) := fun {w z} hw hz => by
      have := nn0 hS hw; have := nn0 hT hz; have := nn0 hS' hw; have := nn0 hT' hz
      exact ⟨nn0 (by omega) (by omega), nn0 (by omega) (by omega)⟩
    have np : ∀ {w z : Int}, w ≤ 0 → z ≤ 0 → L * (S * w + T * z) ≤ 0 ∧ L * (S' * w + T' * z) ≤ 0 := fun {w z} hw hz => by
      have := pm0 hS hw; have := pm0 hT hz; have := pm0 hS' hw; have := pm0 hT' hz
      exact ⟨pm0 (by omega) (by omega), pm0 (by omega) (by omega)⟩
    have mp2 : ∀ z : Int, (0 < z → 0 < L * z) ∧ (z < 0 → L * z < 0) ∧ (z = 0 → L * z = 0) := fun z => ⟨fun g => pp hL g, fun g => pm hL g, fun g => by rw [g, Int.mul_zero]⟩
    refine nocross ⟨?_, ?_⟩
    · have m1 := mp2 (turnZ a b (P.v k))
      have m2 := mp2 (turnZ a b (P.v (k + 1)))
      generalize L * turnZ a b (P.v k) = w1 at *
      generalize L * turnZ a b (P.v (k + 1)) = w2 at *
      have sgn3 : ∀ z : Int, (0 < z → (0 < T' - T → 0 < (T' - T) * z) ∧ (T' - T < 0 → (T' - T) * z < 0)) ∧ (z < 0 → (0 < T' - T → (T' - T) * z < 0) ∧ (T' - T < 0 → 0 < (T' - T) * z)) ∧ (z = 0 → (T' - T) * z = 0) ∧ (T' - T = 0 → (T' - T) * z = 0) := fun z =>
        ⟨fun g => ⟨fun g2 => pp g2 g, fun g2 => mp g2 g⟩, fun g => ⟨fun g2 => pm g2 g, fun g2 => mm g2 g⟩, fun g => by rw [g, Int.mul_zero], fun g => by rw [g, Int.zero_mul]⟩
      have s1 := sgn3 w1
      have s2 := sgn3 w2
      unfold Opp
      omega
    · generalize turnZ (P.v k) (P.v (k + 1)) a = A at *
      generalize turnZ (P.v k) (P.v (k + 1)) b = B at *
      unfold Opp
      rcases (show (0 ≤ A ∧ 0 ≤ B) ∨ (A ≤ 0 ∧ B ≤ 0) ∨ ((A < 0 ∧ 0 < B) ∨ (B < 0 ∧ 0 < A)) by omega) with c | c | c
      · have := nn c.1 c.2; omega
      · have := np c.1 c.2; omega
      · exact c
theorem noout_of {xs : List Pt} (hr : roomOk xs = true) {a b : Pt} (ha : ptOk a = true) (hb : ptOk b = true) (hsa : ¬ Outp (roomP xs) 1 a) (hsb : ¬ Outp (roomP xs) 1 b) (h : Sees xs a b) : NoOut (roomP xs) a b := by
  intro s t hs ht hst o
  have ba := bd_of_ok ha
  have bb := bd_of_ok hb
  have dsc : ∀ c : Pt, ¬ Outp (roomP xs) 1 c → padd (smul s a) (smul t b) = smul (s + t) c → False := fun c hc e => by
    rw [e] at o
    exact hc (Outp.desc hst (by rw [Int.mul_one]; exact o))
  by_cases hab : a = b
  · exact dsc a hsa (by rw [hab]; unfold padd smul; simp [Int.add_mul])
  have hN := sq_pos hab
  rw [← phi_b] at hN
  have t0 : 0 < t := by
    rcases (show 0 < t ∨ t = 0 by omega) with g | g
    · exact g
    · exact absurd (dsc a hsa (by subst g; unfold padd smul; simp)) (by simp)
  have s0 : 0 < s := by
    rcases (show 0 < s ∨ s = 0 by omega) with g | g
    · exact g
    · exact absurd (dsc b hsb (by subst g; unfold padd smul; simp)) (by simp)
  have w0 := pp t0 hN
  have w1 : t * phi a b b < (s + t) * phi a b b := by have := pp s0 hN; rw [Int.add_mul]; omega
  have hbr := bd_of_room hr
  have flat : ∀ r ∈ cutsOf xs a b, turnZ a b r = 0 ∧ 0 ≤ phi a b r ∧ phi a b r ≤ phi a b b := fun r hr' => by
    have h4 := on_pt40 ha hb (cuts_on hr')
    exact onS_flat ba bb (by unfold Bd; omega) (cuts_on hr')
  have at_ : ∀ r, turnZ a b r = 0 → (s + t) * phi a b r = t * phi a b b → padd (smul s a) (smul t b) = smul (s + t) r := fun r h0 e => by
    obtain ⟨p1, p2⟩ := on_line h0
    rw [← phi_b] at p1 p2
    have eφ : phi a b b + dotZ a b r = phi a b r := by rw [phi_b]; rfl
    rw [eφ] at p1 p2
    have hN0 : phi a b b ≠ 0 := by omega
    unfold padd smul
    refine Prod.ext ?_ ?_
    · refine Int.eq_of_mul_eq_mul_left hN0 ?_
      show phi a b b * (s * a.1 + t * b.1) = phi a b b * ((s + t) * r.1)
      have e1 : phi a b b * ((s + t) * r.1) = (s + t) * (phi a b b * r.1) := by grind
      rw [e1, p1]
      have e2 : (s + t) * ((phi a b b - phi a b r) * a.1 + phi a b r * b.1) = ((s + t) * phi a b b - (s + t) * phi a b r) * a.1 + ((s + t) * phi a b r) * b.1 := by grind
      rw [e2, e]; grind
    · refine Int.eq_of_mul_eq_mul_left hN0 ?_
      show phi a b b * (s * a.2 + t * b.2) = phi a b b * ((s + t) * r.2)
      have e1 : phi a b b * ((s + t) * r.2) = (s + t) * (phi a b b * r.2) := by grind
      rw [e1, p2]
      have e2 : (s + t) * ((phi a b b - phi a b r) * a.2 + phi a b r * b.2) = ((s + t) * phi a b b - (s + t) * phi a b r) * a.2 + ((s + t) * phi a b r) * b.2 := by grind
      rw [e2, e]; grind
  have hne : ∀ r ∈ cutsOf xs a b, (s + t) * phi a b r ≠ t * phi a b b := fun r hr' e => by
    have em := at_ r (flat r hr').1 e
    rcases cuts_mem.1 hr' with rfl | rfl | ⟨hx, _⟩
    · exact dsc _ hsa em
    · exact dsc _ hsb em
    · obtain ⟨k, hk, e⟩ := List.getElem_of_mem hx
      have ho := o.1 k hk
      rw [em, show (roomP xs).v k = r from (pCy_lt hk).trans ((getD_lt _ hk).trans e)] at ho
      exact (Off.ne ho).1 rfl
  obtain ⟨p, q, hp, hq, hpw, hqw, hpq⟩ := cut_pair hr ha hb hab hst w0 w1 hne
  have nocut : ∀ k, turnZ a b ((roomP xs).v k) = 0 → phi a b p < phi a b ((roomP xs).v k) → phi a b ((roomP xs).v k) < phi a b q → False := fun k h0 g1 g2 => by
    have hk : k % xs.length < xs.length := Nat.mod_lt _ (room_pos hr)
    have hc : (roomP xs).v k ∈ xs := by
      rw [show (roomP xs).v k = xs[k % xs.length] from getD_lt _ hk]; exact List.getElem_mem hk
    generalize (roomP xs).v k = c at *
    have hin : c ∈ cutsOf xs a b := by
      by_cases e1 : c = a
      · exact cuts_mem.2 (.inl e1)
      · by_cases e2 : c = b
        · exact cuts_mem.2 (.inr (.inl e2))
        · have := flat p hp
          have := flat q hq
          exact cuts_mem.2 (.inr (.inr ⟨hc, e1, e2, flat_onS ba bb (hbr c hc) hab h0 (by omega) (by omega)⟩))
    rcases hpq c hin with e | e | e | e
    · rw [e] at g1; omega
    · rw [e] at g2; omega
    · omega
    · omega
  obtain ⟨fp, p0, pN⟩ := flat p hp
  obtain ⟨fq, q0, qN⟩ := flat q hq
  have p40 := on_pt40 ha hb (cuts_on hp)
  have q40 := on_pt40 ha hb (cuts_on hq)
  have ltL : ∀ x y : Int, (s + t) * x < (s + t) * y → x < y := fun x y g => by
    rcases (show x < y ∨ y ≤ x by omega) with k | k
    · exact k
    · have := Int.mul_le_mul_of_nonneg_left k (show 0 ≤ s + t by omega); omega
  have lpq : phi a b p < phi a b q := ltL _ _ (by omega)
  have hm := h.2 p q hp hq (.inl (fun e => by rw [e] at lpq; omega)) (fun r hr' n1 n2 => by
    cases hon : onS r p q with
    | false => rfl
    | true =>
      exfalso
      have r40 := on_pt40 ha hb (cuts_on hr')
      obtain ⟨x, y, hx, hy, hxy, hf⟩ := onS_OnM (by unfold Bd; omega) (by unfold Bd; omega) (by unfold Bd; omega) hon
      have e := hf (Aff.dot a b)
      rw [ev_dot, ev_dot, ev_dot] at e
      have pe : ∀ v : Pt, dotZ a b v = phi a b v - phi a b b := fun v => by rw [phi_b]; unfold phi; omega
      rw [pe, pe, pe] at e
      have e : (x + y) * phi a b r = x * phi a b p + y * phi a b q := by
        have : (x + y) * (phi a b r - phi a b b) = (x + y) * phi a b r - (x + y) * phi a b b := by rw [Int.mul_sub]
        rw [this] at e
        have : x * (phi a b p - phi a b b) + y * (phi a b q - phi a b b) = x * phi a b p + y * phi a b q - (x + y) * phi a b b := by grind
        omega
      rcases hpq r hr' with c | c | c | c
      · exact n1 c
      · exact n2 c
      · have c1 := nn0 hx (show 0 ≤ phi a b p - phi a b r - 1 by omega)
        have c2 := nn0 hy (show 0 ≤ phi a b q - phi a b r - 1 by omega)
        rw [Int.mul_sub, Int.mul_sub, Int.mul_one] at c1 c2
        rw [Int.add_mul] at e
        omega
      · have c1 := nn0 hx (show 0 ≤ phi a b r - phi a b p - 1 by omega)
        have c2 := nn0 hy (show 0 ≤ phi a b r - phi a b q - 1 by omega)
        rw [Int.mul_sub, Int.mul_sub, Int.mul_one] at c1 c2
        rw [Int.add_mul] at e
        omega)
  refine hm ((mid_out hr p40 q40).2 ?_)
  obtain ⟨N, hNe⟩ : ∃ N, N = phi a b b := ⟨_, rfl⟩
  rw [← hNe] at hN w0 w1 hpw hqw pN qN
  have hL : 0 < (s + t) * N * 2 := by have := pp hst hN; omega
  refine Outp.desc (L := (s + t) * N) (pp hst hN) ?_
  have ox := o.scale (L := N * 2) (by omega)
  have eL : N * 2 * (s + t) = (s + t) * N * 2 := by grind
  have eX : smul (N * 2) (padd (smul s a) (smul t b)) = padd (smul (2 * s * N) a) (smul (2 * t * N) b) := by
    unfold smul padd
    refine Prod.ext ?_ ?_
    · show N * 2 * (s * a.1 + t * b.1) = 2 * s * N * a.1 + 2 * t * N * b.1; grind
    · show N * 2 * (s * a.2 + t * b.2) = 2 * s * N * a.2 + 2 * t * N * b.2; grind
  have coord : ∀ r, turnZ a b r = 0 → N * r.1 = (N - phi a b r) * a.1 + phi a b r * b.1 ∧ N * r.2 = (N - phi a b r) * a.2 + phi a b r * b.2 := fun r h0 => by
    have := on_line h0
    rw [← phi_b, ← hNe] at this
    have eφ : N + dotZ a b r = phi a b r := by rw [hNe, phi_b]; rfl
    rw [eφ] at this; exact this
  obtain ⟨cp1, cp2⟩ := coord p fp
  obtain ⟨cq1, cq2⟩ := coord q fq
  have eY : smul ((s + t) * N) (padd p q) = padd (smul ((s + t) * (2 * N - phi a b p - phi a b q)) a) (smul ((s + t) * (phi a b p + phi a b q)) b) := by
    unfold smul padd
    refine Prod.ext ?_ ?_
    · show (s + t) * N * (p.1 + q.1) = _ * a.1 + _ * b.1
      have : (s + t) * N * (p.1 + q.1) = (s + t) * (N * p.1 + N * q.1) := by grind
      rw [this, cp1, cq1]; grind
    · show (s + t) * N * (p.2 + q.2) = _ * a.2 + _ * b.2
      have : (s + t) * N * (p.2 + q.2) = (s + t) * (N * p.2 + N * q.2) := by grind
      rw [this, cp2, cq2]; grind
  rw [eX, eL] at ox
  rw [eY]
  obtain ⟨hox, g, hg, h0⟩ := ox
  have gx1 := pp hN (show 0 < t * N - (s + t) * phi a b p by omega)
  have gx2 := pp hN (show 0 < (s + t) * phi a b q - t * N by omega)
  have gy := pp (pp hst hN) (show 0 < phi a b q - phi a b p by omega)
  have parts : ∀ k, k < (roomP xs).n → Part (smul ((s + t) * N * 2) ((roomP xs).v k)) (smul ((s + t) * N * 2) ((roomP xs).v (k + 1))) (padd (smul (2 * s * N) a) (smul (2 * t * N) b)) (padd (smul ((s + t) * (2 * N - phi a b p - phi a b q)) a) (smul ((s + t) * (phi a b p + phi a b q)) b)) := fun k hk => by
    refine open_part hab p0 (by rw [← hNe]; exact qN) nocut ?_ hL ?_ ?_ ?_ ?_ ?_ ?_ ?_ ?_ ?_ ?_ ((room_simple hr).ne k) (hox k hk)
    · rintro ⟨o1, o2⟩
      have hk : k < xs.length := hk
      have c := h.1 k hk
      have e1 : (wl xs k).1 = (roomP xs).v k := (pCy_lt hk).symm
      have e2 : (wl xs k).2 = (roomP xs).v (k + 1) := rfl
      have b1 : Bd (wl xs k).1 := pAt_bd hbr hk
      have b2 : Bd (wl xs k).2 := pCy_bd hbr (room_pos hr)
      rw [← e1, ← e2] at o1 o2
      unfold crs at c
      rw [turn_exact ba bb b1, turn_exact ba bb b2, turn_exact b1 b2 ba, turn_exact b1 b2 bb, decide_eq_true (sgn_opp.2 o1), decide_eq_true (sgn_opp.2 o2)] at c
      exact absurd c (by decide)
    · grind
    · grind
    · have := pp s0 hN; have e : 2 * s * N = 2 * (s * N) := by grind
      omega
    · have := pp t0 hN; have e : 2 * t * N = 2 * (t * N) := by grind
      omega
    · exact nn0 (by omega) (by omega)
    · exact nn0 (by omega) (by omega)
    · rw [← hNe]; grind
    · rw [← hNe]; grind
    · rw [← hNe]; grind
    · rw [← hNe]; grind
  exact ⟨fun k hk => (parts k hk).off2, g, hg, by rw [← h0]; exact (wnd_step g ((roomP xs).sc ((s + t) * N * 2)).way parts).symm⟩
end Go.Proofs.Ytfjmlaciogmndaa.Geo
