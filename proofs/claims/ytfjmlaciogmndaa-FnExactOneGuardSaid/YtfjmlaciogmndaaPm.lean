/- Polygons, chords, positive polygons; rooms are positive simple polygons. -/
import Derived.Test.YtfjmlaciogmndaaPd
import Derived.Test.YtfjmlaciogmndaaMs
namespace Go.Proofs.Ytfjmlaciogmndaa.Geo
set_option linter.unusedSimpArgs false
set_option linter.unusedVariables false
/-! ### Polygons: closed ways that go round and round -/
structure Poly where
  n : Nat
  v : Nat → Pt
  per : ∀ j, v (j + n) = v j
def Poly.way (P : Poly) : Way := ⟨P.n, P.v, by have := P.per 0; rwa [Nat.zero_add] at this⟩
structure SimpleP (P : Poly) : Prop where
  n3 : 3 ≤ P.n
  off : ∀ j d, 2 ≤ d → d < P.n → Off (P.v (j + d)) (P.v j) (P.v (j + 1))
  apart : ∀ j d, 2 ≤ d → d + 2 ≤ P.n → Part (P.v j) (P.v (j + 1)) (P.v (j + d)) (P.v (j + d + 1))
  bend : ∀ k, Bends (P.v k) (P.v (k + 1)) (P.v (k + 2)) ∧ Bends (P.v (k + 2)) (P.v (k + 1)) (P.v k)
theorem Part.symm {a b q r : Pt} (h : Part a b q r) : Part q r a b := by
  obtain ⟨f, fa, fb, fq, fr⟩ := h
  refine ⟨Aff.lc (-2) f 0 f 1, ?_, ?_, ?_, ?_⟩ <;> rw [ev_lc] <;> omega
theorem Off.swap {p a b : Pt} (h : Off p a b) : Off p b a := let ⟨f, fa, fb, fp⟩ := h; ⟨f, fb, fa, fp⟩
theorem SimpleP.simple {P : Poly} (h : SimpleP P) : Simple P.way := by
  refine ⟨h.n3, fun j k hj hk h1 h2 => ?_, fun j k hj hk h1 h2 => ?_, fun k hk => h.bend k, fun k hk => ?_⟩
  · have hj : j < P.n := hj
    have hk : k + 1 < P.n := hk
    show Off (P.v (k + 1)) (P.v j) (P.v (j + 1))
    rcases (show j < k + 1 ∨ k + 1 < j by omega) with h3 | h3
    · have := h.off j (k + 1 - j) (by omega) (by omega)
      rwa [show j + (k + 1 - j) = k + 1 by omega] at this
    · have := h.off j (k + 1 + P.n - j) (by omega) (by omega)
      rwa [show j + (k + 1 + P.n - j) = k + 1 + P.n by omega, P.per] at this
  · have hj : j < P.n := hj
    have hk : k < P.n := hk
    have h2 : ¬ Adj P.n j k := h2
    unfold Adj at h2
    show Part (P.v j) (P.v (j + 1)) (P.v k) (P.v (k + 1))
    rcases (show j < k ∨ k < j by omega) with h3 | h3
    · have := h.apart j (k - j) (by omega) (by omega)
      rwa [show j + (k - j) = k by omega] at this
    · have := h.apart j (k + P.n - j) (by omega) (by omega)
      rwa [show j + (k + P.n - j) = k + P.n by omega, P.per, show k + P.n + 1 = k + 1 + P.n by omega, P.per] at this
  · have hk : k + 1 = P.n := hk
    have := h.bend k
    rw [hk] at this
    have e0 : P.v P.n = P.v 0 := by have := P.per 0; rwa [Nat.zero_add] at this
    have e1 : P.v (k + 2) = P.v 1 := by rw [show k + 2 = 1 + P.n by omega, P.per]
    rw [e0, e1] at this
    exact this
def Poly.rot (P : Poly) (s : Nat) : Poly := ⟨P.n, fun j => P.v (s + j), fun j => by show P.v (s + (j + P.n)) = P.v (s + j); rw [← Nat.add_assoc, P.per]⟩
theorem SimpleP.rot {P : Poly} (h : SimpleP P) (s : Nat) : SimpleP (P.rot s) :=
  ⟨h.n3, fun j d h1 h2 => by have := h.off (s + j) d h1 h2; simpa only [Poly.rot, Nat.add_assoc] using this, fun j d h1 h2 => by have := h.apart (s + j) d h1 h2; simpa only [Poly.rot, Nat.add_assoc] using this,
    fun k => by have := h.bend (s + k); simpa only [Poly.rot, Nat.add_assoc] using this⟩
theorem sumN_shift {f : Nat → Int} {n : Nat} (hf : ∀ j, f (j + n) = f j) (s : Nat) : sumN (fun j => f (s + j)) n = sumN f n := by
  have split : ∀ (a b : Nat), sumN f (a + b) = sumN f a + sumN (fun j => f (a + j)) b := fun a b => by
    induction b with
    | zero => simp [sumN]
    | succ b ih => rw [← Nat.add_assoc]; simp only [sumN]; rw [ih]; omega
  induction s with
  | zero => exact sumN_congr fun k _ => by rw [Nat.zero_add]
  | succ s ih =>
    rw [← ih]
    have h1 := split s (n + 1)
    have h2 := split (s + 1) n
    rw [show s + (n + 1) = s + 1 + n by omega, h2] at h1
    have h3 : sumN (fun j => f (s + j)) (n + 1) = sumN (fun j => f (s + j)) n + f s := by simp only [sumN]; rw [hf]
    have h4 : sumN f (s + 1) = sumN f s + f s := rfl
    omega
theorem wnd_rot (h : Aff) (P : Poly) (s : Nat) (p : Pt) : wnd h (P.rot s).way p = wnd h P.way p := by
  have := sumN_shift (f := fun k => crN h p (P.v k) (P.v (k + 1))) (n := P.n) (fun j => by simp only [P.per, show j + P.n + 1 = j + 1 + P.n by omega]) s
  exact this
def crs0 (a b : Pt) : Int := a.1 * b.2 - a.2 * b.1
def Poly.area (P : Poly) : Int := sumN (fun k => crs0 (P.v k) (P.v (k + 1))) P.n
theorem area_rot (P : Poly) (s : Nat) : (P.rot s).area = P.area := by
  have := sumN_shift (f := fun k => crs0 (P.v k) (P.v (k + 1))) (n := P.n) (fun j => by simp only [P.per, show j + P.n + 1 = j + 1 + P.n by omega]) s
  exact this
/-- The corners 0 to m, closed by a chord. -/
def Poly.arc (P : Poly) (m : Nat) : Poly := ⟨m + 1, fun j => P.v (j % (m + 1)), fun j => by show P.v ((j + (m + 1)) % (m + 1)) = _; rw [Nat.add_mod_right]⟩
theorem arc_v (P : Poly) {m j : Nat} (h : j ≤ m) : (P.arc m).v j = P.v j := by show P.v (j % (m + 1)) = _; rw [Nat.mod_eq_of_lt (by omega)]
theorem arc_v0 (P : Poly) (m : Nat) : (P.arc m).v (m + 1) = P.v 0 := by show P.v ((m + 1) % (m + 1)) = _; rw [Nat.mod_self]
theorem sum_arc (g : Pt → Pt → Int) (P : Poly) (m : Nat) : sumN (fun k => g ((P.arc m).v k) ((P.arc m).v (k + 1))) (m + 1) = sumN (fun k => g (P.v k) (P.v (k + 1))) m + g (P.v m) (P.v 0) := by
  show sumN _ m + g ((P.arc m).v m) ((P.arc m).v (m + 1)) = _
  rw [arc_v P (Nat.le_refl m), arc_v0]
  congr 1
  exact sumN_congr fun k hk => by rw [arc_v P (by omega), arc_v P (by omega)]
/-- A chord cuts the sums in two. -/
theorem sum_cut (g : Pt → Pt → Int) (hg : ∀ a b, g b a = - g a b) (P : Poly) {m : Nat} (hm : m ≤ P.n) :
    sumN (fun k => g (P.v k) (P.v (k + 1))) P.n = sumN (fun k => g ((P.arc m).v k) ((P.arc m).v (k + 1))) (m + 1) + sumN (fun k => g (((P.rot m).arc (P.n - m)).v k) (((P.rot m).arc (P.n - m)).v (k + 1))) (P.n - m + 1) := by
  rw [sum_arc, sum_arc]
  have split : ∀ (f : Nat → Int) (a b : Nat), sumN f (a + b) = sumN f a + sumN (fun j => f (a + j)) b := fun f a b => by
    induction b with
    | zero => simp [sumN]
    | succ b ih => rw [← Nat.add_assoc]; simp only [sumN]; rw [ih]; omega
  have h1 := split (fun k => g (P.v k) (P.v (k + 1))) m (P.n - m)
  rw [show m + (P.n - m) = P.n by omega] at h1
  have e1 : (P.rot m).v (P.n - m) = P.v 0 := by
    show P.v (m + (P.n - m)) = P.v 0
    rw [show m + (P.n - m) = 0 + P.n by omega, P.per]
  have e2 : (P.rot m).v 0 = P.v m := by show P.v (m + 0) = _; rw [Nat.add_zero]
  have e3 : ∀ k, (P.rot m).v k = P.v (m + k) := fun k => rfl
  have e4 := hg (P.v 0) (P.v m)
  rw [e1, e2]
  simp only [e3, Nat.add_assoc] at h1 ⊢
  omega
theorem wnd_cut (h : Aff) (P : Poly) {m : Nat} (hm : m ≤ P.n) (p : Pt) : wnd h P.way p = wnd h (P.arc m).way p + wnd h ((P.rot m).arc (P.n - m)).way p := sum_cut (crN h p) (fun a b => crN_swap h p a b) P hm
theorem area_cut (P : Poly) {m : Nat} (hm : m ≤ P.n) : P.area = (P.arc m).area + ((P.rot m).arc (P.n - m)).area := sum_cut crs0 (fun a b => by unfold crs0; grind) P hm
/-- A chord that cuts a simple polygon into simple ones. -/
structure Chord (P : Poly) (m : Nat) : Prop where
  m2 : 2 ≤ m
  mn : m + 2 ≤ P.n
  off : ∀ j, 0 < j → j < P.n → j ≠ m → Off (P.v j) (P.v 0) (P.v m)
  apart : ∀ j, 0 < j → j + 1 < P.n → j ≠ m → j + 1 ≠ m → Part (P.v j) (P.v (j + 1)) (P.v 0) (P.v m)
  b0 : (Bends (P.v m) (P.v 0) (P.v 1) ∧ Bends (P.v 1) (P.v 0) (P.v m)) ∧ Bends (P.v m) (P.v 0) (P.v (P.n - 1)) ∧ Bends (P.v (P.n - 1)) (P.v 0) (P.v m)
  bm : (Bends (P.v 0) (P.v m) (P.v (m - 1)) ∧ Bends (P.v (m - 1)) (P.v m) (P.v 0)) ∧ Bends (P.v 0) (P.v m) (P.v (m + 1)) ∧ Bends (P.v (m + 1)) (P.v m) (P.v 0)
theorem SimpleP.arc {P : Poly} (h : SimpleP P) {m : Nat} (c : Chord P m) : SimpleP (P.arc m) := by
  have hm2 := c.m2
  have hmn := c.mn
  have red : ∀ j, (P.arc m).v j = P.v (j % (m + 1)) := fun _ => rfl
  -- what is known of walls and corners by their numbers
  have hoff : ∀ i t, i < m → t ≤ m → t ≠ i → t ≠ i + 1 → Off (P.v t) (P.v i) (P.v (i + 1)) := by
    intro i t hi ht h1 h2
    rcases (show i < t ∨ t < i by omega) with h3 | h3
    · have := h.off i (t - i) (by omega) (by omega)
      rwa [show i + (t - i) = t by omega] at this
    · have := h.off i (t + P.n - i) (by omega) (by omega)
      rwa [show i + (t + P.n - i) = t + P.n by omega, P.per] at this
  have hap : ∀ i t, i + 2 ≤ t → t < m → Part (P.v i) (P.v (i + 1)) (P.v t) (P.v (t + 1)) := by
    intro i t hi ht
    have := h.apart i (t - i) (by omega) (by omega)
    rwa [show i + (t - i) = t by omega] at this
  have mlt : ∀ j, j % (m + 1) < m + 1 := fun j => Nat.mod_lt _ (by omega)
  have madd : ∀ j d, (j + d) % (m + 1) = (j % (m + 1) + d) % (m + 1) := fun j d => by rw [Nat.mod_add_mod]
  have mone : ∀ x, x < 2 * (m + 1) → x % (m + 1) = if x < m + 1 then x else x - (m + 1) := fun x hx => by
    split
    · exact Nat.mod_eq_of_lt (by assumption)
    · rw [Nat.mod_eq_sub_mod (by omega), Nat.mod_eq_of_lt (by omega)]
  refine ⟨by show 3 ≤ m + 1; omega, fun j d h1 h2 => ?_, fun j d h1 h2 => ?_, fun k => ?_⟩
  · have h2 : d < m + 1 := h2
    rw [red, red, red, madd j d, madd j 1]
    have hi := mlt j
    generalize j % (m + 1) = i at *
    rcases (show i = m ∨ i < m by omega) with rfl | him
    · rw [Nat.mod_self, mone _ (by omega), if_neg (by omega)]
      exact (c.off _ (by omega) (by omega) (by omega)).swap
    · rw [mone (i + 1) (by omega), if_pos (by omega), mone (i + d) (by omega)]
      split
      · exact hoff i _ him (by omega) (by omega) (by omega)
      · exact hoff i _ him (by omega) (by omega) (by omega)
  · have h2 : d + 2 ≤ m + 1 := h2
    rw [red, red, red, red, madd j d, madd j 1, show j + d + 1 = j + (d + 1) by omega, madd j (d + 1)]
    have hi := mlt j
    generalize j % (m + 1) = i at *
    rcases (show i = m ∨ i < m by omega) with rfl | him
    · rw [Nat.mod_self, mone (i + d) (by omega), if_neg (by omega), mone (i + (d + 1)) (by omega), if_neg (by omega)]
      have := c.apart (i + d - (i + 1)) (by omega) (by omega) (by omega) (by omega)
      rw [show i + d - (i + 1) + 1 = i + (d + 1) - (i + 1) by omega] at this
      exact this.symm.swap
    · rw [mone (i + 1) (by omega), if_pos (by omega), mone (i + d) (by omega), mone (i + (d + 1)) (by omega)]
      rcases (show i + d < m ∨ i + d = m ∨ m < i + d by omega) with h3 | h3 | h3
      · rw [if_pos (by omega), if_pos (by omega)]
        exact hap i (i + d) (by omega) h3
      · rw [if_pos (by omega), if_neg (by omega), show i + (d + 1) - (m + 1) = 0 by omega, h3]
        exact (c.apart i (by omega) (by omega) (by omega) (by omega)).comm2
      · rw [if_neg (by omega), if_neg (by omega), show i + (d + 1) - (m + 1) = i + d - (m + 1) + 1 by omega]
        exact (hap (i + d - (m + 1)) i (by omega) him).symm
  · rw [red, red, red, madd k 1, madd k 2]
    have hi := mlt k
    generalize k % (m + 1) = i at *
    rcases (show i = m ∨ i + 1 = m ∨ i + 1 < m by omega) with rfl | rfl | him
    · rw [Nat.mod_self, mone (i + 2) (by omega), if_neg (by omega), show i + 2 - (i + 1) = 1 by omega]
      exact c.b0.1
    · rw [mone (i + 1) (by omega), if_pos (by omega), show i + 2 = i + 1 + 1 from rfl, Nat.mod_self]
      exact ⟨c.bm.1.2, c.bm.1.1⟩
    · rw [mone (i + 1) (by omega), if_pos (by omega), mone (i + 2) (by omega), if_pos (by omega)]
      exact h.bend i
/-- The other side of a chord. -/
theorem Chord.rot {P : Poly} {m : Nat} (c : Chord P m) : Chord (P.rot m) (P.n - m) := by
  have hm2 := c.m2
  have hmn := c.mn
  have e0 : (P.rot m).v 0 = P.v m := by show P.v (m + 0) = _; rw [Nat.add_zero]
  have em : (P.rot m).v (P.n - m) = P.v 0 := by show P.v (m + (P.n - m)) = _; rw [show m + (P.n - m) = 0 + P.n by omega, P.per]
  have ev : ∀ j, (P.rot m).v j = if m + j < P.n then P.v (m + j) else P.v (m + j - P.n) := fun j => by
    show P.v (m + j) = _
    split
    · rfl
    · rw [show m + j = m + j - P.n + P.n by omega, P.per, Nat.add_sub_cancel]
  refine ⟨by omega, by show P.n - m + 2 ≤ P.n; omega, fun j h1 h2 h3 => ?_, fun j h1 h2 h3 h4 => ?_, ?_, ?_⟩
  · have h2 : j < P.n := h2
    rw [e0, em, ev]
    split
    · exact (c.off _ (by omega) (by omega) (by omega)).swap
    · exact (c.off _ (by omega) (by omega) (by omega)).swap
  · have h2 : j + 1 < P.n := h2
    rw [e0, em, ev, ev]
    rcases (show m + (j + 1) < P.n ∨ P.n < m + j by omega) with h5 | h5
    · rw [if_pos (by omega), if_pos h5]
      exact (c.apart (m + j) (by omega) (by omega) (by omega) (by omega)).comm2
    · rw [if_neg (by omega), if_neg (by omega)]
      have := c.apart (m + j - P.n) (by omega) (by omega) (by omega) (by omega)
      rw [show m + j - P.n + 1 = m + (j + 1) - P.n by omega] at this
      exact this.comm2
  · rw [e0, em, ev, ev, show (P.rot m).n - 1 = P.n - 1 from rfl, if_pos (by omega), if_neg (by omega), show m + (P.n - 1) - P.n = m - 1 by omega]
    exact ⟨c.bm.2, c.bm.1⟩
  · rw [e0, em, ev, ev, if_pos (by omega), if_neg (by omega), show m + (P.n - m - 1) = P.n - 1 by omega, show m + (P.n - m + 1) - P.n = 1 by omega]
    exact ⟨c.b0.2, c.b0.1⟩
/-! ### The turn at the lowest corner -/
/-- What the count is to the left of all walls. -/
def LeftIs (h : Aff) (P : Way) (l : Int) : Prop := (l = 0 ∨ l = 1) ∧
    (∀ (K : Int) (k : Nat) (x : Pt), 0 < K → k < P.n → OnI x (smul K (P.v k)) (smul K (P.v (k + 1))) → lam (h.sc K) (P.sc K) k x = l) ∧ ∀ (K : Int) (p : Pt), 0 < K → Clear (h.sc K) (P.sc K) p → wnd (h.sc K) (P.sc K) p = l ∨ wnd (h.sc K) (P.sc K) p = l - 1
theorem wnd_below {h : Aff} {P : Way} {p : Pt} (hl : ∀ k, k < P.n → h.ev p < h.ev (P.v k)) : wnd h P p = 0 := by
  have hl' : ∀ k, k < P.n → h.ev p < h.ev (P.v (k + 1)) := fun k hk => by
    rcases (show k + 1 < P.n ∨ k + 1 = P.n by omega) with e | e
    · exact hl _ e
    · rw [e, P.cyc]; exact hl 0 (by omega)
  have : wnd h P p = sumN (fun _ => 0) P.n := sumN_congr fun k hk => by
    have h1 := hl k hk
    have h2 := hl' k hk
    unfold crN
    repeat' split
    all_goals omega
  rw [this]
  have z : ∀ n, sumN (fun _ => 0) n = 0 := fun n => by
    induction n with
    | zero => rfl
    | succ n ih => simp only [sumN, ih]; rfl
  exact z _
theorem bend_lev {h : Aff} {a b z : Pt} (hb : Bends a b z) (ha : h.ev b < h.ev a) (hz : h.ev b < h.ev z) : turnZ a b z ≠ 0 := by
  intro ht
  have hd : 0 < dotZ a b z := hb.2.resolve_left (fun e => e ht)
  have e : ((b.1 - a.1) * (b.1 - a.1) + (b.2 - a.2) * (b.2 - a.2)) * (h.ev z - h.ev b) = dotZ a b z * (h.ev b - h.ev a) + turnZ a b z * (h.v * (b.1 - a.1) - h.u * (b.2 - a.2)) := by unfold dotZ turnZ Aff.ev; grind
  rw [ht, Int.zero_mul, Int.add_zero] at e
  have g1 := pp (sq_pos hb.1) (show 0 < h.ev z - h.ev b by omega)
  have g2 := pm hd (show h.ev b - h.ev a < 0 by omega)
  omega
theorem low_turn {P : Way} (hP : Simple P) {h : Aff} (hh : Sloped h P) {l : Int} (hl : LeftIs h P l) (hlow : ∀ j, j < P.n → j ≠ 1 → h.ev (P.v 1) < h.ev (P.v j)) :
    (l = 1 ∧ 0 < turnZ (P.v 0) (P.v 1) (P.v 2)) ∨ (l = 0 ∧ turnZ (P.v 0) (P.v 1) (P.v 2) < 0) := by
  have h3 := hP.n3
  have hb := hP.bend 0 (by omega)
  have hl0 := hlow 0 (by omega) (by omega)
  have hl2 : h.ev (P.v 1) < h.ev (P.v 2) := hlow 2 (by omega) (by omega)
  have ht : turnZ (P.v 0) (P.v 1) (P.v 2) ≠ 0 := bend_lev hb.1 hl0 hl2
  have near : Late fun K => ∀ j, j < P.n → (j ≠ 0 → j ≠ 1 → Part (smul K (P.v j)) (smul K (P.v (j + 1))) (padd (smul K (P.v 1)) (psub (P.v 1) (P.v 2))) (nearA K (P.v 1) (P.v 0))) := by
    refine Late.all fun j hj => ?_
    by_cases e : j = 0 ∨ j = 1
    · exact Late.of fun K _ h1 h2 => absurd e (by omega)
    · exact ((hP.off j 0 hj (by omega) (by omega) (by omega)).near _ _).imp fun K _ h _ _ => h
  obtain ⟨K, hK, hn, hK2⟩ := (near.and (Late.ge 2)).get
  obtain ⟨p, hp⟩ : ∃ p, p = padd (smul K (P.v 1)) (psub (P.v 1) (P.v 2)) := ⟨_, rfl⟩
  rw [← hp] at hn
  have t1 : turnZ (smul K (P.v 0)) (smul K (P.v 1)) p = -(K * turnZ (P.v 0) (P.v 1) (P.v 2)) := by rw [hp]; unfold turnZ smul padd psub; grind
  have t2 : turnZ (smul K (P.v 1)) (smul K (P.v 2)) p = 0 := by rw [hp]; unfold turnZ smul padd psub; grind
  have t3 : turnZ (smul K (P.v 0)) (smul K (P.v 1)) (nearA K (P.v 1) (P.v 0)) = 0 := by unfold nearA turnZ smul padd psub; grind
  have t4 : turnZ (smul K (P.v 1)) (smul K (P.v 2)) (nearA K (P.v 1) (P.v 0)) = K * turnZ (P.v 0) (P.v 1) (P.v 2) := by unfold nearA turnZ smul padd psub; grind
  have t5 : turnZ (smul K (P.v 0)) (smul K (P.v 1)) (smul K (P.v 1)) = 0 := by unfold turnZ; grind
  have t6 : turnZ (smul K (P.v 1)) (smul K (P.v 2)) (smul K (P.v 1)) = 0 := by unfold turnZ; grind
  have t7 : turnZ (smul K (P.v 0)) (smul K (P.v 1)) (smul K (P.v 2)) = K * (K * turnZ (P.v 0) (P.v 1) (P.v 2)) := turn_sc0 _ _ _ _
  have t8 : turnZ (smul K (P.v 1)) (smul K (P.v 2)) (smul K (P.v 2)) = 0 := by unfold turnZ; grind
  have hs : ∀ j, j < (P.sc K).n → j ≠ 0 → Part ((P.sc K).v j) ((P.sc K).v (j + 1)) p (nearA K (P.v 1) (P.v 0)) := by
    intro j hj hj0
    by_cases e : j = 1
    · subst e
      show Part (smul K (P.v 1)) (smul K (P.v 2)) _ _
      rcases (show 0 < turnZ (P.v 0) (P.v 1) (P.v 2) ∨ turnZ (P.v 0) (P.v 1) (P.v 2) < 0 by omega) with g | g
      · have g1 := pp hK g
        have g2 := pp hK g1
        refine ⟨Aff.lc 1 (Aff.turn (smul K (P.v 0)) (smul K (P.v 1))) (-1) (Aff.turn (smul K (P.v 1)) (smul K (P.v 2))) (K * turnZ (P.v 0) (P.v 1) (P.v 2)), ?_, ?_, ?_, ?_⟩ <;> rw [ev_lc, ev_turn, ev_turn]
        · rw [t5, t6]; omega
        · rw [t7, t8]; omega
        · rw [t1, t2]; omega
        · rw [t3, t4]; omega
      · have g1 := pm hK g
        have g2 := pm hK g1
        refine ⟨Aff.lc (-1) (Aff.turn (smul K (P.v 0)) (smul K (P.v 1))) 1 (Aff.turn (smul K (P.v 1)) (smul K (P.v 2))) (-(K * turnZ (P.v 0) (P.v 1) (P.v 2))), ?_, ?_, ?_, ?_⟩ <;> rw [ev_lc, ev_turn, ev_turn]
        · rw [t5, t6]; omega
        · rw [t7, t8]; omega
        · rw [t1, t2]; omega
        · rw [t3, t4]; omega
    · exact hn j hj hj0 e
  have hx : OnI (nearA K (P.v 1) (P.v 0)) ((P.sc K).v 0) ((P.sc K).v (0 + 1)) := (nearA_on hK2 _ _).swap
  have w0 : wnd (h.sc K) (P.sc K) p = 0 := by
    refine wnd_below fun k hk => ?_
    show (h.sc K).ev p < (h.sc K).ev (smul K (P.v k))
    have e : (h.sc K).ev p = K * h.ev (P.v 1) - (h.ev (P.v 2) - h.ev (P.v 1)) := by rw [hp, ev_sc]; unfold Aff.lin psub Aff.ev; grind
    rw [e, ev_sc0]
    by_cases e1 : k = 1
    · subst e1; omega
    · have := (mul_lt_iff hK).1.2 (hlow k hk e1); omega
  have hll := hl.2.1 K 0 _ hK (show 0 < P.n by omega) hx
  rcases (show 0 < turnZ (P.v 0) (P.v 1) (P.v 2) ∨ turnZ (P.v 0) (P.v 1) (P.v 2) < 0 by omega) with g | g
  · have e := wnd_right (sloped_sc hh hK) (k := 0) (show 0 < P.n by omega) hx hs (by show turnZ (smul K (P.v 0)) (smul K (P.v 1)) p < 0; rw [t1]; have := pp hK g; omega)
    exact .inl ⟨by omega, g⟩
  · have e := wnd_left (sloped_sc hh hK) (k := 0) (show 0 < P.n by omega) hx hs (by show 0 < turnZ (smul K (P.v 0)) (smul K (P.v 1)) p; rw [t1]; have := pm hK g; omega)
    exact .inr ⟨by omega, g⟩
/-- A function that tells all corners apart. -/
def Gen (h : Aff) (P : Poly) : Prop := ∀ i j, i < P.n → j < P.n → i ≠ j → h.ev (P.v i) ≠ h.ev (P.v j)
theorem Gen.sloped {h : Aff} {P : Poly} (hg : Gen h P) (h2 : 2 ≤ P.n) : Sloped h P.way := fun k hk => by
  have hk : k < P.n := hk
  show h.ev (P.v k) ≠ h.ev (P.v (k + 1))
  rcases (show k + 1 < P.n ∨ k + 1 = P.n by omega) with e | e
  · exact hg k (k + 1) hk e (by omega)
  · have := P.per 0
    rw [Nat.zero_add] at this
    rw [e, this]
    exact hg k 0 hk (by omega) (by omega)
theorem Off.ne {p a b : Pt} (h : Off p a b) : p ≠ a ∧ p ≠ b := by
  obtain ⟨f, fa, fb, fp⟩ := h
  constructor <;> rintro rfl <;> omega
theorem SimpleP.inj {P : Poly} (h : SimpleP P) {i j : Nat} (hi : i < P.n) (hj : j < P.n) (hij : i ≠ j) : P.v i ≠ P.v j := by
  have key : ∀ {i j : Nat}, i < j → j < P.n → P.v i ≠ P.v j := by
    intro i j hij hj
    rcases (show j = i + 1 ∨ i + 2 ≤ j by omega) with rfl | h2
    · exact (h.bend i).1.1
    · have := (h.off i (j - i) (by omega) (by omega)).ne.1
      rw [show i + (j - i) = j by omega] at this
      exact Ne.symm this
  rcases (show i < j ∨ j < i by omega) with h1 | h1
  · exact key h1 hj
  · exact (key h1 hi).symm
/-- Steep functions tell points apart. -/
def hM (M : Int) : Aff := ⟨1, M, 0⟩
theorem hM_gen {P : Poly} (h : SimpleP P) : Late fun M => Gen (hM M) P := by
  have : Late fun M => ∀ i, i < P.n → ∀ j, j < P.n → (i ≠ j → (hM M).ev (P.v i) ≠ (hM M).ev (P.v j)) := by
    refine Late.all fun i hi => Late.all fun j hj => ?_
    by_cases hij : i = j
    · exact Late.of fun M _ hne => absurd hij hne
    refine ⟨((P.v i).1 - (P.v j).1).natAbs + 1, fun M hM h0 _ e => ?_⟩
    have hne := h.inj hi hj hij
    have e : 1 * (P.v i).1 + M * (P.v i).2 + 0 = 1 * (P.v j).1 + M * (P.v j).2 + 0 := e
    have e1 : M * ((P.v i).2 - (P.v j).2) = (P.v j).1 - (P.v i).1 := by rw [Int.mul_sub]; omega
    rcases (show (P.v i).2 - (P.v j).2 = 0 ∨ 1 ≤ (P.v i).2 - (P.v j).2 ∨ (P.v i).2 - (P.v j).2 ≤ -1 by omega) with g | g | g
    · rw [g, Int.mul_zero] at e1
      exact hne (Prod.ext (by omega) (by omega))
    · have := (mul_lt_iff (m := 1) (n := (P.v i).2 - (P.v j).2) h0).2.2 g; omega
    · have := (mul_lt_iff (m := (P.v i).2 - (P.v j).2) (n := -1) h0).2.2 g; omega
  exact this.imp fun M _ h i j hi hj => h i hi j hj
theorem Gen.rot {h : Aff} {P : Poly} (hg : Gen h P) (s : Nat) : Gen h (P.rot s) := by
  intro i j hi hj hij
  have hi : i < P.n := hi
  have hj : j < P.n := hj
  have red : ∀ x, P.v x = P.v (x % P.n) := fun x => by
    have key : ∀ q r, P.v (r + q * P.n) = P.v r := fun q r => by
      induction q with
      | zero => simp
      | succ q ih => rw [Nat.succ_mul, ← Nat.add_assoc, P.per, ih]
    have := key (x / P.n) (x % P.n)
    rw [show x % P.n + x / P.n * P.n = x by rw [Nat.mul_comm]; exact Nat.mod_add_div x P.n] at this
    exact this
  show h.ev (P.v (s + i)) ≠ h.ev (P.v (s + j))
  rw [red (s + i), red (s + j)]
  refine hg _ _ (Nat.mod_lt _ (by omega)) (Nat.mod_lt _ (by omega)) fun e => hij ?_
  have key : ∀ {i j : Nat}, i ≤ j → j < P.n → (s + i) % P.n = (s + j) % P.n → i = j := by
    intro i j hle hj e
    have h1 := Nat.sub_mod_eq_zero_of_mod_eq e.symm
    rw [show s + j - (s + i) = j - i by omega, Nat.mod_eq_of_lt (by omega)] at h1
    omega
  rcases (show i ≤ j ∨ j ≤ i by omega) with h1 | h1
  · exact key h1 hj e
  · exact (key h1 hi e.symm).symm
theorem Gen.arc {h : Aff} {P : Poly} (hg : Gen h P) {m : Nat} (hm : m < P.n) : Gen h (P.arc m) := by
  intro i j hi hj hij
  have hi : i < m + 1 := hi
  have hj : j < m + 1 := hj
  rw [arc_v P (by omega), arc_v P (by omega)]
  exact hg i j (by omega) (by omega) hij
/-! ### Apart, or a point in common -/
/-- A point in common, as two means. -/
def Meet (a b q r : Pt) : Prop := ∃ s t s' t' : Int, 0 ≤ s ∧ 0 ≤ t ∧ 0 ≤ s' ∧ 0 ≤ t' ∧ 0 < s + t ∧ s + t = s' + t' ∧ ∀ f : Aff, s * f.ev a + t * f.ev b = s' * f.ev q + t' * f.ev r
theorem mean_of {s t c : Int} {a b p : Pt} (h1 : c * p.1 = s * a.1 + t * b.1) (h2 : c * p.2 = s * a.2 + t * b.2) (hc : c = s + t) (f : Aff) : c * f.ev p = s * f.ev a + t * f.ev b := by
  subst hc; exact on_ev h1 h2 f
/-- On the line through a and b: a mean by dots. -/
theorem line_mean {a b p : Pt} (ht : turnZ a b p = 0) (f : Aff) : ((b.1 - a.1) * (b.1 - a.1) + (b.2 - a.2) * (b.2 - a.2)) * f.ev p = (-(dotZ a b p)) * f.ev a + (((b.1 - a.1) * (b.1 - a.1) + (b.2 - a.2) * (b.2 - a.2)) + dotZ a b p) * f.ev b := by
  have e : ((b.1 - a.1) * (b.1 - a.1) + (b.2 - a.2) * (b.2 - a.2)) * f.ev p = (-(dotZ a b p)) * f.ev a + (((b.1 - a.1) * (b.1 - a.1) + (b.2 - a.2) * (b.2 - a.2)) + dotZ a b p) * f.ev b + turnZ a b p * (f.v * (b.1 - a.1) - f.u * (b.2 - a.2)) := by unfold turnZ dotZ Aff.ev; grind
  rw [e, ht, Int.zero_mul, Int.add_zero]
theorem part_or_meet {a b : Pt} (q r : Pt) (hab : a ≠ b) : Part a b q r ∨ Meet a b q r := by
  have E0 := tid a b q r
  have tqq : turnZ q r q = 0 := by unfold turnZ; grind
  have trr : turnZ q r r = 0 := by unfold turnZ; grind
  by_cases h1 : 0 < turnZ q r a ∧ 0 < turnZ q r b
  · exact .inl ⟨Aff.turn q r, by rw [ev_turn]; omega, by rw [ev_turn]; omega, by rw [ev_turn]; omega, by rw [ev_turn]; omega⟩
  by_cases h2 : turnZ q r a < 0 ∧ turnZ q r b < 0
  · exact .inl ⟨Aff.lc (-1) (Aff.turn q r) 0 (Aff.turn q r) 0, by rw [ev_lc, ev_turn]; omega, by rw [ev_lc, ev_turn]; omega, by rw [ev_lc, ev_turn]; omega, by rw [ev_lc, ev_turn]; omega⟩
  by_cases h3 : 0 < turnZ a b q ∧ 0 < turnZ a b r
  · exact .inl (part_turn (m := 1) (.inl rfl) (by omega) (by omega))
  by_cases h4 : turnZ a b q < 0 ∧ turnZ a b r < 0
  · exact .inl (part_turn (m := -1) (.inr rfl) (by omega) (by omega))
  rcases (show turnZ q r a < turnZ q r b ∨ turnZ q r b < turnZ q r a ∨ turnZ q r a = turnZ q r b by omega) with h5 | h5 | h5
  · refine .inr ⟨turnZ q r b, -turnZ q r a, -turnZ a b r, turnZ a b q, by omega, by omega, by omega, by omega, by omega, by omega, fun f => ?_⟩
    have := aid f a b q r
    rw [Int.neg_mul, Int.neg_mul]; omega
  · refine .inr ⟨-turnZ q r b, turnZ q r a, turnZ a b r, -turnZ a b q, by omega, by omega, by omega, by omega, by omega, by omega, fun f => ?_⟩
    have := aid f a b q r
    rw [Int.neg_mul, Int.neg_mul]; omega
  · -- all on one line
    have hq : turnZ a b q = 0 := by omega
    have hr : turnZ a b r = 0 := by omega
    have hsq := sq_pos hab
    generalize hN : (b.1 - a.1) * (b.1 - a.1) + (b.2 - a.2) * (b.2 - a.2) = N at hsq
    have mq := line_mean hq
    have mr := line_mean hr
    rw [hN] at mq mr
    have da : dotZ a b a = -N := by rw [← hN]; unfold dotZ; grind
    have db : dotZ a b b = 0 := by unfold dotZ; grind
    generalize hx : dotZ a b q = x at mq
    generalize hy : dotZ a b r = y at mr
    by_cases c1 : 0 < x ∧ 0 < y
    · exact .inl ⟨Aff.lc (-2) (Aff.dot a b) 0 (Aff.dot a b) 1, by rw [ev_lc, ev_dot, da]; omega, by rw [ev_lc, ev_dot, db]; omega, by rw [ev_lc, ev_dot, hx]; omega, by rw [ev_lc, ev_dot, hy]; omega⟩
    by_cases c2 : x < -N ∧ y < -N
    · exact .inl ⟨Aff.lc 1 (Aff.dot a b) 0 (Aff.dot a b) (N + 1), by rw [ev_lc, ev_dot, da]; omega, by rw [ev_lc, ev_dot, db]; omega, by rw [ev_lc, ev_dot, hx]; omega, by rw [ev_lc, ev_dot, hy]; omega⟩
    refine .inr ?_
    by_cases c3 : -N ≤ x ∧ x ≤ 0
    · exact ⟨-x, N + x, N, 0, by omega, by omega, by omega, by omega, by omega, by omega, fun f => by rw [mq f]; omega⟩
    by_cases c4 : -N ≤ y ∧ y ≤ 0
    · exact ⟨-y, N + y, 0, N, by omega, by omega, by omega, by omega, by omega, by omega, fun f => by rw [mr f]; omega⟩
    rcases (show (0 < x ∧ y < -N) ∨ (x < -N ∧ 0 < y) by omega) with ⟨c5, c6⟩ | ⟨c5, c6⟩
    · refine ⟨0, x - y, -y, x, by omega, by omega, by omega, by omega, by omega, by omega, fun f => ?_⟩
      have e1 := mq f
      have e2 := mr f
      have hN0 : N ≠ 0 := by omega
      refine Int.eq_of_mul_eq_mul_left hN0 ?_
      have : N * (-y * f.ev q + x * f.ev r) = -y * (N * f.ev q) + x * (N * f.ev r) := by grind
      rw [this, e1, e2]; grind
    · refine ⟨0, y - x, y, -x, by omega, by omega, by omega, by omega, by omega, by omega, fun f => ?_⟩
      have e1 := mq f
      have e2 := mr f
      have hN0 : N ≠ 0 := by omega
      refine Int.eq_of_mul_eq_mul_left hN0 ?_
      have : N * (y * f.ev q + -x * f.ev r) = y * (N * f.ev q) + -x * (N * f.ev r) := by grind
      rw [this, e1, e2]; grind
/-- A mean of a and b. -/
def OnM (p a b : Pt) : Prop := ∃ s t : Int, 0 ≤ s ∧ 0 ≤ t ∧ 0 < s + t ∧ ∀ f : Aff, (s + t) * f.ev p = s * f.ev a + t * f.ev b
theorem off_or_on {a b : Pt} (p : Pt) (hab : a ≠ b) : Off p a b ∨ OnM p a b := by
  rcases part_or_meet p p hab with h | ⟨s, t, s', t', h1, h2, h3, h4, h5, h6, h7⟩
  · obtain ⟨f, fa, fb, fp, _⟩ := h
    exact .inl ⟨Aff.lc 2 f 0 f (-1), by rw [ev_lc]; omega, by rw [ev_lc]; omega, by rw [ev_lc]; omega⟩
  · exact .inr ⟨s, t, h1, h2, h5, fun f => by rw [h7 f, h6, Int.add_mul]⟩
theorem OnM.not_off {p a b : Pt} (h : OnM p a b) : ¬ Off p a b := by
  obtain ⟨s, t, hs, ht, h0, h⟩ := h
  rintro ⟨f, fa, fb, fp⟩
  have e := h f
  have g1 := pm h0 fp
  have g2 := nn0 hs (show 0 ≤ f.ev a by omega)
  have g3 := nn0 ht (show 0 ≤ f.ev b by omega)
  omega
theorem Meet.not_part {a b q r : Pt} (h : Meet a b q r) : ¬ Part a b q r := by
  obtain ⟨s, t, s', t', h1, h2, h3, h4, h5, h6, h7⟩ := h
  rintro ⟨f, fa, fb, fq, fr⟩
  have e := h7 f
  have g1 := pm0 h3 fq
  have g2 := pm0 h4 fr
  rcases (show 0 < s ∨ 0 < t by omega) with h | h
  · have := pp h fa
    have := nn0 h2 (show 0 ≤ f.ev b by omega)
    omega
  · have := pp h fb
    have := nn0 h1 (show 0 ≤ f.ev a by omega)
    omega
/-! ### Inside a triangle -/
theorem bary (f : Aff) (a b c x : Pt) : turnZ a b c * f.ev x = turnZ b c x * f.ev a + turnZ c a x * f.ev b + turnZ a b x * f.ev c := by unfold turnZ Aff.ev; grind
/-- Leaving a triangle a, v, b over its sides a v, v b: from y (at scale w) to p, staying above the side b a. -/
theorem leave {a v b : Pt} {τ : Int} (hτ : τ = turnZ a v b) (hτ0 : 0 < τ) {α β γ αp βp γp : Int} {Y : Aff → Int} {p : Pt}
    (hY : ∀ f : Aff, τ * Y f = α * f.ev a + β * f.ev b + γ * f.ev v) (eα : αp = turnZ v b p) (eβ : βp = turnZ a v p) (eγ : γp = turnZ b a p)
    (h1 : 0 ≤ α) (h2 : 0 ≤ β) (h3 : 0 ≤ γ) (h4 : 0 ≤ γp) (hout : αp < 0 ∨ βp < 0)
    (f1 : αp < 0 → ∃ f : Aff, 0 < Y f ∧ 0 < f.ev p ∧ f.ev v ≤ 0 ∧ f.ev b ≤ 0) (f0 : βp < 0 → ∃ f : Aff, 0 < Y f ∧ 0 < f.ev p ∧ f.ev a ≤ 0 ∧ f.ev v ≤ 0) : False := by
  have hp : ∀ f : Aff, τ * f.ev p = αp * f.ev a + βp * f.ev b + γp * f.ev v := fun f => by
    have := bary f a v b p
    rw [← hτ, ← eα, ← eβ, ← eγ] at this
    omega
  -- the side v b is met first, or the side a v
  have viaα : αp < 0 → βp * α ≥ β * αp → False := by
    intro hα hc
    obtain ⟨f, fy, fp, fv, fb⟩ := f1 hα
    have e1 := hY f
    have e2 := hp f
    have e3 : τ * (-αp * Y f + α * f.ev p) = (-αp * β + α * βp) * f.ev b + (-αp * γ + α * γp) * f.ev v := by
      have : τ * (-αp * Y f + α * f.ev p) = -αp * (τ * Y f) + α * (τ * f.ev p) := by grind
      rw [this, e1, e2]; grind
    have g1 := pp (show 0 < -αp by omega) fy
    have g2 := nn0 h1 (show 0 ≤ f.ev p by omega)
    have g3 := pp hτ0 (show 0 < -αp * Y f + α * f.ev p by omega)
    have g4 : 0 ≤ -αp * β + α * βp := by rw [Int.neg_mul, Int.mul_comm αp β, Int.mul_comm α βp]; omega
    have g5 : 0 ≤ -αp * γ + α * γp := by
      have := nn0 (show 0 ≤ -αp by omega) h3
      have := nn0 h1 h4
      omega
    have g6 := pm0 g4 fb
    have g7 := pm0 g5 fv
    omega
  have viaβ : βp < 0 → βp * α ≤ β * αp → False := by
    intro hβ hc
    obtain ⟨f, fy, fp, fa, fv⟩ := f0 hβ
    have e1 := hY f
    have e2 := hp f
    have e3 : τ * (-βp * Y f + β * f.ev p) = (-βp * α + β * αp) * f.ev a + (-βp * γ + β * γp) * f.ev v := by
      have : τ * (-βp * Y f + β * f.ev p) = -βp * (τ * Y f) + β * (τ * f.ev p) := by grind
      rw [this, e1, e2]; grind
    have g1 := pp (show 0 < -βp by omega) fy
    have g2 := nn0 h2 (show 0 ≤ f.ev p by omega)
    have g3 := pp hτ0 (show 0 < -βp * Y f + β * f.ev p by omega)
    have g4 : 0 ≤ -βp * α + β * αp := by rw [Int.neg_mul]; omega
    have g5 : 0 ≤ -βp * γ + β * γp := by
      have := nn0 (show 0 ≤ -βp by omega) h3
      have := nn0 h2 h4
      omega
    have g6 := pm0 g4 fa
    have g7 := pm0 g5 fv
    omega
  rcases hout with h | h
  · rcases (show βp * α ≥ β * αp ∨ βp * α < β * αp by omega) with hc | hc
    · exact viaα h hc
    · refine viaβ ?_ (by omega)
      rcases (show βp < 0 ∨ 0 ≤ βp by omega) with g | g
      · exact g
      · exfalso
        have := nn0 g h1
        have := pm0 h2 (show αp ≤ 0 by omega)
        omega
  · rcases (show βp * α ≤ β * αp ∨ β * αp < βp * α by omega) with hc | hc
    · exact viaβ h hc
    · refine viaα ?_ (by omega)
      rcases (show αp < 0 ∨ 0 ≤ αp by omega) with g | g
      · exact g
      · exfalso
        have := mp0 (show βp ≤ 0 by omega) h1
        have := nn0 h2 g
        omega
/-! ### Chords -/
theorem OnM.vals {p a b : Pt} (h : OnM p a b) : ∃ s t : Int, 0 ≤ s ∧ 0 ≤ t ∧ 0 < s + t ∧ ∀ f : Aff, (s + t) * f.ev p = s * f.ev a + t * f.ev b := h
theorem SimpleP.ne {P : Poly} (h : SimpleP P) (k : Nat) : P.v k ≠ P.v (k + 1) := (h.bend k).1.1
/-- Corners and walls by number. -/
theorem SimpleP.offI {P : Poly} (h : SimpleP P) {i k : Nat} (hi : i < P.n) (hk : k < P.n) (h1 : k ≠ i) (h2 : k ≠ i + 1) (h3 : ¬ (i + 1 = P.n ∧ k = 0)) : Off (P.v k) (P.v i) (P.v (i + 1)) := by
  rcases (show i < k ∨ k < i by omega) with h4 | h4
  · have := h.off i (k - i) (by omega) (by omega)
    rwa [show i + (k - i) = k by omega] at this
  · have := h.off i (k + P.n - i) (by omega) (by omega)
    rwa [show i + (k + P.n - i) = k + P.n by omega, P.per] at this
theorem SimpleP.apartI {P : Poly} (h : SimpleP P) {i k : Nat} (hk : k < P.n) (h1 : i + 2 ≤ k) (h2 : ¬ (i = 0 ∧ k + 1 = P.n)) : Part (P.v i) (P.v (i + 1)) (P.v k) (P.v (k + 1)) := by
  have := h.apart i (k - i) (by omega) (by omega)
  rwa [show i + (k - i) = k by omega] at this
section
variable {P : Poly}
/-- What the lowest corner's triangle tells of a point: how far it lies inside of its sides. -/
abbrev tA (P : Poly) (x : Pt) : Int := turnZ (P.v 1) (P.v 2) x
abbrev tB (P : Poly) (x : Pt) : Int := turnZ (P.v 0) (P.v 1) x
abbrev tC (P : Poly) (x : Pt) : Int := turnZ (P.v 2) (P.v 0) x
/-- The corners in the triangle, other than its own. -/
def InT (P : Poly) (j : Nat) : Prop := 3 ≤ j ∧ j < P.n ∧ 0 ≤ tA P (P.v j) ∧ 0 ≤ tB P (P.v j) ∧ 0 ≤ tC P (P.v j)
theorem tri_vals (P : Poly) : tA P (P.v 0) = turnZ (P.v 0) (P.v 1) (P.v 2) ∧ tB P (P.v 0) = 0 ∧ tC P (P.v 0) = 0 ∧ tA P (P.v 1) = 0 ∧ tB P (P.v 1) = 0 ∧ tC P (P.v 1) = turnZ (P.v 0) (P.v 1) (P.v 2) ∧
    tA P (P.v 2) = 0 ∧ tB P (P.v 2) = turnZ (P.v 0) (P.v 1) (P.v 2) ∧ tC P (P.v 2) = 0 := by
  unfold tA tB tC turnZ
  refine ⟨?_, ?_, ?_, ?_, ?_, ?_, ?_, ?_, ?_⟩ <;> grind
theorem bary0 (P : Poly) (f : Aff) (x : Pt) : turnZ (P.v 0) (P.v 1) (P.v 2) * f.ev x = tA P x * f.ev (P.v 0) + tC P x * f.ev (P.v 1) + tB P x * f.ev (P.v 2) := bary f _ _ _ x
theorem InT.pos (h : SimpleP P) (hτ : 0 < turnZ (P.v 0) (P.v 1) (P.v 2)) {j : Nat} (hj : InT P j) : 0 < tA P (P.v j) ∧ 0 < tB P (P.v j) := by
  obtain ⟨h3, hn, ha, hb, hc⟩ := hj
  constructor
  · rcases (show 0 < tA P (P.v j) ∨ tA P (P.v j) = 0 by omega) with g | g
    · exact g
    · exfalso
      obtain ⟨f, fa, fb, fp⟩ := h.offI (i := 1) (k := j) (by omega) hn (by omega) (by omega) (by omega)
      have e := bary0 P f (P.v j)
      rw [g, Int.zero_mul] at e
      have g1 := pm hτ fp
      have g2 := nn0 hc (show 0 ≤ f.ev (P.v 1) by omega)
      have g3 := nn0 hb (show 0 ≤ f.ev (P.v 2) from Int.le_of_lt fb)
      omega
  · rcases (show 0 < tB P (P.v j) ∨ tB P (P.v j) = 0 by omega) with g | g
    · exact g
    · exfalso
      obtain ⟨f, fa, fb, fp⟩ := h.offI (i := 0) (k := j) (by omega) hn (by omega) (by omega) (by omega)
      have e := bary0 P f (P.v j)
      rw [g, Int.zero_mul] at e
      have g1 := pm hτ fp
      have g2 := nn0 hc (show 0 ≤ f.ev (P.v 1) from Int.le_of_lt fb)
      have g3 := nn0 ha (show 0 ≤ f.ev (P.v 0) by omega)
      omega
/-- A wall that has a point in the triangle, higher up than all corners in it, cannot be. -/
theorem no_wall (h : SimpleP P) (h4 : 4 ≤ P.n) (hτ : 0 < turnZ (P.v 0) (P.v 1) (P.v 2)) {c : Int} {i : Nat} (hi2 : 2 ≤ i) (hi : i < P.n) (hc : 0 ≤ c ∨ (3 ≤ i ∧ i + 1 < P.n)) {s t : Int} (hs : 0 ≤ s) (ht : 0 ≤ t) (hst : 0 < s + t)
    (ya : 0 ≤ s * tA P (P.v i) + t * tA P (P.v (i + 1))) (yb : 0 ≤ s * tB P (P.v i) + t * tB P (P.v (i + 1))) (hyc : 0 ≤ s * tC P (P.v i) + t * tC P (P.v (i + 1))) (yc : c * (s + t) < s * tC P (P.v i) + t * tC P (P.v (i + 1))) (hcm : -1 ≤ c)
    (hmax : ∀ k, InT P k → tC P (P.v k) ≤ c) : False := by
  obtain ⟨v1, v2, v3, v4, v5, v6, v7, v8, v9⟩ := tri_vals P
  have hpn : P.v (i + 1) = P.v (if i + 1 = P.n then 0 else i + 1) := by
    split
    · rename_i e; rw [e]; have := P.per 0; rwa [Nat.zero_add] at this
    · rfl
  -- the separations of this wall from the sides at the corner
  have sep1 : i ≠ 2 → ∃ f : Aff, 0 < f.ev (P.v i) ∧ 0 < f.ev (P.v (i + 1)) ∧ f.ev (P.v 1) ≤ 0 ∧ f.ev (P.v 2) ≤ 0 := fun h2 => (h.apartI (i := 1) (k := i) hi (by omega) (by omega)).symm
  have sep0 : i + 1 ≠ P.n → ∃ f : Aff, 0 < f.ev (P.v i) ∧ 0 < f.ev (P.v (i + 1)) ∧ f.ev (P.v 0) ≤ 0 ∧ f.ev (P.v 1) ≤ 0 := fun h2 => (h.apartI (i := 0) (k := i) hi (by omega) (by omega)).symm
  -- one end is that high
  have fin : ∀ p, (p = i ∨ p = i + 1) → c < tC P (P.v p) → False := by
    intro p hp hcp
    have hout : tA P (P.v p) < 0 ∨ tB P (P.v p) < 0 := by
      rcases (show tA P (P.v p) < 0 ∨ tB P (P.v p) < 0 ∨ (0 ≤ tA P (P.v p) ∧ 0 ≤ tB P (P.v p)) by omega) with g | g | ⟨g1, g2⟩
      · exact .inl g
      · exact .inr g
      · exfalso
        have key : ∀ k, k < P.n → k ≠ 1 → (0 ≤ c ∨ 3 ≤ k) → P.v p = P.v k → False := by
          intro k hk hk1 hk3 e
          rw [e] at hcp g1 g2
          rcases (show k = 0 ∨ k = 2 ∨ 3 ≤ k by omega) with rfl | rfl | h3
          · omega
          · omega
          · have := hmax k ⟨h3, hk, g1, g2, by omega⟩; omega
        rcases hp with rfl | rfl
        · exact key p hi (by omega) (hc.imp id fun h => h.1) rfl
        · rw [hpn] at key
          split at key
          · rename_i e; exact key 0 (by omega) (by omega) (.inl (hc.resolve_right fun h => absurd e (Nat.ne_of_lt h.2))) rfl
          · exact key (i + 1) (by omega) (by omega) (hc.imp id fun h => Nat.le_succ_of_le h.1) rfl
    have fpos : ∀ f : Aff, 0 < f.ev (P.v i) → 0 < f.ev (P.v (i + 1)) → 0 < s * f.ev (P.v i) + t * f.ev (P.v (i + 1)) ∧ 0 < f.ev (P.v p) := by
      intro f h1 h2
      refine ⟨?_, by rcases hp with rfl | rfl <;> assumption⟩
      rcases (show 0 < s ∨ 0 < t by omega) with g | g
      · have := pp g h1; have := nn0 ht (show 0 ≤ f.ev (P.v (i + 1)) by omega); omega
      · have := pp g h2; have := nn0 hs (show 0 ≤ f.ev (P.v i) by omega); omega
    refine leave (a := P.v 0) (v := P.v 1) (b := P.v 2) (p := P.v p) (Y := fun f => s * f.ev (P.v i) + t * f.ev (P.v (i + 1))) rfl hτ (fun f => ?_) rfl rfl rfl ya yb hyc (show 0 ≤ tC P (P.v p) by omega) hout (fun hneg => ?_) (fun hneg => ?_)
    · have e1 := bary0 P f (P.v i)
      have e2 := bary0 P f (P.v (i + 1))
      have : turnZ (P.v 0) (P.v 1) (P.v 2) * (s * f.ev (P.v i) + t * f.ev (P.v (i + 1))) = s * (turnZ (P.v 0) (P.v 1) (P.v 2) * f.ev (P.v i)) + t * (turnZ (P.v 0) (P.v 1) (P.v 2) * f.ev (P.v (i + 1))) := by grind
      rw [this, e1, e2]; grind
    · -- over the side from 1 to 2
      by_cases e2 : i = 2
      · exfalso
        subst e2
        rw [v7, Int.mul_zero, Int.zero_add] at ya
        rw [v9, Int.mul_zero, Int.zero_add] at yc
        have hneg' : tA P (P.v 3) < 0 := by
          rcases hp with rfl | rfl
          · have h9 : tA P (P.v 2) < 0 := hneg
            omega
          · exact hneg
        rcases (show t = 0 ∨ 0 < t by omega) with g | g
        · subst g
          have := nn0 (hc.resolve_right fun h => absurd h.1 (by decide)) (show 0 ≤ s + 0 by omega); omega
        · have := pm g hneg'; have ya : 0 ≤ t * tA P (P.v 3) := ya; omega
      · obtain ⟨f, q1, q2, q3, q4⟩ := sep1 e2
        exact ⟨f, (fpos f q1 q2).1, (fpos f q1 q2).2, q3, q4⟩
    · by_cases e2 : i + 1 = P.n
      · exfalso
        have e0 : P.v (i + 1) = P.v 0 := by rw [hpn, if_pos e2]
        rw [e0, v2, Int.mul_zero, Int.add_zero] at yb
        rw [e0, v3, Int.mul_zero, Int.add_zero] at yc
        have hneg' : tB P (P.v i) < 0 := by
          rcases hp with rfl | rfl
          · exact hneg
          · have h9 : tB P (P.v (i + 1)) < 0 := hneg
            rw [e0] at h9; omega
        rcases (show s = 0 ∨ 0 < s by omega) with g | g
        · subst g
          have := nn0 (hc.resolve_right fun h => absurd e2 (Nat.ne_of_lt h.2)) (show 0 ≤ 0 + t by omega); omega
        · have := pm g hneg'; omega
      · obtain ⟨f, q1, q2, q3, q4⟩ := sep0 e2
        exact ⟨f, (fpos f q1 q2).1, (fpos f q1 q2).2, q3, q4⟩
  rcases (show c < tC P (P.v i) ∨ c < tC P (P.v (i + 1)) ∨ (tC P (P.v i) ≤ c ∧ tC P (P.v (i + 1)) ≤ c) by omega) with g | g | ⟨g1, g2⟩
  · exact fin i (.inl rfl) g
  · exact fin (i + 1) (.inr rfl) g
  · have := Int.mul_le_mul_of_nonneg_left g1 hs
    have := Int.mul_le_mul_of_nonneg_left g2 ht
    rw [Int.mul_add, Int.mul_comm c s, Int.mul_comm c t] at yc
    omega
end
/-! ### A chord at the lowest corner -/
theorem off_ne {p a b : Pt} (h : Off p a b) : p ≠ b := by
  rintro rfl; obtain ⟨f, fa, fb, fp⟩ := h; omega
theorem Bends.symm {a b z : Pt} (h : Bends a b z) (hz : z ≠ b) : Bends z b a := by
  refine ⟨hz, ?_⟩
  have e1 : turnZ z b a = - turnZ a b z := by unfold turnZ; grind
  have e2 : dotZ z b a = dotZ a b z := by unfold dotZ; grind
  rw [e1, e2]
  have := h.2
  omega
/-- Where neither a lies on b p nor p on a b, the way from a over b to p does not turn back. -/
theorem bends_of {a b p : Pt} (h1 : Off p a b) (h2 : Off a p b) : Bends a b p := by
  have hab : a ≠ b := off_ne h2
  refine ⟨hab, ?_⟩
  rcases (show turnZ a b p ≠ 0 ∨ 0 < dotZ a b p ∨ (turnZ a b p = 0 ∧ dotZ a b p ≤ 0) by omega) with g | g | ⟨g1, g2⟩
  · exact .inl g
  · exact .inr g
  · exfalso
    have hN := sq_pos hab
    have m := line_mean g1
    generalize hNN : (b.1 - a.1) * (b.1 - a.1) + (b.2 - a.2) * (b.2 - a.2) = N at hN m
    generalize dotZ a b p = x at m g2
    rcases (show 0 ≤ N + x ∨ N + x < 0 by omega) with c | c
    · obtain ⟨f, fa, fb, fp⟩ := h1
      have e := m f
      have k1 := pm hN fp
      have k2 := nn0 (show 0 ≤ -x by omega) (show 0 ≤ f.ev a by omega)
      have k3 := nn0 c (show 0 ≤ f.ev b by omega)
      omega
    · obtain ⟨f, fp, fb, fa⟩ := h2
      have e := m f
      have k1 := pp hN fp
      have k2 := pm (show 0 < -x by omega) fa
      have k3 := mp c fb
      omega
theorem Chord.mk' {P : Poly} (h : SimpleP P) {m : Nat} (m2 : 2 ≤ m) (mn : m + 2 ≤ P.n) (off : ∀ j, 0 < j → j < P.n → j ≠ m → Off (P.v j) (P.v 0) (P.v m))
    (apart : ∀ j, 0 < j → j + 1 < P.n → j ≠ m → j + 1 ≠ m → Part (P.v j) (P.v (j + 1)) (P.v 0) (P.v m)) : Chord P m := by
  have e0 : P.v P.n = P.v 0 := by have := P.per 0; rwa [Nat.zero_add] at this
  have o1 := off 1 (by omega) (by omega) (by omega)
  have o2 := off (P.n - 1) (by omega) (by omega) (by omega)
  have o3 := off (m - 1) (by omega) (by omega) (by omega)
  have o4 := off (m + 1) (by omega) (by omega) (by omega)
  have w1 : Off (P.v m) (P.v 0) (P.v 1) := h.offI (by omega) (by omega) (by omega) (by omega) (by omega)
  have w2 : Off (P.v m) (P.v (P.n - 1)) (P.v 0) := by
    have := h.offI (i := P.n - 1) (k := m) (by omega) (by omega) (by omega) (by omega) (by omega)
    rwa [show P.n - 1 + 1 = P.n by omega, e0] at this
  have w3 : Off (P.v 0) (P.v (m - 1)) (P.v m) := by
    have := h.offI (i := m - 1) (k := 0) (by omega) (by omega) (by omega) (by omega) (by omega)
    rwa [show m - 1 + 1 = m by omega] at this
  have w4 : Off (P.v 0) (P.v m) (P.v (m + 1)) := h.offI (by omega) (by omega) (by omega) (by omega) (by omega)
  exact ⟨m2, mn, off, apart, ⟨⟨bends_of o1.swap w1.swap, bends_of w1.swap o1.swap⟩, bends_of o2.swap w2, bends_of w2 o2.swap⟩, ⟨⟨bends_of o3 w3, bends_of w3 o3⟩, bends_of o4 w4.swap, bends_of w4.swap o4⟩⟩
theorem ex_max (p : Nat → Prop) (f : Nat → Int) (n : Nat) (hb : ∀ k, p k → k < n) (he : ∃ k, p k) : ∃ k, p k ∧ ∀ j, p j → f j ≤ f k := by
  induction n generalizing p with
  | zero => obtain ⟨k, hk⟩ := he; exact absurd (hb k hk) (by omega)
  | succ n ih =>
    by_cases h1 : ∃ k, p k ∧ k < n
    · obtain ⟨k, ⟨hk, hkn⟩, hm⟩ := ih (fun k => p k ∧ k < n) (fun k h => h.2) h1
      by_cases h2 : p n ∧ f k < f n
      · refine ⟨n, h2.1, fun j hj => ?_⟩
        rcases (show j < n ∨ j = n by have := hb j hj; omega) with g | rfl
        · have := hm j ⟨hj, g⟩; omega
        · omega
      · refine ⟨k, hk, fun j hj => ?_⟩
        rcases (show j < n ∨ j = n by have := hb j hj; omega) with g | rfl
        · exact hm j ⟨hj, g⟩
        · have : ¬ f k < f j := fun h => h2 ⟨hj, h⟩
          omega
    · obtain ⟨k, hk⟩ := he
      have : ∀ j, p j → j = n := fun j hj => by
        have := hb j hj
        have : ¬ j < n := fun g => h1 ⟨j, hj, g⟩
        omega
      refine ⟨k, hk, fun j hj => ?_⟩
      rw [this j hj, this k hk]; omega
theorem tri_sum (P : Poly) (x : Pt) : tA P x + tB P x + tC P x = turnZ (P.v 0) (P.v 1) (P.v 2) := by unfold tA tB tC turnZ; grind
theorem Meet.vals {a b q r : Pt} {s t s' t' : Int} (h : ∀ f : Aff, s * f.ev a + t * f.ev b = s' * f.ev q + t' * f.ev r) (x y : Pt) : s * turnZ x y a + t * turnZ x y b = s' * turnZ x y q + t' * turnZ x y r := by
  have := h (Aff.turn x y); simpa only [ev_turn] using this
theorem OnM.turns {s t : Int} {p a b : Pt} (h : ∀ f : Aff, (s + t) * f.ev p = s * f.ev a + t * f.ev b) (x y : Pt) : (s + t) * turnZ x y p = s * turnZ x y a + t * turnZ x y b := by
  have := h (Aff.turn x y); simpa only [ev_turn] using this
/-- No corner in the triangle: its third side is a chord. -/
theorem chord_tri {P : Poly} (h : SimpleP P) (h4 : 4 ≤ P.n) (hτ : 0 < turnZ (P.v 0) (P.v 1) (P.v 2)) (hno : ∀ j, ¬ InT P j) : Chord P 2 := by
  obtain ⟨v1, v2, v3, v4, v5, v6, v7, v8, v9⟩ := tri_vals P
  have h02 : P.v 0 ≠ P.v 2 := h.inj (by omega) (by omega) (by omega)
  refine Chord.mk' h (by omega) (by omega) (fun j h1 h2 h3 => ?_) (fun j h1 h2 h3 h5 => ?_)
  · rcases off_or_on (P.v j) h02 with g | ⟨s, t, hs, ht, hst, g⟩
    · exact g
    · exfalso
      rcases (show j = 1 ∨ 3 ≤ j by omega) with rfl | hj
      · have e := OnM.turns g (P.v 2) (P.v 0)
        have e : (s + t) * tC P (P.v 1) = s * tC P (P.v 0) + t * tC P (P.v 2) := e
        rw [v6, v3, v9, Int.mul_zero, Int.mul_zero] at e
        have := pp hst hτ
        omega
      · have eA : (s + t) * tA P (P.v j) = s * tA P (P.v 0) + t * tA P (P.v 2) := OnM.turns g _ _
        have eB : (s + t) * tB P (P.v j) = s * tB P (P.v 0) + t * tB P (P.v 2) := OnM.turns g _ _
        have eC : (s + t) * tC P (P.v j) = s * tC P (P.v 0) + t * tC P (P.v 2) := OnM.turns g _ _
        rw [v1, v7, Int.mul_zero, Int.add_zero] at eA
        rw [v2, v8, Int.mul_zero, Int.zero_add] at eB
        rw [v3, v9, Int.mul_zero, Int.mul_zero] at eC
        have nonneg : ∀ {x y : Int}, (s + t) * x = y → 0 ≤ y → 0 ≤ x := fun {x y} e hy => by
          rcases (show 0 ≤ x ∨ x < 0 by omega) with g | g
          · exact g
          · have := pm hst g; omega
        exact hno j ⟨hj, h2, nonneg eA (nn0 hs (by omega)), nonneg eB (nn0 ht (by omega)), nonneg eC (by omega)⟩
  · have hjj : P.v j ≠ P.v (j + 1) := h.ne j
    rcases part_or_meet (P.v 0) (P.v 2) hjj with g | ⟨s, t, s', t', hs, ht, hs', ht', hst, hst', g⟩
    · exact g
    · exfalso
      have eA : s * tA P (P.v j) + t * tA P (P.v (j + 1)) = s' * tA P (P.v 0) + t' * tA P (P.v 2) := Meet.vals g _ _
      have eB : s * tB P (P.v j) + t * tB P (P.v (j + 1)) = s' * tB P (P.v 0) + t' * tB P (P.v 2) := Meet.vals g _ _
      have eC : s * tC P (P.v j) + t * tC P (P.v (j + 1)) = s' * tC P (P.v 0) + t' * tC P (P.v 2) := Meet.vals g _ _
      rw [v1, v7, Int.mul_zero, Int.add_zero] at eA
      rw [v2, v8, Int.mul_zero, Int.zero_add] at eB
      rw [v3, v9, Int.mul_zero, Int.mul_zero] at eC
      have := nn0 hs' (show 0 ≤ turnZ (P.v 0) (P.v 1) (P.v 2) by omega)
      have := nn0 ht' (show 0 ≤ turnZ (P.v 0) (P.v 1) (P.v 2) by omega)
      exact no_wall h h4 hτ (c := -1) (i := j) (by omega) (by omega) (.inr ⟨by omega, by omega⟩) hs ht hst (by omega) (by omega) (by omega) (by omega) (by omega) fun k hk => absurd hk (hno k)
/-- The corner in the triangle that is farthest in is at the other end of a chord. -/
theorem chord_in {P : Poly} (h : SimpleP P) (h4 : 4 ≤ P.n) (hτ : 0 < turnZ (P.v 0) (P.v 1) (P.v 2)) {j : Nat} (hj : InT P j) (hmax : ∀ k, InT P k → tC P (P.v k) ≤ tC P (P.v j)) : Chord (P.rot 1) (j - 1) := by
  obtain ⟨v1, v2, v3, v4, v5, v6, v7, v8, v9⟩ := tri_vals P
  obtain ⟨pA, pB⟩ := hj.pos h hτ
  obtain ⟨hj3, hjn, hja, hjb, hjc⟩ := id hj
  have hsum := tri_sum P (P.v j)
  have h1j : P.v 1 ≠ P.v j := h.inj (by omega) (by omega) (by omega)
  have e0 : P.v P.n = P.v 0 := by have := P.per 0; rwa [Nat.zero_add] at this
  have r : ∀ k, (P.rot 1).v k = P.v (k + 1) := fun k => by show P.v (1 + k) = _; rw [Nat.add_comm]
  refine Chord.mk' (h.rot 1) (by omega) (by show j - 1 + 2 ≤ P.n; omega) (fun k h1 h2 h3 => ?_) (fun k h1 h2 h3 h5 => ?_)
  · have h2 : k < P.n := h2
    rw [r, r, r, show j - 1 + 1 = j by omega, Nat.zero_add]
    suffices H : ∀ i, i < P.n → i ≠ 1 → i ≠ j → Off (P.v i) (P.v 1) (P.v j) by
      rcases (show k + 1 < P.n ∨ k + 1 = P.n by omega) with g | g
      · exact H _ g (by omega) (by omega)
      · rw [g, e0]; exact H 0 (by omega) (by omega) (by omega)
    intro i hi hi1 hij
    rcases off_or_on (P.v i) h1j with g | ⟨s, t, hs, ht, hst, g⟩
    · exact g
    · exfalso
      have eA : (s + t) * tA P (P.v i) = s * tA P (P.v 1) + t * tA P (P.v j) := OnM.turns g _ _
      have eB : (s + t) * tB P (P.v i) = s * tB P (P.v 1) + t * tB P (P.v j) := OnM.turns g _ _
      have eC : (s + t) * tC P (P.v i) = s * tC P (P.v 1) + t * tC P (P.v j) := OnM.turns g _ _
      rw [v4, Int.mul_zero, Int.zero_add] at eA
      rw [v5, Int.mul_zero, Int.zero_add] at eB
      rw [v6] at eC
      have q1 := nn0 hs (show 0 ≤ turnZ (P.v 0) (P.v 1) (P.v 2) by omega)
      have q2 := nn0 ht hjc
      have nonneg : ∀ {x y : Int}, (s + t) * x = y → 0 ≤ y → 0 ≤ x := fun {x y} e hy => by
        rcases (show 0 ≤ x ∨ x < 0 by omega) with g | g
        · exact g
        · have := pm hst g; omega
      have s0 : s = 0 ∨ 0 < s := by omega
      have t0 : t = 0 ∨ 0 < t := by omega
      rcases (show i = 0 ∨ i = 2 ∨ 3 ≤ i by omega) with rfl | rfl | hi3
      · rw [v2, Int.mul_zero] at eB
        rw [v3, Int.mul_zero] at eC
        rcases t0 with rfl | t0
        · have := pp (show 0 < s by omega) hτ; omega
        · have := pp t0 pB; omega
      · rw [v7, Int.mul_zero] at eA
        rw [v9, Int.mul_zero] at eC
        rcases t0 with rfl | t0
        · have := pp (show 0 < s by omega) hτ; omega
        · have := pp t0 pA; omega
      · have := hmax i ⟨hi3, hi, nonneg eA (nn0 ht (by omega)), nonneg eB (nn0 ht (by omega)), nonneg eC (by omega)⟩
        have q3 := Int.mul_le_mul_of_nonneg_left this (show 0 ≤ s + t by omega)
        rw [eC, Int.add_mul] at q3
        rcases s0 with rfl | s0
        · have hne := h.inj hi hjn hij
          apply hne
          have e1 := g ⟨1, 0, 0⟩
          have e2 := g ⟨0, 1, 0⟩
          simp only [Aff.ev, Int.one_mul, Int.zero_mul, Int.zero_add, Int.add_zero] at e1 e2
          have ht0 : t ≠ 0 := by omega
          exact Prod.ext (Int.eq_of_mul_eq_mul_left ht0 e1) (Int.eq_of_mul_eq_mul_left ht0 e2)
        · have q4 : 0 < s * (turnZ (P.v 0) (P.v 1) (P.v 2) - tC P (P.v j)) := pp s0 (by omega)
          rw [Int.mul_sub] at q4
          omega
  · have h2 : k + 1 < P.n := h2
    rw [r, r, r, r, show j - 1 + 1 = j by omega, Nat.zero_add]
    have hi2 : 2 ≤ k + 1 := by omega
    have hin : k + 1 < P.n := h2
    have hne1 : j ≠ k + 1 := by omega
    have hne2 : j ≠ k + 1 + 1 := by omega
    generalize k + 1 = i at *
    rcases part_or_meet (P.v 1) (P.v j) (h.ne i) with g | ⟨s, t, s', t', hs, ht, hs', ht', hst, hst', g⟩
    · exact g
    · exfalso
      have eA : s * tA P (P.v i) + t * tA P (P.v (i + 1)) = s' * tA P (P.v 1) + t' * tA P (P.v j) := Meet.vals g _ _
      have eB : s * tB P (P.v i) + t * tB P (P.v (i + 1)) = s' * tB P (P.v 1) + t' * tB P (P.v j) := Meet.vals g _ _
      have eC : s * tC P (P.v i) + t * tC P (P.v (i + 1)) = s' * tC P (P.v 1) + t' * tC P (P.v j) := Meet.vals g _ _
      rw [v4, Int.mul_zero, Int.zero_add] at eA
      rw [v5, Int.mul_zero, Int.zero_add] at eB
      rw [v6] at eC
      rcases (show s' = 0 ∨ 0 < s' by omega) with rfl | s0
      · obtain ⟨f, f1, f2, f3⟩ := h.offI (i := i) (k := j) hin hjn hne1 hne2 (by omega)
        have e := g f
        rw [Int.zero_mul, Int.zero_add] at e
        have := pm (show 0 < t' by omega) f3
        have := nn0 hs (show 0 ≤ f.ev (P.v i) by omega)
        have := nn0 ht (show 0 ≤ f.ev (P.v (i + 1)) by omega)
        omega
      · have q0 := nn0 (show 0 ≤ s' by omega) (show 0 ≤ turnZ (P.v 0) (P.v 1) (P.v 2) by omega)
        have q1 := nn0 ht' hjc
        have q4 : 0 < s' * (turnZ (P.v 0) (P.v 1) (P.v 2) - tC P (P.v j)) := pp s0 (by omega)
        rw [Int.mul_sub] at q4
        have q5 : tC P (P.v j) * (s + t) = s' * tC P (P.v j) + t' * tC P (P.v j) := by rw [hst']; grind
        exact no_wall h h4 hτ (c := tC P (P.v j)) hi2 hin (.inl hjc) hs ht hst (by rw [eA]; exact nn0 ht' (by omega)) (by rw [eB]; exact nn0 ht' (by omega)) (by rw [eC]; omega) (by rw [eC, q5]; omega) (by omega) hmax
/-! ### Positive polygons: the inside is to the left -/
theorem Poly.ext' {P Q : Poly} (hn : P.n = Q.n) (hv : ∀ j, P.v j = Q.v j) : P = Q := by
  cases P; cases Q; simp only at hn hv; subst hn; obtain rfl := funext hv; rfl
theorem Poly.per_mul (P : Poly) (j q : Nat) : P.v (j + P.n * q) = P.v j := by
  induction q with
  | zero => rfl
  | succ q ih => rw [Nat.mul_succ, ← Nat.add_assoc, P.per, ih]
theorem Poly.per_mod (P : Poly) (j : Nat) : P.v (j % P.n) = P.v j := by
  have := P.per_mul (j % P.n) (j / P.n)
  rwa [Nat.mod_add_div, eq_comm] at this
theorem Poly.per_add (P : Poly) (s t : Nat) : P.v (s % P.n + t) = P.v (s + t) := by
  rw [← P.per_mod (s % P.n + t), Nat.mod_add_mod, P.per_mod]
theorem Poly.vn (P : Poly) : P.v P.n = P.v 0 := by have := P.per 0; rwa [Nat.zero_add] at this
theorem rot_rot (P : Poly) (s t : Nat) : (P.rot s).rot t = P.rot (s + t) := Poly.ext' rfl fun j => by show P.v (s + (t + j)) = P.v (s + t + j); rw [Nat.add_assoc]
theorem rot_back (P : Poly) (s : Nat) (hn : 1 ≤ P.n) : (P.rot s).rot (s * (P.n - 1)) = P := Poly.ext' rfl fun j => by
  show P.v (s + (s * (P.n - 1) + j)) = P.v j
  have : s + (s * (P.n - 1) + j) = j + P.n * s := by
    obtain ⟨m, hm⟩ : ∃ m, P.n = m + 1 := ⟨P.n - 1, by omega⟩
    rw [hm, Nat.add_sub_cancel, Nat.add_mul, Nat.one_mul, Nat.mul_comm m s]; omega
  rw [this, P.per_mul]
theorem rot_zero (P : Poly) : P.rot 0 = P := Poly.ext' rfl fun j => by show P.v (0 + j) = _; rw [Nat.zero_add]
def Poly.sc (K : Int) (P : Poly) : Poly := ⟨P.n, fun k => smul K (P.v k), fun j => by show smul K (P.v (j + P.n)) = _; rw [P.per]⟩
theorem wndO_rot (h : Aff) (P : Poly) (s : Nat) {k : Nat} (hk : k < P.n) (x : Pt) : wndO h (P.rot s).way k x = wndO h P.way ((s + k) % P.n) x := by
  have h1 := wnd_one h (P.rot s).way (k := k) hk x
  have h2 := wnd_one h P.way (k := (s + k) % P.n) (Nat.mod_lt _ (show 0 < P.n by omega)) x
  rw [wnd_rot] at h1
  have e1 : P.way.v ((s + k) % P.n) = (P.rot s).way.v k := P.per_mod _
  have e2 : P.way.v ((s + k) % P.n + 1) = (P.rot s).way.v (k + 1) := by show P.v _ = P.v (s + (k + 1)); rw [P.per_add]; rfl
  rw [e1, e2] at h2
  omega
theorem LeftIs.rot {h : Aff} {P : Poly} {l : Int} (hl : LeftIs h P.way l) (s : Nat) : LeftIs h (P.rot s).way l := by
  refine ⟨hl.1, fun K k x hK hk hx => ?_, fun K p hK hc => ?_⟩
  · have hk : k < P.n := hk
    have e1 : P.v ((s + k) % P.n) = P.v (s + k) := P.per_mod _
    have e2 : P.v ((s + k) % P.n + 1) = P.v (s + (k + 1)) := by rw [P.per_add]; rfl
    have hx : OnI x (smul K (P.v (s + k))) (smul K (P.v (s + (k + 1)))) := hx
    rw [← e1, ← e2] at hx
    have e := hl.2.1 K ((s + k) % P.n) x hK (Nat.mod_lt _ (show 0 < P.n by omega)) hx
    have o := wndO_rot (h.sc K) (P.sc K) s (k := k) hk x
    unfold lam at e ⊢
    have o : wndO (h.sc K) ((P.rot s).way.sc K) k x = wndO (h.sc K) (P.way.sc K) ((s + k) % P.n) x := o
    rw [o]
    have a1 : (P.way.sc K).v ((s + k) % P.n) = ((P.rot s).way.sc K).v k := congrArg (smul K) e1
    have a2 : (P.way.sc K).v ((s + k) % P.n + 1) = ((P.rot s).way.sc K).v (k + 1) := congrArg (smul K) e2
    rwa [a1, a2] at e
  · have w : wnd (h.sc K) ((P.rot s).way.sc K) p = wnd (h.sc K) (P.way.sc K) p := wnd_rot (h.sc K) (P.sc K) s p
    rw [w]
    refine hl.2.2 K p hK fun k hk => ?_
    have hk : k < P.n := hk
    have hr : s % P.n < P.n := Nat.mod_lt _ (by omega)
    obtain ⟨t, ht, e⟩ : ∃ t, t < P.n ∧ ∀ i, P.v (s + (t + i)) = P.v (k + i) := by
      rcases (show s % P.n ≤ k ∨ k < s % P.n by omega) with g | g
      · exact ⟨k - s % P.n, by omega, fun i => by rw [← P.per_add]; congr 1; omega⟩
      · exact ⟨k + P.n - s % P.n, by omega, fun i => by rw [← P.per_add, show s % P.n + (k + P.n - s % P.n + i) = k + i + P.n by omega, P.per]⟩
    have c := hc t ht
    have a1 : ((P.rot s).way.sc K).v t = (P.way.sc K).v k := congrArg (smul K) (e 0)
    have a2 : ((P.rot s).way.sc K).v (t + 1) = (P.way.sc K).v (k + 1) := congrArg (smul K) (e 1)
    rwa [a1, a2] at c
theorem LeftIs.rot_iff {h : Aff} {P : Poly} {l : Int} (hn : 1 ≤ P.n) (s : Nat) : LeftIs h (P.rot s).way l ↔ LeftIs h P.way l :=
  ⟨fun hl => by have := hl.rot (s * (P.n - 1)); rwa [rot_back P s hn] at this, fun hl => hl.rot s⟩
theorem LeftIs.uniq {h : Aff} {P : Poly} {l l' : Int} (h1 : LeftIs h P.way l) (h2 : LeftIs h P.way l') (hn : 1 ≤ P.n) : l = l' := by
  have a := h1.2.1 2 0 _ (by omega) hn (nearA_on (by omega) _ _)
  have b := h2.2.1 2 0 _ (by omega) hn (nearA_on (by omega) _ _)
  rw [← a, ← b]
def LowAt (h : Aff) (P : Poly) (s : Nat) : Prop := ∀ j, j < P.n → j ≠ 1 → h.ev ((P.rot s).v 1) < h.ev ((P.rot s).v j)
def Pos (h : Aff) (P : Poly) : Prop := ∃ s, LowAt h P s ∧ 0 < turnZ ((P.rot s).v 0) ((P.rot s).v 1) ((P.rot s).v 2)
def NegP (h : Aff) (P : Poly) : Prop := ∃ s, LowAt h P s ∧ turnZ ((P.rot s).v 0) ((P.rot s).v 1) ((P.rot s).v 2) < 0
theorem Gen.low {h : Aff} {P : Poly} (hg : Gen h P) (h3 : 3 ≤ P.n) : ∃ s, LowAt h P s := by
  obtain ⟨k, hk, hm⟩ := ex_max (fun k => k < P.n) (fun k => - h.ev (P.v k)) P.n (fun k h => h) ⟨0, by omega⟩
  refine ⟨k + P.n - 1, fun j hj hj1 => ?_⟩
  have e1 : (P.rot (k + P.n - 1)).v 1 = P.v k := by show P.v (k + P.n - 1 + 1) = _; rw [show k + P.n - 1 + 1 = k + P.n by omega, P.per]
  have ej : (P.rot (k + P.n - 1)).v j = P.v ((k + P.n - 1 + j) % P.n) := (P.per_mod _).symm
  rw [e1, ej]
  have hlt : (k + P.n - 1 + j) % P.n < P.n := Nat.mod_lt _ (by omega)
  have hle := hm _ hlt
  have hne : k ≠ (k + P.n - 1 + j) % P.n := by
    intro e
    rcases (show k + P.n - 1 + j < P.n ∨ (P.n ≤ k + P.n - 1 + j ∧ k + P.n - 1 + j < 2 * P.n) ∨ 2 * P.n ≤ k + P.n - 1 + j by omega) with g | g | g
    · rw [Nat.mod_eq_of_lt g] at e; omega
    · rw [Nat.mod_eq_sub_mod (by omega), Nat.mod_eq_of_lt (by omega)] at e; omega
    · rw [Nat.mod_eq_sub_mod (by omega), Nat.mod_eq_sub_mod (by omega), Nat.mod_eq_of_lt (by omega)] at e; omega
  have := hg _ _ hk hlt hne
  omega
theorem side_or {h : Aff} {P : Poly} (hP : SimpleP P) (hg : Gen h P) {s : Nat} (hs : LowAt h P s) :
    (LeftIs h P.way 1 ∧ 0 < turnZ ((P.rot s).v 0) ((P.rot s).v 1) ((P.rot s).v 2)) ∨ (LeftIs h P.way 0 ∧ turnZ ((P.rot s).v 0) ((P.rot s).v 1) ((P.rot s).v 2) < 0) := by
  have h3 := hP.n3
  obtain ⟨l, hl⟩ := (hP.rot s).simple.zero_one ((hg.rot s).sloped (by show 2 ≤ P.n; omega))
  have hl : LeftIs h (P.rot s).way l := hl
  have hl0 := (LeftIs.rot_iff (by omega) s).1 hl
  rcases low_turn (hP.rot s).simple ((hg.rot s).sloped (by show 2 ≤ P.n; omega)) hl hs with ⟨rfl, g⟩ | ⟨rfl, g⟩
  · exact .inl ⟨hl0, g⟩
  · exact .inr ⟨hl0, g⟩
theorem Pos.left {h : Aff} {P : Poly} (hP : SimpleP P) (hg : Gen h P) (hp : Pos h P) : LeftIs h P.way 1 := by
  obtain ⟨s, hs, ht⟩ := hp
  rcases side_or hP hg hs with ⟨g, _⟩ | ⟨_, g⟩
  · exact g
  · omega
theorem Pos.of_left {h : Aff} {P : Poly} (hP : SimpleP P) (hg : Gen h P) (hl : LeftIs h P.way 1) : Pos h P := by
  have h3 := hP.n3
  obtain ⟨s, hs⟩ := hg.low h3
  rcases side_or hP hg hs with ⟨_, g⟩ | ⟨g, _⟩
  · exact ⟨s, hs, g⟩
  · have := hl.uniq g (by omega); omega
theorem pos_or_neg {h : Aff} {P : Poly} (hP : SimpleP P) (hg : Gen h P) : Pos h P ∨ NegP h P := by
  have h3 := hP.n3
  obtain ⟨s, hs⟩ := hg.low h3
  rcases side_or hP hg hs with ⟨_, g⟩ | ⟨_, g⟩
  · exact .inl ⟨s, hs, g⟩
  · exact .inr ⟨s, hs, g⟩
theorem Pos.rot {h : Aff} {P : Poly} (hp : Pos h P) (hn : 1 ≤ P.n) (t : Nat) : Pos h (P.rot t) := by
  obtain ⟨s, hs, ht⟩ := hp
  have e : (P.rot t).rot (t * (P.n - 1) + s) = P.rot s := by rw [← rot_rot, rot_back P t hn]
  exact ⟨t * (P.n - 1) + s, by unfold LowAt; rw [e]; exact hs, by rw [e]; exact ht⟩
theorem Pos.rot_iff {h : Aff} {P : Poly} (hn : 1 ≤ P.n) (t : Nat) : Pos h (P.rot t) ↔ Pos h P :=
  ⟨fun hp => by have := hp.rot (show 1 ≤ (P.rot t).n from hn) (t * (P.n - 1)); rwa [show ((P.rot t).rot (t * (P.n - 1))) = P from rot_back P t hn] at this, fun hp => hp.rot hn t⟩
/-! ### Nothing is counted outside of a half plane with all corners -/
theorem wnd_out (h : Aff) {P : Way} {p : Pt} (f : Aff) (hf : ∀ k, k < P.n → f.ev p < f.ev (P.v k)) : wnd h P p = 0 := by
  have hf' : ∀ k, k < P.n → f.ev p < f.ev (P.v (k + 1)) := fun k hk => by
    rcases (show k + 1 < P.n ∨ k + 1 = P.n by omega) with e | e
    · exact hf _ e
    · rw [e, P.cyc]; exact hf 0 (by omega)
  have ho : ∀ k, k < P.n → Off p (P.v k) (P.v (k + 1)) := fun k hk => by
    have h1 := hf k hk
    have h2 := hf' k hk
    exact ⟨Aff.lc 2 f 0 f (-(2 * f.ev p + 1)), by rw [ev_lc]; omega, by rw [ev_lc]; omega, by rw [ev_lc]; omega⟩
  have key : ∀ g : Aff, (∀ k, k < P.n → g.ev p < g.ev (P.v k)) → h.u * g.v - h.v * g.u ≠ 0 → wnd h P p = 0 := fun g hg hd => by
    rw [wnd_two hd ho]; exact wnd_below hg
  have pert : ∀ g : Aff, h.u * g.v - h.v * g.u ≠ 0 → h.u * f.v - h.v * f.u = 0 → wnd h P p = 0 := fun g hd h0 => by
    have : Late fun N => ∀ k, k < P.n → (Aff.lc N f 1 g 0).ev p < (Aff.lc N f 1 g 0).ev (P.v k) := Late.all fun k hk => by
      refine ⟨g.ev p - g.ev (P.v k) + 1, fun N hN hN0 => ?_⟩
      show (Aff.lc N f 1 g 0).ev p < (Aff.lc N f 1 g 0).ev (P.v k)
      rw [ev_lc, ev_lc]
      have h1 := hf k hk
      have h2 := Int.mul_le_mul_of_nonneg_left (show f.ev p + 1 ≤ f.ev (P.v k) by omega) (show 0 ≤ N by omega)
      rw [Int.mul_add, Int.mul_one] at h2
      omega
    obtain ⟨N, hN, hl⟩ := this.get
    refine key _ hl ?_
    have : h.u * (Aff.lc N f 1 g 0).v - h.v * (Aff.lc N f 1 g 0).u = N * (h.u * f.v - h.v * f.u) + (h.u * g.v - h.v * g.u) := by unfold Aff.lc; grind
    rw [this, h0, Int.mul_zero, Int.zero_add]; exact hd
  by_cases h0 : h.u * f.v - h.v * f.u = 0
  · by_cases hu : h.u = 0
    · by_cases hv : h.v = 0
      · have : wnd h P p = sumN (fun _ => 0) P.n := sumN_congr fun k hk => by
          unfold crN Aff.ev
          rw [hu, hv]
          simp
        rw [this]
        have z : ∀ n, sumN (fun _ => 0) n = 0 := fun n => by
          induction n with
          | zero => rfl
          | succ n ih => simp only [sumN, ih]; rfl
        exact z _
      · exact pert ⟨1, 0, 0⟩ (by show h.u * 0 - h.v * 1 ≠ 0; omega) h0
    · exact pert ⟨0, 1, 0⟩ (by show h.u * 1 - h.v * 0 ≠ 0; omega) h0
  · exact key f hf h0
/-! ### Cutting a positive polygon into positive ones -/
/-- Beyond the lowest corner's triangle the rest is positive too. -/
theorem pos_rest {h : Aff} {P : Poly} (hP : SimpleP P) (hg : Gen h P) (hl : LeftIs h P.way 1) (h4 : 4 ≤ P.n) (c : Chord P 2) {f : Aff} (f0 : 0 ≤ f.ev (P.v 0)) (f1 : 0 ≤ f.ev (P.v 1)) (f2 : 0 ≤ f.ev (P.v 2)) (f3 : f.ev (P.v 3) < 0) :
    Pos h ((P.rot 2).arc (P.n - 2)) := by
  have hR := (hP.rot 2).arc c.rot
  have hgR : Gen h ((P.rot 2).arc (P.n - 2)) := (hg.rot 2).arc (by show P.n - 2 < P.n; omega)
  obtain ⟨l, hlR⟩ := hR.simple.zero_one (hgR.sloped (by show 2 ≤ P.n - 2 + 1; omega))
  have hlR : LeftIs h ((P.rot 2).arc (P.n - 2)).way l := hlR
  suffices l = 1 by subst this; exact Pos.of_left hR hgR hlR
  -- near corner 3 on the wall from 2 to 3
  have lt : Late fun K => ∀ k, k < 3 → (f.sc K).ev (nearA K (P.v 3) (P.v 2)) < (f.sc K).ev (smul K ((P.arc 2).v k)) := by
    refine ⟨f.lin (psub (P.v 2) (P.v 3)) + 1, fun K hK hK0 k hk => ?_⟩
    have e1 : (f.sc K).ev (nearA K (P.v 3) (P.v 2)) = K * f.ev (P.v 3) + f.lin (psub (P.v 2) (P.v 3)) := ev_sc f K _ _
    rw [e1, ev_sc0]
    have g1 : K * f.ev (P.v 3) ≤ K * (-1) := Int.mul_le_mul_of_nonneg_left (by omega) (by omega)
    have g2 : 0 ≤ f.ev ((P.arc 2).v k) := by
      rcases (show k = 0 ∨ k = 1 ∨ k = 2 by omega) with rfl | rfl | rfl <;> rw [arc_v P (by omega)] <;> assumption
    have g3 := nn0 (show 0 ≤ K by omega) g2
    omega
  obtain ⟨K, hK, hlt, hK2⟩ := (lt.and (Late.ge 2)).get
  obtain ⟨x, hx⟩ : ∃ x, x = nearA K (P.v 3) (P.v 2) := ⟨_, rfl⟩
  rw [← hx] at hlt
  have hon : OnI x (smul K (P.v 2)) (smul K (P.v 3)) := by
    obtain ⟨s, t, hs, ht, a1, a2⟩ := nearA_on hK2 (P.v 3) (P.v 2)
    rw [← hx] at a1 a2
    exact ⟨t, s, ht, hs, by rw [Int.add_comm t s, a1]; omega, by rw [Int.add_comm t s, a2]; omega⟩
  have w0 : wnd (h.sc K) ((P.sc K).arc 2).way x = 0 := wnd_out _ (f.sc K) hlt
  have wc := wnd_cut (h.sc K) (P.sc K) (m := 2) (by show 2 ≤ P.n; omega) x
  rw [w0, Int.zero_add] at wc
  have e0 : ((P.rot 2).arc (P.n - 2)).v 0 = P.v 2 := arc_v _ (by omega)
  have e1 : ((P.rot 2).arc (P.n - 2)).v 1 = P.v 3 := arc_v _ (by omega)
  have o1 := wnd_one (h.sc K) (P.sc K).way (k := 2) (by show 2 < P.n; omega) x
  have o2 := wnd_one (h.sc K) (((P.rot 2).arc (P.n - 2)).way.sc K) (k := 0) (by show 0 < P.n - 2 + 1; omega) x
  have s0 : (((P.rot 2).arc (P.n - 2)).way.sc K).v 0 = (P.sc K).way.v 2 := congrArg (smul K) e0
  have s1 : (((P.rot 2).arc (P.n - 2)).way.sc K).v 1 = (P.sc K).way.v 3 := congrArg (smul K) e1
  rw [s0, show 0 + 1 = 1 from rfl, s1] at o2
  have wc : wnd (h.sc K) (P.sc K).way x = wnd (h.sc K) (((P.rot 2).arc (P.n - 2)).way.sc K) x := wc
  have la := hl.2.1 K 2 x hK (by show 2 < P.n; omega) hon
  have lb := hlR.2.1 K 0 x hK (by show 0 < P.n - 2 + 1; omega) (by
    show OnI x (smul K (((P.rot 2).arc (P.n - 2)).v 0)) (smul K (((P.rot 2).arc (P.n - 2)).v 1))
    rw [e0, e1]; exact hon)
  unfold lam at la lb
  rw [s0, show 0 + 1 = 1 from rfl, s1] at lb
  have la : wndO (h.sc K) (P.sc K).way 2 x + (if (h.sc K).ev ((P.sc K).way.v 2) < (h.sc K).ev ((P.sc K).way.v 3) then 1 else 0) = 1 := la
  have o1 : wnd (h.sc K) (P.sc K).way x = wndO (h.sc K) (P.sc K).way 2 x + crN (h.sc K) x ((P.sc K).way.v 2) ((P.sc K).way.v 3) := o1
  omega
theorem arc_rot_v (P : Poly) (m s j : Nat) : ((P.arc m).rot s).v j = P.v ((s + j) % (m + 1)) := rfl
/-- A positive polygon with more than three corners is cut by a chord into positive ones. -/
theorem exists_cut {h : Aff} {P : Poly} (hP : SimpleP P) (hg : Gen h P) (hp : Pos h P) (h4 : 4 ≤ P.n) :
    ∃ s m, Chord (P.rot s) m ∧ Pos h ((P.rot s).arc m) ∧ Pos h (((P.rot s).rot m).arc (P.n - m)) := by
  have hl := hp.left hP hg
  obtain ⟨s, hs, hτ⟩ := hp
  have hl := hl.rot s
  have hQ := hP.rot s
  have hgQ := hg.rot s
  unfold LowAt at hs
  generalize hQQ : P.rot s = Q at *
  have hn : Q.n = P.n := by rw [← hQQ]; rfl
  rw [← hn] at h4 hs
  by_cases hin : ∃ j, InT Q j
  · obtain ⟨j, hj, hmax⟩ := ex_max (InT Q) (fun j => tC Q (Q.v j)) Q.n (fun k hk => hk.2.1) hin
    obtain ⟨pA, pB⟩ := hj.pos hQ hτ
    obtain ⟨hj3, hjn, _⟩ := id hj
    refine ⟨s + 1, j - 1, ?_⟩
    rw [← rot_rot, hQQ, ← hn]
    have lowE : ∀ i, i ≠ 0 → i < Q.n → h.ev (Q.v 1) < h.ev (Q.v (1 + i)) := fun i h0 hi => by
      rcases (show 1 + i < Q.n ∨ 1 + i = Q.n by omega) with g | g
      · exact hs _ g (by omega)
      · rw [g, Q.vn]; exact hs 0 (by omega) (by omega)
    refine ⟨chord_in hQ h4 hτ hj hmax, ⟨j - 1, fun k hk hk1 => ?_, ?_⟩, ⟨Q.n - (j - 1) - 1, fun k hk hk1 => ?_, ?_⟩⟩
    · have hk : k < j - 1 + 1 := hk
      rw [arc_rot_v, arc_rot_v, Nat.mod_self]
      show h.ev (Q.v (1 + 0)) < h.ev (Q.v (1 + _))
      refine lowE _ ?_ (by have := Nat.mod_lt (j - 1 + k) (show 0 < j - 1 + 1 by omega); omega)
      rcases (show k = 0 ∨ 2 ≤ k by omega) with rfl | g
      · rw [Nat.mod_eq_of_lt (by omega)]; omega
      · rw [Nat.mod_eq_sub_mod (by omega), Nat.mod_eq_of_lt (by omega)]; omega
    · rw [arc_rot_v, arc_rot_v, arc_rot_v, Nat.mod_self, Nat.mod_eq_of_lt (show j - 1 + 0 < j - 1 + 1 by omega), Nat.mod_eq_sub_mod (show j - 1 + 1 ≤ j - 1 + 2 by omega), Nat.mod_eq_of_lt (by omega)]
      show 0 < turnZ (Q.v (1 + (j - 1 + 0))) (Q.v (1 + 0)) (Q.v (1 + _))
      rw [show 1 + (j - 1 + 0) = j by omega, show j - 1 + 2 - (j - 1 + 1) = 1 by omega]
      have : turnZ (Q.v j) (Q.v (1 + 0)) (Q.v (1 + 1)) = tA Q (Q.v j) := by unfold tA turnZ; grind
      rw [this]; exact pA
    · have hk : k < Q.n - (j - 1) + 1 := hk
      rw [arc_rot_v, arc_rot_v]
      show h.ev (Q.v (1 + (j - 1 + (Q.n - (j - 1) - 1 + 1) % (Q.n - (j - 1) + 1)))) < h.ev (Q.v (1 + (j - 1 + _)))
      rw [Nat.mod_eq_of_lt (show Q.n - (j - 1) - 1 + 1 < Q.n - (j - 1) + 1 by omega), show 1 + (j - 1 + (Q.n - (j - 1) - 1 + 1)) = 1 + Q.n by omega, Q.per]
      rcases (show k = 0 ∨ 2 ≤ k by omega) with rfl | g
      · rw [Nat.mod_eq_of_lt (by omega), show 1 + (j - 1 + (Q.n - (j - 1) - 1 + 0)) = Q.n by omega, Q.vn]; exact hs 0 (by omega) (by omega)
      · rw [Nat.mod_eq_sub_mod (by omega), Nat.mod_eq_of_lt (by omega)]
        exact hs _ (by omega) (by omega)
    · rw [arc_rot_v, arc_rot_v, arc_rot_v]
      show 0 < turnZ (Q.v (1 + (j - 1 + (Q.n - (j - 1) - 1 + 0) % (Q.n - (j - 1) + 1)))) (Q.v (1 + (j - 1 + (Q.n - (j - 1) - 1 + 1) % (Q.n - (j - 1) + 1)))) (Q.v (1 + (j - 1 + (Q.n - (j - 1) - 1 + 2) % (Q.n - (j - 1) + 1))))
      rw [Nat.mod_eq_of_lt (show Q.n - (j - 1) - 1 + 1 < Q.n - (j - 1) + 1 by omega), Nat.mod_eq_of_lt (show Q.n - (j - 1) - 1 + 0 < Q.n - (j - 1) + 1 by omega), show Q.n - (j - 1) - 1 + 2 = Q.n - (j - 1) + 1 by omega, Nat.mod_self,
        show 1 + (j - 1 + (Q.n - (j - 1) - 1 + 1)) = 1 + Q.n by omega, show 1 + (j - 1 + (Q.n - (j - 1) - 1 + 0)) = Q.n by omega, Q.per, Q.vn, show 1 + (j - 1 + 0) = j by omega]
      exact pB
  · have hno : ∀ j, ¬ InT Q j := fun j hj => hin ⟨j, hj⟩
    have c := chord_tri hQ h4 hτ hno
    obtain ⟨v1, v2, v3, v4, v5, v6, v7, v8, v9⟩ := tri_vals Q
    refine ⟨s, 2, ?_⟩
    rw [hQQ, ← hn]
    refine ⟨c, ⟨0, fun k hk hk1 => ?_, ?_⟩, ?_⟩
    · have hk : k < 3 := hk
      rw [rot_zero, arc_v Q (by omega), arc_v Q (by omega)]
      exact hs k (by omega) hk1
    · rw [rot_zero, arc_v Q (by omega), arc_v Q (by omega), arc_v Q (by omega)]; exact hτ
    · have h3 := hno 3
      have : tA Q (Q.v 3) < 0 ∨ tB Q (Q.v 3) < 0 ∨ tC Q (Q.v 3) < 0 := by
        rcases (show tA Q (Q.v 3) < 0 ∨ tB Q (Q.v 3) < 0 ∨ tC Q (Q.v 3) < 0 ∨ (0 ≤ tA Q (Q.v 3) ∧ 0 ≤ tB Q (Q.v 3) ∧ 0 ≤ tC Q (Q.v 3)) by omega) with g | g | g | g
        · exact .inl g
        · exact .inr (.inl g)
        · exact .inr (.inr g)
        · exact absurd ⟨by omega, by omega, g⟩ h3
      rcases this with g | g | g
      · exact pos_rest hQ hgQ hl h4 c (f := Aff.turn (Q.v 1) (Q.v 2)) (by rw [ev_turn]; show 0 ≤ tA Q _; omega) (by rw [ev_turn]; show 0 ≤ tA Q _; omega) (by rw [ev_turn]; show 0 ≤ tA Q _; omega) (by rw [ev_turn]; exact g)
      · exact pos_rest hQ hgQ hl h4 c (f := Aff.turn (Q.v 0) (Q.v 1)) (by rw [ev_turn]; show 0 ≤ tB Q _; omega) (by rw [ev_turn]; show 0 ≤ tB Q _; omega) (by rw [ev_turn]; show 0 ≤ tB Q _; omega) (by rw [ev_turn]; exact g)
      · exact pos_rest hQ hgQ hl h4 c (f := Aff.turn (Q.v 2) (Q.v 0)) (by rw [ev_turn]; show 0 ≤ tC Q _; omega) (by rw [ev_turn]; show 0 ≤ tC Q _; omega) (by rw [ev_turn]; show 0 ≤ tC Q _; omega) (by rw [ev_turn]; exact g)
/-- What holds of triangles, does not hang on the beginning and passes from two parts to the whole, holds of all positive polygons. -/
theorem pos_induct (h : Aff) (M : Poly → Prop) (tri : ∀ P, SimpleP P → Gen h P → P.n = 3 → 0 < turnZ (P.v 0) (P.v 1) (P.v 2) → M P)
    (rot : ∀ P s, SimpleP P → Gen h P → Pos h P → M (P.rot s) → M P) (cut : ∀ P m, SimpleP P → Gen h P → Pos h P → Chord P m → Pos h (P.arc m) → Pos h ((P.rot m).arc (P.n - m)) → M (P.arc m) → M ((P.rot m).arc (P.n - m)) → M P) :
    ∀ P, SimpleP P → Gen h P → Pos h P → M P := by
  suffices H : ∀ n P, P.n = n → SimpleP P → Gen h P → Pos h P → M P from fun P => H P.n P rfl
  intro n
  induction n using Nat.strongRecOn with
  | ind n ih =>
    intro P hn hP hg hp
    have h3 := hP.n3
    rcases (show P.n = 3 ∨ 4 ≤ P.n by omega) with e | h4
    · obtain ⟨s, hs, ht⟩ := id hp
      exact rot P s hP hg hp (tri _ (hP.rot s) (hg.rot s) e ht)
    · obtain ⟨s, m, c, p1, p2⟩ := exists_cut hP hg hp h4
      have hm2 := c.m2
      have hmn : m + 2 ≤ P.n := c.mn
      exact rot P s hP hg hp (cut _ m (hP.rot s) (hg.rot s) (hp.rot (by omega) s) c p1 p2 (ih (m + 1) (by omega) _ rfl ((hP.rot s).arc c) ((hg.rot s).arc (by show m < P.n; omega)) p1)
        (ih (P.n - m + 1) (by omega) _ rfl (((hP.rot s).rot m).arc c.rot) (((hg.rot s).rot m).arc (by show P.n - m < P.n; omega)) p2))
theorem area_pos {h : Aff} {P : Poly} (hP : SimpleP P) (hg : Gen h P) (hp : Pos h P) : 0 < P.area := by
  refine pos_induct h (fun P => 0 < P.area) (fun P hP hg hn ht => ?_) (fun P s hP _ _ h => by rwa [area_rot] at h) (fun P m hP hg hp c _ _ h1 h2 => ?_) P hP hg hp
  · have : P.area = turnZ (P.v 0) (P.v 1) (P.v 2) := by
      unfold Poly.area; rw [hn]; simp only [sumN]
      have e := P.vn; rw [hn] at e; rw [e]
      unfold crs0 turnZ; grind
    show 0 < P.area
    rw [this]; exact ht
  · have := c.mn
    show 0 < P.area
    rw [area_cut P (m := m) (by omega)]
    have h1 : 0 < (P.arc m).area := h1
    have h2 : 0 < ((P.rot m).arc (P.n - m)).area := h2
    omega
/-! ### Mirrored -/
def mirP (p : Pt) : Pt := (-p.1, p.2)
def Aff.mir (f : Aff) : Aff := ⟨-f.u, f.v, f.w⟩
theorem ev_mir (f : Aff) (p : Pt) : f.mir.ev (mirP p) = f.ev p := by unfold Aff.mir mirP Aff.ev; grind
theorem turn_mir (a b c : Pt) : turnZ (mirP a) (mirP b) (mirP c) = - turnZ a b c := by unfold mirP turnZ; grind
def Poly.mir (P : Poly) : Poly := ⟨P.n, fun j => mirP (P.v j), fun j => by show mirP (P.v (j + P.n)) = _; rw [P.per]⟩
theorem mir_ne {a b : Pt} (h : a ≠ b) : mirP a ≠ mirP b := fun e => h (by
  have e1 := congrArg Prod.fst e
  have e2 := congrArg Prod.snd e
  unfold mirP at e1 e2
  exact Prod.ext (by omega) e2)
theorem SimpleP.mir {P : Poly} (h : SimpleP P) : SimpleP P.mir := by
  have hb : ∀ {a b z : Pt}, Bends a b z → Bends (mirP a) (mirP b) (mirP z) := fun {a b z} hb => by
    refine ⟨mir_ne hb.1, ?_⟩
    rw [turn_mir]
    have : dotZ (mirP a) (mirP b) (mirP z) = dotZ a b z := by unfold dotZ mirP; grind
    rw [this]
    have := hb.2
    omega
  refine ⟨h.n3, fun j d h1 h2 => ?_, fun j d h1 h2 => ?_, fun k => ⟨hb (h.bend k).1, hb (h.bend k).2⟩⟩
  · obtain ⟨f, f1, f2, f3⟩ := h.off j d h1 h2
    exact ⟨f.mir, by show 0 < f.mir.ev (mirP _); rwa [ev_mir], by show 0 < f.mir.ev (mirP _); rwa [ev_mir], by show f.mir.ev (mirP _) < 0; rwa [ev_mir]⟩
  · obtain ⟨f, f1, f2, f3, f4⟩ := h.apart j d h1 h2
    exact ⟨f.mir, by show 0 < f.mir.ev (mirP _); rwa [ev_mir], by show 0 < f.mir.ev (mirP _); rwa [ev_mir], by show f.mir.ev (mirP _) ≤ 0; rwa [ev_mir], by show f.mir.ev (mirP _) ≤ 0; rwa [ev_mir]⟩
theorem area_mir (P : Poly) : P.mir.area = - P.area := by
  unfold Poly.area
  have : ∀ n, sumN (fun k => crs0 (P.mir.v k) (P.mir.v (k + 1))) n = - sumN (fun k => crs0 (P.v k) (P.v (k + 1))) n := fun n => by
    induction n with
    | zero => rfl
    | succ n ih =>
      simp only [sumN]
      rw [ih]
      have : crs0 (P.mir.v n) (P.mir.v (n + 1)) = - crs0 (P.v n) (P.v (n + 1)) := by
        show crs0 (mirP _) (mirP _) = _
        unfold crs0 mirP; grind
      omega
  exact this _
theorem Gen.mir {h : Aff} {P : Poly} (hg : Gen h P) : Gen h.mir P.mir := fun i j hi hj hij => by
  show h.mir.ev (mirP _) ≠ h.mir.ev (mirP _)
  rw [ev_mir, ev_mir]; exact hg i j hi hj hij
theorem NegP.mir {h : Aff} {P : Poly} (hn : NegP h P) : Pos h.mir P.mir := by
  obtain ⟨s, hs, ht⟩ := hn
  refine ⟨s, fun j hj h1 => ?_, ?_⟩
  · have := hs j hj h1
    show h.mir.ev (mirP _) < h.mir.ev (mirP _)
    rw [ev_mir, ev_mir]; exact this
  · show 0 < turnZ (mirP _) (mirP _) (mirP _)
    rw [turn_mir]
    have : turnZ ((P.rot s).v 0) ((P.rot s).v 1) ((P.rot s).v 2) < 0 := ht
    show 0 < - turnZ ((P.rot s).v 0) ((P.rot s).v 1) ((P.rot s).v 2)
    omega
/-- A simple polygon is positive just if its area is. -/
theorem pos_iff {h : Aff} {P : Poly} (hP : SimpleP P) (hg : Gen h P) : Pos h P ↔ 0 < P.area := by
  refine ⟨area_pos hP hg, fun ha => ?_⟩
  rcases pos_or_neg hP hg with g | g
  · exact g
  · have := area_pos hP.mir hg.mir g.mir
    rw [area_mir] at this
    omega
/-! ### From the program's test of two walls -/
theorem part_or_on {a b q r : Pt} (hab : a ≠ b) (hqr : q ≠ r) : Part a b q r ∨ OnM q a b ∨ OnM r a b ∨ OnM a q r ∨ OnM b q r ∨
    (((turnZ q r a < 0 ∧ 0 < turnZ q r b) ∨ (turnZ q r b < 0 ∧ 0 < turnZ q r a)) ∧ ((turnZ a b q < 0 ∧ 0 < turnZ a b r) ∨ (turnZ a b r < 0 ∧ 0 < turnZ a b q))) := by
  have E0 := tid a b q r
  have tqq : turnZ q r q = 0 := by unfold turnZ; grind
  have trr : turnZ q r r = 0 := by unfold turnZ; grind
  have taa : turnZ a b a = 0 := by unfold turnZ; grind
  have tbb : turnZ a b b = 0 := by unfold turnZ; grind
  rcases part_or_meet q r hab with h | ⟨s, t, s', t', h1, h2, h3, h4, h5, h6, h7⟩
  · exact .inl h
  have V1 := Meet.vals h7 q r
  have V2 := Meet.vals h7 a b
  rw [tqq, trr, Int.mul_zero, Int.mul_zero] at V1
  rw [taa, tbb, Int.mul_zero, Int.mul_zero] at V2
  by_cases es : s = 0
  · subst es
    exact .inr (.inr (.inr (.inr (.inl ⟨s', t', h3, h4, by omega, fun f => by have := h7 f; rw [Int.zero_mul] at this; rw [← h6, Int.zero_add]; omega⟩))))
  by_cases et : t = 0
  · subst et
    exact .inr (.inr (.inr (.inl ⟨s', t', h3, h4, by omega, fun f => by have := h7 f; rw [Int.zero_mul] at this; rw [← h6, Int.add_zero]; omega⟩)))
  by_cases es' : s' = 0
  · subst es'
    exact .inr (.inr (.inl ⟨s, t, h1, h2, by omega, fun f => by have := h7 f; rw [Int.zero_mul] at this; rw [h6, Int.zero_add]; omega⟩))
  by_cases et' : t' = 0
  · subst et'
    exact .inr (.inl ⟨s, t, h1, h2, by omega, fun f => by have := h7 f; rw [Int.zero_mul] at this; rw [h6, Int.add_zero]; omega⟩)
  have opp : ∀ {x y m k : Int}, 0 < x → 0 < y → x * m + y * k = 0 → (m < 0 ∧ 0 < k) ∨ (k < 0 ∧ 0 < m) ∨ (m = 0 ∧ k = 0) := fun {x y m k} hx hy e => by
    rcases (show m < 0 ∨ m = 0 ∨ 0 < m by omega) with g | g | g
    · rcases (show 0 < k ∨ k ≤ 0 by omega) with g' | g'
      · exact .inl ⟨g, g'⟩
      · have := pm hx g; have := pm0 (show 0 ≤ y by omega) g'; omega
    · subst g
      rw [Int.mul_zero, Int.zero_add] at e
      rcases Int.mul_eq_zero.1 e with e | e
      · omega
      · exact .inr (.inr ⟨rfl, e⟩)
    · rcases (show k < 0 ∨ 0 ≤ k by omega) with g' | g'
      · exact .inr (.inl ⟨g', g⟩)
      · have := pp hx g; have := nn0 (show 0 ≤ y by omega) g'; omega
  have o1 := opp (show 0 < s by omega) (show 0 < t by omega) V1
  have o2 := opp (show 0 < s' by omega) (show 0 < t' by omega) V2.symm
  rcases o1 with o1 | o1 | ⟨z1, z2⟩
  · rcases o2 with o2 | o2 | ⟨z3, z4⟩
    · exact .inr (.inr (.inr (.inr (.inr ⟨.inl o1, .inl o2⟩))))
    · exact .inr (.inr (.inr (.inr (.inr ⟨.inl o1, .inr o2⟩))))
    · omega
  · rcases o2 with o2 | o2 | ⟨z3, z4⟩
    · exact .inr (.inr (.inr (.inr (.inr ⟨.inr o1, .inl o2⟩))))
    · exact .inr (.inr (.inr (.inr (.inr ⟨.inr o1, .inr o2⟩))))
    · omega
  · -- all on one line
    have hq : turnZ a b q = 0 := by rcases o2 with o2 | o2 | o2 <;> omega
    have hr : turnZ a b r = 0 := by rcases o2 with o2 | o2 | o2 <;> omega
    have hsq := sq_pos hab
    generalize hN : (b.1 - a.1) * (b.1 - a.1) + (b.2 - a.2) * (b.2 - a.2) = N at hsq
    have mq := line_mean hq
    have mr := line_mean hr
    rw [hN] at mq mr
    have da : dotZ a b a = -N := by rw [← hN]; unfold dotZ; grind
    have db : dotZ a b b = 0 := by unfold dotZ; grind
    generalize hx : dotZ a b q = x at mq
    generalize hy : dotZ a b r = y at mr
    by_cases c1 : 0 < x ∧ 0 < y
    · exact .inl ⟨Aff.lc (-2) (Aff.dot a b) 0 (Aff.dot a b) 1, by rw [ev_lc, ev_dot, da]; omega, by rw [ev_lc, ev_dot, db]; omega, by rw [ev_lc, ev_dot, hx]; omega, by rw [ev_lc, ev_dot, hy]; omega⟩
    by_cases c2 : x < -N ∧ y < -N
    · exact .inl ⟨Aff.lc 1 (Aff.dot a b) 0 (Aff.dot a b) (N + 1), by rw [ev_lc, ev_dot, da]; omega, by rw [ev_lc, ev_dot, db]; omega, by rw [ev_lc, ev_dot, hx]; omega, by rw [ev_lc, ev_dot, hy]; omega⟩
    by_cases c3 : -N ≤ x ∧ x ≤ 0
    · exact .inr (.inl ⟨-x, N + x, by omega, by omega, by omega, fun f => by rw [show -x + (N + x) = N by omega, mq f]⟩)
    by_cases c4 : -N ≤ y ∧ y ≤ 0
    · exact .inr (.inr (.inl ⟨-y, N + y, by omega, by omega, by omega, fun f => by rw [show -y + (N + y) = N by omega, mr f]⟩))
    have hN0 : N ≠ 0 := by omega
    rcases (show (0 < x ∧ y < -N) ∨ (x < -N ∧ 0 < y) by omega) with ⟨c5, c6⟩ | ⟨c5, c6⟩
    · refine .inr (.inr (.inr (.inr (.inl ⟨-y, x, by omega, by omega, by omega, fun f => ?_⟩))))
      have e1 := mq f
      have e2 := mr f
      refine Int.eq_of_mul_eq_mul_left hN0 ?_
      have : N * (-y * f.ev q + x * f.ev r) = -y * (N * f.ev q) + x * (N * f.ev r) := by grind
      rw [this, e1, e2]; grind
    · refine .inr (.inr (.inr (.inr (.inl ⟨y, -x, by omega, by omega, by omega, fun f => ?_⟩))))
      have e1 := mq f
      have e2 := mr f
      refine Int.eq_of_mul_eq_mul_left hN0 ?_
      have : N * (y * f.ev q + -x * f.ev r) = y * (N * f.ev q) + -x * (N * f.ev r) := by grind
      rw [this, e1, e2]; grind
theorem Part.off1 {a b q r : Pt} (h : Part a b q r) : Off q a b := let ⟨f, fa, fb, fq, _⟩ := h; ⟨Aff.lc 2 f 0 f (-1), by rw [ev_lc]; omega, by rw [ev_lc]; omega, by rw [ev_lc]; omega⟩
theorem Part.off2 {a b q r : Pt} (h : Part a b q r) : Off r a b := let ⟨f, fa, fb, _, fr⟩ := h; ⟨Aff.lc 2 f 0 f (-1), by rw [ev_lc]; omega, by rw [ev_lc]; omega, by rw [ev_lc]; omega⟩
theorem off_turn {a b p : Pt} (h : turnZ a b p ≠ 0) : Off p a b := by
  have ta : turnZ a b a = 0 := by unfold turnZ; grind
  have tb : turnZ a b b = 0 := by unfold turnZ; grind
  rcases (show turnZ a b p < 0 ∨ 0 < turnZ a b p by omega) with g | g
  · exact ⟨Aff.lc 2 (Aff.turn a b) 0 (Aff.turn a b) 1, by rw [ev_lc, ev_turn, ta]; omega, by rw [ev_lc, ev_turn, tb]; omega, by rw [ev_lc, ev_turn]; omega⟩
  · exact ⟨Aff.lc (-2) (Aff.turn a b) 0 (Aff.turn a b) 1, by rw [ev_lc, ev_turn, ta]; omega, by rw [ev_lc, ev_turn, tb]; omega, by rw [ev_lc, ev_turn]; omega⟩
theorem bends_turn {a b z : Pt} (h : turnZ a b z ≠ 0) : Bends a b z ∧ Bends z b a := by
  have e : turnZ z b a = - turnZ a b z := by unfold turnZ; grind
  refine ⟨⟨?_, .inl h⟩, ⟨?_, .inl (by omega)⟩⟩
  · rintro rfl; apply h; unfold turnZ; grind
  · rintro rfl; apply h; unfold turnZ; grind
theorem simple_of {P : Poly} (h3 : 3 ≤ P.n) (ht : ∀ j, j < P.n → turnZ (P.v j) (P.v (j + 1)) (P.v (j + 2)) ≠ 0)
    (ha : ∀ i k, i + 2 ≤ k → k < P.n → ¬ (i = 0 ∧ k + 1 = P.n) → Part (P.v i) (P.v (i + 1)) (P.v k) (P.v (k + 1))) : SimpleP P := by
  have pm : ∀ j i, P.v (j + i) = P.v (j % P.n + i) := fun j i => (P.per_add j i).symm
  have ht' : ∀ j, turnZ (P.v j) (P.v (j + 1)) (P.v (j + 2)) ≠ 0 := fun j => by
    have := ht (j % P.n) (Nat.mod_lt _ (by omega))
    rwa [P.per_mod, P.per_add, P.per_add] at this
  have hap : ∀ j d, 2 ≤ d → d + 2 ≤ P.n → Part (P.v j) (P.v (j + 1)) (P.v (j + d)) (P.v (j + d + 1)) := by
    intro j d h1 h2
    have hr : j % P.n < P.n := Nat.mod_lt _ (by omega)
    rw [show P.v j = P.v (j % P.n) from (P.per_mod j).symm, pm j 1, pm j d, show j + d + 1 = j + (d + 1) by omega, pm j (d + 1)]
    generalize j % P.n = i at *
    rcases (show i + d < P.n ∨ P.n ≤ i + d by omega) with g | g
    · exact ha i (i + d) (by omega) g (by omega)
    · have := ha (i + d - P.n) i (by omega) hr (by omega)
      rw [show i + d = i + d - P.n + P.n by omega, P.per, show i + (d + 1) = i + d - P.n + 1 + P.n by omega, P.per]
      exact this.symm
  refine ⟨h3, fun j d h1 h2 => ?_, hap, fun k => bends_turn (ht' k)⟩
  rcases (show d + 2 ≤ P.n ∨ (d + 1 = P.n ∧ 4 ≤ P.n) ∨ (d = 2 ∧ P.n = 3) by omega) with g | ⟨g, g4⟩ | ⟨g, g3⟩
  · exact (hap j d h1 g).off1
  · have := hap j (d - 1) (by omega) (by omega)
    rw [show j + (d - 1) + 1 = j + d by omega] at this
    exact this.off2
  · subst g; exact off_turn (ht' j)
/-! ### Corners that are lowest in some direction -/
theorem gen_two {P : Poly} (h : SimpleP P) {f g : Aff} (hd : f.u * g.v - f.v * g.u ≠ 0) : Late fun N => Gen (Aff.lc N f 1 g 0) P := by
  have : Late fun N => ∀ i, i < P.n → ∀ j, j < P.n → (i ≠ j → (Aff.lc N f 1 g 0).ev (P.v i) ≠ (Aff.lc N f 1 g 0).ev (P.v j)) := by
    refine Late.all fun i hi => Late.all fun j hj => ?_
    by_cases e : f.ev (P.v i) = f.ev (P.v j)
    · refine Late.of fun N hN hij => ?_
      show (Aff.lc N f 1 g 0).ev (P.v i) ≠ (Aff.lc N f 1 g 0).ev (P.v j)
      rw [ev_lc, ev_lc, e]
      intro e2
      have hne := h.inj hi hj hij
      have e3 : g.ev (P.v i) = g.ev (P.v j) := by omega
      apply hne
      have d1 : (f.u * g.v - f.v * g.u) * ((P.v i).1 - (P.v j).1) = 0 := by
        have : (f.u * g.v - f.v * g.u) * ((P.v i).1 - (P.v j).1) = g.v * (f.ev (P.v i) - f.ev (P.v j)) - f.v * (g.ev (P.v i) - g.ev (P.v j)) := by unfold Aff.ev; grind
        rw [this, e, e3, Int.sub_self, Int.sub_self, Int.mul_zero, Int.mul_zero]; rfl
      have d2 : (f.u * g.v - f.v * g.u) * ((P.v i).2 - (P.v j).2) = 0 := by
        have : (f.u * g.v - f.v * g.u) * ((P.v i).2 - (P.v j).2) = f.u * (g.ev (P.v i) - g.ev (P.v j)) - g.u * (f.ev (P.v i) - f.ev (P.v j)) := by unfold Aff.ev; grind
        rw [this, e, e3, Int.sub_self, Int.sub_self, Int.mul_zero, Int.mul_zero]; rfl
      have c1 := (Int.mul_eq_zero.1 d1).resolve_left hd
      have c2 := (Int.mul_eq_zero.1 d2).resolve_left hd
      exact Prod.ext (by omega) (by omega)
    · refine ⟨g.ev (P.v i) - g.ev (P.v j) + g.ev (P.v j) - g.ev (P.v i) + 1 + (if g.ev (P.v i) ≤ g.ev (P.v j) then g.ev (P.v j) - g.ev (P.v i) else g.ev (P.v i) - g.ev (P.v j)), fun N hN hN0 hij => ?_⟩
      show (Aff.lc N f 1 g 0).ev (P.v i) ≠ (Aff.lc N f 1 g 0).ev (P.v j)
      rw [ev_lc, ev_lc]
      intro e2
      rcases (show f.ev (P.v i) + 1 ≤ f.ev (P.v j) ∨ f.ev (P.v j) + 1 ≤ f.ev (P.v i) by omega) with k | k
      · have := Int.mul_le_mul_of_nonneg_left k (show 0 ≤ N by omega)
        rw [Int.mul_add, Int.mul_one] at this
        split at hN <;> omega
      · have := Int.mul_le_mul_of_nonneg_left k (show 0 ≤ N by omega)
        rw [Int.mul_add, Int.mul_one] at this
        split at hN <;> omega
  exact this.imp fun N _ H i j hi hj hij => H i hi j hj hij
/-- At a corner that is lowest in some direction a positive polygon turns left. -/
theorem low_left {h : Aff} {P : Poly} (hP : SimpleP P) (hg : Gen h P) (hp : Pos h P) {s : Nat} (hs : LowAt h P s) : 0 < turnZ ((P.rot s).v 0) ((P.rot s).v 1) ((P.rot s).v 2) := by
  rcases side_or hP hg hs with ⟨_, g⟩ | ⟨g, _⟩
  · exact g
  · have := hP.n3
    have := (hp.left hP hg).uniq g (by omega)
    omega
/-- The same for a corner that is lowest by f and, among those, by g. -/
theorem low_two {P : Poly} (hP : SimpleP P) (ha : 0 < P.area) {f g : Aff} (hd : f.u * g.v - f.v * g.u ≠ 0) {s : Nat}
    (hl : ∀ j, j < P.n → j ≠ 1 → f.ev ((P.rot s).v 1) < f.ev ((P.rot s).v j) ∨ (f.ev ((P.rot s).v 1) = f.ev ((P.rot s).v j) ∧ g.ev ((P.rot s).v 1) < g.ev ((P.rot s).v j))) : 0 < turnZ ((P.rot s).v 0) ((P.rot s).v 1) ((P.rot s).v 2) := by
  have low : Late fun N => ∀ j, j < P.n → (j ≠ 1 → (Aff.lc N f 1 g 0).ev ((P.rot s).v 1) < (Aff.lc N f 1 g 0).ev ((P.rot s).v j)) := by
    refine Late.all fun j hj => ?_
    refine ⟨g.ev ((P.rot s).v 1) - g.ev ((P.rot s).v j) + 1, fun N hN hN0 hj1 => ?_⟩
    show (Aff.lc N f 1 g 0).ev _ < (Aff.lc N f 1 g 0).ev _
    rw [ev_lc, ev_lc]
    rcases hl j hj hj1 with k | ⟨k1, k2⟩
    · have := Int.mul_le_mul_of_nonneg_left (show f.ev ((P.rot s).v 1) + 1 ≤ f.ev ((P.rot s).v j) by omega) (show 0 ≤ N by omega)
      rw [Int.mul_add, Int.mul_one] at this
      omega
    · rw [k1]; omega
  obtain ⟨N, hN, hl, hg⟩ := (low.and (gen_two hP hd)).get
  exact low_left hP hg ((pos_iff hP hg).2 ha) (s := s) hl
/-- A wall of a positive polygon does not have all corners to its right. -/
theorem no_back {P : Poly} (hP : SimpleP P) (ha : 0 < P.area) {j : Nat} (he : ∀ k, k < P.n → 0 ≤ turnZ (P.v (j + 1)) (P.v j) (P.v k) ∧ (turnZ (P.v (j + 1)) (P.v j) (P.v k) = 0 → dotZ (P.v j) (P.v (j + 1)) (P.v k) ≤ 0)) : False := by
  have h3 := hP.n3
  obtain ⟨a, hA⟩ : ∃ a, a = P.v (j + 1) := ⟨_, rfl⟩
  obtain ⟨b, hB⟩ : ∃ b, b = P.v j := ⟨_, rfl⟩
  have hab : a ≠ b := by rw [hA, hB]; exact (hP.ne j).symm
  have hsq := sq_pos hab
  have all : ∀ k, 0 ≤ turnZ a b (P.v k) ∧ (turnZ a b (P.v k) = 0 → dotZ b a (P.v k) ≤ 0) := fun k => by
    have := he (k % P.n) (Nat.mod_lt _ (by omega))
    rw [P.per_mod] at this
    rw [hA, hB]; exact this
  -- lowest by the distance from the line and then towards b
  have dab : (Aff.turn a b).u * (Aff.lc (-1) (Aff.dot b a) 0 (Aff.dot b a) 0).v - (Aff.turn a b).v * (Aff.lc (-1) (Aff.dot b a) 0 (Aff.dot b a) 0).u ≠ 0 := by
    have : (Aff.turn a b).u * (Aff.lc (-1) (Aff.dot b a) 0 (Aff.dot b a) 0).v - (Aff.turn a b).v * (Aff.lc (-1) (Aff.dot b a) 0 (Aff.dot b a) 0).u = -((b.1 - a.1) * (b.1 - a.1) + (b.2 - a.2) * (b.2 - a.2)) ∨
        (Aff.turn a b).u * (Aff.lc (-1) (Aff.dot b a) 0 (Aff.dot b a) 0).v - (Aff.turn a b).v * (Aff.lc (-1) (Aff.dot b a) 0 (Aff.dot b a) 0).u = ((b.1 - a.1) * (b.1 - a.1) + (b.2 - a.2) * (b.2 - a.2)) := by
      unfold Aff.turn Aff.lc Aff.dot; grind
    omega
  have taa : turnZ a b a = 0 := by unfold turnZ; grind
  have daa : dotZ b a a = 0 := by unfold dotZ; grind
  have t := low_two hP ha dab (s := j) (fun k hk hk1 => ?_)
  · have t : 0 < turnZ b a (P.v (j + 2)) := by rw [hA, hB]; exact t
    have := (all (j + 2)).1
    have e : turnZ b a (P.v (j + 2)) = - turnZ a b (P.v (j + 2)) := by unfold turnZ; grind
    omega
  · have e1 : (P.rot j).v 1 = a := hA.symm
    have ek : (P.rot j).v k = P.v (j + k) := rfl
    rw [e1, ek, ev_turn, ev_turn, ev_lc, ev_lc, ev_dot, ev_dot, taa, daa]
    obtain ⟨g1, g2⟩ := all (j + k)
    rcases (show 0 < turnZ a b (P.v (j + k)) ∨ turnZ a b (P.v (j + k)) = 0 by omega) with g | g
    · exact .inl g
    · refine .inr ⟨g.symm, ?_⟩
      have hne : P.v (j + k) ≠ a := by
        have := (hP.rot j).inj (i := k) (j := 1) hk (by show 1 < P.n; omega) hk1
        rw [hA]; exact this
      rcases (show dotZ b a (P.v (j + k)) < 0 ∨ dotZ b a (P.v (j + k)) = 0 by have := g2 g; omega) with g' | g'
      · omega
      · exfalso
        have tba : turnZ b a (P.v (j + k)) = 0 := by
          have e : turnZ b a (P.v (j + k)) = - turnZ a b (P.v (j + k)) := by unfold turnZ; grind
          omega
        have m := line_mean tba
        have hsq' := sq_pos (fun e => hab e.symm : b ≠ a)
        rw [g', Int.neg_zero] at m
        have m1 := m ⟨1, 0, 0⟩
        have m2 := m ⟨0, 1, 0⟩
        simp only [Aff.ev, Int.one_mul, Int.zero_mul, Int.zero_add, Int.add_zero] at m1 m2
        exact hne (Prod.ext (Int.eq_of_mul_eq_mul_left (by omega) m1) (Int.eq_of_mul_eq_mul_left (by omega) m2))
/-! ### Rooms are positive simple polygons -/
def roomP (xs : List Pt) : Poly := ⟨xs.length, fun j => pCy xs j, fun j => by show xs.getD ((j + xs.length) % xs.length) _ = _; rw [Nat.add_mod_right]⟩
theorem sgn_opp {m n : Int} : sgn m * sgn n < 0 ↔ (m < 0 ∧ 0 < n) ∨ (n < 0 ∧ 0 < m) := by
  rcases sgn_cases m with ⟨h, e⟩ | ⟨h, e⟩ | ⟨h, e⟩ <;> rcases sgn_cases n with ⟨h', e'⟩ | ⟨h', e'⟩ | ⟨h', e'⟩ <;> rw [e, e'] <;> omega
theorem mean_between {s t p a b : Int} (hs : 0 ≤ s) (ht : 0 ≤ t) (h0 : 0 < s + t) (e : (s + t) * p = s * a + t * b) : min a b ≤ p ∧ p ≤ max a b := by
  constructor
  · rcases (show min a b ≤ p ∨ p < min a b by omega) with g | g
    · exact g
    · exfalso
      have g1 := nn0 hs (show 0 ≤ a - p - 1 by omega)
      have g2 := nn0 ht (show 0 ≤ b - p - 1 by omega)
      rw [Int.mul_sub, Int.mul_sub, Int.mul_one] at g1 g2
      rw [Int.add_mul] at e
      omega
  · rcases (show p ≤ max a b ∨ max a b < p by omega) with g | g
    · exact g
    · exfalso
      have g1 := nn0 hs (show 0 ≤ p - a - 1 by omega)
      have g2 := nn0 ht (show 0 ≤ p - b - 1 by omega)
      rw [Int.mul_sub, Int.mul_sub, Int.mul_one] at g1 g2
      rw [Int.add_mul] at e
      omega
theorem OnM.onS {p a b : Pt} (ha : Bd a) (hb : Bd b) (hp : Bd p) (h : OnM p a b) : onS p a b = true := by
  obtain ⟨s, t, hs, ht, h0, h⟩ := h
  have e := OnM.turns h a b
  have taa : turnZ a b a = 0 := by unfold turnZ; grind
  have tbb : turnZ a b b = 0 := by unfold turnZ; grind
  rw [taa, tbb, Int.mul_zero, Int.mul_zero] at e
  have e0 : turnZ a b p = 0 := by rcases Int.mul_eq_zero.1 e with g | g <;> omega
  have e1 := h ⟨1, 0, 0⟩
  have e2 := h ⟨0, 1, 0⟩
  simp only [Aff.ev, Int.one_mul, Int.zero_mul, Int.zero_add, Int.add_zero] at e1 e2
  have b1 := mean_between hs ht h0 e1
  have b2 := mean_between hs ht h0 e2
  unfold Proofs.Ytfjmlaciogmndaa.onS
  rw [turn_exact ha hb hp, e0]
  simp only [decide_true, Bool.true_and, Bool.and_eq_true, btw_iff]
  exact ⟨b1, b2⟩
theorem onS_OnM {p a b : Pt} (ha : Bd a) (hb : Bd b) (hp : Bd p) (h : onS p a b = true) : OnM p a b := by
  unfold Proofs.Ytfjmlaciogmndaa.onS at h
  rw [turn_exact ha hb hp] at h
  simp only [Bool.and_eq_true, decide_eq_true_eq, btw_iff] at h
  obtain ⟨h0, ⟨h1, h2⟩, h3, h4⟩ := h
  by_cases hab : a = b
  · subst hab
    have e : p = a := Prod.ext (by omega) (by omega)
    subst e
    exact ⟨1, 0, by omega, by omega, by omega, fun f => by omega⟩
  · have hN := sq_pos hab
    have m := line_mean h0
    have x1 : dotZ a b p ≤ 0 := by
      unfold dotZ
      have g1 : (b.1 - a.1) * (p.1 - b.1) ≤ 0 := by
        rcases (show a.1 ≤ b.1 ∨ b.1 ≤ a.1 by omega) with g | g
        · exact pm0 (by omega) (by omega)
        · exact mp0 (by omega) (by omega)
      have g2 : (b.2 - a.2) * (p.2 - b.2) ≤ 0 := by
        rcases (show a.2 ≤ b.2 ∨ b.2 ≤ a.2 by omega) with g | g
        · exact pm0 (by omega) (by omega)
        · exact mp0 (by omega) (by omega)
      omega
    have x2 : 0 ≤ ((b.1 - a.1) * (b.1 - a.1) + (b.2 - a.2) * (b.2 - a.2)) + dotZ a b p := by
      have e : ((b.1 - a.1) * (b.1 - a.1) + (b.2 - a.2) * (b.2 - a.2)) + dotZ a b p = (b.1 - a.1) * (p.1 - a.1) + (b.2 - a.2) * (p.2 - a.2) := by unfold dotZ; grind
      rw [e]
      have g1 : 0 ≤ (b.1 - a.1) * (p.1 - a.1) := by
        rcases (show a.1 ≤ b.1 ∨ b.1 ≤ a.1 by omega) with g | g
        · exact nn0 (by omega) (by omega)
        · exact mm0 (by omega) (by omega)
      have g2 : 0 ≤ (b.2 - a.2) * (p.2 - a.2) := by
        rcases (show a.2 ≤ b.2 ∨ b.2 ≤ a.2 by omega) with g | g
        · exact nn0 (by omega) (by omega)
        · exact mm0 (by omega) (by omega)
      omega
    refine ⟨-(dotZ a b p), ((b.1 - a.1) * (b.1 - a.1) + (b.2 - a.2) * (b.2 - a.2)) + dotZ a b p, by omega, x2, by omega, fun f => ?_⟩
    rw [← m f]
    congr 1
    omega
theorem meet_part {v w : Pt × Pt} (hv : wallOk v = true) (hw : wallOk w = true) (h : meet v w = false) : Part v.1 v.2 w.1 w.2 := by
  have pv := hv
  have pw := hw
  unfold wallOk at pv pw
  simp only [Bool.and_eq_true, Bool.not_eq_true', decide_eq_false_iff_not] at pv pw
  have b1 := bd_of_ok pv.1
  have b2 := bd_of_ok pv.2.1
  have b3 := bd_of_ok pw.1
  have b4 := bd_of_ok pw.2.1
  unfold meet at h
  rw [hv, hw] at h
  simp only [Bool.true_and, Bool.or_eq_false_iff] at h
  obtain ⟨h1, h2, h3, h4, h5⟩ := h
  rcases part_or_on (q := w.1) (r := w.2) pv.2.2 pw.2.2 with g | g | g | g | g | ⟨g1, g2⟩
  · exact g
  · rw [g.onS b1 b2 b3] at h4; exact absurd h4 (by decide)
  · rw [g.onS b1 b2 b4] at h5; exact absurd h5 (by decide)
  · rw [g.onS b3 b4 b1] at h2; exact absurd h2 (by decide)
  · rw [g.onS b3 b4 b2] at h3; exact absurd h3 (by decide)
  · exfalso
    unfold crs at h1
    rw [turn_exact b3 b4 b1, turn_exact b3 b4 b2, turn_exact b1 b2 b3, turn_exact b1 b2 b4, decide_eq_true (sgn_opp.2 g1), decide_eq_true (sgn_opp.2 g2)] at h1
    exact absurd h1 (by decide)
theorem room_simple {xs : List Pt} (h : roomOk xs = true) : SimpleP (roomP xs) := by
  obtain ⟨⟨h3, h10⟩, hp, hok, _⟩ := roomOk_iff.1 h
  have hb := bd_of_room h
  have vj : ∀ j, j < xs.length → (roomP xs).v j = pAt xs j := fun j hj => pCy_lt hj
  refine simple_of h3 (fun j hj => ?_) (fun i k hik hk hne => ?_)
  · have hj : j < xs.length := hj
    have := (okAt_iff.1 (hok j hj)).1
    rw [turn_exact (pAt_bd hb hj) (pCy_bd hb (by omega)) (pCy_bd hb (by omega))] at this
    rw [vj j hj]; exact this
  · have hk : k < xs.length := hk
    have hne : ¬ (i = 0 ∧ k + 1 = xs.length) := hne
    have hi : i < xs.length := by omega
    have hm := (okAt_half.1 hok i hi).2 k hik hk (by
      rcases (show k + 1 < xs.length ∨ k + 1 = xs.length by omega) with g | g
      · rw [Nat.mod_eq_of_lt g]; omega
      · rw [g, Nat.mod_self]; omega)
    have := meet_part (room_wallOk h hi) (room_wallOk h hk) hm
    rw [vj i hi, vj k hk]
    exact this
theorem mul_bd {x y : Int} (h1 : -40 ≤ x ∧ x ≤ 40) (h2 : -40 ≤ y ∧ y ≤ 40) : -1600 ≤ x * y ∧ x * y ≤ 1600 := by
  have a1 := nn0 (show 0 ≤ 40 - x by omega) (show 0 ≤ 40 - y by omega)
  have a2 := nn0 (show 0 ≤ 40 + x by omega) (show 0 ≤ 40 + y by omega)
  have a3 := nn0 (show 0 ≤ 40 - x by omega) (show 0 ≤ 40 + y by omega)
  have a4 := nn0 (show 0 ≤ 40 + x by omega) (show 0 ≤ 40 - y by omega)
  have e1 : (40 - x) * (40 - y) = 1600 - 40 * x - 40 * y + x * y := by grind
  have e2 : (40 + x) * (40 + y) = 1600 + 40 * x + 40 * y + x * y := by grind
  have e3 : (40 - x) * (40 + y) = 1600 - 40 * x + 40 * y - x * y := by grind
  have e4 : (40 + x) * (40 - y) = 1600 + 40 * x - 40 * y - x * y := by grind
  omega
theorem room_dbl {xs : List Pt} (h : ∀ q ∈ xs, -40 ≤ q.1 ∧ q.1 ≤ 40 ∧ -40 ≤ q.2 ∧ q.2 ≤ 40) (hn : 0 < xs.length) : ∀ k, k ≤ xs.length → dblTo xs k = sumN (fun k => crs0 ((roomP xs).v k) ((roomP xs).v (k + 1))) k ∧ -(3200 * (k : Int)) ≤ dblTo xs k ∧ dblTo xs k ≤ 3200 * (k : Int) := by
  intro k
  induction k with
  | zero => intro _; exact ⟨rfl, by show _ ≤ (0 : Int); omega, by show (0 : Int) ≤ _; omega⟩
  | succ k ih =>
    intro hk
    obtain ⟨e, l, u⟩ := ih (by omega)
    have gp : ∀ j, j < xs.length → -40 ≤ (pAt xs j).1 ∧ (pAt xs j).1 ≤ 40 ∧ -40 ≤ (pAt xs j).2 ∧ (pAt xs j).2 ≤ 40 := fun j hj => h _ (by rw [show pAt xs j = xs[j] from getD_lt _ hj]; exact List.getElem_mem hj)
    have g1 := gp k (by omega)
    have g2 : -40 ≤ (pCy xs (k + 1)).1 ∧ (pCy xs (k + 1)).1 ≤ 40 ∧ -40 ≤ (pCy xs (k + 1)).2 ∧ (pCy xs (k + 1)).2 ≤ 40 := gp ((k + 1) % xs.length) (Nat.mod_lt _ hn)
    have m1 := mul_bd ⟨g1.1, g1.2.1⟩ ⟨g2.2.2.1, g2.2.2.2⟩
    have m2 := mul_bd ⟨g1.2.2.1, g1.2.2.2⟩ ⟨g2.1, g2.2.1⟩
    have ec : cr (pAt xs k) (pCy xs (k + 1)) = crs0 ((roomP xs).v k) ((roomP xs).v (k + 1)) := by
      rw [show (roomP xs).v k = pAt xs k from pCy_lt (by omega)]; rfl
    refine ⟨by show dblTo xs k + _ = sumN _ k + _; rw [e, ec], ?_, ?_⟩
    · show _ ≤ dblTo xs k + cr _ _
      unfold cr; omega
    · show dblTo xs k + cr _ _ ≤ _
      unfold cr; omega
theorem room_area {xs : List Pt} (h : roomOk xs = true) : dbl xs = (roomP xs).area ∧ 0 < (roomP xs).area ∧ (roomP xs).area ≤ 32000 := by
  obtain ⟨⟨h3, h10⟩, hp, hok, ha⟩ := roomOk_iff.1 h
  obtain ⟨e, l, u⟩ := room_dbl (pt_of_room h) (by omega) xs.length (by omega)
  have e : dbl xs = (roomP xs).area := e
  have l : -(3200 * (xs.length : Int)) ≤ dbl xs := l
  have u : dbl xs ≤ 3200 * (xs.length : Int) := u
  rw [W_in (by omega) (by omega)] at ha
  exact ⟨e, by omega, by omega⟩
theorem room_pos_h {xs : List Pt} (h : roomOk xs = true) {g : Aff} (hg : Gen g (roomP xs)) : Pos g (roomP xs) := (pos_iff (room_simple h) hg).2 (room_area h).2.1
theorem room_left {xs : List Pt} (h : roomOk xs = true) {g : Aff} (hg : Gen g (roomP xs)) : LeftIs g (roomP xs).way 1 := (room_pos_h h hg).left (room_simple h) hg
end Go.Proofs.Ytfjmlaciogmndaa.Geo
