/- What the proof of 'FnKernels' needs, part 7: conditions and steps of the functions that it reaches, and the mathematics. -/
import Derived.Test.YtnepfcnlngpchaaRows
import Derived.WalkKit
import Derived.WalkSpells
import Derived.Below
import Derived.Orders
import Derived.Maps.AppendAt
import Derived.Laws.StructEq
import Derived.WideShapes
import Derived.ChangeSlices
import Derived.Deep.Strs
import Derived.ChangeOld
import Derived.Shelf.SlLaysF0
import Derived.Shelf.SlSortCmp.InsertionK
import Derived.Shelf.SlSortCmp.SmallK
import Derived.Shelf.SlSortCmp.Xorshift
import Derived.Sort.LotA
import Derived.Test.YtnepfcnlngpchaaSFnKernels6
namespace Go.Proofs.Ytnepfcnlngpchaa
open Go.RowKit Go.Proofs.Ytnepfcnlngpchaa.Nm
set_option maxRecDepth 10000
set_option maxHeartbeats 4000000
set_option linter.unusedSimpArgs false
set_option linter.unusedVariables false
def drawRoomM (bs : List Int) : List Pt := roomX (newC bs)
def drawRoomC : Con := mkCon [.sl (.b .u8)] (fun x => x.1.length ≤ 1048576) fun x => .val (.agg [.d (.sl none (.b .pt) (drawRoomM x.1))])
theorem drawRoom_ok : Good1 Try.prog n_spec_DrawRoom drawRoomC := by
  refine good_ofG (tys := tyL) (env := []) (envw := []) (envd := [(n_spec_l01New, l01NewC), (n_spec_l04Room, l04RoomC)]) [4, 5] [4, 5] [] [] [4, 5] mixed tys trivial trivial ⟨l01New_ok, l04Room_ok, trivial⟩ Try.func12 rfl (by kernel_rfl) (by decide) (by kernel_rfl) ?_
  have hG_ := kpz [(0, [0, 2]), (1, [2])] [(0, [2]), (1, [2, 4])] [] []
  rintro ⟨(bs : List Int), ⟨⟩⟩ (h1 : bs.length ≤ _)
  have hc := newC_ok h1
  (repeat' (first | with_reducible exact True.intro | with_reducible refine st_seq ?_ | (with_reducible refine st_regionG hG_ ?_; intro K_ hK_) | (with_reducible refine st_region ?_; intro K_ hK_) | (with_reducible refine hK_ _ _ ?_; try clear hK_ K_) | ((with_reducible refine st_cond (b := ?b_) ?hb_ ?_ ?_); case hb_ => rfl) | with_reducible refine sq_n ?_ | with_reducible refine sq_r ?_ | with_reducible refine sq_e ?_ | with_reducible refine bq_n ?_ | with_reducible refine bq_r ?_ | with_reducible refine bq_q ?_ | with_reducible refine st_block ?_ | with_reducible refine st_exit ?_ | with_reducible refine st_ret ?_ | with_reducible refine st_skip ?_ | with_reducible refine gq_n ?_ | with_reducible refine gq_r ?_ | with_reducible refine gq_e ?_ | with_reducible refine lq_n ?_ | with_reducible refine lq_r ?_ | with_reducible refine lq_e ?_ | with_reducible refine bq_e (by decide) ?_ | ((conv => whnf); first | (with_reducible refine hK_ _ _ ?_; try clear hK_ K_) | (with_reducible refine fun (g_ : Sl) (o_ : Ow) => ?_) | with_reducible exact True.intro | with_reducible refine And.intro trivial ?_ | with_reducible refine And.intro ?_ ?_ | exact Nat.le_of_ble_eq_true rfl | exact Or.inl rfl | (intro h_; cases h_) | (intro h_; (try simp only [cond_true, cond_false, decide_eq_true_eq, decide_eq_false_iff_not, Bool.not_eq_true', Bool.not_eq_false', Int.toNat_natCast, prodEta] at h_)) | rfl))) <;> (try (conv => whnf)) <;> (try first | change (_ : Int) ≤ _ | change (_ : Nat) ≤ _) <;> (try ((fail_if_success (with_reducible apply Exists.intro)); (try dsimp only); (try simp only [cond_true, cond_false, decide_eq_true_eq, decide_eq_false_iff_not, Bool.not_eq_true', Bool.not_eq_false', Int.toNat_natCast, prodEta])))
  all_goals (try (fail_if_success (with_reducible apply Exists.intro)); first | with_reducible assumption | omega | exact mdl (by omega) | exact ilo1 (by omega) | exact ilo2 (by omega) | exact ihi1 (by omega) (by omega) | exact ihi2 (by omega) (by omega))
end Go.Proofs.Ytnepfcnlngpchaa
namespace Go.Proofs.Ytnepfcnlngpchaa.Geo
set_option linter.unusedSimpArgs false
set_option linter.unusedVariables false
structure Mv where
  a : Int
  b : Int
  e : Int
  f : Int
  one : a * a + b * b = 1
def Mv.app (g : Mv) (p : Pt) : Pt := (g.a * p.1 - g.b * p.2 + g.e, g.b * p.1 + g.a * p.2 + g.f)
theorem turn_mv (g : Mv) (p q r : Pt) : turnZ (g.app p) (g.app q) (g.app r) = turnZ p q r := by
  have : turnZ (g.app p) (g.app q) (g.app r) = (g.a * g.a + g.b * g.b) * turnZ p q r := by unfold turnZ Mv.app; grind
  rw [this, g.one, Int.one_mul]
theorem dot_mv (g : Mv) (p q r : Pt) : dotZ (g.app p) (g.app q) (g.app r) = dotZ p q r := by
  have : dotZ (g.app p) (g.app q) (g.app r) = (g.a * g.a + g.b * g.b) * dotZ p q r := by unfold dotZ Mv.app; grind
  rw [this, g.one, Int.one_mul]
def Aff.mv (h : Aff) (g : Mv) : Aff := ⟨h.u * g.a - h.v * g.b, h.u * g.b + h.v * g.a, h.w - (h.u * g.a - h.v * g.b) * g.e - (h.u * g.b + h.v * g.a) * g.f⟩
theorem ev_mv (h : Aff) (g : Mv) (p : Pt) : (h.mv g).ev (g.app p) = h.ev p := by
  have : (h.mv g).ev (g.app p) = (g.a * g.a + g.b * g.b) * (h.u * p.1 + h.v * p.2) + h.w := by unfold Aff.ev Aff.mv Mv.app; grind
  rw [this, g.one, Int.one_mul]; rfl
theorem mv_inj (g : Mv) {p q : Pt} (h : g.app p = g.app q) : p = q := by
  have h1 := congrArg Prod.fst h
  have h2 := congrArg Prod.snd h
  simp only [Mv.app] at h1 h2
  have o := g.one
  refine Prod.ext ?_ ?_
  · have : (g.a * g.a + g.b * g.b) * p.1 = (g.a * g.a + g.b * g.b) * q.1 := by grind
    rwa [o, Int.one_mul, Int.one_mul] at this
  · have : (g.a * g.a + g.b * g.b) * p.2 = (g.a * g.a + g.b * g.b) * q.2 := by grind
    rwa [o, Int.one_mul, Int.one_mul] at this
def Poly.mv (P : Poly) (g : Mv) : Poly := ⟨P.n, fun j => g.app (P.v j), fun j => by show g.app (P.v (j + P.n)) = _; rw [P.per]⟩
theorem Part.mv {a b q r : Pt} (h : Part a b q r) (g : Mv) : Part (g.app a) (g.app b) (g.app q) (g.app r) := by
  obtain ⟨f, h1, h2, h3, h4⟩ := h
  exact ⟨f.mv g, by rwa [ev_mv], by rwa [ev_mv], by rwa [ev_mv], by rwa [ev_mv]⟩
theorem Off.mv {p a b : Pt} (h : Off p a b) (g : Mv) : Off (g.app p) (g.app a) (g.app b) := by
  obtain ⟨f, h1, h2, h3⟩ := h
  exact ⟨f.mv g, by rwa [ev_mv], by rwa [ev_mv], by rwa [ev_mv]⟩
theorem Bends.mv {a b z : Pt} (h : Bends a b z) (g : Mv) : Bends (g.app a) (g.app b) (g.app z) :=
  ⟨fun e => h.1 (mv_inj g e), by rw [turn_mv, dot_mv]; exact h.2⟩
theorem SimpleP.mv {P : Poly} (h : SimpleP P) (g : Mv) : SimpleP (P.mv g) :=
  ⟨h.n3, fun j d h1 h2 => (h.off j d h1 h2).mv g, fun j d h1 h2 => (h.apart j d h1 h2).mv g, fun k => ⟨(h.bend k).1.mv g, (h.bend k).2.mv g⟩⟩
theorem sumN_add (f g : Nat → Int) : ∀ n, sumN (fun k => f k + g k) n = sumN f n + sumN g n
  | 0 => rfl
  | n + 1 => by simp only [sumN]; rw [sumN_add f g n]; omega
theorem area_mv (P : Poly) (g : Mv) : (P.mv g).area = P.area := by
  obtain ⟨J, hJ⟩ : ∃ J : Nat → Int, ∀ j, J j = g.e * (g.b * (P.v j).1 + g.a * (P.v j).2) - g.f * (g.a * (P.v j).1 - g.b * (P.v j).2) := ⟨_, fun _ => rfl⟩
  have e : ∀ k, crs0 ((P.mv g).v k) ((P.mv g).v (k + 1)) = crs0 (P.v k) (P.v (k + 1)) + (J (k + 1) - J k) := fun k => by
    have o := g.one
    show crs0 (g.app (P.v k)) (g.app (P.v (k + 1))) = _
    rw [hJ, hJ]
    generalize P.v k = p
    generalize P.v (k + 1) = q
    have : crs0 (g.app p) (g.app q) = (g.a * g.a + g.b * g.b) * crs0 p q + (g.e * (g.b * q.1 + g.a * q.2) - g.f * (g.a * q.1 - g.b * q.2) - (g.e * (g.b * p.1 + g.a * p.2) - g.f * (g.a * p.1 - g.b * p.2))) := by unfold crs0 Mv.app; grind
    rw [this, o, Int.one_mul]
  unfold Poly.area
  show sumN (fun k => crs0 ((P.mv g).v k) ((P.mv g).v (k + 1))) P.n = _
  rw [sumN_congr fun k _ => e k, sumN_add, sumN_tel, hJ, hJ, P.vn]
  omega
theorem part_meet {v w : Pt × Pt} (hv : Bd v.1 ∧ Bd v.2) (hw : Bd w.1 ∧ Bd w.2) (h : Part v.1 v.2 w.1 w.2) : meet v w = false := by
  have on : ∀ {p a b : Pt}, Bd p → Bd a → Bd b → Off p a b → onS p a b = false := fun {p a b} hp ha hb ho => by
    cases hc : onS p a b with
    | false => rfl
    | true => exact absurd ho (onS_OnM ha hb hp hc).not_off
  have hs := h.symm
  have o1 := on hv.1 hw.1 hw.2 hs.off1
  have o2 := on hv.2 hw.1 hw.2 hs.off2
  have o3 := on hw.1 hv.1 hv.2 h.off1
  have o4 := on hw.2 hv.1 hv.2 h.off2
  have o5 : crs w.1 w.2 v.1 v.2 = false := by
    cases hc : crs w.1 w.2 v.1 v.2 with
    | false => rfl
    | true =>
      exfalso
      unfold crs at hc
      rw [turn_exact hw.1 hw.2 hv.1, turn_exact hw.1 hw.2 hv.2, turn_exact hv.1 hv.2 hw.1, turn_exact hv.1 hv.2 hw.2, Bool.and_eq_true, decide_eq_true_eq, decide_eq_true_eq, sgn_opp, sgn_opp] at hc
      exact cross_not_part h hc.1 hc.2
  unfold meet
  rw [o1, o2, o3, o4, o5]
  simp
theorem room_of {xs : List Pt} (h3 : 3 ≤ xs.length) (h10 : xs.length ≤ 10) (hp : ∀ q ∈ xs, ptOk q = true) (hs : SimpleP (roomP xs)) (ht : ∀ j, turnZ ((roomP xs).v j) ((roomP xs).v (j + 1)) ((roomP xs).v (j + 2)) ≠ 0) (hA : 0 < (roomP xs).area) : roomOk xs = true := by
  have hb : ∀ q ∈ xs, Bd q := fun q hq => bd_of_ok (hp q hq)
  refine roomOk_iff.2 ⟨⟨h3, h10⟩, List.all_eq_true.2 hp, okAt_half.2 fun i hi => ⟨?_, fun k hik hk hne => ?_⟩, ?_⟩
  · rw [turn_exact (pAt_bd hb hi) (pCy_bd hb (by omega)) (pCy_bd hb (by omega)), ← v_lt hi]
    exact ht i
  · refine part_meet ⟨pAt_bd hb hi, pCy_bd hb (by omega)⟩ ⟨pAt_bd hb hk, pCy_bd hb (by omega)⟩ ?_
    show Part (pAt xs i) (pCy xs (i + 1)) (pAt xs k) (pCy xs (k + 1))
    rw [← v_lt hi, ← v_lt hk]
    refine hs.apartI hk hik fun ⟨e1, e2⟩ => hne ?_
    have e2 : k + 1 = xs.length := e2
    rw [e2, Nat.mod_self, e1]
  · obtain ⟨e, l, u⟩ := room_dbl (fun q hq => ptOk_iff.1 (hp q hq)) (by omega) xs.length (Nat.le_refl _)
    have e : dbl xs = (roomP xs).area := e
    have hd : dbl xs = dblTo xs xs.length := rfl
    rw [W_in (by omega) (by omega), e]; exact hA
theorem area_rot' (P : Poly) (s : Nat) (g : Mv) : ((P.rot s).mv g).area = P.area := (area_mv _ g).trans (area_rot P s)
theorem room_moved {xs ys : List Pt} (hr : roomOk xs = true) (s : Nat) (g : Mv) (hl : ys.length = xs.length) (hv : ∀ j, pCy ys j = g.app (pCy xs (s + j))) (hp : ∀ q ∈ ys, ptOk q = true) : roomOk ys = true := by
  have h3 := (roomOk_iff.1 hr).1
  have e : roomP ys = ((roomP xs).rot s).mv g := Poly.ext' hl fun j => hv j
  refine room_of (by omega) (by omega) hp (by rw [e]; exact ((room_simple hr).rot s).mv g) (fun j => ?_) (by rw [e, area_rot']; exact (room_area hr).2.1)
  rw [e]
  show turnZ (g.app _) (g.app _) (g.app _) ≠ 0
  rw [turn_mv]
  exact room_turns hr (s + j)
end Go.Proofs.Ytnepfcnlngpchaa.Geo
namespace Go.Proofs.Ytnepfcnlngpchaa
open Go.RowKit Go.Proofs.Ytnepfcnlngpchaa.Nm
set_option maxRecDepth 10000
set_option linter.unusedSimpArgs false
set_option linter.unusedVariables false
theorem shape_bd (k : Int) : ∀ q ∈ shapeM k, 0 ≤ q.1 ∧ q.1 ≤ 10 ∧ 0 ≤ q.2 ∧ q.2 ≤ 10 := by
  unfold shapeM
  repeat' split
  all_goals decide
theorem stepR_bd {s : List Pt × Cur} {j : Int} (hr : roomOk s.1 = true) (h : ∀ q ∈ s.1, -j ≤ q.1 ∧ q.1 ≤ 10 + j ∧ -j ≤ q.2 ∧ q.2 ≤ 10 + j) : ∀ q ∈ (stepR s).1, -(j + 1) ≤ q.1 ∧ q.1 ≤ 10 + (j + 1) ∧ -(j + 1) ≤ q.2 ∧ q.2 ≤ 10 + (j + 1) := by
  have h3 := (roomOk_iff.1 hr).1
  intro q hq
  have old : q ∈ s.1 → -(j + 1) ≤ q.1 ∧ q.1 ≤ 10 + (j + 1) ∧ -(j + 1) ≤ q.2 ∧ q.2 ≤ 10 + (j + 1) := fun hq => by have := h q hq; omega
  unfold stepR at hq
  simp only at hq
  split at hq
  · unfold stepX at hq
    rcases List.mem_or_eq_of_mem_set hq with hq | rfl
    · exact old hq
    · have hb := below_bd (c := s.2) (n := (s.1.length : Int)) (by omega)
      have hi : (belowX s.2 s.1.length).toNat < s.1.length := by omega
      have := h _ (List.getElem_mem hi)
      rw [← getD_lt (0, 0) hi] at this
      have b1 := below_bd (c := belowC s.2 s.1.length) (n := 3) (by decide)
      have b2 := below_bd (c := belowC (belowC s.2 s.1.length) 3) (n := 3) (by decide)
      simp only
      omega
  · exact old hq
theorem iterR_bd (c : Cur) : ∀ j : Nat, ∀ q ∈ (iterR (room0 c) j).1, -(j : Int) ≤ q.1 ∧ q.1 ≤ 10 + (j : Int) ∧ -(j : Int) ≤ q.2 ∧ q.2 ≤ 10 + (j : Int)
  | 0 => fun q hq => by have := shape_bd _ q hq; omega
  | j + 1 => stepR_bd (iterR_ok (shape_ok _) j) (iterR_bd c j)
def laidMv (turn dx : Int) : Geo.Mv := if turn = 1 then ⟨0, 1, dx, 0, rfl⟩ else if turn = 2 then ⟨-1, 0, dx, 0, rfl⟩ else ⟨1, 0, dx, 0, rfl⟩
theorem laidMv_app (turn dx : Int) (p : Pt) : laidP turn dx p = (laidMv turn dx).app p := by
  unfold laidP turnP laidMv Geo.Mv.app
  split
  · refine Prod.ext ?_ ?_ <;> simp only <;> omega
  · split
    · refine Prod.ext ?_ ?_ <;> simp only <;> omega
    · refine Prod.ext ?_ ?_ <;> simp only <;> omega
theorem laidR_len (xs : List Pt) (turn first dx : Int) : (laidR xs turn first dx).length = xs.length := by unfold laidR; simp
theorem laid_ok {xs : List Pt} (hr : roomOk xs = true) {turn first dx : Int} (hb : ∀ q ∈ xs, -30 ≤ q.1 ∧ q.1 ≤ 30 ∧ -30 ≤ q.2 ∧ q.2 ≤ 30) (hd : -2 ≤ dx ∧ dx ≤ 2) : roomOk (laidR xs turn first dx) = true := by
  have h3 := (roomOk_iff.1 hr).1
  have hn : 0 < xs.length := by omega
  refine Geo.room_moved hr first.toNat (laidMv turn dx) (laidR_len _ _ _ _) (fun j => ?_) fun q hq => ?_
  · show (laidR xs turn first dx).getD (j % (laidR xs turn first dx).length) (0, 0) = _
    rw [laidR_len]
    have hj := Nat.mod_lt j hn
    rw [getD_lt _ (by rw [laidR_len]; exact hj)]
    unfold laidR
    rw [List.getElem_map, List.getElem_range]
    show laidP turn dx (xs.getD ((first.toNat + j % xs.length) % xs.length) (0, 0)) = _
    rw [laidMv_app, Nat.add_mod_mod]
  · unfold laidR at hq
    obtain ⟨k, -, rfl⟩ := List.mem_map.1 hq
    have hm : (first.toNat + k) % xs.length < xs.length := Nat.mod_lt _ hn
    have := hb _ (List.getElem_mem hm)
    rw [← getD_lt (0, 0) hm] at this
    show ptOk (laidP turn dx (xs.getD _ _)) = true
    refine ptOk_iff.2 ?_
    unfold laidP turnP
    repeat' split
    all_goals simp only; omega
theorem roomX_ok (c : Cur) : roomOk (roomX c) = true := by
  have hK : 0 ≤ roomK c ∧ roomK c < 4 := below_bd (by decide)
  refine laid_ok (iterR_ok (s := room0 c) (shape_ok _) _) (fun q hq => ?_) ?_
  · have := iterR_bd c _ q hq
    omega
  · have := below_bd (c := belowC (belowC (roomS c).2 4) (roomS c).1.length) (n := 5) (by decide)
    omega
theorem drawRoom_room (bs : List Int) : roomOk (drawRoomM bs) = true := roomX_ok _
end Go.Proofs.Ytnepfcnlngpchaa
namespace Go.Proofs.Ytnepfcnlngpchaa
set_option linter.unusedSimpArgs false
set_option linter.unusedVariables false
def cross (u v : Pt) : Int := u.1 * v.2 - u.2 * v.1
def sub (b a : Pt) : Pt := (b.1 - a.1, b.2 - a.2)
def Up (s : Int) (d : Pt) : Prop := 0 < s * d.2 ∨ (s * d.2 = 0 ∧ 0 < s * d.1)
def Lt (s : Int) (a b : Pt) : Prop := Up s (sub b a)
abbrev Sg (s : Int) : Prop := s = 1 ∨ s = -1
theorem turn_cross (a b c : Pt) : turnZ a b c = cross (sub b a) (sub c a) := rfl
theorem up_lin {s : Int} (hs : Sg s) {d : Pt} : Up s d ↔ (s = 1 ∧ (0 < d.2 ∨ (d.2 = 0 ∧ 0 < d.1))) ∨ (s = -1 ∧ (d.2 < 0 ∨ (d.2 = 0 ∧ d.1 < 0))) := by
  unfold Up
  rcases hs with rfl | rfl <;> simp <;> omega
theorem lt_trans {s : Int} (hs : Sg s) {a b c : Pt} (h : Lt s a b) (k : Lt s b c) : Lt s a c := by
  unfold Lt sub at *
  rw [up_lin hs] at *
  simp only at *
  omega
theorem lt_irrefl {s : Int} (hs : Sg s) {a : Pt} (h : Lt s a a) : False := by
  unfold Lt sub at *
  rw [up_lin hs] at *
  simp only at *
  omega
theorem lt_total {s : Int} (hs : Sg s) (a b : Pt) : a = b ∨ Lt s a b ∨ Lt s b a := by
  unfold Lt sub
  rw [up_lin hs, up_lin hs]
  simp only
  by_cases h : a = b
  · exact .inl h
  · have : a.1 ≠ b.1 ∨ a.2 ≠ b.2 := by
      by_cases h1 : a.1 = b.1
      · exact .inr fun h2 => h (Prod.ext h1 h2)
      · exact .inl h1
    rcases hs with rfl | rfl <;> omega
theorem nn_of_mul {x y : Int} (hy : 0 < y) (h : 0 ≤ x * y) : 0 ≤ x := by
  rcases Int.lt_or_le x 0 with h1 | h1
  · have := Int.mul_neg_of_neg_of_pos h1 hy; omega
  · exact h1
theorem up_trans {s : Int} (hs : Sg s) {a b c : Pt} (ha : Up s a) (hb : Up s b) (hc : Up s c) (h1 : 0 ≤ cross a b) (h2 : 0 ≤ cross b c) : 0 ≤ cross a c := by
  have e : cross a b * (s * c.2) + cross b c * (s * a.2) = cross a c * (s * b.2) := by unfold cross; grind
  have ha2 : 0 ≤ s * a.2 := by rcases ha with h | h <;> omega
  have hc2 : 0 ≤ s * c.2 := by rcases hc with h | h <;> omega
  have k1 := Int.mul_nonneg h1 hc2
  have k2 := Int.mul_nonneg h2 ha2
  rcases hb with hb | ⟨hb1, hb2⟩
  · exact nn_of_mul hb (by omega)
  · -- b is level: so a is level too
    have hb0 : b.2 = 0 := by rcases hs with rfl | rfl <;> omega
    have e1 : cross a b = -(a.2 * b.1) := by unfold cross; rw [hb0]; grind
    have e2 : cross a b * (s * s) = -((s * a.2) * (s * b.1)) := by rw [e1]; grind
    have ss : s * s = 1 := by rcases hs with rfl | rfl <;> rfl
    rw [ss, Int.mul_one] at e2
    have ha0 : s * a.2 = 0 := by
      rcases Int.lt_or_le 0 (s * a.2) with h | h
      · have := Int.mul_pos h hb2; omega
      · omega
    have ha1 : 0 < s * a.1 := by
      rcases ha with h | h
      · omega
      · exact h.2
    have e3 : cross a c = (s * a.1) * (s * c.2) - (s * a.2) * (s * c.1) := by
      have : cross a c * (s * s) = (s * a.1) * (s * c.2) - (s * a.2) * (s * c.1) := by unfold cross; grind
      rwa [ss, Int.mul_one] at this
    rw [e3, ha0, Int.zero_mul, Int.sub_zero]
    exact Int.mul_nonneg (by omega) hc2
theorem up_par {s : Int} (hs : Sg s) {u e d : Pt} (he : Up s e) (hd : Up s d) (h0 : cross e d = 0) (h : 0 < cross u e) : 0 < cross u d := by
  have ss : s * s = 1 := by rcases hs with rfl | rfl <;> rfl
  have e1 : cross u e * (s * d.2) = cross u d * (s * e.2) := by
    have : cross u e * (s * d.2) - cross u d * (s * e.2) = -(s * u.2) * cross e d := by unfold cross; grind
    rw [h0] at this; omega
  have e2 : cross u e * (s * d.1) = cross u d * (s * e.1) := by
    have : cross u e * (s * d.1) - cross u d * (s * e.1) = -(s * u.1) * cross e d := by unfold cross; grind
    rw [h0] at this; omega
  have e3 : (s * e.1) * (s * d.2) = (s * e.2) * (s * d.1) := by
    have : (s * e.1) * (s * d.2) - (s * e.2) * (s * d.1) = s * s * cross e d := by unfold cross; grind
    rw [h0] at this; omega
  have pos : ∀ {x y z : Int}, 0 < x → 0 < y → x * y = z * 0 → False := fun hx hy h => by have := Int.mul_pos hx hy; omega
  have get : ∀ {x y z t : Int}, 0 < x → 0 < y → 0 < t → x * y = z * t → 0 < z := fun {x y z t} hx hy ht h => by
    have := Int.mul_pos hx hy
    rw [h] at this
    rcases Int.lt_or_le 0 z with h1 | h1
    · exact h1
    · have := Int.mul_nonpos_of_nonpos_of_nonneg h1 (Int.le_of_lt ht); omega
  rcases he with he | ⟨he1, he2⟩ <;> rcases hd with hd | ⟨hd1, hd2⟩
  · exact get h hd he e1
  · rw [hd1, Int.mul_zero] at e3
    have := Int.mul_pos he hd2; omega
  · rw [he1, Int.zero_mul] at e3
    have := Int.mul_pos he2 hd; omega
  · exact get h hd2 he2 e2
def Chain (s : Int) (Q : Pt → Prop) : List Pt → Prop
  | [] => False
  | [a] => Q a ∧ ∀ q, Q q → q = a ∨ Lt s a q
  | b :: a :: r => Q b ∧ Lt s a b ∧ (∀ q, Q q → 0 ≤ turnZ a b q) ∧ (match r with | [] => True | z :: _ => 0 < turnZ z a b) ∧ Chain s Q (a :: r)
def popS : List Pt → Pt → List Pt
  | b :: a :: r, p => if turn a b p ≤ 0 then popS (a :: r) p else b :: a :: r
  | t, _ => t
theorem turnZ_self (a b : Pt) : turnZ a b b = 0 := by unfold turnZ; grind
theorem turnZ_tail (a b : Pt) : turnZ a b a = 0 := by unfold turnZ; grind
theorem chain_head {s : Int} {Q : Pt → Prop} : ∀ {t : List Pt} {a : Pt} {r : List Pt}, Chain s Q t → t = a :: r → Q a
  | _, a, [], h, e => by subst e; exact h.1
  | _, a, _ :: _, h, e => by subst e; exact h.1
theorem chain_ext {s : Int} (hs : Sg s) {Q : Pt → Prop} {p : Pt} (hp : ∀ q, Q q → Lt s q p) : ∀ (t : List Pt), Chain s Q t → (match t with | b :: a :: _ => 0 ≤ turnZ a b p | _ => True) → Chain s (fun q => Q q ∨ q = p) t
  | [], h, _ => h
  | [a], h, _ => ⟨.inl h.1, fun q hq => by
      rcases hq with hq | rfl
      · exact h.2 q hq
      · exact .inr (hp a h.1)⟩
  | [b, a], ⟨h1, h2, h3, h4, h5⟩, ht => ⟨.inl h1, h2, fun q hq => by
      rcases hq with hq | rfl
      · exact h3 q hq
      · exact ht, h4, chain_ext hs hp [a] h5 trivial⟩
  | b :: a :: z :: r, ⟨h1, h2, h3, h4, h5⟩, ht => ⟨.inl h1, h2, fun q hq => by
      rcases hq with hq | rfl
      · exact h3 q hq
      · exact ht, h4, chain_ext hs hp (a :: z :: r) h5 (by
        have ha : Q a := chain_head h5 rfl
        have hz : Lt s z a := h5.2.1
        have hap := hp a ha
        show 0 ≤ turnZ z a p
        have e1 : turnZ z a b = cross (sub a z) (sub b a) := by unfold turnZ cross sub; grind
        have e2 : turnZ z a p = cross (sub a z) (sub p a) := by unfold turnZ cross sub; grind
        have ht : 0 ≤ turnZ a b p := ht
        rw [turn_cross] at ht
        rw [e2]
        exact up_trans hs hz h2 hap (by rw [← e1]; exact Int.le_of_lt h4) ht)⟩
theorem chain_push {s : Int} (hs : Sg s) {Q : Pt → Prop} {p : Pt} (hp : ∀ q, Q q → Lt s q p) (hb : ∀ q, Q q → Bd q) (hbp : Bd p) : ∀ (t : List Pt) {h : Pt} {r : List Pt}, t = h :: r → Chain s Q t → (∀ q, Q q → Lt s h q → 0 ≤ turnZ h p q) →
    Chain s (fun q => Q q ∨ q = p) (p :: popS t p)
  | [h], _, _, e, hc, hH => by
    cases e
    refine ⟨.inr rfl, hp h hc.1, fun q hq => ?_, trivial, chain_ext hs hp [h] hc trivial⟩
    rcases hq with hq | rfl
    · rcases hc.2 q hq with rfl | h2
      · rw [turnZ_tail]; exact Int.le_refl _
      · exact hH q hq h2
    · rw [turnZ_self]; exact Int.le_refl _
  | b :: a :: r, _, _, e, hc, hH => by
    cases e
    have hc' := hc
    obtain ⟨h1, h2, h3, h4, h5⟩ := hc
    have ha : Q a := chain_head h5 rfl
    have ex : turn a b p = turnZ a b p := turn_exact (hb a ha) (hb b h1) hbp
    unfold popS
    split
    · rename_i ht
      rw [ex] at ht
      refine chain_push hs hp hb hbp (a :: r) rfl h5 fun q hq haq => ?_
      have k1 := h3 q hq
      rw [turn_cross] at k1 ht ⊢
      have e3 : cross (sub p a) (sub b a) = - cross (sub b a) (sub p a) := by unfold cross; grind
      exact up_trans hs (hp a ha) h2 haq (by rw [e3]; omega) k1
    · rename_i ht
      rw [ex] at ht
      refine ⟨.inr rfl, hp b h1, fun q hq => ?_, by show 0 < turnZ a b p; omega, chain_ext hs hp _ hc' (by show 0 ≤ turnZ a b p; omega)⟩
      rcases hq with hq | rfl
      · rcases lt_total hs q b with rfl | hlt | hlt
        · rw [turnZ_tail]; exact Int.le_refl _
        · have k1 := h3 q hq
          have e1 : turnZ a b q = cross (sub b q) (sub b a) := by unfold turnZ cross sub; grind
          have e2 : turnZ a b p = cross (sub b a) (sub p b) := by unfold turnZ cross sub; grind
          have e3 : turnZ b p q = cross (sub b q) (sub p b) := by unfold turnZ cross sub; grind
          rw [e3]
          exact up_trans hs hlt h2 (hp b h1) (by rw [← e1]; exact k1) (by rw [← e2]; omega)
        · exact hH q hq hlt
      · rw [turnZ_self]; exact Int.le_refl _
def stackOf (l : List Pt) : List Pt := l.foldl (fun s p => p :: popS s p) []
theorem chain_congr {s : Int} {Q Q' : Pt → Prop} (h : ∀ q, Q q ↔ Q' q) {t : List Pt} (hc : Chain s Q t) : Chain s Q' t := by
  have : Q = Q' := funext fun q => propext (h q)
  rwa [← this]
theorem foldl_chain {s : Int} (hs : Sg s) : ∀ (l : List Pt) (t : List Pt) (h : Pt) (r : List Pt) (Q : Pt → Prop), t = h :: r → Chain s Q t → (∀ q, Q q → q = h ∨ Lt s q h) → (h :: l).Pairwise (Lt s) → (∀ q, Q q → Bd q) → (∀ q ∈ l, Bd q) →
    Chain s (fun q => Q q ∨ q ∈ l) (l.foldl (fun s p => p :: popS s p) t) ∧ (l.foldl (fun s p => p :: popS s p) t).head? = (h :: l).getLast?
  | [], t, h, r, Q, e, hc, hm, hp, hb, hbl => ⟨chain_congr (fun q => by simp) hc, by rw [e]; rfl⟩
  | p :: l, t, h, r, Q, e, hc, hm, hp, hb, hbl => by
    have hhp : Lt s h p := (List.pairwise_cons.1 hp).1 p (by simp)
    have hpq : ∀ q, Q q → Lt s q p := fun q hq => by
      rcases hm q hq with rfl | h1
      · exact hhp
      · exact lt_trans hs h1 hhp
    have hc1 := chain_push hs hpq hb (hbl p (by simp)) t e hc fun q hq hlt => by
      rcases hm q hq with rfl | h1
      · exact (lt_irrefl hs hlt).elim
      · exact (lt_irrefl hs (lt_trans hs h1 hlt)).elim
    obtain ⟨k1, k2⟩ := foldl_chain hs l (p :: popS t p) p (popS t p) (fun q => Q q ∨ q = p) rfl hc1 (fun q hq => by
        rcases hq with hq | rfl
        · exact .inr (hpq q hq)
        · exact .inl rfl) (List.pairwise_cons.1 hp).2 (fun q hq => by
        rcases hq with hq | rfl
        · exact hb q hq
        · exact hbl q (by simp)) (fun q hq => hbl q (by simp [hq]))
    refine ⟨chain_congr (fun q => by simp [or_assoc]) k1, ?_⟩
    rw [List.foldl_cons, k2, List.getLast?_cons_cons]
theorem stack_chain {s : Int} (hs : Sg s) {l : List Pt} (hl : l ≠ []) (hp : l.Pairwise (Lt s)) (hb : ∀ q ∈ l, Bd q) : Chain s (· ∈ l) (stackOf l) ∧ (stackOf l).head? = l.getLast? := by
  cases l with
  | nil => exact absurd rfl hl
  | cons a l =>
    obtain ⟨k1, k2⟩ := foldl_chain hs l [a] a [] (· = a) rfl ⟨rfl, fun q hq => .inl hq⟩ (fun q hq => .inl hq) hp (fun q hq => hq ▸ hb a (by simp)) (fun q hq => hb q (by simp [hq]))
    exact ⟨chain_congr (fun q => by simp) k1, k2⟩
def Edge (Q : Pt → Prop) (a b : Pt) : Prop := Q a ∧ Q b ∧ a ≠ b ∧ ∀ q, Q q → 0 ≤ turnZ a b q ∧ (turnZ a b q = 0 → OnZ q a b)
theorem on_of_lt {s : Int} (hs : Sg s) {a b q : Pt} (hab : Lt s a b) (haq : q = a ∨ Lt s a q) (hqb : q = b ∨ Lt s q b) (h0 : turnZ a b q = 0) : OnZ q a b := by
  refine ⟨h0, ?_⟩
  unfold Lt sub at *
  rw [up_lin hs] at *
  simp only at *
  rcases haq with rfl | haq
  · omega
  · rcases hqb with rfl | hqb
    · omega
    · unfold turnZ at h0
      rcases hs with rfl | rfl
      · by_cases h2 : b.2 = a.2
        · rw [h2, Int.sub_self, Int.zero_mul, Int.sub_zero] at h0
          have : (b.1 - a.1) * (q.2 - a.2) = 0 := h0
          omega
        · have h3 := prop_btw (u := b.1 - a.1) (v := q.1 - a.1) (d := b.2 - a.2) (e := q.2 - a.2)
          by_cases hq2 : q.2 = a.2
          · have : (b.2 - a.2) * (q.1 - a.1) = 0 := by rw [hq2, Int.sub_self, Int.mul_zero] at h0; omega
            have : q.1 - a.1 = 0 := (Int.mul_eq_zero.1 this).resolve_left (by omega)
            omega
          · have h4 := h3 (by omega) (by omega) (by omega)
            rcases Int.le_total 0 (b.1 - a.1) with h5 | h5
            · have := h4.1 h5; omega
            · have := h4.2 h5; omega
      · by_cases h2 : b.2 = a.2
        · rw [h2, Int.sub_self, Int.zero_mul, Int.sub_zero] at h0
          have : (b.1 - a.1) * (q.2 - a.2) = 0 := h0
          omega
        · have h3 := prop_btw (u := b.1 - a.1) (v := q.1 - a.1) (d := a.2 - b.2) (e := a.2 - q.2)
          by_cases hq2 : q.2 = a.2
          · have : (b.2 - a.2) * (q.1 - a.1) = 0 := by rw [hq2, Int.sub_self, Int.mul_zero] at h0; omega
            have : q.1 - a.1 = 0 := (Int.mul_eq_zero.1 this).resolve_left (by omega)
            omega
          · have h4 := h3 (by omega) (by omega) (by grind)
            rcases Int.le_total 0 (b.1 - a.1) with h5 | h5
            · have := h4.1 h5; omega
            · have := h4.2 h5; omega
theorem chain_edges {s : Int} (hs : Sg s) {Q : Pt → Prop} : ∀ (t : List Pt), Chain s Q t → (∀ b r, t = b :: r → (∀ q, Q q → q = b ∨ Lt s q b) ∨ ∃ y, Q y ∧ Lt s b y ∧ (match r with | [] => True | a :: _ => 0 < turnZ a b y) ∧ ∀ q, Q q → 0 ≤ turnZ b y q) →
    ∀ t1 b a t2, t = t1 ++ b :: a :: t2 → Edge Q a b
  | [], h, _, _, _, _, _, _ => h.elim
  | [x], _, _, t1, b, a, t2, e => by
    have := congrArg List.length e
    simp at this
    omega
  | b :: a :: r, hc, hy, t1, b', a', t2, e => by
    have hc' := hc
    obtain ⟨h1, h2, h3, h4, h5⟩ := hc
    have ha : Q a := chain_head h5 rfl
    cases t1 with
    | cons x t1 =>
      injection e with e1 e2
      refine chain_edges hs (a :: r) h5 (fun b0 r0 e0 => .inr ⟨b, h1, ?_, ?_, ?_⟩) t1 b' a' t2 e2
      · injection e0 with e3 e4; subst e3; exact h2
      · injection e0 with e3 e4; subst e3 e4; exact h4
      · injection e0 with e3 e4; subst e3; exact h3
    | nil =>
      injection e with e1 e2
      injection e2 with e2 e3
      subst e1 e2 e3
      refine ⟨ha, h1, fun e => lt_irrefl hs (e ▸ h2), fun q hq => ⟨h3 q hq, fun h0 => ?_⟩⟩
      refine on_of_lt hs h2 ?_ ?_ h0
      · -- q is not ahead of a
        cases r with
        | nil => exact h5.2 q hq
        | cons z r =>
          rcases lt_total hs q a with h | h | h
          · exact .inl h
          · exfalso
            have hz : Lt s z a := h5.2.1
            have k1 := h5.2.2.1 q hq
            have h4 : 0 < turnZ z a b := h4
            have e1 : turnZ z a b = cross (sub a z) (sub b a) := by unfold turnZ cross sub; grind
            have e2 : turnZ z a q = - cross (sub a z) (sub a q) := by unfold turnZ cross sub; grind
            have e3 : turnZ a b q = - cross (sub b a) (sub a q) := by unfold turnZ cross sub; grind
            have := up_par hs (u := sub a z) h2 h (by omega) (by rw [← e1]; exact h4)
            omega
          · exact .inr h
      · -- nor behind b
        rcases hy b (a :: r) rfl with h | ⟨y, hQy, hby, hty, hall⟩
        · exact h q hq
        · rcases lt_total hs q b with h | h | h
          · exact .inl h
          · exact .inr h
          · exfalso
            have hty : 0 < turnZ a b y := hty
            have k1 := hall q hq
            have e1 : turnZ a b y = - cross (sub y b) (sub b a) := by unfold turnZ cross sub; grind
            have e2 : turnZ b y q = cross (sub y b) (sub q b) := by unfold turnZ cross sub; grind
            have e3 : turnZ a b q = cross (sub b a) (sub q b) := by unfold turnZ cross sub; grind
            have := up_par hs (u := (-(sub y b).1, -(sub y b).2)) h2 h (by omega) (by unfold cross at e1 ⊢; simp only; grind)
            unfold cross at this e2
            simp only at this
            grind
def Edges (Q : Pt → Prop) (P : List Pt) : Prop := ∀ L1 a b L2, P = L1 ++ a :: b :: L2 → Edge Q a b
theorem edges_of_chain {s : Int} (hs : Sg s) {l : List Pt} (hl : l ≠ []) (hp : l.Pairwise (Lt s)) (hb : ∀ q ∈ l, Bd q) : Edges (· ∈ l) (stackOf l).reverse := by
  obtain ⟨k1, k2⟩ := stack_chain hs hl hp hb
  intro L1 a b L2 e
  have e2 : stackOf l = L2.reverse ++ b :: a :: L1.reverse := by
    have := congrArg List.reverse e
    rw [List.reverse_reverse] at this
    rw [this]; simp
  refine chain_edges hs _ k1 (fun b0 r0 e0 => .inl fun q hq => ?_) L2.reverse b a L1.reverse e2
  rw [e0] at k2
  have k2 : some b0 = l.getLast? := k2
  obtain ⟨l0, rfl⟩ : ∃ l0, l = l0 ++ [b0] := by
    obtain ⟨l0, e1⟩ := List.getLast?_eq_some_iff.1 k2.symm
    exact ⟨l0, e1⟩
  rcases List.mem_append.1 hq with h | h
  · exact .inr ((List.pairwise_append.1 hp).2.2 q h b0 (by simp))
  · exact .inl (by simpa using h)
theorem popS_last : ∀ (t : List Pt) (p : Pt), t ≠ [] → (popS t p).getLast? = t.getLast? ∧ popS t p ≠ []
  | [], _, h => absurd rfl h
  | [a], _, _ => ⟨rfl, by simp [popS]⟩
  | b :: a :: r, p, _ => by
    unfold popS
    split
    · obtain ⟨h1, h2⟩ := popS_last (a :: r) p (by simp)
      exact ⟨by rw [h1]; rfl, h2⟩
    · exact ⟨rfl, by simp⟩
theorem fold_last : ∀ (l t : List Pt), t ≠ [] → (l.foldl (fun s p => p :: popS s p) t).getLast? = t.getLast?
  | [], t, _ => rfl
  | p :: l, t, h => by
    rw [List.foldl_cons, fold_last l _ (by simp)]
    obtain ⟨h1, h2⟩ := popS_last t p h
    cases hq : popS t p with
    | nil => exact absurd hq h2
    | cons x r => rw [List.getLast?_cons_cons, ← hq, h1]
theorem stack_last {l : List Pt} : (stackOf l).getLast? = l.head? := by
  cases l with
  | nil => rfl
  | cons a l => exact fold_last l [a] (by simp)
theorem stack_ne {l : List Pt} (h : l ≠ []) : stackOf l ≠ [] := by
  cases l with
  | nil => exact absurd rfl h
  | cons a l =>
    intro e
    have : (stackOf (a :: l)).getLast? = some a := stack_last
    rw [e] at this
    cases this
theorem chain_sorted {s : Int} (hs : Sg s) {Q : Pt → Prop} : ∀ (t : List Pt), Chain s Q t → t.Pairwise fun b a => Lt s a b
  | [], h => h.elim
  | [a], _ => by simp
  | b :: a :: r, ⟨h1, h2, h3, h4, h5⟩ => by
    have ih := chain_sorted hs (a :: r) h5
    refine List.pairwise_cons.2 ⟨fun x hx => ?_, ih⟩
    rcases List.mem_cons.1 hx with rfl | hx
    · exact h2
    · exact lt_trans hs ((List.pairwise_cons.1 ih).1 x hx) h2
def halfM (l : List Pt) : List Pt := (stackOf l).tail.reverse
def rawHull (l : List Pt) : List Pt := halfM l ++ halfM l.reverse
def wayR (l : List Pt) : List Pt := halfM l ++ (stackOf l.reverse).reverse
theorem lt_neg {a b : Pt} : Lt 1 a b ↔ Lt (-1) b a := by
  unfold Lt sub Up
  simp only
  omega
structure Round (Q : Pt → Prop) (P : List Pt) : Prop where
  edge : Edges Q P
  ends : ∀ a, P.head? = some a → P.getLast? = some a
  once : ∀ a j, P.head? = some a → 0 < j → j + 1 < P.length → P[j]? ≠ some a
theorem round_of {l : List Pt} (hl : l ≠ []) (hp : l.Pairwise (Lt 1)) (hb : ∀ q ∈ l, Bd q) : Round (· ∈ l) (wayR l) ∧ (wayR l).head? = l.head? ∧ (wayR l).dropLast = rawHull l := by
  have hl' : l.reverse ≠ [] := by simpa using hl
  have hp' : l.reverse.Pairwise (Lt (-1)) := List.pairwise_reverse.2 (hp.imp fun h => lt_neg.1 h)
  have hb' : ∀ q ∈ l.reverse, Bd q := fun q h => hb q (by simpa using h)
  obtain ⟨c1, d1⟩ := stack_chain (.inl rfl) hl hp hb
  obtain ⟨c2, d2⟩ := stack_chain (.inr rfl) hl' hp' hb'
  have e1 := edges_of_chain (.inl rfl) hl hp hb
  have e2 := edges_of_chain (.inr rfl) hl' hp' hb'
  have g1 := stack_last (l := l)
  have g2 := stack_last (l := l.reverse)
  have s1 := chain_sorted (.inl rfl) _ c1
  have s2 := chain_sorted (.inr rfl) _ c2
  have n1 := stack_ne hl
  have n2 := stack_ne hl'
  unfold wayR rawHull halfM
  generalize stackOf l = A at *
  generalize stackOf l.reverse = B at *
  obtain ⟨m, A, rfl⟩ := List.exists_cons_of_ne_nil n1
  obtain ⟨c, B, rfl⟩ := List.exists_cons_of_ne_nil n2
  simp only [List.tail_cons, List.reverse_cons] at *
  have hm : l.getLast? = some m := d1.symm
  have hBm : (c :: B).getLast? = some m := by rw [g2, List.head?_reverse, hm]
  have hc : l.head? = some c := by rw [← List.getLast?_reverse, ← d2]; rfl
  have hAc : (m :: A).getLast? = some c := by rw [g1, hc]
  have hBr : (B.reverse ++ [c]).head? = some m := by
    rw [← List.reverse_cons, List.head?_reverse, hBm]
  obtain ⟨B', hB'⟩ : ∃ B', B.reverse ++ [c] = m :: B' := by
    cases h : B.reverse ++ [c] with
    | nil => rw [h] at hBr; cases hBr
    | cons x r => rw [h] at hBr; simp at hBr; subst hBr; exact ⟨r, rfl⟩
  have hhead : (A.reverse ++ (B.reverse ++ [c])).head? = some c := by
    cases hA : A with
    | nil =>
      rw [hA] at hAc
      have : m = c := by simpa using hAc
      rw [hB', this]; rfl
    | cons x r =>
      rw [hA, List.getLast?_cons_cons] at hAc
      rw [List.head?_append, List.head?_reverse, hAc]; rfl
  refine ⟨⟨?_, ?_, ?_⟩, by rw [hhead, hc], ?_⟩
  · -- edges
    rw [hB']
    intro L1 a b L2 e
    rcases Nat.lt_or_ge (L1.length + 1) (A.reverse.length + 1) with h | h
    · -- within the first chain
      have e3 : A.reverse ++ [m] = L1 ++ a :: b :: (L2.take (A.reverse.length - 1 - L1.length)) := by
        have := congrArg (List.take (A.reverse.length + 1)) e
        rw [List.take_append, List.take_of_length_le (by omega), Nat.add_sub_cancel_left] at this
        rw [show List.take 1 (m :: B') = [m] from rfl] at this
        rw [this, List.take_append, List.take_of_length_le (by omega)]
        rw [show A.reverse.length + 1 - L1.length = (A.reverse.length - 1 - L1.length) + 2 by omega]
        rfl
      exact e1 _ _ _ _ e3
    · have e3 : m :: B' = (L1.drop A.reverse.length) ++ a :: b :: L2 := by
        have := congrArg (List.drop A.reverse.length) e
        rw [List.drop_append, List.drop_eq_nil_of_le (Nat.le_refl _), Nat.sub_self, List.nil_append, List.drop_zero] at this
        rw [this, List.drop_append_of_le_length (by omega)]
      have := e2 _ _ _ _ (by rw [hB']; exact e3)
      obtain ⟨k1, k2, k3, k4⟩ := this
      exact ⟨by simpa using k1, by simpa using k2, k3, fun q hq => k4 q (by simpa using hq)⟩
  · intro a ha
    rw [hhead] at ha
    rw [← List.append_assoc, List.getLast?_append, ← ha]
    rfl
  · intro a j ha h0 hj e
    rw [hhead] at ha
    obtain rfl : c = a := Option.some.inj ha
    have hlenP : (A.reverse ++ (B.reverse ++ [c])).length = A.length + B.length + 1 := by simp; omega
    rw [hlenP] at hj
    rcases Nat.lt_or_ge j A.length with h | h
    · rw [List.getElem?_append_left (by simpa using h)] at e
      rw [List.getElem?_reverse h] at e
      have hlast : A.getLast? = some c := by
        cases A with
        | nil => simp at h
        | cons x r => rwa [List.getLast?_cons_cons] at hAc
      rw [List.getLast?_eq_getElem?] at hlast
      have hs := (List.pairwise_cons.1 s1).2
      rw [List.pairwise_iff_getElem] at hs
      obtain ⟨h3, h4⟩ := List.getElem?_eq_some_iff.1 e
      obtain ⟨h5, h6⟩ := List.getElem?_eq_some_iff.1 hlast
      have := hs (A.length - 1 - j) (A.length - 1) h3 h5 (by omega)
      rw [h4, h6] at this
      exact lt_irrefl (.inl rfl) this
    · rw [List.getElem?_append_right (by simpa using h), List.length_reverse, List.getElem?_append_left (by simp; omega)] at e
      have hmem : c ∈ B := by
        have := List.mem_of_getElem? e
        simpa using this
      exact lt_irrefl (.inr rfl) ((List.pairwise_cons.1 s2).1 c hmem)
  · rw [← List.append_assoc, List.dropLast_concat]
def pLess (p q : Pt) : Bool := decide (p.2 < q.2 ∨ (p.2 = q.2 ∧ p.1 < q.1))
theorem pLess_iff {p q : Pt} : pLess p q = true ↔ Lt 1 p q := by
  unfold pLess Lt sub Up
  rw [decide_eq_true_eq]
  simp only
  omega
def compM : List Pt → List Pt
  | [] => []
  | [a] => [a]
  | a :: b :: r => if a = b then compM (b :: r) else a :: compM (b :: r)
theorem compM_mem : ∀ {l : List Pt} {p : Pt}, p ∈ compM l ↔ p ∈ l
  | [], p => by simp [compM]
  | [a], p => by simp [compM]
  | a :: b :: r, p => by
    unfold compM
    split
    · rename_i h; subst h; rw [compM_mem]; simp
    · simp only [List.mem_cons, compM_mem (l := b :: r)]
theorem compM_sorted : ∀ {l : List Pt}, l.Pairwise (fun p q => pLess q p = false) → (compM l).Pairwise (Lt 1)
  | [], _ => by simp [compM]
  | [a], _ => by simp [compM]
  | a :: b :: r, h => by
    obtain ⟨h1, h2⟩ := List.pairwise_cons.1 h
    unfold compM
    split
    · exact compM_sorted h2
    · rename_i hne
      refine List.pairwise_cons.2 ⟨fun q hq => ?_, compM_sorted h2⟩
      have hq := compM_mem.1 hq
      have hab : Lt 1 a b := by
        rcases lt_total (.inl rfl) a b with h | h | h
        · exact absurd h hne
        · exact h
        · have := h1 b (by simp)
          rw [pLess_iff.2 h] at this; cases this
      rcases List.mem_cons.1 hq with rfl | hq
      · exact hab
      · have h3 := (List.pairwise_cons.1 h2).1 q hq
        rcases lt_total (.inl rfl) b q with h | h | h
        · exact h ▸ hab
        · exact lt_trans (.inl rfl) hab h
        · rw [pLess_iff.2 h] at h3; cases h3
def ordP (xs : List Pt) : List Pt := compM (xs.mergeSort fun p q => !pLess q p)
theorem ordP_mem {xs : List Pt} {p : Pt} : p ∈ ordP xs ↔ p ∈ xs := by unfold ordP; rw [compM_mem, List.mem_mergeSort]
theorem ordP_sorted (xs : List Pt) : (ordP xs).Pairwise (Lt 1) := by
  refine compM_sorted ?_
  have := List.pairwise_mergeSort (le := fun p q => !pLess q p) (fun a b c h1 h2 => ?_) (fun a b => ?_) xs
  · exact this.imp fun h => by simpa using h
  · simp only [Bool.not_eq_true', ← Bool.not_eq_true, pLess_iff] at *
    intro h
    rcases lt_total (.inl rfl) a b with e | e | e
    · subst e; exact h2 h
    · exact h2 (lt_trans (.inl rfl) h e)
    · exact h1 e
  · simp only [Bool.or_eq_true, Bool.not_eq_true', ← Bool.not_eq_true, pLess_iff]
    rcases lt_total (.inl rfl) a b with e | e | e
    · subst e; exact .inl (lt_irrefl (.inl rfl))
    · exact .inl fun h => lt_irrefl (.inl rfl) (lt_trans (.inl rfl) e h)
    · exact .inr fun h => lt_irrefl (.inl rfl) (lt_trans (.inl rfl) e h)
end Go.Proofs.Ytnepfcnlngpchaa
namespace Go.Proofs.Ytnepfcnlngpchaa.Geo
set_option linter.unusedSimpArgs false
set_option linter.unusedVariables false
theorem no_back0 {P : Poly} (hP : SimpleP P) (ha : 0 < P.area) (he : ∀ k, k < P.n → turnZ (P.v 0) (P.v 1) (P.v k) ≤ 0) : False := by
  have h3 := hP.n3
  obtain ⟨M, hM0, hg⟩ := (hM_gen hP).get
  have hl := ((pos_iff hP hg).2 ha).left hP hg
  have hab : P.v 0 ≠ P.v 1 := hP.ne 0
  have hN := sq_pos hab
  have hoff : ∀ j, j < P.n → j ≠ 0 → Off (padd (P.v 0) (P.v 1)) (smul 2 (P.v j)) (smul 2 (P.v (j + 1))) := fun j hj h0 => by
    have hx : OnI (padd (P.v 0) (P.v 1)) (smul 2 (P.v 0)) (smul 2 (P.v 1)) := ⟨1, 1, by decide, by decide, by unfold padd smul; simp only; omega, by unfold padd smul; simp only; omega⟩
    have hk : 0 < ((P.way).sc 2).n := by show 0 < P.n; omega
    have := (hP.simple.sc (K := 2) (by decide)).inn (k := 0) hk hx hx (j := j) hj h0
    exact this.off1
  obtain ⟨K, hK0, hK⟩ := (Late.all (n := P.n) (Q := fun j K => j ≠ 0 → Part (smul K (smul 2 (P.v j))) (smul K (smul 2 (P.v (j + 1)))) (padd (smul K (padd (P.v 0) (P.v 1))) (rotP (psub (P.v 1) (P.v 0)))) (padd (smul K (padd (P.v 0) (P.v 1))) (0, 0))) fun j hj => by
    by_cases h0 : j = 0
    · exact Late.of fun K _ h => absurd h0 h
    · exact ((hoff j hj h0).near _ _).imp fun K _ g _ => g).get
  have hp0 : padd (smul K (padd (P.v 0) (P.v 1))) (0, 0) = smul K (padd (P.v 0) (P.v 1)) := by unfold padd smul; simp
  rw [hp0] at hK
  generalize hp : padd (smul K (padd (P.v 0) (P.v 1))) (rotP (psub (P.v 1) (P.v 0))) = p at *
  have hK2 : 0 < K * 2 := by omega
  have hx : OnI (smul K (padd (P.v 0) (P.v 1))) (smul (K * 2) (P.v 0)) (smul (K * 2) (P.v 1)) := by
    refine ⟨1, 1, by decide, by decide, ?_, ?_⟩
    · unfold padd smul; simp only; grind
    · unfold padd smul; simp only; grind
  have hlam := hl.2.1 (K * 2) 0 _ hK2 (by show 0 < P.n; omega) hx
  have hsl : Sloped ((hM M).sc (K * 2)) ((P.way).sc (K * 2)) := fun k hk => by
    have := hg.sloped (by omega) k hk
    show ((hM M).sc (K * 2)).ev (smul (K * 2) (P.v k)) ≠ ((hM M).sc (K * 2)).ev (smul (K * 2) (P.v (k + 1)))
    rw [ev_sc0, ev_sc0]
    exact fun e => this (Int.eq_of_mul_eq_mul_left (by omega) e)
  have hturn : 0 < turnZ (smul (K * 2) (P.v 0)) (smul (K * 2) (P.v 1)) p := by
    have : turnZ (smul (K * 2) (P.v 0)) (smul (K * 2) (P.v 1)) p = (K * 2) * (((P.v 1).1 - (P.v 0).1) * ((P.v 1).1 - (P.v 0).1) + ((P.v 1).2 - (P.v 0).2) * ((P.v 1).2 - (P.v 0).2)) := by
      rw [← hp]; unfold turnZ smul padd psub rotP; grind
    rw [this]; exact pp hK2 hN
  have hw := wnd_left hsl (k := 0) (by show 0 < P.n; omega) hx (fun j hj h0 => by
    have := hK j hj h0
    rw [smul2, smul2] at this
    exact this) hturn
  rw [hlam] at hw
  have hout := wnd_out ((hM M).sc (K * 2)) (P := (P.way).sc (K * 2)) (p := p) (Aff.lc (-1) ((Aff.turn (P.v 0) (P.v 1)).sc (K * 2)) 0 (Aff.dot (P.v 0) (P.v 1)) 0) (fun k hk => by
    have hk : k < P.n := hk
    show _ < (Aff.lc (-1) ((Aff.turn (P.v 0) (P.v 1)).sc (K * 2)) 0 (Aff.dot (P.v 0) (P.v 1)) 0).ev (smul (K * 2) (P.v k))
    rw [ev_lc, ev_lc, ev_sc0, ev_turn]
    have h1 := he k hk
    have h2 := mp0 (a := turnZ (P.v 0) (P.v 1) (P.v k)) (b := K * 2) h1 (by omega)
    have h3 : ((Aff.turn (P.v 0) (P.v 1)).sc (K * 2)).ev p = ((P.v 1).1 - (P.v 0).1) * ((P.v 1).1 - (P.v 0).1) + ((P.v 1).2 - (P.v 0).2) * ((P.v 1).2 - (P.v 0).2) := by
      rw [← hp]; unfold Aff.sc Aff.turn Aff.ev smul padd psub rotP; grind
    rw [h3, Int.mul_comm (K * 2)]
    omega)
  rw [hout] at hw
  exact absurd hw (by decide)
theorem no_back' {P : Poly} (hP : SimpleP P) (ha : 0 < P.area) {j : Nat} (he : ∀ k, k < P.n → turnZ (P.v j) (P.v (j + 1)) (P.v k) ≤ 0) : False := by
  have h3 := hP.n3
  refine no_back0 (hP.rot j) (by rw [area_rot]; exact ha) fun k hk => ?_
  have := he ((j + k) % P.n) (Nat.mod_lt _ (by omega))
  rw [P.per_mod] at this
  exact this
theorem outer_chord {P : Poly} (hP : SimpleP P) {m : Nat} (m2 : 2 ≤ m) (mn : m + 2 ≤ P.n) (hf : ∀ j, j < P.n → 0 ≤ turnZ (P.v 0) (P.v m) (P.v j))
    (hs : ∀ j, j < P.n → j ≠ 0 → j ≠ m → turnZ (P.v 0) (P.v m) (P.v j) = 0 → phi (P.v 0) (P.v m) (P.v j) < 0 ∨ phi (P.v 0) (P.v m) (P.v m) < phi (P.v 0) (P.v m) (P.v j)) : Chord P m := by
  have hab : P.v 0 ≠ P.v m := hP.inj (by omega) (by omega) (by omega)
  have hN := sq_pos hab
  rw [← phi_b] at hN
  have taa : turnZ (P.v 0) (P.v m) (P.v 0) = 0 := by unfold turnZ; grind
  have tbb : turnZ (P.v 0) (P.v m) (P.v m) = 0 := by unfold turnZ; grind
  have paa := phi_a (P.v 0) (P.v m)
  have pe : ∀ v : Pt, (Aff.dot (P.v 0) (P.v m)).ev v = phi (P.v 0) (P.v m) v - phi (P.v 0) (P.v m) (P.v m) := fun v => by rw [ev_dot, phi_b]; unfold phi; omega
  refine Chord.mk' hP m2 mn (fun j h0 hj hm => ?_) (fun j h0 hj hm hm1 => ?_)
  · by_cases hz : turnZ (P.v 0) (P.v m) (P.v j) = 0
    · rcases hs j hj (by omega) hm hz with g | g
      · exact ⟨Aff.lc 2 (Aff.dot (P.v 0) (P.v m)) 0 (Aff.dot (P.v 0) (P.v m)) (2 * phi (P.v 0) (P.v m) (P.v m) + 1), by rw [ev_lc, pe, paa]; omega, by rw [ev_lc, pe]; omega, by rw [ev_lc, pe]; omega⟩
      · exact ⟨Aff.lc (-2) (Aff.dot (P.v 0) (P.v m)) 0 (Aff.dot (P.v 0) (P.v m)) 1, by rw [ev_lc, pe, paa]; omega, by rw [ev_lc, pe]; omega, by rw [ev_lc, pe]; omega⟩
    · exact off_turn hz
  · have f1 := hf j (by omega)
    have f2 := hf (j + 1) hj
    have mix : ∀ (s : Int) (c : Int) (u w : Pt), 0 < turnZ (P.v 0) (P.v m) u → ∃ K : Int, 0 < K ∧ 0 < K * turnZ (P.v 0) (P.v m) u + (s * (Aff.dot (P.v 0) (P.v m)).ev u + c) := fun s c u w hu => by
      refine ⟨(s * (Aff.dot (P.v 0) (P.v m)).ev u + c).natAbs + 1, by omega, ?_⟩
      have := Int.mul_le_mul_of_nonneg_left (show 1 ≤ turnZ (P.v 0) (P.v m) u by omega) (show 0 ≤ (((s * (Aff.dot (P.v 0) (P.v m)).ev u + c).natAbs : Int) + 1) by omega)
      omega
    have one : ∀ u w : Pt, turnZ (P.v 0) (P.v m) u = 0 → 0 < turnZ (P.v 0) (P.v m) w → (phi (P.v 0) (P.v m) u < 0 ∨ phi (P.v 0) (P.v m) (P.v m) < phi (P.v 0) (P.v m) u) → Part u w (P.v 0) (P.v m) := fun u w hu hw hφ => by
      rcases hφ with g | g
      · obtain ⟨K, hK, hk⟩ := mix (-1) (-(phi (P.v 0) (P.v m) (P.v m))) w w hw
        refine ⟨Aff.lc K (Aff.turn (P.v 0) (P.v m)) (-1) (Aff.dot (P.v 0) (P.v m)) (-(phi (P.v 0) (P.v m) (P.v m))), ?_, ?_, ?_, ?_⟩
        · rw [ev_lc, ev_turn, hu, pe]; omega
        · rw [ev_lc, ev_turn]; omega
        · rw [ev_lc, ev_turn, taa, pe, paa]; omega
        · rw [ev_lc, ev_turn, tbb, pe]; omega
      · obtain ⟨K, hK, hk⟩ := mix 1 0 w w hw
        refine ⟨Aff.lc K (Aff.turn (P.v 0) (P.v m)) 1 (Aff.dot (P.v 0) (P.v m)) 0, ?_, ?_, ?_, ?_⟩
        · rw [ev_lc, ev_turn, hu, pe]; omega
        · rw [ev_lc, ev_turn]; omega
        · rw [ev_lc, ev_turn, taa, pe, paa]; omega
        · rw [ev_lc, ev_turn, tbb, pe]; omega
    rcases (show 0 < turnZ (P.v 0) (P.v m) (P.v j) ∨ turnZ (P.v 0) (P.v m) (P.v j) = 0 by omega) with a1 | a1
    · rcases (show 0 < turnZ (P.v 0) (P.v m) (P.v (j + 1)) ∨ turnZ (P.v 0) (P.v m) (P.v (j + 1)) = 0 by omega) with a2 | a2
      · exact ⟨Aff.turn (P.v 0) (P.v m), by rw [ev_turn]; exact a1, by rw [ev_turn]; exact a2, by rw [ev_turn, taa]; omega, by rw [ev_turn, tbb]; omega⟩
      · exact (one _ _ a2 a1 (hs (j + 1) hj (by omega) hm1 a2)).swap
    · rcases (show 0 < turnZ (P.v 0) (P.v m) (P.v (j + 1)) ∨ turnZ (P.v 0) (P.v m) (P.v (j + 1)) = 0 by omega) with a2 | a2
      · exact one _ _ a1 a2 (hs j (by omega) (by omega) hm a1)
      · have s1 := hs j (by omega) (by omega) hm a1
        have s2 := hs (j + 1) hj (by omega) hm1 a2
        have hoff : Off (P.v 0) (P.v j) (P.v (j + 1)) := hP.offI (i := j) (k := 0) (by omega) (by omega) (by omega) (by omega) (by omega)
        rcases s1 with g1 | g1 <;> rcases s2 with g2 | g2
        · exact ⟨Aff.lc (-1) (Aff.dot (P.v 0) (P.v m)) 0 (Aff.dot (P.v 0) (P.v m)) (-(phi (P.v 0) (P.v m) (P.v m))), by rw [ev_lc, pe]; omega, by rw [ev_lc, pe]; omega, by rw [ev_lc, pe, paa]; omega, by rw [ev_lc, pe]; omega⟩
        · exact absurd hoff (flat_mean hab a1 a2 taa (by omega) (by omega) (by omega)).not_off
        · exact absurd hoff.swap (flat_mean hab a2 a1 taa (by omega) (by omega) (by omega)).not_off
        · exact ⟨Aff.dot (P.v 0) (P.v m), by rw [pe]; omega, by rw [pe]; omega, by rw [pe, paa]; omega, by rw [pe]; omega⟩
theorem outer_neg {P : Poly} (hP : SimpleP P) {m : Nat} (c : Chord P m) (hf : ∀ j, j < P.n → 0 ≤ turnZ (P.v 0) (P.v m) (P.v j)) : ¬ 0 < (P.arc m).area := fun ha => by
  have hmn := c.mn
  refine no_back' (hP.arc c) ha (j := m) fun k hk => ?_
  have hk : k < m + 1 := hk
  rw [arc_v P (Nat.le_refl m), arc_v0, arc_v P (by omega)]
  have := hf k (by omega)
  have e : turnZ (P.v m) (P.v 0) (P.v k) = - turnZ (P.v 0) (P.v m) (P.v k) := by unfold turnZ; grind
  omega
theorem outer_reflex {P : Poly} (hP : SimpleP P) {m : Nat} (c : Chord P m) (hf : ∀ j, j < P.n → 0 ≤ turnZ (P.v 0) (P.v m) (P.v j)) : ∃ t, 0 < t ∧ t < m ∧ turnZ (P.v (t - 1)) (P.v t) (P.v (t + 1)) < 0 := by
  have hm2 := c.m2
  have hmn := c.mn
  have hQ := hP.arc c
  have hab : P.v 0 ≠ P.v m := hP.inj (by omega) (by omega) (by omega)
  have hN := sq_pos hab
  have taa : turnZ (P.v 0) (P.v m) (P.v 0) = 0 := by unfold turnZ; grind
  have tbb : turnZ (P.v 0) (P.v m) (P.v m) = 0 := by unfold turnZ; grind
  obtain ⟨N, hN0, hg, hbig⟩ := ((gen_two hQ (f := Aff.lc (-1) (Aff.turn (P.v 0) (P.v m)) 0 (Aff.turn (P.v 0) (P.v m)) 0) (g := Aff.dot (P.v 0) (P.v m)) (by
    have : (Aff.lc (-1) (Aff.turn (P.v 0) (P.v m)) 0 (Aff.turn (P.v 0) (P.v m)) 0).u * (Aff.dot (P.v 0) (P.v m)).v - (Aff.lc (-1) (Aff.turn (P.v 0) (P.v m)) 0 (Aff.turn (P.v 0) (P.v m)) 0).v * (Aff.dot (P.v 0) (P.v m)).u = (((P.v m).1 - (P.v 0).1) * ((P.v m).1 - (P.v 0).1) + ((P.v m).2 - (P.v 0).2) * ((P.v m).2 - (P.v 0).2)) := by
      unfold Aff.turn Aff.lc Aff.dot; grind
    omega)).and (Late.all (n := m + 1) (Q := fun j N => 0 < turnZ (P.v 0) (P.v m) (P.v j) → (Aff.dot (P.v 0) (P.v m)).ev (P.v j) - (Aff.dot (P.v 0) (P.v m)).ev (P.v 0) < N * turnZ (P.v 0) (P.v m) (P.v j) ∧ (Aff.dot (P.v 0) (P.v m)).ev (P.v j) - (Aff.dot (P.v 0) (P.v m)).ev (P.v m) < N * turnZ (P.v 0) (P.v m) (P.v j)) fun j _ => by
      refine ⟨(((Aff.dot (P.v 0) (P.v m)).ev (P.v j) - (Aff.dot (P.v 0) (P.v m)).ev (P.v 0)).natAbs : Int) + (((Aff.dot (P.v 0) (P.v m)).ev (P.v j) - (Aff.dot (P.v 0) (P.v m)).ev (P.v m)).natAbs : Int) + 1, fun N hN1 hN2 ht => ?_⟩
      have := Int.mul_le_mul_of_nonneg_left (show 1 ≤ turnZ (P.v 0) (P.v m) (P.v j) by omega) (show 0 ≤ N by omega)
      omega)).get
  have hneg := (pos_or_neg hQ hg).resolve_left fun g => absurd (area_pos hQ hg g) (outer_neg hP c hf)
  obtain ⟨s, hlow, ht⟩ := hneg
  have red : ∀ j, (P.arc m).v j = P.v (j % (m + 1)) := fun _ => rfl
  have hr : (s + 1) % (m + 1) < m + 1 := Nat.mod_lt _ (by omega)
  have hnot : ∀ e, e < m + 1 → (e = 0 ∨ e = m) → (s + 1) % (m + 1) = e → False := fun e he1 he2 he => by
    have hte : turnZ (P.v 0) (P.v m) (P.v e) = 0 := by rcases he2 with rfl | rfl <;> assumption
    have all0 : ∀ j, j < m + 1 → turnZ (P.v 0) (P.v m) (P.v j) = 0 := fun j hj => by
      have h0 := hf j (by omega)
      rcases (show turnZ (P.v 0) (P.v m) (P.v j) = 0 ∨ 0 < turnZ (P.v 0) (P.v m) (P.v j) by omega) with g | g
      · exact g
      · exfalso
        have hje : j ≠ e := fun q => by rw [q, hte] at g; omega
        have hj' : ((j + (m + 1) * (s + 1) - s) % (m + 1)) < m + 1 := Nat.mod_lt _ (by omega)
        have hle : s ≤ (m + 1) * (s + 1) := by
          have : 1 * (s + 1) ≤ (m + 1) * (s + 1) := Nat.mul_le_mul_right _ (by omega)
          omega
        have hmod : (s + (j + (m + 1) * (s + 1) - s) % (m + 1)) % (m + 1) = j := by
          rw [Nat.add_mod_mod, show s + (j + (m + 1) * (s + 1) - s) = j + (m + 1) * (s + 1) by omega, Nat.add_mul_mod_self_left, Nat.mod_eq_of_lt hj]
        have hl := hlow ((j + (m + 1) * (s + 1) - s) % (m + 1)) hj' (fun q => by rw [q] at hmod; omega)
        have e1 : ((P.arc m).rot s).v 1 = P.v e := by show P.v ((s + 1) % (m + 1)) = _; rw [he]
        have e2 : ((P.arc m).rot s).v ((j + (m + 1) * (s + 1) - s) % (m + 1)) = P.v j := by show P.v ((s + _) % (m + 1)) = _; rw [hmod]
        rw [e1, e2, ev_lc, ev_lc, ev_lc, ev_lc, ev_turn, ev_turn, hte] at hl
        have hb := hbig j hj g
        rcases he2 with rfl | rfl
        · have := hb.1
          have ex : N * (-1 * turnZ (P.v 0) (P.v m) (P.v j) + 0 * turnZ (P.v 0) (P.v m) (P.v j) + 0) = -(N * turnZ (P.v 0) (P.v m) (P.v j)) := by grind
          rw [ex] at hl
          omega
        · have := hb.2
          have ex : N * (-1 * turnZ (P.v 0) (P.v e) (P.v j) + 0 * turnZ (P.v 0) (P.v e) (P.v j) + 0) = -(N * turnZ (P.v 0) (P.v e) (P.v j)) := by grind
          rw [ex] at hl
          omega
    have z : ∀ j, turnZ (P.v 0) (P.v m) (((P.arc m).rot s).v j) = 0 := fun j => all0 _ (Nat.mod_lt _ (by omega))
    have t0 := z 0
    have t1 := z 1
    have t2 := z 2
    generalize ((P.arc m).rot s).v 0 = x at *
    generalize ((P.arc m).rot s).v 1 = y at *
    generalize ((P.arc m).rot s).v 2 = w at *
    obtain ⟨x1, x2⟩ := on_line t0
    obtain ⟨y1, y2⟩ := on_line t1
    obtain ⟨w1, w2⟩ := on_line t2
    generalize hNN : ((P.v m).1 - (P.v 0).1) * ((P.v m).1 - (P.v 0).1) + ((P.v m).2 - (P.v 0).2) * ((P.v m).2 - (P.v 0).2) = NN at *
    have hz : NN * (NN * turnZ x y w) = 0 := by
      have ex : NN * (NN * turnZ x y w) = (NN * y.1 - NN * x.1) * (NN * w.2 - NN * x.2) - (NN * y.2 - NN * x.2) * (NN * w.1 - NN * x.1) := by unfold turnZ; grind
      rw [ex, x1, x2, y1, y2, w1, w2]; grind
    rcases Int.mul_eq_zero.1 hz with q | q
    · omega
    · rcases Int.mul_eq_zero.1 q with q | q <;> omega
  refine ⟨(s + 1) % (m + 1), ?_, ?_, ?_⟩
  · rcases Nat.eq_zero_or_pos ((s + 1) % (m + 1)) with g | g
    · exact (hnot 0 (by omega) (.inl rfl) g).elim
    · exact g
  · rcases (show (s + 1) % (m + 1) < m ∨ (s + 1) % (m + 1) = m by omega) with g | g
    · exact g
    · exact (hnot m (by omega) (.inr rfl) g).elim
  · have g0 : 0 < (s + 1) % (m + 1) := by
      rcases Nat.eq_zero_or_pos ((s + 1) % (m + 1)) with g | g
      · exact (hnot 0 (by omega) (.inl rfl) g).elim
      · exact g
    have gm : (s + 1) % (m + 1) < m := by
      rcases (show (s + 1) % (m + 1) < m ∨ (s + 1) % (m + 1) = m by omega) with g | g
      · exact g
      · exact (hnot m (by omega) (.inr rfl) g).elim
    have ht : turnZ (P.v ((s + 0) % (m + 1))) (P.v ((s + 1) % (m + 1))) (P.v ((s + 2) % (m + 1))) < 0 := ht
    have e2 : (s + 2) % (m + 1) = (s + 1) % (m + 1) + 1 := by
      rw [show s + 2 = s + 1 + 1 by omega, Nat.add_mod, Nat.mod_eq_of_lt (show 1 < m + 1 by omega), Nat.mod_eq_of_lt (by omega)]
    have e0 : (s + 0) % (m + 1) = (s + 1) % (m + 1) - 1 := by
      have : (s + 1) % (m + 1) = (s % (m + 1) + 1) % (m + 1) := by rw [Nat.mod_add_mod]
      have h1 : s % (m + 1) < m + 1 := Nat.mod_lt _ (by omega)
      rcases (show s % (m + 1) + 1 < m + 1 ∨ s % (m + 1) + 1 = m + 1 by omega) with g | g
      · rw [Nat.mod_eq_of_lt g] at this
        rw [Nat.add_zero]; omega
      · rw [g, Nat.mod_self] at this; omega
    rw [e2, e0] at ht
    exact ht
theorem line_turn {a b p q : Pt} (hp : turnZ a b p = 0) (hq : turnZ a b q = 0) (x : Pt) : phi a b b * turnZ p q x = (phi a b q - phi a b p) * turnZ a b x ∧ phi a b b * phi p q x = (phi a b q - phi a b p) * (phi a b x - phi a b p) := by
  obtain ⟨p1, p2⟩ := on_line hp
  obtain ⟨q1, q2⟩ := on_line hq
  rw [← phi_b] at p1 p2 q1 q2
  have eφ : ∀ c, phi a b b + dotZ a b c = phi a b c := fun c => by rw [phi_b]; rfl
  rw [eφ] at p1 p2 q1 q2
  have hz : turnZ a b x - turnZ a b p = turnZ a b x := by omega
  constructor
  · have e : phi a b b * turnZ p q x = (phi a b b * q.1 - phi a b b * p.1) * (x.2 - p.2) - (phi a b b * q.2 - phi a b b * p.2) * (x.1 - p.1) := by unfold turnZ; grind
    rw [e, p1, p2, q1, q2, ← hz]
    unfold turnZ; grind
  · have e : phi a b b * phi p q x = (phi a b b * q.1 - phi a b b * p.1) * (x.1 - p.1) + (phi a b b * q.2 - phi a b b * p.2) * (x.2 - p.2) := by unfold phi dotZ; grind
    rw [e, p1, p2, q1, q2]
    unfold phi dotZ; grind
theorem conv_next {P : Poly} (hP : SimpleP P) (ha : 0 < P.area) (hc : ∀ j, 0 < turnZ (P.v j) (P.v (j + 1)) (P.v (j + 2))) {m : Nat} (m0 : 0 < m) (mn : m < P.n) (hf : ∀ j, j < P.n → 0 ≤ turnZ (P.v 0) (P.v m) (P.v j))
    (hs : ∀ j, j < P.n → j ≠ 0 → j ≠ m → turnZ (P.v 0) (P.v m) (P.v j) = 0 → phi (P.v 0) (P.v m) (P.v j) < 0 ∨ phi (P.v 0) (P.v m) (P.v m) < phi (P.v 0) (P.v m) (P.v j)) : m = 1 := by
  have h3 := hP.n3
  rcases (show m = 1 ∨ m + 1 = P.n ∨ (2 ≤ m ∧ m + 2 ≤ P.n) by omega) with g | g | ⟨g1, g2⟩
  · exact g
  · exfalso
    refine no_back' hP ha (j := m) fun k hk => ?_
    rw [g, P.vn]
    have := hf k hk
    have e : turnZ (P.v m) (P.v 0) (P.v k) = - turnZ (P.v 0) (P.v m) (P.v k) := by unfold turnZ; grind
    omega
  · exfalso
    obtain ⟨t, t0, tm, ht⟩ := outer_reflex hP (outer_chord hP g1 g2 hf hs) hf
    have := hc (t - 1)
    rw [show t - 1 + 1 = t by omega, show t - 1 + 2 = t + 1 by omega] at this
    omega
theorem conv_line {P : Poly} (hP : SimpleP P) (ha : 0 < P.area) (hc : ∀ j, 0 < turnZ (P.v j) (P.v (j + 1)) (P.v (j + 2))) {a b : Pt} (hab : a ≠ b) (hl : ∀ j, 0 ≤ turnZ a b (P.v j))
    {i k : Nat} (hi : turnZ a b (P.v i) = 0) (hk : turnZ a b (P.v k) = 0) (hφ : phi a b (P.v i) < phi a b (P.v k))
    (hn : ∀ j, turnZ a b (P.v j) = 0 → phi a b (P.v i) < phi a b (P.v j) → phi a b (P.v j) < phi a b (P.v k) → False) : P.v k = P.v (i + 1) := by
  have h3 := hP.n3
  have hN := sq_pos hab
  rw [← phi_b] at hN
  have hle : i ≤ P.n * (i + 1) := by
    have : 1 * (i + 1) ≤ P.n * (i + 1) := Nat.mul_le_mul_right _ (by omega)
    omega
  have hm : ∃ m, m < P.n ∧ P.v (i + m) = P.v k := ⟨(k + P.n * (i + 1) - i) % P.n, Nat.mod_lt _ (by omega), by
    rw [← P.per_mod, Nat.add_mod_mod, show i + (k + P.n * (i + 1) - i) = k + P.n * (i + 1) by omega, P.per_mod, P.per_mul]⟩
  obtain ⟨m, hmn, hmk⟩ := hm
  have m0 : 0 < m := by
    rcases Nat.eq_zero_or_pos m with g | g
    · rw [g, Nat.add_zero] at hmk; rw [hmk] at hφ; omega
    · exact g
  have e0 : (P.rot i).v 0 = P.v i := by show P.v (i + 0) = _; rw [Nat.add_zero]
  have em : (P.rot i).v m = P.v k := hmk
  have key := fun x => line_turn hi hk x
  have hpos : 0 < phi a b (P.v k) - phi a b (P.v i) := by omega
  have m1 : m = 1 := by
    refine conv_next (hP.rot i) (by rw [area_rot]; exact ha) (fun j => by have := hc (i + j); simpa only [Poly.rot, Nat.add_assoc] using this) m0 hmn (fun j hj => ?_) (fun j hj j0 jm hz => ?_)
    · rw [e0, em]
      show 0 ≤ turnZ _ _ (P.v (i + j))
      have h1 := (key (P.v (i + j))).1
      have h2 := nn0 (show 0 ≤ phi a b (P.v k) - phi a b (P.v i) by omega) (hl (i + j))
      rw [← h1] at h2
      rcases (show 0 ≤ turnZ (P.v i) (P.v k) (P.v (i + j)) ∨ turnZ (P.v i) (P.v k) (P.v (i + j)) < 0 by omega) with g | g
      · exact g
      · have := pm hN g; omega
    · rw [e0, em] at hz ⊢
      have hz : turnZ (P.v i) (P.v k) (P.v (i + j)) = 0 := hz
      show phi _ _ (P.v (i + j)) < 0 ∨ _ < phi _ _ (P.v (i + j))
      obtain ⟨h1, h2⟩ := key (P.v (i + j))
      obtain ⟨-, h4⟩ := key (P.v k)
      rw [hz, Int.mul_zero] at h1
      have hz' : turnZ a b (P.v (i + j)) = 0 := by
        rcases Int.mul_eq_zero.1 h1.symm with g | g <;> omega
      have ni : P.v (i + j) ≠ P.v i := fun e => by
        have := (hP.rot i).inj (i := j) (j := 0) hj (by show 0 < P.n; omega) j0
        rw [e0] at this; exact this e
      have nk : P.v (i + j) ≠ P.v k := fun e => by
        have := (hP.rot i).inj (i := j) (j := m) hj hmn jm
        rw [em] at this; exact this e
      have q1 : phi a b (P.v (i + j)) ≠ phi a b (P.v i) := fun e => ni (phi_inj hab hz' hi e)
      have q2 : phi a b (P.v (i + j)) ≠ phi a b (P.v k) := fun e => nk (phi_inj hab hz' hk e)
      rcases (show phi a b (P.v (i + j)) < phi a b (P.v i) ∨ phi a b (P.v k) < phi a b (P.v (i + j)) ∨ (phi a b (P.v i) < phi a b (P.v (i + j)) ∧ phi a b (P.v (i + j)) < phi a b (P.v k)) by omega) with g | g | ⟨g1, g2⟩
      · left
        have := pm hpos (show phi a b (P.v (i + j)) - phi a b (P.v i) < 0 by omega)
        rw [← h2] at this
        rcases (show phi (P.v i) (P.v k) (P.v (i + j)) < 0 ∨ 0 ≤ phi (P.v i) (P.v k) (P.v (i + j)) by omega) with q | q
        · exact q
        · have := nn0 (show 0 ≤ phi a b b by omega) q; omega
      · right
        have := pp hpos (show 0 < phi a b (P.v (i + j)) - phi a b (P.v k) by omega)
        have e : (phi a b (P.v k) - phi a b (P.v i)) * (phi a b (P.v (i + j)) - phi a b (P.v k)) = (phi a b (P.v k) - phi a b (P.v i)) * (phi a b (P.v (i + j)) - phi a b (P.v i)) - (phi a b (P.v k) - phi a b (P.v i)) * (phi a b (P.v k) - phi a b (P.v i)) := by grind
        rw [e, ← h2, ← h4, ← Int.mul_sub] at this
        rcases (show phi (P.v i) (P.v k) (P.v k) < phi (P.v i) (P.v k) (P.v (i + j)) ∨ phi (P.v i) (P.v k) (P.v (i + j)) - phi (P.v i) (P.v k) (P.v k) ≤ 0 by omega) with q | q
        · exact q
        · have := pm0 (show 0 ≤ phi a b b by omega) q; omega
      · exact (hn _ hz' g1 g2).elim
  rw [← hmk, m1]
theorem phi_onZ {a b q : Pt} (h : OnZ q a b) : 0 ≤ phi a b q ∧ phi a b q ≤ phi a b b := by
  obtain ⟨h0, ⟨h1, h2⟩, h3, h4⟩ := h
  have e1 : phi a b q = (b.1 - a.1) * (q.1 - a.1) + (b.2 - a.2) * (q.2 - a.2) := by unfold phi dotZ; grind
  have e2 : phi a b b - phi a b q = (b.1 - a.1) * (b.1 - q.1) + (b.2 - a.2) * (b.2 - q.2) := by unfold phi dotZ; grind
  have s : ∀ x lo hi : Int, min lo hi ≤ x → x ≤ max lo hi → 0 ≤ (hi - lo) * (x - lo) ∧ 0 ≤ (hi - lo) * (hi - x) := fun x lo hi g1 g2 => by
    rcases (show lo ≤ hi ∨ hi ≤ lo by omega) with g | g
    · exact ⟨nn0 (by omega) (by omega), nn0 (by omega) (by omega)⟩
    · exact ⟨mm0 (by omega) (by omega), mm0 (by omega) (by omega)⟩
  have s1 := s q.1 a.1 b.1 h1 h2
  have s2 := s q.2 a.2 b.2 h3 h4
  omega
theorem conv_edge {P : Poly} (hP : SimpleP P) (ha : 0 < P.area) (hc : ∀ j, 0 < turnZ (P.v j) (P.v (j + 1)) (P.v (j + 2))) {i k : Nat} (hik : P.v i ≠ P.v k)
    (he : ∀ j, 0 ≤ turnZ (P.v i) (P.v k) (P.v j) ∧ (turnZ (P.v i) (P.v k) (P.v j) = 0 → OnZ (P.v j) (P.v i) (P.v k))) : P.v k = P.v (i + 1) := by
  have h3 := hP.n3
  have hN := sq_pos hik
  rw [← phi_b] at hN
  have tii : turnZ (P.v i) (P.v k) (P.v i) = 0 := by unfold turnZ; grind
  have tkk : turnZ (P.v i) (P.v k) (P.v k) = 0 := by unfold turnZ; grind
  have pii := phi_a (P.v i) (P.v k)
  have next : ∀ w : Nat, turnZ (P.v i) (P.v k) (P.v w) = 0 → phi (P.v i) (P.v k) (P.v w) < phi (P.v i) (P.v k) (P.v k) → turnZ (P.v i) (P.v k) (P.v (w + 1)) = 0 ∧ phi (P.v i) (P.v k) (P.v w) < phi (P.v i) (P.v k) (P.v (w + 1)) := fun w hw hwk => by
    obtain ⟨c, ⟨hcn, hc0, hcw⟩, hmin⟩ := ex_max (fun c => c < P.n ∧ turnZ (P.v i) (P.v k) (P.v c) = 0 ∧ phi (P.v i) (P.v k) (P.v w) < phi (P.v i) (P.v k) (P.v c)) (fun c => - phi (P.v i) (P.v k) (P.v c)) P.n (fun c h => h.1)
      ⟨k % P.n, Nat.mod_lt _ (by omega), by rw [P.per_mod]; exact tkk, by rw [P.per_mod]; exact hwk⟩
    have := conv_line hP ha hc hik (fun j => (he j).1) hw hc0 hcw fun j hj g1 g2 => by
      have := hmin (j % P.n) ⟨Nat.mod_lt _ (by omega), by rw [P.per_mod]; exact hj, by rw [P.per_mod]; exact g1⟩
      rw [P.per_mod] at this
      omega
    rw [← this]
    exact ⟨hc0, hcw⟩
  obtain ⟨n1, n2⟩ := next i tii (by omega)
  rcases (show phi (P.v i) (P.v k) (P.v (i + 1)) = phi (P.v i) (P.v k) (P.v k) ∨ phi (P.v i) (P.v k) (P.v (i + 1)) < phi (P.v i) (P.v k) (P.v k) by have := phi_onZ ((he (i + 1)).2 n1); omega) with g | g
  · exact phi_inj hik tkk n1 g.symm
  · exfalso
    obtain ⟨n3, n4⟩ := next (i + 1) n1 g
    have ht := hc i
    have := (line_turn tii n1 (P.v (i + 2))).1
    rw [show (i + 1 + 1) = i + 2 by omega] at n3
    rw [n3, Int.mul_zero] at this
    have := pp hN ht
    omega
theorem conv_all {xs : List Pt} (hr : roomOk xs = true) (hc : ∀ j, 0 < turnZ ((roomP xs).v j) ((roomP xs).v (j + 1)) ((roomP xs).v (j + 2))) (k j : Nat) : 0 ≤ turnZ ((roomP xs).v k) ((roomP xs).v (k + 1)) ((roomP xs).v j) := by
  have hP := room_simple hr
  have ha := (room_area hr).2.1
  have h3 := (room_len hr).1
  have hn : (roomP xs).n = xs.length := rfl
  have hbd : ∀ q ∈ ordP xs, Bd q := fun q hq => bd_of_room hr q (ordP_mem.1 hq)
  have hv : ∀ j, (roomP xs).v j ∈ xs := fun j => by
    have hj := Nat.mod_lt j (show 0 < xs.length by omega)
    rw [show (roomP xs).v j = xs[j % xs.length] from getD_lt _ hj]; exact List.getElem_mem hj
  have hx : ∀ q ∈ xs, ∃ j, q = (roomP xs).v j := fun q hq => by
    obtain ⟨j, hj, e⟩ := List.getElem_of_mem hq
    exact ⟨j, by rw [v_lt hj, show pAt xs j = xs[j] from getD_lt _ hj, e]⟩
  have hne : ordP xs ≠ [] := fun e => by
    have := ordP_mem.2 (hv 0)
    rw [e] at this; cases this
  obtain ⟨⟨r1, r2, -⟩, -, -⟩ := round_of hne (ordP_sorted xs) hbd
  have hlen : 2 ≤ (wayR (ordP xs)).length := by
    have l1 : 1 ≤ (stackOf (ordP xs).reverse).length := by
      have := stack_ne (l := (ordP xs).reverse) (by simpa using hne)
      cases hs : stackOf (ordP xs).reverse with
      | nil => exact absurd hs this
      | cons _ _ => simp
    have l2 : 2 ≤ (stackOf (ordP xs)).length := by
      have hh := (stack_chain (.inl rfl) hne (ordP_sorted xs) hbd).2
      have ht := stack_last (l := ordP xs)
      have hs0 := stack_ne hne
      cases hs : stackOf (ordP xs) with
      | nil => exact absurd hs hs0
      | cons a r =>
        cases r with
        | cons b r => simp
        | nil =>
          exfalso
          rw [hs] at hh ht
          simp only [List.head?_cons] at hh
          have ht : some a = (ordP xs).head? := ht
          have hsort := ordP_sorted xs
          cases ho : ordP xs with
          | nil => exact absurd ho hne
          | cons c l =>
            rw [ho] at hh ht hsort
            simp only [List.head?_cons, Option.some.injEq] at ht
            subst ht
            cases l with
            | nil =>
              have m : ∀ j, (roomP xs).v j = a := fun j => by
                have := ordP_mem.2 (hv j)
                rw [ho] at this
                simpa using this
              exact hP.ne 0 (by rw [m, m])
            | cons d l =>
              have hin : a ∈ d :: l := by
                have : (d :: l).getLast? = some a := by rw [hh]; simp
                exact List.mem_of_getLast? this
              exact lt_irrefl (.inl rfl) (List.rel_of_pairwise_cons hsort hin)
    show 2 ≤ (halfM (ordP xs) ++ (stackOf (ordP xs).reverse).reverse).length
    unfold halfM
    rw [List.length_append, List.length_reverse, List.length_reverse, List.length_tail]
    omega
  generalize hW : wayR (ordP xs) = W at *
  have hedge : ∀ t, t + 1 < W.length → Edge (· ∈ ordP xs) (W.getD t (0, 0)) (W.getD (t + 1) (0, 0)) := fun t ht => by
    refine r1 (W.take t) _ _ (W.drop (t + 2)) ?_
    rw [getD_lt _ (by omega), getD_lt _ (by omega), ← List.drop_eq_getElem_cons (show t + 1 < W.length by omega), ← List.drop_eq_getElem_cons (show t < W.length by omega), List.take_append_drop]
  obtain ⟨i0, hi0⟩ : ∃ i, W.getD 0 (0, 0) = (roomP xs).v i := hx _ (ordP_mem.1 (hedge 0 (by omega)).1)
  have hstep : ∀ t, t < W.length → W.getD t (0, 0) = (roomP xs).v (i0 + t) := fun t => by
    induction t with
    | zero => intro _; exact hi0
    | succ t ih =>
      intro ht
      have e := hedge t ht
      obtain ⟨q, hq⟩ := hx _ (ordP_mem.1 e.2.1)
      have h1 := ih (by omega)
      rw [h1, hq] at e
      rw [hq]
      exact conv_edge hP ha hc e.2.2.1 fun j => e.2.2.2 _ (ordP_mem.2 (hv j))
  have hlast : (roomP xs).v (i0 + (W.length - 1)) = (roomP xs).v i0 := by
    rw [← hstep _ (by omega), ← hi0]
    have h0 : W.head? = some (W.getD 0 (0, 0)) := by
      cases W with
      | nil => simp at hlen
      | cons a l => rfl
    have := r2 _ h0
    rw [List.getLast?_eq_getElem?, List.getElem?_eq_getElem (by omega)] at this
    rw [getD_lt _ (by omega)]
    exact Option.some.inj this
  have hbig : xs.length ≤ W.length - 1 := by
    rcases (show xs.length ≤ W.length - 1 ∨ W.length - 1 < xs.length by omega) with g | g
    · exact g
    · exfalso
      have := (hP.rot i0).inj (i := W.length - 1) (j := 0) g (by show 0 < xs.length; omega) (by omega)
      refine this ?_
      show (roomP xs).v (i0 + (W.length - 1)) = (roomP xs).v (i0 + 0)
      rw [hlast, Nat.add_zero]
  have hle : i0 ≤ xs.length * (i0 + 1) := by
    have : 1 * (i0 + 1) ≤ xs.length * (i0 + 1) := Nat.mul_le_mul_right _ (by omega)
    omega
  have ht := Nat.mod_lt (k + xs.length * (i0 + 1) - i0) (show 0 < xs.length by omega)
  have hmod : ∀ d, (roomP xs).v (i0 + (k + xs.length * (i0 + 1) - i0) % xs.length + d) = (roomP xs).v (k + d) := fun d => by
    rw [← (roomP xs).per_mod, show i0 + (k + xs.length * (i0 + 1) - i0) % xs.length + d = (i0 + d) + (k + xs.length * (i0 + 1) - i0) % xs.length by omega, hn, Nat.add_mod_mod,
      show i0 + d + (k + xs.length * (i0 + 1) - i0) = (k + d) + xs.length * (i0 + 1) by omega, ← hn, (roomP xs).per_mod, (roomP xs).per_mul]
  have e := hedge ((k + xs.length * (i0 + 1) - i0) % xs.length) (by omega)
  rw [hstep _ (by omega), hstep _ (by omega), show i0 + ((k + xs.length * (i0 + 1) - i0) % xs.length + 1) = i0 + (k + xs.length * (i0 + 1) - i0) % xs.length + 1 by omega, hmod 1] at e
  have h0 := hmod 0
  rw [Nat.add_zero, Nat.add_zero] at h0
  rw [h0] at e
  exact (e.2.2.2 _ (ordP_mem.2 (hv j))).1
end Go.Proofs.Ytnepfcnlngpchaa.Geo
namespace Go.Proofs.Ytnepfcnlngpchaa
open Go.RowKit Go.Proofs.Ytnepfcnlngpchaa.Nm
set_option maxRecDepth 10000
set_option maxHeartbeats 4000000
set_option linter.unusedSimpArgs false
set_option linter.unusedVariables false
theorem conv_turns {xs : List Pt} (h : convM xs = true) (j : Nat) : 0 < turnZ ((Geo.roomP xs).v j) ((Geo.roomP xs).v (j + 1)) ((Geo.roomP xs).v (j + 2)) := by
  obtain ⟨hr, hc⟩ := convM_iff.1 h
  have h3 := room_len hr
  have hb := bd_of_room hr
  have hn : (Geo.roomP xs).n = xs.length := rfl
  have hm := Nat.mod_lt (j + 1) (show 0 < xs.length by omega)
  have h1 := hc _ hm
  unfold reflexM at h1
  rw [decide_eq_false_iff_not, turn_exact (pCy_bd hb (by omega)) (pAt_bd hb hm) (pCy_bd hb (by omega))] at h1
  have e1 : pAt xs ((j + 1) % xs.length) = (Geo.roomP xs).v (j + 1) := rfl
  have e2 : pCy xs ((j + 1) % xs.length + 1) = (Geo.roomP xs).v (j + 2) := by
    show (Geo.roomP xs).v ((j + 1) % (Geo.roomP xs).n + 1) = _
    rw [(Geo.roomP xs).per_add]
  have e0 : pCy xs ((j + 1) % xs.length + xs.length - 1) = (Geo.roomP xs).v j := by
    show (Geo.roomP xs).v ((j + 1) % (Geo.roomP xs).n + xs.length - 1) = _
    rw [show (j + 1) % (Geo.roomP xs).n + xs.length - 1 = (j + 1) % (Geo.roomP xs).n + (xs.length - 1) by omega, (Geo.roomP xs).per_add, show j + 1 + (xs.length - 1) = j + (Geo.roomP xs).n by rw [hn]; omega, (Geo.roomP xs).per]
  rw [e0, e1, e2] at h1
  have := Geo.room_turns hr j
  omega
theorem conv_ker {xs : List Pt} (h : convM xs = true) {p : Pt} (hp : p ∈ floorPts xs) : inKer xs p = true := by
  obtain ⟨hr, hpt, hi⟩ := Geo.mem_floor.1 hp
  refine (Geo.inKer_iff hr hpt).2 fun k hk => Int.not_lt.1 fun hneg => hi ((Geo.out_iff hr (bd_of_ok hpt)).2 (Geo.out_half (f := Geo.Aff.turn ((Geo.roomP xs).v k) ((Geo.roomP xs).v (k + 1))) fun j hj => ?_))
  rw [Geo.ev_turn, Geo.ev_turn]
  have := Geo.conv_all hr (conv_turns h) k j
  omega
theorem floor_pos {xs : List Pt} (hr : roomOk xs = true) : 0 < (floorPts xs).length := List.length_pos_of_mem (Geo.corner_floor hr (room_pos hr))
theorem ker_on {xs : List Pt} {p : Pt} (hp : p ∈ floorPts xs) : inKernelM xs p = inKer xs p ∧ seesCornersM xs p = inKer xs p := by
  have hi := floor_isIn hp
  unfold inKernelM seesCornersM
  rw [hi]
  refine ⟨by simp, ?_⟩
  rw [Bool.true_and, Bool.eq_iff_iff, seesCs_iff]
  exact (Geo.ker_iff_corners hp).symm
theorem cnt_succ {f : Pt → Bool} {b : Bool} {l : List Pt} {k : Nat} (hb : b = f (l.getD k (0, 0))) (h : k < l.length) : (((l.take k).filter f).length : Int) + (if b = true then 1 else 0) = (((l.take (k + 1)).filter f).length : Nat) := by
  rw [filter_take_succ f (0, 0) h, hb, List.length_append]
  cases f (l.getD k (0, 0)) <;> simp
theorem fnKernels_ok : Good1 Try.prog n_laws_FnKernels (lawCon [.sl (.b .u8)]) := by
  refine good_ofG (tys := tyL) (env := [(n_laws_big, bigC), (n_spec_DrawRoom, drawRoomC), (n_impl_FloorPoints, floorTC), (n_impl_KernelPoints, kerPtsC), (n_impl_OneGuard, kerPtsC), (n_impl_InKernel, inKernelC), (n_laws_btoi, btoiC), (n_impl_SeesCorners, seesCornersC), (n_impl_IsConvex, convC), (n_impl_IsStar, isStarC)]) (envw := []) (envd := []) [] [] [] [] [] mixed tys ⟨big_ok, drawRoom_ok, iFloorPoints_ok, iKernelPoints_ok, iOneGuard_ok, iInKernel_ok, btoi_ok, iSeesCorners_ok, isConvex_ok, iIsStar_ok, trivial⟩ trivial trivial Try.func3 rfl (by kernel_rfl) (by decide) (by kernel_rfl) ?_
  have hG_ := kpz [(0, [0]), (1, [0, 12]), (2, [2]), (3, [3]), (4, [3, 4]), (5, [3, 4, 5]), (6, [3, 4, 5, 6]), (7, [3, 4, 5, 6, 7]), (8, [3, 4, 5, 6, 7, 8]), (9, [3, 4, 5, 6, 7, 8, 24]), (10, [3, 4, 5, 6, 7, 8]), (11, [3, 4, 5, 6, 7, 8, 9]), (12, [3, 4, 5, 6, 7, 8, 9]), (13, [3, 4, 5, 6, 7, 8, 52]), (14, [2]), (15, [4, 5, 6, 70]), (16, [2]), (17, [4, 5, 6, 10]), (18, [4, 5, 6, 10, 74]), (19, [4, 5, 6, 10]), (20, [4, 5, 6, 10, 85]), (21, [2]), (22, [2])] [(3, [3]), (4, [3]), (5, [3]), (6, [3]), (7, [3]), (8, [3]), (9, [3]), (10, [3]), (11, [3]), (12, [3]), (13, [3])] [] []
  rintro ⟨(bs : List Int), ⟨⟩⟩ ⟨(h0 : bs.length ≤ _), -⟩
  have hr := drawRoom_room bs
  have hl := room_len hr
  have hf := floor_len (drawRoomM bs)
  (repeat' (first | with_reducible exact True.intro | with_reducible refine st_seq ?_ | (with_reducible refine st_regionG hG_ ?_; intro K_ hK_) | (with_reducible refine st_region ?_; intro K_ hK_) | (with_reducible refine hK_ _ _ ?_; try clear hK_ K_) | ((with_reducible refine st_cond (b := ?b_) ?hb_ ?_ ?_); case hb_ => rfl) | with_reducible refine sq_n ?_ | with_reducible refine sq_r ?_ | with_reducible refine sq_e ?_ | with_reducible refine bq_n ?_ | with_reducible refine bq_r ?_ | with_reducible refine bq_q ?_ | with_reducible refine st_block ?_ | with_reducible refine st_exit ?_ | with_reducible refine st_ret ?_ | with_reducible refine st_skip ?_ | with_reducible refine gq_n ?_ | with_reducible refine gq_r ?_ | with_reducible refine gq_e ?_ | with_reducible refine lq_n ?_ | with_reducible refine lq_r ?_ | with_reducible refine lq_e ?_ | with_reducible refine bq_e (by decide) ?_ | ((conv => whnf); first | (with_reducible refine hK_ _ _ ?_; try clear hK_ K_) | (with_reducible refine fun (g_ : Sl) (o_ : Ow) => ?_) | with_reducible exact True.intro | with_reducible refine And.intro trivial ?_ | with_reducible refine And.intro ?_ ?_ | exact Nat.le_of_ble_eq_true rfl | exact Or.inl rfl | (intro h_; cases h_) | (intro h_; (try simp only [cond_true, cond_false, decide_eq_true_eq, decide_eq_false_iff_not, Bool.not_eq_true', Bool.not_eq_false', Int.toNat_natCast, prodEta] at h_)) | rfl))) <;> (try (conv => whnf)) <;> (try first | change (_ : Int) ≤ _ | change (_ : Nat) ≤ _) <;> (try ((fail_if_success (with_reducible apply Exists.intro)); (try dsimp only); (try simp only [cond_true, cond_false, decide_eq_true_eq, decide_eq_false_iff_not, Bool.not_eq_true', Bool.not_eq_false', Int.toNat_natCast, prodEta]))) <;> (try simp (disch := omega) only [ptEq2, cond_true, cond_false, decide_eq_true_eq, decide_eq_false_iff_not, List.length_drop, List.take_length, Int.toNat_zero, List.drop_zero, Nat.zero_add, List.nil_append, mod_nat1, mod_nat2, tm1, tm2, tmj, W_in, Int.add_sub_cancel, tn1, tnp, tnc, List.length_append, List.length_take, List.length_replicate, List.length_set, List.length_map, List.length_cons, List.length_nil, prodEta, Int.toNat_natCast, beq_iff_eq, beq_eq_false_iff_ne, bne_iff_ne, bne_eq_false_iff_eq, ne_eq, Int.natCast_inj, Int.ofNat_lt, Int.ofNat_le] at *)
  all_goals (try ((fail_if_success (with_reducible apply Exists.intro)); first | with_reducible assumption | omega))
  generalize drawRoomM bs = xs at *
  have hp0 := floor_pos hr
  have hfl : ∀ k, k < (floorPts xs).length → inKernelM xs ((floorPts xs).getD k (0, 0)) = inKer xs ((floorPts xs).getD k (0, 0)) ∧ seesCornersM xs ((floorPts xs).getD k (0, 0)) = inKer xs ((floorPts xs).getD k (0, 0)) := fun k hk => ker_on (pAt_mem hk)
  have hcv : ∀ k, k < (floorPts xs).length → convM xs = true → inKer xs ((floorPts xs).getD k (0, 0)) = true := fun k hk h => conv_ker h (pAt_mem hk)
  have hkl := kers_len xs
  refine awp'_loopG (α := Nat) (fun k ver_ => [(7, vInt ((((floorPts xs).take k).filter (inKer xs)).length : Nat)), (8, vInt k)]) (fun k ver_ => []) (fun k ver_ => []) (fun k => k ≤ (floorPts xs).length) (fun k => (floorPts xs).length - k) [3, 4, 5, 6] [3] (0) ?_
  conv => whnf
  refine ⟨⟨?inv1_, ?vals1_, ?own1_, ?fix1_⟩, ?body1_⟩
  case' vals1_ => (repeat' (first | with_reducible exact True.intro | with_reducible refine And.intro ?_ ?_ | with_reducible refine Head.mk ?_ ?_ ?_ ?_ | ((conv => lhs; whnf); first | with_reducible rfl | with_reducible exact vInt_s (by omega) | exact rfl) | ((conv => whnf); first | with_reducible exact True.intro | with_reducible refine And.intro ?_ ?_))) <;> (try (conv => lhs; whnf))
  case' own1_ => (repeat' (first | with_reducible exact True.intro | with_reducible refine And.intro ?_ ?_ | with_reducible refine Head.mk ?_ ?_ ?_ ?_ | ((conv => lhs; whnf); first | with_reducible rfl | with_reducible exact vInt_s (by omega) | exact rfl) | ((conv => whnf); first | with_reducible exact True.intro | with_reducible refine And.intro ?_ ?_))) <;> (try (conv => lhs; whnf))
  case' fix1_ => (repeat' (first | with_reducible exact True.intro | with_reducible refine And.intro ?_ ?_ | with_reducible refine Head.mk ?_ ?_ ?_ ?_ | ((conv => lhs; whnf); first | with_reducible rfl | with_reducible exact vInt_s (by omega) | exact rfl) | ((conv => whnf); first | with_reducible exact True.intro | with_reducible refine And.intro ?_ ?_))) <;> (try (conv => lhs; whnf))
  · exact Nat.zero_le _
  rintro k g_ o_ v_ hk
  have hn : (((floorPts xs).take k).filter (inKer xs)).length ≤ 6561 := Nat.le_trans (List.length_filter_le _ _) (by rw [List.length_take]; omega)
  (repeat' (first | with_reducible exact True.intro | with_reducible refine st_seq ?_ | (with_reducible refine st_regionG hG_ ?_; intro K_ hK_) | (with_reducible refine st_region ?_; intro K_ hK_) | (with_reducible refine hK_ _ _ ?_; try clear hK_ K_) | ((with_reducible refine st_cond (b := ?b_) ?hb_ ?_ ?_); case hb_ => rfl) | with_reducible refine sq_n ?_ | with_reducible refine sq_r ?_ | with_reducible refine sq_e ?_ | with_reducible refine bq_n ?_ | with_reducible refine bq_r ?_ | with_reducible refine bq_q ?_ | with_reducible refine st_block ?_ | with_reducible refine st_exit ?_ | with_reducible refine st_ret ?_ | with_reducible refine st_skip ?_ | with_reducible refine gq_n ?_ | with_reducible refine gq_r ?_ | with_reducible refine gq_e ?_ | with_reducible refine lq_n ?_ | with_reducible refine lq_r ?_ | with_reducible refine lq_e ?_ | with_reducible refine bq_e (by decide) ?_ | ((conv => whnf); first | (with_reducible refine hK_ _ _ ?_; try clear hK_ K_) | (with_reducible refine fun (g_ : Sl) (o_ : Ow) => ?_) | with_reducible exact True.intro | with_reducible refine And.intro trivial ?_ | with_reducible refine And.intro ?_ ?_ | exact Nat.le_of_ble_eq_true rfl | exact Or.inl rfl | (intro h_; cases h_) | (intro h_; (try simp only [cond_true, cond_false, decide_eq_true_eq, decide_eq_false_iff_not, Bool.not_eq_true', Bool.not_eq_false', Int.toNat_natCast, prodEta] at h_)) | rfl))) <;> (try (conv => whnf)) <;> (try first | change (_ : Int) ≤ _ | change (_ : Nat) ≤ _) <;> (try ((fail_if_success (with_reducible apply Exists.intro)); (try dsimp only); (try simp only [cond_true, cond_false, decide_eq_true_eq, decide_eq_false_iff_not, Bool.not_eq_true', Bool.not_eq_false', Int.toNat_natCast, prodEta]))) <;> (try simp (disch := omega) only [ptEq2, cond_true, cond_false, decide_eq_true_eq, decide_eq_false_iff_not, List.length_drop, List.take_length, Int.toNat_zero, List.drop_zero, Nat.zero_add, List.nil_append, mod_nat1, mod_nat2, tm1, tm2, tmj, W_in, Int.add_sub_cancel, tn1, tnp, tnc, List.length_append, List.length_take, List.length_replicate, List.length_set, List.length_map, List.length_cons, List.length_nil, prodEta, Int.toNat_natCast, beq_iff_eq, beq_eq_false_iff_ne, bne_iff_ne, bne_eq_false_iff_eq, ne_eq, Int.natCast_inj, Int.ofNat_lt, Int.ofNat_le] at *)
  all_goals (try ((fail_if_success (with_reducible apply Exists.intro)); first | with_reducible assumption | omega))
  · exact absurd ((hfl k (by assumption)).1.trans (hfl k (by assumption)).2.symm) h_
  · exact absurd ((hcv k (by assumption) (by assumption)).symm.trans ((hfl k (by assumption)).1.symm.trans ‹inKernelM xs _ = false›)) (by decide)
  · refine ⟨k + 1, by omega, by omega, ?_⟩
    (repeat' (first | with_reducible exact True.intro | with_reducible refine And.intro ?_ ?_ | with_reducible refine Head.mk ?_ ?_ ?_ ?_ | ((conv => lhs; whnf); first | with_reducible rfl | with_reducible exact vInt_s (by omega) | exact rfl) | ((conv => whnf); first | with_reducible exact True.intro | with_reducible refine And.intro ?_ ?_))) <;> (try (conv => lhs; whnf))
    exact congrArg vInt (cnt_succ (hfl k (by assumption)).1 (by assumption))
  · refine ⟨k + 1, by omega, by omega, ?_⟩
    (repeat' (first | with_reducible exact True.intro | with_reducible refine And.intro ?_ ?_ | with_reducible refine Head.mk ?_ ?_ ?_ ?_ | ((conv => lhs; whnf); first | with_reducible rfl | with_reducible exact vInt_s (by omega) | exact rfl) | ((conv => whnf); first | with_reducible exact True.intro | with_reducible refine And.intro ?_ ?_))) <;> (try (conv => lhs; whnf))
    exact congrArg vInt (cnt_succ (hfl k (by assumption)).1 (by assumption))
  · exact absurd (by rw [List.take_of_length_le (by omega)]; rfl) h_
  · exact absurd trivial h_
  · refine absurd ?_ h_
    rw [List.take_of_length_le (by omega)]
    exact decide_eq_decide.2 Iff.rfl
  refine awp'_loopG (α := Nat) (fun k ver_ => [(10, vInt k)]) (fun k ver_ => []) (fun k ver_ => []) (fun k => k ≤ (kerPts xs).length) (fun k => (kerPts xs).length - k) [4, 5, 6] [] (0) ?_
  conv => whnf
  refine ⟨⟨?inv2_, ?vals2_, ?own2_, ?fix2_⟩, ?body2_⟩
  case' vals2_ => (repeat' (first | with_reducible exact True.intro | with_reducible refine And.intro ?_ ?_ | with_reducible refine Head.mk ?_ ?_ ?_ ?_ | ((conv => lhs; whnf); first | with_reducible rfl | with_reducible exact vInt_s (by omega) | exact rfl) | ((conv => whnf); first | with_reducible exact True.intro | with_reducible refine And.intro ?_ ?_))) <;> (try (conv => lhs; whnf))
  case' own2_ => (repeat' (first | with_reducible exact True.intro | with_reducible refine And.intro ?_ ?_ | with_reducible refine Head.mk ?_ ?_ ?_ ?_ | ((conv => lhs; whnf); first | with_reducible rfl | with_reducible exact vInt_s (by omega) | exact rfl) | ((conv => whnf); first | with_reducible exact True.intro | with_reducible refine And.intro ?_ ?_))) <;> (try (conv => lhs; whnf))
  case' fix2_ => (repeat' (first | with_reducible exact True.intro | with_reducible refine And.intro ?_ ?_ | with_reducible refine Head.mk ?_ ?_ ?_ ?_ | ((conv => lhs; whnf); first | with_reducible rfl | with_reducible exact vInt_s (by omega) | exact rfl) | ((conv => whnf); first | with_reducible exact True.intro | with_reducible refine And.intro ?_ ?_))) <;> (try (conv => lhs; whnf))
  · exact Nat.zero_le _
  rintro k g_ o_ v_ hk
  (repeat' (first | with_reducible exact True.intro | with_reducible refine st_seq ?_ | (with_reducible refine st_regionG hG_ ?_; intro K_ hK_) | (with_reducible refine st_region ?_; intro K_ hK_) | (with_reducible refine hK_ _ _ ?_; try clear hK_ K_) | ((with_reducible refine st_cond (b := ?b_) ?hb_ ?_ ?_); case hb_ => rfl) | with_reducible refine sq_n ?_ | with_reducible refine sq_r ?_ | with_reducible refine sq_e ?_ | with_reducible refine bq_n ?_ | with_reducible refine bq_r ?_ | with_reducible refine bq_q ?_ | with_reducible refine st_block ?_ | with_reducible refine st_exit ?_ | with_reducible refine st_ret ?_ | with_reducible refine st_skip ?_ | with_reducible refine gq_n ?_ | with_reducible refine gq_r ?_ | with_reducible refine gq_e ?_ | with_reducible refine lq_n ?_ | with_reducible refine lq_r ?_ | with_reducible refine lq_e ?_ | with_reducible refine bq_e (by decide) ?_ | ((conv => whnf); first | (with_reducible refine hK_ _ _ ?_; try clear hK_ K_) | (with_reducible refine fun (g_ : Sl) (o_ : Ow) => ?_) | with_reducible exact True.intro | with_reducible refine And.intro trivial ?_ | with_reducible refine And.intro ?_ ?_ | exact Nat.le_of_ble_eq_true rfl | exact Or.inl rfl | (intro h_; cases h_) | (intro h_; (try simp only [cond_true, cond_false, decide_eq_true_eq, decide_eq_false_iff_not, Bool.not_eq_true', Bool.not_eq_false', Int.toNat_natCast, prodEta] at h_)) | rfl))) <;> (try (conv => whnf)) <;> (try first | change (_ : Int) ≤ _ | change (_ : Nat) ≤ _) <;> (try ((fail_if_success (with_reducible apply Exists.intro)); (try dsimp only); (try simp only [cond_true, cond_false, decide_eq_true_eq, decide_eq_false_iff_not, Bool.not_eq_true', Bool.not_eq_false', Int.toNat_natCast, prodEta]))) <;> (try simp (disch := omega) only [ptEq2, cond_true, cond_false, decide_eq_true_eq, decide_eq_false_iff_not, List.length_drop, List.take_length, Int.toNat_zero, List.drop_zero, Nat.zero_add, List.nil_append, mod_nat1, mod_nat2, tm1, tm2, tmj, W_in, Int.add_sub_cancel, tn1, tnp, tnc, List.length_append, List.length_take, List.length_replicate, List.length_set, List.length_map, List.length_cons, List.length_nil, prodEta, Int.toNat_natCast, beq_iff_eq, beq_eq_false_iff_ne, bne_iff_ne, bne_eq_false_iff_eq, ne_eq, Int.natCast_inj, Int.ofNat_lt, Int.ofNat_le] at *)
  all_goals (try ((fail_if_success (with_reducible apply Exists.intro)); first | with_reducible assumption | omega))
  · exact absurd trivial h_
  · refine ⟨k + 1, by omega, by omega, ?_⟩
    (repeat' (first | with_reducible exact True.intro | with_reducible refine And.intro ?_ ?_ | with_reducible refine Head.mk ?_ ?_ ?_ ?_ | ((conv => lhs; whnf); first | with_reducible rfl | with_reducible exact vInt_s (by omega) | exact rfl) | ((conv => whnf); first | with_reducible exact True.intro | with_reducible refine And.intro ?_ ?_))) <;> (try (conv => lhs; whnf))
end Go.Proofs.Ytnepfcnlngpchaa
