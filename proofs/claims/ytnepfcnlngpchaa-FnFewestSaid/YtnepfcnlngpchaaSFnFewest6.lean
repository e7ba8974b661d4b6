/- What the proof of 'FnFewest' needs, part 6: conditions and steps of the functions that it reaches, and the mathematics. -/
import Derived.Test.YtnepfcnlngpchaaRows
import Derived.WalkKit
import Derived.WalkSpells
import Derived.Below
import Derived.Orders
import Derived.Maps.AppendAt
import Derived.Laws.StructEq
import Derived.WideShapes
import Derived.ChangeSlices
import Derived.Deep.Strs
import Derived.ChangeOld
import Derived.Shelf.SlLaysF0
import Derived.Shelf.SlSortCmp.InsertionK
import Derived.Shelf.SlSortCmp.SmallK
import Derived.Shelf.SlSortCmp.Xorshift
import Derived.Sort.LotA
import Derived.Test.YtnepfcnlngpchaaSFnFewest5
set_option linter.unusedSimpArgs false
set_option linter.unusedVariables false
namespace Go.Proofs.Ytnepfcnlngpchaa
open Go.RowKit Go.Proofs.Ytnepfcnlngpchaa.Nm
set_option maxRecDepth 10000
def ptRow (xs : List Pt) : RV := ⟨.one (.own 0 0), some ⟨t_impl_Point, none, .b .pt, xs⟩⟩
def placeC : Con := mkCon [.sl (.b .pt), .pt] (fun x => x.1.length ≤ 1048576) fun x => vI (placeM x.1 x.2.1)
theorem placeM_on {xs : List Pt} {p : Pt} {k : Nat} (hk : k < xs.length) (h : onAt xs p k = true) : placeM xs p = 1 := by unfold placeM; rw [onAny_yes hk h]; rfl
theorem placeM_off {xs : List Pt} {p : Pt} (h : ∀ k, k < xs.length → onAt xs p k = false) : placeM xs p = if par (upIAt xs p) xs.length then 2 else 0 := by unfold placeM; rw [onAny_no h]; rfl
theorem par_t {f : Nat → Bool} {k : Nat} (h : f k = true) : par f (k + 1) = !par f k := by show (par f k != f k) = _; rw [h]; cases par f k <;> rfl
theorem par_f {f : Nat → Bool} {k : Nat} (h : f k = false) : par f (k + 1) = par f k := by show (par f k != f k) = _; rw [h]; cases par f k <;> rfl
theorem place_ok : Good1 Try.prog n_impl_place placeC := by
  refine good_ofG (tys := tyL) (env := [(n_impl_on, onC), (n_impl_turn, turnC)]) (envw := []) (envd := []) [] [] [] [] [] mixed tys ⟨on_ok, turn_ok, trivial⟩ trivial trivial Try.func87 rfl (by kernel_rfl) (by decide) (by kernel_rfl) ?_
  have hG_ := kpz [(0, [0, 3]), (1, [0, 3, 5]), (2, [0, 3, 5, 9, 10, 11]), (3, [0, 3, 5, 9, 10, 11, 12]), (4, [0, 3, 5, 6, 7, 9, 10, 11]), (5, [0, 3, 5, 7, 8, 9, 10, 11]), (6, [0, 3, 5, 7, 8, 9, 10, 11, 27]), (7, [4]), (8, [0, 3, 5, 9, 10, 11, 51]), (9, [0, 3, 5, 9, 10, 11]), (10, [0, 3, 5, 9, 10, 11]), (11, [55]), (12, [4]), (13, [4])] [(4, [7]), (5, [7, 8]), (6, [7, 8])] [] []
  rintro ⟨(xs : List Pt), ⟨(p : Int), (q : Int)⟩, ⟨⟩⟩ (h1 : xs.length ≤ _)
  (repeat' (first | (with_reducible first | exact True.intro | refine zQ ?_ | (refine zG hG_ ?_; intro K_ hK_) | (refine zR ?_; intro K_ hK_) | (refine hK_ _ _ ?_; try clear hK_ K_) | refine sq_n ?_ | refine sq_r ?_ | refine sq_e ?_ | refine bq_n ?_ | refine bq_r ?_ | refine bq_q ?_ | refine zB ?_ | refine zX ?_ | refine zT ?_ | refine zK ?_ | refine gq_n ?_ | refine gq_r ?_ | refine gq_e ?_ | refine lq_n ?_ | refine lq_r ?_ | refine lq_e ?_ | refine bq_e (by decide) ?_) | ((with_reducible refine zC (b := ?b_) ?hb_ ?_ ?_); case hb_ => rfl) | ((conv => whnf); first | (with_reducible refine hK_ _ _ ?_; try clear hK_ K_) | (with_reducible refine fun (g_ : Sl) (o_ : Ow) => ?_) | (with_reducible first | exact True.intro | refine And.intro trivial ?_ | refine And.intro ?_ ?_) | exact Nat.le_of_ble_eq_true rfl | exact Or.inl rfl | (intro h_; cases h_) | (intro h_; (try simp only [vS1] at h_)) | rfl))) <;> (try (conv => whnf)) <;> (try first | change (_ : Int) ≤ _ | change (_ : Nat) ≤ _) <;> (try ((fail_if_success (with_reducible apply Exists.intro)); (try dsimp only); (try simp only [vS1]))) <;> (try simp (disch := omega) only [vS3, vS2] at *)
  refine awp'_loopG (α := Nat) (fun k ver_ => [(11, vInt k), (5, vBool (par (upIAt xs (p, q)) k))]) (fun k ver_ => []) (fun k ver_ => []) (fun k => k ≤ xs.length ∧ ∀ j, j < k → onAt xs (p, q) j = false) (fun k => xs.length - k) [0, 3, 9, 10] [] (0) ?_
  conv => whnf
  refine ⟨⟨?inv1_, ?vals1_, ?own1_, ?fix1_⟩, ?body1_⟩
  case' vals1_ => (repeat' (first | (with_reducible first | exact True.intro | refine And.intro ?_ ?_ | refine Head.mk ?_ ?_ ?_ ?_) | ((conv => lhs; whnf); first | (with_reducible first | rfl | exact vInt_s (by omega)) | exact rfl) | ((conv => whnf); first | (with_reducible first | exact True.intro | refine And.intro ?_ ?_)))) <;> (try (conv => lhs; whnf))
  case' own1_ => (repeat' (first | (with_reducible first | exact True.intro | refine And.intro ?_ ?_ | refine Head.mk ?_ ?_ ?_ ?_) | ((conv => lhs; whnf); first | (with_reducible first | rfl | exact vInt_s (by omega)) | exact rfl) | ((conv => whnf); first | (with_reducible first | exact True.intro | refine And.intro ?_ ?_)))) <;> (try (conv => lhs; whnf))
  case' fix1_ => (repeat' (first | (with_reducible first | exact True.intro | refine And.intro ?_ ?_ | refine Head.mk ?_ ?_ ?_ ?_) | ((conv => lhs; whnf); first | (with_reducible first | rfl | exact vInt_s (by omega)) | exact rfl) | ((conv => whnf); first | (with_reducible first | exact True.intro | refine And.intro ?_ ?_)))) <;> (try (conv => lhs; whnf))
  · exact ⟨Nat.zero_le _, fun j hj => absurd hj (by omega)⟩
  rintro k g_ o_ v_ ⟨hk, hall⟩
  have hinv : onAt xs (p, q) k = false → ∀ j, j < k + 1 → onAt xs (p, q) j = false := fun h j hj => by
    rcases Nat.lt_or_ge j k with h5 | h5
    · exact hall j h5
    · rw [show j = k by omega]; exact h
  (repeat' (first | (with_reducible first | exact True.intro | refine zQ ?_ | (refine zG hG_ ?_; intro K_ hK_) | (refine zR ?_; intro K_ hK_) | (refine hK_ _ _ ?_; try clear hK_ K_) | refine sq_n ?_ | refine sq_r ?_ | refine sq_e ?_ | refine bq_n ?_ | refine bq_r ?_ | refine bq_q ?_ | refine zB ?_ | refine zX ?_ | refine zT ?_ | refine zK ?_ | refine gq_n ?_ | refine gq_r ?_ | refine gq_e ?_ | refine lq_n ?_ | refine lq_r ?_ | refine lq_e ?_ | refine bq_e (by decide) ?_) | ((with_reducible refine zC (b := ?b_) ?hb_ ?_ ?_); case hb_ => rfl) | ((conv => whnf); first | (with_reducible refine hK_ _ _ ?_; try clear hK_ K_) | (with_reducible refine fun (g_ : Sl) (o_ : Ow) => ?_) | (with_reducible first | exact True.intro | refine And.intro trivial ?_ | refine And.intro ?_ ?_) | exact Nat.le_of_ble_eq_true rfl | exact Or.inl rfl | (intro h_; cases h_) | (intro h_; (try simp only [vS1] at h_)) | rfl))) <;> (try (conv => whnf)) <;> (try first | change (_ : Int) ≤ _ | change (_ : Nat) ≤ _) <;> (try ((fail_if_success (with_reducible apply Exists.intro)); (try dsimp only); (try simp only [vS1]))) <;> (try simp (disch := omega) only [vS3, vS2] at *)
  all_goals (try (fail_if_success (with_reducible apply Exists.intro)); first | with_reducible assumption | omega | exact mdl (by omega) | exact ilo1 (by omega) | exact ilo2 (by omega) | exact ihi1 (by omega) (by omega) | exact ihi2 (by omega) (by omega))
  · exact (placeM_on ‹k < xs.length› h_).symm
  · refine ⟨k + 1, by omega, ⟨by omega, hinv (by assumption)⟩, ?_⟩
    (repeat' (first | (with_reducible first | exact True.intro | refine And.intro ?_ ?_ | refine Head.mk ?_ ?_ ?_ ?_) | ((conv => lhs; whnf); first | (with_reducible first | rfl | exact vInt_s (by omega)) | exact rfl) | ((conv => whnf); first | (with_reducible first | exact True.intro | refine And.intro ?_ ?_)))) <;> (try (conv => lhs; whnf))
    refine congrArg vBool (par_t ?_).symm
    simp only [upI, Bool.and_eq_true, bne_iff_ne, beq_iff_eq]
    exact ⟨by assumption, by assumption⟩
  · refine ⟨k + 1, by omega, ⟨by omega, hinv (by assumption)⟩, ?_⟩
    (repeat' (first | (with_reducible first | exact True.intro | refine And.intro ?_ ?_ | refine Head.mk ?_ ?_ ?_ ?_) | ((conv => lhs; whnf); first | (with_reducible first | rfl | exact vInt_s (by omega)) | exact rfl) | ((conv => whnf); first | (with_reducible first | exact True.intro | refine And.intro ?_ ?_)))) <;> (try (conv => lhs; whnf))
    refine congrArg vBool (par_f ?_).symm
    rw [← Bool.not_eq_true]
    simp only [upI, Bool.and_eq_true, bne_iff_ne, beq_iff_eq]
    exact fun h => h_ h.2
  · refine ⟨k + 1, by omega, ⟨by omega, hinv (by assumption)⟩, ?_⟩
    (repeat' (first | (with_reducible first | exact True.intro | refine And.intro ?_ ?_ | refine Head.mk ?_ ?_ ?_ ?_) | ((conv => lhs; whnf); first | (with_reducible first | rfl | exact vInt_s (by omega)) | exact rfl) | ((conv => whnf); first | (with_reducible first | exact True.intro | refine And.intro ?_ ?_)))) <;> (try (conv => lhs; whnf))
    refine congrArg vBool (par_f ?_).symm
    rw [← Bool.not_eq_true]
    simp only [upI, Bool.and_eq_true, bne_iff_ne, beq_iff_eq]
    exact fun h => h.1 h_
  · rw [placeM_off fun j hj => hall j (by omega), show xs.length = k by omega, if_pos (by assumption)]
  · rw [placeM_off fun j hj => hall j (by omega), show xs.length = k by omega, if_neg (by simp [*])]
def floorTC : Con := mkCon [.room] (fun x => x.1.length ≤ 1048576) fun x => ptRow (floorPts x.1)
theorem rowsN_len' (f : Pt → Bool) (x0 y0 : Int) {m j : Nat} (hj : j ≤ 81) (hm : m ≤ 81) : (rowsN f x0 y0 m j).length ≤ 6561 := Nat.le_trans (rowsN_len f x0 y0 m j) (Nat.mul_le_mul hj hm)
def floorC : Con := mkCon [.room] (fun x => roomOk x.1 = true) fun x => ptRow (floorPts x.1)
theorem floor_ok : Good1 Try.prog n_impl_floor floorC := by
  refine good_ofG (tys := tyL) (env := [(n_impl_place, placeC)]) (envw := []) (envd := []) [49] [11, 12, 13, 14, 15, 16, 17, 18] [] [] [] mixed tys ⟨place_ok, trivial⟩ trivial trivial Try.func64 rfl (by kernel_rfl) (by decide) (by kernel_rfl) ?_
  have hG_ := kpz [(0, [1]), (1, [1, 3, 4]), (2, [1, 3, 4, 20, 21, 22]), (3, [1, 3, 4, 20, 21, 22, 23]), (4, [1, 3, 4, 6, 20, 21, 22]), (5, [1, 3, 4, 6, 20, 21, 22]), (6, [1, 3, 4, 20, 21, 22]), (7, [1, 3, 4, 20, 21, 22]), (8, [1, 3, 4, 7]), (9, [1, 3, 4, 7, 8]), (10, [1, 3, 4, 7, 8, 55]), (11, [1, 3, 4, 7, 8]), (12, [1, 3, 4, 7, 8, 9]), (13, [1, 3, 4, 7, 8, 9, 63]), (14, [1, 3, 4, 7, 8, 9]), (15, [1, 3, 4, 7, 8, 9, 10]), (16, [1, 3, 4, 7, 8, 9, 10, 73]), (17, [1, 3, 4, 7, 8, 9]), (18, [2])] [(1, [3, 4]), (2, [3, 4]), (3, [3, 4]), (4, [3, 4, 6]), (5, [3, 4, 6]), (6, [3, 4]), (7, [3, 4]), (8, [3, 4, 49]), (9, [3, 4, 49]), (10, [3, 4, 49]), (11, [3, 4, 49]), (12, [3, 4, 49]), (13, [3, 4, 49]), (14, [3, 4, 49]), (15, [3, 4, 10, 49]), (16, [3, 4, 10, 49]), (17, [3, 4, 49]), (18, [49])] [] []
  rintro ⟨(xs : List Pt), ⟨⟩⟩ (hr : roomOk xs = true)
  have hn := room_len hr
  have hp0 := pAt0_room hr
  (repeat' (first | (with_reducible first | exact True.intro | refine zQ ?_ | (refine zG hG_ ?_; intro K_ hK_) | (refine zR ?_; intro K_ hK_) | (refine hK_ _ _ ?_; try clear hK_ K_) | refine sq_n ?_ | refine sq_r ?_ | refine sq_e ?_ | refine bq_n ?_ | refine bq_r ?_ | refine bq_q ?_ | refine zB ?_ | refine zX ?_ | refine zT ?_ | refine zK ?_ | refine gq_n ?_ | refine gq_r ?_ | refine gq_e ?_ | refine lq_n ?_ | refine lq_r ?_ | refine lq_e ?_ | refine bq_e (by decide) ?_) | ((with_reducible refine zC (b := ?b_) ?hb_ ?_ ?_); case hb_ => rfl) | ((conv => whnf); first | (with_reducible refine hK_ _ _ ?_; try clear hK_ K_) | (with_reducible refine fun (g_ : Sl) (o_ : Ow) => ?_) | (with_reducible first | exact True.intro | refine And.intro trivial ?_ | refine And.intro ?_ ?_) | exact Nat.le_of_ble_eq_true rfl | exact Or.inl rfl | (intro h_; cases h_) | (intro h_; (try simp only [vS1] at h_)) | rfl))) <;> (try (conv => whnf)) <;> (try first | change (_ : Int) ≤ _ | change (_ : Nat) ≤ _) <;> (try ((fail_if_success (with_reducible apply Exists.intro)); (try dsimp only); (try simp only [vS1]))) <;> (try simp (disch := omega) only [vS3, vS2] at *)
  all_goals (try (fail_if_success (with_reducible apply Exists.intro)); first | with_reducible assumption | omega | exact mdl (by omega) | exact ilo1 (by omega) | exact ilo2 (by omega) | exact ihi1 (by omega) (by omega) | exact ihi2 (by omega) (by omega))
  refine awp'_loopG (α := Nat) (fun k ver_ => [(22, vInt k)]) (fun k ver_ => [(3, 3, true, .box t_impl_Point [.d (.int .i64 (minX xs k)), .d (.int .i64 (minY xs k))]), (4, 4, true, .box t_impl_Point [.d (.int .i64 (maxX xs k)), .d (.int .i64 (maxY xs k))])]) (fun k ver_ => []) (fun k => k ≤ xs.length) (fun k => xs.length - k) [1, 20, 21] [] (0) ?_
  conv => whnf
  refine ⟨⟨?inv3_, ?vals3_, ?own3_, ?fix3_⟩, ?body3_⟩
  case' vals3_ => (repeat' (first | (with_reducible first | exact True.intro | refine And.intro ?_ ?_ | refine Head.mk ?_ ?_ ?_ ?_) | ((conv => lhs; whnf); first | (with_reducible first | rfl | exact vInt_s (by omega)) | exact rfl) | ((conv => whnf); first | (with_reducible first | exact True.intro | refine And.intro ?_ ?_)))) <;> (try (conv => lhs; whnf))
  case' own3_ => (repeat' (first | (with_reducible first | exact True.intro | refine And.intro ?_ ?_ | refine Head.mk ?_ ?_ ?_ ?_) | ((conv => lhs; whnf); first | (with_reducible first | rfl | exact vInt_s (by omega)) | exact rfl) | ((conv => whnf); first | (with_reducible first | exact True.intro | refine And.intro ?_ ?_)))) <;> (try (conv => lhs; whnf))
  case' fix3_ => (repeat' (first | (with_reducible first | exact True.intro | refine And.intro ?_ ?_ | refine Head.mk ?_ ?_ ?_ ?_) | ((conv => lhs; whnf); first | (with_reducible first | rfl | exact vInt_s (by omega)) | exact rfl) | ((conv => whnf); first | (with_reducible first | exact True.intro | refine And.intro ?_ ?_)))) <;> (try (conv => lhs; whnf))
  · exact Nat.zero_le _
  rintro k g_ o_ v_ hk
  (repeat' (first | (with_reducible first | exact True.intro | refine zQ ?_ | (refine zG hG_ ?_; intro K_ hK_) | (refine zR ?_; intro K_ hK_) | (refine hK_ _ _ ?_; try clear hK_ K_) | refine sq_n ?_ | refine sq_r ?_ | refine sq_e ?_ | refine bq_n ?_ | refine bq_r ?_ | refine bq_q ?_ | refine zB ?_ | refine zX ?_ | refine zT ?_ | refine zK ?_ | refine gq_n ?_ | refine gq_r ?_ | refine gq_e ?_ | refine lq_n ?_ | refine lq_r ?_ | refine lq_e ?_ | refine bq_e (by decide) ?_) | ((with_reducible refine zC (b := ?b_) ?hb_ ?_ ?_); case hb_ => rfl) | ((conv => whnf); first | (with_reducible refine hK_ _ _ ?_; try clear hK_ K_) | (with_reducible refine fun (g_ : Sl) (o_ : Ow) => ?_) | (with_reducible first | exact True.intro | refine And.intro trivial ?_ | refine And.intro ?_ ?_) | exact Nat.le_of_ble_eq_true rfl | exact Or.inl rfl | (intro h_; cases h_) | (intro h_; (try simp only [vS1] at h_)) | rfl))) <;> (try (conv => whnf)) <;> (try first | change (_ : Int) ≤ _ | change (_ : Nat) ≤ _) <;> (try ((fail_if_success (with_reducible apply Exists.intro)); (try dsimp only); (try simp only [vS1]))) <;> (try simp (disch := omega) only [vS3, vS2] at *)
  all_goals (try (fail_if_success (with_reducible apply Exists.intro)); first | with_reducible assumption | omega | exact mdl (by omega) | exact ilo1 (by omega) | exact ilo2 (by omega) | exact ihi1 (by omega) (by omega) | exact ihi2 (by omega) (by omega))
  · refine ⟨k + 1, by omega, by omega, ?_⟩
    (repeat' (first | (with_reducible first | exact True.intro | refine And.intro ?_ ?_ | refine Head.mk ?_ ?_ ?_ ?_) | ((conv => lhs; whnf); first | (with_reducible first | rfl | exact vInt_s (by omega)) | exact rfl) | ((conv => whnf); first | (with_reducible first | exact True.intro | refine And.intro ?_ ?_)))) <;> (try (conv => lhs; whnf))
    · exact congrArg (Own.box _) (by unfold minX minY; rw [fold_succ _ _ h_, fold_succ _ _ h_])
    · exact congrArg (Own.box _) (by unfold maxX maxY; rw [fold_succ _ _ h_, fold_succ _ _ h_])
  obtain rfl : k = xs.length := by omega
  have b1 := minX_bd hr xs.length
  have b2 := maxX_bd hr xs.length
  have b3 := minY_bd hr xs.length
  have b4 := maxY_bd hr xs.length
  have e1 : spanX xs = (maxX xs xs.length + 1 - minX xs xs.length).toNat := rfl
  have e2 : spanY xs = (maxY xs xs.length + 1 - minY xs xs.length).toNat := rfl
  refine awp'_loopG (α := Nat) (fun j ver_ => [(8, vInt (minY xs xs.length + j))]) (fun j ver_ => [(7, 49, false, .row t_impl_Point (.b .pt) (rowsN (inB xs) (minX xs xs.length) (minY xs xs.length) (spanX xs) j))]) (fun j ver_ => []) (fun j => j ≤ spanY xs) (fun j => spanY xs - j) [1, 3, 4] [3, 4] (0) ?_
  conv => whnf
  refine ⟨⟨?inv4_, ?vals4_, ?own4_, ?fix4_⟩, ?body4_⟩
  case' vals4_ => (repeat' (first | (with_reducible first | exact True.intro | refine And.intro ?_ ?_ | refine Head.mk ?_ ?_ ?_ ?_) | ((conv => lhs; whnf); first | (with_reducible first | rfl | exact vInt_s (by omega)) | exact rfl) | ((conv => whnf); first | (with_reducible first | exact True.intro | refine And.intro ?_ ?_)))) <;> (try (conv => lhs; whnf))
  case' own4_ => (repeat' (first | (with_reducible first | exact True.intro | refine And.intro ?_ ?_ | refine Head.mk ?_ ?_ ?_ ?_) | ((conv => lhs; whnf); first | (with_reducible first | rfl | exact vInt_s (by omega)) | exact rfl) | ((conv => whnf); first | (with_reducible first | exact True.intro | refine And.intro ?_ ?_)))) <;> (try (conv => lhs; whnf))
  case' fix4_ => (repeat' (first | (with_reducible first | exact True.intro | refine And.intro ?_ ?_ | refine Head.mk ?_ ?_ ?_ ?_) | ((conv => lhs; whnf); first | (with_reducible first | rfl | exact vInt_s (by omega)) | exact rfl) | ((conv => whnf); first | (with_reducible first | exact True.intro | refine And.intro ?_ ?_)))) <;> (try (conv => lhs; whnf))
  · exact congrArg vInt (by omega)
  · exact Nat.zero_le _
  rintro j g_ o_ v_ hj
  (repeat' (first | (with_reducible first | exact True.intro | refine zQ ?_ | (refine zG hG_ ?_; intro K_ hK_) | (refine zR ?_; intro K_ hK_) | (refine hK_ _ _ ?_; try clear hK_ K_) | refine sq_n ?_ | refine sq_r ?_ | refine sq_e ?_ | refine bq_n ?_ | refine bq_r ?_ | refine bq_q ?_ | refine zB ?_ | refine zX ?_ | refine zT ?_ | refine zK ?_ | refine gq_n ?_ | refine gq_r ?_ | refine gq_e ?_ | refine lq_n ?_ | refine lq_r ?_ | refine lq_e ?_ | refine bq_e (by decide) ?_) | ((with_reducible refine zC (b := ?b_) ?hb_ ?_ ?_); case hb_ => rfl) | ((conv => whnf); first | (with_reducible refine hK_ _ _ ?_; try clear hK_ K_) | (with_reducible refine fun (g_ : Sl) (o_ : Ow) => ?_) | (with_reducible first | exact True.intro | refine And.intro trivial ?_ | refine And.intro ?_ ?_) | exact Nat.le_of_ble_eq_true rfl | exact Or.inl rfl | (intro h_; cases h_) | (intro h_; (try simp only [vS1] at h_)) | rfl))) <;> (try (conv => whnf)) <;> (try first | change (_ : Int) ≤ _ | change (_ : Nat) ≤ _) <;> (try ((fail_if_success (with_reducible apply Exists.intro)); (try dsimp only); (try simp only [vS1]))) <;> (try simp (disch := omega) only [vS3, vS2] at *)
  all_goals (try (fail_if_success (with_reducible apply Exists.intro)); first | with_reducible assumption | omega | exact mdl (by omega) | exact ilo1 (by omega) | exact ilo2 (by omega) | exact ihi1 (by omega) (by omega) | exact ihi2 (by omega) (by omega))
  · have hj2 : j < spanY xs := by omega
    refine awp'_loopG (α := Nat) (fun i ver_ => [(9, vInt (minX xs xs.length + i))]) (fun i ver_ => [(7, 49, false, .row t_impl_Point (.b .pt) (rowsN (inB xs) (minX xs xs.length) (minY xs xs.length) (spanX xs) j ++ rowN (inB xs) (minX xs xs.length) (minY xs xs.length + j) i))]) (fun i ver_ => []) (fun i => i ≤ spanX xs) (fun i => spanX xs - i) [1, 3, 4, 8] [3, 4] (0) ?_
    conv => whnf
    refine ⟨⟨?inv5_, ?vals5_, ?own5_, ?fix5_⟩, ?body5_⟩
    case' vals5_ => (repeat' (first | (with_reducible first | exact True.intro | refine And.intro ?_ ?_ | refine Head.mk ?_ ?_ ?_ ?_) | ((conv => lhs; whnf); first | (with_reducible first | rfl | exact vInt_s (by omega)) | exact rfl) | ((conv => whnf); first | (with_reducible first | exact True.intro | refine And.intro ?_ ?_)))) <;> (try (conv => lhs; whnf))
    case' own5_ => (repeat' (first | (with_reducible first | exact True.intro | refine And.intro ?_ ?_ | refine Head.mk ?_ ?_ ?_ ?_) | ((conv => lhs; whnf); first | (with_reducible first | rfl | exact vInt_s (by omega)) | exact rfl) | ((conv => whnf); first | (with_reducible first | exact True.intro | refine And.intro ?_ ?_)))) <;> (try (conv => lhs; whnf))
    case' fix5_ => (repeat' (first | (with_reducible first | exact True.intro | refine And.intro ?_ ?_ | refine Head.mk ?_ ?_ ?_ ?_) | ((conv => lhs; whnf); first | (with_reducible first | rfl | exact vInt_s (by omega)) | exact rfl) | ((conv => whnf); first | (with_reducible first | exact True.intro | refine And.intro ?_ ?_)))) <;> (try (conv => lhs; whnf))
    · exact congrArg (Own.row _ _) (by unfold rowN; simp)
    · exact congrArg vInt (Int.add_zero _).symm
    · exact Nat.zero_le _
    rintro i g_ o_ v_ hi
    have hl := rowsN_len' (inB xs) (minX xs xs.length) (minY xs xs.length) (show j ≤ 81 by omega) (show spanX xs ≤ 81 by omega)
    have hl2 := rowN_len (inB xs) (minX xs xs.length) (minY xs xs.length + j) i
    (repeat' (first | (with_reducible first | exact True.intro | refine zQ ?_ | (refine zG hG_ ?_; intro K_ hK_) | (refine zR ?_; intro K_ hK_) | (refine hK_ _ _ ?_; try clear hK_ K_) | refine sq_n ?_ | refine sq_r ?_ | refine sq_e ?_ | refine bq_n ?_ | refine bq_r ?_ | refine bq_q ?_ | refine zB ?_ | refine zX ?_ | refine zT ?_ | refine zK ?_ | refine gq_n ?_ | refine gq_r ?_ | refine gq_e ?_ | refine lq_n ?_ | refine lq_r ?_ | refine lq_e ?_ | refine bq_e (by decide) ?_) | ((with_reducible refine zC (b := ?b_) ?hb_ ?_ ?_); case hb_ => rfl) | ((conv => whnf); first | (with_reducible refine hK_ _ _ ?_; try clear hK_ K_) | (with_reducible refine fun (g_ : Sl) (o_ : Ow) => ?_) | (with_reducible first | exact True.intro | refine And.intro trivial ?_ | refine And.intro ?_ ?_) | exact Nat.le_of_ble_eq_true rfl | exact Or.inl rfl | (intro h_; cases h_) | (intro h_; (try simp only [vS1] at h_)) | rfl))) <;> (try (conv => whnf)) <;> (try first | change (_ : Int) ≤ _ | change (_ : Nat) ≤ _) <;> (try ((fail_if_success (with_reducible apply Exists.intro)); (try dsimp only); (try simp only [vS1]))) <;> (try simp (disch := omega) only [vS3, vS2] at *)
    all_goals (try (fail_if_success (with_reducible apply Exists.intro)); first | with_reducible assumption | omega | exact mdl (by omega) | exact ilo1 (by omega) | exact ilo2 (by omega) | exact ihi1 (by omega) (by omega) | exact ihi2 (by omega) (by omega))
    · refine ⟨i + 1, by omega, by omega, ?_⟩
      (repeat' (first | (with_reducible first | exact True.intro | refine And.intro ?_ ?_ | refine Head.mk ?_ ?_ ?_ ?_) | ((conv => lhs; whnf); first | (with_reducible first | rfl | exact vInt_s (by omega)) | exact rfl) | ((conv => whnf); first | (with_reducible first | exact True.intro | refine And.intro ?_ ?_)))) <;> (try (conv => lhs; whnf))
      · exact congrArg vInt (by omega)
      · refine congrArg (Own.row _ _) ?_
        rw [rowN_succ, if_pos (by simpa [inB] using h_), List.append_assoc]
    · refine ⟨i + 1, by omega, by omega, ?_⟩
      (repeat' (first | (with_reducible first | exact True.intro | refine And.intro ?_ ?_ | refine Head.mk ?_ ?_ ?_ ?_) | ((conv => lhs; whnf); first | (with_reducible first | rfl | exact vInt_s (by omega)) | exact rfl) | ((conv => whnf); first | (with_reducible first | exact True.intro | refine And.intro ?_ ?_)))) <;> (try (conv => lhs; whnf))
      · exact congrArg vInt (by omega)
      · refine congrArg (Own.row _ _) ?_
        rw [rowN_succ, if_neg (by simpa [inB] using h_), List.append_nil]
    · obtain rfl : i = spanX xs := by omega
      refine ⟨j + 1, by omega, by omega, ?_⟩
      (repeat' (first | (with_reducible first | exact True.intro | refine And.intro ?_ ?_ | refine Head.mk ?_ ?_ ?_ ?_) | ((conv => lhs; whnf); first | (with_reducible first | rfl | exact vInt_s (by omega)) | exact rfl) | ((conv => whnf); first | (with_reducible first | exact True.intro | refine And.intro ?_ ?_)))) <;> (try (conv => lhs; whnf))
      · exact congrArg vInt (by omega)
      · exact congrArg (Own.row _ _) (rowsN_succ _ _ _ _ _).symm
  · obtain rfl : j = spanY xs := by omega
    refine congrArg some ?_
    unfold floorPts
    rw [if_pos hr]; rfl
def kerPtsC : Con := mkCon [.room] (fun x => x.1.length ≤ 1048576) fun x => ptRow (kerPts x.1)
end Go.Proofs.Ytnepfcnlngpchaa
namespace Go.Proofs.Ytnepfcnlngpchaa
open Go.Shelf Go.RowKit Go.Lib Go.Sort Go.Proofs.Ytnepfcnlngpchaa.Nm
def sort_ren : Go.Shelf.Ren := ⟨fun | 6 => 81 | 14 => 117 | 15 => 118 | 20 => 134 | 21 => 135 | 22 => 136 | 23 => 137 | 24 => 138 | 25 => 139 | 26 => 140 | 27 => 141 | 28 => 142 | 29 => 143 | 46 => 156 | 47 => 157 | 48 => 158 | 49 => 159 | 50 => 160 | 57 => 173 | n => n, fun | 0 => 0 | 3 => 3 | 4 => 4 | 5 => 5 | 9 => 9 | 22 => 24 | 24 => 31 | 25 => 79 | 39 => 110 | 45 => 120 | 46 => 121 | 50 => 125 | 53 => 128 | 55 => 130 | 66 => 139 | 70 => 143 | 76 => 151 | 77 => 72 | n => n, fun n => n⟩
theorem sort_lay : SlLaysF0.n6 Try.prog sort_ren := {
  mixed := by kernel_rfl
  f6 := ⟨Try.f81.name, by decide, Try.func81.trans (congrArg some (by kernel_rfl))⟩
  f14 := ⟨Try.f117.name, by decide, Try.func117.trans (congrArg some (by kernel_rfl))⟩
  f15 := Try.func118.trans (congrArg some (by kernel_rfl))
  f20 := ⟨Try.f134.name, by decide, Try.func134.trans (congrArg some (by kernel_rfl))⟩
  f21 := ⟨Try.f135.name, by decide, Try.func135.trans (congrArg some (by kernel_rfl))⟩
  f22 := ⟨Try.f136.name, by decide, Try.func136.trans (congrArg some (by kernel_rfl))⟩
  f23 := ⟨Try.f137.name, by decide, Try.func137.trans (congrArg some (by kernel_rfl))⟩
  f24 := ⟨Try.f138.name, by decide, Try.func138.trans (congrArg some (by kernel_rfl))⟩
  f25 := ⟨Try.f139.name, by decide, Try.func139.trans (congrArg some (by kernel_rfl))⟩
  f26 := ⟨Try.f140.name, by decide, Try.func140.trans (congrArg some (by kernel_rfl))⟩
  f27 := ⟨Try.f141.name, by decide, Try.func141.trans (congrArg some (by kernel_rfl))⟩
  f28 := Try.func142.trans (congrArg some (by kernel_rfl))
  f29 := Try.func143.trans (congrArg some (by kernel_rfl))
  f46 := ⟨Try.f156.name, by decide, Try.func156.trans (congrArg some (by kernel_rfl))⟩
  f47 := Try.func157.trans (congrArg some (by kernel_rfl))
  f48 := Try.func158.trans (congrArg some (by kernel_rfl))
  f49 := ⟨Try.f159.name, by decide, Try.func159.trans (congrArg some (by kernel_rfl))⟩
  f50 := ⟨Try.f160.name, by decide, Try.func160.trans (congrArg some (by kernel_rfl))⟩
  f57 := ⟨Try.f173.name, by decide, Try.func173.trans (congrArg some (by kernel_rfl))⟩
  t0 := Try.underlying0
  a0 := Try.isAgg0
  z0 := Try.sizeOf0
  v0 := Try.zeroValue0
  t3 := Try.underlying3
  a3 := Try.isAgg3
  z3 := Try.sizeOf3
  v3 := Try.zeroValue3
  t4 := Try.underlying4
  a4 := Try.isAgg4
  z4 := Try.sizeOf4
  v4 := Try.zeroValue4
  t5 := Try.underlying5
  a5 := Try.isAgg5
  z5 := Try.sizeOf5
  v5 := Try.zeroValue5
  t9 := Try.underlying9
  a9 := Try.isAgg9
  z9 := Try.sizeOf9
  v9 := Try.zeroValue9
  t22 := Try.underlying24
  a22 := Try.isAgg24
  z22 := Try.sizeOf24
  v22 := Try.zeroValue24
  t25 := Try.underlying79
  a25 := Try.isAgg79
  z25 := Try.sizeOf79
  v25 := Try.zeroValue79
  t39 := Try.underlying110
  a39 := Try.isAgg110
  z39 := Try.sizeOf110
  v39 := Try.zeroValue110
  t45 := Try.underlying120
  a45 := Try.isAgg120
  z45 := Try.sizeOf120
  v45 := Try.zeroValue120
  t46 := Try.underlying121
  a46 := Try.isAgg121
  z46 := Try.sizeOf121
  v46 := Try.zeroValue121
  t50 := Try.underlying125
  a50 := Try.isAgg125
  z50 := Try.sizeOf125
  v50 := Try.zeroValue125
  t53 := Try.underlying128
  a53 := Try.isAgg128
  z53 := Try.sizeOf128
  v53 := Try.zeroValue128
  t55 := Try.underlying130
  a55 := Try.isAgg130
  z55 := Try.sizeOf130
  v55 := Try.zeroValue130
  t66 := Try.underlying139
  a66 := Try.isAgg139
  z66 := Try.sizeOf139
  v66 := Try.zeroValue139
  t70 := Try.underlying143
  a70 := Try.isAgg143
  z70 := Try.sizeOf143
  v70 := Try.zeroValue143
  t76 := Try.underlying151
  a76 := Try.isAgg151
  z76 := Try.sizeOf151
  v76 := Try.zeroValue151
  t77 := Try.underlying72
  a77 := Try.isAgg72
  z77 := Try.sizeOf72
  v77 := Try.zeroValue72
}
theorem sort_agg : ∀ w, (isAgg (sort_ren.t 24)).run Try.prog w = .ok true w := Try.isAgg31
theorem sort_size : ∀ w, (Go.sizeOf (sort_ren.t 24)).run Try.prog w = .ok 2 w := Try.sizeOf31
abbrev Pt2 := Int × Int
def encP (x : Pt2) : List Value := [.int .i64 x.1, .int .i64 x.2]
theorem encP_len (x : Pt2) : (encP x).length = 2 := rfl
theorem encP_one (x : Pt2) : ∀ v ∈ encP x, v.oneCell' = true := by
  intro v hv
  simp only [encP, List.mem_cons, List.not_mem_nil, or_false] at hv
  rcases hv with rfl | rfl <;> rfl
theorem flatP_get {xs : List Pt2} {i : Nat} {x : Pt2} (h : xs[i]? = some x) {j : Nat} {u : Value} (hu : (encP x)[j]? = some u) : (flatK encP 2 xs.toArray).toList[i * 2 + j]? = some u := by
  have hi : i < xs.length := (List.getElem?_eq_some_iff.1 h).1
  have hj : j < 2 := by have := (List.getElem?_eq_some_iff.1 hu).1; simpa [encP] using this
  have hlt : i * 2 + j < xs.toArray.size * 2 := by simp; omega
  have hg := get_flatK encP 2 xs.toArray (i * 2 + j) hlt
  rw [show (i * 2 + j) / 2 = i by omega, show (i * 2 + j) % 2 = j by omega] at hg
  rw [Array.getElem?_toList]
  have hs : i * 2 + j < (flatK encP 2 xs.toArray).size := by rw [size_flatK]; exact hlt
  rw [getElem!_pos (flatK encP 2 xs.toArray) (i * 2 + j) hs] at hg
  rw [Array.getElem?_eq_getElem hs, hg]
  have hx : xs.toArray[i]! = x := by rw [getElem!_pos xs.toArray i (by simpa using hi)]; simp [(List.getElem?_eq_some_iff.1 h).2]
  rw [hx]
  rw [getElem!_pos (encP x) j (by simpa [encP] using hj)]
  rw [List.getElem?_eq_getElem (by simpa [encP] using hj)] at hu
  exact hu
theorem flat_one (xs : List Pt2) : ∀ v ∈ (flatK encP 2 xs.toArray).toList, v.oneCell' = true := by
  intro v hv
  obtain ⟨t, ht, rfl⟩ := Array.getElem_of_mem (Array.mem_toList_iff.1 hv)
  have ht' : t < xs.toArray.size * 2 := by rw [size_flatK] at ht; exact ht
  have hg := get_flatK encP 2 xs.toArray t ht'
  rw [getElem!_pos (flatK encP 2 xs.toArray) t ht] at hg
  rw [hg]
  have : t % 2 < 2 := Nat.mod_lt _ (by omega)
  have hm : t % 2 = 0 ∨ t % 2 = 1 := by omega
  rcases hm with h | h <;> rw [h] <;> rfl
theorem rowC_flat (w : World) (F : Nat → Prop) (xs : List Pt2) : RowC w F (.b .pt) xs (flatK encP 2 xs.toArray).toList :=
  ⟨flat_one xs, fun i x hx => ⟨encP x, rfl, rfl, fun j u hu => flatP_get hx hu⟩⟩
theorem holds_of_own {w : World} {F : Nat → Prop} {ty : TypeId} {s : Value} {xs : List Pt2} {cells : List Value} (hw : w.ownsRow 0 ty 2 s xs.length cells) (hr : RowC w F (.b .pt) xs cells) (hne : 0 < xs.length) :
    ∃ g cap cur, s = .slice (some ⟨g, 0, none⟩) xs.length cap ∧ w.heap[g]? = some (.cells cur ty (0, 0)) ∧ xs.length ≤ cap ∧ cap ≤ maxLen ∧ cur.size = cap * 2 ∧ HoldsK encP 2 w g 0 xs.toArray := by
  rcases hw.2 with ⟨_, h0⟩ | ⟨g, cap, cur, hv, _, hh, hn, hm, hs, ht⟩
  · omega
  refine ⟨g, cap, cur, hv, hh, hn, hm, hs, fun t ht' => ?_⟩
  rw [size_flatK] at ht'
  have ht2 : t < xs.length * 2 := by simpa using ht'
  have hlt : t < cur.size := by rw [hs]; exact Nat.lt_of_lt_of_le ht2 (Nat.mul_le_mul_right 2 hn)
  have hi : t / 2 < xs.length := by omega
  obtain ⟨us, hul, hue, hus⟩ := hr.2 (t / 2) xs[t / 2] (List.getElem?_eq_getElem hi)
  have hue : us = encP xs[t / 2] := hue
  subst hue
  have hj : t % 2 < 2 := Nat.mod_lt _ (by omega)
  have hc := hus (t % 2) (encP xs[t / 2])[t % 2] (List.getElem?_eq_getElem (by exact hj))
  rw [show t / 2 * (ElK.b ElB.pt).size + t % 2 = t by show t / 2 * 2 + t % 2 = t; omega, ← ht, List.getElem?_take_of_lt (by exact ht2), Array.getElem?_toList] at hc
  have hfl := flatP_get (xs := xs) (i := t / 2) (List.getElem?_eq_getElem hi) (j := t % 2) (List.getElem?_eq_getElem (by exact hj))
  rw [show t / 2 * 2 + t % 2 = t by omega, Array.getElem?_toList] at hfl
  have hsz : t < (flatK encP 2 xs.toArray).size := by rw [size_flatK]; exact ht'
  rw [Array.getElem?_eq_getElem hsz] at hfl
  rw [getElem!_pos (flatK encP 2 xs.toArray) t hsz, Option.some.inj hfl]
  constructor
  · simp only [World.cell?, hh, Nat.zero_add]
    simpa using hc
  · simp [World.frozen?, hh]
theorem after_sort {w : World} {ty : TypeId} {g cap n : Nat} {cur : Array Value} {ys : List Pt2} {os : Array Obj} (hh : w.heap[g]? = some (.cells cur ty (0, 0))) (hn : ys.length ≤ cap) (hm : cap ≤ maxLen) (hs : cur.size = cap * 2) :
    w.grownBy (sortWorldK encP 2 w g 0 n ys.toArray os) (some g) ∧ (sortWorldK encP 2 w g 0 n ys.toArray os).ownsRow 0 ty 2 (.slice (some ⟨g, 0, none⟩) ys.length cap) ys.length (flatK encP 2 ys.toArray).toList := by
  have hg : g < w.heap.size := lt_of_block hh
  have hheap : (sortWorldK encP 2 w g 0 n ys.toArray os).heap = w.heap.modify g (onCells (Go.Sort.putCells id 0 (flatK encP 2 ys.toArray))) ++ os := rfl
  have hfs : (flatK encP 2 ys.toArray).size = ys.length * 2 := by rw [size_flatK]; simp
  have hpre : ∀ k, k < w.heap.size → (sortWorldK encP 2 w g 0 n ys.toArray os).heap[k]? = (w.heap.modify g (onCells (Go.Sort.putCells id 0 (flatK encP 2 ys.toArray))))[k]? := fun k hk => by
    rw [hheap, Array.getElem?_append_left (by rw [Array.size_modify]; exact hk)]
  refine ⟨⟨rfl, rfl, rfl, by rw [hheap, Array.size_append, Array.size_modify]; omega, fun k hk hne => ?_⟩, by rw [Array.length_toList, hfs], .inr ⟨g, cap, Go.Sort.putCells id 0 (flatK encP 2 ys.toArray) cur, rfl, Nat.zero_le _, ?_, hn, hm, ?_, ?_⟩⟩
  · rw [hpre k hk, Array.getElem?_modify, if_neg (fun e => hne (by rw [e]))]
  · rw [hpre g hg, Array.getElem?_modify, if_pos rfl, hh]; rfl
  · rw [← hs]; simp [Go.Sort.putCells]
  · refine List.ext_getElem? fun i => ?_
    rcases Nat.lt_or_ge i (ys.length * 2) with hi | hi
    · rw [List.getElem?_take_of_lt hi, Array.getElem?_toList, Array.getElem?_toList]
      have hc : i < cur.size := by rw [hs]; exact Nat.lt_of_lt_of_le hi (Nat.mul_le_mul_right 2 hn)
      have hf : i < (flatK encP 2 ys.toArray).size := by rw [hfs]; exact hi
      simp only [Go.Sort.putCells, Array.getElem?_mapIdx, Array.getElem?_eq_getElem hc, Array.getElem?_eq_getElem hf, Option.map_some, Nat.zero_le, true_and, Nat.zero_add, hf, if_true, id, Nat.sub_zero]
      rw [getElem!_pos (flatK encP 2 ys.toArray) i hf]
    · rw [List.getElem?_eq_none (by rw [List.length_take]; omega), List.getElem?_eq_none (by rw [Array.length_toList, hfs]; exact hi)]
def sqM (a b : Pt2) : Int := wrap64 (wrap64 (wrap64 (a.1 - b.1) * wrap64 (a.1 - b.1)) + wrap64 (wrap64 (a.2 - b.2) * wrap64 (a.2 - b.2)))
set_option maxHeartbeats 1000000 in
theorem square_k (x y : Pt2) (W : World) : Calls Try.prog 146 #[.agg #[.int .i64 x.1, .int .i64 x.2], .agg #[.int .i64 y.1, .int .i64 y.2]] W fun e w' => e = .returned (.int .i64 (sqM x y)) ∧ ∃ q os', w' = grow (W.drewN q) os' := by
  go_enter Try.func146, Try.ntmps146
  go_wp2
  go_ret
  exact ⟨rfl, 0, _, by rw [alloc_eq_grow, alloc_eq_grow, grow_grow]; rfl⟩
def cbCmp (a x y : Pt2) : Int := IntKind.i64.wrap (sqM a x - sqM a y)
theorem addr_plain {W : World} {ad : Addr} {v : Value} (h : W.cell? ad = some v) : ∃ b o, ad = ⟨b, o, none⟩ := by
  obtain ⟨b, o, sp⟩ := ad
  cases sp with
  | none => exact ⟨b, o, rfl⟩
  | some s => simp only [World.cell?] at h; split at h <;> simp at h
set_option maxHeartbeats 2000000 in
theorem cb_k (a x y : Pt2) (ad : Addr) (W : World) (h0 : W.cell? ad = some (.int .i64 a.1)) (h1 : W.cell? (ad.add 1) = some (.int .i64 a.2)) (hl : ad.block < W.heap.size) :
    Calls Try.prog 145 #[.agg #[.int .i64 x.1, .int .i64 x.2], .agg #[.int .i64 y.1, .int .i64 y.2], .pointer (some ad)] W fun e w' => e = .returned (.int .i64 (cbCmp a x y)) ∧ ∃ q os', w' = grow (W.drewN q) os' := by
  obtain ⟨b, o, rfl⟩ := addr_plain h0
  have h1 : W.cell? ⟨b, o + 1, none⟩ = some (.int .i64 a.2) := h1
  have hl : b < W.heap.size := hl
  have mixed : Try.prog.follows .mixedOrders = true := by kernel_rfl
  have hcon := fun x y W' => square_k x y W'
  go_enter Try.func145, Try.ntmps145
  go_wp2
  have hwq : ∃ W2 : World, W2 = (W.alloc (.cells #[.int .i64 x.1, .int .i64 x.2] 31)).alloc (.cells #[.int .i64 y.1, .int .i64 y.2] 31) := ⟨_, rfl⟩
  obtain ⟨W2, hW2⟩ := hwq
  have hgr : W2 = grow W #[.cells #[.int .i64 x.1, .int .i64 x.2] 31, .cells #[.int .i64 y.1, .int .i64 y.2] 31] := by rw [hW2, alloc_eq_grow, alloc_eq_grow, grow_grow]; rfl
  have hsz : W2.heap.size = W.heap.size + 2 := by rw [hgr, size_grow]; rfl
  have ca0 : ∀ n os, (grow (W2.drewN n) os).cell? ⟨b, o, none⟩ = some (.int .i64 a.1) := cell_grown (by rw [hsz]; show b < _; omega) (by rw [hgr, cell?_grow _ _ _ hl]; exact h0)
  have ca1 : ∀ n os, (grow (W2.drewN n) os).cell? ⟨b, o + 1, none⟩ = some (.int .i64 a.2) := cell_grown (by rw [hsz]; show b < _; omega) (by rw [hgr, cell?_grow _ _ _ hl]; exact h1)
  have cx0 : ∀ n os, (grow (W2.drewN n) os).cell? ⟨W.heap.size, 0, none⟩ = some (.int .i64 x.1) := cell_grown (by rw [hsz]; show W.heap.size < _; omega) (by rw [hW2]; simp)
  have cx1 : ∀ n os, (grow (W2.drewN n) os).cell? ⟨W.heap.size, 1, none⟩ = some (.int .i64 x.2) := cell_grown (by rw [hsz]; show W.heap.size < _; omega) (by rw [hW2]; simp)
  have cy0 : ∀ n os, (grow (W2.drewN n) os).cell? ⟨W.heap.size + 1, 0, none⟩ = some (.int .i64 y.1) := cell_grown (by rw [hsz]; show W.heap.size + 1 < _; omega) (by rw [hW2]; simp)
  have cy1 : ∀ n os, (grow (W2.drewN n) os).cell? ⟨W.heap.size + 1, 1, none⟩ = some (.int .i64 y.2) := cell_grown (by rw [hsz]; show W.heap.size + 1 < _; omega) (by rw [hW2]; simp)
  rw [← hW2]
  have HGR : Hid (W2 = grow W #[.cells #[.int .i64 x.1, .int .i64 x.2] 31, .cells #[.int .i64 y.1, .int .i64 y.2] 31]) := hgr
  clear hW2 hgr hsz h0 h1
  have eg : ∀ args w, (callFunc 146 args).run Try.prog w = .ok (.enter 146 args) w := enters_of Try.func146 (by kernel_rfl) rfl
  go_quiet_grown (first | (go_at_fn 146; refine Calls.grown_of (hcon _ _ _)))
  go_wp2_with fail
  go_ret
  exact ⟨rfl, nq, _, by rw [HGR.out]; show grow (grow (W.drewN nq) _) _ = _; rw [grow_grow]⟩
def distSort (a : Pt2) (xs : List Pt2) : List Pt2 := (Sort.insertionSort (ltOf (cbCmp a)) xs.toArray 0 xs.length).toList
def cloPt (f : FuncId × List D) : Pt2 := match f.2 with | [.ptr [.int _ x, .int _ y]] => (x, y) | _ => (0, 0)
def sortC : ConW := mkConW [.sl (.b .pt), .clo] 0 t_impl_Point (fun x => 0 < x.1.length ∧ x.1.length ≤ 12 ∧ ∃ a : Pt2, x.2.1 = (n_impl_cornersBetween_1, [.ptr [.int .i64 a.1, .int .i64 a.2]])) (fun _ => .tup []) fun x => ⟨.b .pt, distSort (cloPt x.2.1) x.1, false⟩
theorem cell_sortW {w : World} {g n : Nat} {d : Array Pt2} {os : Array Obj} {ad : Addr} (hne : ad.block ≠ g) (hl : ad.block < w.heap.size) : (sortWorldK encP 2 w g 0 n d os).cell? ad = w.cell? ad := by
  unfold sortWorldK
  rw [cell?_grow _ _ _ (by rw [size_putRowK]; exact hl), cell?_putRowK_other _ _ _ _ _ _ _ hne]
  rfl
theorem insInner_size (lt : Pt2 → Pt2 → Bool) (a : Nat) : ∀ (j : Nat) (d : Array Pt2), (insInner lt a j d).size = d.size
  | 0, _ => rfl
  | j + 1, d => by
    unfold insInner
    split
    · rw [insInner_size lt a j, size_swp]
    · rfl
theorem insOuter_size (lt : Pt2 → Pt2 → Bool) (a b : Nat) : ∀ (n i : Nat) (d : Array Pt2), b - i ≤ n → (insOuter lt a b i d).size = d.size
  | 0, i, d, h => by unfold insOuter; rw [if_neg (by omega)]
  | n + 1, i, d, h => by
    unfold insOuter
    split
    · rw [insOuter_size lt a b n (i + 1) _ (by omega), insInner_size]
    · rfl
theorem distSort_len (a : Pt2) (xs : List Pt2) : (distSort a xs).length = xs.length := by
  unfold distSort Sort.insertionSort
  rw [Array.length_toList, insOuter_size _ _ _ _ _ _ (Nat.le_refl _)]
  simp
theorem decs_sort {k : ElK} {xs : List k.T} {c : AV} {x : Args [.sl (.b .pt), .clo]} (h : decs [.sl (.b .pt), .clo] [.one (.d (.sl none k xs)), c] = some x) :
    (∃ e : k = .b .pt, e ▸ xs = x.1) ∧ c = .one (.d (.clo x.2.1.1 x.2.1.2)) := by
  simp only [decs] at h
  split at h
  next a b e1 e2 =>
    injection h with h
    subst h
    refine ⟨castL_ok e1, ?_⟩
    split at e2
    next a' b' e3 e4 =>
      injection e2 with e2
      subst e2
      cases c with
      | one cc =>
        cases cc with
        | d dd => cases dd <;> first | (cases e3; rfl) | (simp only [Ty.dec] at e3; cases e3; done)
        | own _ _ => simp only [Ty.dec] at e3; cases e3
        | ptr _ _ _ _ => simp only [Ty.dec] at e3; cases e3
        | sub _ _ _ _ => simp only [Ty.dec] at e3; cases e3
      | agg _ => simp only [Ty.dec] at e3; cases e3
      | tup _ => simp only [Ty.dec] at e3; cases e3
      | junk => simp only [Ty.dec] at e3; cases e3
    next => cases e2
  next => cases h
theorem sort_snd : SoundW Try.prog n_slices_SortFunc_impl_Point sortC := by
  intro w F args vs a0 l ver (x : Args [.sl (.b .pt), .clo]) s k xs ys cells ha hoc hoth hpat hpre hcast hbase hF hlen hargs hw hrow hs hone
  have hpat : decs [.sl (.b .pt), .clo] (setA args 0 (ownAs a0 (.d (.sl none k xs)))) = some x := hpat
  have ha : nthA args 0 = some a0 := ha
  match args, vs, ha, hpat, hlen, hargs with
  | [], _, ha, _, _, _ => cases ha
  | [z], _, _, hpat, _, _ => simp only [setA, decs] at hpat; split at hpat <;> simp_all
  | z :: c :: e :: r, _, _, hpat, _, _ => simp only [setA, decs] at hpat; split at hpat <;> simp_all
  | [z, c], [v0, v1], ha, hpat, hlen, hargs =>
    obtain rfl : z = a0 := Option.some.inj ha
    have h0 := hargs 0 z v0 rfl rfl
    have h1 := hargs 1 c v1 rfl rfl
    have hd : decs [.sl (.b .pt), .clo] [ownAs z (.d (.sl none k xs)), c] = some x := hpat
    obtain ⟨x1, ⟨xf, xc⟩, ⟨⟩⟩ := x
    obtain ⟨hp1, hp2, ⟨p, q⟩, hp3⟩ := hpre
    have hp1 : 0 < x1.length := hp1
    have hp2 : x1.length ≤ 12 := hp2
    have hp3 : (xf, xc) = (n_impl_cornersBetween_1, [D.ptr [.int .i64 p, .int .i64 q]]) := hp3
    injection hp3 with hf hc
    subst hf hc
    have hz : z = .one (.own l ver) := by
      unfold ownCell at hoc
      split at hoc
      · injection hoc with hoc; injection hoc with e1 e2; rw [e1, e2]
      · simp only [ownAs, decs, Ty.dec] at hd; cases hd
      · cases hoc
    subst hz
    obtain ⟨⟨ek, he⟩, hcc⟩ := decs_sort hd
    subst ek
    have he : xs = x1 := he
    subst he
    subst hcc
    have hv0 : v0 = s := h0
    subst hv0
    obtain ⟨us, hul, hud, rfl⟩ : ∃ us : List Value, us.length = 1 ∧ (∀ (j : Nat) x u, [D.ptr [.int .i64 p, .int .i64 q]][j]? = some x → us[j]? = some u → DC w F x u) ∧ v1 = .func (.func n_impl_cornersBetween_1) #[] us.toArray := by
      have h1 : DC w F (.clo n_impl_cornersBetween_1 [D.ptr [.int .i64 p, .int .i64 q]]) v1 := h1
      cases h1 with
      | clo us hl h => exact ⟨us, hl, h, rfl⟩
    match us, hul with
    | [u], _ =>
    have hu := hud 0 _ u rfl rfl
    obtain ⟨ad, rfl, hFa, hc0, hc1⟩ : ∃ ad, u = .pointer (some ad) ∧ F ad.block ∧ w.cell? (ad.add 0) = some (.int .i64 p) ∧ w.cell? (ad.add 1) = some (.int .i64 q) := by
      cases hu with
      | ptr ad us hl hF h1 h2 =>
        match us, hl with
        | [u0, u1], _ =>
          have k0 := h2 0 _ u0 rfl rfl
          have k1 := h2 1 _ u1 rfl rfl
          cases k0
          cases k1
          exact ⟨ad, rfl, hF, h1 0 _ rfl, h1 1 _ rfl⟩
    have e0 : ad.add 0 = ad := by unfold Addr.add; split <;> first | rfl | (exfalso; rename_i h; exact h rfl) | simp_all
    rw [e0] at hc0
    have hys : ys = distSort (p, q) xs := by
      have : castL (.b .pt) (.b .pt) (distSort (p, q) xs) = some ys := hcast
      exact (Option.some.inj this).symm
    subst hys
    have hw : w.ownsRow 0 t_impl_Point 2 v0 xs.length cells := hw
    obtain ⟨g, cap, cur, hv0, hh, hn, hm, hcs, hK⟩ := holds_of_own hw hrow hp1
    subst hv0
    obtain ⟨hg, hgF⟩ := hs g rfl
    have hne : ad.block ≠ g := fun e => hgF (e ▸ hFa)
    have hal := hF _ hFa
    have eg : ∀ args w, (callFunc n_impl_cornersBetween_1 args).run Try.prog w = .ok (.enter n_impl_cornersBetween_1 args) w := enters_of Try.func145 (by kernel_rfl) rfl
    have hcmp : CmpLays Try.prog n_impl_cornersBetween_1 #[.pointer (some ad)] encP 2 (cbCmp (p, q)) g 0 xs.toArray.size w := fun m os dk hdk x y => by
      have hsz := size_sortWorldK_c encP 2 w g 0 m dk os
      exact cb_k (p, q) x y ad _ (by rw [cell_sortW hne hal]; exact hc0) (by rw [cell_sortW (by rw [block_add]; exact hne) (by rw [block_add]; exact hal)]; exact hc1) (Nat.lt_of_lt_of_le hal hsz)
    have hlen2 : ∀ (n : Nat) (W : World), n ≤ 12 → Calls Try.prog (sort_ren.f 15) #[.int .u64 n] W fun e w' => (∃ l : Int, e = .returned (.int .i64 l)) ∧ w' = W := fun n W hn =>
      (Any.bits_Len (SlLaysF0.n15.bits (P := Try.prog) (ρ := sort_ren) { sort_lay with }) (n : Int) W (by omega) (by omega)).mono fun _ _ ⟨he, hw⟩ => ⟨⟨_, he⟩, hw⟩
    have hmain := AnyQ.slices_SortFunc_small sort_lay 2 sort_agg sort_size encP encP_len encP_one (cbCmp (p, q)) n_impl_cornersBetween_1 #[.pointer (some ad)] g 0 cap xs.toArray w eg hcmp hK hg (by simpa using hp2) hlen2
    have hmain' : Calls Try.prog n_slices_SortFunc_impl_Point #[.slice (some ⟨g, 0, none⟩) xs.length cap, .func (.func n_impl_cornersBetween_1) #[] #[.pointer (some ad)]] w fun e w' => e = .returned (.tuple #[]) ∧ ∃ n os, w' = sortWorldK encP 2 w g 0 n (Sort.insertionSort (ltOf (cbCmp (p, q))) xs.toArray 0 xs.toArray.size) os := hmain
    refine hmain'.mono ?_
    rintro e w' ⟨rfl, n, os, rfl⟩
    have hys : (Sort.insertionSort (ltOf (cbCmp (p, q))) xs.toArray 0 xs.toArray.size) = (distSort (p, q) xs).toArray := by unfold distSort; simp
    rw [hys]
    have hdl := distSort_len (p, q) xs
    obtain ⟨ha1, ha2⟩ := after_sort (n := n) (os := os) (ys := distSort (p, q) xs) hh (by rw [hdl]; exact hn) hm hcs
    rw [hdl] at ha2
    exact ⟨.tuple #[], .slice (some ⟨g, 0, none⟩) xs.length cap, _, rfl, ha1, fun b hb => .inl hb, by rw [hdl]; exact ha2, rowC_flat _ F _, rfl, rfl, [], rfl, rfl, fun j x u hx => by simp at hx⟩
theorem sortFunc_ok : GoodW Try.prog n_slices_SortFunc_impl_Point sortC := by
  exact ⟨sort_snd, _, Try.func81, by decide, rfl⟩
end Go.Proofs.Ytnepfcnlngpchaa
namespace Go.Proofs.Ytnepfcnlngpchaa
open Go.RowKit Go.Proofs.Ytnepfcnlngpchaa.Nm
set_option maxRecDepth 10000
def cornersB (xs : List Pt) (a b : Pt) : List Pt := distSort a (cutsOf xs a b)
theorem filter_len_le {xs : List Pt} {f : Pt → Bool} {n : Nat} (h : xs.length ≤ n) (k : Nat) : ((xs.take k).filter f).length ≤ n := Nat.le_trans (List.length_filter_le _ _) (by rw [List.length_take]; omega)
def cornersBC : Con := mkCon [.room, .pt, .pt] (fun x => x.1.length ≤ 10) fun x => ptRow (cornersB x.1 x.2.1 x.2.2.1)
theorem cornersBetween_ok : Good1 Try.prog n_impl_cornersBetween cornersBC := by
  refine good_ofG (tys := tyL) (env := [(n_impl_on, onC)]) (envw := [(n_slices_SortFunc_impl_Point, sortC)]) (envd := []) [12, 41] [] [] [] [] mixed tys ⟨on_ok, trivial⟩ ⟨sortFunc_ok, trivial⟩ trivial Try.func122 rfl (by kernel_rfl) (by decide) (by kernel_rfl) ?_
  have hG_ := kpz [(0, [3, 4, 5]), (1, [3, 4, 5, 7]), (2, [4, 5, 7, 14, 15, 16]), (3, [4, 5, 7, 14, 15, 16, 17]), (4, [4, 5, 7, 9, 14, 15, 16]), (5, [4, 5, 7, 9, 14, 15, 16, 33]), (6, [4, 5, 7, 14, 15, 16]), (7, [4, 5, 7, 14, 15, 16]), (8, [7]), (9, [6])] [(1, [12]), (2, [12]), (3, [12]), (4, [9, 12]), (5, [9, 12]), (6, [12]), (7, [12]), (8, [12]), (9, [12])] [] []
  rintro ⟨(xs : List Pt), ⟨(ax : Int), (ay : Int)⟩, ⟨(bx : Int), (b_y : Int)⟩, ⟨⟩⟩ (h1 : xs.length ≤ _)
  (repeat' (first | (with_reducible first | exact True.intro | refine zQ ?_ | (refine zG hG_ ?_; intro K_ hK_) | (refine zR ?_; intro K_ hK_) | (refine hK_ _ _ ?_; try clear hK_ K_) | refine sq_n ?_ | refine sq_r ?_ | refine sq_e ?_ | refine bq_n ?_ | refine bq_r ?_ | refine bq_q ?_ | refine zB ?_ | refine zX ?_ | refine zT ?_ | refine zK ?_ | refine gq_n ?_ | refine gq_r ?_ | refine gq_e ?_ | refine lq_n ?_ | refine lq_r ?_ | refine lq_e ?_ | refine bq_e (by decide) ?_) | ((with_reducible refine zC (b := ?b_) ?hb_ ?_ ?_); case hb_ => rfl) | ((conv => whnf); first | (with_reducible refine hK_ _ _ ?_; try clear hK_ K_) | (with_reducible refine fun (g_ : Sl) (o_ : Ow) => ?_) | (with_reducible first | exact True.intro | refine And.intro trivial ?_ | refine And.intro ?_ ?_) | exact Nat.le_of_ble_eq_true rfl | exact Or.inl rfl | (intro h_; cases h_) | (intro h_; (try simp only [vS1] at h_)) | rfl))) <;> (try (conv => whnf)) <;> (try first | change (_ : Int) ≤ _ | change (_ : Nat) ≤ _) <;> (try ((fail_if_success (with_reducible apply Exists.intro)); (try dsimp only); (try simp only [vS1]))) <;> (try simp (disch := omega) only [vS3, vS2] at *)
  all_goals (try (fail_if_success (with_reducible apply Exists.intro)); first | with_reducible assumption | omega | exact mdl (by omega) | exact ilo1 (by omega) | exact ilo2 (by omega) | exact ihi1 (by omega) (by omega) | exact ihi2 (by omega) (by omega))
  refine awp'_loopG (α := Nat) (fun k ver_ => [(16, vInt k)]) (fun k ver_ => [(7, 12, false, .row t_impl_Point (.b .pt) ([(ax, ay), (bx, b_y)] ++ (xs.take k).filter (amid (ax, ay) (bx, b_y))))]) (fun k ver_ => []) (fun k => k ≤ xs.length) (fun k => xs.length - k) [4, 5, 14, 15] [] (0) ?_
  conv => whnf
  refine ⟨⟨?inv1_, ?vals1_, ?own1_, ?fix1_⟩, ?body1_⟩
  case' vals1_ => (repeat' (first | (with_reducible first | exact True.intro | refine And.intro ?_ ?_ | refine Head.mk ?_ ?_ ?_ ?_) | ((conv => lhs; whnf); first | (with_reducible first | rfl | exact vInt_s (by omega)) | exact rfl) | ((conv => whnf); first | (with_reducible first | exact True.intro | refine And.intro ?_ ?_)))) <;> (try (conv => lhs; whnf))
  case' own1_ => (repeat' (first | (with_reducible first | exact True.intro | refine And.intro ?_ ?_ | refine Head.mk ?_ ?_ ?_ ?_) | ((conv => lhs; whnf); first | (with_reducible first | rfl | exact vInt_s (by omega)) | exact rfl) | ((conv => whnf); first | (with_reducible first | exact True.intro | refine And.intro ?_ ?_)))) <;> (try (conv => lhs; whnf))
  case' fix1_ => (repeat' (first | (with_reducible first | exact True.intro | refine And.intro ?_ ?_ | refine Head.mk ?_ ?_ ?_ ?_) | ((conv => lhs; whnf); first | (with_reducible first | rfl | exact vInt_s (by omega)) | exact rfl) | ((conv => whnf); first | (with_reducible first | exact True.intro | refine And.intro ?_ ?_)))) <;> (try (conv => lhs; whnf))
  · exact Nat.zero_le _
  rintro k g_ o_ v_ hk
  have hl := filter_len_le (f := amid (ax, ay) (bx, b_y)) h1 k
  (repeat' (first | (with_reducible first | exact True.intro | refine zQ ?_ | (refine zG hG_ ?_; intro K_ hK_) | (refine zR ?_; intro K_ hK_) | (refine hK_ _ _ ?_; try clear hK_ K_) | refine sq_n ?_ | refine sq_r ?_ | refine sq_e ?_ | refine bq_n ?_ | refine bq_r ?_ | refine bq_q ?_ | refine zB ?_ | refine zX ?_ | refine zT ?_ | refine zK ?_ | refine gq_n ?_ | refine gq_r ?_ | refine gq_e ?_ | refine lq_n ?_ | refine lq_r ?_ | refine lq_e ?_ | refine bq_e (by decide) ?_) | ((with_reducible refine zC (b := ?b_) ?hb_ ?_ ?_); case hb_ => rfl) | ((conv => whnf); first | (with_reducible refine hK_ _ _ ?_; try clear hK_ K_) | (with_reducible refine fun (g_ : Sl) (o_ : Ow) => ?_) | (with_reducible first | exact True.intro | refine And.intro trivial ?_ | refine And.intro ?_ ?_) | exact Nat.le_of_ble_eq_true rfl | exact Or.inl rfl | (intro h_; cases h_) | (intro h_; (try simp only [vS1] at h_)) | rfl))) <;> (try (conv => whnf)) <;> (try first | change (_ : Int) ≤ _ | change (_ : Nat) ≤ _) <;> (try ((fail_if_success (with_reducible apply Exists.intro)); (try dsimp only); (try simp only [vS1]))) <;> (try simp (disch := omega) only [vS3, vS2] at *)
  all_goals (try (fail_if_success (with_reducible apply Exists.intro)); first | with_reducible assumption | omega | exact mdl (by omega) | exact ilo1 (by omega) | exact ilo2 (by omega) | exact ihi1 (by omega) (by omega) | exact ihi2 (by omega) (by omega))
  · refine ⟨k + 1, by omega, by omega, ?_⟩
    (repeat' (first | (with_reducible first | exact True.intro | refine And.intro ?_ ?_ | refine Head.mk ?_ ?_ ?_ ?_) | ((conv => lhs; whnf); first | (with_reducible first | rfl | exact vInt_s (by omega)) | exact rfl) | ((conv => whnf); first | (with_reducible first | exact True.intro | refine And.intro ?_ ?_)))) <;> (try (conv => lhs; whnf))
    refine congrArg (Own.row _ _) ?_
    rw [filter_take_succ _ (0, 0) ‹k < xs.length›, if_pos (amid_yes ‹_› ‹_› ‹_›), List.append_assoc]
  · refine ⟨k + 1, by omega, by omega, ?_⟩
    (repeat' (first | (with_reducible first | exact True.intro | refine And.intro ?_ ?_ | refine Head.mk ?_ ?_ ?_ ?_) | ((conv => lhs; whnf); first | (with_reducible first | rfl | exact vInt_s (by omega)) | exact rfl) | ((conv => whnf); first | (with_reducible first | exact True.intro | refine And.intro ?_ ?_)))) <;> (try (conv => lhs; whnf))
    refine congrArg (Own.row _ _) ?_
    rw [filter_take_succ _ (0, 0) ‹k < xs.length›, if_neg (by unfold amid; simp_all), List.append_nil]
  · refine ⟨k + 1, by omega, by omega, ?_⟩
    (repeat' (first | (with_reducible first | exact True.intro | refine And.intro ?_ ?_ | refine Head.mk ?_ ?_ ?_ ?_) | ((conv => lhs; whnf); first | (with_reducible first | rfl | exact vInt_s (by omega)) | exact rfl) | ((conv => whnf); first | (with_reducible first | exact True.intro | refine And.intro ?_ ?_)))) <;> (try (conv => lhs; whnf))
    refine congrArg (Own.row _ _) ?_
    rw [filter_take_succ _ (0, 0) ‹k < xs.length›, if_neg (by unfold amid; simp_all), List.append_nil]
  · refine ⟨k + 1, by omega, by omega, ?_⟩
    (repeat' (first | (with_reducible first | exact True.intro | refine And.intro ?_ ?_ | refine Head.mk ?_ ?_ ?_ ?_) | ((conv => lhs; whnf); first | (with_reducible first | rfl | exact vInt_s (by omega)) | exact rfl) | ((conv => whnf); first | (with_reducible first | exact True.intro | refine And.intro ?_ ?_)))) <;> (try (conv => lhs; whnf))
    refine congrArg (Own.row _ _) ?_
    rw [filter_take_succ _ (0, 0) ‹k < xs.length›, if_neg (by unfold amid; simp_all), List.append_nil]
  · exact ⟨(ax, ay), rfl⟩
  · rw [List.take_of_length_le (by omega)]; rfl
theorem map_take_succ' {α β : Type} (f : α → β) {xs : List α} {k : Nat} (d : α) (h : k < xs.length) : (xs.take (k + 1)).map f = (xs.take k).map f ++ [f (xs.getD k d)] := by
  rw [List.take_succ_eq_append_getElem h, List.map_append, getD_lt _ h]; rfl
def twiceC : Con := mkCon [.pt] (fun _ => True) fun x => .val (.agg (cPt (twP x.1)))
theorem twice_ok : Good1 Try.prog n_impl_twice twiceC := by
  refine good_ofG (tys := tyL) (env := []) (envw := []) (envd := []) [] [] [] [] [] mixed tys trivial trivial trivial Try.func147 rfl (by kernel_rfl) (by decide) (by kernel_rfl) ?_
  have hG_ := kpz [(0, [1, 2]), (1, [2])] [(0, [2]), (1, [2])] [] []
  rintro ⟨⟨(p : Int), (q : Int)⟩, ⟨⟩⟩ _
  (repeat' (first | (with_reducible first | exact True.intro | refine zQ ?_ | (refine zG hG_ ?_; intro K_ hK_) | (refine zR ?_; intro K_ hK_) | (refine hK_ _ _ ?_; try clear hK_ K_) | refine sq_n ?_ | refine sq_r ?_ | refine sq_e ?_ | refine bq_n ?_ | refine bq_r ?_ | refine bq_q ?_ | refine zB ?_ | refine zX ?_ | refine zT ?_ | refine zK ?_ | refine gq_n ?_ | refine gq_r ?_ | refine gq_e ?_ | refine lq_n ?_ | refine lq_r ?_ | refine lq_e ?_ | refine bq_e (by decide) ?_) | ((with_reducible refine zC (b := ?b_) ?hb_ ?_ ?_); case hb_ => rfl) | ((conv => whnf); first | (with_reducible refine hK_ _ _ ?_; try clear hK_ K_) | (with_reducible refine fun (g_ : Sl) (o_ : Ow) => ?_) | (with_reducible first | exact True.intro | refine And.intro trivial ?_ | refine And.intro ?_ ?_) | exact Nat.le_of_ble_eq_true rfl | exact Or.inl rfl | (intro h_; cases h_) | (intro h_; (try simp only [vS1] at h_)) | rfl))) <;> (try (conv => whnf)) <;> (try first | change (_ : Int) ≤ _ | change (_ : Nat) ≤ _)
def middleC : Con := mkCon [.room, .pt, .pt] (fun x => x.1.length ≤ 10) fun x => vI (midM x.1 x.2.1 x.2.2.1)
theorem middle_ok : Good1 Try.prog n_impl_middle middleC := by
  refine good_ofG (tys := tyL) (env := [(n_impl_twice, twiceC), (n_impl_place, placeC)]) (envw := []) (envd := []) [10] [] [] [] [] mixed tys ⟨twice_ok, place_ok, trivial⟩ trivial trivial Try.func123 rfl (by kernel_rfl) (by decide) (by kernel_rfl) ?_
  have hG_ := kpz [(0, [3, 4, 5]), (1, [3, 4, 5, 7]), (2, [4, 5, 7, 12, 13, 14]), (3, [4, 5, 7, 12, 13, 14, 15]), (4, [4, 5, 7, 9, 12, 13, 14]), (5, [4, 5, 7, 12, 13, 14]), (6, [4, 5, 7, 12, 13, 14]), (7, [6])] [(1, [10]), (2, [10]), (3, [10]), (4, [9, 10]), (5, [10]), (6, [10]), (7, [10])] [] []
  rintro ⟨(xs : List Pt), ⟨(ax : Int), (ay : Int)⟩, ⟨(bx : Int), (b_y : Int)⟩, ⟨⟩⟩ (h1 : xs.length ≤ _)
  (repeat' (first | (with_reducible first | exact True.intro | refine zQ ?_ | (refine zG hG_ ?_; intro K_ hK_) | (refine zR ?_; intro K_ hK_) | (refine hK_ _ _ ?_; try clear hK_ K_) | refine sq_n ?_ | refine sq_r ?_ | refine sq_e ?_ | refine bq_n ?_ | refine bq_r ?_ | refine bq_q ?_ | refine zB ?_ | refine zX ?_ | refine zT ?_ | refine zK ?_ | refine gq_n ?_ | refine gq_r ?_ | refine gq_e ?_ | refine lq_n ?_ | refine lq_r ?_ | refine lq_e ?_ | refine bq_e (by decide) ?_) | ((with_reducible refine zC (b := ?b_) ?hb_ ?_ ?_); case hb_ => rfl) | ((conv => whnf); first | (with_reducible refine hK_ _ _ ?_; try clear hK_ K_) | (with_reducible refine fun (g_ : Sl) (o_ : Ow) => ?_) | (with_reducible first | exact True.intro | refine And.intro trivial ?_ | refine And.intro ?_ ?_) | exact Nat.le_of_ble_eq_true rfl | exact Or.inl rfl | (intro h_; cases h_) | (intro h_; (try simp only [vS1] at h_)) | rfl))) <;> (try (conv => whnf)) <;> (try first | change (_ : Int) ≤ _ | change (_ : Nat) ≤ _) <;> (try ((fail_if_success (with_reducible apply Exists.intro)); (try dsimp only); (try simp only [vS1]))) <;> (try simp (disch := omega) only [vS3, vS2] at *)
  all_goals (try (fail_if_success (with_reducible apply Exists.intro)); first | with_reducible assumption | omega | exact mdl (by omega) | exact ilo1 (by omega) | exact ilo2 (by omega) | exact ihi1 (by omega) (by omega) | exact ihi2 (by omega) (by omega))
  refine awp'_loopG (α := Nat) (fun k ver_ => [(14, vInt k)]) (fun k ver_ => [(7, 10, false, .row t_impl_Point (.b .pt) ((xs.take k).map twP))]) (fun k ver_ => []) (fun k => k ≤ xs.length) (fun k => xs.length - k) [4, 5, 12, 13] [] (0) ?_
  conv => whnf
  refine ⟨⟨?inv2_, ?vals2_, ?own2_, ?fix2_⟩, ?body2_⟩
  case' vals2_ => (repeat' (first | (with_reducible first | exact True.intro | refine And.intro ?_ ?_ | refine Head.mk ?_ ?_ ?_ ?_) | ((conv => lhs; whnf); first | (with_reducible first | rfl | exact vInt_s (by omega)) | exact rfl) | ((conv => whnf); first | (with_reducible first | exact True.intro | refine And.intro ?_ ?_)))) <;> (try (conv => lhs; whnf))
  case' own2_ => (repeat' (first | (with_reducible first | exact True.intro | refine And.intro ?_ ?_ | refine Head.mk ?_ ?_ ?_ ?_) | ((conv => lhs; whnf); first | (with_reducible first | rfl | exact vInt_s (by omega)) | exact rfl) | ((conv => whnf); first | (with_reducible first | exact True.intro | refine And.intro ?_ ?_)))) <;> (try (conv => lhs; whnf))
  case' fix2_ => (repeat' (first | (with_reducible first | exact True.intro | refine And.intro ?_ ?_ | refine Head.mk ?_ ?_ ?_ ?_) | ((conv => lhs; whnf); first | (with_reducible first | rfl | exact vInt_s (by omega)) | exact rfl) | ((conv => whnf); first | (with_reducible first | exact True.intro | refine And.intro ?_ ?_)))) <;> (try (conv => lhs; whnf))
  · exact Nat.zero_le _
  rintro k g_ o_ v_ hk
  (repeat' (first | (with_reducible first | exact True.intro | refine zQ ?_ | (refine zG hG_ ?_; intro K_ hK_) | (refine zR ?_; intro K_ hK_) | (refine hK_ _ _ ?_; try clear hK_ K_) | refine sq_n ?_ | refine sq_r ?_ | refine sq_e ?_ | refine bq_n ?_ | refine bq_r ?_ | refine bq_q ?_ | refine zB ?_ | refine zX ?_ | refine zT ?_ | refine zK ?_ | refine gq_n ?_ | refine gq_r ?_ | refine gq_e ?_ | refine lq_n ?_ | refine lq_r ?_ | refine lq_e ?_ | refine bq_e (by decide) ?_) | ((with_reducible refine zC (b := ?b_) ?hb_ ?_ ?_); case hb_ => rfl) | ((conv => whnf); first | (with_reducible refine hK_ _ _ ?_; try clear hK_ K_) | (with_reducible refine fun (g_ : Sl) (o_ : Ow) => ?_) | (with_reducible first | exact True.intro | refine And.intro trivial ?_ | refine And.intro ?_ ?_) | exact Nat.le_of_ble_eq_true rfl | exact Or.inl rfl | (intro h_; cases h_) | (intro h_; (try simp only [vS1] at h_)) | rfl))) <;> (try (conv => whnf)) <;> (try first | change (_ : Int) ≤ _ | change (_ : Nat) ≤ _) <;> (try ((fail_if_success (with_reducible apply Exists.intro)); (try dsimp only); (try simp only [vS1]))) <;> (try simp (disch := omega) only [vS3, vS2] at *)
  all_goals (try (fail_if_success (with_reducible apply Exists.intro)); first | with_reducible assumption | omega | exact mdl (by omega) | exact ilo1 (by omega) | exact ilo2 (by omega) | exact ihi1 (by omega) (by omega) | exact ihi2 (by omega) (by omega))
  · refine ⟨k + 1, by omega, by omega, ?_⟩
    (repeat' (first | (with_reducible first | exact True.intro | refine And.intro ?_ ?_ | refine Head.mk ?_ ?_ ?_ ?_) | ((conv => lhs; whnf); first | (with_reducible first | rfl | exact vInt_s (by omega)) | exact rfl) | ((conv => whnf); first | (with_reducible first | exact True.intro | refine And.intro ?_ ?_)))) <;> (try (conv => lhs; whnf))
    exact congrArg (Own.row _ _) (map_take_succ' twP (0, 0) h_).symm
  · rw [List.take_of_length_le (by omega)]; rfl
def seesI (xs : List Pt) (a b : Pt) : Bool := (List.range xs.length).all (fun k => !crs a b (wl xs k).1 (wl xs k).2) && (List.range ((cornersB xs a b).length - 1)).all fun k => midM xs (pAt (cornersB xs a b) k) (pAt (cornersB xs a b) (k + 1)) != 0
def seesC : Con := mkCon [.room, .pt, .pt] (fun x => x.1.length ≤ 10) fun x => vB (seesI x.1 x.2.1 x.2.2.1)
theorem cornersB_len (xs : List Pt) (a b : Pt) : (cornersB xs a b).length = 2 + (xs.filter (amid a b)).length := by unfold cornersB; rw [distSort_len]; simp; omega
theorem seesI_no1 {xs : List Pt} {a b : Pt} {k : Nat} (hk : k < xs.length) (h : crs a b (wl xs k).1 (wl xs k).2 = true) : seesI xs a b = false := by
  unfold seesI
  rw [show (List.range xs.length).all (fun k => !crs a b (wl xs k).1 (wl xs k).2) = false from List.all_eq_false.2 ⟨k, List.mem_range.2 hk, by rw [h]; decide⟩]
  rfl
theorem seesI_no2 {xs : List Pt} {a b : Pt} {k : Nat} (hk : k + 1 < (cornersB xs a b).length) (h : midM xs (pAt (cornersB xs a b) k) (pAt (cornersB xs a b) (k + 1)) = 0) : seesI xs a b = false := by
  unfold seesI
  rw [show ((List.range ((cornersB xs a b).length - 1)).all fun k => midM xs (pAt (cornersB xs a b) k) (pAt (cornersB xs a b) (k + 1)) != 0) = false from List.all_eq_false.2 ⟨k, List.mem_range.2 (by omega), by rw [h]; decide⟩]
  exact Bool.and_false _
theorem seesI_yes {xs : List Pt} {a b : Pt} (h1 : ∀ k, k < xs.length → crs a b (wl xs k).1 (wl xs k).2 = false) (h2 : ∀ k, k + 1 < (cornersB xs a b).length → midM xs (pAt (cornersB xs a b) k) (pAt (cornersB xs a b) (k + 1)) ≠ 0) : seesI xs a b = true := by
  unfold seesI
  rw [Bool.and_eq_true, List.all_eq_true, List.all_eq_true]
  exact ⟨fun k hk => by rw [h1 k (List.mem_range.1 hk)]; rfl, fun k hk => by simpa using h2 k (by have := List.mem_range.1 hk; omega)⟩
theorem sees_ok : Good1 Try.prog n_impl_sees seesC := by
  refine good_ofG (tys := tyL) (env := [(n_impl_wallsOf, wallsOfC), (n_impl_crosses, crossesC), (n_impl_cornersBetween, cornersBC), (n_impl_middle, middleC)]) (envw := []) (envd := []) [] [] [] [] [] mixed tys ⟨wallsOf_ok, crosses_ok, cornersBetween_ok, middle_ok, trivial⟩ trivial trivial Try.func92 rfl (by kernel_rfl) (by decide) (by kernel_rfl) ?_
  have hG_ := kpz [(0, [3, 4, 5]), (1, [3, 4, 5, 13, 14, 15]), (2, [3, 4, 5, 13, 14, 15, 16]), (3, [3, 4, 5, 8, 13, 14, 15]), (4, [3, 4, 5, 13, 14, 15, 23]), (5, [6]), (6, [3, 4, 5, 13, 14, 15]), (7, [3, 9]), (8, [3, 9, 10]), (9, [3, 9, 10, 32]), (10, [3, 9, 10]), (11, [3, 9, 10, 46]), (12, [6]), (13, [6])] [(3, [8])] [] []
  rintro ⟨(xs : List Pt), ⟨(ax : Int), (ay : Int)⟩, ⟨(bx : Int), (b_y : Int)⟩, ⟨⟩⟩ (h1 : xs.length ≤ _)
  have hw := walls_len xs
  have hc := cornersB_len xs (ax, ay) (bx, b_y)
  have hfl := filter_len_le (f := amid (ax, ay) (bx, b_y)) h1 xs.length
  rw [List.take_of_length_le (Nat.le_refl _)] at hfl
  (repeat' (first | (with_reducible first | exact True.intro | refine zQ ?_ | (refine zG hG_ ?_; intro K_ hK_) | (refine zR ?_; intro K_ hK_) | (refine hK_ _ _ ?_; try clear hK_ K_) | refine sq_n ?_ | refine sq_r ?_ | refine sq_e ?_ | refine bq_n ?_ | refine bq_r ?_ | refine bq_q ?_ | refine zB ?_ | refine zX ?_ | refine zT ?_ | refine zK ?_ | refine gq_n ?_ | refine gq_r ?_ | refine gq_e ?_ | refine lq_n ?_ | refine lq_r ?_ | refine lq_e ?_ | refine bq_e (by decide) ?_) | ((with_reducible refine zC (b := ?b_) ?hb_ ?_ ?_); case hb_ => rfl) | ((conv => whnf); first | (with_reducible refine hK_ _ _ ?_; try clear hK_ K_) | (with_reducible refine fun (g_ : Sl) (o_ : Ow) => ?_) | (with_reducible first | exact True.intro | refine And.intro trivial ?_ | refine And.intro ?_ ?_) | exact Nat.le_of_ble_eq_true rfl | exact Or.inl rfl | (intro h_; cases h_) | (intro h_; (try simp only [vS1] at h_)) | rfl))) <;> (try (conv => whnf)) <;> (try first | change (_ : Int) ≤ _ | change (_ : Nat) ≤ _) <;> (try ((fail_if_success (with_reducible apply Exists.intro)); (try dsimp only); (try simp only [vS1]))) <;> (try simp (disch := omega) only [vS3, vS2] at *)
  all_goals (try (fail_if_success (with_reducible apply Exists.intro)); first | with_reducible assumption | omega | exact mdl (by omega) | exact ilo1 (by omega) | exact ilo2 (by omega) | exact ihi1 (by omega) (by omega) | exact ihi2 (by omega) (by omega))
  refine awp'_loopG (α := Nat) (fun k ver_ => [(15, vInt k)]) (fun k ver_ => []) (fun k ver_ => []) (fun k => k ≤ xs.length ∧ ∀ j, j < k → crs (ax, ay) (bx, b_y) (wl xs j).1 (wl xs j).2 = false) (fun k => xs.length - k) [3, 4, 5, 13, 14] [] (0) ?_
  conv => whnf
  refine ⟨⟨?inv3_, ?vals3_, ?own3_, ?fix3_⟩, ?body3_⟩
  case' vals3_ => (repeat' (first | (with_reducible first | exact True.intro | refine And.intro ?_ ?_ | refine Head.mk ?_ ?_ ?_ ?_) | ((conv => lhs; whnf); first | (with_reducible first | rfl | exact vInt_s (by omega)) | exact rfl) | ((conv => whnf); first | (with_reducible first | exact True.intro | refine And.intro ?_ ?_)))) <;> (try (conv => lhs; whnf))
  case' own3_ => (repeat' (first | (with_reducible first | exact True.intro | refine And.intro ?_ ?_ | refine Head.mk ?_ ?_ ?_ ?_) | ((conv => lhs; whnf); first | (with_reducible first | rfl | exact vInt_s (by omega)) | exact rfl) | ((conv => whnf); first | (with_reducible first | exact True.intro | refine And.intro ?_ ?_)))) <;> (try (conv => lhs; whnf))
  case' fix3_ => (repeat' (first | (with_reducible first | exact True.intro | refine And.intro ?_ ?_ | refine Head.mk ?_ ?_ ?_ ?_) | ((conv => lhs; whnf); first | (with_reducible first | rfl | exact vInt_s (by omega)) | exact rfl) | ((conv => whnf); first | (with_reducible first | exact True.intro | refine And.intro ?_ ?_)))) <;> (try (conv => lhs; whnf))
  · exact ⟨Nat.zero_le _, fun j hj => absurd hj (by omega)⟩
  rintro k g_ o_ v_ ⟨hk, hall⟩
  (repeat' (first | (with_reducible first | exact True.intro | refine zQ ?_ | (refine zG hG_ ?_; intro K_ hK_) | (refine zR ?_; intro K_ hK_) | (refine hK_ _ _ ?_; try clear hK_ K_) | refine sq_n ?_ | refine sq_r ?_ | refine sq_e ?_ | refine bq_n ?_ | refine bq_r ?_ | refine bq_q ?_ | refine zB ?_ | refine zX ?_ | refine zT ?_ | refine zK ?_ | refine gq_n ?_ | refine gq_r ?_ | refine gq_e ?_ | refine lq_n ?_ | refine lq_r ?_ | refine lq_e ?_ | refine bq_e (by decide) ?_) | ((with_reducible refine zC (b := ?b_) ?hb_ ?_ ?_); case hb_ => rfl) | ((conv => whnf); first | (with_reducible refine hK_ _ _ ?_; try clear hK_ K_) | (with_reducible refine fun (g_ : Sl) (o_ : Ow) => ?_) | (with_reducible first | exact True.intro | refine And.intro trivial ?_ | refine And.intro ?_ ?_) | exact Nat.le_of_ble_eq_true rfl | exact Or.inl rfl | (intro h_; cases h_) | (intro h_; (try simp only [vS1] at h_)) | rfl))) <;> (try (conv => whnf)) <;> (try first | change (_ : Int) ≤ _ | change (_ : Nat) ≤ _) <;> (try ((fail_if_success (with_reducible apply Exists.intro)); (try dsimp only); (try simp only [vS1]))) <;> (try simp (disch := omega) only [vS3, vS2] at *)
  all_goals (try (fail_if_success (with_reducible apply Exists.intro)); first | with_reducible assumption | omega | exact mdl (by omega) | exact ilo1 (by omega) | exact ilo2 (by omega) | exact ihi1 (by omega) (by omega) | exact ihi2 (by omega) (by omega))
  · rw [walls_get (by omega)] at *
    exact (seesI_no1 (k := k) (by omega) (by assumption)).symm
  · rw [walls_get (by omega)] at *
    refine ⟨k + 1, by omega, ⟨by omega, fun j hj => ?_⟩, by (repeat' (first | (with_reducible first | exact True.intro | refine And.intro ?_ ?_ | refine Head.mk ?_ ?_ ?_ ?_) | ((conv => lhs; whnf); first | (with_reducible first | rfl | exact vInt_s (by omega)) | exact rfl) | ((conv => whnf); first | (with_reducible first | exact True.intro | refine And.intro ?_ ?_)))) <;> (try (conv => lhs; whnf))⟩
    rcases Nat.lt_or_ge j k with h5 | h5
    · exact hall j h5
    · rw [show j = k by omega]; assumption
  have hall2 : ∀ j, j < xs.length → crs (ax, ay) (bx, b_y) (wl xs j).1 (wl xs j).2 = false := fun j hj => hall j (by omega)
  refine awp'_loopG (α := Nat) (fun i ver_ => [(10, vInt (i + 1))]) (fun i ver_ => []) (fun i ver_ => []) (fun i => i + 1 ≤ (cornersB xs (ax, ay) (bx, b_y)).length ∧ ∀ j, j < i → midM xs (pAt (cornersB xs (ax, ay) (bx, b_y)) j) (pAt (cornersB xs (ax, ay) (bx, b_y)) (j + 1)) ≠ 0) (fun i => 20 - i) [3, 9] [] (0) ?_
  conv => whnf
  refine ⟨⟨?inv4_, ?vals4_, ?own4_, ?fix4_⟩, ?body4_⟩
  case' vals4_ => (repeat' (first | (with_reducible first | exact True.intro | refine And.intro ?_ ?_ | refine Head.mk ?_ ?_ ?_ ?_) | ((conv => lhs; whnf); first | (with_reducible first | rfl | exact vInt_s (by omega)) | exact rfl) | ((conv => whnf); first | (with_reducible first | exact True.intro | refine And.intro ?_ ?_)))) <;> (try (conv => lhs; whnf))
  case' own4_ => (repeat' (first | (with_reducible first | exact True.intro | refine And.intro ?_ ?_ | refine Head.mk ?_ ?_ ?_ ?_) | ((conv => lhs; whnf); first | (with_reducible first | rfl | exact vInt_s (by omega)) | exact rfl) | ((conv => whnf); first | (with_reducible first | exact True.intro | refine And.intro ?_ ?_)))) <;> (try (conv => lhs; whnf))
  case' fix4_ => (repeat' (first | (with_reducible first | exact True.intro | refine And.intro ?_ ?_ | refine Head.mk ?_ ?_ ?_ ?_) | ((conv => lhs; whnf); first | (with_reducible first | rfl | exact vInt_s (by omega)) | exact rfl) | ((conv => whnf); first | (with_reducible first | exact True.intro | refine And.intro ?_ ?_)))) <;> (try (conv => lhs; whnf))
  · exact ⟨by omega, fun j hj => absurd hj (by omega)⟩
  rintro i g_ o_ v_ ⟨hi, hmid⟩
  (repeat' (first | (with_reducible first | exact True.intro | refine zQ ?_ | (refine zG hG_ ?_; intro K_ hK_) | (refine zR ?_; intro K_ hK_) | (refine hK_ _ _ ?_; try clear hK_ K_) | refine sq_n ?_ | refine sq_r ?_ | refine sq_e ?_ | refine bq_n ?_ | refine bq_r ?_ | refine bq_q ?_ | refine zB ?_ | refine zX ?_ | refine zT ?_ | refine zK ?_ | refine gq_n ?_ | refine gq_r ?_ | refine gq_e ?_ | refine lq_n ?_ | refine lq_r ?_ | refine lq_e ?_ | refine bq_e (by decide) ?_) | ((with_reducible refine zC (b := ?b_) ?hb_ ?_ ?_); case hb_ => rfl) | ((conv => whnf); first | (with_reducible refine hK_ _ _ ?_; try clear hK_ K_) | (with_reducible refine fun (g_ : Sl) (o_ : Ow) => ?_) | (with_reducible first | exact True.intro | refine And.intro trivial ?_ | refine And.intro ?_ ?_) | exact Nat.le_of_ble_eq_true rfl | exact Or.inl rfl | (intro h_; cases h_) | (intro h_; (try simp only [vS1] at h_)) | rfl))) <;> (try (conv => whnf)) <;> (try first | change (_ : Int) ≤ _ | change (_ : Nat) ≤ _) <;> (try ((fail_if_success (with_reducible apply Exists.intro)); (try dsimp only); (try simp only [vS1]))) <;> (try simp (disch := omega) only [vS3, vS2] at *)
  all_goals (try (fail_if_success (with_reducible apply Exists.intro)); first | with_reducible assumption | omega | exact mdl (by omega) | exact ilo1 (by omega) | exact ilo2 (by omega) | exact ihi1 (by omega) (by omega) | exact ihi2 (by omega) (by omega))
  · rw [show ((i : Int) + 1 - 1).toNat = i by omega, show ((i : Int) + 1).toNat = i + 1 by omega] at h_
    exact (seesI_no2 (by omega) h_).symm
  · rw [show ((i : Int) + 1 - 1).toNat = i by omega, show ((i : Int) + 1).toNat = i + 1 by omega] at h_
    refine ⟨i + 1, by omega, ⟨by omega, fun j hj => ?_⟩, by (repeat' (first | (with_reducible first | exact True.intro | refine And.intro ?_ ?_ | refine Head.mk ?_ ?_ ?_ ?_) | ((conv => lhs; whnf); first | (with_reducible first | rfl | exact vInt_s (by omega)) | exact rfl) | ((conv => whnf); first | (with_reducible first | exact True.intro | refine And.intro ?_ ?_)))) <;> (try (conv => lhs; whnf))⟩
    rcases Nat.lt_or_ge j i with h5 | h5
    · exact hmid j h5
    · rw [show j = i by omega]; exact h_
  · exact (seesI_yes hall2 fun j hj => hmid j (by omega)).symm
end Go.Proofs.Ytnepfcnlngpchaa
namespace Go.Proofs.Ytnepfcnlngpchaa
open Go.Shelf Go.RowKit Go.Lib Go.Sort Go.Proofs.Ytnepfcnlngpchaa.Nm
theorem bd_default : Bd (default : Pt) := by unfold Bd; decide
theorem getBang_bd {d : Array Pt} (h : ∀ p ∈ d.toList, Bd p) (i : Nat) : Bd d[i]! := by
  by_cases hi : i < d.size
  · rw [getElem!_pos d i hi]; exact h _ (Array.getElem_mem_toList hi)
  · rw [getElem!_neg d i hi]; exact bd_default
theorem swp_mem {d : Array Pt} (h : ∀ p ∈ d.toList, Bd p) {i j : Nat} (hi : i < d.size) (hj : j < d.size) : ∀ p ∈ (swp d i j).toList, Bd p := by
  intro p hp
  have hperm := swp_permIn d 0 d.size i j (Nat.zero_le _) hi (Nat.zero_le _) hj (Nat.le_refl _)
  have h3 := hperm.2.2
  have h1 := hperm.1
  rw [← h1, Array.extract_size, h1, Array.extract_size] at h3
  exact h p (h3.mem_iff.1 hp)
theorem insInner_congr {lt lt' : Pt → Pt → Bool} (hl : ∀ x y, Bd x → Bd y → lt x y = lt' x y) (a : Nat) : ∀ (j : Nat) (d : Array Pt), (∀ p ∈ d.toList, Bd p) → j < d.size → insInner lt a j d = insInner lt' a j d
  | 0, d, _, _ => rfl
  | j + 1, d, h, hj => by
    unfold insInner
    rw [hl _ _ (getBang_bd h _) (getBang_bd h _)]
    split
    · exact insInner_congr hl a j _ (swp_mem h hj (by omega)) (by rw [size_swp]; omega)
    · rfl
theorem insInner_bd {lt : Pt → Pt → Bool} (a : Nat) : ∀ (j : Nat) (d : Array Pt), (∀ p ∈ d.toList, Bd p) → j < d.size → ∀ p ∈ (insInner lt a j d).toList, Bd p
  | 0, d, h, _ => h
  | j + 1, d, h, hj => by
    unfold insInner
    split
    · exact insInner_bd a j _ (swp_mem h hj (by omega)) (by rw [size_swp]; omega)
    · exact h
theorem insOuter_congr {lt lt' : Pt → Pt → Bool} (hl : ∀ x y, Bd x → Bd y → lt x y = lt' x y) (a b : Nat) : ∀ (n i : Nat) (d : Array Pt), b - i ≤ n → b ≤ d.size → (∀ p ∈ d.toList, Bd p) → insOuter lt a b i d = insOuter lt' a b i d
  | 0, i, d, hn, hb, h => by unfold insOuter; rw [if_neg (by omega), if_neg (by omega)]
  | n + 1, i, d, hn, hb, h => by
    unfold insOuter
    split
    · rw [insInner_congr hl a i d h (by omega)]
      exact insOuter_congr hl a b n (i + 1) _ (by omega) (by rw [insInner_size]; exact hb) (insInner_bd a i d h (by omega))
    · rfl
theorem sq_bd {x : Int} (h1 : -2000 ≤ x) (h2 : x ≤ 2000) : 0 ≤ x * x ∧ x * x ≤ 4000000 := by
  have := mul_bd h1 h2 h1 h2
  refine ⟨?_, this.2⟩
  rcases Int.le_total 0 x with h | h
  · exact Int.mul_nonneg h h
  · exact Int.mul_nonneg_of_nonpos_of_nonpos h h
theorem sqM_exact {a x : Pt} (ha : Bd a) (hx : Bd x) : sqM a x = sqd a x ∧ 0 ≤ sqd a x ∧ sqd a x ≤ 8000000 := by
  unfold Bd at ha hx
  have e1 := sq_bd (x := a.1 - x.1) (by omega) (by omega)
  have e2 := sq_bd (x := a.2 - x.2) (by omega) (by omega)
  have hw : ∀ n : Int, -9223372036854775808 ≤ n → n ≤ 9223372036854775807 → wrap64 n = n := fun n h1 h2 => by unfold wrap64; omega
  unfold sqM sqd
  rw [hw (a.1 - x.1) (by omega) (by omega), hw (a.2 - x.2) (by omega) (by omega), hw ((a.1 - x.1) * _) (by omega) (by omega), hw ((a.2 - x.2) * _) (by omega) (by omega), hw _ (by omega) (by omega)]
  exact ⟨rfl, by omega, by omega⟩
theorem cb_lt {a x y : Pt} (ha : Bd a) (hx : Bd x) (hy : Bd y) : ltOf (cbCmp a) x y = decide (sqd a x < sqd a y) := by
  obtain ⟨e1, b1, b2⟩ := sqM_exact ha hx
  obtain ⟨e2, b3, b4⟩ := sqM_exact ha hy
  unfold ltOf cbCmp
  rw [e1, e2, W_in (by omega) (by omega)]
  exact decide_eq_decide.2 (by omega)
theorem swo_key (key : Pt → Int) : SWO fun x y => decide (key x < key y) :=
  ⟨fun x => by simp, fun x y z h1 h2 => by simp at *; omega, fun x y z h1 h2 => by simp at *; omega⟩
theorem distSort_perm {a : Pt} {xs : List Pt} (ha : Bd a) (h : ∀ p ∈ xs, Bd p) : (distSort a xs).Perm xs ∧ (distSort a xs).Pairwise fun p q => sqd a p ≤ sqd a q := by
  have e : distSort a xs = (Sort.insertionSort (fun x y => decide (sqd a x < sqd a y)) xs.toArray 0 xs.length).toList := by
    unfold distSort Sort.insertionSort
    rw [insOuter_congr (fun x y hx hy => cb_lt ha hx hy) 0 xs.length _ _ xs.toArray (Nat.le_refl _) (by simp) (by simpa using h)]
  rw [e]
  obtain ⟨⟨h1, h2, h3⟩, h4⟩ := insertionSort_holds (lt := fun x y => decide (sqd a x < sqd a y)) (swo_key (sqd a)) xs.toArray 0 xs.length (Nat.zero_le _) (by simp)
  generalize Sort.insertionSort (fun x y => decide (sqd a x < sqd a y)) xs.toArray 0 xs.length = D at *
  have hs : D.size = xs.length := by rw [h1]; simp
  refine ⟨?_, ?_⟩
  · have h3 := h3
    rw [← hs, Array.extract_size] at h3
    rw [show D.size = xs.toArray.size by rw [h1], Array.extract_size] at h3
    exact h3
  · rw [List.pairwise_iff_getElem]
    intro i j hi hj hij
    have hi' : i < D.size := by simpa using hi
    have hj' : j < D.size := by simpa using hj
    have := h4 i j (Nat.zero_le _) hij (by omega)
    rw [getElem!_pos D i hi', getElem!_pos D j hj'] at this
    simp only [decide_eq_false_iff_not] at this
    simp only [Array.getElem_toList]
    omega
theorem seesI_iff' {xs : List Pt} {a b : Pt} : seesI xs a b = true ↔ (∀ k, k < xs.length → crs a b (wl xs k).1 (wl xs k).2 = false) ∧ ∀ u, u + 1 < (cornersB xs a b).length → midM xs (pAt (cornersB xs a b) u) (pAt (cornersB xs a b) (u + 1)) ≠ 0 := by
  unfold seesI
  simp only [Bool.and_eq_true, List.all_eq_true, List.mem_range, Bool.not_eq_true', bne_iff_ne, ne_eq]
  refine and_congr_right fun _ => ⟨fun h u hu => h u (by omega), fun h u hu => h u (by omega)⟩
theorem cuts_bd {xs : List Pt} {a b : Pt} (ha : ptOk a = true) (hb : ptOk b = true) : ∀ p ∈ cutsOf xs a b, Bd p := fun p h => bd_on (bd_of_ok ha) (bd_of_ok hb) (cuts_on h)
theorem seesI_iff {xs : List Pt} {a b : Pt} (hr : roomOk xs = true) (ha : ptOk a = true) (hb : ptOk b = true) : seesI xs a b = true ↔ Sees xs a b := by
  rw [seesI_iff']
  obtain ⟨h1, h2⟩ := distSort_perm (bd_of_ok ha) (cuts_bd (xs := xs) ha hb)
  exact and_congr_right fun _ => sees_sorted hr ha hb h1 h2
theorem sees_eq {xs : List Pt} {a b : Pt} (hr : roomOk xs = true) (ha : ptOk a = true) (hb : ptOk b = true) : seesI xs a b = seesS xs a b := by
  rw [Bool.eq_iff_iff, seesI_iff hr ha hb, seesS_iff hr ha hb]
end Go.Proofs.Ytnepfcnlngpchaa
namespace Go.Proofs.Ytnepfcnlngpchaa
open Go.RowKit Go.Proofs.Ytnepfcnlngpchaa.Nm
set_option maxRecDepth 10000
theorem tn1 (k : Nat) : ((k : Int) + 1).toNat = k + 1 := by omega
theorem tnp {k : Nat} (h : 1 ≤ k) : ((k : Int) - 1).toNat = k - 1 := by omega
theorem tnc (k : Nat) : ((k : Int) + 1 - 1).toNat = k := by omega
theorem Good1.imp {P : Program} {f : FuncId} {ts : List Ty} {pre pre' : Args ts → Prop} {res res' : Args ts → RV} (h : Good1 P f (mkCon ts pre res)) (hp : ∀ x, pre' x → pre x ∧ res' x = res x) : Good1 P f (mkCon ts pre' res') :=
  ⟨fun w F args vs x h1 h2 h3 h4 h5 => by
    obtain ⟨k1, k2⟩ := hp x h2
    show Calls _ _ _ _ fun e w' => ∃ v, e = .returned v ∧ Below w.heap.size w w' ∧ RetC w w' F (res' x) v
    rw [k2]
    exact h.snd w F args vs x h1 k1 h3 h4 h5, h.has⟩
theorem eq_false_of {b : Bool} (h : b = true → False) : false = b := by cases b with | false => rfl | true => exact (h rfl).elim
theorem eq_true_of {b : Bool} (h : b = true) : true = b := h.symm
theorem lt_succ_all {P : Nat → Prop} {k : Nat} (h : ∀ j, j < k → P j) (hk : P k) : ∀ j, j < k + 1 → P j := fun j hj => by
  rcases Nat.lt_or_ge j k with h5 | h5
  · exact h j h5
  · rw [show j = k by omega]; exact hk
def rowI (xs : List Int) : RV := ⟨.one (.own 0 0), some ⟨t_int, none, .b .int, xs⟩⟩
abbrev Tri := Int × Int × Int
abbrev pI (xs : List Pt) (k : Int) : Pt := xs.getD k.toNat (0, 0)
def inTri (a b c p : Pt) : Bool := decide (0 ≤ turn a b p) && (decide (0 ≤ turn b c p) && decide (0 ≤ turn c a p))
def hasCor (xs : List Pt) (k : Int) : Bool := btw k 0 (xs.length - 1) && roomOk xs
def hasCorC : Con := mkCon [.room, .int] (fun x => x.1.length ≤ 1048576) fun x => vB (hasCor x.1 x.2.1)
theorem hasCorner_ok : Good1 Try.prog n_impl_hasCorner hasCorC := by
  refine good_ofG (tys := tyL) (env := [(n_impl_between, btwC), (n_impl_RoomOk, roomOkC)]) (envw := []) (envd := []) [] [] [] [] [] mixed tys ⟨between_ok, iRoomOk_ok, trivial⟩ trivial trivial Try.func75 rfl (by kernel_rfl) (by decide) (by kernel_rfl) ?_
  have hG_ := kpz [(0, [1, 2]), (1, [4])] [] [] []
  rintro ⟨(xs : List Pt), (k : Int), ⟨⟩⟩ (h1 : xs.length ≤ _)
  (repeat' (first | (with_reducible first | exact True.intro | refine zQ ?_ | (refine zG hG_ ?_; intro K_ hK_) | (refine zR ?_; intro K_ hK_) | (refine hK_ _ _ ?_; try clear hK_ K_) | refine sq_n ?_ | refine sq_r ?_ | refine sq_e ?_ | refine bq_n ?_ | refine bq_r ?_ | refine bq_q ?_ | refine zB ?_ | refine zX ?_ | refine zT ?_ | refine zK ?_ | refine gq_n ?_ | refine gq_r ?_ | refine gq_e ?_ | refine lq_n ?_ | refine lq_r ?_ | refine lq_e ?_ | refine bq_e (by decide) ?_) | ((with_reducible refine zC (b := ?b_) ?hb_ ?_ ?_); case hb_ => rfl) | ((conv => whnf); first | (with_reducible refine hK_ _ _ ?_; try clear hK_ K_) | (with_reducible refine fun (g_ : Sl) (o_ : Ow) => ?_) | (with_reducible first | exact True.intro | refine And.intro trivial ?_ | refine And.intro ?_ ?_) | exact Nat.le_of_ble_eq_true rfl | exact Or.inl rfl | (intro h_; cases h_) | (intro h_; (try simp only [vS1] at h_)) | rfl))) <;> (try (conv => whnf)) <;> (try first | change (_ : Int) ≤ _ | change (_ : Nat) ≤ _) <;> (try ((fail_if_success (with_reducible apply Exists.intro)); (try dsimp only); (try simp only [vS1]))) <;> (try simp (disch := omega) only [vS3, vS2] at *)
  all_goals (try (fail_if_success (with_reducible apply Exists.intro)); first | with_reducible assumption | omega | exact mdl (by omega) | exact ilo1 (by omega) | exact ilo2 (by omega) | exact ihi1 (by omega) (by omega) | exact ihi2 (by omega) (by omega))
  all_goals (simp_all [hasCor])
def rot {α : Type} (xs : List α) (k : Nat) : List α := xs.drop k ++ xs.take k
def rRoom (xs : List Pt) : RV := ⟨.agg [.own 0 0], some ⟨t_impl_Point, none, .b .pt, xs⟩⟩
def rowPts (xs : List Pt) : RV := ⟨.one (.own 0 0), some ⟨t_impl_Point, none, .b .pt, xs⟩⟩
def ptsOf (xs : List Pt) (ks : List Int) : List Pt := if roomOk xs && ks.all (fun k => btw k 0 (xs.length - 1)) then ks.map (pI xs) else []
theorem ptsOf_ok {xs : List Pt} {ks : List Int} (hx : roomOk xs = true) (h : ks.all (fun k => btw k 0 (xs.length - 1)) = true) : ptsOf xs ks = ks.map (pI xs) := by unfold ptsOf; rw [hx, h]; rfl
theorem ptsOf_no {xs : List Pt} {ks : List Int} {k : Nat} (hk : k < ks.length) (h : btw (ks.getD k 0) 0 (xs.length - 1) = false) : ptsOf xs ks = [] := by
  unfold ptsOf
  rw [all_no (k := k) 0 hk h]; simp
def ptsOfC : Con := mkCon [.room, .sl (.b .int)] (fun x => x.1.length ≤ 1048576 ∧ x.2.1.length ≤ 1048576) fun x => rowPts (ptsOf x.1 x.2.1)
theorem map_take_succ {α β : Type} (f : α → β) {xs : List α} {k : Nat} (d : α) (h : k < xs.length) : (xs.take (k + 1)).map f = (xs.take k).map f ++ [f (xs.getD k d)] := by
  rw [List.take_succ_eq_append_getElem h, List.map_append, getD_lt _ h]; rfl
theorem iPointsOf_ok : Good1 Try.prog n_impl_PointsOf ptsOfC := by
  refine good_ofG (tys := tyL) (env := [(n_impl_RoomOk, roomOkC), (n_impl_between, btwC)]) (envw := []) (envd := []) [11] [] [] [] [] mixed tys ⟨iRoomOk_ok, between_ok, trivial⟩ trivial trivial Try.func39 rfl (by kernel_rfl) (by decide) (by kernel_rfl) ?_
  have hG_ := kpz [(0, [1, 2]), (1, [1, 2, 10]), (2, [4]), (3, [1, 2, 5]), (4, [2, 5, 12, 13, 14]), (5, [2, 5, 12, 13, 14, 15]), (6, [2, 5, 7, 12, 13, 14]), (7, [2, 5, 7, 12, 13, 14, 24]), (8, [4]), (9, [2, 5, 12, 13, 14]), (10, [2, 5, 12, 13, 14]), (11, [4])] [(3, [11]), (4, [11]), (5, [11]), (6, [11]), (7, [11]), (8, [11]), (9, [11]), (10, [11]), (11, [11])] [] []
  rintro ⟨(xs : List Pt), (ks : List Int), ⟨⟩⟩ ⟨(h1 : xs.length ≤ _), (h2 : ks.length ≤ _)⟩
  (repeat' (first | (with_reducible first | exact True.intro | refine zQ ?_ | (refine zG hG_ ?_; intro K_ hK_) | (refine zR ?_; intro K_ hK_) | (refine hK_ _ _ ?_; try clear hK_ K_) | refine sq_n ?_ | refine sq_r ?_ | refine sq_e ?_ | refine bq_n ?_ | refine bq_r ?_ | refine bq_q ?_ | refine zB ?_ | refine zX ?_ | refine zT ?_ | refine zK ?_ | refine gq_n ?_ | refine gq_r ?_ | refine gq_e ?_ | refine lq_n ?_ | refine lq_r ?_ | refine lq_e ?_ | refine bq_e (by decide) ?_) | ((with_reducible refine zC (b := ?b_) ?hb_ ?_ ?_); case hb_ => rfl) | ((conv => whnf); first | (with_reducible refine hK_ _ _ ?_; try clear hK_ K_) | (with_reducible refine fun (g_ : Sl) (o_ : Ow) => ?_) | (with_reducible first | exact True.intro | refine And.intro trivial ?_ | refine And.intro ?_ ?_) | exact Nat.le_of_ble_eq_true rfl | exact Or.inl rfl | (intro h_; cases h_) | (intro h_; (try simp only [vS1] at h_)) | rfl))) <;> (try (conv => whnf)) <;> (try first | change (_ : Int) ≤ _ | change (_ : Nat) ≤ _) <;> (try ((fail_if_success (with_reducible apply Exists.intro)); (try dsimp only); (try simp only [vS1]))) <;> (try simp (disch := omega) only [vS3, vS2] at *)
  all_goals (try (fail_if_success (with_reducible apply Exists.intro)); first | with_reducible assumption | omega | exact mdl (by omega) | exact ilo1 (by omega) | exact ilo2 (by omega) | exact ihi1 (by omega) (by omega) | exact ihi2 (by omega) (by omega))
  · simp_all [ptsOf]
  have hx : roomOk xs = true := by assumption
  refine awp'_loopG (α := Nat) (fun k ver_ => [(14, vInt k)]) (fun k ver_ => [(5, 11, false, .row t_impl_Point (.b .pt) ((ks.take k).map (pI xs)))]) (fun k ver_ => []) (fun k => k ≤ ks.length ∧ (ks.take k).all (fun k => btw k 0 (xs.length - 1)) = true) (fun k => ks.length - k) [2, 12, 13] [] (0) ?_
  conv => whnf
  refine ⟨⟨?inv1_, ?vals1_, ?own1_, ?fix1_⟩, ?body1_⟩
  case' vals1_ => (repeat' (first | (with_reducible first | exact True.intro | refine And.intro ?_ ?_ | refine Head.mk ?_ ?_ ?_ ?_) | ((conv => lhs; whnf); first | (with_reducible first | rfl | exact vInt_s (by omega)) | exact rfl) | ((conv => whnf); first | (with_reducible first | exact True.intro | refine And.intro ?_ ?_)))) <;> (try (conv => lhs; whnf))
  case' own1_ => (repeat' (first | (with_reducible first | exact True.intro | refine And.intro ?_ ?_ | refine Head.mk ?_ ?_ ?_ ?_) | ((conv => lhs; whnf); first | (with_reducible first | rfl | exact vInt_s (by omega)) | exact rfl) | ((conv => whnf); first | (with_reducible first | exact True.intro | refine And.intro ?_ ?_)))) <;> (try (conv => lhs; whnf))
  case' fix1_ => (repeat' (first | (with_reducible first | exact True.intro | refine And.intro ?_ ?_ | refine Head.mk ?_ ?_ ?_ ?_) | ((conv => lhs; whnf); first | (with_reducible first | rfl | exact vInt_s (by omega)) | exact rfl) | ((conv => whnf); first | (with_reducible first | exact True.intro | refine And.intro ?_ ?_)))) <;> (try (conv => lhs; whnf))
  · exact ⟨Nat.zero_le _, by simp⟩
  rintro k g_ o_ v_ ⟨hk, hall⟩
  (repeat' (first | (with_reducible first | exact True.intro | refine zQ ?_ | (refine zG hG_ ?_; intro K_ hK_) | (refine zR ?_; intro K_ hK_) | (refine hK_ _ _ ?_; try clear hK_ K_) | refine sq_n ?_ | refine sq_r ?_ | refine sq_e ?_ | refine bq_n ?_ | refine bq_r ?_ | refine bq_q ?_ | refine zB ?_ | refine zX ?_ | refine zT ?_ | refine zK ?_ | refine gq_n ?_ | refine gq_r ?_ | refine gq_e ?_ | refine lq_n ?_ | refine lq_r ?_ | refine lq_e ?_ | refine bq_e (by decide) ?_) | ((with_reducible refine zC (b := ?b_) ?hb_ ?_ ?_); case hb_ => rfl) | ((conv => whnf); first | (with_reducible refine hK_ _ _ ?_; try clear hK_ K_) | (with_reducible refine fun (g_ : Sl) (o_ : Ow) => ?_) | (with_reducible first | exact True.intro | refine And.intro trivial ?_ | refine And.intro ?_ ?_) | exact Nat.le_of_ble_eq_true rfl | exact Or.inl rfl | (intro h_; cases h_) | (intro h_; (try simp only [vS1] at h_)) | rfl))) <;> (try (conv => whnf)) <;> (try first | change (_ : Int) ≤ _ | change (_ : Nat) ≤ _) <;> (try ((fail_if_success (with_reducible apply Exists.intro)); (try dsimp only); (try simp only [vS1]))) <;> (try simp (disch := omega) only [vS3, vS2] at *)
  all_goals (try (fail_if_success (with_reducible apply Exists.intro)); first | with_reducible assumption | omega | exact mdl (by omega) | exact ilo1 (by omega) | exact ilo2 (by omega) | exact ihi1 (by omega) (by omega) | exact ihi2 (by omega) (by omega))
  · exact ptsOf_no ‹k < ks.length› h_
  · have := btw_iff.1 h_; omega
  · have := btw_iff.1 h_; omega
  · refine ⟨k + 1, by omega, ⟨by omega, ?_⟩, ?_⟩
    · rw [all_succ 0 (by omega), hall]; exact h_
    · (repeat' (first | (with_reducible first | exact True.intro | refine And.intro ?_ ?_ | refine Head.mk ?_ ?_ ?_ ?_) | ((conv => lhs; whnf); first | (with_reducible first | rfl | exact vInt_s (by omega)) | exact rfl) | ((conv => whnf); first | (with_reducible first | exact True.intro | refine And.intro ?_ ?_)))) <;> (try (conv => lhs; whnf))
      exact congrArg (Own.row _ _) (map_take_succ (pI xs) _ (by omega)).symm
  · rw [List.take_of_length_le (by omega)] at *
    exact congrArg some (ptsOf_ok hx hall).symm
theorem ptsOf_len {xs : List Pt} {ks : List Int} {n : Nat} (h : ks.length ≤ n) : (ptsOf xs ks).length ≤ n := by unfold ptsOf; split <;> simp; omega
end Go.Proofs.Ytnepfcnlngpchaa
namespace Go.Proofs.Ytnepfcnlngpchaa
open Go.RowKit Go.Proofs.Ytnepfcnlngpchaa.Nm
set_option maxRecDepth 10000
set_option maxHeartbeats 2000000
def sees2C : Con := mkCon [.room, .pt, .pt] (fun x => roomOk x.1 = true ∧ ptOk x.2.1 = true ∧ ptOk x.2.2.1 = true) fun x => vB (seesS x.1 x.2.1 x.2.2.1)
theorem sees2_ok : Good1 Try.prog n_impl_sees sees2C := by
  exact Good1.imp sees_ok fun x h => ⟨(room_len h.1).2, congrArg vB (sees_eq h.1 h.2.1 h.2.2).symm⟩
def inP (xs : List Pt) (p : Pt) : Bool := ptOk p && inB xs p
def allInM (xs l : List Pt) : Bool := roomOk xs && l.all (inP xs)
theorem inP_iff {xs : List Pt} {p : Pt} : inP xs p = true ↔ ptOk p = true ∧ placeM xs p ≠ 0 := by unfold inP; rw [Bool.and_eq_true, bne_iff_ne]
theorem allIn_iff {xs l : List Pt} : allInM xs l = true ↔ roomOk xs = true ∧ ∀ k, k < l.length → inP xs (pAt l k) = true := by
  unfold allInM
  rw [Bool.and_eq_true, List.all_eq_true]
  refine and_congr_right fun _ => ⟨fun h k hk => h _ (pAt_mem hk), fun h p hp => ?_⟩
  obtain ⟨k, hk, rfl⟩ := List.getElem_of_mem hp
  rw [← getD_lt (0, 0) hk]
  exact h k hk
theorem allIn_pt {xs l : List Pt} (h : allInM xs l = true) {k : Nat} (hk : k < l.length) : ptOk (pAt l k) = true := (inP_iff.1 ((allIn_iff.1 h).2 k hk)).1
def allInC : Con := mkCon [.room, .sl (.b .pt)] (fun x => x.1.length ≤ 1048576 ∧ x.2.1.length ≤ 1048576) fun x => vB (allInM x.1 x.2.1)
theorem allIn_ok : Good1 Try.prog n_impl_allIn allInC := by
  refine good_ofG (tys := tyL) (env := [(n_impl_PointOk, ptOkC), (n_impl_place, placeC), (n_impl_RoomOk, roomOkC)]) (envw := []) (envd := []) [] [] [] [] [] mixed tys ⟨iPointOk_ok, place_ok, iRoomOk_ok, trivial⟩ trivial trivial Try.func93 rfl (by kernel_rfl) (by decide) (by kernel_rfl) ?_
  have hG_ := kpz [(0, [1, 2]), (1, [2, 7, 8, 9]), (2, [2, 7, 8, 9, 10]), (3, [2, 6, 7, 8, 9]), (4, [2, 7, 8, 9, 22]), (5, [4]), (6, [2, 7, 8, 9]), (7, [4])] [(3, [6])] [] []
  rintro ⟨(xs : List Pt), (l : List Pt), ⟨⟩⟩ ⟨(h1 : xs.length ≤ _), (h2 : l.length ≤ _)⟩
  (repeat' (first | (with_reducible first | exact True.intro | refine zQ ?_ | (refine zG hG_ ?_; intro K_ hK_) | (refine zR ?_; intro K_ hK_) | (refine hK_ _ _ ?_; try clear hK_ K_) | refine sq_n ?_ | refine sq_r ?_ | refine sq_e ?_ | refine bq_n ?_ | refine bq_r ?_ | refine bq_q ?_ | refine zB ?_ | refine zX ?_ | refine zT ?_ | refine zK ?_ | refine gq_n ?_ | refine gq_r ?_ | refine gq_e ?_ | refine lq_n ?_ | refine lq_r ?_ | refine lq_e ?_ | refine bq_e (by decide) ?_) | ((with_reducible refine zC (b := ?b_) ?hb_ ?_ ?_); case hb_ => rfl) | ((conv => whnf); first | (with_reducible refine hK_ _ _ ?_; try clear hK_ K_) | (with_reducible refine fun (g_ : Sl) (o_ : Ow) => ?_) | (with_reducible first | exact True.intro | refine And.intro trivial ?_ | refine And.intro ?_ ?_) | exact Nat.le_of_ble_eq_true rfl | exact Or.inl rfl | (intro h_; cases h_) | (intro h_; (try simp only [vS1] at h_)) | rfl))) <;> (try (conv => whnf)) <;> (try first | change (_ : Int) ≤ _ | change (_ : Nat) ≤ _) <;> (try ((fail_if_success (with_reducible apply Exists.intro)); (try dsimp only); (try simp only [vS1]))) <;> (try simp (disch := omega) only [vS3, Int.add_sub_cancel, tn1, tnp, tnc, vS2] at *)
  all_goals (try (fail_if_success (with_reducible apply Exists.intro)); first | with_reducible assumption | omega | exact mdl (by omega) | exact ilo1 (by omega) | exact ilo2 (by omega) | exact ihi1 (by omega) (by omega) | exact ihi2 (by omega) (by omega))
  refine awp'_loopG (α := Nat) (fun k ver_ => [(9, vInt k)]) (fun k ver_ => []) (fun k ver_ => []) (fun k => k ≤ l.length ∧ ∀ j, j < k → inP xs (pAt l j) = true) (fun k => l.length - k) [2, 7, 8] [] (0) ?_
  conv => whnf
  refine ⟨⟨?inv1_, ?vals1_, ?own1_, ?fix1_⟩, ?body1_⟩
  case' vals1_ => (repeat' (first | (with_reducible first | exact True.intro | refine And.intro ?_ ?_ | refine Head.mk ?_ ?_ ?_ ?_) | ((conv => lhs; whnf); first | (with_reducible first | rfl | exact vInt_s (by omega)) | exact rfl) | ((conv => whnf); first | (with_reducible first | exact True.intro | refine And.intro ?_ ?_)))) <;> (try (conv => lhs; whnf))
  case' own1_ => (repeat' (first | (with_reducible first | exact True.intro | refine And.intro ?_ ?_ | refine Head.mk ?_ ?_ ?_ ?_) | ((conv => lhs; whnf); first | (with_reducible first | rfl | exact vInt_s (by omega)) | exact rfl) | ((conv => whnf); first | (with_reducible first | exact True.intro | refine And.intro ?_ ?_)))) <;> (try (conv => lhs; whnf))
  case' fix1_ => (repeat' (first | (with_reducible first | exact True.intro | refine And.intro ?_ ?_ | refine Head.mk ?_ ?_ ?_ ?_) | ((conv => lhs; whnf); first | (with_reducible first | rfl | exact vInt_s (by omega)) | exact rfl) | ((conv => whnf); first | (with_reducible first | exact True.intro | refine And.intro ?_ ?_)))) <;> (try (conv => lhs; whnf))
  · exact ⟨Nat.zero_le _, fun j hj => absurd hj (by omega)⟩
  rintro k g_ o_ v_ ⟨hk, hall⟩
  (repeat' (first | (with_reducible first | exact True.intro | refine zQ ?_ | (refine zG hG_ ?_; intro K_ hK_) | (refine zR ?_; intro K_ hK_) | (refine hK_ _ _ ?_; try clear hK_ K_) | refine sq_n ?_ | refine sq_r ?_ | refine sq_e ?_ | refine bq_n ?_ | refine bq_r ?_ | refine bq_q ?_ | refine zB ?_ | refine zX ?_ | refine zT ?_ | refine zK ?_ | refine gq_n ?_ | refine gq_r ?_ | refine gq_e ?_ | refine lq_n ?_ | refine lq_r ?_ | refine lq_e ?_ | refine bq_e (by decide) ?_) | ((with_reducible refine zC (b := ?b_) ?hb_ ?_ ?_); case hb_ => rfl) | ((conv => whnf); first | (with_reducible refine hK_ _ _ ?_; try clear hK_ K_) | (with_reducible refine fun (g_ : Sl) (o_ : Ow) => ?_) | (with_reducible first | exact True.intro | refine And.intro trivial ?_ | refine And.intro ?_ ?_) | exact Nat.le_of_ble_eq_true rfl | exact Or.inl rfl | (intro h_; cases h_) | (intro h_; (try simp only [vS1] at h_)) | rfl))) <;> (try (conv => whnf)) <;> (try first | change (_ : Int) ≤ _ | change (_ : Nat) ≤ _) <;> (try ((fail_if_success (with_reducible apply Exists.intro)); (try dsimp only); (try simp only [vS1]))) <;> (try simp (disch := omega) only [vS3, Int.add_sub_cancel, tn1, tnp, tnc, vS2] at *)
  all_goals (try (fail_if_success (with_reducible apply Exists.intro)); first | with_reducible assumption | omega | exact mdl (by omega) | exact ilo1 (by omega) | exact ilo2 (by omega) | exact ihi1 (by omega) (by omega) | exact ihi2 (by omega) (by omega))
  · refine eq_false_of fun hc => ?_
    have := (inP_iff.1 ((allIn_iff.1 hc).2 k ‹k < l.length›)).1
    simp_all
  · refine eq_false_of fun hc => ?_
    have := (inP_iff.1 ((allIn_iff.1 hc).2 k ‹k < l.length›)).2
    simp_all
  · exact ⟨k + 1, by omega, ⟨by omega, lt_succ_all hall (inP_iff.2 ⟨by assumption, by assumption⟩)⟩, by (repeat' (first | (with_reducible first | exact True.intro | refine And.intro ?_ ?_ | refine Head.mk ?_ ?_ ?_ ?_) | ((conv => lhs; whnf); first | (with_reducible first | rfl | exact vInt_s (by omega)) | exact rfl) | ((conv => whnf); first | (with_reducible first | exact True.intro | refine And.intro ?_ ?_)))) <;> (try (conv => lhs; whnf))⟩
  · rw [Bool.eq_iff_iff, allIn_iff]
    exact ⟨fun h => ⟨h, fun j hj => hall j (by omega)⟩, fun h => h.1⟩
def seesCs (xs : List Pt) (p : Pt) : Bool := (List.range xs.length).all fun k => seesS xs p (pAt xs k)
theorem seesCs_iff {xs : List Pt} {p : Pt} : seesCs xs p = true ↔ ∀ k, k < xs.length → seesS xs p (pAt xs k) = true := by
  unfold seesCs
  simp only [List.all_eq_true, List.mem_range]
def seesCsC : Con := mkCon [.room, .pt] (fun x => roomOk x.1 = true ∧ ptOk x.2.1 = true) fun x => vB (seesCs x.1 x.2.1)
theorem seesCorners_ok : Good1 Try.prog n_impl_seesCorners seesCsC := by
  refine good_ofG (tys := tyL) (env := [(n_impl_sees, sees2C)]) (envw := []) (envd := []) [] [] [] [] [] mixed tys ⟨sees2_ok, trivial⟩ trivial trivial Try.func66 rfl (by kernel_rfl) (by decide) (by kernel_rfl) ?_
  have hG_ := kpz [(0, [2, 3]), (1, [2, 3, 8, 9, 10]), (2, [2, 3, 8, 9, 10, 11]), (3, [2, 3, 6, 8, 9, 10]), (4, [2, 3, 8, 9, 10, 18]), (5, [4]), (6, [2, 3, 8, 9, 10]), (7, [4])] [(3, [6])] [] []
  rintro ⟨(xs : List Pt), ⟨(p : Int), (q : Int)⟩, ⟨⟩⟩ ⟨(hr : roomOk xs = true), (hp : ptOk (p, q) = true)⟩
  have hl := room_len hr
  have hpt : ∀ k, k < xs.length → ptOk (pAt xs k) = true := fun k hk => room_pt hr hk
  (repeat' (first | (with_reducible first | exact True.intro | refine zQ ?_ | (refine zG hG_ ?_; intro K_ hK_) | (refine zR ?_; intro K_ hK_) | (refine hK_ _ _ ?_; try clear hK_ K_) | refine sq_n ?_ | refine sq_r ?_ | refine sq_e ?_ | refine bq_n ?_ | refine bq_r ?_ | refine bq_q ?_ | refine zB ?_ | refine zX ?_ | refine zT ?_ | refine zK ?_ | refine gq_n ?_ | refine gq_r ?_ | refine gq_e ?_ | refine lq_n ?_ | refine lq_r ?_ | refine lq_e ?_ | refine bq_e (by decide) ?_) | ((with_reducible refine zC (b := ?b_) ?hb_ ?_ ?_); case hb_ => rfl) | ((conv => whnf); first | (with_reducible refine hK_ _ _ ?_; try clear hK_ K_) | (with_reducible refine fun (g_ : Sl) (o_ : Ow) => ?_) | (with_reducible first | exact True.intro | refine And.intro trivial ?_ | refine And.intro ?_ ?_) | exact Nat.le_of_ble_eq_true rfl | exact Or.inl rfl | (intro h_; cases h_) | (intro h_; (try simp only [vS1] at h_)) | rfl))) <;> (try (conv => whnf)) <;> (try first | change (_ : Int) ≤ _ | change (_ : Nat) ≤ _) <;> (try ((fail_if_success (with_reducible apply Exists.intro)); (try dsimp only); (try simp only [vS1]))) <;> (try simp (disch := omega) only [vS3, Int.add_sub_cancel, tn1, tnp, tnc, vS2] at *)
  all_goals (try (fail_if_success (with_reducible apply Exists.intro)); first | with_reducible assumption | omega | exact mdl (by omega) | exact ilo1 (by omega) | exact ilo2 (by omega) | exact ihi1 (by omega) (by omega) | exact ihi2 (by omega) (by omega))
  refine awp'_loopG (α := Nat) (fun k ver_ => [(10, vInt k)]) (fun k ver_ => []) (fun k ver_ => []) (fun k => k ≤ xs.length ∧ ∀ j, j < k → seesS xs (p, q) (pAt xs j) = true) (fun k => xs.length - k) [2, 3, 8, 9] [] (0) ?_
  conv => whnf
  refine ⟨⟨?inv2_, ?vals2_, ?own2_, ?fix2_⟩, ?body2_⟩
  case' vals2_ => (repeat' (first | (with_reducible first | exact True.intro | refine And.intro ?_ ?_ | refine Head.mk ?_ ?_ ?_ ?_) | ((conv => lhs; whnf); first | (with_reducible first | rfl | exact vInt_s (by omega)) | exact rfl) | ((conv => whnf); first | (with_reducible first | exact True.intro | refine And.intro ?_ ?_)))) <;> (try (conv => lhs; whnf))
  case' own2_ => (repeat' (first | (with_reducible first | exact True.intro | refine And.intro ?_ ?_ | refine Head.mk ?_ ?_ ?_ ?_) | ((conv => lhs; whnf); first | (with_reducible first | rfl | exact vInt_s (by omega)) | exact rfl) | ((conv => whnf); first | (with_reducible first | exact True.intro | refine And.intro ?_ ?_)))) <;> (try (conv => lhs; whnf))
  case' fix2_ => (repeat' (first | (with_reducible first | exact True.intro | refine And.intro ?_ ?_ | refine Head.mk ?_ ?_ ?_ ?_) | ((conv => lhs; whnf); first | (with_reducible first | rfl | exact vInt_s (by omega)) | exact rfl) | ((conv => whnf); first | (with_reducible first | exact True.intro | refine And.intro ?_ ?_)))) <;> (try (conv => lhs; whnf))
  · exact ⟨Nat.zero_le _, fun j hj => absurd hj (by omega)⟩
  rintro k g_ o_ v_ ⟨hk, hall⟩
  (repeat' (first | (with_reducible first | exact True.intro | refine zQ ?_ | (refine zG hG_ ?_; intro K_ hK_) | (refine zR ?_; intro K_ hK_) | (refine hK_ _ _ ?_; try clear hK_ K_) | refine sq_n ?_ | refine sq_r ?_ | refine sq_e ?_ | refine bq_n ?_ | refine bq_r ?_ | refine bq_q ?_ | refine zB ?_ | refine zX ?_ | refine zT ?_ | refine zK ?_ | refine gq_n ?_ | refine gq_r ?_ | refine gq_e ?_ | refine lq_n ?_ | refine lq_r ?_ | refine lq_e ?_ | refine bq_e (by decide) ?_) | ((with_reducible refine zC (b := ?b_) ?hb_ ?_ ?_); case hb_ => rfl) | ((conv => whnf); first | (with_reducible refine hK_ _ _ ?_; try clear hK_ K_) | (with_reducible refine fun (g_ : Sl) (o_ : Ow) => ?_) | (with_reducible first | exact True.intro | refine And.intro trivial ?_ | refine And.intro ?_ ?_) | exact Nat.le_of_ble_eq_true rfl | exact Or.inl rfl | (intro h_; cases h_) | (intro h_; (try simp only [vS1] at h_)) | rfl))) <;> (try (conv => whnf)) <;> (try first | change (_ : Int) ≤ _ | change (_ : Nat) ≤ _) <;> (try ((fail_if_success (with_reducible apply Exists.intro)); (try dsimp only); (try simp only [vS1]))) <;> (try simp (disch := omega) only [vS3, Int.add_sub_cancel, tn1, tnp, tnc, vS2] at *)
  all_goals (try (fail_if_success (with_reducible apply Exists.intro)); first | with_reducible assumption | omega | exact mdl (by omega) | exact ilo1 (by omega) | exact ilo2 (by omega) | exact ihi1 (by omega) (by omega) | exact ihi2 (by omega) (by omega))
  all_goals first
    | exact hpt _ (by omega)
    | exact eq_true_of (seesCs_iff.2 fun j hj => hall j (by omega))
    | exact eq_false_of fun hc => absurd (seesCs_iff.1 hc k (by omega)) (by simp_all)
    | exact ⟨k + 1, by omega, ⟨by omega, lt_succ_all hall (by assumption)⟩, by (repeat' (first | (with_reducible first | exact True.intro | refine And.intro ?_ ?_ | refine Head.mk ?_ ?_ ?_ ?_) | ((conv => lhs; whnf); first | (with_reducible first | rfl | exact vInt_s (by omega)) | exact rfl) | ((conv => whnf); first | (with_reducible first | exact True.intro | refine And.intro ?_ ?_)))) <;> (try (conv => lhs; whnf))⟩
def neighZ (n i k : Int) : Bool := decide (Int.tmod (i + 1) n = k) || decide (Int.tmod (k + 1) n = i)
def diagC (xs : List Pt) (i k : Nat) : Bool := seesS xs (pAt xs i) (pAt xs k) && (freeTo xs i k xs.length && decide (midM xs (pAt xs i) (pAt xs k) = 2))
def diagM (xs : List Pt) (i k : Int) : Bool := btw i 0 (xs.length - 1) && (btw k 0 (xs.length - 1) && (!decide (i = k) && (!neighZ xs.length i k && diagC xs i.toNat k.toNat)))
theorem diagC_iff {xs : List Pt} {i k : Nat} : diagC xs i k = true ↔ seesS xs (pAt xs i) (pAt xs k) = true ∧ freeTo xs i k xs.length = true ∧ midM xs (pAt xs i) (pAt xs k) = 2 := by
  unfold diagC; simp only [Bool.and_eq_true, decide_eq_true_eq]
theorem diagM_iff {xs : List Pt} {i k : Int} : diagM xs i k = true ↔ btw i 0 (xs.length - 1) = true ∧ btw k 0 (xs.length - 1) = true ∧ i ≠ k ∧ neighZ xs.length i k = false ∧ diagC xs i.toNat k.toNat = true := by
  unfold diagM; simp only [Bool.and_eq_true, Bool.not_eq_true', decide_eq_false_iff_not, ne_eq]
theorem room_inj {xs : List Pt} (hr : roomOk xs = true) {i j : Nat} (hi : i < xs.length) (hj : j < xs.length) (e : pAt xs i = pAt xs j) : i = j := by
  rw [show pAt xs i = xs[i] from getD_lt _ hi, show pAt xs j = xs[j] from getD_lt _ hj] at e
  exact (List.getElem_inj (room_nodup hr)).1 e
end Go.Proofs.Ytnepfcnlngpchaa
namespace Go.Proofs.Ytnepfcnlngpchaa
open Go.RowKit Go.Proofs.Ytnepfcnlngpchaa.Nm
set_option maxRecDepth 10000
theorem locRow_eq {v : Nat} {t : TypeId} {k : ElK} {xs ys : List k.T} (h : xs = ys) : (⟨v, .row t k xs⟩ : Loc) = ⟨v, .row t k ys⟩ := by rw [h]
def roomRoomC (f : List Pt → List Pt) : Con := mkCon [.room] (fun x => x.1.length ≤ 1048576) fun x => rRoom (f x.1)
theorem getD_set {α : Type} {xs : List α} {i p : Nat} {x d : α} (hi : i < xs.length) : (xs.set i x).getD p d = if p = i then x else xs.getD p d := by
  rw [List.getD_eq_getElem?_getD, List.getElem?_set]
  by_cases h : i = p
  · subst h; simp [hi]
  · rw [if_neg h, if_neg (Ne.symm h)]; rfl
end Go.Proofs.Ytnepfcnlngpchaa
namespace Go.Proofs.Ytnepfcnlngpchaa
open Go.RowKit
theorem erase_eq {α : Type} (l : List α) (k : Nat) : l.eraseIdx k = l.take k ++ l.drop (k + 1) := List.eraseIdx_eq_take_drop_succ l k
abbrev gI (l : List Int) (k : Nat) : Int := l.getD k 0
def prvN (n i : Nat) : Nat := (i + n - 1) % n
def nxtN (n i : Nat) : Nat := (i + 1) % n
def cutM (xs : List Pt) (l : List Int) (i : Nat) : Bool :=
  ((diagM xs (gI l (prvN l.length i)) (gI l (nxtN l.length i)) || neighZ xs.length (gI l (prvN l.length i)) (gI l (nxtN l.length i))) && decide (0 < turn (pI xs (gI l (prvN l.length i))) (pI xs (gI l i)) (pI xs (gI l (nxtN l.length i))))) &&
  l.all fun x => decide (x = gI l (prvN l.length i)) || (decide (x = gI l i) || (decide (x = gI l (nxtN l.length i)) || !inTri (pI xs (gI l (prvN l.length i))) (pI xs (gI l i)) (pI xs (gI l (nxtN l.length i))) (pI xs x)))
theorem cutM_iff {xs : List Pt} {l : List Int} {i : Nat} : cutM xs l i = true ↔ (diagM xs (gI l (prvN l.length i)) (gI l (nxtN l.length i)) = true ∨ neighZ xs.length (gI l (prvN l.length i)) (gI l (nxtN l.length i)) = true) ∧
    0 < turn (pI xs (gI l (prvN l.length i))) (pI xs (gI l i)) (pI xs (gI l (nxtN l.length i))) ∧
    ∀ j, j < l.length → gI l j = gI l (prvN l.length i) ∨ gI l j = gI l i ∨ gI l j = gI l (nxtN l.length i) ∨ inTri (pI xs (gI l (prvN l.length i))) (pI xs (gI l i)) (pI xs (gI l (nxtN l.length i))) (pI xs (gI l j)) = false := by
  unfold cutM
  simp only [Bool.and_eq_true, Bool.or_eq_true, decide_eq_true_eq, List.all_eq_true, Bool.not_eq_true']
  constructor
  · rintro ⟨⟨h1, h2⟩, h3⟩
    refine ⟨h1, h2, fun j hj => h3 _ ?_⟩
    rw [show gI l j = l[j] from getD_lt _ hj]
    exact List.getElem_mem _
  · rintro ⟨h1, h2, h3⟩
    refine ⟨⟨h1, h2⟩, fun x hx => ?_⟩
    obtain ⟨j, hj, rfl⟩ := List.getElem_of_mem hx
    have := h3 j hj
    rwa [show gI l j = l[j] from getD_lt _ hj] at this
def firstCut (xs : List Pt) (l : List Int) : Option Nat := (List.range l.length).find? (cutM xs l)
theorem firstCut_spec {xs : List Pt} {l : List Int} {i : Nat} (h : firstCut xs l = some i) : i < l.length ∧ cutM xs l i = true := by
  unfold firstCut at h
  rw [List.find?_range_eq_some] at h
  exact ⟨List.mem_range.1 h.2.1, h.1⟩
def triS (a b c : Int) : Tri := (min (min a b) c, a + b + c - min (min a b) c - max (max a b) c, max (max a b) c)
def triAt (l : List Int) (i : Nat) : Tri := triS (gI l (prvN l.length i)) (gI l i) (gI l (nxtN l.length i))
def triRun (xs : List Pt) : Nat → List Int → List Tri → List Tri
  | 0, l, out => out ++ [triS (gI l 0) (gI l 1) (gI l 2)]
  | f + 1, l, out => match firstCut xs l with
    | none => []
    | some i => triRun xs f (l.eraseIdx i) (out ++ [triAt l i])
def allC (n : Nat) : List Int := (List.range n).map fun k : Nat => (k : Int)
def trisM (xs : List Pt) : List Tri := if roomOk xs then triRun xs (xs.length - 3) (allC xs.length) [] else []
theorem allC_len (n : Nat) : (allC n).length = n := by simp [allC]
structure Left (n : Nat) (l : List Int) : Prop where
  len : 3 ≤ l.length
  le : l.length ≤ n
  inc : l.Pairwise (· < ·)
  ge : ∀ x ∈ l, 0 ≤ x
  lt : ∀ x ∈ l, x < n
theorem left_all {n : Nat} (h : 3 ≤ n) : Left n (allC n) := by
  refine ⟨by rw [allC_len]; exact h, by rw [allC_len]; exact Nat.le_refl _, ?_, ?_, ?_⟩
  · unfold allC
    rw [List.pairwise_map]
    exact List.pairwise_lt_range.imp fun h => by omega
  all_goals (intro x hx; unfold allC at hx; obtain ⟨k, hk, rfl⟩ := List.mem_map.1 hx; have := List.mem_range.1 hk; omega)
theorem Left.erase {n : Nat} {l : List Int} (h : Left n l) (h4 : 3 < l.length) {i : Nat} (hi : i < l.length) : Left n (l.eraseIdx i) := by
  have hl := List.length_eraseIdx_of_lt hi
  refine ⟨by omega, by have := h.le; omega, h.inc.sublist (List.eraseIdx_sublist _ _), fun x hx => h.ge x ((List.eraseIdx_sublist _ _).mem hx), fun x hx => h.lt x ((List.eraseIdx_sublist _ _).mem hx)⟩
theorem gI_mem {l : List Int} {k : Nat} (h : k < l.length) : gI l k ∈ l := by rw [show gI l k = l[k] from getD_lt _ h]; exact List.getElem_mem _
theorem Left.at {n : Nat} {l : List Int} (h : Left n l) {k : Nat} (hk : k < l.length) : 0 ≤ gI l k ∧ gI l k < n := ⟨h.ge _ (gI_mem hk), h.lt _ (gI_mem hk)⟩
theorem Left.mono {n : Nat} {l : List Int} (h : Left n l) {i j : Nat} (hij : i < j) (hj : j < l.length) : gI l i < gI l j := by
  rw [show gI l i = l[i] from getD_lt _ (by omega), show gI l j = l[j] from getD_lt _ hj]
  exact List.pairwise_iff_getElem.1 h.inc i j (by omega) hj hij
theorem Left.inj {n : Nat} {l : List Int} (h : Left n l) {i j : Nat} (hi : i < l.length) (hj : j < l.length) (e : gI l i = gI l j) : i = j := by
  rcases Nat.lt_trichotomy i j with h1 | h1 | h1
  · have := h.mono h1 hj; omega
  · exact h1
  · have := h.mono h1 hi; omega
theorem prv_lt {n i : Nat} (h : 0 < n) : prvN n i < n := Nat.mod_lt _ h
theorem nxt_lt {n i : Nat} (h : 0 < n) : nxtN n i < n := Nat.mod_lt _ h
theorem prv_eq {n i : Nat} (hi : i < n) : (i = 0 ∧ prvN n i = n - 1) ∨ (0 < i ∧ prvN n i = i - 1) := by
  unfold prvN
  rcases Nat.eq_zero_or_pos i with h | h
  · subst h; exact .inl ⟨rfl, by rw [Nat.zero_add, Nat.mod_eq_of_lt (by omega)]⟩
  · exact .inr ⟨h, by rw [show i + n - 1 = (i - 1) + n by omega, Nat.add_mod_right, Nat.mod_eq_of_lt (by omega)]⟩
theorem nxt_eq {n i : Nat} (hi : i < n) : (i + 1 = n ∧ nxtN n i = 0) ∨ (i + 1 < n ∧ nxtN n i = i + 1) := by
  unfold nxtN
  rcases Nat.lt_or_ge (i + 1) n with h | h
  · exact .inr ⟨h, Nat.mod_eq_of_lt h⟩
  · have : i + 1 = n := by omega
    exact .inl ⟨this, by rw [this, Nat.mod_self]⟩
structure TriSt (xs : List Pt) (s : List Int × List Tri) : Prop where
  left : Left xs.length s.1
  run : triRun xs (s.1.length - 3) s.1 s.2 = trisM xs
  len : s.2.length + s.1.length = xs.length
theorem TriSt.step {xs : List Pt} {s : List Int × List Tri} (h : TriSt xs s) (h4 : 3 < s.1.length) {i : Nat} (hc : firstCut xs s.1 = some i) : TriSt xs (s.1.eraseIdx i, s.2 ++ [triAt s.1 i]) := by
  have hi := (firstCut_spec hc).1
  have hl := List.length_eraseIdx_of_lt hi
  refine ⟨h.left.erase h4 hi, ?_, ?_⟩
  · have hr := h.run
    show triRun xs ((s.1.eraseIdx i).length - 3) _ _ = _
    rw [hl, show s.1.length - 1 - 3 = s.1.length - 4 by omega]
    rw [show s.1.length - 3 = (s.1.length - 4) + 1 by omega] at hr
    unfold triRun at hr
    rw [hc] at hr
    exact hr
  · have := h.len
    show (s.2 ++ [triAt s.1 i]).length + (s.1.eraseIdx i).length = _
    rw [List.length_append, hl]
    simp only [List.length_cons, List.length_nil]
    omega
theorem TriSt.none {xs : List Pt} {s : List Int × List Tri} (h : TriSt xs s) (h4 : 3 < s.1.length) (hc : firstCut xs s.1 = none) : trisM xs = [] := by
  have hr := h.run
  rw [show s.1.length - 3 = (s.1.length - 4) + 1 by omega] at hr
  unfold triRun at hr
  rw [hc] at hr
  exact hr.symm
theorem TriSt.last {xs : List Pt} {s : List Int × List Tri} (h : TriSt xs s) (h3 : s.1.length ≤ 3) : trisM xs = s.2 ++ [triS (gI s.1 0) (gI s.1 1) (gI s.1 2)] := by
  have hr := h.run
  rw [show s.1.length - 3 = 0 by omega] at hr
  exact hr.symm
inductive Cutd : List Int → List Tri → Prop
  | last {l : List Int} (h : l.length = 3) : Cutd l [triS (gI l 0) (gI l 1) (gI l 2)]
  | step {l : List Int} {ts : List Tri} {i : Nat} (h : 3 < l.length) (hi : i < l.length) (hr : Cutd (l.eraseIdx i) ts) : Cutd l (triAt l i :: ts)
theorem run_cutd {xs : List Pt} : ∀ (f : Nat) (l : List Int) (out : List Tri), l.length = f + 3 → triRun xs f l out = [] ∨ ∃ ts, triRun xs f l out = out ++ ts ∧ Cutd l ts
  | 0, l, out, h => .inr ⟨_, rfl, .last (by omega)⟩
  | f + 1, l, out, h => by
    unfold triRun
    split
    · exact .inl rfl
    · rename_i i hc
      have hi := (firstCut_spec hc).1
      have hl := List.length_eraseIdx_of_lt hi
      rcases run_cutd (xs := xs) f (l.eraseIdx i) (out ++ [triAt l i]) (by omega) with e | ⟨ts, e, hd⟩
      · exact .inl e
      · exact .inr ⟨triAt l i :: ts, by rw [e]; simp, .step (by omega) hi hd⟩
theorem tris_cutd (xs : List Pt) : trisM xs = [] ∨ (roomOk xs = true ∧ Cutd (allC xs.length) (trisM xs)) := by
  unfold trisM
  split
  · rename_i hr
    have hl := room_len hr
    rcases run_cutd (xs := xs) (xs.length - 3) (allC xs.length) [] (by rw [allC_len]; omega) with e | ⟨ts, e, hd⟩
    · exact .inl e
    · rw [e, List.nil_append]; exact .inr ⟨hr, hd⟩
  · exact .inl rfl
theorem Cutd.ne {l : List Int} {ts : List Tri} (h : Cutd l ts) : ts ≠ [] := by cases h <;> simp
theorem triS_six (a b c : Int) : triS a b c = (a, b, c) ∨ triS a b c = (a, c, b) ∨ triS a b c = (b, a, c) ∨ triS a b c = (b, c, a) ∨ triS a b c = (c, a, b) ∨ triS a b c = (c, b, a) := by
  unfold triS
  simp only [Prod.mk.injEq]
  omega
theorem triS_inc {a b c : Int} (h1 : a ≠ b) (h2 : b ≠ c) (h3 : a ≠ c) : (triS a b c).1 < (triS a b c).2.1 ∧ (triS a b c).2.1 < (triS a b c).2.2 := by
  unfold triS
  simp only
  omega
theorem triS_sorted {a b c : Int} (h1 : a < b) (h2 : b < c) : triS a b c = (a, b, c) := by
  unfold triS
  simp only [Prod.mk.injEq]
  omega
def TriIn (n : Nat) (t : Tri) : Prop := 0 ≤ t.1 ∧ t.1 < t.2.1 ∧ t.2.1 < t.2.2 ∧ t.2.2 < n
theorem triIn_of {n : Nat} {a b c : Int} (h1 : a ≠ b) (h2 : b ≠ c) (h3 : a ≠ c) (ha : 0 ≤ a ∧ a < n) (hb : 0 ≤ b ∧ b < n) (hc : 0 ≤ c ∧ c < n) : TriIn n (triS a b c) := by
  have hi := triS_inc h1 h2 h3
  unfold TriIn
  rcases triS_six a b c with e | e | e | e | e | e <;> rw [e] at hi ⊢ <;> simp only at hi ⊢ <;> omega
theorem prv_ne {n i : Nat} (h3 : 3 ≤ n) (hi : i < n) : prvN n i ≠ i ∧ nxtN n i ≠ i ∧ prvN n i ≠ nxtN n i := by
  rcases prv_eq hi with ⟨h1, h2⟩ | ⟨h1, h2⟩ <;> rcases nxt_eq hi with ⟨h4, h5⟩ | ⟨h4, h5⟩ <;> omega
theorem Left.triAt {n : Nat} {l : List Int} (h : Left n l) {i : Nat} (hi : i < l.length) : TriIn n (triAt l i) := by
  have h3 := h.len
  obtain ⟨e1, e2, e3⟩ := prv_ne h3 hi
  have hp := prv_lt (n := l.length) (i := i) (by omega)
  have hq := nxt_lt (n := l.length) (i := i) (by omega)
  exact triIn_of (fun e => e1 (h.inj hp hi e)) (fun e => e2 (h.inj hq hi e.symm)) (fun e => e3 (h.inj hp hq e)) (h.at hp) (h.at hi) (h.at hq)
theorem Cutd.triIn {n : Nat} {l : List Int} {ts : List Tri} (h : Cutd l ts) (hl : Left n l) : ∀ t ∈ ts, TriIn n t := by
  induction h with
  | last h3 =>
    rename_i l
    intro t ht
    rw [List.mem_singleton.1 ht]
    have h01 := hl.mono (i := 0) (j := 1) (by omega) (by omega)
    have h12 := hl.mono (i := 1) (j := 2) (by omega) (by omega)
    exact triIn_of (by omega) (by omega) (by omega) (hl.at (by omega)) (hl.at (by omega)) (hl.at (by omega))
  | step h4 hi hr ih =>
    intro t ht
    rcases List.mem_cons.1 ht with rfl | ht
    · exact hl.triAt hi
    · exact ih (hl.erase h4 hi) t ht
theorem tris_in {xs : List Pt} {t : Tri} (h : t ∈ trisM xs) : TriIn xs.length t := by
  rcases tris_cutd xs with e | ⟨hr, hd⟩
  · rw [e] at h; cases h
  · exact hd.triIn (left_all (room_len hr).1) t h
abbrev cI (out : List Int) (x : Int) : Int := out.getD x.toNat 0
def colBase (n : Nat) (t : Tri) : List Int := (((List.replicate n (-1 : Int)).set t.1.toNat 0).set t.2.1.toNat 1).set t.2.2.toNat 2
def colStep (out : List Int) (t : Tri) : List Int :=
  if cI out t.1 < 0 then out.set t.1.toNat (3 - cI out t.2.1 - cI out t.2.2)
  else if cI out t.2.1 < 0 then out.set t.2.1.toNat (3 - cI out t.2.2 - cI out t.1)
  else if cI out t.2.2 < 0 then out.set t.2.2.toNat (3 - cI out t.1 - cI out t.2.1)
  else out
def colF (n : Nat) : List Tri → List Int
  | [] => []
  | [t] => colBase n t
  | t :: ts => colStep (colF n ts) t
theorem colF_cons {n : Nat} {t : Tri} {ts : List Tri} (h : ts ≠ []) : colF n (t :: ts) = colStep (colF n ts) t := by
  cases ts with
  | nil => exact absurd rfl h
  | cons a r => rfl
theorem colStep_len (out : List Int) (t : Tri) : (colStep out t).length = out.length := by
  unfold colStep
  split
  · simp
  · split
    · simp
    · split <;> simp
theorem colF_len {n : Nat} : ∀ {ts : List Tri}, ts ≠ [] → (colF n ts).length = n
  | [], h => absurd rfl h
  | [t], _ => by simp [colF, colBase]
  | t :: s :: ts, _ => by rw [colF_cons (by simp), colStep_len]; exact colF_len (by simp)
theorem cI_set {out : List Int} {x y : Int} {v : Int} (hx : 0 ≤ x ∧ x < out.length) (hy : 0 ≤ y) : cI (out.set x.toNat v) y = if y = x then v else cI out y := by
  unfold cI
  rw [getD_set (by omega)]
  by_cases h : y = x
  · subst h; rw [if_pos rfl, if_pos rfl]
  · rw [if_neg h, if_neg (by omega)]
structure Col (n : Nat) (l : List Int) (out : List Int) : Prop where
  len : out.length = n
  yes : ∀ x ∈ l, 0 ≤ cI out x ∧ cI out x ≤ 2
  no : ∀ x : Int, 0 ≤ x → x < n → x ∉ l → cI out x = -1
  ne : ∀ k, k < l.length → cI out (gI l k) ≠ cI out (gI l (nxtN l.length k))
theorem gI_erase {l : List Int} {i j : Nat} (hj : j + 1 < l.length) : gI (l.eraseIdx i) j = if j < i then gI l j else gI l (j + 1) := by
  unfold gI
  rw [List.getD_eq_getElem?_getD, List.getElem?_eraseIdx]
  split <;> rw [← List.getD_eq_getElem?_getD]
theorem mem_gI {l : List Int} {x : Int} : x ∈ l ↔ ∃ k, k < l.length ∧ gI l k = x := by
  rw [List.mem_iff_getElem]
  constructor
  · rintro ⟨k, h, e⟩; exact ⟨k, h, by rw [show gI l k = l[k] from getD_lt _ h, e]⟩
  · rintro ⟨k, h, e⟩; exact ⟨k, h, by rw [← e, show gI l k = l[k] from getD_lt _ h]⟩
theorem Left.mem_erase {n : Nat} {l : List Int} (h : Left n l) {i : Nat} (hi : i < l.length) {x : Int} : x ∈ l.eraseIdx i ↔ x ∈ l ∧ x ≠ gI l i := by
  have hl := List.length_eraseIdx_of_lt hi
  rw [mem_gI, mem_gI, hl]
  constructor
  · rintro ⟨k, hk, e⟩
    rw [gI_erase (by omega)] at e
    split at e
    · exact ⟨⟨k, by omega, e⟩, fun e' => by have := h.inj (i := k) (j := i) (by omega) hi (by rw [e, e']); omega⟩
    · exact ⟨⟨k + 1, by omega, e⟩, fun e' => by have := h.inj (i := k + 1) (j := i) (by omega) hi (by rw [e, e']); omega⟩
  · rintro ⟨⟨k, hk, e⟩, hne⟩
    have hki : k ≠ i := fun e' => hne (by rw [← e, e'])
    rcases Nat.lt_or_ge k i with h1 | h1
    · exact ⟨k, by omega, by rw [gI_erase (by omega), if_pos h1, e]⟩
    · exact ⟨k - 1, by omega, by rw [gI_erase (by omega), if_neg (by omega), show k - 1 + 1 = k by omega, e]⟩
theorem colStep_cut {out : List Int} {p c q : Int} (hc : cI out c < 0) (hp : 0 ≤ cI out p) (hq : 0 ≤ cI out q) : colStep out (triS p c q) = out.set c.toNat (3 - cI out p - cI out q) := by
  unfold colStep
  rcases triS_six p c q with e | e | e | e | e | e <;> rw [e] <;> simp only
  · rw [if_neg (by omega), if_pos hc]; congr 1; omega
  · rw [if_neg (by omega), if_neg (by omega), if_pos hc]
  · rw [if_pos hc]
  · rw [if_pos hc]; congr 1; omega
  · rw [if_neg (by omega), if_neg (by omega), if_pos hc]; congr 1; omega
  · rw [if_neg (by omega), if_pos hc]
theorem Col.step {n : Nat} {l : List Int} {i : Nat} {out : List Int} (hl : Left n l) (h4 : 3 < l.length) (hi : i < l.length) (h : Col n (l.eraseIdx i) out) :
    (cI out (gI l i) = -1 ∧ (0 ≤ cI out (gI l (prvN l.length i)) ∧ cI out (gI l (prvN l.length i)) ≤ 2) ∧ (0 ≤ cI out (gI l (nxtN l.length i)) ∧ cI out (gI l (nxtN l.length i)) ≤ 2)) ∧ Col n l (colStep out (triAt l i)) := by
  have hlen := List.length_eraseIdx_of_lt hi
  obtain ⟨e1, e2, e3⟩ := prv_ne (n := l.length) (by omega) hi
  have hp := prv_lt (n := l.length) (i := i) (by omega)
  have hq := nxt_lt (n := l.length) (i := i) (by omega)
  have hpm : gI l (prvN l.length i) ∈ l.eraseIdx i := (hl.mem_erase hi).2 ⟨gI_mem hp, fun e => e1 (hl.inj hp hi e)⟩
  have hqm : gI l (nxtN l.length i) ∈ l.eraseIdx i := (hl.mem_erase hi).2 ⟨gI_mem hq, fun e => e2 (hl.inj hq hi e)⟩
  have hcn : gI l i ∉ l.eraseIdx i := fun hm => ((hl.mem_erase hi).1 hm).2 rfl
  have hc := h.no _ (hl.at hi).1 (hl.at hi).2 hcn
  have hcp := h.yes _ hpm
  have hcq := h.yes _ hqm
  have hpq : cI out (gI l (prvN l.length i)) ≠ cI out (gI l (nxtN l.length i)) := by
    have key : ∃ k, k < (l.eraseIdx i).length ∧ gI (l.eraseIdx i) k = gI l (prvN l.length i) ∧ gI (l.eraseIdx i) (nxtN (l.eraseIdx i).length k) = gI l (nxtN l.length i) := by
      rcases prv_eq hi with ⟨h1, h2⟩ | ⟨h1, h2⟩
      · refine ⟨l.length - 2, by omega, by rw [gI_erase (by omega), if_neg (by omega), h2]; congr 1; omega, ?_⟩
        rcases nxt_eq (n := (l.eraseIdx i).length) (i := l.length - 2) (by omega) with ⟨g1, g2⟩ | ⟨g1, g2⟩
        · rcases nxt_eq hi with ⟨g3, g4⟩ | ⟨g3, g4⟩
          · omega
          · rw [g2, g4, gI_erase (by omega), if_neg (by omega)]; congr 1; omega
        · omega
      · refine ⟨i - 1, by omega, by rw [gI_erase (by omega), if_pos (by omega), h2], ?_⟩
        rcases nxt_eq hi with ⟨g3, g4⟩ | ⟨g3, g4⟩
        · rcases nxt_eq (n := (l.eraseIdx i).length) (i := i - 1) (by omega) with ⟨g1, g2⟩ | ⟨g1, g2⟩
          · rw [g2, g4, gI_erase (by omega), if_pos (by omega)]
          · omega
        · rcases nxt_eq (n := (l.eraseIdx i).length) (i := i - 1) (by omega) with ⟨g1, g2⟩ | ⟨g1, g2⟩
          · omega
          · rw [g2, g4, gI_erase (by omega), if_neg (by omega)]; congr 1; omega
    obtain ⟨k, k1, k2, k3⟩ := key
    have := h.ne k k1
    rw [k2, k3] at this
    exact this
  refine ⟨⟨hc, hcp, hcq⟩, ?_⟩
  have hs : colStep out (triAt l i) = out.set (gI l i).toNat (3 - cI out (gI l (prvN l.length i)) - cI out (gI l (nxtN l.length i))) := colStep_cut (by omega) hcp.1 hcq.1
  have hcx : 0 ≤ gI l i ∧ gI l i < out.length := by rw [h.len]; exact hl.at hi
  have hget : ∀ y, 0 ≤ y → cI (colStep out (triAt l i)) y = if y = gI l i then 3 - cI out (gI l (prvN l.length i)) - cI out (gI l (nxtN l.length i)) else cI out y := fun y hy => by rw [hs]; exact cI_set hcx hy
  refine ⟨by rw [colStep_len, h.len], fun x hx => ?_, fun x h0 h1 hx => ?_, fun k hk => ?_⟩
  · rw [hget x (hl.ge x hx)]
    split
    · omega
    · exact h.yes x ((hl.mem_erase hi).2 ⟨hx, by assumption⟩)
  · rw [hget x h0, if_neg (fun e => hx (by rw [e]; exact gI_mem hi))]
    exact h.no x h0 h1 (fun hm => hx ((hl.mem_erase hi).1 hm).1)
  · have hkn := nxt_lt (n := l.length) (i := k) (by omega)
    rw [hget _ (hl.at hk).1, hget _ (hl.at hkn).1]
    by_cases hki : k = i
    · subst hki
      rw [if_pos rfl, if_neg (fun e => e2 (hl.inj hq hi e))]
      omega
    · rw [if_neg (fun e => hki (hl.inj hk hi e))]
      by_cases hni : nxtN l.length k = i
      · rw [if_pos (by rw [hni])]
        have hkp : k = prvN l.length i := by
          rcases nxt_eq hk with ⟨g1, g2⟩ | ⟨g1, g2⟩ <;> rcases prv_eq hi with ⟨g3, g4⟩ | ⟨g3, g4⟩ <;> omega
        rw [hkp]
        omega
      · rw [if_neg (fun e => hni (hl.inj hkn hi e))]
        have key : ∃ j, j < (l.eraseIdx i).length ∧ gI (l.eraseIdx i) j = gI l k ∧ gI (l.eraseIdx i) (nxtN (l.eraseIdx i).length j) = gI l (nxtN l.length k) := by
          rcases Nat.lt_or_ge k i with h1 | h1
          · refine ⟨k, by omega, by rw [gI_erase (by omega), if_pos h1], ?_⟩
            rcases nxt_eq hk with ⟨g1, g2⟩ | ⟨g1, g2⟩
            · omega
            · rcases nxt_eq (n := (l.eraseIdx i).length) (i := k) (by omega) with ⟨g3, g4⟩ | ⟨g3, g4⟩
              · omega
              · rw [g2, g4, gI_erase (by omega), if_pos (by omega)]
          · refine ⟨k - 1, by omega, by rw [gI_erase (by omega), if_neg (by omega), show k - 1 + 1 = k by omega], ?_⟩
            rcases nxt_eq hk with ⟨g1, g2⟩ | ⟨g1, g2⟩
            · rcases nxt_eq (n := (l.eraseIdx i).length) (i := k - 1) (by omega) with ⟨g3, g4⟩ | ⟨g3, g4⟩
              · rw [g2, g4, gI_erase (by omega), if_pos (by omega)]
              · omega
            · rcases nxt_eq (n := (l.eraseIdx i).length) (i := k - 1) (by omega) with ⟨g3, g4⟩ | ⟨g3, g4⟩
              · omega
              · rw [g2, g4, gI_erase (by omega), if_neg (by omega)]; congr 1; omega
        obtain ⟨j, j1, j2, j3⟩ := key
        have := h.ne j j1
        rw [j2, j3] at this
        exact this
theorem Cutd.col {n : Nat} {l : List Int} {ts : List Tri} (h : Cutd l ts) (hl : Left n l) : Col n l (colF n ts) := by
  induction h with
  | last h3 =>
    rename_i l
    have h01 := hl.mono (i := 0) (j := 1) (by omega) (by omega)
    have h12 := hl.mono (i := 1) (j := 2) (by omega) (by omega)
    have a0 := hl.at (k := 0) (by omega)
    have a1 := hl.at (k := 1) (by omega)
    have a2 := hl.at (k := 2) (by omega)
    have hget : ∀ y : Int, 0 ≤ y → y < n → cI (colF n [triS (gI l 0) (gI l 1) (gI l 2)]) y = if y = gI l 2 then 2 else if y = gI l 1 then 1 else if y = gI l 0 then 0 else -1 := fun y hy hyn => by
      show cI (colBase n _) y = _
      rw [triS_sorted h01 h12]
      unfold colBase
      simp only
      rw [cI_set (by simp only [List.length_set, List.length_replicate]; omega) hy, cI_set (by simp only [List.length_set, List.length_replicate]; omega) hy, cI_set (by simp only [List.length_replicate]; omega) hy]
      have : cI (List.replicate n (-1 : Int)) y = -1 := by
        unfold cI
        rw [getD_lt _ (by simp; omega), List.getElem_replicate]
      rw [this]
    refine ⟨colF_len (by simp), fun x hx => ?_, fun x h0 h1 hx => ?_, fun k hk => ?_⟩
    · rw [hget x (hl.ge x hx) (hl.lt x hx)]
      obtain ⟨k, hk, rfl⟩ := mem_gI.1 hx
      have : k = 0 ∨ k = 1 ∨ k = 2 := by omega
      rcases this with rfl | rfl | rfl
      · rw [if_neg (by omega), if_neg (by omega), if_pos rfl]; omega
      · rw [if_neg (by omega), if_pos rfl]; omega
      · rw [if_pos rfl]; omega
    · rw [hget x h0 h1, if_neg (fun e => hx (by rw [e]; exact gI_mem (by omega))), if_neg (fun e => hx (by rw [e]; exact gI_mem (by omega))), if_neg (fun e => hx (by rw [e]; exact gI_mem (by omega)))]
    · have : k = 0 ∨ k = 1 ∨ k = 2 := by omega
      rw [h3]
      rcases this with rfl | rfl | rfl
      · show cI _ (gI l 0) ≠ cI _ (gI l 1)
        rw [hget _ a0.1 a0.2, hget _ a1.1 a1.2, if_neg (by omega), if_neg (by omega), if_pos rfl, if_neg (by omega), if_pos rfl]
        decide
      · show cI _ (gI l 1) ≠ cI _ (gI l 2)
        rw [hget _ a1.1 a1.2, hget _ a2.1 a2.2, if_neg (by omega), if_pos rfl, if_pos rfl]
        decide
      · show cI _ (gI l 2) ≠ cI _ (gI l 0)
        rw [hget _ a2.1 a2.2, hget _ a0.1 a0.2, if_pos rfl, if_neg (by omega), if_neg (by omega), if_pos rfl]
        decide
  | step h4 hi hr ih =>
    rw [colF_cons hr.ne]
    exact (Col.step hl h4 hi (ih (hl.erase h4 hi))).2
def colorsM (xs : List Pt) : List Int := colF xs.length (trisM xs)
theorem colors_len {xs : List Pt} (h : trisM xs ≠ []) : (colorsM xs).length = xs.length := colF_len h
theorem colors_bd {xs : List Pt} {x : Int} (hx : x ∈ colorsM xs) : 0 ≤ x ∧ x ≤ 2 := by
  rcases tris_cutd xs with e | ⟨hr, hd⟩
  · unfold colorsM at hx; rw [e] at hx; cases hx
  · have hL := left_all (room_len hr).1
    have hc := hd.col hL
    obtain ⟨k, hk, rfl⟩ := mem_gI.1 hx
    have hkn : k < xs.length := by rw [← colors_len hd.ne]; exact hk
    have hm : (k : Int) ∈ allC xs.length := by unfold allC; exact List.mem_map.2 ⟨k, List.mem_range.2 hkn, rfl⟩
    have := hc.yes _ hm
    simpa [cI, colorsM] using this
end Go.Proofs.Ytnepfcnlngpchaa
namespace Go.Proofs.Ytnepfcnlngpchaa.Geo
open Go.RowKit
def subP (xs : List Pt) (l : List Int) : Poly := ⟨l.length, fun j => (roomP xs).v (gI l (j % l.length)).toNat, fun j => by show (roomP xs).v (gI l ((j + l.length) % l.length)).toNat = _; rw [Nat.add_mod_right]⟩
theorem sub_v (xs : List Pt) {l : List Int} {j : Nat} (h : j < l.length) : (subP xs l).v j = (roomP xs).v (gI l j).toNat := by
  show (roomP xs).v (gI l (j % l.length)).toNat = _
  rw [Nat.mod_eq_of_lt h]
theorem gI_all {n k : Nat} (h : k < n) : gI (allC n) k = k := by
  unfold gI allC
  rw [getD_lt _ (by simpa using h)]; simp
theorem sub_all {xs : List Pt} (hn : 0 < xs.length) : subP xs (allC xs.length) = roomP xs := by
  refine Poly.ext' (allC_len _) fun j => ?_
  show (roomP xs).v (gI (allC xs.length) (j % (allC xs.length).length)).toNat = _
  rw [allC_len, gI_all (Nat.mod_lt _ hn), Int.toNat_natCast]
  exact (roomP xs).per_mod j
theorem sub_erase (xs : List Pt) {l : List Int} (h3 : 3 < l.length) {i : Nat} (hi : i < l.length) : (subP xs (l.eraseIdx i)).rot i = partB ((subP xs l).rot (i + l.length - 1)) 2 := by
  have hl := List.length_eraseIdx_of_lt hi
  refine Poly.ext' (by show (l.eraseIdx i).length = l.length - 2 + 1; omega) fun j => ?_
  show (roomP xs).v (gI (l.eraseIdx i) ((i + j) % (l.eraseIdx i).length)).toNat = (roomP xs).v (gI l ((i + l.length - 1 + (2 + j % (l.length - 2 + 1))) % l.length)).toNat
  have hm : j % (l.length - 1) < l.length - 1 := Nat.mod_lt _ (by omega)
  rw [hl, show l.length - 2 + 1 = l.length - 1 by omega, ← Nat.add_mod_mod]
  generalize j % (l.length - 1) = r at hm
  have e1 : (i + l.length - 1 + (2 + r)) % l.length = (i + 1 + r) % l.length := by
    rw [show i + l.length - 1 + (2 + r) = i + 1 + r + l.length by omega, Nat.add_mod_right]
  rw [e1]
  rcases Nat.lt_or_ge (i + 1 + r) l.length with g | g
  · rw [Nat.mod_eq_of_lt g, Nat.mod_eq_of_lt (show i + r < l.length - 1 by omega), gI_erase (by omega), if_neg (by omega), show i + r + 1 = i + 1 + r by omega]
  · rw [Nat.mod_eq_sub_mod g, Nat.mod_eq_of_lt (show i + 1 + r - l.length < l.length by omega), Nat.mod_eq_sub_mod (show l.length - 1 ≤ i + r by omega), Nat.mod_eq_of_lt (show i + r - (l.length - 1) < l.length - 1 by omega),
      gI_erase (by omega), if_pos (by omega), show i + r - (l.length - 1) = i + 1 + r - l.length by omega]
structure Sub (xs : List Pt) (l : List Int) : Prop where
  left : Left xs.length l
  sim : SimpleP (subP xs l)
  area : 0 < (subP xs l).area
  out : ∀ {K x}, 0 < K → Outp (roomP xs) K x → Outp (subP xs l) K x
  inn : ∀ {K x}, 0 < K → Inn (subP xs l) K x → Inn (roomP xs) K x
theorem Sub.all {xs : List Pt} (hr : roomOk xs = true) : Sub xs (allC xs.length) := by
  have e := sub_all (room_pos hr)
  exact ⟨left_all (room_len hr).1, by rw [e]; exact room_simple hr, by rw [e]; exact (room_area hr).2.1, fun _ h => by rw [e]; exact h, fun _ h => by rw [e] at h; exact h⟩
theorem Inn.rot {P : Poly} {K : Int} {x : Pt} (h : Inn P K x) (s : Nat) : Inn (P.rot s) K x := by
  obtain ⟨ho, g, hg, e⟩ := h
  refine ⟨fun k hk => ?_, g, hg, by rw [← e]; exact wnd_rot g (P.sc K) s x⟩
  have hn : 0 < P.n := by have hk : k < P.n := hk; omega
  have := ho ((s + k) % P.n) (Nat.mod_lt _ hn)
  rw [P.per_mod, P.per_add] at this
  exact this
theorem Inn.rot_iff {P : Poly} {K : Int} {x : Pt} (hn : 1 ≤ P.n) (s : Nat) : Inn (P.rot s) K x ↔ Inn P K x :=
  ⟨fun h => by have := h.rot (s * (P.n - 1)); rw [rot_back P s hn] at this; exact this, fun h => h.rot s⟩
abbrev EarL (xs : List Pt) (l : List Int) (i : Nat) : Prop := EarI (subP xs l) (i + l.length - 1)
theorem ear_pts (xs : List Pt) {l : List Int} (h3 : 3 ≤ l.length) {i : Nat} (hi : i < l.length) :
    (subP xs l).v (i + l.length - 1) = (roomP xs).v (gI l (prvN l.length i)).toNat ∧ (subP xs l).v (i + l.length - 1 + 1) = (roomP xs).v (gI l i).toNat ∧ (subP xs l).v (i + l.length - 1 + 2) = (roomP xs).v (gI l (nxtN l.length i)).toNat := by
  refine ⟨rfl, ?_, ?_⟩
  · show (roomP xs).v (gI l ((i + l.length - 1 + 1) % l.length)).toNat = _
    rw [show i + l.length - 1 + 1 = i + l.length by omega, Nat.add_mod_right, Nat.mod_eq_of_lt hi]
  · show (roomP xs).v (gI l ((i + l.length - 1 + 2) % l.length)).toNat = _
    rw [show i + l.length - 1 + 2 = i + 1 + l.length by omega, Nat.add_mod_right]; rfl
theorem Sub.some {xs : List Pt} {l : List Int} (h : Sub xs l) (h3 : 3 < l.length) : ∃ i, i < l.length ∧ EarL xs l i := by
  obtain ⟨s, d, -, -, e, -⟩ := two_ears l.length (subP xs l) rfl h3 h.sim h.area
  refine ⟨(s + 1) % l.length, Nat.mod_lt _ (by omega), ?_⟩
  have key : ∀ d, (subP xs l).v ((s + 1) % l.length + l.length - 1 + d) = (subP xs l).v (s + d) := fun d => by
    rw [show (s + 1) % l.length + l.length - 1 + d = (s + 1) % (subP xs l).n + (l.length - 1 + d) by show _ = (s + 1) % l.length + _; omega, (subP xs l).per_add, show s + 1 + (l.length - 1 + d) = s + d + l.length by omega]
    exact (subP xs l).per (s + d)
  show EarP _ _ _ _
  have k0 : (subP xs l).v ((s + 1) % l.length + l.length - 1) = (subP xs l).v s := key 0
  rw [k0, key 1, key 2]
  exact e
theorem room_v {xs : List Pt} {k : Int} (h0 : 0 ≤ k) (h : k < xs.length) : (roomP xs).v k.toNat = pI xs k := v_lt (by omega)
theorem turnI {xs : List Pt} (hr : roomOk xs = true) {a b c : Int} (ha : 0 ≤ a ∧ a < xs.length) (hb : 0 ≤ b ∧ b < xs.length) (hc : 0 ≤ c ∧ c < xs.length) : turn (pI xs a) (pI xs b) (pI xs c) = turnZ ((roomP xs).v a.toNat) ((roomP xs).v b.toNat) ((roomP xs).v c.toNat) := by
  rw [room_v ha.1 ha.2, room_v hb.1 hb.2, room_v hc.1 hc.2]
  exact turn_exact (bd_of_ok (corner_ok hr (by omega))) (bd_of_ok (corner_ok hr (by omega))) (bd_of_ok (corner_ok hr (by omega)))
theorem inTri_iff {a b c p : Pt} (ha : Bd a) (hb : Bd b) (hc : Bd c) (hp : Bd p) : inTri a b c p = true ↔ 0 ≤ turnZ a b p ∧ 0 ≤ turnZ b c p ∧ 0 ≤ turnZ c a p := by
  unfold inTri
  rw [turn_exact ha hb hp, turn_exact hb hc hp, turn_exact hc ha hp]
  simp only [Bool.and_eq_true, decide_eq_true_eq]
theorem left_bd {xs : List Pt} (hr : roomOk xs = true) {l : List Int} (hL : Left xs.length l) {k : Nat} (hk : k < l.length) : Bd (pI xs (gI l k)) := by
  have := hL.at hk
  exact bd_of_ok (corner_ok hr (by omega))
theorem Sub.ear_of {xs : List Pt} (hr : roomOk xs = true) {l : List Int} (h : Sub xs l) {i : Nat} (hi : i < l.length) (hc : cutM xs l i = true) : EarL xs l i := by
  have h3 := h.left.len
  obtain ⟨-, ht, hno⟩ := cutM_iff.1 hc
  have hp : prvN l.length i < l.length := prv_lt (by omega)
  have hn : nxtN l.length i < l.length := nxt_lt (by omega)
  obtain ⟨e0, e1, e2⟩ := ear_pts xs h3 hi
  show EarP _ _ _ _
  rw [e0, e1, e2]
  rw [turnI hr (h.left.at hp) (h.left.at hi) (h.left.at hn)] at ht
  refine ⟨ht, fun j n0 n1 n2 hb => ?_⟩
  have hj : j % l.length < l.length := Nat.mod_lt _ (by omega)
  have ej : (subP xs l).v j = (roomP xs).v (gI l (j % l.length)).toNat := rfl
  rw [ej] at n0 n1 n2 hb
  generalize j % l.length = r at hj n0 n1 n2 hb
  rcases hno r hj with g | g | g | g
  · exact n0 (by rw [g])
  · exact n1 (by rw [g])
  · exact n2 (by rw [g])
  · have rv : ∀ {k}, k < l.length → (roomP xs).v (gI l k).toNat = pI xs (gI l k) := fun hk => room_v (h.left.at hk).1 (h.left.at hk).2
    rw [rv hp, rv hi, rv hn, rv hj] at hb
    have := (inTri_iff (left_bd hr h.left hp) (left_bd hr h.left hi) (left_bd hr h.left hn) (left_bd hr h.left hj)).2 hb
    rw [g] at this
    cases this
theorem Sub.cut2 {xs : List Pt} {l : List Int} (h : Sub xs l) (h3 : 3 < l.length) {i : Nat} (he : EarL xs l i) : Cut ((subP xs l).rot (i + l.length - 1)) 2 :=
  ear_cut (h.sim.rot _) (by rw [area_rot]; exact h.area) h3 ((EarI.rot (show 0 < l.length by omega)).2 he)
theorem Sub.step {xs : List Pt} {l : List Int} (h : Sub xs l) (h3 : 3 < l.length) {i : Nat} (hi : i < l.length) (he : EarL xs l i) : Sub xs (l.eraseIdx i) := by
  have c := h.cut2 h3 he
  have hR := h.sim.rot (i + l.length - 1)
  have hl := List.length_eraseIdx_of_lt hi
  have e := sub_erase xs h3 hi
  have n1 : 1 ≤ (subP xs (l.eraseIdx i)).n := by show 1 ≤ (l.eraseIdx i).length; omega
  have nl : 1 ≤ (subP xs l).n := by show 1 ≤ l.length; omega
  have hb : (subP xs (l.eraseIdx i)) = (partB ((subP xs l).rot (i + l.length - 1)) 2).rot (i * ((subP xs (l.eraseIdx i)).n - 1)) := by rw [← e, rot_back _ _ n1]
  obtain ⟨c', e'⟩ := c.rot
  refine ⟨h.left.erase h3 hi, by rw [hb]; exact (c.simB hR).rot _, by rw [hb, area_rot]; exact c.b, fun hK o => ?_, fun hK o => h.inn hK ?_⟩
  · rw [← Outp.rot_iff n1 i, e]
    exact (c.out_both hR hK ((h.out hK o).rot _)).2
  · rw [← Inn.rot_iff n1 i, e] at o
    have := c'.inn_of (hR.rot 2) hK o
    rwa [Inn.rot_iff (P := (subP xs l).rot (i + l.length - 1)) nl, Inn.rot_iff nl] at this
theorem Sub.chord_inn {xs : List Pt} {l : List Int} (h : Sub xs l) (h3 : 3 < l.length) {i : Nat} (hi : i < l.length) (he : EarL xs l i) {s t K : Int} (hs : 0 < s) (ht : 0 < t) (e : s + t = K) :
    Inn (roomP xs) K (padd (smul s ((roomP xs).v (gI l (prvN l.length i)).toNat)) (smul t ((roomP xs).v (gI l (nxtN l.length i)).toNat))) := by
  have c := h.cut2 h3 he
  have := c.inn (h.sim.rot _) hs ht e
  rw [Inn.rot_iff (show 1 ≤ l.length by omega)] at this
  have := h.inn (by omega) this
  obtain ⟨e0, e1, e2⟩ := ear_pts xs (by omega) hi
  rw [← e0, ← e2]
  exact this
theorem mid_inn {xs : List Pt} (hr : roomOk xs = true) {p q : Pt} (hp : -40 ≤ p.1 ∧ p.1 ≤ 40 ∧ -40 ≤ p.2 ∧ p.2 ≤ 40) (hq : -40 ≤ q.1 ∧ q.1 ≤ 40 ∧ -40 ≤ q.2 ∧ q.2 ≤ 40) : midM xs p q = 2 ↔ Inn (roomP xs) 2 (padd p q) := by
  have h := pt_of_room hr
  have hn := room_pos hr
  have hmo := mid_out hr hp hq
  have e : sumP p q = padd p q := by
    unfold sumP padd
    rw [W_in (by omega) (by omega), W_in (by omega) (by omega)]
  have hs : Bd (padd p q) := by
    unfold Bd padd
    simp only
    omega
  have hy : (xs.map twP).length = xs.length := by simp
  have hv : ∀ k, pCy (xs.map twP) k = smul 2 (pCy xs k) := fun k => by
    have hk : k % xs.length < xs.length := Nat.mod_lt _ hn
    show (xs.map twP).getD (k % (xs.map twP).length) (0, 0) = smul 2 (xs.getD (k % xs.length) (0, 0))
    rw [List.length_map, getD_lt _ (by rw [List.length_map]; exact hk), getD_lt _ hk, List.getElem_map]
    exact twP_eq (h _ (List.getElem_mem hk))
  have hb : ∀ q ∈ xs.map twP, Bd q := fun c' hc' => by
    obtain ⟨c, hc, rfl⟩ := List.mem_map.1 hc'
    have := h c hc
    rw [twP_eq this]
    unfold Bd smul
    simp only
    omega
  have hP := room_simple hr
  have ne : ∀ k, k < xs.length → smul 2 ((roomP xs).v k) ≠ smul 2 ((roomP xs).v (k + 1)) := fun k hk e => by
    apply hP.ne k
    have e1 := congrArg Prod.fst e
    have e2 := congrArg Prod.snd e
    exact Prod.ext (Int.eq_of_mul_eq_mul_left (by omega) e1) (Int.eq_of_mul_eq_mul_left (by omega) e2)
  have wa : ∀ k, k < xs.length → pAt (xs.map twP) k = smul 2 ((roomP xs).v k) ∧ pCy (xs.map twP) (k + 1) = smul 2 ((roomP xs).v (k + 1)) := fun k hk => ⟨(pCy_lt (by omega)).symm.trans (hv k), hv (k + 1)⟩
  have onoff : ∀ k, k < xs.length → (onAt (xs.map twP) (padd p q) k = false ↔ Off (padd p q) (smul 2 ((roomP xs).v k)) (smul 2 ((roomP xs).v (k + 1)))) := fun k hk => by
    have b1 : Bd (pAt (xs.map twP) k) := pAt_bd hb (by omega)
    have b2 : Bd (pCy (xs.map twP) (k + 1)) := pCy_bd hb (by omega)
    show onS (padd p q) (pAt (xs.map twP) k) (pCy (xs.map twP) (k + 1)) = false ↔ _
    constructor
    · intro h0
      rcases off_or_on (padd p q) (ne k hk) with g | g
      · exact g
      · rw [← (wa k hk).1, ← (wa k hk).2] at g
        rw [g.onS b1 b2 hs] at h0
        exact absurd h0 (by decide)
    · intro g
      cases h0 : onS (padd p q) (pAt (xs.map twP) k) (pCy (xs.map twP) (k + 1)) with
      | false => rfl
      | true =>
        exfalso
        have := onS_OnM b1 b2 hs h0
        rw [(wa k hk).1, (wa k hk).2] at this
        exact this.not_off g
  have two : midM xs p q = 2 ↔ midM xs p q ≠ 0 ∧ onAny (xs.map twP) (padd p q) = false := by
    unfold midM
    rw [e]
    unfold placeM
    split
    · rename_i g; rw [g]; simp
    · rename_i g; split <;> simp [Bool.eq_false_iff.2 g]
  rw [two, ne_eq, hmo]
  have hoff : onAny (xs.map twP) (padd p q) = false ↔ OffP (roomP xs) 2 (padd p q) := by
    constructor
    · intro g k hk
      have hk : k < xs.length := hk
      exact (onoff k hk).1 (onAny_off g (by omega))
    · intro g
      exact onAny_no fun k hk => (onoff k (by omega)).2 (g k (by show k < xs.length; omega))
  rw [hoff]
  constructor
  · rintro ⟨g1, g2⟩
    exact (out_or_in hP (room_area hr).2.1 (by decide) g2).resolve_left g1
  · intro g
    exact ⟨g.not_out, g.1⟩
theorem diag_of_inn {xs : List Pt} (hr : roomOk xs = true) {i k : Nat} (hi : i < xs.length) (hk : k < xs.length) (hik : i ≠ k) (hin : ∀ s t K : Int, 0 < s → 0 < t → s + t = K → Inn (roomP xs) K (padd (smul s ((roomP xs).v i)) (smul t ((roomP xs).v k)))) : diagC xs i k = true := by
  have vi : (roomP xs).v i = pAt xs i := v_lt hi
  have vk : (roomP xs).v k = pAt xs k := v_lt hk
  rw [diagC_iff]
  refine ⟨?_, ?_, ?_⟩
  · rw [seesS_noout hr (corner_ok hr hi) (corner_ok hr hk) (corner_in hr hi) (corner_in hr hk)]
    intro s t hs ht hst o
    rcases (show s = 0 ∨ t = 0 ∨ (0 < s ∧ 0 < t) by omega) with g | g | ⟨g1, g2⟩
    · subst g
      have e : padd (smul 0 (pAt xs i)) (smul t (pAt xs k)) = smul t ((roomP xs).v k) := by rw [vk]; unfold padd smul; simp
      rw [e] at o
      refine corner_not_out (roomP xs) k (by show 0 < xs.length; omega) (Outp.desc (L := t) (by omega) ?_)
      rw [Int.mul_one]; rwa [Int.zero_add] at o
    · subst g
      have e : padd (smul s (pAt xs i)) (smul 0 (pAt xs k)) = smul s ((roomP xs).v i) := by rw [vi]; unfold padd smul; simp
      rw [e] at o
      refine corner_not_out (roomP xs) i (by show 0 < xs.length; omega) (Outp.desc (L := s) (by omega) ?_)
      rw [Int.mul_one]; rwa [Int.add_zero] at o
    · have := hin s t (s + t) g1 g2 rfl
      rw [vi, vk] at this
      exact this.not_out o
  · rw [freeTo_iff]
    intro j hj
    by_cases e1 : j = i
    · exact .inl e1
    by_cases e2 : j = k
    · exact .inr (.inl e2)
    refine .inr (.inr ?_)
    cases h0 : onS (pAt xs j) (pAt xs i) (pAt xs k) with
    | false => rfl
    | true =>
      exfalso
      obtain ⟨s, t, hs, ht, h0, x1, x2⟩ := (onS_OnM (bd_of_ok (corner_ok hr hi)) (bd_of_ok (corner_ok hr hk)) (bd_of_ok (corner_ok hr hj)) h0).coords
      have hne : ∀ {a}, a < xs.length → j ≠ a → pAt xs j ≠ pAt xs a := fun ha hja e => hja (room_inj hr hj ha e)
      rcases (show s = 0 ∨ t = 0 ∨ (0 < s ∧ 0 < t) by omega) with g | g | ⟨g1, g2⟩
      · subst g
        refine hne hk e2 (Prod.ext (Int.eq_of_mul_eq_mul_left (show t ≠ 0 by omega) (by simpa using x1)) (Int.eq_of_mul_eq_mul_left (show t ≠ 0 by omega) (by simpa using x2)))
      · subst g
        refine hne hi e1 (Prod.ext (Int.eq_of_mul_eq_mul_left (show s ≠ 0 by omega) (by simpa using x1)) (Int.eq_of_mul_eq_mul_left (show s ≠ 0 by omega) (by simpa using x2)))
      · have := hin s t (s + t) g1 g2 rfl
        rw [vi, vk, show padd (smul s (pAt xs i)) (smul t (pAt xs k)) = smul (s + t) ((roomP xs).v j) by rw [v_lt hj]; exact Prod.ext x1.symm x2.symm] at this
        have := this.1 j hj
        exact (Off.ne this).1 rfl
  · rw [mid_inn hr (ptOk_iff.1 (corner_ok hr hi)) (ptOk_iff.1 (corner_ok hr hk))]
    have := hin 1 1 2 (by decide) (by decide) rfl
    rwa [vi, vk, smul_one, smul_one] at this
theorem Sub.cut_of {xs : List Pt} (hr : roomOk xs = true) {l : List Int} (h : Sub xs l) (h3 : 3 < l.length) {i : Nat} (hi : i < l.length) (he : EarL xs l i) : cutM xs l i = true := by
  have hp : prvN l.length i < l.length := prv_lt (by omega)
  have hn : nxtN l.length i < l.length := nxt_lt (by omega)
  obtain ⟨q1, q2, q3⟩ := prv_ne (by omega) hi
  obtain ⟨e0, e1, e2⟩ := ear_pts xs (by omega) hi
  have ap := h.left.at hp
  have an := h.left.at hn
  have hne : gI l (prvN l.length i) ≠ gI l (nxtN l.length i) := fun e => q3 (h.left.inj hp hn e)
  have heP : EarP (subP xs l) _ _ _ := he
  rw [e0, e1, e2] at heP
  rw [cutM_iff]
  refine ⟨?_, by rw [turnI hr ap (h.left.at hi) an]; exact heP.1, fun j hj => ?_⟩
  · cases hnb : neighZ xs.length (gI l (prvN l.length i)) (gI l (nxtN l.length i)) with
    | true => exact .inr rfl
    | false =>
      left
      rw [diagM_iff]
      refine ⟨btw_iff.2 (by omega), btw_iff.2 (by omega), hne, hnb, diag_of_inn hr (by omega) (by omega) (by omega) fun s t K hs ht e => h.chord_inn h3 hi he hs ht e⟩
  · by_cases g0 : gI l j = gI l (prvN l.length i)
    · exact .inl g0
    by_cases g1 : gI l j = gI l i
    · exact .inr (.inl g1)
    by_cases g2 : gI l j = gI l (nxtN l.length i)
    · exact .inr (.inr (.inl g2))
    refine .inr (.inr (.inr ?_))
    have rv : ∀ {k}, k < l.length → (roomP xs).v (gI l k).toNat = pI xs (gI l k) := fun hk => room_v (h.left.at hk).1 (h.left.at hk).2
    have dif : ∀ {k}, k < l.length → gI l j ≠ gI l k → (subP xs l).v j ≠ (roomP xs).v (gI l k).toNat := fun {k} hk hjk e => by
      rw [sub_v xs hj, rv hj, rv hk] at e
      have a1 := h.left.at hj
      have a2 := h.left.at hk
      have := room_inj hr (by omega) (by omega) e
      omega
    have := heP.2 j (dif hp g0) (dif hi g1) (dif hn g2)
    rw [sub_v xs hj, rv hp, rv hi, rv hn, rv hj] at this
    exact Bool.eq_false_iff.2 fun hb => this ((inTri_iff (left_bd hr h.left hp) (left_bd hr h.left hi) (left_bd hr h.left hn) (left_bd hr h.left hj)).1 hb)
theorem Sub.first {xs : List Pt} (hr : roomOk xs = true) {l : List Int} (h : Sub xs l) (h3 : 3 < l.length) : ∃ i, firstCut xs l = Option.some i ∧ i < l.length ∧ EarL xs l i := by
  obtain ⟨i, hi, he⟩ := h.some h3
  cases hf : firstCut xs l with
  | some j =>
    have := firstCut_spec hf
    exact ⟨j, rfl, this.1, h.ear_of hr this.1 this.2⟩
  | none =>
    exfalso
    unfold firstCut at hf
    rw [List.find?_eq_none] at hf
    exact hf i (List.mem_range.2 hi) (h.cut_of hr h3 hi he)
abbrev tv (xs : List Pt) (k : Int) : Pt := (roomP xs).v k.toNat
def areaT (xs : List Pt) (t : Tri) : Int := turnZ (tv xs t.1) (tv xs t.2.1) (tv xs t.2.2)
def InC (a b c p : Pt) : Prop := 0 ≤ turnZ a b p ∧ 0 ≤ turnZ b c p ∧ 0 ≤ turnZ c a p
theorem InC.cyc {a b c p : Pt} (h : InC a b c p) : InC b c a p := ⟨h.2.1, h.2.2, h.1⟩
abbrev InT3 (xs : List Pt) (t : Tri) (p : Pt) : Prop := InC (tv xs t.1) (tv xs t.2.1) (tv xs t.2.2) p
theorem triAt_cyc {n : Nat} {l : List Int} (hL : Left n l) {i : Nat} (hi : i < l.length) :
    triAt l i = (gI l (prvN l.length i), gI l i, gI l (nxtN l.length i)) ∨ triAt l i = (gI l i, gI l (nxtN l.length i), gI l (prvN l.length i)) ∨ triAt l i = (gI l (nxtN l.length i), gI l (prvN l.length i), gI l i) := by
  have h3 := hL.len
  unfold triAt
  rcases prv_eq hi with ⟨h1, h2⟩ | ⟨h1, h2⟩ <;> rcases nxt_eq hi with ⟨h4, h5⟩ | ⟨h4, h5⟩
  · omega
  · right; left
    have m1 := hL.mono (i := i) (j := nxtN l.length i) (by omega) (by omega)
    have m2 := hL.mono (i := nxtN l.length i) (j := prvN l.length i) (by omega) (by omega)
    unfold triS
    simp only [Prod.mk.injEq]
    omega
  · right; right
    have m1 := hL.mono (i := nxtN l.length i) (j := prvN l.length i) (by omega) (by omega)
    have m2 := hL.mono (i := prvN l.length i) (j := i) (by omega) (by omega)
    unfold triS
    simp only [Prod.mk.injEq]
    omega
  · left
    have m1 := hL.mono (i := prvN l.length i) (j := i) (by omega) (by omega)
    have m2 := hL.mono (i := i) (j := nxtN l.length i) (by omega) (by omega)
    unfold triS
    simp only [Prod.mk.injEq]
    omega
structure Tri3 (xs : List Pt) (a b c : Pt) : Prop where
  pos : 0 < turnZ a b c
  see : ∀ p, InC a b c p → NoOut (roomP xs) a p ∧ NoOut (roomP xs) b p ∧ NoOut (roomP xs) c p
theorem Tri3.cyc {xs : List Pt} {a b c : Pt} (h : Tri3 xs a b c) : Tri3 xs b c a :=
  ⟨by rw [turn_cyc]; exact h.pos, fun p hp => by
    obtain ⟨h1, h2, h3⟩ := h.see p hp.cyc.cyc
    exact ⟨h2, h3, h1⟩⟩
theorem NoOut.swap {P : Poly} {a b : Pt} (h : NoOut P a b) : NoOut P b a := fun s t hs ht hst o => by
  refine h t s ht hs (by omega) ?_
  rw [show padd (smul t a) (smul s b) = padd (smul s b) (smul t a) by unfold padd; exact Prod.ext (Int.add_comm _ _) (Int.add_comm _ _), Int.add_comm]
  exact o
theorem tri3_of {xs : List Pt} {Q : Poly} (hQ : SimpleP Q) (hn : Q.n = 3) (ha : 0 < Q.area) (out : ∀ {K x}, 0 < K → Outp (roomP xs) K x → Outp Q K x) : Tri3 xs (Q.v 0) (Q.v 1) (Q.v 2) := by
  have ht : 0 < turnZ (Q.v 0) (Q.v 1) (Q.v 2) := by rwa [tri_area' hn] at ha
  have c3 : ∀ j, Q.v (j + 3) = Q.v j := fun j => by rw [← hn, Q.per]
  refine ⟨ht, fun p ⟨h0, h1, h2⟩ => ?_⟩
  have st : ∀ k, NoOut (roomP xs) (Q.v k) p := fun k => NoOut.swap fun s t hs ht' hst o => by
    refine star hQ (fun j => by rw [tri_turns hn]; omega) ha (p := p) (fun k hk => ?_) (corner_not_out Q k (by omega)) s t hs ht' hst (out hst o)
    rcases (show k = 0 ∨ k = 1 ∨ k = 2 by omega) with q | q | q <;> subst q
    · exact h0
    · exact h1
    · rw [c3 0]; exact h2
  exact ⟨st 0, st 1, st 2⟩
theorem inC_of {Q : Poly} (hn : Q.n = 3) (ha : 0 < Q.area) {p : Pt} (h : ¬ Outp Q 1 p) : InC (Q.v 0) (Q.v 1) (Q.v 2) p := by
  have ht : 0 < turnZ (Q.v 0) (Q.v 1) (Q.v 2) := by rwa [tri_area' hn] at ha
  have c3 : ∀ j, Q.v (j + 3) = Q.v j := fun j => by rw [← hn, Q.per]
  have g : ∀ k, k < 3 → 0 ≤ turnZ (Q.v k) (Q.v (k + 1)) p := fun k hk => tri_in hn h k (by omega) (by rw [tri_turns hn]; omega)
  refine ⟨g 0 (by decide), g 1 (by decide), ?_⟩
  have := g 2 (by decide)
  rwa [c3 0] at this
structure TriGood (xs : List Pt) (l : List Int) (ts : List Tri) : Prop where
  cut : Cutd l ts
  len : ts.length + 2 = l.length
  sum : (ts.map (areaT xs)).sum = (subP xs l).area
  tri : ∀ t ∈ ts, Tri3 xs (tv xs t.1) (tv xs t.2.1) (tv xs t.2.2)
  all : ∀ p, ¬ Outp (subP xs l) 1 p → ∃ t ∈ ts, InT3 xs t p
theorem sub3 {xs : List Pt} {l : List Int} (h : l.length = 3) : (subP xs l).v 0 = tv xs (gI l 0) ∧ (subP xs l).v 1 = tv xs (gI l 1) ∧ (subP xs l).v 2 = tv xs (gI l 2) :=
  ⟨sub_v xs (by omega), sub_v xs (by omega), sub_v xs (by omega)⟩
theorem Sub.good {xs : List Pt} (hr : roomOk xs = true) : ∀ (f : Nat) (l : List Int) (out : List Tri), l.length = f + 3 → Sub xs l → ∃ ts, triRun xs f l out = out ++ ts ∧ TriGood xs l ts
  | 0, l, out, hl, h => by
    have hl : l.length = 3 := by omega
    have h01 := h.left.mono (i := 0) (j := 1) (by omega) (by omega)
    have h12 := h.left.mono (i := 1) (j := 2) (by omega) (by omega)
    obtain ⟨e0, e1, e2⟩ := sub3 (xs := xs) hl
    have es := triS_sorted h01 h12
    have hn : (subP xs l).n = 3 := hl
    refine ⟨_, rfl, .last hl, by simp [hl], ?_, fun t ht => ?_, fun p hp => ⟨_, List.mem_singleton.2 rfl, ?_⟩⟩
    · rw [tri_area' hn, e0, e1, e2, List.map_cons, List.map_nil, List.sum_cons, List.sum_nil, Int.add_zero, areaT, es]
    · rw [List.mem_singleton.1 ht, es]
      have := tri3_of h.sim hn h.area h.out
      rw [e0, e1, e2] at this
      exact this
    · rw [es]
      have := inC_of hn h.area hp
      rw [e0, e1, e2] at this
      exact this
  | f + 1, l, out, hl, h => by
    have h3 : 3 < l.length := by omega
    obtain ⟨i, hf, hi, he⟩ := h.first hr h3
    have hle := List.length_eraseIdx_of_lt hi
    have hS := h.step h3 hi he
    obtain ⟨ts, er, G⟩ := Sub.good hr f (l.eraseIdx i) (out ++ [triAt l i]) (by omega) hS
    have c := h.cut2 h3 he
    have hR := h.sim.rot (i + l.length - 1)
    have ep := sub_erase xs h3 hi
    obtain ⟨e0, e1, e2⟩ := ear_pts xs (by omega) hi
    have a0 : (((subP xs l).rot (i + l.length - 1)).arc 2).v 0 = tv xs (gI l (prvN l.length i)) := by rw [arc_v _ (by omega)]; exact e0
    have a1 : (((subP xs l).rot (i + l.length - 1)).arc 2).v 1 = tv xs (gI l i) := by rw [arc_v _ (by omega)]; exact e1
    have a2 : (((subP xs l).rot (i + l.length - 1)).arc 2).v 2 = tv xs (gI l (nxtN l.length i)) := by rw [arc_v _ (by omega)]; exact e2
    have T := tri3_of (xs := xs) (c.simA hR) rfl c.a fun hK o => (c.out_both hR hK ((h.out hK o).rot _)).1
    rw [a0, a1, a2] at T
    have nl : 1 ≤ (subP xs l).n := by show 1 ≤ l.length; omega
    have ne : 1 ≤ (subP xs (l.eraseIdx i)).n := by show 1 ≤ (l.eraseIdx i).length; omega
    have hcyc := triAt_cyc h.left hi
    refine ⟨triAt l i :: ts, ?_, .step h3 hi G.cut, ?_, ?_, fun t ht => ?_, fun p hp => ?_⟩
    · unfold triRun
      rw [hf]
      show triRun xs f (l.eraseIdx i) (out ++ [triAt l i]) = _
      rw [er]; simp
    · have := G.len
      simp only [List.length_cons]; omega
    · rw [List.map_cons, List.sum_cons, G.sum]
      have q := area_cut ((subP xs l).rot (i + l.length - 1)) (m := 2) (by show 2 ≤ l.length; omega)
      have q2 : (((subP xs l).rot (i + l.length - 1)).rot 2).arc (((subP xs l).rot (i + l.length - 1)).n - 2) = (subP xs (l.eraseIdx i)).rot i := ep.symm
      rw [q2, area_rot, area_rot, tri_area' (show (((subP xs l).rot (i + l.length - 1)).arc 2).n = 3 from rfl), a0, a1, a2] at q
      rw [q]
      congr 1
      unfold areaT
      rcases hcyc with e | e | e <;> rw [e]
      · exact turn_cyc _ _ _
      · exact (turn_cyc _ _ _).symm
    · rcases List.mem_cons.1 ht with rfl | ht
      · rcases hcyc with e | e | e <;> rw [e]
        · exact T
        · exact T.cyc
        · exact T.cyc.cyc
      · exact G.tri t ht
    · by_cases hB : Outp (subP xs (l.eraseIdx i)) 1 p
      · have hA : ¬ Outp (((subP xs l).rot (i + l.length - 1)).arc 2) 1 p := fun hA => by
          have hB := hB.rot i
          rw [ep] at hB
          have := c.out hA hB
          rw [Outp.rot_iff nl] at this
          exact hp this
        have hI := inC_of rfl c.a hA
        rw [a0, a1, a2] at hI
        refine ⟨triAt l i, List.mem_cons_self, ?_⟩
        show InC _ _ _ _
        rcases hcyc with e | e | e <;> rw [e]
        · exact hI
        · exact hI.cyc
        · exact hI.cyc.cyc
      · obtain ⟨t, ht, h'⟩ := G.all p hB
        exact ⟨t, List.mem_cons_of_mem _ ht, h'⟩
theorem tris_good {xs : List Pt} (hr : roomOk xs = true) : TriGood xs (allC xs.length) (trisM xs) := by
  have h3 := (room_len hr).1
  obtain ⟨ts, e, G⟩ := Sub.good hr (xs.length - 3) (allC xs.length) [] (by rw [allC_len]; omega) (Sub.all hr)
  unfold trisM
  rw [if_pos hr, e, List.nil_append]
  exact G
theorem tris_count {xs : List Pt} (hr : roomOk xs = true) : (trisM xs).length + 2 = xs.length := by
  have := (tris_good hr).len
  rwa [allC_len] at this
theorem tris_ne {xs : List Pt} (hr : roomOk xs = true) : trisM xs ≠ [] := fun e => by
  have := tris_count hr
  have := (room_len hr).1
  rw [e] at *
  simp at *
  omega
theorem tris_all {xs : List Pt} {p : Pt} (hp : p ∈ floorPts xs) : ∃ t ∈ trisM xs, InT3 xs t p := by
  obtain ⟨hr, hpt, hi⟩ := mem_floor.1 hp
  refine (tris_good hr).all p ?_
  rw [sub_all (room_pos hr)]
  exact fun o => hi ((out_iff hr (bd_of_ok hpt)).2 o)
end Go.Proofs.Ytnepfcnlngpchaa.Geo
namespace Go.Proofs.Ytnepfcnlngpchaa
open Go.RowKit Go.Proofs.Ytnepfcnlngpchaa.Nm
set_option maxRecDepth 10000
set_option maxHeartbeats 2000000
theorem floor_pt {xs : List Pt} {k : Nat} (hk : k < (floorPts xs).length) : ptOk (pAt (floorPts xs) k) = true := (floor_mem (pAt_mem hk)).2.1
def seesAny (xs gs : List Pt) (p : Pt) : Bool := gs.any fun g => seesS xs g p
theorem any_succ {α : Type} {f : α → Bool} {xs : List α} {k : Nat} (d : α) (h : k < xs.length) : (xs.take (k + 1)).any f = ((xs.take k).any f || f (xs.getD k d)) := by
  rw [List.take_succ_eq_append_getElem h, List.any_append, getD_lt _ h]; simp
theorem any_yes {α : Type} {f : α → Bool} {xs : List α} {k : Nat} (d : α) (h : k < xs.length) (hf : f (xs.getD k d) = true) : xs.any f = true := List.any_eq_true.2 ⟨_, by rw [getD_lt _ h]; exact List.getElem_mem h, hf⟩
def seenBySomeC : Con := mkCon [.room, .sl (.b .pt), .pt] (fun x => allInM x.1 x.2.1 = true ∧ x.2.1.length ≤ 1048576 ∧ ptOk x.2.2.1 = true) fun x => vB (seesAny x.1 x.2.1 x.2.2.1)
theorem seenBySome_ok : Good1 Try.prog n_impl_seenBySome seenBySomeC := by
  refine good_ofG (tys := tyL) (env := [(n_impl_sees, sees2C)]) (envw := []) (envd := []) [] [] [] [] [] mixed tys ⟨sees2_ok, trivial⟩ trivial trivial Try.func94 rfl (by kernel_rfl) (by decide) (by kernel_rfl) ?_
  have hG_ := kpz [(0, [1, 3, 5]), (1, [3, 5, 9, 10, 11]), (2, [3, 5, 9, 10, 11, 12]), (3, [3, 5, 8, 9, 10, 11]), (4, [3, 5, 9, 10, 11, 18]), (5, [6]), (6, [3, 5, 9, 10, 11]), (7, [6])] [(3, [8])] [] []
  rintro ⟨(xs : List Pt), (gs : List Pt), ⟨(p : Int), (q : Int)⟩, ⟨⟩⟩ ⟨(hin : allInM xs gs = true), (h1 : gs.length ≤ _), (hp : ptOk (p, q) = true)⟩
  have hr := (allIn_iff.1 hin).1
  (repeat' (first | (with_reducible first | exact True.intro | refine zQ ?_ | (refine zG hG_ ?_; intro K_ hK_) | (refine zR ?_; intro K_ hK_) | (refine hK_ _ _ ?_; try clear hK_ K_) | refine sq_n ?_ | refine sq_r ?_ | refine sq_e ?_ | refine bq_n ?_ | refine bq_r ?_ | refine bq_q ?_ | refine zB ?_ | refine zX ?_ | refine zT ?_ | refine zK ?_ | refine gq_n ?_ | refine gq_r ?_ | refine gq_e ?_ | refine lq_n ?_ | refine lq_r ?_ | refine lq_e ?_ | refine bq_e (by decide) ?_) | ((with_reducible refine zC (b := ?b_) ?hb_ ?_ ?_); case hb_ => rfl) | ((conv => whnf); first | (with_reducible refine hK_ _ _ ?_; try clear hK_ K_) | (with_reducible refine fun (g_ : Sl) (o_ : Ow) => ?_) | (with_reducible first | exact True.intro | refine And.intro trivial ?_ | refine And.intro ?_ ?_) | exact Nat.le_of_ble_eq_true rfl | exact Or.inl rfl | (intro h_; cases h_) | (intro h_; (try simp only [vS1] at h_)) | rfl))) <;> (try (conv => whnf)) <;> (try first | change (_ : Int) ≤ _ | change (_ : Nat) ≤ _) <;> (try ((fail_if_success (with_reducible apply Exists.intro)); (try dsimp only); (try simp only [vS1]))) <;> (try simp (disch := omega) only [vS3, Int.add_sub_cancel, tn1, tnp, tnc, vS2] at *)
  all_goals (try (fail_if_success (with_reducible apply Exists.intro)); first | with_reducible assumption | omega | exact mdl (by omega) | exact ilo1 (by omega) | exact ilo2 (by omega) | exact ihi1 (by omega) (by omega) | exact ihi2 (by omega) (by omega))
  refine awp'_loopG (α := Nat) (fun k ver_ => [(11, vInt k)]) (fun k ver_ => []) (fun k ver_ => []) (fun k => k ≤ gs.length ∧ (gs.take k).any (fun g => seesS xs g (p, q)) = false) (fun k => gs.length - k) [3, 5, 9, 10] [] (0) ?_
  conv => whnf
  refine ⟨⟨?inv1_, ?vals1_, ?own1_, ?fix1_⟩, ?body1_⟩
  case' vals1_ => (repeat' (first | (with_reducible first | exact True.intro | refine And.intro ?_ ?_ | refine Head.mk ?_ ?_ ?_ ?_) | ((conv => lhs; whnf); first | (with_reducible first | rfl | exact vInt_s (by omega)) | exact rfl) | ((conv => whnf); first | (with_reducible first | exact True.intro | refine And.intro ?_ ?_)))) <;> (try (conv => lhs; whnf))
  case' own1_ => (repeat' (first | (with_reducible first | exact True.intro | refine And.intro ?_ ?_ | refine Head.mk ?_ ?_ ?_ ?_) | ((conv => lhs; whnf); first | (with_reducible first | rfl | exact vInt_s (by omega)) | exact rfl) | ((conv => whnf); first | (with_reducible first | exact True.intro | refine And.intro ?_ ?_)))) <;> (try (conv => lhs; whnf))
  case' fix1_ => (repeat' (first | (with_reducible first | exact True.intro | refine And.intro ?_ ?_ | refine Head.mk ?_ ?_ ?_ ?_) | ((conv => lhs; whnf); first | (with_reducible first | rfl | exact vInt_s (by omega)) | exact rfl) | ((conv => whnf); first | (with_reducible first | exact True.intro | refine And.intro ?_ ?_)))) <;> (try (conv => lhs; whnf))
  · exact ⟨Nat.zero_le _, rfl⟩
  rintro k g_ o_ v_ ⟨hk, hall⟩
  (repeat' (first | (with_reducible first | exact True.intro | refine zQ ?_ | (refine zG hG_ ?_; intro K_ hK_) | (refine zR ?_; intro K_ hK_) | (refine hK_ _ _ ?_; try clear hK_ K_) | refine sq_n ?_ | refine sq_r ?_ | refine sq_e ?_ | refine bq_n ?_ | refine bq_r ?_ | refine bq_q ?_ | refine zB ?_ | refine zX ?_ | refine zT ?_ | refine zK ?_ | refine gq_n ?_ | refine gq_r ?_ | refine gq_e ?_ | refine lq_n ?_ | refine lq_r ?_ | refine lq_e ?_ | refine bq_e (by decide) ?_) | ((with_reducible refine zC (b := ?b_) ?hb_ ?_ ?_); case hb_ => rfl) | ((conv => whnf); first | (with_reducible refine hK_ _ _ ?_; try clear hK_ K_) | (with_reducible refine fun (g_ : Sl) (o_ : Ow) => ?_) | (with_reducible first | exact True.intro | refine And.intro trivial ?_ | refine And.intro ?_ ?_) | exact Nat.le_of_ble_eq_true rfl | exact Or.inl rfl | (intro h_; cases h_) | (intro h_; (try simp only [vS1] at h_)) | rfl))) <;> (try (conv => whnf)) <;> (try first | change (_ : Int) ≤ _ | change (_ : Nat) ≤ _) <;> (try ((fail_if_success (with_reducible apply Exists.intro)); (try dsimp only); (try simp only [vS1]))) <;> (try simp (disch := omega) only [vS3, Int.add_sub_cancel, tn1, tnp, tnc, vS2] at *)
  all_goals (try (fail_if_success (with_reducible apply Exists.intro)); first | with_reducible assumption | omega | exact mdl (by omega) | exact ilo1 (by omega) | exact ilo2 (by omega) | exact ihi1 (by omega) (by omega) | exact ihi2 (by omega) (by omega))
  · exact allIn_pt hin (by omega)
  · exact eq_true_of (any_yes (0, 0) (by omega) (by assumption))
  · exact ⟨k + 1, by omega, ⟨by omega, by rw [any_succ (0, 0) (by omega), hall, Bool.false_or]; assumption⟩, by (repeat' (first | (with_reducible first | exact True.intro | refine And.intro ?_ ?_ | refine Head.mk ?_ ?_ ?_ ?_) | ((conv => lhs; whnf); first | (with_reducible first | rfl | exact vInt_s (by omega)) | exact rfl) | ((conv => whnf); first | (with_reducible first | exact True.intro | refine And.intro ?_ ?_)))) <;> (try (conv => lhs; whnf))⟩
  · rw [List.take_of_length_le (by omega)] at hall
    exact hall.symm
def seesAllM (xs gs : List Pt) : Bool := allInM xs gs && (floorPts xs).all (seesAny xs gs)
def seesAllC : Con := mkCon [.room, .sl (.b .pt)] (fun x => x.1.length ≤ 1048576 ∧ x.2.1.length ≤ 1048576) fun x => vB (seesAllM x.1 x.2.1)
theorem iSeesAll_ok : Good1 Try.prog n_impl_SeesAll seesAllC := by
  refine good_ofG (tys := tyL) (env := [(n_impl_allIn, allInC), (n_impl_floor, floorC), (n_impl_seenBySome, seenBySomeC)]) (envw := []) (envd := []) [] [] [] [] [] mixed tys ⟨allIn_ok, floor_ok, seenBySome_ok, trivial⟩ trivial trivial Try.func38 rfl (by kernel_rfl) (by decide) (by kernel_rfl) ?_
  have hG_ := kpz [(0, [1, 2]), (1, [1, 2, 10]), (2, [4]), (3, [1, 2, 12, 13, 14]), (4, [1, 2, 12, 13, 14, 15]), (5, [1, 2, 6, 12, 13, 14]), (6, [1, 2, 12, 13, 14, 22]), (7, [4]), (8, [1, 2, 12, 13, 14]), (9, [4])] [(5, [6])] [] []
  rintro ⟨(xs : List Pt), (gs : List Pt), ⟨⟩⟩ ⟨(h1 : xs.length ≤ _), (h2 : gs.length ≤ _)⟩
  have hf := floor_len xs
  (repeat' (first | (with_reducible first | exact True.intro | refine zQ ?_ | (refine zG hG_ ?_; intro K_ hK_) | (refine zR ?_; intro K_ hK_) | (refine hK_ _ _ ?_; try clear hK_ K_) | refine sq_n ?_ | refine sq_r ?_ | refine sq_e ?_ | refine bq_n ?_ | refine bq_r ?_ | refine bq_q ?_ | refine zB ?_ | refine zX ?_ | refine zT ?_ | refine zK ?_ | refine gq_n ?_ | refine gq_r ?_ | refine gq_e ?_ | refine lq_n ?_ | refine lq_r ?_ | refine lq_e ?_ | refine bq_e (by decide) ?_) | ((with_reducible refine zC (b := ?b_) ?hb_ ?_ ?_); case hb_ => rfl) | ((conv => whnf); first | (with_reducible refine hK_ _ _ ?_; try clear hK_ K_) | (with_reducible refine fun (g_ : Sl) (o_ : Ow) => ?_) | (with_reducible first | exact True.intro | refine And.intro trivial ?_ | refine And.intro ?_ ?_) | exact Nat.le_of_ble_eq_true rfl | exact Or.inl rfl | (intro h_; cases h_) | (intro h_; (try simp only [vS1] at h_)) | rfl))) <;> (try (conv => whnf)) <;> (try first | change (_ : Int) ≤ _ | change (_ : Nat) ≤ _) <;> (try ((fail_if_success (with_reducible apply Exists.intro)); (try dsimp only); (try simp only [vS1]))) <;> (try simp (disch := omega) only [vS3, Int.add_sub_cancel, tn1, tnp, tnc, vS2] at *)
  all_goals (try (fail_if_success (with_reducible apply Exists.intro)); first | with_reducible assumption | omega | exact mdl (by omega) | exact ilo1 (by omega) | exact ilo2 (by omega) | exact ihi1 (by omega) (by omega) | exact ihi2 (by omega) (by omega))
  · unfold seesAllM; rw [h_]; rfl
  · exact (allIn_iff.1 h_).1
  have hin : allInM xs gs = true := by assumption
  have hr := (allIn_iff.1 hin).1
  refine awp'_loopG (α := Nat) (fun k ver_ => [(14, vInt k)]) (fun k ver_ => []) (fun k ver_ => []) (fun k => k ≤ (floorPts xs).length ∧ ((floorPts xs).take k).all (seesAny xs gs) = true) (fun k => (floorPts xs).length - k) [1, 2, 12, 13] [] (0) ?_
  conv => whnf
  refine ⟨⟨?inv2_, ?vals2_, ?own2_, ?fix2_⟩, ?body2_⟩
  case' vals2_ => (repeat' (first | (with_reducible first | exact True.intro | refine And.intro ?_ ?_ | refine Head.mk ?_ ?_ ?_ ?_) | ((conv => lhs; whnf); first | (with_reducible first | rfl | exact vInt_s (by omega)) | exact rfl) | ((conv => whnf); first | (with_reducible first | exact True.intro | refine And.intro ?_ ?_)))) <;> (try (conv => lhs; whnf))
  case' own2_ => (repeat' (first | (with_reducible first | exact True.intro | refine And.intro ?_ ?_ | refine Head.mk ?_ ?_ ?_ ?_) | ((conv => lhs; whnf); first | (with_reducible first | rfl | exact vInt_s (by omega)) | exact rfl) | ((conv => whnf); first | (with_reducible first | exact True.intro | refine And.intro ?_ ?_)))) <;> (try (conv => lhs; whnf))
  case' fix2_ => (repeat' (first | (with_reducible first | exact True.intro | refine And.intro ?_ ?_ | refine Head.mk ?_ ?_ ?_ ?_) | ((conv => lhs; whnf); first | (with_reducible first | rfl | exact vInt_s (by omega)) | exact rfl) | ((conv => whnf); first | (with_reducible first | exact True.intro | refine And.intro ?_ ?_)))) <;> (try (conv => lhs; whnf))
  · exact ⟨Nat.zero_le _, rfl⟩
  rintro k g_ o_ v_ ⟨hk, hall⟩
  (repeat' (first | (with_reducible first | exact True.intro | refine zQ ?_ | (refine zG hG_ ?_; intro K_ hK_) | (refine zR ?_; intro K_ hK_) | (refine hK_ _ _ ?_; try clear hK_ K_) | refine sq_n ?_ | refine sq_r ?_ | refine sq_e ?_ | refine bq_n ?_ | refine bq_r ?_ | refine bq_q ?_ | refine zB ?_ | refine zX ?_ | refine zT ?_ | refine zK ?_ | refine gq_n ?_ | refine gq_r ?_ | refine gq_e ?_ | refine lq_n ?_ | refine lq_r ?_ | refine lq_e ?_ | refine bq_e (by decide) ?_) | ((with_reducible refine zC (b := ?b_) ?hb_ ?_ ?_); case hb_ => rfl) | ((conv => whnf); first | (with_reducible refine hK_ _ _ ?_; try clear hK_ K_) | (with_reducible refine fun (g_ : Sl) (o_ : Ow) => ?_) | (with_reducible first | exact True.intro | refine And.intro trivial ?_ | refine And.intro ?_ ?_) | exact Nat.le_of_ble_eq_true rfl | exact Or.inl rfl | (intro h_; cases h_) | (intro h_; (try simp only [vS1] at h_)) | rfl))) <;> (try (conv => whnf)) <;> (try first | change (_ : Int) ≤ _ | change (_ : Nat) ≤ _) <;> (try ((fail_if_success (with_reducible apply Exists.intro)); (try dsimp only); (try simp only [vS1]))) <;> (try simp (disch := omega) only [vS3, Int.add_sub_cancel, tn1, tnp, tnc, vS2] at *)
  all_goals (try (fail_if_success (with_reducible apply Exists.intro)); first | with_reducible assumption | omega | exact mdl (by omega) | exact ilo1 (by omega) | exact ilo2 (by omega) | exact ihi1 (by omega) (by omega) | exact ihi2 (by omega) (by omega))
  · exact floor_pt (by omega)
  · unfold seesAllM; rw [hin, all_no (0, 0) (show k < (floorPts xs).length by omega) (by assumption)]; rfl
  · exact ⟨k + 1, by omega, ⟨by omega, by rw [all_succ (0, 0) (by omega), hall, Bool.true_and]; assumption⟩, by (repeat' (first | (with_reducible first | exact True.intro | refine And.intro ?_ ?_ | refine Head.mk ?_ ?_ ?_ ?_) | ((conv => lhs; whnf); first | (with_reducible first | rfl | exact vInt_s (by omega)) | exact rfl) | ((conv => whnf); first | (with_reducible first | exact True.intro | refine And.intro ?_ ?_)))) <;> (try (conv => lhs; whnf))⟩
  · unfold seesAllM; rw [hin, take_all (by omega) hall]; rfl
def maskM (xs : List Pt) (k : Int) : List Bool := if hasCor xs k then (floorPts xs).map (seesS xs (pI xs k)) else []
def rowB (xs : List Bool) : RV := ⟨.one (.own 0 0), some ⟨t_bool, none, .b .bool, xs⟩⟩
def maskC : Con := mkCon [.room, .int] (fun x => x.1.length ≤ 1048576) fun x => rowB (maskM x.1 x.2.1)
theorem mask_bad {xs : List Pt} {k : Int} (h : hasCor xs k = false) : maskM xs k = [] := by unfold maskM; rw [h]; rfl
theorem mask_ok {xs : List Pt} {k : Int} (h : hasCor xs k = true) : maskM xs k = (floorPts xs).map (seesS xs (pI xs k)) := by unfold maskM; rw [h]; rfl
theorem hasCor_ok {xs : List Pt} {k : Int} : hasCor xs k = true ↔ (0 ≤ k ∧ k ≤ xs.length - 1) ∧ roomOk xs = true := by unfold hasCor; rw [Bool.and_eq_true, btw_iff]
theorem map_len_le {α β : Type} {l : List α} {f : α → β} {n : Nat} (h : l.length ≤ n) (k : Nat) : ((l.take k).map f).length ≤ n := by rw [List.length_map, List.length_take]; omega
theorem iSeenMask_ok : Good1 Try.prog n_impl_SeenMask maskC := by
  refine good_ofG (tys := tyL) (env := [(n_impl_hasCorner, hasCorC), (n_impl_floor, floorC), (n_impl_sees, sees2C)]) (envw := []) (envd := []) [12] [21, 22, 23, 25, 26, 28] [] [] [] mixed tys ⟨hasCorner_ok, floor_ok, sees2_ok, trivial⟩ trivial trivial Try.func35 rfl (by kernel_rfl) (by decide) (by kernel_rfl) ?_
  have hG_ := kpz [(0, [1, 2]), (1, [1, 2, 11]), (2, [4]), (3, [1, 2, 5]), (4, [1, 2, 5, 14, 15, 16]), (5, [1, 2, 5, 14, 15, 16, 17]), (6, [1, 2, 5, 7, 14, 15, 16]), (7, [1, 2, 5, 14, 15, 16]), (8, [1, 2, 5, 14, 15, 16]), (9, [4])] [(3, [12]), (4, [12]), (5, [12]), (6, [7, 12]), (7, [12]), (8, [12]), (9, [12])] [] []
  rintro ⟨(xs : List Pt), (c : Int), ⟨⟩⟩ (h1 : xs.length ≤ _)
  have hf := floor_len xs
  (repeat' (first | (with_reducible first | exact True.intro | refine zQ ?_ | (refine zG hG_ ?_; intro K_ hK_) | (refine zR ?_; intro K_ hK_) | (refine hK_ _ _ ?_; try clear hK_ K_) | refine sq_n ?_ | refine sq_r ?_ | refine sq_e ?_ | refine bq_n ?_ | refine bq_r ?_ | refine bq_q ?_ | refine zB ?_ | refine zX ?_ | refine zT ?_ | refine zK ?_ | refine gq_n ?_ | refine gq_r ?_ | refine gq_e ?_ | refine lq_n ?_ | refine lq_r ?_ | refine lq_e ?_ | refine bq_e (by decide) ?_) | ((with_reducible refine zC (b := ?b_) ?hb_ ?_ ?_); case hb_ => rfl) | ((conv => whnf); first | (with_reducible refine hK_ _ _ ?_; try clear hK_ K_) | (with_reducible refine fun (g_ : Sl) (o_ : Ow) => ?_) | (with_reducible first | exact True.intro | refine And.intro trivial ?_ | refine And.intro ?_ ?_) | exact Nat.le_of_ble_eq_true rfl | exact Or.inl rfl | (intro h_; cases h_) | (intro h_; (try simp only [vS1] at h_)) | rfl))) <;> (try (conv => whnf)) <;> (try first | change (_ : Int) ≤ _ | change (_ : Nat) ≤ _) <;> (try ((fail_if_success (with_reducible apply Exists.intro)); (try dsimp only); (try simp only [vS1]))) <;> (try simp (disch := omega) only [vS3, Int.add_sub_cancel, tn1, tnp, tnc, vS2] at *)
  all_goals (try (fail_if_success (with_reducible apply Exists.intro)); first | with_reducible assumption | omega | exact mdl (by omega) | exact ilo1 (by omega) | exact ilo2 (by omega) | exact ihi1 (by omega) (by omega) | exact ihi2 (by omega) (by omega))
  · exact mask_bad ‹_›
  · exact (hasCor_ok.1 h_).2
  have hc : hasCor xs c = true := by assumption
  obtain ⟨hc1, hr⟩ := hasCor_ok.1 hc
  refine awp'_loopG (α := Nat) (fun k ver_ => [(16, vInt k)]) (fun k ver_ => [(5, 12, false, .row t_bool (.b .bool) (((floorPts xs).take k).map (seesS xs (pI xs c))))]) (fun k ver_ => []) (fun k => k ≤ (floorPts xs).length) (fun k => (floorPts xs).length - k) [1, 2, 14, 15] [] (0) ?_
  conv => whnf
  refine ⟨⟨?inv3_, ?vals3_, ?own3_, ?fix3_⟩, ?body3_⟩
  case' vals3_ => (repeat' (first | (with_reducible first | exact True.intro | refine And.intro ?_ ?_ | refine Head.mk ?_ ?_ ?_ ?_) | ((conv => lhs; whnf); first | (with_reducible first | rfl | exact vInt_s (by omega)) | exact rfl) | ((conv => whnf); first | (with_reducible first | exact True.intro | refine And.intro ?_ ?_)))) <;> (try (conv => lhs; whnf))
  case' own3_ => (repeat' (first | (with_reducible first | exact True.intro | refine And.intro ?_ ?_ | refine Head.mk ?_ ?_ ?_ ?_) | ((conv => lhs; whnf); first | (with_reducible first | rfl | exact vInt_s (by omega)) | exact rfl) | ((conv => whnf); first | (with_reducible first | exact True.intro | refine And.intro ?_ ?_)))) <;> (try (conv => lhs; whnf))
  case' fix3_ => (repeat' (first | (with_reducible first | exact True.intro | refine And.intro ?_ ?_ | refine Head.mk ?_ ?_ ?_ ?_) | ((conv => lhs; whnf); first | (with_reducible first | rfl | exact vInt_s (by omega)) | exact rfl) | ((conv => whnf); first | (with_reducible first | exact True.intro | refine And.intro ?_ ?_)))) <;> (try (conv => lhs; whnf))
  · exact Nat.zero_le _
  rintro k g_ o_ v_ hk
  have hl := map_len_le (f := seesS xs (pI xs c)) hf k
  (repeat' (first | (with_reducible first | exact True.intro | refine zQ ?_ | (refine zG hG_ ?_; intro K_ hK_) | (refine zR ?_; intro K_ hK_) | (refine hK_ _ _ ?_; try clear hK_ K_) | refine sq_n ?_ | refine sq_r ?_ | refine sq_e ?_ | refine bq_n ?_ | refine bq_r ?_ | refine bq_q ?_ | refine zB ?_ | refine zX ?_ | refine zT ?_ | refine zK ?_ | refine gq_n ?_ | refine gq_r ?_ | refine gq_e ?_ | refine lq_n ?_ | refine lq_r ?_ | refine lq_e ?_ | refine bq_e (by decide) ?_) | ((with_reducible refine zC (b := ?b_) ?hb_ ?_ ?_); case hb_ => rfl) | ((conv => whnf); first | (with_reducible refine hK_ _ _ ?_; try clear hK_ K_) | (with_reducible refine fun (g_ : Sl) (o_ : Ow) => ?_) | (with_reducible first | exact True.intro | refine And.intro trivial ?_ | refine And.intro ?_ ?_) | exact Nat.le_of_ble_eq_true rfl | exact Or.inl rfl | (intro h_; cases h_) | (intro h_; (try simp only [vS1] at h_)) | rfl))) <;> (try (conv => whnf)) <;> (try first | change (_ : Int) ≤ _ | change (_ : Nat) ≤ _) <;> (try ((fail_if_success (with_reducible apply Exists.intro)); (try dsimp only); (try simp only [vS1]))) <;> (try simp (disch := omega) only [vS3, Int.add_sub_cancel, tn1, tnp, tnc, vS2] at *)
  all_goals (try (fail_if_success (with_reducible apply Exists.intro)); first | with_reducible assumption | omega | exact mdl (by omega) | exact ilo1 (by omega) | exact ilo2 (by omega) | exact ihi1 (by omega) (by omega) | exact ihi2 (by omega) (by omega))
  · exact room_pt hr (by omega)
  · exact floor_pt (by omega)
  · refine ⟨k + 1, by omega, by omega, ?_⟩
    (repeat' (first | (with_reducible first | exact True.intro | refine And.intro ?_ ?_ | refine Head.mk ?_ ?_ ?_ ?_) | ((conv => lhs; whnf); first | (with_reducible first | rfl | exact vInt_s (by omega)) | exact rfl) | ((conv => whnf); first | (with_reducible first | exact True.intro | refine And.intro ?_ ?_)))) <;> (try (conv => lhs; whnf))
    exact congrArg (Own.row _ _) (map_take_succ' _ (0, 0) (by assumption)).symm
  · rw [List.take_of_length_le (by omega), mask_ok hc]; rfl
end Go.Proofs.Ytnepfcnlngpchaa
namespace Go.Proofs.Ytnepfcnlngpchaa
open Go.RowKit Go.Proofs.Ytnepfcnlngpchaa.Nm
set_option maxRecDepth 10000
set_option maxHeartbeats 4000000
def fsN {α : Type} (f : Nat → Option α) : Nat → Nat → Option α
  | 0, _ => none
  | n + 1, a => match f a with
    | some r => some r
    | none => fsN f n (a + 1)
def fsR {α : Type} (f : Nat → Option α) (a b : Nat) : Option α := fsN f (b - a) a
theorem fsR_end {α : Type} {f : Nat → Option α} {a b : Nat} (h : b ≤ a) : fsR f a b = none := by unfold fsR; rw [show b - a = 0 by omega]; rfl
theorem fsR_yes {α : Type} {f : Nat → Option α} {a b : Nat} {r : α} (h : a < b) (hf : f a = some r) : fsR f a b = some r := by
  unfold fsR; rw [show b - a = (b - (a + 1)) + 1 by omega, fsN, hf]
theorem fsR_no {α : Type} {f : Nat → Option α} {a b : Nat} (h : a < b) (hf : f a = none) : fsR f a b = fsR f (a + 1) b := by
  unfold fsR; rw [show b - a = (b - (a + 1)) + 1 by omega, fsN, hf]
theorem fsN_all {α : Type} {f : Nat → Option α} {Q : α → Prop} (h : ∀ k r, f k = some r → Q r) : ∀ n a r, fsN f n a = some r → Q r
  | 0, a, r, e => by cases e
  | n + 1, a, r, e => by
    rw [fsN] at e
    cases hf : f a with
    | some r' => rw [hf] at e; exact h a r (hf.trans e)
    | none => rw [hf] at e; exact fsN_all h n (a + 1) r e
abbrev Msk := List (List Bool)
def seenOf (M : Msk) (l : List Int) (i : Nat) : Bool := l.any fun k => (M.getD k.toNat []).getD i false
def wid (M : Msk) : Nat := (M.getD 0 []).length
def covM (M : Msk) (l : List Int) : Bool := (List.range (wid M)).all (seenOf M l)
def chM (M : Msk) : Nat → List Int → Nat → Option (List Int)
  | 0, l, _ => if covM M l then some l else none
  | m + 1, l, a => fsR (fun k => chM M m (l ++ [(k : Int)]) (k + 1)) a M.length
theorem ch_len (M : Msk) : ∀ m l a r, chM M m l a = some r → r.length = l.length + m
  | 0, l, a, r, h => by
    rw [chM] at h
    split at h
    · injection h with h; rw [← h]; rfl
    · cases h
  | m + 1, l, a, r, h => by
    rw [chM] at h
    refine fsN_all (Q := fun r => r.length = l.length + (m + 1)) (fun k r hr => ?_) _ _ r h
    have := ch_len M m _ _ r hr
    rw [List.length_append, List.length_singleton] at this
    omega
def masksM (xs : List Pt) : Msk := (List.range xs.length).map fun k : Nat => maskM xs k
def fewO (M : Msk) : Option (List Int) := fsR (fun n => chM M n [] 0) 1 (M.length + 1)
def fewM (xs : List Pt) : List Int := if roomOk xs then (fewO (masksM xs)).getD [] else []
structure MOk (M : Msk) : Prop where
  pos : 0 < M.length
  le : M.length ≤ 64
  all : ∀ k, k < M.length → (M.getD k []).length = wid M
  w : wid M ≤ 1048576
structure LOk (M : Msk) (l : List Int) : Prop where
  le : l.length ≤ 64
  at_ : ∀ j, j < l.length → 0 ≤ l.getD j 0 ∧ l.getD j 0 < M.length
theorem LOk.app {M : Msk} {l : List Int} {k : Nat} (h : LOk M l) (hl : l.length < 64) (hk : k < M.length) : LOk M (l ++ [(k : Int)]) := by
  refine ⟨by rw [List.length_append, List.length_singleton]; omega, fun j hj => ?_⟩
  rw [List.length_append, List.length_singleton] at hj
  rw [List.getD_eq_getElem?_getD]
  rcases Nat.lt_or_ge j l.length with h1 | h1
  · rw [List.getElem?_append_left h1, ← List.getD_eq_getElem?_getD]
    exact h.at_ j h1
  · rw [List.getElem?_append_right h1, show j - l.length = 0 by omega]
    simp only [List.getElem?_cons_zero, Option.getD_some]
    omega
def seenTo (M : Msk) (l : List Int) (i k : Nat) : Bool := (l.take k).any fun x => (M.getD x.toNat []).getD i false
theorem seenTo_succ {M : Msk} {l : List Int} {i k : Nat} (h : k < l.length) : seenTo M l i (k + 1) = (seenTo M l i k || (M.getD (l.getD k 0).toNat []).getD i false) := by
  unfold seenTo
  rw [List.take_succ_eq_append_getElem h, List.any_append, show l.getD k 0 = l[k] from getD_lt _ h]
  simp
theorem seenTo_full (M : Msk) (l : List Int) (i : Nat) : seenTo M l i l.length = seenOf M l i := by unfold seenTo seenOf; rw [List.take_length]
def covC : Con := mkCon [.sl (.s .bool), .sl (.b .int)] (fun x => MOk x.1 ∧ LOk x.1 x.2.1) fun x => vB (covM x.1 x.2.1)
theorem covers_ok : Good1 Try.prog n_impl_covers covC := by
  refine good_ofG (tys := tyL) (env := []) (envw := []) (envd := []) [] [] [] [] [] mixed tys trivial trivial trivial Try.func120 rfl (by kernel_rfl) (by decide) (by kernel_rfl) ?_
  have hG_ := kpz [(0, [0, 1]), (1, [0, 1, 12, 13]), (2, [0, 1, 12, 13, 14]), (3, [0, 1, 5, 12, 13]), (4, [0, 1, 5, 6, 12, 13]), (5, [0, 1, 5, 6, 12, 13, 16, 17, 18]), (6, [0, 1, 5, 6, 12, 13, 16, 17, 18, 19]), (7, [0, 1, 5, 6, 8, 12, 13, 16, 17, 18]), (8, [0, 1, 5, 6, 12, 13, 16, 17, 18]), (9, [0, 1, 5, 6, 12, 13, 16, 17, 18]), (10, [0, 1, 12, 13, 34]), (11, [4]), (12, [0, 1, 12, 13]), (13, [4])] [] [] []
  rintro ⟨(M : Msk), (l : List Int), ⟨⟩⟩ ⟨(hM : MOk M), (hL : LOk M l)⟩
  have m1 := hM.pos
  have m2 := hM.le
  have m4 := hM.w
  have l1 := hL.le
  have hw0 : (M.getD 0 (ElK.s ElB.bool).dflt).length = wid M := rfl
  (repeat' (first | (with_reducible first | exact True.intro | refine zQ ?_ | (refine zG hG_ ?_; intro K_ hK_) | (refine zR ?_; intro K_ hK_) | (refine hK_ _ _ ?_; try clear hK_ K_) | refine sq_n ?_ | refine sq_r ?_ | refine sq_e ?_ | refine bq_n ?_ | refine bq_r ?_ | refine bq_q ?_ | refine zB ?_ | refine zX ?_ | refine zT ?_ | refine zK ?_ | refine gq_n ?_ | refine gq_r ?_ | refine gq_e ?_ | refine lq_n ?_ | refine lq_r ?_ | refine lq_e ?_ | refine bq_e (by decide) ?_) | ((with_reducible refine zC (b := ?b_) ?hb_ ?_ ?_); case hb_ => rfl) | ((conv => whnf); first | (with_reducible refine hK_ _ _ ?_; try clear hK_ K_) | (with_reducible refine fun (g_ : Sl) (o_ : Ow) => ?_) | (with_reducible first | exact True.intro | refine And.intro trivial ?_ | refine And.intro ?_ ?_) | exact Nat.le_of_ble_eq_true rfl | exact Or.inl rfl | (intro h_; cases h_) | (intro h_; (try simp only [vS1] at h_)) | rfl))) <;> (try (conv => whnf)) <;> (try first | change (_ : Int) ≤ _ | change (_ : Nat) ≤ _) <;> (try ((fail_if_success (with_reducible apply Exists.intro)); (try dsimp only); (try simp only [vS1]))) <;> (try simp (disch := omega) only [vS3, Int.add_sub_cancel, tn1, tnp, tnc, vS2] at *)
  all_goals (try (fail_if_success (with_reducible apply Exists.intro)); first | with_reducible assumption | omega | exact mdl (by omega) | exact ilo1 (by omega) | exact ilo2 (by omega) | exact ihi1 (by omega) (by omega) | exact ihi2 (by omega) (by omega))
  refine awp'_loopG (α := Nat) (fun i ver_ => [(13, vInt i)]) (fun i ver_ => []) (fun i ver_ => []) (fun i => i ≤ wid M ∧ ∀ j, j < i → seenOf M l j = true) (fun i => wid M - i) [0, 1, 12] [] (0) ?_
  conv => whnf
  refine ⟨⟨?inv1_, ?vals1_, ?own1_, ?fix1_⟩, ?body1_⟩
  case' vals1_ => (repeat' (first | (with_reducible first | exact True.intro | refine And.intro ?_ ?_ | refine Head.mk ?_ ?_ ?_ ?_) | ((conv => lhs; whnf); first | (with_reducible first | rfl | exact vInt_s (by omega)) | exact rfl) | ((conv => whnf); first | (with_reducible first | exact True.intro | refine And.intro ?_ ?_)))) <;> (try (conv => lhs; whnf))
  case' own1_ => (repeat' (first | (with_reducible first | exact True.intro | refine And.intro ?_ ?_ | refine Head.mk ?_ ?_ ?_ ?_) | ((conv => lhs; whnf); first | (with_reducible first | rfl | exact vInt_s (by omega)) | exact rfl) | ((conv => whnf); first | (with_reducible first | exact True.intro | refine And.intro ?_ ?_)))) <;> (try (conv => lhs; whnf))
  case' fix1_ => (repeat' (first | (with_reducible first | exact True.intro | refine And.intro ?_ ?_ | refine Head.mk ?_ ?_ ?_ ?_) | ((conv => lhs; whnf); first | (with_reducible first | rfl | exact vInt_s (by omega)) | exact rfl) | ((conv => whnf); first | (with_reducible first | exact True.intro | refine And.intro ?_ ?_)))) <;> (try (conv => lhs; whnf))
  · exact ⟨Nat.zero_le _, fun j hj => absurd hj (by omega)⟩
  rintro i g_ o_ v_ ⟨hi, hall⟩
  (repeat' (first | (with_reducible first | exact True.intro | refine zQ ?_ | (refine zG hG_ ?_; intro K_ hK_) | (refine zR ?_; intro K_ hK_) | (refine hK_ _ _ ?_; try clear hK_ K_) | refine sq_n ?_ | refine sq_r ?_ | refine sq_e ?_ | refine bq_n ?_ | refine bq_r ?_ | refine bq_q ?_ | refine zB ?_ | refine zX ?_ | refine zT ?_ | refine zK ?_ | refine gq_n ?_ | refine gq_r ?_ | refine gq_e ?_ | refine lq_n ?_ | refine lq_r ?_ | refine lq_e ?_ | refine bq_e (by decide) ?_) | ((with_reducible refine zC (b := ?b_) ?hb_ ?_ ?_); case hb_ => rfl) | ((conv => whnf); first | (with_reducible refine hK_ _ _ ?_; try clear hK_ K_) | (with_reducible refine fun (g_ : Sl) (o_ : Ow) => ?_) | (with_reducible first | exact True.intro | refine And.intro trivial ?_ | refine And.intro ?_ ?_) | exact Nat.le_of_ble_eq_true rfl | exact Or.inl rfl | (intro h_; cases h_) | (intro h_; (try simp only [vS1] at h_)) | rfl))) <;> (try (conv => whnf)) <;> (try first | change (_ : Int) ≤ _ | change (_ : Nat) ≤ _) <;> (try ((fail_if_success (with_reducible apply Exists.intro)); (try dsimp only); (try simp only [vS1]))) <;> (try simp (disch := omega) only [vS3, Int.add_sub_cancel, tn1, tnp, tnc, vS2] at *)
  all_goals (try (fail_if_success (with_reducible apply Exists.intro)); first | with_reducible assumption | omega | exact mdl (by omega) | exact ilo1 (by omega) | exact ilo2 (by omega) | exact ihi1 (by omega) (by omega) | exact ihi2 (by omega) (by omega))
  ·
   refine awp'_loopG (α := Nat) (fun k ver_ => [(18, vInt k), (6, vBool (seenTo M l i k))]) (fun k ver_ => []) (fun k ver_ => []) (fun k => k ≤ l.length) (fun k => l.length - k) [0, 1, 5, 12, 13, 16, 17] [] (0) ?_
   conv => whnf
   refine ⟨⟨?inv2_, ?vals2_, ?own2_, ?fix2_⟩, ?body2_⟩
   case' vals2_ => (repeat' (first | (with_reducible first | exact True.intro | refine And.intro ?_ ?_ | refine Head.mk ?_ ?_ ?_ ?_) | ((conv => lhs; whnf); first | (with_reducible first | rfl | exact vInt_s (by omega)) | exact rfl) | ((conv => whnf); first | (with_reducible first | exact True.intro | refine And.intro ?_ ?_)))) <;> (try (conv => lhs; whnf))
   case' own2_ => (repeat' (first | (with_reducible first | exact True.intro | refine And.intro ?_ ?_ | refine Head.mk ?_ ?_ ?_ ?_) | ((conv => lhs; whnf); first | (with_reducible first | rfl | exact vInt_s (by omega)) | exact rfl) | ((conv => whnf); first | (with_reducible first | exact True.intro | refine And.intro ?_ ?_)))) <;> (try (conv => lhs; whnf))
   case' fix2_ => (repeat' (first | (with_reducible first | exact True.intro | refine And.intro ?_ ?_ | refine Head.mk ?_ ?_ ?_ ?_) | ((conv => lhs; whnf); first | (with_reducible first | rfl | exact vInt_s (by omega)) | exact rfl) | ((conv => whnf); first | (with_reducible first | exact True.intro | refine And.intro ?_ ?_)))) <;> (try (conv => lhs; whnf))
   · exact Nat.zero_le _
   rintro k g_ o_ v_ hk
   rcases Nat.lt_or_ge k l.length with hkl | hkl
   · have hb := hL.at_ k hkl
     have hk1 : 0 ≤ l.getD k (ElK.b ElB.int).dflt := hb.1
     have hk2 : l.getD k (ElK.b ElB.int).dflt < M.length := hb.2
     have hml : (M.getD (l.getD k (ElK.b ElB.int).dflt).toNat (ElK.s ElB.bool).dflt).length = wid M := hM.all _ (by omega)
     have hss := seenTo_succ (M := M) (i := i) hkl
     (repeat' (first | (with_reducible first | exact True.intro | refine zQ ?_ | (refine zG hG_ ?_; intro K_ hK_) | (refine zR ?_; intro K_ hK_) | (refine hK_ _ _ ?_; try clear hK_ K_) | refine sq_n ?_ | refine sq_r ?_ | refine sq_e ?_ | refine bq_n ?_ | refine bq_r ?_ | refine bq_q ?_ | refine zB ?_ | refine zX ?_ | refine zT ?_ | refine zK ?_ | refine gq_n ?_ | refine gq_r ?_ | refine gq_e ?_ | refine lq_n ?_ | refine lq_r ?_ | refine lq_e ?_ | refine bq_e (by decide) ?_) | ((with_reducible refine zC (b := ?b_) ?hb_ ?_ ?_); case hb_ => rfl) | ((conv => whnf); first | (with_reducible refine hK_ _ _ ?_; try clear hK_ K_) | (with_reducible refine fun (g_ : Sl) (o_ : Ow) => ?_) | (with_reducible first | exact True.intro | refine And.intro trivial ?_ | refine And.intro ?_ ?_) | exact Nat.le_of_ble_eq_true rfl | exact Or.inl rfl | (intro h_; cases h_) | (intro h_; (try simp only [vS1] at h_)) | rfl))) <;> (try (conv => whnf)) <;> (try first | change (_ : Int) ≤ _ | change (_ : Nat) ≤ _) <;> (try ((fail_if_success (with_reducible apply Exists.intro)); (try dsimp only); (try simp only [vS1]))) <;> (try simp (disch := omega) only [vS3, Int.add_sub_cancel, tn1, tnp, tnc, vS2] at *)
     all_goals (try (fail_if_success (with_reducible apply Exists.intro)); first | with_reducible assumption | omega | exact mdl (by omega) | exact ilo1 (by omega) | exact ilo2 (by omega) | exact ihi1 (by omega) (by omega) | exact ihi2 (by omega) (by omega))
     · refine ⟨k + 1, by omega, by omega, ?_⟩
       (repeat' (first | (with_reducible first | exact True.intro | refine And.intro ?_ ?_ | refine Head.mk ?_ ?_ ?_ ?_) | ((conv => lhs; whnf); first | (with_reducible first | rfl | exact vInt_s (by omega)) | exact rfl) | ((conv => whnf); first | (with_reducible first | exact True.intro | refine And.intro ?_ ?_)))) <;> (try (conv => lhs; whnf))
       exact congrArg vBool (by rw [hss, show seenTo M l i k = true from by assumption]; rfl)
     · refine ⟨k + 1, by omega, by omega, ?_⟩
       (repeat' (first | (with_reducible first | exact True.intro | refine And.intro ?_ ?_ | refine Head.mk ?_ ?_ ?_ ?_) | ((conv => lhs; whnf); first | (with_reducible first | rfl | exact vInt_s (by omega)) | exact rfl) | ((conv => whnf); first | (with_reducible first | exact True.intro | refine And.intro ?_ ?_)))) <;> (try (conv => lhs; whnf))
       exact congrArg vBool (by rw [hss, show seenTo M l i k = false from by assumption]; rfl)
     all_goals (exfalso; omega)
   · have hf := seenTo_full M l i
     (repeat' (first | (with_reducible first | exact True.intro | refine zQ ?_ | (refine zG hG_ ?_; intro K_ hK_) | (refine zR ?_; intro K_ hK_) | (refine hK_ _ _ ?_; try clear hK_ K_) | refine sq_n ?_ | refine sq_r ?_ | refine sq_e ?_ | refine bq_n ?_ | refine bq_r ?_ | refine bq_q ?_ | refine zB ?_ | refine zX ?_ | refine zT ?_ | refine zK ?_ | refine gq_n ?_ | refine gq_r ?_ | refine gq_e ?_ | refine lq_n ?_ | refine lq_r ?_ | refine lq_e ?_ | refine bq_e (by decide) ?_) | ((with_reducible refine zC (b := ?b_) ?hb_ ?_ ?_); case hb_ => rfl) | ((conv => whnf); first | (with_reducible refine hK_ _ _ ?_; try clear hK_ K_) | (with_reducible refine fun (g_ : Sl) (o_ : Ow) => ?_) | (with_reducible first | exact True.intro | refine And.intro trivial ?_ | refine And.intro ?_ ?_) | exact Nat.le_of_ble_eq_true rfl | exact Or.inl rfl | (intro h_; cases h_) | (intro h_; (try simp only [vS1] at h_)) | rfl))) <;> (try (conv => whnf)) <;> (try first | change (_ : Int) ≤ _ | change (_ : Nat) ≤ _) <;> (try ((fail_if_success (with_reducible apply Exists.intro)); (try dsimp only); (try simp only [vS1]))) <;> (try simp (disch := omega) only [vS3, Int.add_sub_cancel, tn1, tnp, tnc, vS2] at *)
     all_goals (try (fail_if_success (with_reducible apply Exists.intro)); first | with_reducible assumption | omega | exact mdl (by omega) | exact ilo1 (by omega) | exact ilo2 (by omega) | exact ihi1 (by omega) (by omega) | exact ihi2 (by omega) (by omega))
     · exfalso; omega
     · exfalso; omega
     · have h7 : seenTo M l i k = false := by assumption
       rw [show k = l.length by omega, hf] at h7
       refine Eq.symm (Bool.eq_false_iff.2 fun hc => ?_)
       have := List.all_eq_true.1 (show (List.range (wid M)).all (seenOf M l) = true from hc) i (List.mem_range.2 (by omega))
       rw [this] at h7; cases h7
     · refine ⟨i + 1, by omega, ⟨by omega, lt_succ_all hall ?_⟩, by (repeat' (first | (with_reducible first | exact True.intro | refine And.intro ?_ ?_ | refine Head.mk ?_ ?_ ?_ ?_) | ((conv => lhs; whnf); first | (with_reducible first | rfl | exact vInt_s (by omega)) | exact rfl) | ((conv => whnf); first | (with_reducible first | exact True.intro | refine And.intro ?_ ?_)))) <;> (try (conv => lhs; whnf))⟩
       rw [← hf, show l.length = k by omega]
       assumption
  · refine Eq.symm (List.all_eq_true.2 fun j hj => hall j ?_)
    have := List.mem_range.1 hj
    omega
def chPre (M : Msk) (l : List Int) (a m : Int) : Prop := (MOk M ∧ LOk M l) ∧ (0 ≤ a ∧ a ≤ 64) ∧ 0 ≤ m ∧ (l.length : Int) + m ≤ 60 ∧ 0 < (l.length : Int) + m
structure ChOk (M : Msk) (l : List Int) (a m : Int) : Prop where
  ok : chPre M l a m
def chVal (o : Option (List Int)) : RV := match o with
  | none => .val (.one (.d .nil))
  | some r => rowI r
def chLt (n : Nat) : Con := mkCon [.sl (.s .bool), .sl (.b .int), .int, .int] (fun x => ChOk x.1 x.2.1 x.2.2.1 x.2.2.2.1 ∧ x.2.2.2.1 < n) fun x => chVal (chM x.1 x.2.2.2.1.toNat x.2.1 x.2.2.1.toNat)
def chooseC : Con := mkCon [.sl (.s .bool), .sl (.b .int), .int, .int] (fun x => ChOk x.1 x.2.1 x.2.2.1 x.2.2.2.1) fun x => chVal (chM x.1 x.2.2.2.1.toNat x.2.1 x.2.2.1.toNat)
theorem fsN_none {α : Type} {f : Nat → Option α} : ∀ {n a}, fsN f n a = none → ∀ k, a ≤ k → k < a + n → f k = none
  | 0, a, _, k, h1, h2 => absurd h2 (by omega)
  | n + 1, a, h, k, h1, h2 => by
    rw [fsN] at h
    cases hf : f a with
    | some r => rw [hf] at h; cases h
    | none =>
      rw [hf] at h
      rcases Nat.eq_or_lt_of_le h1 with e | e
      · rw [← e]; exact hf
      · exact fsN_none h k e (by omega)
theorem fsR_none {α : Type} {f : Nat → Option α} {a b k : Nat} (h : fsR f a b = none) (h1 : a ≤ k) (h2 : k < b) : f k = none := fsN_none h k h1 (by omega)
theorem ch_all : ∀ n, Good1 Try.prog n_impl_choose (chLt n) := by
  intro n
  induction n with
  | zero =>
    refine ⟨fun w F args vs x h1 h2 h3 h4 h5 => ?_, _, Try.func91, by decide, rfl⟩
    obtain ⟨-, -, h6, -⟩ := (show ChOk x.1 x.2.1 x.2.2.1 x.2.2.2.1 from h2.1).ok
    have h7 : x.2.2.2.1 < ((0 : Nat) : Int) := h2.2
    exact absurd (Int.lt_of_le_of_lt h6 h7) (by decide)
  | succ n ih =>
    refine good_ofG (tys := tyL) (env := [(n_impl_covers, covC), (n_impl_choose, (chLt n))]) (envw := []) (envd := []) [16, 18, 40] [] [] [35] [] mixed tys ⟨covers_ok, ih, trivial⟩ trivial trivial Try.func91 rfl (by kernel_rfl) (by decide) (by kernel_rfl) ?_
    have hG_ := kpz [(0, [0, 1, 2, 3]), (1, [0, 1, 2, 3, 12]), (2, [1, 15]), (3, [8]), (4, [8]), (5, [0, 1, 3, 9]), (6, [0, 1, 3, 9, 23]), (7, [0, 1, 3, 9]), (8, [0, 1, 3, 9, 10]), (9, [0, 1, 3, 9, 10, 42]), (10, [8]), (11, [8])] [(3, [16]), (7, [40]), (8, [40]), (9, [40]), (10, [40])] [] []
    rintro ⟨(M : Msk), (l : List Int), (a : Int), (m : Int), ⟨⟩⟩ ⟨⟨(h0 : chPre M l a m)⟩, (hmn : m < _)⟩
    obtain ⟨⟨hM, hL⟩, ⟨ha0, ha1⟩, hm0, hm1, hm2⟩ := h0
    obtain ⟨a, rfl⟩ := Int.eq_ofNat_of_zero_le ha0
    obtain ⟨m, rfl⟩ := Int.eq_ofNat_of_zero_le hm0
    have hMl := hM.le
    have hLl := hL.le
    show awp' _ _ (Fin' _ _ (chVal (chM M m l a))) _ _
    rcases m with _ | m
    · have h00 : chM M 0 l a = if covM M l then some l else none := rfl
      have hl0 : l ≠ [] := fun e => by rw [e] at hm2; simp at hm2
      cases hcv : covM M l with
      | true =>
        rw [h00, hcv, if_pos rfl]
        have hcvp : PLift (covM M l = true) := ⟨hcv⟩
        show awp' _ _ (Fin' _ _ (rowI l)) _ _
        (repeat' (first | (with_reducible first | exact True.intro | refine zQ ?_ | (refine zG hG_ ?_; intro K_ hK_) | (refine zR ?_; intro K_ hK_) | (refine hK_ _ _ ?_; try clear hK_ K_) | refine sq_n ?_ | refine sq_r ?_ | refine sq_e ?_ | refine bq_n ?_ | refine bq_r ?_ | refine bq_q ?_ | refine zB ?_ | refine zX ?_ | refine zT ?_ | refine zK ?_ | refine gq_n ?_ | refine gq_r ?_ | refine gq_e ?_ | refine lq_n ?_ | refine lq_r ?_ | refine lq_e ?_ | refine bq_e (by decide) ?_) | ((with_reducible refine zC (b := ?b_) ?hb_ ?_ ?_); case hb_ => rfl) | ((conv => whnf); first | (with_reducible refine hK_ _ _ ?_; try clear hK_ K_) | (with_reducible refine fun (g_ : Sl) (o_ : Ow) => ?_) | (with_reducible first | exact True.intro | refine And.intro trivial ?_ | refine And.intro ?_ ?_) | exact Nat.le_of_ble_eq_true rfl | exact Or.inl rfl | (intro h_; cases h_) | (intro h_; (try simp only [vS1] at h_)) | rfl))) <;> (try (conv => whnf)) <;> (try first | change (_ : Int) ≤ _ | change (_ : Nat) ≤ _) <;> (try ((fail_if_success (with_reducible apply Exists.intro)); (try dsimp only); (try simp only [vS1]))) <;> (try simp (disch := omega) only [vS3, Int.add_sub_cancel, tn1, tnp, tnc, vS2] at *)
        all_goals (try (fail_if_success (with_reducible apply Exists.intro)); first | with_reducible assumption | omega | exact mdl (by omega) | exact ilo1 (by omega) | exact ilo2 (by omega) | exact ihi1 (by omega) (by omega) | exact ihi2 (by omega) (by omega))
        have h5 := hcvp.down
        rw [h_] at h5; cases h5
      | false =>
        rw [h00, hcv, if_neg (by decide)]
        have hcvp : PLift (covM M l = false) := ⟨hcv⟩
        show awp' _ _ (Fin' _ _ (.val (.one (.d .nil)))) _ _
        (repeat' (first | (with_reducible first | exact True.intro | refine zQ ?_ | (refine zG hG_ ?_; intro K_ hK_) | (refine zR ?_; intro K_ hK_) | (refine hK_ _ _ ?_; try clear hK_ K_) | refine sq_n ?_ | refine sq_r ?_ | refine sq_e ?_ | refine bq_n ?_ | refine bq_r ?_ | refine bq_q ?_ | refine zB ?_ | refine zX ?_ | refine zT ?_ | refine zK ?_ | refine gq_n ?_ | refine gq_r ?_ | refine gq_e ?_ | refine lq_n ?_ | refine lq_r ?_ | refine lq_e ?_ | refine bq_e (by decide) ?_) | ((with_reducible refine zC (b := ?b_) ?hb_ ?_ ?_); case hb_ => rfl) | ((conv => whnf); first | (with_reducible refine hK_ _ _ ?_; try clear hK_ K_) | (with_reducible refine fun (g_ : Sl) (o_ : Ow) => ?_) | (with_reducible first | exact True.intro | refine And.intro trivial ?_ | refine And.intro ?_ ?_) | exact Nat.le_of_ble_eq_true rfl | exact Or.inl rfl | (intro h_; cases h_) | (intro h_; (try simp only [vS1] at h_)) | rfl))) <;> (try (conv => whnf)) <;> (try first | change (_ : Int) ≤ _ | change (_ : Nat) ≤ _) <;> (try ((fail_if_success (with_reducible apply Exists.intro)); (try dsimp only); (try simp only [vS1]))) <;> (try simp (disch := omega) only [vS3, Int.add_sub_cancel, tn1, tnp, tnc, vS2] at *)
        all_goals (try (fail_if_success (with_reducible apply Exists.intro)); first | with_reducible assumption | omega | exact mdl (by omega) | exact ilo1 (by omega) | exact ilo2 (by omega) | exact ihi1 (by omega) (by omega) | exact ihi2 (by omega) (by omega))
        have h5 := hcvp.down
        rw [h_] at h5; cases h5
    · have hF : chM M (m + 1) l a = fsR (fun k => chM M m (l ++ [(k : Int)]) (k + 1)) a M.length := rfl
      cases hR : chM M (m + 1) l a with
      | none =>
        rw [hR] at hF
        show awp' _ _ (Fin' _ _ (.val (.one (.d .nil)))) _ _
        (repeat' (first | (with_reducible first | exact True.intro | refine zQ ?_ | (refine zG hG_ ?_; intro K_ hK_) | (refine zR ?_; intro K_ hK_) | (refine hK_ _ _ ?_; try clear hK_ K_) | refine sq_n ?_ | refine sq_r ?_ | refine sq_e ?_ | refine bq_n ?_ | refine bq_r ?_ | refine bq_q ?_ | refine zB ?_ | refine zX ?_ | refine zT ?_ | refine zK ?_ | refine gq_n ?_ | refine gq_r ?_ | refine gq_e ?_ | refine lq_n ?_ | refine lq_r ?_ | refine lq_e ?_ | refine bq_e (by decide) ?_) | ((with_reducible refine zC (b := ?b_) ?hb_ ?_ ?_); case hb_ => rfl) | ((conv => whnf); first | (with_reducible refine hK_ _ _ ?_; try clear hK_ K_) | (with_reducible refine fun (g_ : Sl) (o_ : Ow) => ?_) | (with_reducible first | exact True.intro | refine And.intro trivial ?_ | refine And.intro ?_ ?_) | exact Nat.le_of_ble_eq_true rfl | exact Or.inl rfl | (intro h_; cases h_) | (intro h_; (try simp only [vS1] at h_)) | rfl))) <;> (try (conv => whnf)) <;> (try first | change (_ : Int) ≤ _ | change (_ : Nat) ≤ _) <;> (try ((fail_if_success (with_reducible apply Exists.intro)); (try dsimp only); (try simp only [vS1]))) <;> (try simp (disch := omega) only [vS3, Int.add_sub_cancel, tn1, tnp, tnc, vS2] at *)
        all_goals (try (fail_if_success (with_reducible apply Exists.intro)); first | with_reducible assumption | omega | exact mdl (by omega) | exact ilo1 (by omega) | exact ilo2 (by omega) | exact ihi1 (by omega) (by omega) | exact ihi2 (by omega) (by omega))
        refine awp'_loopG (α := Nat) (fun k ver_ => [(9, vInt k)]) (fun k ver_ => []) (fun k ver_ => []) (fun k => a ≤ k ∧ k ≤ 64) (fun k => M.length - k) [0, 1, 3] [] (a) ?_
        conv => whnf
        refine ⟨⟨?inv3_, ?vals3_, ?own3_, ?fix3_⟩, ?body3_⟩
        case' vals3_ => (repeat' (first | (with_reducible first | exact True.intro | refine And.intro ?_ ?_ | refine Head.mk ?_ ?_ ?_ ?_) | ((conv => lhs; whnf); first | (with_reducible first | rfl | exact vInt_s (by omega)) | exact rfl) | ((conv => whnf); first | (with_reducible first | exact True.intro | refine And.intro ?_ ?_)))) <;> (try (conv => lhs; whnf))
        case' own3_ => (repeat' (first | (with_reducible first | exact True.intro | refine And.intro ?_ ?_ | refine Head.mk ?_ ?_ ?_ ?_) | ((conv => lhs; whnf); first | (with_reducible first | rfl | exact vInt_s (by omega)) | exact rfl) | ((conv => whnf); first | (with_reducible first | exact True.intro | refine And.intro ?_ ?_)))) <;> (try (conv => lhs; whnf))
        case' fix3_ => (repeat' (first | (with_reducible first | exact True.intro | refine And.intro ?_ ?_ | refine Head.mk ?_ ?_ ?_ ?_) | ((conv => lhs; whnf); first | (with_reducible first | rfl | exact vInt_s (by omega)) | exact rfl) | ((conv => whnf); first | (with_reducible first | exact True.intro | refine And.intro ?_ ?_)))) <;> (try (conv => lhs; whnf))
        · exact ⟨Nat.le_refl _, by omega⟩
        rintro k g_ o_ v_ ⟨hk1, hk2⟩
        rcases Nat.lt_or_ge k M.length with hkl | hkl
        · have hch : chM M m (l ++ [(k : Int)]) (k + 1) = none := fsR_none (f := fun k => chM M m (l ++ [(k : Int)]) (k + 1)) hF.symm hk1 hkl
          (repeat' (first | (with_reducible first | exact True.intro | refine zQ ?_ | (refine zG hG_ ?_; intro K_ hK_) | (refine zR ?_; intro K_ hK_) | (refine hK_ _ _ ?_; try clear hK_ K_) | refine sq_n ?_ | refine sq_r ?_ | refine sq_e ?_ | refine bq_n ?_ | refine bq_r ?_ | refine bq_q ?_ | refine zB ?_ | refine zX ?_ | refine zT ?_ | refine zK ?_ | refine gq_n ?_ | refine gq_r ?_ | refine gq_e ?_ | refine lq_n ?_ | refine lq_r ?_ | refine lq_e ?_ | refine bq_e (by decide) ?_) | ((with_reducible refine zC (b := ?b_) ?hb_ ?_ ?_); case hb_ => rfl) | ((conv => whnf); first | (with_reducible refine hK_ _ _ ?_; try clear hK_ K_) | (with_reducible refine fun (g_ : Sl) (o_ : Ow) => ?_) | (with_reducible first | exact True.intro | refine And.intro trivial ?_ | refine And.intro ?_ ?_) | exact Nat.le_of_ble_eq_true rfl | exact Or.inl rfl | (intro h_; cases h_) | (intro h_; (try simp only [vS1] at h_)) | rfl))) <;> (try (conv => whnf)) <;> (try first | change (_ : Int) ≤ _ | change (_ : Nat) ≤ _) <;> (try ((fail_if_success (with_reducible apply Exists.intro)); (try dsimp only); (try simp only [vS1]))) <;> (try simp (disch := omega) only [vS3, Int.add_sub_cancel, tn1, tnp, tnc, vS2] at *)
          all_goals (try (fail_if_success (with_reducible apply Exists.intro)); first | with_reducible assumption | omega | exact mdl (by omega) | exact ilo1 (by omega) | exact ilo2 (by omega) | exact ihi1 (by omega) (by omega) | exact ihi2 (by omega) (by omega))
          conv => pattern (aeffV _ _ _ _); whnf
          have hres : (chLt n).res (M, l ++ [(k : Int)], (k : Int) + 1, ((m + 1 : Nat) : Int) - 1, ()) = .val (.one (.d .nil)) := by
            show chVal (chM M (((m + 1 : Nat) : Int) - 1).toNat (l ++ [(k : Int)]) ((k : Int) + 1).toNat) = _
            rw [show (((m + 1 : Nat) : Int) - 1).toNat = m by omega, show ((k : Int) + 1).toNat = k + 1 by omega, hch]; rfl
          rw [hres]
          (repeat' (first | (with_reducible first | exact True.intro | refine zQ ?_ | (refine zG hG_ ?_; intro K_ hK_) | (refine zR ?_; intro K_ hK_) | (refine hK_ _ _ ?_; try clear hK_ K_) | refine sq_n ?_ | refine sq_r ?_ | refine sq_e ?_ | refine bq_n ?_ | refine bq_r ?_ | refine bq_q ?_ | refine zB ?_ | refine zX ?_ | refine zT ?_ | refine zK ?_ | refine gq_n ?_ | refine gq_r ?_ | refine gq_e ?_ | refine lq_n ?_ | refine lq_r ?_ | refine lq_e ?_ | refine bq_e (by decide) ?_) | ((with_reducible refine zC (b := ?b_) ?hb_ ?_ ?_); case hb_ => rfl) | ((conv => whnf); first | (with_reducible refine hK_ _ _ ?_; try clear hK_ K_) | (with_reducible refine fun (g_ : Sl) (o_ : Ow) => ?_) | (with_reducible first | exact True.intro | refine And.intro trivial ?_ | refine And.intro ?_ ?_) | exact Nat.le_of_ble_eq_true rfl | exact Or.inl rfl | (intro h_; cases h_) | (intro h_; (try simp only [vS1] at h_)) | rfl))) <;> (try (conv => whnf)) <;> (try first | change (_ : Int) ≤ _ | change (_ : Nat) ≤ _) <;> (try ((fail_if_success (with_reducible apply Exists.intro)); (try dsimp only); (try simp only [vS1]))) <;> (try simp (disch := omega) only [vS3, Int.add_sub_cancel, tn1, tnp, tnc, vS2] at *)
          all_goals (try (fail_if_success (with_reducible apply Exists.intro)); first | with_reducible assumption | omega | exact mdl (by omega) | exact ilo1 (by omega) | exact ilo2 (by omega) | exact ihi1 (by omega) (by omega) | exact ihi2 (by omega) (by omega))
          · exact ⟨⟨hM, hL.app (by omega) h_⟩, ⟨by omega, by omega⟩, by omega, by rw [List.length_append, List.length_singleton]; omega, by rw [List.length_append, List.length_singleton]; omega⟩
          · exact ⟨k + 1, by omega, ⟨by omega, by omega⟩, by (repeat' (first | (with_reducible first | exact True.intro | refine And.intro ?_ ?_ | refine Head.mk ?_ ?_ ?_ ?_) | ((conv => lhs; whnf); first | (with_reducible first | rfl | exact vInt_s (by omega)) | exact rfl) | ((conv => whnf); first | (with_reducible first | exact True.intro | refine And.intro ?_ ?_)))) <;> (try (conv => lhs; whnf))⟩
        · (repeat' (first | (with_reducible first | exact True.intro | refine zQ ?_ | (refine zG hG_ ?_; intro K_ hK_) | (refine zR ?_; intro K_ hK_) | (refine hK_ _ _ ?_; try clear hK_ K_) | refine sq_n ?_ | refine sq_r ?_ | refine sq_e ?_ | refine bq_n ?_ | refine bq_r ?_ | refine bq_q ?_ | refine zB ?_ | refine zX ?_ | refine zT ?_ | refine zK ?_ | refine gq_n ?_ | refine gq_r ?_ | refine gq_e ?_ | refine lq_n ?_ | refine lq_r ?_ | refine lq_e ?_ | refine bq_e (by decide) ?_) | ((with_reducible refine zC (b := ?b_) ?hb_ ?_ ?_); case hb_ => rfl) | ((conv => whnf); first | (with_reducible refine hK_ _ _ ?_; try clear hK_ K_) | (with_reducible refine fun (g_ : Sl) (o_ : Ow) => ?_) | (with_reducible first | exact True.intro | refine And.intro trivial ?_ | refine And.intro ?_ ?_) | exact Nat.le_of_ble_eq_true rfl | exact Or.inl rfl | (intro h_; cases h_) | (intro h_; (try simp only [vS1] at h_)) | rfl))) <;> (try (conv => whnf)) <;> (try first | change (_ : Int) ≤ _ | change (_ : Nat) ≤ _) <;> (try ((fail_if_success (with_reducible apply Exists.intro)); (try dsimp only); (try simp only [vS1]))) <;> (try simp (disch := omega) only [vS3, Int.add_sub_cancel, tn1, tnp, tnc, vS2] at *)
          all_goals (try (fail_if_success (with_reducible apply Exists.intro)); first | with_reducible assumption | omega | exact mdl (by omega) | exact ilo1 (by omega) | exact ilo2 (by omega) | exact ihi1 (by omega) (by omega) | exact ihi2 (by omega) (by omega))
      | some R =>
        rw [hR] at hF
        show awp' _ _ (Fin' _ _ (rowI R)) _ _
        (repeat' (first | (with_reducible first | exact True.intro | refine zQ ?_ | (refine zG hG_ ?_; intro K_ hK_) | (refine zR ?_; intro K_ hK_) | (refine hK_ _ _ ?_; try clear hK_ K_) | refine sq_n ?_ | refine sq_r ?_ | refine sq_e ?_ | refine bq_n ?_ | refine bq_r ?_ | refine bq_q ?_ | refine zB ?_ | refine zX ?_ | refine zT ?_ | refine zK ?_ | refine gq_n ?_ | refine gq_r ?_ | refine gq_e ?_ | refine lq_n ?_ | refine lq_r ?_ | refine lq_e ?_ | refine bq_e (by decide) ?_) | ((with_reducible refine zC (b := ?b_) ?hb_ ?_ ?_); case hb_ => rfl) | ((conv => whnf); first | (with_reducible refine hK_ _ _ ?_; try clear hK_ K_) | (with_reducible refine fun (g_ : Sl) (o_ : Ow) => ?_) | (with_reducible first | exact True.intro | refine And.intro trivial ?_ | refine And.intro ?_ ?_) | exact Nat.le_of_ble_eq_true rfl | exact Or.inl rfl | (intro h_; cases h_) | (intro h_; (try simp only [vS1] at h_)) | rfl))) <;> (try (conv => whnf)) <;> (try first | change (_ : Int) ≤ _ | change (_ : Nat) ≤ _) <;> (try ((fail_if_success (with_reducible apply Exists.intro)); (try dsimp only); (try simp only [vS1]))) <;> (try simp (disch := omega) only [vS3, Int.add_sub_cancel, tn1, tnp, tnc, vS2] at *)
        all_goals (try (fail_if_success (with_reducible apply Exists.intro)); first | with_reducible assumption | omega | exact mdl (by omega) | exact ilo1 (by omega) | exact ilo2 (by omega) | exact ihi1 (by omega) (by omega) | exact ihi2 (by omega) (by omega))
        refine awp'_loopG (α := Nat) (fun k ver_ => [(9, vInt k)]) (fun k ver_ => []) (fun k ver_ => []) (fun k => (a ≤ k ∧ k ≤ 64) ∧ some R = fsR (fun k => chM M m (l ++ [(k : Int)]) (k + 1)) k M.length) (fun k => M.length - k) [0, 1, 3] [] (a) ?_
        conv => whnf
        refine ⟨⟨?inv4_, ?vals4_, ?own4_, ?fix4_⟩, ?body4_⟩
        case' vals4_ => (repeat' (first | (with_reducible first | exact True.intro | refine And.intro ?_ ?_ | refine Head.mk ?_ ?_ ?_ ?_) | ((conv => lhs; whnf); first | (with_reducible first | rfl | exact vInt_s (by omega)) | exact rfl) | ((conv => whnf); first | (with_reducible first | exact True.intro | refine And.intro ?_ ?_)))) <;> (try (conv => lhs; whnf))
        case' own4_ => (repeat' (first | (with_reducible first | exact True.intro | refine And.intro ?_ ?_ | refine Head.mk ?_ ?_ ?_ ?_) | ((conv => lhs; whnf); first | (with_reducible first | rfl | exact vInt_s (by omega)) | exact rfl) | ((conv => whnf); first | (with_reducible first | exact True.intro | refine And.intro ?_ ?_)))) <;> (try (conv => lhs; whnf))
        case' fix4_ => (repeat' (first | (with_reducible first | exact True.intro | refine And.intro ?_ ?_ | refine Head.mk ?_ ?_ ?_ ?_) | ((conv => lhs; whnf); first | (with_reducible first | rfl | exact vInt_s (by omega)) | exact rfl) | ((conv => whnf); first | (with_reducible first | exact True.intro | refine And.intro ?_ ?_)))) <;> (try (conv => lhs; whnf))
        · exact ⟨⟨Nat.le_refl _, by omega⟩, hF⟩
        rintro k g_ o_ v_ ⟨⟨hk1, hk2⟩, hk3⟩
        rcases Nat.lt_or_ge k M.length with hkl | hkl
        · cases hch : chM M m (l ++ [(k : Int)]) (k + 1) with
          | none =>
            (repeat' (first | (with_reducible first | exact True.intro | refine zQ ?_ | (refine zG hG_ ?_; intro K_ hK_) | (refine zR ?_; intro K_ hK_) | (refine hK_ _ _ ?_; try clear hK_ K_) | refine sq_n ?_ | refine sq_r ?_ | refine sq_e ?_ | refine bq_n ?_ | refine bq_r ?_ | refine bq_q ?_ | refine zB ?_ | refine zX ?_ | refine zT ?_ | refine zK ?_ | refine gq_n ?_ | refine gq_r ?_ | refine gq_e ?_ | refine lq_n ?_ | refine lq_r ?_ | refine lq_e ?_ | refine bq_e (by decide) ?_) | ((with_reducible refine zC (b := ?b_) ?hb_ ?_ ?_); case hb_ => rfl) | ((conv => whnf); first | (with_reducible refine hK_ _ _ ?_; try clear hK_ K_) | (with_reducible refine fun (g_ : Sl) (o_ : Ow) => ?_) | (with_reducible first | exact True.intro | refine And.intro trivial ?_ | refine And.intro ?_ ?_) | exact Nat.le_of_ble_eq_true rfl | exact Or.inl rfl | (intro h_; cases h_) | (intro h_; (try simp only [vS1] at h_)) | rfl))) <;> (try (conv => whnf)) <;> (try first | change (_ : Int) ≤ _ | change (_ : Nat) ≤ _) <;> (try ((fail_if_success (with_reducible apply Exists.intro)); (try dsimp only); (try simp only [vS1]))) <;> (try simp (disch := omega) only [vS3, Int.add_sub_cancel, tn1, tnp, tnc, vS2] at *)
            all_goals (try (fail_if_success (with_reducible apply Exists.intro)); first | with_reducible assumption | omega | exact mdl (by omega) | exact ilo1 (by omega) | exact ilo2 (by omega) | exact ihi1 (by omega) (by omega) | exact ihi2 (by omega) (by omega))
            conv => pattern (aeffV _ _ _ _); whnf
            have hres : (chLt n).res (M, l ++ [(k : Int)], (k : Int) + 1, ((m + 1 : Nat) : Int) - 1, ()) = .val (.one (.d .nil)) := by
              show chVal (chM M (((m + 1 : Nat) : Int) - 1).toNat (l ++ [(k : Int)]) ((k : Int) + 1).toNat) = _
              rw [show (((m + 1 : Nat) : Int) - 1).toNat = m by omega, show ((k : Int) + 1).toNat = k + 1 by omega, hch]; rfl
            rw [hres]
            (repeat' (first | (with_reducible first | exact True.intro | refine zQ ?_ | (refine zG hG_ ?_; intro K_ hK_) | (refine zR ?_; intro K_ hK_) | (refine hK_ _ _ ?_; try clear hK_ K_) | refine sq_n ?_ | refine sq_r ?_ | refine sq_e ?_ | refine bq_n ?_ | refine bq_r ?_ | refine bq_q ?_ | refine zB ?_ | refine zX ?_ | refine zT ?_ | refine zK ?_ | refine gq_n ?_ | refine gq_r ?_ | refine gq_e ?_ | refine lq_n ?_ | refine lq_r ?_ | refine lq_e ?_ | refine bq_e (by decide) ?_) | ((with_reducible refine zC (b := ?b_) ?hb_ ?_ ?_); case hb_ => rfl) | ((conv => whnf); first | (with_reducible refine hK_ _ _ ?_; try clear hK_ K_) | (with_reducible refine fun (g_ : Sl) (o_ : Ow) => ?_) | (with_reducible first | exact True.intro | refine And.intro trivial ?_ | refine And.intro ?_ ?_) | exact Nat.le_of_ble_eq_true rfl | exact Or.inl rfl | (intro h_; cases h_) | (intro h_; (try simp only [vS1] at h_)) | rfl))) <;> (try (conv => whnf)) <;> (try first | change (_ : Int) ≤ _ | change (_ : Nat) ≤ _) <;> (try ((fail_if_success (with_reducible apply Exists.intro)); (try dsimp only); (try simp only [vS1]))) <;> (try simp (disch := omega) only [vS3, Int.add_sub_cancel, tn1, tnp, tnc, vS2] at *)
            all_goals (try (fail_if_success (with_reducible apply Exists.intro)); first | with_reducible assumption | omega | exact mdl (by omega) | exact ilo1 (by omega) | exact ilo2 (by omega) | exact ihi1 (by omega) (by omega) | exact ihi2 (by omega) (by omega))
            · exact ⟨⟨hM, hL.app (by omega) h_⟩, ⟨by omega, by omega⟩, by omega, by rw [List.length_append, List.length_singleton]; omega, by rw [List.length_append, List.length_singleton]; omega⟩
            · exact ⟨k + 1, by omega, ⟨⟨by omega, by omega⟩, hk3.trans (fsR_no hkl hch)⟩, by (repeat' (first | (with_reducible first | exact True.intro | refine And.intro ?_ ?_ | refine Head.mk ?_ ?_ ?_ ?_) | ((conv => lhs; whnf); first | (with_reducible first | rfl | exact vInt_s (by omega)) | exact rfl) | ((conv => whnf); first | (with_reducible first | exact True.intro | refine And.intro ?_ ?_)))) <;> (try (conv => lhs; whnf))⟩
          | some r =>
            have hrl : 0 < r.length := by rw [ch_len M m _ _ r hch, List.length_append, List.length_singleton]; omega
            have hRr : R = r := by
              have := hk3.trans (fsR_yes hkl hch)
              injection this
            (repeat' (first | (with_reducible first | exact True.intro | refine zQ ?_ | (refine zG hG_ ?_; intro K_ hK_) | (refine zR ?_; intro K_ hK_) | (refine hK_ _ _ ?_; try clear hK_ K_) | refine sq_n ?_ | refine sq_r ?_ | refine sq_e ?_ | refine bq_n ?_ | refine bq_r ?_ | refine bq_q ?_ | refine zB ?_ | refine zX ?_ | refine zT ?_ | refine zK ?_ | refine gq_n ?_ | refine gq_r ?_ | refine gq_e ?_ | refine lq_n ?_ | refine lq_r ?_ | refine lq_e ?_ | refine bq_e (by decide) ?_) | ((with_reducible refine zC (b := ?b_) ?hb_ ?_ ?_); case hb_ => rfl) | ((conv => whnf); first | (with_reducible refine hK_ _ _ ?_; try clear hK_ K_) | (with_reducible refine fun (g_ : Sl) (o_ : Ow) => ?_) | (with_reducible first | exact True.intro | refine And.intro trivial ?_ | refine And.intro ?_ ?_) | exact Nat.le_of_ble_eq_true rfl | exact Or.inl rfl | (intro h_; cases h_) | (intro h_; (try simp only [vS1] at h_)) | rfl))) <;> (try (conv => whnf)) <;> (try first | change (_ : Int) ≤ _ | change (_ : Nat) ≤ _) <;> (try ((fail_if_success (with_reducible apply Exists.intro)); (try dsimp only); (try simp only [vS1]))) <;> (try simp (disch := omega) only [vS3, Int.add_sub_cancel, tn1, tnp, tnc, vS2] at *)
            all_goals (try (fail_if_success (with_reducible apply Exists.intro)); first | with_reducible assumption | omega | exact mdl (by omega) | exact ilo1 (by omega) | exact ilo2 (by omega) | exact ihi1 (by omega) (by omega) | exact ihi2 (by omega) (by omega))
            conv => pattern (aeffV _ _ _ _); whnf
            have hres : (chLt n).res (M, l ++ [(k : Int)], (k : Int) + 1, ((m + 1 : Nat) : Int) - 1, ()) = rowI r := by
              show chVal (chM M (((m + 1 : Nat) : Int) - 1).toNat (l ++ [(k : Int)]) ((k : Int) + 1).toNat) = _
              rw [show (((m + 1 : Nat) : Int) - 1).toNat = m by omega, show ((k : Int) + 1).toNat = k + 1 by omega, hch]; rfl
            rw [hres]
            (repeat' (first | (with_reducible first | exact True.intro | refine zQ ?_ | (refine zG hG_ ?_; intro K_ hK_) | (refine zR ?_; intro K_ hK_) | (refine hK_ _ _ ?_; try clear hK_ K_) | refine sq_n ?_ | refine sq_r ?_ | refine sq_e ?_ | refine bq_n ?_ | refine bq_r ?_ | refine bq_q ?_ | refine zB ?_ | refine zX ?_ | refine zT ?_ | refine zK ?_ | refine gq_n ?_ | refine gq_r ?_ | refine gq_e ?_ | refine lq_n ?_ | refine lq_r ?_ | refine lq_e ?_ | refine bq_e (by decide) ?_) | ((with_reducible refine zC (b := ?b_) ?hb_ ?_ ?_); case hb_ => rfl) | ((conv => whnf); first | (with_reducible refine hK_ _ _ ?_; try clear hK_ K_) | (with_reducible refine fun (g_ : Sl) (o_ : Ow) => ?_) | (with_reducible first | exact True.intro | refine And.intro trivial ?_ | refine And.intro ?_ ?_) | exact Nat.le_of_ble_eq_true rfl | exact Or.inl rfl | (intro h_; cases h_) | (intro h_; (try simp only [vS1] at h_)) | rfl))) <;> (try (conv => whnf)) <;> (try first | change (_ : Int) ≤ _ | change (_ : Nat) ≤ _) <;> (try ((fail_if_success (with_reducible apply Exists.intro)); (try dsimp only); (try simp only [vS1]))) <;> (try simp (disch := omega) only [vS3, Int.add_sub_cancel, tn1, tnp, tnc, vS2] at *)
            all_goals (try (fail_if_success (with_reducible apply Exists.intro)); first | with_reducible assumption | omega | exact mdl (by omega) | exact ilo1 (by omega) | exact ilo2 (by omega) | exact ihi1 (by omega) (by omega) | exact ihi2 (by omega) (by omega))
            · exact ⟨⟨hM, hL.app (by omega) h_⟩, ⟨by omega, by omega⟩, by omega, by rw [List.length_append, List.length_singleton]; omega, by rw [List.length_append, List.length_singleton]; omega⟩
            · exact congrArg some hRr.symm
        · rw [fsR_end hkl] at hk3
          cases hk3
theorem choose_ok : Good1 Try.prog n_impl_choose chooseC := by
  refine Good1.imp (ch_all 65) fun x h => ⟨⟨h, ?_⟩, rfl⟩
  obtain ⟨-, -, -, h4, -⟩ := h.ok
  exact Int.lt_of_le_of_lt (Int.le_trans (Int.le_add_of_nonneg_left (Int.natCast_nonneg _)) h4) (by decide)
theorem masks_len (xs : List Pt) : (masksM xs).length = xs.length := by simp [masksM]
theorem masks_get {xs : List Pt} {k : Nat} (h : k < xs.length) : (masksM xs).getD k [] = maskM xs k := by
  unfold masksM
  rw [getD_lt _ (by simpa using h), List.getElem_map, List.getElem_range]
theorem mask_yes {xs : List Pt} (hr : roomOk xs = true) {k : Nat} (h : k < xs.length) : maskM xs k = (floorPts xs).map (seesS xs (pAt xs k)) := mask_ok (by unfold hasCor; rw [hr]; simp [btw]; omega)
theorem floor_le {xs : List Pt} (hr : roomOk xs = true) : (floorPts xs).length ≤ 1048576 := Nat.le_trans (floor_len xs) (by decide)
theorem masks_ok {xs : List Pt} (hr : roomOk xs = true) : MOk (masksM xs) := by
  have hxl := room_len hr
  have hl : ∀ k, k < xs.length → ((masksM xs).getD k []).length = (floorPts xs).length := fun k hk => by rw [masks_get hk, mask_yes hr hk, List.length_map]
  have hf := floor_le hr
  have hw : wid (masksM xs) = (floorPts xs).length := hl 0 (by omega)
  refine ⟨by rw [masks_len]; omega, by rw [masks_len]; omega, fun k hk => ?_, by rw [hw]; omega⟩
  rw [masks_len] at hk
  rw [hl k hk, hw]
def masksTo (xs : List Pt) (k : Nat) : Msk := (List.range k).map fun j : Nat => maskM xs j
theorem masksTo_succ (xs : List Pt) (k : Nat) : masksTo xs k ++ [maskM xs k] = masksTo xs (k + 1) := by unfold masksTo; rw [List.range_succ, List.map_append]; rfl
theorem masksTo_len (xs : List Pt) (k : Nat) : (masksTo xs k).length = k := by simp [masksTo]
def fewC : Con := mkCon [.room] (fun x => x.1.length ≤ 1048576) fun x => rowI (fewM x.1)
theorem few_bad {xs : List Pt} (h : roomOk xs = false) : fewM xs = [] := by unfold fewM; rw [h]; rfl
theorem few_ok {xs : List Pt} (h : roomOk xs = true) : fewM xs = (fewO (masksM xs)).getD [] := by unfold fewM; rw [h]; rfl
theorem lok_nil (M : Msk) : LOk M [] := ⟨by simp, fun j hj => by simp at hj⟩
theorem iFewest_ok : Good1 Try.prog n_impl_FewestCorners fewC := by
  refine good_ofG (tys := tyL) (env := [(n_impl_RoomOk, roomOkC), (n_impl_SeenMask, maskC), (n_impl_choose, chooseC)]) (envw := []) (envd := []) [10, 20, 22, 32] [] [] [20] [] mixed tys ⟨iRoomOk_ok, iSeenMask_ok, choose_ok, trivial⟩ trivial trivial Try.func33 rfl (by kernel_rfl) (by decide) (by kernel_rfl) ?_
  have hG_ := kpz [(0, [1]), (1, [1, 9]), (2, [2]), (3, [1, 3]), (4, [1, 3, 13, 14]), (5, [1, 3, 13, 14, 15]), (6, [1, 3, 4, 13, 14]), (7, [1, 3, 13, 14]), (8, [1, 3, 13, 14]), (9, [3, 5]), (10, [3, 5, 27]), (11, [3, 5]), (12, [3, 5, 6]), (13, [3, 5, 6, 34]), (14, [2]), (15, [2])] [(3, [10]), (4, [10]), (5, [10]), (6, [10]), (7, [10, 20]), (8, [10, 20]), (9, [10]), (10, [10]), (11, [10, 32]), (12, [10, 32]), (13, [10, 32]), (14, [10, 32]), (15, [10])] [] []
  rintro ⟨(xs : List Pt), ⟨⟩⟩ (h1 : xs.length ≤ _)
  (repeat' (first | (with_reducible first | exact True.intro | refine zQ ?_ | (refine zG hG_ ?_; intro K_ hK_) | (refine zR ?_; intro K_ hK_) | (refine hK_ _ _ ?_; try clear hK_ K_) | refine sq_n ?_ | refine sq_r ?_ | refine sq_e ?_ | refine bq_n ?_ | refine bq_r ?_ | refine bq_q ?_ | refine zB ?_ | refine zX ?_ | refine zT ?_ | refine zK ?_ | refine gq_n ?_ | refine gq_r ?_ | refine gq_e ?_ | refine lq_n ?_ | refine lq_r ?_ | refine lq_e ?_ | refine bq_e (by decide) ?_) | ((with_reducible refine zC (b := ?b_) ?hb_ ?_ ?_); case hb_ => rfl) | ((conv => whnf); first | (with_reducible refine hK_ _ _ ?_; try clear hK_ K_) | (with_reducible refine fun (g_ : Sl) (o_ : Ow) => ?_) | (with_reducible first | exact True.intro | refine And.intro trivial ?_ | refine And.intro ?_ ?_) | exact Nat.le_of_ble_eq_true rfl | exact Or.inl rfl | (intro h_; cases h_) | (intro h_; (try simp only [vS1] at h_)) | rfl))) <;> (try (conv => whnf)) <;> (try first | change (_ : Int) ≤ _ | change (_ : Nat) ≤ _) <;> (try ((fail_if_success (with_reducible apply Exists.intro)); (try dsimp only); (try simp only [vS1]))) <;> (try simp (disch := omega) only [vS3, Int.add_sub_cancel, tn1, tnp, tnc, vS2] at *)
  all_goals (try (fail_if_success (with_reducible apply Exists.intro)); first | with_reducible assumption | omega | exact mdl (by omega) | exact ilo1 (by omega) | exact ilo2 (by omega) | exact ihi1 (by omega) (by omega) | exact ihi2 (by omega) (by omega))
  · exact few_bad h_
  have hr : roomOk xs = true := h_
  have hxl := room_len hr
  have hmo := masks_ok hr
  refine awp'_loopG (α := Nat) (fun k ver_ => [(14, vInt k)]) (fun k ver_ => [(3, 10, false, .row t_sl_bool (.s .bool) (masksTo xs k))]) (fun k ver_ => []) (fun k => k ≤ xs.length) (fun k => xs.length - k) [1, 13] [] (0) ?_
  conv => whnf
  refine ⟨⟨?inv5_, ?vals5_, ?own5_, ?fix5_⟩, ?body5_⟩
  case' vals5_ => (repeat' (first | (with_reducible first | exact True.intro | refine And.intro ?_ ?_ | refine Head.mk ?_ ?_ ?_ ?_) | ((conv => lhs; whnf); first | (with_reducible first | rfl | exact vInt_s (by omega)) | exact rfl) | ((conv => whnf); first | (with_reducible first | exact True.intro | refine And.intro ?_ ?_)))) <;> (try (conv => lhs; whnf))
  case' own5_ => (repeat' (first | (with_reducible first | exact True.intro | refine And.intro ?_ ?_ | refine Head.mk ?_ ?_ ?_ ?_) | ((conv => lhs; whnf); first | (with_reducible first | rfl | exact vInt_s (by omega)) | exact rfl) | ((conv => whnf); first | (with_reducible first | exact True.intro | refine And.intro ?_ ?_)))) <;> (try (conv => lhs; whnf))
  case' fix5_ => (repeat' (first | (with_reducible first | exact True.intro | refine And.intro ?_ ?_ | refine Head.mk ?_ ?_ ?_ ?_) | ((conv => lhs; whnf); first | (with_reducible first | rfl | exact vInt_s (by omega)) | exact rfl) | ((conv => whnf); first | (with_reducible first | exact True.intro | refine And.intro ?_ ?_)))) <;> (try (conv => lhs; whnf))
  · exact Nat.zero_le _
  rintro k g_ o_ v_ hk
  have hml := masksTo_len xs k
  (repeat' (first | (with_reducible first | exact True.intro | refine zQ ?_ | (refine zG hG_ ?_; intro K_ hK_) | (refine zR ?_; intro K_ hK_) | (refine hK_ _ _ ?_; try clear hK_ K_) | refine sq_n ?_ | refine sq_r ?_ | refine sq_e ?_ | refine bq_n ?_ | refine bq_r ?_ | refine bq_q ?_ | refine zB ?_ | refine zX ?_ | refine zT ?_ | refine zK ?_ | refine gq_n ?_ | refine gq_r ?_ | refine gq_e ?_ | refine lq_n ?_ | refine lq_r ?_ | refine lq_e ?_ | refine bq_e (by decide) ?_) | ((with_reducible refine zC (b := ?b_) ?hb_ ?_ ?_); case hb_ => rfl) | ((conv => whnf); first | (with_reducible refine hK_ _ _ ?_; try clear hK_ K_) | (with_reducible refine fun (g_ : Sl) (o_ : Ow) => ?_) | (with_reducible first | exact True.intro | refine And.intro trivial ?_ | refine And.intro ?_ ?_) | exact Nat.le_of_ble_eq_true rfl | exact Or.inl rfl | (intro h_; cases h_) | (intro h_; (try simp only [vS1] at h_)) | rfl))) <;> (try (conv => whnf)) <;> (try first | change (_ : Int) ≤ _ | change (_ : Nat) ≤ _) <;> (try ((fail_if_success (with_reducible apply Exists.intro)); (try dsimp only); (try simp only [vS1]))) <;> (try simp (disch := omega) only [vS3, Int.add_sub_cancel, tn1, tnp, tnc, vS2] at *)
  all_goals (try (fail_if_success (with_reducible apply Exists.intro)); first | with_reducible assumption | omega | exact mdl (by omega) | exact ilo1 (by omega) | exact ilo2 (by omega) | exact ihi1 (by omega) (by omega) | exact ihi2 (by omega) (by omega))
  · refine ⟨k + 1, by omega, by omega, ?_⟩
    (repeat' (first | (with_reducible first | exact True.intro | refine And.intro ?_ ?_ | refine Head.mk ?_ ?_ ?_ ?_) | ((conv => lhs; whnf); first | (with_reducible first | rfl | exact vInt_s (by omega)) | exact rfl) | ((conv => whnf); first | (with_reducible first | exact True.intro | refine And.intro ?_ ?_)))) <;> (try (conv => lhs; whnf))
    exact congrArg (Own.row t_sl_bool (.s .bool)) (masksTo_succ xs k)
  obtain rfl : k = xs.length := by omega
  refine st_frz (pl := [10]) (ts := [3, 5]) (ps := []) ?_
  conv => whnf
  refine ⟨rfl, ?_⟩
  have hMl := masks_len xs
  have hfo : fewO (masksM xs) = fsR (fun n => chM (masksM xs) n [] 0) 1 (xs.length + 1) := by unfold fewO; rw [hMl]
  have hme : masksTo xs xs.length = masksM xs := rfl
  rw [hme]
  have hfw := few_ok hr
  generalize masksM xs = M at *
  refine awp'_loopG (α := Nat) (fun n ver_ => [(5, vInt n)]) (fun n ver_ => []) (fun n ver_ => []) (fun n => (1 ≤ n ∧ n ≤ xs.length + 1) ∧ fewO M = fsR (fun n => chM M n [] 0) n (xs.length + 1)) (fun n => xs.length + 1 - n) [3] [10] (1) ?_
  conv => whnf
  refine ⟨⟨?inv6_, ?vals6_, ?own6_, ?fix6_⟩, ?body6_⟩
  case' vals6_ => (repeat' (first | (with_reducible first | exact True.intro | refine And.intro ?_ ?_ | refine Head.mk ?_ ?_ ?_ ?_) | ((conv => lhs; whnf); first | (with_reducible first | rfl | exact vInt_s (by omega)) | exact rfl) | ((conv => whnf); first | (with_reducible first | exact True.intro | refine And.intro ?_ ?_)))) <;> (try (conv => lhs; whnf))
  case' own6_ => (repeat' (first | (with_reducible first | exact True.intro | refine And.intro ?_ ?_ | refine Head.mk ?_ ?_ ?_ ?_) | ((conv => lhs; whnf); first | (with_reducible first | rfl | exact vInt_s (by omega)) | exact rfl) | ((conv => whnf); first | (with_reducible first | exact True.intro | refine And.intro ?_ ?_)))) <;> (try (conv => lhs; whnf))
  case' fix6_ => (repeat' (first | (with_reducible first | exact True.intro | refine And.intro ?_ ?_ | refine Head.mk ?_ ?_ ?_ ?_) | ((conv => lhs; whnf); first | (with_reducible first | rfl | exact vInt_s (by omega)) | exact rfl) | ((conv => whnf); first | (with_reducible first | exact True.intro | refine And.intro ?_ ?_)))) <;> (try (conv => lhs; whnf))
  · exact ⟨⟨Nat.le_refl _, by omega⟩, hfo⟩
  rintro n g_ o_ v_ ⟨⟨hn1, hn2⟩, hn3⟩
  rcases Nat.lt_or_ge n (xs.length + 1) with hnl | hnl
  · have hpre : ChOk M [] 0 n := ⟨⟨hmo, lok_nil M⟩, ⟨by omega, by omega⟩, by omega, by simp; omega, by simp; omega⟩
    cases hch : chM M n [] 0 with
    | none =>
      (repeat' (first | (with_reducible first | exact True.intro | refine zQ ?_ | (refine zG hG_ ?_; intro K_ hK_) | (refine zR ?_; intro K_ hK_) | (refine hK_ _ _ ?_; try clear hK_ K_) | refine sq_n ?_ | refine sq_r ?_ | refine sq_e ?_ | refine bq_n ?_ | refine bq_r ?_ | refine bq_q ?_ | refine zB ?_ | refine zX ?_ | refine zT ?_ | refine zK ?_ | refine gq_n ?_ | refine gq_r ?_ | refine gq_e ?_ | refine lq_n ?_ | refine lq_r ?_ | refine lq_e ?_ | refine bq_e (by decide) ?_) | ((with_reducible refine zC (b := ?b_) ?hb_ ?_ ?_); case hb_ => rfl) | ((conv => whnf); first | (with_reducible refine hK_ _ _ ?_; try clear hK_ K_) | (with_reducible refine fun (g_ : Sl) (o_ : Ow) => ?_) | (with_reducible first | exact True.intro | refine And.intro trivial ?_ | refine And.intro ?_ ?_) | exact Nat.le_of_ble_eq_true rfl | exact Or.inl rfl | (intro h_; cases h_) | (intro h_; (try simp only [vS1] at h_)) | rfl))) <;> (try (conv => whnf)) <;> (try first | change (_ : Int) ≤ _ | change (_ : Nat) ≤ _) <;> (try ((fail_if_success (with_reducible apply Exists.intro)); (try dsimp only); (try simp only [vS1]))) <;> (try simp (disch := omega) only [vS3, Int.add_sub_cancel, tn1, tnp, tnc, vS2] at *)
      all_goals (try (fail_if_success (with_reducible apply Exists.intro)); first | with_reducible assumption | omega | exact mdl (by omega) | exact ilo1 (by omega) | exact ilo2 (by omega) | exact ihi1 (by omega) (by omega) | exact ihi2 (by omega) (by omega))
      conv => pattern (aeffV _ _ _ _); whnf
      have hres : chooseC.res (M, ([] : List Int), (0 : Int), (n : Int), ()) = .val (.one (.d .nil)) := by
        show chVal (chM M n [] 0) = _
        rw [hch]; rfl
      rw [hres]
      (repeat' (first | (with_reducible first | exact True.intro | refine zQ ?_ | (refine zG hG_ ?_; intro K_ hK_) | (refine zR ?_; intro K_ hK_) | (refine hK_ _ _ ?_; try clear hK_ K_) | refine sq_n ?_ | refine sq_r ?_ | refine sq_e ?_ | refine bq_n ?_ | refine bq_r ?_ | refine bq_q ?_ | refine zB ?_ | refine zX ?_ | refine zT ?_ | refine zK ?_ | refine gq_n ?_ | refine gq_r ?_ | refine gq_e ?_ | refine lq_n ?_ | refine lq_r ?_ | refine lq_e ?_ | refine bq_e (by decide) ?_) | ((with_reducible refine zC (b := ?b_) ?hb_ ?_ ?_); case hb_ => rfl) | ((conv => whnf); first | (with_reducible refine hK_ _ _ ?_; try clear hK_ K_) | (with_reducible refine fun (g_ : Sl) (o_ : Ow) => ?_) | (with_reducible first | exact True.intro | refine And.intro trivial ?_ | refine And.intro ?_ ?_) | exact Nat.le_of_ble_eq_true rfl | exact Or.inl rfl | (intro h_; cases h_) | (intro h_; (try simp only [vS1] at h_)) | rfl))) <;> (try (conv => whnf)) <;> (try first | change (_ : Int) ≤ _ | change (_ : Nat) ≤ _) <;> (try ((fail_if_success (with_reducible apply Exists.intro)); (try dsimp only); (try simp only [vS1]))) <;> (try simp (disch := omega) only [vS3, Int.add_sub_cancel, tn1, tnp, tnc, vS2] at *)
      all_goals (try (fail_if_success (with_reducible apply Exists.intro)); first | with_reducible assumption | omega | exact mdl (by omega) | exact ilo1 (by omega) | exact ilo2 (by omega) | exact ihi1 (by omega) (by omega) | exact ihi2 (by omega) (by omega))
      exact ⟨n + 1, by omega, ⟨⟨by omega, by omega⟩, hn3.trans (fsR_no (by omega) hch)⟩, by (repeat' (first | (with_reducible first | exact True.intro | refine And.intro ?_ ?_ | refine Head.mk ?_ ?_ ?_ ?_) | ((conv => lhs; whnf); first | (with_reducible first | rfl | exact vInt_s (by omega)) | exact rfl) | ((conv => whnf); first | (with_reducible first | exact True.intro | refine And.intro ?_ ?_)))) <;> (try (conv => lhs; whnf))⟩
    | some r =>
      have hrl := ch_len M n [] 0 r hch
      (repeat' (first | (with_reducible first | exact True.intro | refine zQ ?_ | (refine zG hG_ ?_; intro K_ hK_) | (refine zR ?_; intro K_ hK_) | (refine hK_ _ _ ?_; try clear hK_ K_) | refine sq_n ?_ | refine sq_r ?_ | refine sq_e ?_ | refine bq_n ?_ | refine bq_r ?_ | refine bq_q ?_ | refine zB ?_ | refine zX ?_ | refine zT ?_ | refine zK ?_ | refine gq_n ?_ | refine gq_r ?_ | refine gq_e ?_ | refine lq_n ?_ | refine lq_r ?_ | refine lq_e ?_ | refine bq_e (by decide) ?_) | ((with_reducible refine zC (b := ?b_) ?hb_ ?_ ?_); case hb_ => rfl) | ((conv => whnf); first | (with_reducible refine hK_ _ _ ?_; try clear hK_ K_) | (with_reducible refine fun (g_ : Sl) (o_ : Ow) => ?_) | (with_reducible first | exact True.intro | refine And.intro trivial ?_ | refine And.intro ?_ ?_) | exact Nat.le_of_ble_eq_true rfl | exact Or.inl rfl | (intro h_; cases h_) | (intro h_; (try simp only [vS1] at h_)) | rfl))) <;> (try (conv => whnf)) <;> (try first | change (_ : Int) ≤ _ | change (_ : Nat) ≤ _) <;> (try ((fail_if_success (with_reducible apply Exists.intro)); (try dsimp only); (try simp only [vS1]))) <;> (try simp (disch := omega) only [vS3, Int.add_sub_cancel, tn1, tnp, tnc, vS2] at *)
      all_goals (try (fail_if_success (with_reducible apply Exists.intro)); first | with_reducible assumption | omega | exact mdl (by omega) | exact ilo1 (by omega) | exact ilo2 (by omega) | exact ihi1 (by omega) (by omega) | exact ihi2 (by omega) (by omega))
      conv => pattern (aeffV _ _ _ _); whnf
      have hres : chooseC.res (M, ([] : List Int), (0 : Int), (n : Int), ()) = rowI r := by
        show chVal (chM M n [] 0) = _
        rw [hch]; rfl
      rw [hres]
      (repeat' (first | (with_reducible first | exact True.intro | refine zQ ?_ | (refine zG hG_ ?_; intro K_ hK_) | (refine zR ?_; intro K_ hK_) | (refine hK_ _ _ ?_; try clear hK_ K_) | refine sq_n ?_ | refine sq_r ?_ | refine sq_e ?_ | refine bq_n ?_ | refine bq_r ?_ | refine bq_q ?_ | refine zB ?_ | refine zX ?_ | refine zT ?_ | refine zK ?_ | refine gq_n ?_ | refine gq_r ?_ | refine gq_e ?_ | refine lq_n ?_ | refine lq_r ?_ | refine lq_e ?_ | refine bq_e (by decide) ?_) | ((with_reducible refine zC (b := ?b_) ?hb_ ?_ ?_); case hb_ => rfl) | ((conv => whnf); first | (with_reducible refine hK_ _ _ ?_; try clear hK_ K_) | (with_reducible refine fun (g_ : Sl) (o_ : Ow) => ?_) | (with_reducible first | exact True.intro | refine And.intro trivial ?_ | refine And.intro ?_ ?_) | exact Nat.le_of_ble_eq_true rfl | exact Or.inl rfl | (intro h_; cases h_) | (intro h_; (try simp only [vS1] at h_)) | rfl))) <;> (try (conv => whnf)) <;> (try first | change (_ : Int) ≤ _ | change (_ : Nat) ≤ _) <;> (try ((fail_if_success (with_reducible apply Exists.intro)); (try dsimp only); (try simp only [vS1]))) <;> (try simp (disch := omega) only [vS3, Int.add_sub_cancel, tn1, tnp, tnc, vS2] at *)
      all_goals (try (fail_if_success (with_reducible apply Exists.intro)); first | with_reducible assumption | omega | exact mdl (by omega) | exact ilo1 (by omega) | exact ilo2 (by omega) | exact ihi1 (by omega) (by omega) | exact ihi2 (by omega) (by omega))
      exact congrArg some (by rw [hfw, hn3.trans (fsR_yes (by omega) hch)]; rfl)
  · (repeat' (first | (with_reducible first | exact True.intro | refine zQ ?_ | (refine zG hG_ ?_; intro K_ hK_) | (refine zR ?_; intro K_ hK_) | (refine hK_ _ _ ?_; try clear hK_ K_) | refine sq_n ?_ | refine sq_r ?_ | refine sq_e ?_ | refine bq_n ?_ | refine bq_r ?_ | refine bq_q ?_ | refine zB ?_ | refine zX ?_ | refine zT ?_ | refine zK ?_ | refine gq_n ?_ | refine gq_r ?_ | refine gq_e ?_ | refine lq_n ?_ | refine lq_r ?_ | refine lq_e ?_ | refine bq_e (by decide) ?_) | ((with_reducible refine zC (b := ?b_) ?hb_ ?_ ?_); case hb_ => rfl) | ((conv => whnf); first | (with_reducible refine hK_ _ _ ?_; try clear hK_ K_) | (with_reducible refine fun (g_ : Sl) (o_ : Ow) => ?_) | (with_reducible first | exact True.intro | refine And.intro trivial ?_ | refine And.intro ?_ ?_) | exact Nat.le_of_ble_eq_true rfl | exact Or.inl rfl | (intro h_; cases h_) | (intro h_; (try simp only [vS1] at h_)) | rfl))) <;> (try (conv => whnf)) <;> (try first | change (_ : Int) ≤ _ | change (_ : Nat) ≤ _) <;> (try ((fail_if_success (with_reducible apply Exists.intro)); (try dsimp only); (try simp only [vS1]))) <;> (try simp (disch := omega) only [vS3, Int.add_sub_cancel, tn1, tnp, tnc, vS2] at *)
    all_goals (try (fail_if_success (with_reducible apply Exists.intro)); first | with_reducible assumption | omega | exact mdl (by omega) | exact ilo1 (by omega) | exact ilo2 (by omega) | exact ihi1 (by omega) (by omega) | exact ihi2 (by omega) (by omega))
    rw [hfw, hn3, fsR_end (by omega)]; rfl
def cntC : Con := mkCon [.room] (fun x => x.1.length ≤ 1048576) fun x => vI ((fewM x.1).length)
theorem iCount_ok : Good1 Try.prog n_impl_CountGuards cntC := by
  refine good_ofG (tys := tyL) (env := [(n_impl_FewestCorners, fewC)]) (envw := []) (envd := []) [] [] [] [] [] mixed tys ⟨iFewest_ok, trivial⟩ trivial trivial Try.func37 rfl (by kernel_rfl) (by decide) (by kernel_rfl) ?_
  have hG_ := kpz [(0, [1]), (1, [2])] [] [] []
  rintro ⟨(xs : List Pt), ⟨⟩⟩ (h1 : xs.length ≤ _)
  (repeat' (first | (with_reducible first | exact True.intro | refine zQ ?_ | (refine zG hG_ ?_; intro K_ hK_) | (refine zR ?_; intro K_ hK_) | (refine hK_ _ _ ?_; try clear hK_ K_) | refine sq_n ?_ | refine sq_r ?_ | refine sq_e ?_ | refine bq_n ?_ | refine bq_r ?_ | refine bq_q ?_ | refine zB ?_ | refine zX ?_ | refine zT ?_ | refine zK ?_ | refine gq_n ?_ | refine gq_r ?_ | refine gq_e ?_ | refine lq_n ?_ | refine lq_r ?_ | refine lq_e ?_ | refine bq_e (by decide) ?_) | ((with_reducible refine zC (b := ?b_) ?hb_ ?_ ?_); case hb_ => rfl) | ((conv => whnf); first | (with_reducible refine hK_ _ _ ?_; try clear hK_ K_) | (with_reducible refine fun (g_ : Sl) (o_ : Ow) => ?_) | (with_reducible first | exact True.intro | refine And.intro trivial ?_ | refine And.intro ?_ ?_) | exact Nat.le_of_ble_eq_true rfl | exact Or.inl rfl | (intro h_; cases h_) | (intro h_; (try simp only [vS1] at h_)) | rfl))) <;> (try (conv => whnf)) <;> (try first | change (_ : Int) ≤ _ | change (_ : Nat) ≤ _) <;> (try ((fail_if_success (with_reducible apply Exists.intro)); (try dsimp only); (try simp only [vS1])))
  all_goals (try (fail_if_success (with_reducible apply Exists.intro)); first | with_reducible assumption | omega | exact mdl (by omega) | exact ilo1 (by omega) | exact ilo2 (by omega) | exact ihi1 (by omega) (by omega) | exact ihi2 (by omega) (by omega))
end Go.Proofs.Ytnepfcnlngpchaa
namespace Go.Proofs.Ytnepfcnlngpchaa
open Go.RowKit Go.Proofs.Ytnepfcnlngpchaa.Nm
set_option maxRecDepth 10000
set_option maxHeartbeats 2000000
def copyC : Con := mkCon [.sl (.b .pt)] (fun x => x.1.length ≤ 1048576) fun x => ptRow x.1
theorem copyPoints_ok : Good1 Try.prog n_impl_copyPoints copyC := by
  refine good_ofG (tys := tyL) (env := []) (envw := []) (envd := []) [3] [] [] [] [] mixed tys trivial trivial trivial Try.func80 rfl (by kernel_rfl) (by decide) (by kernel_rfl) ?_
  have hG_ := kpz [(0, [0]), (1, [2])] [(1, [3])] [] []
  rintro ⟨(xs : List Pt), ⟨⟩⟩ (h1 : xs.length ≤ _)
  (repeat' (first | (with_reducible first | exact True.intro | refine zQ ?_ | (refine zG hG_ ?_; intro K_ hK_) | (refine zR ?_; intro K_ hK_) | (refine hK_ _ _ ?_; try clear hK_ K_) | refine sq_n ?_ | refine sq_r ?_ | refine sq_e ?_ | refine bq_n ?_ | refine bq_r ?_ | refine bq_q ?_ | refine zB ?_ | refine zX ?_ | refine zT ?_ | refine zK ?_ | refine gq_n ?_ | refine gq_r ?_ | refine gq_e ?_ | refine lq_n ?_ | refine lq_r ?_ | refine lq_e ?_ | refine bq_e (by decide) ?_) | ((with_reducible refine zC (b := ?b_) ?hb_ ?_ ?_); case hb_ => rfl) | ((conv => whnf); first | (with_reducible refine hK_ _ _ ?_; try clear hK_ K_) | (with_reducible refine fun (g_ : Sl) (o_ : Ow) => ?_) | (with_reducible first | exact True.intro | refine And.intro trivial ?_ | refine And.intro ?_ ?_) | exact Nat.le_of_ble_eq_true rfl | exact Or.inl rfl | (intro h_; cases h_) | (intro h_; (try simp only [vS1] at h_)) | rfl))) <;> (try (conv => whnf)) <;> (try first | change (_ : Int) ≤ _ | change (_ : Nat) ≤ _) <;> (try ((fail_if_success (with_reducible apply Exists.intro)); (try dsimp only); (try simp only [vS1]))) <;> (try simp (disch := omega) only [vS3, Int.add_sub_cancel, tn1, tnp, tnc, vS2] at *)
  all_goals (try (fail_if_success (with_reducible apply Exists.intro)); first | with_reducible assumption | omega | exact mdl (by omega) | exact ilo1 (by omega) | exact ilo2 (by omega) | exact ihi1 (by omega) (by omega) | exact ihi2 (by omega) (by omega))
def withoutC : Con := mkCon [.sl (.b .pt), .int] (fun x => x.1.length ≤ 1048576 ∧ 0 ≤ x.2.1 ∧ x.2.1 < x.1.length) fun x => ptRow (x.1.eraseIdx x.2.1.toNat)
theorem without_ok : Good1 Try.prog n_impl_without withoutC := by
  refine good_ofG (tys := tyL) (env := [(n_impl_copyPoints, copyC)]) (envw := []) (envd := []) [8] [7, 12] [] [] [] mixed tys ⟨copyPoints_ok, trivial⟩ trivial trivial Try.func70 rfl (by kernel_rfl) (by decide) (by kernel_rfl) ?_
  have hG_ := kpz [(0, [0, 1]), (1, [4])] [(1, [8])] [] []
  rintro ⟨(xs : List Pt), (k : Int), ⟨⟩⟩ ⟨(h1 : xs.length ≤ _), (h2 : 0 ≤ k), (h3 : k < _)⟩
  (repeat' (first | (with_reducible first | exact True.intro | refine zQ ?_ | (refine zG hG_ ?_; intro K_ hK_) | (refine zR ?_; intro K_ hK_) | (refine hK_ _ _ ?_; try clear hK_ K_) | refine sq_n ?_ | refine sq_r ?_ | refine sq_e ?_ | refine bq_n ?_ | refine bq_r ?_ | refine bq_q ?_ | refine zB ?_ | refine zX ?_ | refine zT ?_ | refine zK ?_ | refine gq_n ?_ | refine gq_r ?_ | refine gq_e ?_ | refine lq_n ?_ | refine lq_r ?_ | refine lq_e ?_ | refine bq_e (by decide) ?_) | ((with_reducible refine zC (b := ?b_) ?hb_ ?_ ?_); case hb_ => rfl) | ((conv => whnf); first | (with_reducible refine hK_ _ _ ?_; try clear hK_ K_) | (with_reducible refine fun (g_ : Sl) (o_ : Ow) => ?_) | (with_reducible first | exact True.intro | refine And.intro trivial ?_ | refine And.intro ?_ ?_) | exact Nat.le_of_ble_eq_true rfl | exact Or.inl rfl | (intro h_; cases h_) | (intro h_; (try simp only [vS1] at h_)) | rfl))) <;> (try (conv => whnf)) <;> (try first | change (_ : Int) ≤ _ | change (_ : Nat) ≤ _) <;> (try ((fail_if_success (with_reducible apply Exists.intro)); (try dsimp only); (try simp only [vS1]))) <;> (try simp (disch := omega) only [vS3, Int.add_sub_cancel, tn1, tnp, tnc, vS2] at *)
  all_goals (try (fail_if_success (with_reducible apply Exists.intro)); first | with_reducible assumption | omega | exact mdl (by omega) | exact ilo1 (by omega) | exact ilo2 (by omega) | exact ihi1 (by omega) (by omega) | exact ihi2 (by omega) (by omega))
  · exact congrArg some (by rw [erase_eq, show (k + 1).toNat = k.toNat + 1 by omega])
def strAt (l : List Pt) (i : Nat) : Bool := decide (turn (pAt l (prvN l.length i)) (pAt l i) (pAt l (nxtN l.length i)) = 0)
def firstStr (l : List Pt) : Option Nat := if 2 < l.length then (List.range l.length).find? (strAt l) else none
def strRun : Nat → List Pt → List Pt
  | 0, l => l
  | f + 1, l => match firstStr l with
    | none => l
    | some i => strRun f (l.eraseIdx i)
def straightM (l : List Pt) : List Pt := strRun l.length l
structure StrSt (xs l : List Pt) : Prop where
  run : strRun l.length l = straightM xs
  len : l.length ≤ xs.length
theorem StrSt.step {xs l : List Pt} (h : StrSt xs l) {i : Nat} (hi : i < l.length) (hf : firstStr l = some i) : StrSt xs (l.eraseIdx i) := by
  have hl := List.length_eraseIdx_of_lt hi
  have hr := h.run
  have := h.len
  refine ⟨?_, by omega⟩
  rw [hl]
  rw [show l.length = (l.length - 1) + 1 by omega] at hr
  unfold strRun at hr
  rw [hf] at hr
  exact hr
theorem pts_len (xs : List Pt) (gs : List Int) : (ptsOf xs gs).length ≤ gs.length := by
  unfold ptsOf
  split <;> simp
def needM (xs : List Pt) (gs : List Int) (k : Int) : Bool := btw k 0 ((ptsOf xs gs).length - 1) && (seesAllM xs (ptsOf xs gs) && !seesAllM xs ((ptsOf xs gs).eraseIdx k.toNat))
def needC : Con := mkCon [.room, .sl (.b .int), .int] (fun x => x.1.length ≤ 1048576 ∧ x.2.1.length ≤ 1048576) fun x => vB (needM x.1 x.2.1 x.2.2.1)
theorem iIsNeeded_ok : Good1 Try.prog n_impl_IsNeeded needC := by
  refine good_ofG (tys := tyL) (env := [(n_impl_PointsOf, ptsOfC), (n_impl_between, btwC), (n_impl_SeesAll, seesAllC), (n_impl_without, withoutC)]) (envw := []) (envd := []) [] [] [] [] [] mixed tys ⟨iPointsOf_ok, between_ok, iSeesAll_ok, without_ok, trivial⟩ trivial trivial Try.func34 rfl (by kernel_rfl) (by decide) (by kernel_rfl) ?_
  have hG_ := kpz [(0, [1, 2, 3]), (1, [2, 3, 7]), (2, [6])] [] [] []
  rintro ⟨(xs : List Pt), (gs : List Int), (k : Int), ⟨⟩⟩ ⟨(h1 : xs.length ≤ _), (h2 : gs.length ≤ _)⟩
  have hl := pts_len xs gs
  have hw : IntKind.i64.wrap ((ptsOf xs gs).length - 1 : Int) = (ptsOf xs gs).length - 1 := W_in (by omega) (by omega)
  have hel : ((ptsOf xs gs).eraseIdx k.toNat).length ≤ (ptsOf xs gs).length := List.length_eraseIdx_le _ _
  (repeat' (first | (with_reducible first | exact True.intro | refine zQ ?_ | (refine zG hG_ ?_; intro K_ hK_) | (refine zR ?_; intro K_ hK_) | (refine hK_ _ _ ?_; try clear hK_ K_) | refine sq_n ?_ | refine sq_r ?_ | refine sq_e ?_ | refine bq_n ?_ | refine bq_r ?_ | refine bq_q ?_ | refine zB ?_ | refine zX ?_ | refine zT ?_ | refine zK ?_ | refine gq_n ?_ | refine gq_r ?_ | refine gq_e ?_ | refine lq_n ?_ | refine lq_r ?_ | refine lq_e ?_ | refine bq_e (by decide) ?_) | ((with_reducible refine zC (b := ?b_) ?hb_ ?_ ?_); case hb_ => rfl) | ((conv => whnf); first | (with_reducible refine hK_ _ _ ?_; try clear hK_ K_) | (with_reducible refine fun (g_ : Sl) (o_ : Ow) => ?_) | (with_reducible first | exact True.intro | refine And.intro trivial ?_ | refine And.intro ?_ ?_) | exact Nat.le_of_ble_eq_true rfl | exact Or.inl rfl | (intro h_; cases h_) | (intro h_; (try simp only [vS1] at h_)) | rfl))) <;> (try (conv => whnf)) <;> (try first | change (_ : Int) ≤ _ | change (_ : Nat) ≤ _) <;> (try ((fail_if_success (with_reducible apply Exists.intro)); (try dsimp only); (try simp only [vS1]))) <;> (try simp (disch := omega) only [vS3, Int.add_sub_cancel, tn1, tnp, tnc, vS2] at *) <;> (try rw [hw] at *)
  all_goals (try (fail_if_success (with_reducible apply Exists.intro)); first | with_reducible assumption | omega | exact mdl (by omega) | exact ilo1 (by omega) | exact ilo2 (by omega) | exact ihi1 (by omega) (by omega) | exact ihi2 (by omega) (by omega))
  all_goals (try (have hb := btw_iff.1 ‹btw k 0 ((ptsOf xs gs).length - 1 : Int) = true›))
  all_goals first
    | omega
    | (unfold needM; rw [‹btw k 0 ((ptsOf xs gs).length - 1 : Int) = true›, ‹seesAllM xs (ptsOf xs gs) = true›]; rfl)
    | (unfold needM; rw [‹seesAllM xs (ptsOf xs gs) = false›, Bool.false_and, Bool.and_false])
    | (unfold needM; rw [‹btw k 0 ((ptsOf xs gs).length - 1 : Int) = false›, Bool.false_and])
    | skip
theorem corner_in {xs : List Pt} (hr : roomOk xs = true) {k : Nat} (hk : k < xs.length) : inP xs (pAt xs k) = true := by
  refine inP_iff.2 ⟨room_pt hr hk, ?_⟩
  rw [placeM_on hk (onS_self (a := pAt xs k) (b := pCy xs (k + 1)))]
  decide
end Go.Proofs.Ytnepfcnlngpchaa
