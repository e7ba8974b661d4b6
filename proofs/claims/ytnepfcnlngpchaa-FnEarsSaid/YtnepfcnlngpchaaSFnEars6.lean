/- What the proof of 'FnEars' needs, part 6: conditions and steps of the functions that it reaches, and the mathematics. -/
import Derived.Test.YtnepfcnlngpchaaRows
import Derived.WalkKit
import Derived.WalkSpells
import Derived.Below
import Derived.Orders
import Derived.Maps.AppendAt
import Derived.Laws.StructEq
import Derived.WideShapes
import Derived.ChangeSlices
import Derived.Deep.Strs
import Derived.ChangeOld
import Derived.Shelf.SlLaysF0
import Derived.Shelf.SlSortCmp.InsertionK
import Derived.Shelf.SlSortCmp.SmallK
import Derived.Shelf.SlSortCmp.Xorshift
import Derived.Sort.LotA
import Derived.Shelf.Slices.Delete
import Derived.Shelf.Sort.Plain
import Derived.Test.YtnepfcnlngpchaaSFnEars5
set_option linter.unusedSimpArgs false
set_option linter.unusedVariables false
namespace Go.Proofs.Ytnepfcnlngpchaa
open Go.RowKit Go.Proofs.Ytnepfcnlngpchaa.Nm
set_option maxRecDepth 10000
def cornersB (xs : List Pt) (a b : Pt) : List Pt := distSort a (cutsOf xs a b)
theorem filter_len_le {xs : List Pt} {f : Pt → Bool} {n : Nat} (h : xs.length ≤ n) (k : Nat) : ((xs.take k).filter f).length ≤ n := Nat.le_trans (List.length_filter_le _ _) (by rw [List.length_take]; omega)
def cornersBC : Con := mkCon [.room, .pt, .pt] (fun x => x.1.length ≤ 10) fun x => ptRow (cornersB x.1 x.2.1 x.2.2.1)
theorem cornersBetween_ok : Good1 Try.prog n_impl_cornersBetween cornersBC := by
  refine good_ofG (tys := tyL) (env := [(n_impl_on, onC)]) (envw := [(n_slices_SortFunc_impl_Point, sortC)]) (envd := []) [12, 41] [] [] [] [] mixed tys ⟨on_ok, trivial⟩ ⟨sortFunc_ok, trivial⟩ trivial Try.func122 rfl (by kernel_rfl) (by decide) (by kernel_rfl) ?_
  have hG_ := kpz [(0, [3, 4, 5]), (1, [3, 4, 5, 7]), (2, [4, 5, 7, 14, 15, 16]), (3, [4, 5, 7, 14, 15, 16, 17]), (4, [4, 5, 7, 9, 14, 15, 16]), (5, [4, 5, 7, 9, 14, 15, 16, 33]), (6, [4, 5, 7, 14, 15, 16]), (7, [4, 5, 7, 14, 15, 16]), (8, [7]), (9, [6])] [(1, [12]), (2, [12]), (3, [12]), (4, [9, 12]), (5, [9, 12]), (6, [12]), (7, [12]), (8, [12]), (9, [12])] [] []
  rintro ⟨(xs : List Pt), ⟨(ax : Int), (ay : Int)⟩, ⟨(bx : Int), (b_y : Int)⟩, ⟨⟩⟩ (h1 : xs.length ≤ _)
  (repeat' (first | (with_reducible first | exact True.intro | refine zQ ?_ | (refine zG hG_ ?_; intro K_ hK_) | (refine zR ?_; intro K_ hK_) | (refine hK_ _ _ ?_; try clear hK_ K_) | refine sq_n ?_ | refine sq_r ?_ | refine sq_e ?_ | refine bq_n ?_ | refine bq_r ?_ | refine bq_q ?_ | refine zB ?_ | refine zX ?_ | refine zT ?_ | refine zK ?_ | refine gq_n ?_ | refine gq_r ?_ | refine gq_e ?_ | refine lq_n ?_ | refine lq_r ?_ | refine lq_e ?_ | refine bq_e (by decide) ?_) | ((with_reducible refine zC (b := ?b_) ?hb_ ?_ ?_); case hb_ => rfl) | ((conv => whnf); first | (with_reducible refine hK_ _ _ ?_; try clear hK_ K_) | (with_reducible refine fun (g_ : Sl) (o_ : Ow) => ?_) | (with_reducible first | exact True.intro | refine And.intro trivial ?_ | refine And.intro ?_ ?_) | exact Nat.le_of_ble_eq_true rfl | exact Or.inl rfl | (intro h_; cases h_) | (intro h_; (try simp only [vS1] at h_)) | rfl))) <;> (try (conv => whnf)) <;> (try first | change (_ : Int) ≤ _ | change (_ : Nat) ≤ _) <;> (try ((fail_if_success (with_reducible apply Exists.intro)); (try dsimp only); (try simp only [vS1]))) <;> (try simp (disch := omega) only [vS3, vS2] at *)
  all_goals (try (fail_if_success (with_reducible apply Exists.intro)); first | with_reducible assumption | omega | exact mdl (by omega) | exact ilo1 (by omega) | exact ilo2 (by omega) | exact ihi1 (by omega) (by omega) | exact ihi2 (by omega) (by omega))
  refine awp'_loopG (α := Nat) (fun k ver_ => [(16, vInt k)]) (fun k ver_ => [(7, 12, false, .row t_impl_Point (.b .pt) ([(ax, ay), (bx, b_y)] ++ (xs.take k).filter (amid (ax, ay) (bx, b_y))))]) (fun k ver_ => []) (fun k => k ≤ xs.length) (fun k => xs.length - k) [4, 5, 14, 15] [] (0) ?_
  conv => whnf
  refine ⟨⟨?inv1_, ?vals1_, ?own1_, ?fix1_⟩, ?body1_⟩
  case' vals1_ => (repeat' (first | (with_reducible first | exact True.intro | refine And.intro ?_ ?_ | refine Head.mk ?_ ?_ ?_ ?_) | ((conv => lhs; whnf); first | (with_reducible first | rfl | exact vInt_s (by omega)) | exact rfl) | ((conv => whnf); first | (with_reducible first | exact True.intro | refine And.intro ?_ ?_)))) <;> (try (conv => lhs; whnf))
  case' own1_ => (repeat' (first | (with_reducible first | exact True.intro | refine And.intro ?_ ?_ | refine Head.mk ?_ ?_ ?_ ?_) | ((conv => lhs; whnf); first | (with_reducible first | rfl | exact vInt_s (by omega)) | exact rfl) | ((conv => whnf); first | (with_reducible first | exact True.intro | refine And.intro ?_ ?_)))) <;> (try (conv => lhs; whnf))
  case' fix1_ => (repeat' (first | (with_reducible first | exact True.intro | refine And.intro ?_ ?_ | refine Head.mk ?_ ?_ ?_ ?_) | ((conv => lhs; whnf); first | (with_reducible first | rfl | exact vInt_s (by omega)) | exact rfl) | ((conv => whnf); first | (with_reducible first | exact True.intro | refine And.intro ?_ ?_)))) <;> (try (conv => lhs; whnf))
  · exact Nat.zero_le _
  rintro k g_ o_ v_ hk
  have hl := filter_len_le (f := amid (ax, ay) (bx, b_y)) h1 k
  (repeat' (first | (with_reducible first | exact True.intro | refine zQ ?_ | (refine zG hG_ ?_; intro K_ hK_) | (refine zR ?_; intro K_ hK_) | (refine hK_ _ _ ?_; try clear hK_ K_) | refine sq_n ?_ | refine sq_r ?_ | refine sq_e ?_ | refine bq_n ?_ | refine bq_r ?_ | refine bq_q ?_ | refine zB ?_ | refine zX ?_ | refine zT ?_ | refine zK ?_ | refine gq_n ?_ | refine gq_r ?_ | refine gq_e ?_ | refine lq_n ?_ | refine lq_r ?_ | refine lq_e ?_ | refine bq_e (by decide) ?_) | ((with_reducible refine zC (b := ?b_) ?hb_ ?_ ?_); case hb_ => rfl) | ((conv => whnf); first | (with_reducible refine hK_ _ _ ?_; try clear hK_ K_) | (with_reducible refine fun (g_ : Sl) (o_ : Ow) => ?_) | (with_reducible first | exact True.intro | refine And.intro trivial ?_ | refine And.intro ?_ ?_) | exact Nat.le_of_ble_eq_true rfl | exact Or.inl rfl | (intro h_; cases h_) | (intro h_; (try simp only [vS1] at h_)) | rfl))) <;> (try (conv => whnf)) <;> (try first | change (_ : Int) ≤ _ | change (_ : Nat) ≤ _) <;> (try ((fail_if_success (with_reducible apply Exists.intro)); (try dsimp only); (try simp only [vS1]))) <;> (try simp (disch := omega) only [vS3, vS2] at *)
  all_goals (try (fail_if_success (with_reducible apply Exists.intro)); first | with_reducible assumption | omega | exact mdl (by omega) | exact ilo1 (by omega) | exact ilo2 (by omega) | exact ihi1 (by omega) (by omega) | exact ihi2 (by omega) (by omega))
  · refine ⟨k + 1, by omega, by omega, ?_⟩
    (repeat' (first | (with_reducible first | exact True.intro | refine And.intro ?_ ?_ | refine Head.mk ?_ ?_ ?_ ?_) | ((conv => lhs; whnf); first | (with_reducible first | rfl | exact vInt_s (by omega)) | exact rfl) | ((conv => whnf); first | (with_reducible first | exact True.intro | refine And.intro ?_ ?_)))) <;> (try (conv => lhs; whnf))
    refine congrArg (Own.row _ _) ?_
    rw [filter_take_succ _ (0, 0) ‹k < xs.length›, if_pos (amid_yes ‹_› ‹_› ‹_›), List.append_assoc]
  · refine ⟨k + 1, by omega, by omega, ?_⟩
    (repeat' (first | (with_reducible first | exact True.intro | refine And.intro ?_ ?_ | refine Head.mk ?_ ?_ ?_ ?_) | ((conv => lhs; whnf); first | (with_reducible first | rfl | exact vInt_s (by omega)) | exact rfl) | ((conv => whnf); first | (with_reducible first | exact True.intro | refine And.intro ?_ ?_)))) <;> (try (conv => lhs; whnf))
    refine congrArg (Own.row _ _) ?_
    rw [filter_take_succ _ (0, 0) ‹k < xs.length›, if_neg (by unfold amid; simp_all), List.append_nil]
  · refine ⟨k + 1, by omega, by omega, ?_⟩
    (repeat' (first | (with_reducible first | exact True.intro | refine And.intro ?_ ?_ | refine Head.mk ?_ ?_ ?_ ?_) | ((conv => lhs; whnf); first | (with_reducible first | rfl | exact vInt_s (by omega)) | exact rfl) | ((conv => whnf); first | (with_reducible first | exact True.intro | refine And.intro ?_ ?_)))) <;> (try (conv => lhs; whnf))
    refine congrArg (Own.row _ _) ?_
    rw [filter_take_succ _ (0, 0) ‹k < xs.length›, if_neg (by unfold amid; simp_all), List.append_nil]
  · refine ⟨k + 1, by omega, by omega, ?_⟩
    (repeat' (first | (with_reducible first | exact True.intro | refine And.intro ?_ ?_ | refine Head.mk ?_ ?_ ?_ ?_) | ((conv => lhs; whnf); first | (with_reducible first | rfl | exact vInt_s (by omega)) | exact rfl) | ((conv => whnf); first | (with_reducible first | exact True.intro | refine And.intro ?_ ?_)))) <;> (try (conv => lhs; whnf))
    refine congrArg (Own.row _ _) ?_
    rw [filter_take_succ _ (0, 0) ‹k < xs.length›, if_neg (by unfold amid; simp_all), List.append_nil]
  · exact ⟨(ax, ay), rfl⟩
  · rw [List.take_of_length_le (by omega)]; rfl
theorem map_take_succ' {α β : Type} (f : α → β) {xs : List α} {k : Nat} (d : α) (h : k < xs.length) : (xs.take (k + 1)).map f = (xs.take k).map f ++ [f (xs.getD k d)] := by
  rw [List.take_succ_eq_append_getElem h, List.map_append, getD_lt _ h]; rfl
def twiceC : Con := mkCon [.pt] (fun _ => True) fun x => .val (.agg (cPt (twP x.1)))
theorem twice_ok : Good1 Try.prog n_impl_twice twiceC := by
  refine good_ofG (tys := tyL) (env := []) (envw := []) (envd := []) [] [] [] [] [] mixed tys trivial trivial trivial Try.func147 rfl (by kernel_rfl) (by decide) (by kernel_rfl) ?_
  have hG_ := kpz [(0, [1, 2]), (1, [2])] [(0, [2]), (1, [2])] [] []
  rintro ⟨⟨(p : Int), (q : Int)⟩, ⟨⟩⟩ _
  (repeat' (first | (with_reducible first | exact True.intro | refine zQ ?_ | (refine zG hG_ ?_; intro K_ hK_) | (refine zR ?_; intro K_ hK_) | (refine hK_ _ _ ?_; try clear hK_ K_) | refine sq_n ?_ | refine sq_r ?_ | refine sq_e ?_ | refine bq_n ?_ | refine bq_r ?_ | refine bq_q ?_ | refine zB ?_ | refine zX ?_ | refine zT ?_ | refine zK ?_ | refine gq_n ?_ | refine gq_r ?_ | refine gq_e ?_ | refine lq_n ?_ | refine lq_r ?_ | refine lq_e ?_ | refine bq_e (by decide) ?_) | ((with_reducible refine zC (b := ?b_) ?hb_ ?_ ?_); case hb_ => rfl) | ((conv => whnf); first | (with_reducible refine hK_ _ _ ?_; try clear hK_ K_) | (with_reducible refine fun (g_ : Sl) (o_ : Ow) => ?_) | (with_reducible first | exact True.intro | refine And.intro trivial ?_ | refine And.intro ?_ ?_) | exact Nat.le_of_ble_eq_true rfl | exact Or.inl rfl | (intro h_; cases h_) | (intro h_; (try simp only [vS1] at h_)) | rfl))) <;> (try (conv => whnf)) <;> (try first | change (_ : Int) ≤ _ | change (_ : Nat) ≤ _)
def middleC : Con := mkCon [.room, .pt, .pt] (fun x => x.1.length ≤ 10) fun x => vI (midM x.1 x.2.1 x.2.2.1)
theorem middle_ok : Good1 Try.prog n_impl_middle middleC := by
  refine good_ofG (tys := tyL) (env := [(n_impl_twice, twiceC), (n_impl_place, placeC)]) (envw := []) (envd := []) [10] [] [] [] [] mixed tys ⟨twice_ok, place_ok, trivial⟩ trivial trivial Try.func123 rfl (by kernel_rfl) (by decide) (by kernel_rfl) ?_
  have hG_ := kpz [(0, [3, 4, 5]), (1, [3, 4, 5, 7]), (2, [4, 5, 7, 12, 13, 14]), (3, [4, 5, 7, 12, 13, 14, 15]), (4, [4, 5, 7, 9, 12, 13, 14]), (5, [4, 5, 7, 12, 13, 14]), (6, [4, 5, 7, 12, 13, 14]), (7, [6])] [(1, [10]), (2, [10]), (3, [10]), (4, [9, 10]), (5, [10]), (6, [10]), (7, [10])] [] []
  rintro ⟨(xs : List Pt), ⟨(ax : Int), (ay : Int)⟩, ⟨(bx : Int), (b_y : Int)⟩, ⟨⟩⟩ (h1 : xs.length ≤ _)
  (repeat' (first | (with_reducible first | exact True.intro | refine zQ ?_ | (refine zG hG_ ?_; intro K_ hK_) | (refine zR ?_; intro K_ hK_) | (refine hK_ _ _ ?_; try clear hK_ K_) | refine sq_n ?_ | refine sq_r ?_ | refine sq_e ?_ | refine bq_n ?_ | refine bq_r ?_ | refine bq_q ?_ | refine zB ?_ | refine zX ?_ | refine zT ?_ | refine zK ?_ | refine gq_n ?_ | refine gq_r ?_ | refine gq_e ?_ | refine lq_n ?_ | refine lq_r ?_ | refine lq_e ?_ | refine bq_e (by decide) ?_) | ((with_reducible refine zC (b := ?b_) ?hb_ ?_ ?_); case hb_ => rfl) | ((conv => whnf); first | (with_reducible refine hK_ _ _ ?_; try clear hK_ K_) | (with_reducible refine fun (g_ : Sl) (o_ : Ow) => ?_) | (with_reducible first | exact True.intro | refine And.intro trivial ?_ | refine And.intro ?_ ?_) | exact Nat.le_of_ble_eq_true rfl | exact Or.inl rfl | (intro h_; cases h_) | (intro h_; (try simp only [vS1] at h_)) | rfl))) <;> (try (conv => whnf)) <;> (try first | change (_ : Int) ≤ _ | change (_ : Nat) ≤ _) <;> (try ((fail_if_success (with_reducible apply Exists.intro)); (try dsimp only); (try simp only [vS1]))) <;> (try simp (disch := omega) only [vS3, vS2] at *)
  all_goals (try (fail_if_success (with_reducible apply Exists.intro)); first | with_reducible assumption | omega | exact mdl (by omega) | exact ilo1 (by omega) | exact ilo2 (by omega) | exact ihi1 (by omega) (by omega) | exact ihi2 (by omega) (by omega))
  refine awp'_loopG (α := Nat) (fun k ver_ => [(14, vInt k)]) (fun k ver_ => [(7, 10, false, .row t_impl_Point (.b .pt) ((xs.take k).map twP))]) (fun k ver_ => []) (fun k => k ≤ xs.length) (fun k => xs.length - k) [4, 5, 12, 13] [] (0) ?_
  conv => whnf
  refine ⟨⟨?inv2_, ?vals2_, ?own2_, ?fix2_⟩, ?body2_⟩
  case' vals2_ => (repeat' (first | (with_reducible first | exact True.intro | refine And.intro ?_ ?_ | refine Head.mk ?_ ?_ ?_ ?_) | ((conv => lhs; whnf); first | (with_reducible first | rfl | exact vInt_s (by omega)) | exact rfl) | ((conv => whnf); first | (with_reducible first | exact True.intro | refine And.intro ?_ ?_)))) <;> (try (conv => lhs; whnf))
  case' own2_ => (repeat' (first | (with_reducible first | exact True.intro | refine And.intro ?_ ?_ | refine Head.mk ?_ ?_ ?_ ?_) | ((conv => lhs; whnf); first | (with_reducible first | rfl | exact vInt_s (by omega)) | exact rfl) | ((conv => whnf); first | (with_reducible first | exact True.intro | refine And.intro ?_ ?_)))) <;> (try (conv => lhs; whnf))
  case' fix2_ => (repeat' (first | (with_reducible first | exact True.intro | refine And.intro ?_ ?_ | refine Head.mk ?_ ?_ ?_ ?_) | ((conv => lhs; whnf); first | (with_reducible first | rfl | exact vInt_s (by omega)) | exact rfl) | ((conv => whnf); first | (with_reducible first | exact True.intro | refine And.intro ?_ ?_)))) <;> (try (conv => lhs; whnf))
  · exact Nat.zero_le _
  rintro k g_ o_ v_ hk
  (repeat' (first | (with_reducible first | exact True.intro | refine zQ ?_ | (refine zG hG_ ?_; intro K_ hK_) | (refine zR ?_; intro K_ hK_) | (refine hK_ _ _ ?_; try clear hK_ K_) | refine sq_n ?_ | refine sq_r ?_ | refine sq_e ?_ | refine bq_n ?_ | refine bq_r ?_ | refine bq_q ?_ | refine zB ?_ | refine zX ?_ | refine zT ?_ | refine zK ?_ | refine gq_n ?_ | refine gq_r ?_ | refine gq_e ?_ | refine lq_n ?_ | refine lq_r ?_ | refine lq_e ?_ | refine bq_e (by decide) ?_) | ((with_reducible refine zC (b := ?b_) ?hb_ ?_ ?_); case hb_ => rfl) | ((conv => whnf); first | (with_reducible refine hK_ _ _ ?_; try clear hK_ K_) | (with_reducible refine fun (g_ : Sl) (o_ : Ow) => ?_) | (with_reducible first | exact True.intro | refine And.intro trivial ?_ | refine And.intro ?_ ?_) | exact Nat.le_of_ble_eq_true rfl | exact Or.inl rfl | (intro h_; cases h_) | (intro h_; (try simp only [vS1] at h_)) | rfl))) <;> (try (conv => whnf)) <;> (try first | change (_ : Int) ≤ _ | change (_ : Nat) ≤ _) <;> (try ((fail_if_success (with_reducible apply Exists.intro)); (try dsimp only); (try simp only [vS1]))) <;> (try simp (disch := omega) only [vS3, vS2] at *)
  all_goals (try (fail_if_success (with_reducible apply Exists.intro)); first | with_reducible assumption | omega | exact mdl (by omega) | exact ilo1 (by omega) | exact ilo2 (by omega) | exact ihi1 (by omega) (by omega) | exact ihi2 (by omega) (by omega))
  · refine ⟨k + 1, by omega, by omega, ?_⟩
    (repeat' (first | (with_reducible first | exact True.intro | refine And.intro ?_ ?_ | refine Head.mk ?_ ?_ ?_ ?_) | ((conv => lhs; whnf); first | (with_reducible first | rfl | exact vInt_s (by omega)) | exact rfl) | ((conv => whnf); first | (with_reducible first | exact True.intro | refine And.intro ?_ ?_)))) <;> (try (conv => lhs; whnf))
    exact congrArg (Own.row _ _) (map_take_succ' twP (0, 0) h_).symm
  · rw [List.take_of_length_le (by omega)]; rfl
def seesI (xs : List Pt) (a b : Pt) : Bool := (List.range xs.length).all (fun k => !crs a b (wl xs k).1 (wl xs k).2) && (List.range ((cornersB xs a b).length - 1)).all fun k => midM xs (pAt (cornersB xs a b) k) (pAt (cornersB xs a b) (k + 1)) != 0
def seesC : Con := mkCon [.room, .pt, .pt] (fun x => x.1.length ≤ 10) fun x => vB (seesI x.1 x.2.1 x.2.2.1)
theorem cornersB_len (xs : List Pt) (a b : Pt) : (cornersB xs a b).length = 2 + (xs.filter (amid a b)).length := by unfold cornersB; rw [distSort_len]; simp; omega
theorem seesI_no1 {xs : List Pt} {a b : Pt} {k : Nat} (hk : k < xs.length) (h : crs a b (wl xs k).1 (wl xs k).2 = true) : seesI xs a b = false := by
  unfold seesI
  rw [show (List.range xs.length).all (fun k => !crs a b (wl xs k).1 (wl xs k).2) = false from List.all_eq_false.2 ⟨k, List.mem_range.2 hk, by rw [h]; decide⟩]
  rfl
theorem seesI_no2 {xs : List Pt} {a b : Pt} {k : Nat} (hk : k + 1 < (cornersB xs a b).length) (h : midM xs (pAt (cornersB xs a b) k) (pAt (cornersB xs a b) (k + 1)) = 0) : seesI xs a b = false := by
  unfold seesI
  rw [show ((List.range ((cornersB xs a b).length - 1)).all fun k => midM xs (pAt (cornersB xs a b) k) (pAt (cornersB xs a b) (k + 1)) != 0) = false from List.all_eq_false.2 ⟨k, List.mem_range.2 (by omega), by rw [h]; decide⟩]
  exact Bool.and_false _
theorem seesI_yes {xs : List Pt} {a b : Pt} (h1 : ∀ k, k < xs.length → crs a b (wl xs k).1 (wl xs k).2 = false) (h2 : ∀ k, k + 1 < (cornersB xs a b).length → midM xs (pAt (cornersB xs a b) k) (pAt (cornersB xs a b) (k + 1)) ≠ 0) : seesI xs a b = true := by
  unfold seesI
  rw [Bool.and_eq_true, List.all_eq_true, List.all_eq_true]
  exact ⟨fun k hk => by rw [h1 k (List.mem_range.1 hk)]; rfl, fun k hk => by simpa using h2 k (by have := List.mem_range.1 hk; omega)⟩
theorem sees_ok : Good1 Try.prog n_impl_sees seesC := by
  refine good_ofG (tys := tyL) (env := [(n_impl_wallsOf, wallsOfC), (n_impl_crosses, crossesC), (n_impl_cornersBetween, cornersBC), (n_impl_middle, middleC)]) (envw := []) (envd := []) [] [] [] [] [] mixed tys ⟨wallsOf_ok, crosses_ok, cornersBetween_ok, middle_ok, trivial⟩ trivial trivial Try.func92 rfl (by kernel_rfl) (by decide) (by kernel_rfl) ?_
  have hG_ := kpz [(0, [3, 4, 5]), (1, [3, 4, 5, 13, 14, 15]), (2, [3, 4, 5, 13, 14, 15, 16]), (3, [3, 4, 5, 8, 13, 14, 15]), (4, [3, 4, 5, 13, 14, 15, 23]), (5, [6]), (6, [3, 4, 5, 13, 14, 15]), (7, [3, 9]), (8, [3, 9, 10]), (9, [3, 9, 10, 32]), (10, [3, 9, 10]), (11, [3, 9, 10, 46]), (12, [6]), (13, [6])] [(3, [8])] [] []
  rintro ⟨(xs : List Pt), ⟨(ax : Int), (ay : Int)⟩, ⟨(bx : Int), (b_y : Int)⟩, ⟨⟩⟩ (h1 : xs.length ≤ _)
  have hw := walls_len xs
  have hc := cornersB_len xs (ax, ay) (bx, b_y)
  have hfl := filter_len_le (f := amid (ax, ay) (bx, b_y)) h1 xs.length
  rw [List.take_of_length_le (Nat.le_refl _)] at hfl
  (repeat' (first | (with_reducible first | exact True.intro | refine zQ ?_ | (refine zG hG_ ?_; intro K_ hK_) | (refine zR ?_; intro K_ hK_) | (refine hK_ _ _ ?_; try clear hK_ K_) | refine sq_n ?_ | refine sq_r ?_ | refine sq_e ?_ | refine bq_n ?_ | refine bq_r ?_ | refine bq_q ?_ | refine zB ?_ | refine zX ?_ | refine zT ?_ | refine zK ?_ | refine gq_n ?_ | refine gq_r ?_ | refine gq_e ?_ | refine lq_n ?_ | refine lq_r ?_ | refine lq_e ?_ | refine bq_e (by decide) ?_) | ((with_reducible refine zC (b := ?b_) ?hb_ ?_ ?_); case hb_ => rfl) | ((conv => whnf); first | (with_reducible refine hK_ _ _ ?_; try clear hK_ K_) | (with_reducible refine fun (g_ : Sl) (o_ : Ow) => ?_) | (with_reducible first | exact True.intro | refine And.intro trivial ?_ | refine And.intro ?_ ?_) | exact Nat.le_of_ble_eq_true rfl | exact Or.inl rfl | (intro h_; cases h_) | (intro h_; (try simp only [vS1] at h_)) | rfl))) <;> (try (conv => whnf)) <;> (try first | change (_ : Int) ≤ _ | change (_ : Nat) ≤ _) <;> (try ((fail_if_success (with_reducible apply Exists.intro)); (try dsimp only); (try simp only [vS1]))) <;> (try simp (disch := omega) only [vS3, vS2] at *)
  all_goals (try (fail_if_success (with_reducible apply Exists.intro)); first | with_reducible assumption | omega | exact mdl (by omega) | exact ilo1 (by omega) | exact ilo2 (by omega) | exact ihi1 (by omega) (by omega) | exact ihi2 (by omega) (by omega))
  refine awp'_loopG (α := Nat) (fun k ver_ => [(15, vInt k)]) (fun k ver_ => []) (fun k ver_ => []) (fun k => k ≤ xs.length ∧ ∀ j, j < k → crs (ax, ay) (bx, b_y) (wl xs j).1 (wl xs j).2 = false) (fun k => xs.length - k) [3, 4, 5, 13, 14] [] (0) ?_
  conv => whnf
  refine ⟨⟨?inv3_, ?vals3_, ?own3_, ?fix3_⟩, ?body3_⟩
  case' vals3_ => (repeat' (first | (with_reducible first | exact True.intro | refine And.intro ?_ ?_ | refine Head.mk ?_ ?_ ?_ ?_) | ((conv => lhs; whnf); first | (with_reducible first | rfl | exact vInt_s (by omega)) | exact rfl) | ((conv => whnf); first | (with_reducible first | exact True.intro | refine And.intro ?_ ?_)))) <;> (try (conv => lhs; whnf))
  case' own3_ => (repeat' (first | (with_reducible first | exact True.intro | refine And.intro ?_ ?_ | refine Head.mk ?_ ?_ ?_ ?_) | ((conv => lhs; whnf); first | (with_reducible first | rfl | exact vInt_s (by omega)) | exact rfl) | ((conv => whnf); first | (with_reducible first | exact True.intro | refine And.intro ?_ ?_)))) <;> (try (conv => lhs; whnf))
  case' fix3_ => (repeat' (first | (with_reducible first | exact True.intro | refine And.intro ?_ ?_ | refine Head.mk ?_ ?_ ?_ ?_) | ((conv => lhs; whnf); first | (with_reducible first | rfl | exact vInt_s (by omega)) | exact rfl) | ((conv => whnf); first | (with_reducible first | exact True.intro | refine And.intro ?_ ?_)))) <;> (try (conv => lhs; whnf))
  · exact ⟨Nat.zero_le _, fun j hj => absurd hj (by omega)⟩
  rintro k g_ o_ v_ ⟨hk, hall⟩
  (repeat' (first | (with_reducible first | exact True.intro | refine zQ ?_ | (refine zG hG_ ?_; intro K_ hK_) | (refine zR ?_; intro K_ hK_) | (refine hK_ _ _ ?_; try clear hK_ K_) | refine sq_n ?_ | refine sq_r ?_ | refine sq_e ?_ | refine bq_n ?_ | refine bq_r ?_ | refine bq_q ?_ | refine zB ?_ | refine zX ?_ | refine zT ?_ | refine zK ?_ | refine gq_n ?_ | refine gq_r ?_ | refine gq_e ?_ | refine lq_n ?_ | refine lq_r ?_ | refine lq_e ?_ | refine bq_e (by decide) ?_) | ((with_reducible refine zC (b := ?b_) ?hb_ ?_ ?_); case hb_ => rfl) | ((conv => whnf); first | (with_reducible refine hK_ _ _ ?_; try clear hK_ K_) | (with_reducible refine fun (g_ : Sl) (o_ : Ow) => ?_) | (with_reducible first | exact True.intro | refine And.intro trivial ?_ | refine And.intro ?_ ?_) | exact Nat.le_of_ble_eq_true rfl | exact Or.inl rfl | (intro h_; cases h_) | (intro h_; (try simp only [vS1] at h_)) | rfl))) <;> (try (conv => whnf)) <;> (try first | change (_ : Int) ≤ _ | change (_ : Nat) ≤ _) <;> (try ((fail_if_success (with_reducible apply Exists.intro)); (try dsimp only); (try simp only [vS1]))) <;> (try simp (disch := omega) only [vS3, vS2] at *)
  all_goals (try (fail_if_success (with_reducible apply Exists.intro)); first | with_reducible assumption | omega | exact mdl (by omega) | exact ilo1 (by omega) | exact ilo2 (by omega) | exact ihi1 (by omega) (by omega) | exact ihi2 (by omega) (by omega))
  · rw [walls_get (by omega)] at *
    exact (seesI_no1 (k := k) (by omega) (by assumption)).symm
  · rw [walls_get (by omega)] at *
    refine ⟨k + 1, by omega, ⟨by omega, fun j hj => ?_⟩, by (repeat' (first | (with_reducible first | exact True.intro | refine And.intro ?_ ?_ | refine Head.mk ?_ ?_ ?_ ?_) | ((conv => lhs; whnf); first | (with_reducible first | rfl | exact vInt_s (by omega)) | exact rfl) | ((conv => whnf); first | (with_reducible first | exact True.intro | refine And.intro ?_ ?_)))) <;> (try (conv => lhs; whnf))⟩
    rcases Nat.lt_or_ge j k with h5 | h5
    · exact hall j h5
    · rw [show j = k by omega]; assumption
  have hall2 : ∀ j, j < xs.length → crs (ax, ay) (bx, b_y) (wl xs j).1 (wl xs j).2 = false := fun j hj => hall j (by omega)
  refine awp'_loopG (α := Nat) (fun i ver_ => [(10, vInt (i + 1))]) (fun i ver_ => []) (fun i ver_ => []) (fun i => i + 1 ≤ (cornersB xs (ax, ay) (bx, b_y)).length ∧ ∀ j, j < i → midM xs (pAt (cornersB xs (ax, ay) (bx, b_y)) j) (pAt (cornersB xs (ax, ay) (bx, b_y)) (j + 1)) ≠ 0) (fun i => 20 - i) [3, 9] [] (0) ?_
  conv => whnf
  refine ⟨⟨?inv4_, ?vals4_, ?own4_, ?fix4_⟩, ?body4_⟩
  case' vals4_ => (repeat' (first | (with_reducible first | exact True.intro | refine And.intro ?_ ?_ | refine Head.mk ?_ ?_ ?_ ?_) | ((conv => lhs; whnf); first | (with_reducible first | rfl | exact vInt_s (by omega)) | exact rfl) | ((conv => whnf); first | (with_reducible first | exact True.intro | refine And.intro ?_ ?_)))) <;> (try (conv => lhs; whnf))
  case' own4_ => (repeat' (first | (with_reducible first | exact True.intro | refine And.intro ?_ ?_ | refine Head.mk ?_ ?_ ?_ ?_) | ((conv => lhs; whnf); first | (with_reducible first | rfl | exact vInt_s (by omega)) | exact rfl) | ((conv => whnf); first | (with_reducible first | exact True.intro | refine And.intro ?_ ?_)))) <;> (try (conv => lhs; whnf))
  case' fix4_ => (repeat' (first | (with_reducible first | exact True.intro | refine And.intro ?_ ?_ | refine Head.mk ?_ ?_ ?_ ?_) | ((conv => lhs; whnf); first | (with_reducible first | rfl | exact vInt_s (by omega)) | exact rfl) | ((conv => whnf); first | (with_reducible first | exact True.intro | refine And.intro ?_ ?_)))) <;> (try (conv => lhs; whnf))
  · exact ⟨by omega, fun j hj => absurd hj (by omega)⟩
  rintro i g_ o_ v_ ⟨hi, hmid⟩
  (repeat' (first | (with_reducible first | exact True.intro | refine zQ ?_ | (refine zG hG_ ?_; intro K_ hK_) | (refine zR ?_; intro K_ hK_) | (refine hK_ _ _ ?_; try clear hK_ K_) | refine sq_n ?_ | refine sq_r ?_ | refine sq_e ?_ | refine bq_n ?_ | refine bq_r ?_ | refine bq_q ?_ | refine zB ?_ | refine zX ?_ | refine zT ?_ | refine zK ?_ | refine gq_n ?_ | refine gq_r ?_ | refine gq_e ?_ | refine lq_n ?_ | refine lq_r ?_ | refine lq_e ?_ | refine bq_e (by decide) ?_) | ((with_reducible refine zC (b := ?b_) ?hb_ ?_ ?_); case hb_ => rfl) | ((conv => whnf); first | (with_reducible refine hK_ _ _ ?_; try clear hK_ K_) | (with_reducible refine fun (g_ : Sl) (o_ : Ow) => ?_) | (with_reducible first | exact True.intro | refine And.intro trivial ?_ | refine And.intro ?_ ?_) | exact Nat.le_of_ble_eq_true rfl | exact Or.inl rfl | (intro h_; cases h_) | (intro h_; (try simp only [vS1] at h_)) | rfl))) <;> (try (conv => whnf)) <;> (try first | change (_ : Int) ≤ _ | change (_ : Nat) ≤ _) <;> (try ((fail_if_success (with_reducible apply Exists.intro)); (try dsimp only); (try simp only [vS1]))) <;> (try simp (disch := omega) only [vS3, vS2] at *)
  all_goals (try (fail_if_success (with_reducible apply Exists.intro)); first | with_reducible assumption | omega | exact mdl (by omega) | exact ilo1 (by omega) | exact ilo2 (by omega) | exact ihi1 (by omega) (by omega) | exact ihi2 (by omega) (by omega))
  · rw [show ((i : Int) + 1 - 1).toNat = i by omega, show ((i : Int) + 1).toNat = i + 1 by omega] at h_
    exact (seesI_no2 (by omega) h_).symm
  · rw [show ((i : Int) + 1 - 1).toNat = i by omega, show ((i : Int) + 1).toNat = i + 1 by omega] at h_
    refine ⟨i + 1, by omega, ⟨by omega, fun j hj => ?_⟩, by (repeat' (first | (with_reducible first | exact True.intro | refine And.intro ?_ ?_ | refine Head.mk ?_ ?_ ?_ ?_) | ((conv => lhs; whnf); first | (with_reducible first | rfl | exact vInt_s (by omega)) | exact rfl) | ((conv => whnf); first | (with_reducible first | exact True.intro | refine And.intro ?_ ?_)))) <;> (try (conv => lhs; whnf))⟩
    rcases Nat.lt_or_ge j i with h5 | h5
    · exact hmid j h5
    · rw [show j = i by omega]; exact h_
  · exact (seesI_yes hall2 fun j hj => hmid j (by omega)).symm
end Go.Proofs.Ytnepfcnlngpchaa
namespace Go.Proofs.Ytnepfcnlngpchaa
open Go.Shelf Go.RowKit Go.Lib Go.Sort Go.Proofs.Ytnepfcnlngpchaa.Nm
theorem bd_default : Bd (default : Pt) := by unfold Bd; decide
theorem getBang_bd {d : Array Pt} (h : ∀ p ∈ d.toList, Bd p) (i : Nat) : Bd d[i]! := by
  by_cases hi : i < d.size
  · rw [getElem!_pos d i hi]; exact h _ (Array.getElem_mem_toList hi)
  · rw [getElem!_neg d i hi]; exact bd_default
theorem swp_mem {d : Array Pt} (h : ∀ p ∈ d.toList, Bd p) {i j : Nat} (hi : i < d.size) (hj : j < d.size) : ∀ p ∈ (swp d i j).toList, Bd p := by
  intro p hp
  have hperm := swp_permIn d 0 d.size i j (Nat.zero_le _) hi (Nat.zero_le _) hj (Nat.le_refl _)
  have h3 := hperm.2.2
  have h1 := hperm.1
  rw [← h1, Array.extract_size, h1, Array.extract_size] at h3
  exact h p (h3.mem_iff.1 hp)
theorem insInner_congr {lt lt' : Pt → Pt → Bool} (hl : ∀ x y, Bd x → Bd y → lt x y = lt' x y) (a : Nat) : ∀ (j : Nat) (d : Array Pt), (∀ p ∈ d.toList, Bd p) → j < d.size → insInner lt a j d = insInner lt' a j d
  | 0, d, _, _ => rfl
  | j + 1, d, h, hj => by
    unfold insInner
    rw [hl _ _ (getBang_bd h _) (getBang_bd h _)]
    split
    · exact insInner_congr hl a j _ (swp_mem h hj (by omega)) (by rw [size_swp]; omega)
    · rfl
theorem insInner_bd {lt : Pt → Pt → Bool} (a : Nat) : ∀ (j : Nat) (d : Array Pt), (∀ p ∈ d.toList, Bd p) → j < d.size → ∀ p ∈ (insInner lt a j d).toList, Bd p
  | 0, d, h, _ => h
  | j + 1, d, h, hj => by
    unfold insInner
    split
    · exact insInner_bd a j _ (swp_mem h hj (by omega)) (by rw [size_swp]; omega)
    · exact h
theorem insOuter_congr {lt lt' : Pt → Pt → Bool} (hl : ∀ x y, Bd x → Bd y → lt x y = lt' x y) (a b : Nat) : ∀ (n i : Nat) (d : Array Pt), b - i ≤ n → b ≤ d.size → (∀ p ∈ d.toList, Bd p) → insOuter lt a b i d = insOuter lt' a b i d
  | 0, i, d, hn, hb, h => by unfold insOuter; rw [if_neg (by omega), if_neg (by omega)]
  | n + 1, i, d, hn, hb, h => by
    unfold insOuter
    split
    · rw [insInner_congr hl a i d h (by omega)]
      exact insOuter_congr hl a b n (i + 1) _ (by omega) (by rw [insInner_size]; exact hb) (insInner_bd a i d h (by omega))
    · rfl
theorem sq_bd {x : Int} (h1 : -2000 ≤ x) (h2 : x ≤ 2000) : 0 ≤ x * x ∧ x * x ≤ 4000000 := by
  have := mul_bd h1 h2 h1 h2
  refine ⟨?_, this.2⟩
  rcases Int.le_total 0 x with h | h
  · exact Int.mul_nonneg h h
  · exact Int.mul_nonneg_of_nonpos_of_nonpos h h
theorem sqM_exact {a x : Pt} (ha : Bd a) (hx : Bd x) : sqM a x = sqd a x ∧ 0 ≤ sqd a x ∧ sqd a x ≤ 8000000 := by
  unfold Bd at ha hx
  have e1 := sq_bd (x := a.1 - x.1) (by omega) (by omega)
  have e2 := sq_bd (x := a.2 - x.2) (by omega) (by omega)
  have hw : ∀ n : Int, -9223372036854775808 ≤ n → n ≤ 9223372036854775807 → wrap64 n = n := fun n h1 h2 => by unfold wrap64; omega
  unfold sqM sqd
  rw [hw (a.1 - x.1) (by omega) (by omega), hw (a.2 - x.2) (by omega) (by omega), hw ((a.1 - x.1) * _) (by omega) (by omega), hw ((a.2 - x.2) * _) (by omega) (by omega), hw _ (by omega) (by omega)]
  exact ⟨rfl, by omega, by omega⟩
theorem cb_lt {a x y : Pt} (ha : Bd a) (hx : Bd x) (hy : Bd y) : ltOf (cbCmp a) x y = decide (sqd a x < sqd a y) := by
  obtain ⟨e1, b1, b2⟩ := sqM_exact ha hx
  obtain ⟨e2, b3, b4⟩ := sqM_exact ha hy
  unfold ltOf cbCmp
  rw [e1, e2, W_in (by omega) (by omega)]
  exact decide_eq_decide.2 (by omega)
theorem swo_key (key : Pt → Int) : SWO fun x y => decide (key x < key y) :=
  ⟨fun x => by simp, fun x y z h1 h2 => by simp at *; omega, fun x y z h1 h2 => by simp at *; omega⟩
theorem distSort_perm {a : Pt} {xs : List Pt} (ha : Bd a) (h : ∀ p ∈ xs, Bd p) : (distSort a xs).Perm xs ∧ (distSort a xs).Pairwise fun p q => sqd a p ≤ sqd a q := by
  have e : distSort a xs = (Sort.insertionSort (fun x y => decide (sqd a x < sqd a y)) xs.toArray 0 xs.length).toList := by
    unfold distSort Sort.insertionSort
    rw [insOuter_congr (fun x y hx hy => cb_lt ha hx hy) 0 xs.length _ _ xs.toArray (Nat.le_refl _) (by simp) (by simpa using h)]
  rw [e]
  obtain ⟨⟨h1, h2, h3⟩, h4⟩ := insertionSort_holds (lt := fun x y => decide (sqd a x < sqd a y)) (swo_key (sqd a)) xs.toArray 0 xs.length (Nat.zero_le _) (by simp)
  generalize Sort.insertionSort (fun x y => decide (sqd a x < sqd a y)) xs.toArray 0 xs.length = D at *
  have hs : D.size = xs.length := by rw [h1]; simp
  refine ⟨?_, ?_⟩
  · have h3 := h3
    rw [← hs, Array.extract_size] at h3
    rw [show D.size = xs.toArray.size by rw [h1], Array.extract_size] at h3
    exact h3
  · rw [List.pairwise_iff_getElem]
    intro i j hi hj hij
    have hi' : i < D.size := by simpa using hi
    have hj' : j < D.size := by simpa using hj
    have := h4 i j (Nat.zero_le _) hij (by omega)
    rw [getElem!_pos D i hi', getElem!_pos D j hj'] at this
    simp only [decide_eq_false_iff_not] at this
    simp only [Array.getElem_toList]
    omega
theorem seesI_iff' {xs : List Pt} {a b : Pt} : seesI xs a b = true ↔ (∀ k, k < xs.length → crs a b (wl xs k).1 (wl xs k).2 = false) ∧ ∀ u, u + 1 < (cornersB xs a b).length → midM xs (pAt (cornersB xs a b) u) (pAt (cornersB xs a b) (u + 1)) ≠ 0 := by
  unfold seesI
  simp only [Bool.and_eq_true, List.all_eq_true, List.mem_range, Bool.not_eq_true', bne_iff_ne, ne_eq]
  refine and_congr_right fun _ => ⟨fun h u hu => h u (by omega), fun h u hu => h u (by omega)⟩
theorem cuts_bd {xs : List Pt} {a b : Pt} (ha : ptOk a = true) (hb : ptOk b = true) : ∀ p ∈ cutsOf xs a b, Bd p := fun p h => bd_on (bd_of_ok ha) (bd_of_ok hb) (cuts_on h)
theorem seesI_iff {xs : List Pt} {a b : Pt} (hr : roomOk xs = true) (ha : ptOk a = true) (hb : ptOk b = true) : seesI xs a b = true ↔ Sees xs a b := by
  rw [seesI_iff']
  obtain ⟨h1, h2⟩ := distSort_perm (bd_of_ok ha) (cuts_bd (xs := xs) ha hb)
  exact and_congr_right fun _ => sees_sorted hr ha hb h1 h2
theorem sees_eq {xs : List Pt} {a b : Pt} (hr : roomOk xs = true) (ha : ptOk a = true) (hb : ptOk b = true) : seesI xs a b = seesS xs a b := by
  rw [Bool.eq_iff_iff, seesI_iff hr ha hb, seesS_iff hr ha hb]
theorem cornersB_perm {xs : List Pt} {a b : Pt} (ha : ptOk a = true) (hb : ptOk b = true) : (cornersB xs a b).length = (cutsOf xs a b).length :=
  (distSort_perm (bd_of_ok ha) (cuts_bd (xs := xs) ha hb)).1.length_eq
end Go.Proofs.Ytnepfcnlngpchaa
namespace Go.Proofs.Ytnepfcnlngpchaa
open Go.RowKit Go.Proofs.Ytnepfcnlngpchaa.Nm
set_option maxRecDepth 10000
theorem tn1 (k : Nat) : ((k : Int) + 1).toNat = k + 1 := by omega
theorem tnp {k : Nat} (h : 1 ≤ k) : ((k : Int) - 1).toNat = k - 1 := by omega
theorem tnc (k : Nat) : ((k : Int) + 1 - 1).toNat = k := by omega
theorem Good1.imp {P : Program} {f : FuncId} {ts : List Ty} {pre pre' : Args ts → Prop} {res res' : Args ts → RV} (h : Good1 P f (mkCon ts pre res)) (hp : ∀ x, pre' x → pre x ∧ res' x = res x) : Good1 P f (mkCon ts pre' res') :=
  ⟨fun w F args vs x h1 h2 h3 h4 h5 => by
    obtain ⟨k1, k2⟩ := hp x h2
    show Calls _ _ _ _ fun e w' => ∃ v, e = .returned v ∧ Below w.heap.size w w' ∧ RetC w w' F (res' x) v
    rw [k2]
    exact h.snd w F args vs x h1 k1 h3 h4 h5, h.has⟩
theorem eq_false_of {b : Bool} (h : b = true → False) : false = b := by cases b with | false => rfl | true => exact (h rfl).elim
theorem eq_true_of {b : Bool} (h : b = true) : true = b := h.symm
theorem lt_succ_all {P : Nat → Prop} {k : Nat} (h : ∀ j, j < k → P j) (hk : P k) : ∀ j, j < k + 1 → P j := fun j hj => by
  rcases Nat.lt_or_ge j k with h5 | h5
  · exact h j h5
  · rw [show j = k by omega]; exact hk
def rowI (xs : List Int) : RV := ⟨.one (.own 0 0), some ⟨t_int, none, .b .int, xs⟩⟩
abbrev Tri := Int × Int × Int
abbrev pI (xs : List Pt) (k : Int) : Pt := xs.getD k.toNat (0, 0)
def inTri (a b c p : Pt) : Bool := decide (0 ≤ turn a b p) && (decide (0 ≤ turn b c p) && decide (0 ≤ turn c a p))
def hasCor (xs : List Pt) (k : Int) : Bool := btw k 0 (xs.length - 1) && roomOk xs
def hasCorC : Con := mkCon [.room, .int] (fun x => x.1.length ≤ 1048576) fun x => vB (hasCor x.1 x.2.1)
theorem hasCorner_ok : Good1 Try.prog n_impl_hasCorner hasCorC := by
  refine good_ofG (tys := tyL) (env := [(n_impl_between, btwC), (n_impl_RoomOk, roomOkC)]) (envw := []) (envd := []) [] [] [] [] [] mixed tys ⟨between_ok, iRoomOk_ok, trivial⟩ trivial trivial Try.func75 rfl (by kernel_rfl) (by decide) (by kernel_rfl) ?_
  have hG_ := kpz [(0, [1, 2]), (1, [4])] [] [] []
  rintro ⟨(xs : List Pt), (k : Int), ⟨⟩⟩ (h1 : xs.length ≤ _)
  (repeat' (first | (with_reducible first | exact True.intro | refine zQ ?_ | (refine zG hG_ ?_; intro K_ hK_) | (refine zR ?_; intro K_ hK_) | (refine hK_ _ _ ?_; try clear hK_ K_) | refine sq_n ?_ | refine sq_r ?_ | refine sq_e ?_ | refine bq_n ?_ | refine bq_r ?_ | refine bq_q ?_ | refine zB ?_ | refine zX ?_ | refine zT ?_ | refine zK ?_ | refine gq_n ?_ | refine gq_r ?_ | refine gq_e ?_ | refine lq_n ?_ | refine lq_r ?_ | refine lq_e ?_ | refine bq_e (by decide) ?_) | ((with_reducible refine zC (b := ?b_) ?hb_ ?_ ?_); case hb_ => rfl) | ((conv => whnf); first | (with_reducible refine hK_ _ _ ?_; try clear hK_ K_) | (with_reducible refine fun (g_ : Sl) (o_ : Ow) => ?_) | (with_reducible first | exact True.intro | refine And.intro trivial ?_ | refine And.intro ?_ ?_) | exact Nat.le_of_ble_eq_true rfl | exact Or.inl rfl | (intro h_; cases h_) | (intro h_; (try simp only [vS1] at h_)) | rfl))) <;> (try (conv => whnf)) <;> (try first | change (_ : Int) ≤ _ | change (_ : Nat) ≤ _) <;> (try ((fail_if_success (with_reducible apply Exists.intro)); (try dsimp only); (try simp only [vS1]))) <;> (try simp (disch := omega) only [vS3, vS2] at *)
  all_goals (try (fail_if_success (with_reducible apply Exists.intro)); first | with_reducible assumption | omega | exact mdl (by omega) | exact ilo1 (by omega) | exact ilo2 (by omega) | exact ihi1 (by omega) (by omega) | exact ihi2 (by omega) (by omega))
  all_goals (simp_all [hasCor])
def rot {α : Type} (xs : List α) (k : Nat) : List α := xs.drop k ++ xs.take k
def rRoom (xs : List Pt) : RV := ⟨.agg [.own 0 0], some ⟨t_impl_Point, none, .b .pt, xs⟩⟩
end Go.Proofs.Ytnepfcnlngpchaa
namespace Go.Proofs.Ytnepfcnlngpchaa
open Go.RowKit Go.Proofs.Ytnepfcnlngpchaa.Nm
set_option maxRecDepth 10000
set_option maxHeartbeats 2000000
def sees2C : Con := mkCon [.room, .pt, .pt] (fun x => roomOk x.1 = true ∧ ptOk x.2.1 = true ∧ ptOk x.2.2.1 = true) fun x => vB (seesS x.1 x.2.1 x.2.2.1)
theorem sees2_ok : Good1 Try.prog n_impl_sees sees2C := by
  exact Good1.imp sees_ok fun x h => ⟨(room_len h.1).2, congrArg vB (sees_eq h.1 h.2.1 h.2.2).symm⟩
def neighZ (n i k : Int) : Bool := decide (Int.tmod (i + 1) n = k) || decide (Int.tmod (k + 1) n = i)
def neighC : Con := mkCon [.room, .int, .int] (fun x => 0 < x.1.length ∧ x.1.length ≤ 1048576 ∧ (-1000 ≤ x.2.1 ∧ x.2.1 ≤ 1000) ∧ (-1000 ≤ x.2.2.1 ∧ x.2.2.1 ≤ 1000)) fun x => vB (neighZ x.1.length x.2.1 x.2.2.1)
theorem neighbors_ok : Good1 Try.prog n_impl_neighbors neighC := by
  refine good_ofG (tys := tyL) (env := []) (envw := []) (envd := []) [] [] [] [] [] mixed tys trivial trivial trivial Try.func89 rfl (by kernel_rfl) (by decide) (by kernel_rfl) ?_
  have hG_ := kpz [(0, [1, 2, 3]), (1, [1, 2, 7]), (2, [6])] [] [] []
  rintro ⟨(xs : List Pt), (i : Int), (k : Int), ⟨⟩⟩ ⟨(h0 : 0 < xs.length), (h1 : xs.length ≤ _), ⟨(h2 : -1000 ≤ i), (h3 : i ≤ 1000)⟩, (h4 : -1000 ≤ k), (h5 : k ≤ 1000)⟩
  (repeat' (first | (with_reducible first | exact True.intro | refine zQ ?_ | (refine zG hG_ ?_; intro K_ hK_) | (refine zR ?_; intro K_ hK_) | (refine hK_ _ _ ?_; try clear hK_ K_) | refine sq_n ?_ | refine sq_r ?_ | refine sq_e ?_ | refine bq_n ?_ | refine bq_r ?_ | refine bq_q ?_ | refine zB ?_ | refine zX ?_ | refine zT ?_ | refine zK ?_ | refine gq_n ?_ | refine gq_r ?_ | refine gq_e ?_ | refine lq_n ?_ | refine lq_r ?_ | refine lq_e ?_ | refine bq_e (by decide) ?_) | ((with_reducible refine zC (b := ?b_) ?hb_ ?_ ?_); case hb_ => rfl) | ((conv => whnf); first | (with_reducible refine hK_ _ _ ?_; try clear hK_ K_) | (with_reducible refine fun (g_ : Sl) (o_ : Ow) => ?_) | (with_reducible first | exact True.intro | refine And.intro trivial ?_ | refine And.intro ?_ ?_) | exact Nat.le_of_ble_eq_true rfl | exact Or.inl rfl | (intro h_; cases h_) | (intro h_; (try simp only [vS1] at h_)) | rfl))) <;> (try (conv => whnf)) <;> (try first | change (_ : Int) ≤ _ | change (_ : Nat) ≤ _) <;> (try ((fail_if_success (with_reducible apply Exists.intro)); (try dsimp only); (try simp only [vS1]))) <;> (try simp (disch := omega) only [vS3, Int.add_sub_cancel, tn1, tnp, tnc, vS2] at *)
  all_goals (try (fail_if_success (with_reducible apply Exists.intro)); first | with_reducible assumption | omega | exact mdl (by omega) | exact ilo1 (by omega) | exact ilo2 (by omega) | exact ihi1 (by omega) (by omega) | exact ihi2 (by omega) (by omega))
  · unfold neighZ; rw [decide_eq_true h_]; rfl
  · unfold neighZ; rw [decide_eq_false h_]; rfl
def diagC (xs : List Pt) (i k : Nat) : Bool := seesS xs (pAt xs i) (pAt xs k) && (freeTo xs i k xs.length && decide (midM xs (pAt xs i) (pAt xs k) = 2))
def diagM (xs : List Pt) (i k : Int) : Bool := btw i 0 (xs.length - 1) && (btw k 0 (xs.length - 1) && (!decide (i = k) && (!neighZ xs.length i k && diagC xs i.toNat k.toNat)))
theorem diagC_iff {xs : List Pt} {i k : Nat} : diagC xs i k = true ↔ seesS xs (pAt xs i) (pAt xs k) = true ∧ freeTo xs i k xs.length = true ∧ midM xs (pAt xs i) (pAt xs k) = 2 := by
  unfold diagC; simp only [Bool.and_eq_true, decide_eq_true_eq]
theorem diagM_iff {xs : List Pt} {i k : Int} : diagM xs i k = true ↔ btw i 0 (xs.length - 1) = true ∧ btw k 0 (xs.length - 1) = true ∧ i ≠ k ∧ neighZ xs.length i k = false ∧ diagC xs i.toNat k.toNat = true := by
  unfold diagM; simp only [Bool.and_eq_true, Bool.not_eq_true', decide_eq_false_iff_not, ne_eq]
theorem room_inj {xs : List Pt} (hr : roomOk xs = true) {i j : Nat} (hi : i < xs.length) (hj : j < xs.length) (e : pAt xs i = pAt xs j) : i = j := by
  rw [show pAt xs i = xs[i] from getD_lt _ hi, show pAt xs j = xs[j] from getD_lt _ hj] at e
  exact (List.getElem_inj (room_nodup hr)).1 e
theorem two_iff {xs : List Pt} (hr : roomOk xs = true) {i k : Nat} (hi : i < xs.length) (hk : k < xs.length) : (cutsOf xs (pAt xs i) (pAt xs k)).length = 2 ↔ freeTo xs i k xs.length = true := by
  have h1 : (cutsOf xs (pAt xs i) (pAt xs k)).length = 2 ↔ xs.filter (amid (pAt xs i) (pAt xs k)) = [] := by
    simp only [cutsOf, List.cons_append, List.nil_append, List.length_cons]
    rw [← List.length_eq_zero_iff]
    omega
  rw [h1, freeTo_iff, List.filter_eq_nil_iff]
  constructor
  · intro h j hj
    by_cases e1 : j = i
    · exact .inl e1
    · by_cases e2 : j = k
      · exact .inr (.inl e2)
      · refine .inr (.inr ?_)
        have := h (pAt xs j) (pAt_mem hj)
        rw [amid_iff] at this
        rw [← Bool.not_eq_true]
        exact fun h3 => this ⟨fun e => e1 (room_inj hr hj hi e), fun e => e2 (room_inj hr hj hk e), h3⟩
  · intro h c hc hm
    obtain ⟨j, hj, rfl⟩ := List.getElem_of_mem hc
    rw [← getD_lt (0, 0) hj] at hm
    obtain ⟨m1, m2, m3⟩ := amid_iff.1 hm
    rcases h j hj with e | e | e
    · exact m1 (by rw [e])
    · exact m2 (by rw [e])
    · rw [m3] at e; cases e
theorem cornersB2 {xs : List Pt} (hr : roomOk xs = true) {i k : Nat} (hi : i < xs.length) (hk : k < xs.length) : (cornersB xs (pAt xs i) (pAt xs k)).length = 2 ↔ freeTo xs i k xs.length = true := by
  rw [cornersB_perm (room_pt hr hi) (room_pt hr hk), two_iff hr hi hk]
def diagonalC : Con := mkCon [.room, .int, .int] (fun x => roomOk x.1 = true) fun x => vB (diagM x.1 x.2.1 x.2.2.1)
theorem diagonal_ok : Good1 Try.prog n_impl_diagonal diagonalC := by
  refine good_ofG (tys := tyL) (env := [(n_impl_between, btwC), (n_impl_neighbors, neighC), (n_impl_cornersBetween, cornersBC), (n_impl_sees, sees2C), (n_impl_middle, middleC)]) (envw := []) (envd := []) [] [36, 37, 39, 40, 41, 42, 44, 45] [] [] [] mixed tys ⟨between_ok, neighbors_ok, cornersBetween_ok, sees2_ok, middle_ok, trivial⟩ trivial trivial Try.func115 rfl (by kernel_rfl) (by decide) (by kernel_rfl) ?_
  have hG_ := kpz [(0, [1, 2, 3]), (1, [1, 2, 3, 7]), (2, [1, 2, 3, 35]), (3, [6]), (4, [3, 8, 9]), (5, [6])] [(4, [8, 9])] [] []
  rintro ⟨(xs : List Pt), (i : Int), (k : Int), ⟨⟩⟩ (hr : roomOk xs = true)
  have hl := room_len hr
  (repeat' (first | (with_reducible first | exact True.intro | refine zQ ?_ | (refine zG hG_ ?_; intro K_ hK_) | (refine zR ?_; intro K_ hK_) | (refine hK_ _ _ ?_; try clear hK_ K_) | refine sq_n ?_ | refine sq_r ?_ | refine sq_e ?_ | refine bq_n ?_ | refine bq_r ?_ | refine bq_q ?_ | refine zB ?_ | refine zX ?_ | refine zT ?_ | refine zK ?_ | refine gq_n ?_ | refine gq_r ?_ | refine gq_e ?_ | refine lq_n ?_ | refine lq_r ?_ | refine lq_e ?_ | refine bq_e (by decide) ?_) | ((with_reducible refine zC (b := ?b_) ?hb_ ?_ ?_); case hb_ => rfl) | ((conv => whnf); first | (with_reducible refine hK_ _ _ ?_; try clear hK_ K_) | (with_reducible refine fun (g_ : Sl) (o_ : Ow) => ?_) | (with_reducible first | exact True.intro | refine And.intro trivial ?_ | refine And.intro ?_ ?_) | exact Nat.le_of_ble_eq_true rfl | exact Or.inl rfl | (intro h_; cases h_) | (intro h_; (try simp only [vS1] at h_)) | rfl))) <;> (try (conv => whnf)) <;> (try first | change (_ : Int) ≤ _ | change (_ : Nat) ≤ _) <;> (try ((fail_if_success (with_reducible apply Exists.intro)); (try dsimp only); (try simp only [vS1]))) <;> (try simp (disch := omega) only [vS3, Int.add_sub_cancel, tn1, tnp, tnc, vS2] at *)
  all_goals (try (fail_if_success (with_reducible apply Exists.intro)); first | with_reducible assumption | omega | exact mdl (by omega) | exact ilo1 (by omega) | exact ilo2 (by omega) | exact ihi1 (by omega) (by omega) | exact ihi2 (by omega) (by omega))
  all_goals first
    | (have b1 := btw_iff.1 ‹btw i 0 _ = true›; have b2 := btw_iff.1 ‹btw k 0 _ = true›; first | omega | exact room_pt hr (by omega))
    | (have b1 := btw_iff.1 ‹btw i 0 _ = true›; omega)
    | skip
  · exact eq_false_of fun hc => by have h := (diagM_iff.1 hc).1; rw [‹btw i 0 _ = false›] at h; cases h
  · exact eq_false_of fun hc => by have h := (diagM_iff.1 hc).2.1; rw [‹btw k 0 _ = false›] at h; cases h
  · exact eq_false_of fun hc => (diagM_iff.1 hc).2.2.1 ‹i = k›
  · exact eq_false_of fun hc => by have h := (diagM_iff.1 hc).2.2.2.1; rw [‹neighZ _ i k = true›] at h; cases h
  all_goals (have b1 := btw_iff.1 ‹btw i 0 _ = true›; have b2 := btw_iff.1 ‹btw k 0 _ = true›; have h2 := cornersB2 hr (i := i.toNat) (k := k.toNat) (by omega) (by omega))
  · rw [Bool.eq_iff_iff, diagM_iff, diagC_iff, beq_iff_eq]
    exact ⟨fun h => ⟨‹_›, ‹_›, ‹_›, ‹_›, ‹seesS xs _ _ = true›, h2.1 (Int.ofNat.inj h_), h⟩, fun h => h.2.2.2.2.2.2⟩
  · exact eq_false_of fun hc => absurd ((diagC_iff.1 (diagM_iff.1 hc).2.2.2.2).1.symm.trans ‹seesS xs _ _ = false›) (by decide)
  · exact eq_false_of fun hc => h_ (congrArg Int.ofNat (h2.2 (diagC_iff.1 (diagM_iff.1 hc).2.2.2.2).2.1))
theorem neigh_nat {n i k : Nat} : neighZ n i k = false ↔ (i + 1) % n ≠ k ∧ (k + 1) % n ≠ i := by
  unfold neighZ
  rw [tm1, tm1, Bool.or_eq_false_iff, decide_eq_false_iff_not, decide_eq_false_iff_not, Int.natCast_inj, Int.natCast_inj]
theorem diagN_iff {xs : List Pt} {i k : Nat} (hi : i < xs.length) (hk : k < xs.length) : diagM xs i k = true ↔ i ≠ k ∧ (i + 1) % xs.length ≠ k ∧ (k + 1) % xs.length ≠ i ∧ diagC xs i k = true := by
  rw [diagM_iff, neigh_nat, btw_iff, btw_iff]
  constructor
  · rintro ⟨-, -, h3, h4, h5⟩
    exact ⟨fun e => h3 (by rw [e]), h4.1, h4.2, h5⟩
  · rintro ⟨h3, h4, h5, h6⟩
    exact ⟨by omega, by omega, fun e => h3 (Int.natCast_inj.1 e), ⟨h4, h5⟩, h6⟩
def befZ (n k : Int) : Int := Int.tmod (k + n - 1) n
def aftZ (n k : Int) : Int := Int.tmod (k + 1) n
def aroundC : Con := mkCon [.room, .int] (fun x => 0 < x.1.length ∧ x.1.length ≤ 1048576 ∧ 0 ≤ x.2.1 ∧ x.2.1 ≤ 1048576) fun x => .val (.tup [.inl (.d (.int .i64 (befZ x.1.length x.2.1))), .inl (.d (.int .i64 (aftZ x.1.length x.2.1)))])
theorem around_ok : Good1 Try.prog n_impl_around aroundC := by
  refine good_ofG (tys := tyL) (env := []) (envw := []) (envd := []) [] [] [] [] [] mixed tys trivial trivial trivial Try.func71 rfl (by kernel_rfl) (by decide) (by kernel_rfl) ?_
  have hG_ := kpz [(0, [1, 2]), (1, [1, 6]), (2, [4, 5])] [] [] []
  rintro ⟨(xs : List Pt), (k : Int), ⟨⟩⟩ ⟨(h0 : 0 < xs.length), (h1 : xs.length ≤ _), (h2 : 0 ≤ k), (h3 : k ≤ _)⟩
  (repeat' (first | (with_reducible first | exact True.intro | refine zQ ?_ | (refine zG hG_ ?_; intro K_ hK_) | (refine zR ?_; intro K_ hK_) | (refine hK_ _ _ ?_; try clear hK_ K_) | refine sq_n ?_ | refine sq_r ?_ | refine sq_e ?_ | refine bq_n ?_ | refine bq_r ?_ | refine bq_q ?_ | refine zB ?_ | refine zX ?_ | refine zT ?_ | refine zK ?_ | refine gq_n ?_ | refine gq_r ?_ | refine gq_e ?_ | refine lq_n ?_ | refine lq_r ?_ | refine lq_e ?_ | refine bq_e (by decide) ?_) | ((with_reducible refine zC (b := ?b_) ?hb_ ?_ ?_); case hb_ => rfl) | ((conv => whnf); first | (with_reducible refine hK_ _ _ ?_; try clear hK_ K_) | (with_reducible refine fun (g_ : Sl) (o_ : Ow) => ?_) | (with_reducible first | exact True.intro | refine And.intro trivial ?_ | refine And.intro ?_ ?_) | exact Nat.le_of_ble_eq_true rfl | exact Or.inl rfl | (intro h_; cases h_) | (intro h_; (try simp only [vS1] at h_)) | rfl))) <;> (try (conv => whnf)) <;> (try first | change (_ : Int) ≤ _ | change (_ : Nat) ≤ _) <;> (try ((fail_if_success (with_reducible apply Exists.intro)); (try dsimp only); (try simp only [vS1]))) <;> (try simp (disch := omega) only [vS3, Int.add_sub_cancel, tn1, tnp, tnc, vS2] at *)
  all_goals (try (fail_if_success (with_reducible apply Exists.intro)); first | with_reducible assumption | omega | exact mdl (by omega) | exact ilo1 (by omega) | exact ilo2 (by omega) | exact ihi1 (by omega) (by omega) | exact ihi2 (by omega) (by omega))
  all_goals rfl
def earM (xs : List Pt) (k : Int) : Bool := roomOk xs && (btw k 0 (xs.length - 1) && (decide ((xs.length : Int) = 3) || diagM xs (Int.tmod (k + xs.length - 1) xs.length) (Int.tmod (k + 1) xs.length)))
def earC : Con := mkCon [.room, .int] (fun x => x.1.length ≤ 1048576) fun x => vB (earM x.1 x.2.1)
theorem earM_iff {xs : List Pt} {k : Int} : earM xs k = true ↔ roomOk xs = true ∧ btw k 0 (xs.length - 1) = true ∧ ((xs.length : Int) = 3 ∨ diagM xs (Int.tmod (k + xs.length - 1) xs.length) (Int.tmod (k + 1) xs.length) = true) := by
  unfold earM; simp only [Bool.and_eq_true, Bool.or_eq_true, decide_eq_true_eq]
theorem tmod_in {a n : Int} (ha : 0 ≤ a) (hn : 0 < n) : 0 ≤ Int.tmod a n ∧ Int.tmod a n ≤ n - 1 := by
  rw [Int.tmod_eq_emod_of_nonneg ha]
  have := Int.emod_nonneg a (show n ≠ 0 by omega)
  have := Int.emod_lt_of_pos a hn
  omega
theorem iIsEar_ok : Good1 Try.prog n_impl_IsEar earC := by
  refine good_ofG (tys := tyL) (env := [(n_impl_hasCorner, hasCorC), (n_impl_around, aroundC), (n_impl_diagonal, diagonalC)]) (envw := []) (envd := []) [] [] [] [] [] mixed tys ⟨hasCorner_ok, around_ok, diagonal_ok, trivial⟩ trivial trivial Try.func69 rfl (by kernel_rfl) (by decide) (by kernel_rfl) ?_
  have hG_ := kpz [(0, [1, 2]), (1, [1, 2, 10]), (2, [4]), (3, [2, 5, 6]), (4, [4])] [] [] []
  rintro ⟨(xs : List Pt), (k : Int), ⟨⟩⟩ (h1 : xs.length ≤ _)
  (repeat' (first | (with_reducible first | exact True.intro | refine zQ ?_ | (refine zG hG_ ?_; intro K_ hK_) | (refine zR ?_; intro K_ hK_) | (refine hK_ _ _ ?_; try clear hK_ K_) | refine sq_n ?_ | refine sq_r ?_ | refine sq_e ?_ | refine bq_n ?_ | refine bq_r ?_ | refine bq_q ?_ | refine zB ?_ | refine zX ?_ | refine zT ?_ | refine zK ?_ | refine gq_n ?_ | refine gq_r ?_ | refine gq_e ?_ | refine lq_n ?_ | refine lq_r ?_ | refine lq_e ?_ | refine bq_e (by decide) ?_) | ((with_reducible refine zC (b := ?b_) ?hb_ ?_ ?_); case hb_ => rfl) | ((conv => whnf); first | (with_reducible refine hK_ _ _ ?_; try clear hK_ K_) | (with_reducible refine fun (g_ : Sl) (o_ : Ow) => ?_) | (with_reducible first | exact True.intro | refine And.intro trivial ?_ | refine And.intro ?_ ?_) | exact Nat.le_of_ble_eq_true rfl | exact Or.inl rfl | (intro h_; cases h_) | (intro h_; (try simp only [vS1] at h_)) | rfl))) <;> (try (conv => whnf)) <;> (try first | change (_ : Int) ≤ _ | change (_ : Nat) ≤ _) <;> (try ((fail_if_success (with_reducible apply Exists.intro)); (try dsimp only); (try simp only [vS1]))) <;> (try simp (disch := omega) only [vS3, Int.add_sub_cancel, tn1, tnp, tnc, vS2] at *)
  all_goals (try (fail_if_success (with_reducible apply Exists.intro)); first | with_reducible assumption | omega | exact mdl (by omega) | exact ilo1 (by omega) | exact ilo2 (by omega) | exact ihi1 (by omega) (by omega) | exact ihi2 (by omega) (by omega))
  · refine eq_false_of fun hc => ?_
    obtain ⟨c1, c2, -⟩ := earM_iff.1 hc
    have : hasCor xs k = true := by unfold hasCor; rw [c1, c2]; rfl
    rw [h_] at this; cases this
  all_goals (have hc : hasCor xs k = true := by assumption)
  all_goals (unfold hasCor at hc; rw [Bool.and_eq_true] at hc; have hb := btw_iff.1 hc.1; have hl := room_len hc.2)
  · omega
  · omega
  · omega
  · exact eq_true_of (earM_iff.2 ⟨hc.2, hc.1, .inl h_⟩)
  · exact hc.2
  · rw [Bool.eq_iff_iff, earM_iff]
    exact ⟨fun h => ⟨hc.2, hc.1, .inr h⟩, fun h => h.2.2.resolve_left h_⟩
end Go.Proofs.Ytnepfcnlngpchaa
namespace Go.Proofs.Ytnepfcnlngpchaa
open Go.RowKit Go.Proofs.Ytnepfcnlngpchaa.Nm
set_option maxRecDepth 10000
theorem locRow_eq {v : Nat} {t : TypeId} {k : ElK} {xs ys : List k.T} (h : xs = ys) : (⟨v, .row t k xs⟩ : Loc) = ⟨v, .row t k ys⟩ := by rw [h]
def roomRoomC (f : List Pt → List Pt) : Con := mkCon [.room] (fun x => x.1.length ≤ 1048576) fun x => rRoom (f x.1)
theorem getD_set {α : Type} {xs : List α} {i p : Nat} {x d : α} (hi : i < xs.length) : (xs.set i x).getD p d = if p = i then x else xs.getD p d := by
  rw [List.getD_eq_getElem?_getD, List.getElem?_set]
  by_cases h : i = p
  · subst h; simp [hi]
  · rw [if_neg h, if_neg (Ne.symm h)]; rfl
end Go.Proofs.Ytnepfcnlngpchaa
namespace Go.Proofs.Ytnepfcnlngpchaa
open Go.RowKit
theorem erase_eq {α : Type} (l : List α) (k : Nat) : l.eraseIdx k = l.take k ++ l.drop (k + 1) := List.eraseIdx_eq_take_drop_succ l k
abbrev gI (l : List Int) (k : Nat) : Int := l.getD k 0
def prvN (n i : Nat) : Nat := (i + n - 1) % n
def nxtN (n i : Nat) : Nat := (i + 1) % n
theorem prv_int {n i : Nat} (hi : i < n) : Int.tmod ((i : Int) + n - 1) n = (prvN n i : Nat) := by
  unfold prvN
  rw [show ((i : Int) + n - 1) = ((i + n - 1 : Nat) : Int) by omega, ← Int.ofNat_tmod]
theorem nxt_int {n i : Nat} : Int.tmod ((i : Int) + 1) n = (nxtN n i : Nat) := by
  unfold nxtN
  rw [tm1]
def cutM (xs : List Pt) (l : List Int) (i : Nat) : Bool :=
  ((diagM xs (gI l (prvN l.length i)) (gI l (nxtN l.length i)) || neighZ xs.length (gI l (prvN l.length i)) (gI l (nxtN l.length i))) && decide (0 < turn (pI xs (gI l (prvN l.length i))) (pI xs (gI l i)) (pI xs (gI l (nxtN l.length i))))) &&
  l.all fun x => decide (x = gI l (prvN l.length i)) || (decide (x = gI l i) || (decide (x = gI l (nxtN l.length i)) || !inTri (pI xs (gI l (prvN l.length i))) (pI xs (gI l i)) (pI xs (gI l (nxtN l.length i))) (pI xs x)))
theorem cutM_iff {xs : List Pt} {l : List Int} {i : Nat} : cutM xs l i = true ↔ (diagM xs (gI l (prvN l.length i)) (gI l (nxtN l.length i)) = true ∨ neighZ xs.length (gI l (prvN l.length i)) (gI l (nxtN l.length i)) = true) ∧
    0 < turn (pI xs (gI l (prvN l.length i))) (pI xs (gI l i)) (pI xs (gI l (nxtN l.length i))) ∧
    ∀ j, j < l.length → gI l j = gI l (prvN l.length i) ∨ gI l j = gI l i ∨ gI l j = gI l (nxtN l.length i) ∨ inTri (pI xs (gI l (prvN l.length i))) (pI xs (gI l i)) (pI xs (gI l (nxtN l.length i))) (pI xs (gI l j)) = false := by
  unfold cutM
  simp only [Bool.and_eq_true, Bool.or_eq_true, decide_eq_true_eq, List.all_eq_true, Bool.not_eq_true']
  constructor
  · rintro ⟨⟨h1, h2⟩, h3⟩
    refine ⟨h1, h2, fun j hj => h3 _ ?_⟩
    rw [show gI l j = l[j] from getD_lt _ hj]
    exact List.getElem_mem _
  · rintro ⟨h1, h2, h3⟩
    refine ⟨⟨h1, h2⟩, fun x hx => ?_⟩
    obtain ⟨j, hj, rfl⟩ := List.getElem_of_mem hx
    have := h3 j hj
    rwa [show gI l j = l[j] from getD_lt _ hj] at this
def firstCut (xs : List Pt) (l : List Int) : Option Nat := (List.range l.length).find? (cutM xs l)
theorem firstCut_spec {xs : List Pt} {l : List Int} {i : Nat} (h : firstCut xs l = some i) : i < l.length ∧ cutM xs l i = true := by
  unfold firstCut at h
  rw [List.find?_range_eq_some] at h
  exact ⟨List.mem_range.1 h.2.1, h.1⟩
def triS (a b c : Int) : Tri := (min (min a b) c, a + b + c - min (min a b) c - max (max a b) c, max (max a b) c)
def triAt (l : List Int) (i : Nat) : Tri := triS (gI l (prvN l.length i)) (gI l i) (gI l (nxtN l.length i))
def triRun (xs : List Pt) : Nat → List Int → List Tri → List Tri
  | 0, l, out => out ++ [triS (gI l 0) (gI l 1) (gI l 2)]
  | f + 1, l, out => match firstCut xs l with
    | none => []
    | some i => triRun xs f (l.eraseIdx i) (out ++ [triAt l i])
def allC (n : Nat) : List Int := (List.range n).map fun k : Nat => (k : Int)
def trisM (xs : List Pt) : List Tri := if roomOk xs then triRun xs (xs.length - 3) (allC xs.length) [] else []
theorem allC_len (n : Nat) : (allC n).length = n := by simp [allC]
structure Left (n : Nat) (l : List Int) : Prop where
  len : 3 ≤ l.length
  le : l.length ≤ n
  inc : l.Pairwise (· < ·)
  ge : ∀ x ∈ l, 0 ≤ x
  lt : ∀ x ∈ l, x < n
theorem left_all {n : Nat} (h : 3 ≤ n) : Left n (allC n) := by
  refine ⟨by rw [allC_len]; exact h, by rw [allC_len]; exact Nat.le_refl _, ?_, ?_, ?_⟩
  · unfold allC
    rw [List.pairwise_map]
    exact List.pairwise_lt_range.imp fun h => by omega
  all_goals (intro x hx; unfold allC at hx; obtain ⟨k, hk, rfl⟩ := List.mem_map.1 hx; have := List.mem_range.1 hk; omega)
theorem Left.erase {n : Nat} {l : List Int} (h : Left n l) (h4 : 3 < l.length) {i : Nat} (hi : i < l.length) : Left n (l.eraseIdx i) := by
  have hl := List.length_eraseIdx_of_lt hi
  refine ⟨by omega, by have := h.le; omega, h.inc.sublist (List.eraseIdx_sublist _ _), fun x hx => h.ge x ((List.eraseIdx_sublist _ _).mem hx), fun x hx => h.lt x ((List.eraseIdx_sublist _ _).mem hx)⟩
theorem gI_mem {l : List Int} {k : Nat} (h : k < l.length) : gI l k ∈ l := by rw [show gI l k = l[k] from getD_lt _ h]; exact List.getElem_mem _
theorem Left.at {n : Nat} {l : List Int} (h : Left n l) {k : Nat} (hk : k < l.length) : 0 ≤ gI l k ∧ gI l k < n := ⟨h.ge _ (gI_mem hk), h.lt _ (gI_mem hk)⟩
theorem Left.mono {n : Nat} {l : List Int} (h : Left n l) {i j : Nat} (hij : i < j) (hj : j < l.length) : gI l i < gI l j := by
  rw [show gI l i = l[i] from getD_lt _ (by omega), show gI l j = l[j] from getD_lt _ hj]
  exact List.pairwise_iff_getElem.1 h.inc i j (by omega) hj hij
theorem Left.inj {n : Nat} {l : List Int} (h : Left n l) {i j : Nat} (hi : i < l.length) (hj : j < l.length) (e : gI l i = gI l j) : i = j := by
  rcases Nat.lt_trichotomy i j with h1 | h1 | h1
  · have := h.mono h1 hj; omega
  · exact h1
  · have := h.mono h1 hi; omega
theorem prv_lt {n i : Nat} (h : 0 < n) : prvN n i < n := Nat.mod_lt _ h
theorem nxt_lt {n i : Nat} (h : 0 < n) : nxtN n i < n := Nat.mod_lt _ h
theorem prv_eq {n i : Nat} (hi : i < n) : (i = 0 ∧ prvN n i = n - 1) ∨ (0 < i ∧ prvN n i = i - 1) := by
  unfold prvN
  rcases Nat.eq_zero_or_pos i with h | h
  · subst h; exact .inl ⟨rfl, by rw [Nat.zero_add, Nat.mod_eq_of_lt (by omega)]⟩
  · exact .inr ⟨h, by rw [show i + n - 1 = (i - 1) + n by omega, Nat.add_mod_right, Nat.mod_eq_of_lt (by omega)]⟩
theorem nxt_eq {n i : Nat} (hi : i < n) : (i + 1 = n ∧ nxtN n i = 0) ∨ (i + 1 < n ∧ nxtN n i = i + 1) := by
  unfold nxtN
  rcases Nat.lt_or_ge (i + 1) n with h | h
  · exact .inr ⟨h, Nat.mod_eq_of_lt h⟩
  · have : i + 1 = n := by omega
    exact .inl ⟨this, by rw [this, Nat.mod_self]⟩
structure TriSt (xs : List Pt) (s : List Int × List Tri) : Prop where
  left : Left xs.length s.1
  run : triRun xs (s.1.length - 3) s.1 s.2 = trisM xs
  len : s.2.length + s.1.length = xs.length
theorem TriSt.step {xs : List Pt} {s : List Int × List Tri} (h : TriSt xs s) (h4 : 3 < s.1.length) {i : Nat} (hc : firstCut xs s.1 = some i) : TriSt xs (s.1.eraseIdx i, s.2 ++ [triAt s.1 i]) := by
  have hi := (firstCut_spec hc).1
  have hl := List.length_eraseIdx_of_lt hi
  refine ⟨h.left.erase h4 hi, ?_, ?_⟩
  · have hr := h.run
    show triRun xs ((s.1.eraseIdx i).length - 3) _ _ = _
    rw [hl, show s.1.length - 1 - 3 = s.1.length - 4 by omega]
    rw [show s.1.length - 3 = (s.1.length - 4) + 1 by omega] at hr
    unfold triRun at hr
    rw [hc] at hr
    exact hr
  · have := h.len
    show (s.2 ++ [triAt s.1 i]).length + (s.1.eraseIdx i).length = _
    rw [List.length_append, hl]
    simp only [List.length_cons, List.length_nil]
    omega
theorem TriSt.none {xs : List Pt} {s : List Int × List Tri} (h : TriSt xs s) (h4 : 3 < s.1.length) (hc : firstCut xs s.1 = none) : trisM xs = [] := by
  have hr := h.run
  rw [show s.1.length - 3 = (s.1.length - 4) + 1 by omega] at hr
  unfold triRun at hr
  rw [hc] at hr
  exact hr.symm
theorem TriSt.last {xs : List Pt} {s : List Int × List Tri} (h : TriSt xs s) (h3 : s.1.length ≤ 3) : trisM xs = s.2 ++ [triS (gI s.1 0) (gI s.1 1) (gI s.1 2)] := by
  have hr := h.run
  rw [show s.1.length - 3 = 0 by omega] at hr
  exact hr.symm
inductive Cutd : List Int → List Tri → Prop
  | last {l : List Int} (h : l.length = 3) : Cutd l [triS (gI l 0) (gI l 1) (gI l 2)]
  | step {l : List Int} {ts : List Tri} {i : Nat} (h : 3 < l.length) (hi : i < l.length) (hr : Cutd (l.eraseIdx i) ts) : Cutd l (triAt l i :: ts)
theorem Cutd.ne {l : List Int} {ts : List Tri} (h : Cutd l ts) : ts ≠ [] := by cases h <;> simp
theorem triS_six (a b c : Int) : triS a b c = (a, b, c) ∨ triS a b c = (a, c, b) ∨ triS a b c = (b, a, c) ∨ triS a b c = (b, c, a) ∨ triS a b c = (c, a, b) ∨ triS a b c = (c, b, a) := by
  unfold triS
  simp only [Prod.mk.injEq]
  omega
theorem triS_inc {a b c : Int} (h1 : a ≠ b) (h2 : b ≠ c) (h3 : a ≠ c) : (triS a b c).1 < (triS a b c).2.1 ∧ (triS a b c).2.1 < (triS a b c).2.2 := by
  unfold triS
  simp only
  omega
def TriIn (n : Nat) (t : Tri) : Prop := 0 ≤ t.1 ∧ t.1 < t.2.1 ∧ t.2.1 < t.2.2 ∧ t.2.2 < n
theorem triIn_of {n : Nat} {a b c : Int} (h1 : a ≠ b) (h2 : b ≠ c) (h3 : a ≠ c) (ha : 0 ≤ a ∧ a < n) (hb : 0 ≤ b ∧ b < n) (hc : 0 ≤ c ∧ c < n) : TriIn n (triS a b c) := by
  have hi := triS_inc h1 h2 h3
  unfold TriIn
  rcases triS_six a b c with e | e | e | e | e | e <;> rw [e] at hi ⊢ <;> simp only at hi ⊢ <;> omega
theorem prv_ne {n i : Nat} (h3 : 3 ≤ n) (hi : i < n) : prvN n i ≠ i ∧ nxtN n i ≠ i ∧ prvN n i ≠ nxtN n i := by
  rcases prv_eq hi with ⟨h1, h2⟩ | ⟨h1, h2⟩ <;> rcases nxt_eq hi with ⟨h4, h5⟩ | ⟨h4, h5⟩ <;> omega
theorem Left.triAt {n : Nat} {l : List Int} (h : Left n l) {i : Nat} (hi : i < l.length) : TriIn n (triAt l i) := by
  have h3 := h.len
  obtain ⟨e1, e2, e3⟩ := prv_ne h3 hi
  have hp := prv_lt (n := l.length) (i := i) (by omega)
  have hq := nxt_lt (n := l.length) (i := i) (by omega)
  exact triIn_of (fun e => e1 (h.inj hp hi e)) (fun e => e2 (h.inj hq hi e.symm)) (fun e => e3 (h.inj hp hq e)) (h.at hp) (h.at hi) (h.at hq)
abbrev cI (out : List Int) (x : Int) : Int := out.getD x.toNat 0
def colStep (out : List Int) (t : Tri) : List Int :=
  if cI out t.1 < 0 then out.set t.1.toNat (3 - cI out t.2.1 - cI out t.2.2)
  else if cI out t.2.1 < 0 then out.set t.2.1.toNat (3 - cI out t.2.2 - cI out t.1)
  else if cI out t.2.2 < 0 then out.set t.2.2.toNat (3 - cI out t.1 - cI out t.2.1)
  else out
theorem colStep_len (out : List Int) (t : Tri) : (colStep out t).length = out.length := by
  unfold colStep
  split
  · simp
  · split
    · simp
    · split <;> simp
theorem cI_set {out : List Int} {x y : Int} {v : Int} (hx : 0 ≤ x ∧ x < out.length) (hy : 0 ≤ y) : cI (out.set x.toNat v) y = if y = x then v else cI out y := by
  unfold cI
  rw [getD_set (by omega)]
  by_cases h : y = x
  · subst h; rw [if_pos rfl, if_pos rfl]
  · rw [if_neg h, if_neg (by omega)]
structure Col (n : Nat) (l : List Int) (out : List Int) : Prop where
  len : out.length = n
  yes : ∀ x ∈ l, 0 ≤ cI out x ∧ cI out x ≤ 2
  no : ∀ x : Int, 0 ≤ x → x < n → x ∉ l → cI out x = -1
  ne : ∀ k, k < l.length → cI out (gI l k) ≠ cI out (gI l (nxtN l.length k))
theorem gI_erase {l : List Int} {i j : Nat} (hj : j + 1 < l.length) : gI (l.eraseIdx i) j = if j < i then gI l j else gI l (j + 1) := by
  unfold gI
  rw [List.getD_eq_getElem?_getD, List.getElem?_eraseIdx]
  split <;> rw [← List.getD_eq_getElem?_getD]
theorem mem_gI {l : List Int} {x : Int} : x ∈ l ↔ ∃ k, k < l.length ∧ gI l k = x := by
  rw [List.mem_iff_getElem]
  constructor
  · rintro ⟨k, h, e⟩; exact ⟨k, h, by rw [show gI l k = l[k] from getD_lt _ h, e]⟩
  · rintro ⟨k, h, e⟩; exact ⟨k, h, by rw [← e, show gI l k = l[k] from getD_lt _ h]⟩
theorem Left.mem_erase {n : Nat} {l : List Int} (h : Left n l) {i : Nat} (hi : i < l.length) {x : Int} : x ∈ l.eraseIdx i ↔ x ∈ l ∧ x ≠ gI l i := by
  have hl := List.length_eraseIdx_of_lt hi
  rw [mem_gI, mem_gI, hl]
  constructor
  · rintro ⟨k, hk, e⟩
    rw [gI_erase (by omega)] at e
    split at e
    · exact ⟨⟨k, by omega, e⟩, fun e' => by have := h.inj (i := k) (j := i) (by omega) hi (by rw [e, e']); omega⟩
    · exact ⟨⟨k + 1, by omega, e⟩, fun e' => by have := h.inj (i := k + 1) (j := i) (by omega) hi (by rw [e, e']); omega⟩
  · rintro ⟨⟨k, hk, e⟩, hne⟩
    have hki : k ≠ i := fun e' => hne (by rw [← e, e'])
    rcases Nat.lt_or_ge k i with h1 | h1
    · exact ⟨k, by omega, by rw [gI_erase (by omega), if_pos h1, e]⟩
    · exact ⟨k - 1, by omega, by rw [gI_erase (by omega), if_neg (by omega), show k - 1 + 1 = k by omega, e]⟩
theorem colStep_cut {out : List Int} {p c q : Int} (hc : cI out c < 0) (hp : 0 ≤ cI out p) (hq : 0 ≤ cI out q) : colStep out (triS p c q) = out.set c.toNat (3 - cI out p - cI out q) := by
  unfold colStep
  rcases triS_six p c q with e | e | e | e | e | e <;> rw [e] <;> simp only
  · rw [if_neg (by omega), if_pos hc]; congr 1; omega
  · rw [if_neg (by omega), if_neg (by omega), if_pos hc]
  · rw [if_pos hc]
  · rw [if_pos hc]; congr 1; omega
  · rw [if_neg (by omega), if_neg (by omega), if_pos hc]; congr 1; omega
  · rw [if_neg (by omega), if_pos hc]
theorem Col.step {n : Nat} {l : List Int} {i : Nat} {out : List Int} (hl : Left n l) (h4 : 3 < l.length) (hi : i < l.length) (h : Col n (l.eraseIdx i) out) :
    (cI out (gI l i) = -1 ∧ (0 ≤ cI out (gI l (prvN l.length i)) ∧ cI out (gI l (prvN l.length i)) ≤ 2) ∧ (0 ≤ cI out (gI l (nxtN l.length i)) ∧ cI out (gI l (nxtN l.length i)) ≤ 2)) ∧ Col n l (colStep out (triAt l i)) := by
  have hlen := List.length_eraseIdx_of_lt hi
  obtain ⟨e1, e2, e3⟩ := prv_ne (n := l.length) (by omega) hi
  have hp := prv_lt (n := l.length) (i := i) (by omega)
  have hq := nxt_lt (n := l.length) (i := i) (by omega)
  have hpm : gI l (prvN l.length i) ∈ l.eraseIdx i := (hl.mem_erase hi).2 ⟨gI_mem hp, fun e => e1 (hl.inj hp hi e)⟩
  have hqm : gI l (nxtN l.length i) ∈ l.eraseIdx i := (hl.mem_erase hi).2 ⟨gI_mem hq, fun e => e2 (hl.inj hq hi e)⟩
  have hcn : gI l i ∉ l.eraseIdx i := fun hm => ((hl.mem_erase hi).1 hm).2 rfl
  have hc := h.no _ (hl.at hi).1 (hl.at hi).2 hcn
  have hcp := h.yes _ hpm
  have hcq := h.yes _ hqm
  have hpq : cI out (gI l (prvN l.length i)) ≠ cI out (gI l (nxtN l.length i)) := by
    have key : ∃ k, k < (l.eraseIdx i).length ∧ gI (l.eraseIdx i) k = gI l (prvN l.length i) ∧ gI (l.eraseIdx i) (nxtN (l.eraseIdx i).length k) = gI l (nxtN l.length i) := by
      rcases prv_eq hi with ⟨h1, h2⟩ | ⟨h1, h2⟩
      · refine ⟨l.length - 2, by omega, by rw [gI_erase (by omega), if_neg (by omega), h2]; congr 1; omega, ?_⟩
        rcases nxt_eq (n := (l.eraseIdx i).length) (i := l.length - 2) (by omega) with ⟨g1, g2⟩ | ⟨g1, g2⟩
        · rcases nxt_eq hi with ⟨g3, g4⟩ | ⟨g3, g4⟩
          · omega
          · rw [g2, g4, gI_erase (by omega), if_neg (by omega)]; congr 1; omega
        · omega
      · refine ⟨i - 1, by omega, by rw [gI_erase (by omega), if_pos (by omega), h2], ?_⟩
        rcases nxt_eq hi with ⟨g3, g4⟩ | ⟨g3, g4⟩
        · rcases nxt_eq (n := (l.eraseIdx i).length) (i := i - 1) (by omega) with ⟨g1, g2⟩ | ⟨g1, g2⟩
          · rw [g2, g4, gI_erase (by omega), if_pos (by omega)]
          · omega
        · rcases nxt_eq (n := (l.eraseIdx i).length) (i := i - 1) (by omega) with ⟨g1, g2⟩ | ⟨g1, g2⟩
          · omega
          · rw [g2, g4, gI_erase (by omega), if_neg (by omega)]; congr 1; omega
    obtain ⟨k, k1, k2, k3⟩ := key
    have := h.ne k k1
    rw [k2, k3] at this
    exact this
  refine ⟨⟨hc, hcp, hcq⟩, ?_⟩
  have hs : colStep out (triAt l i) = out.set (gI l i).toNat (3 - cI out (gI l (prvN l.length i)) - cI out (gI l (nxtN l.length i))) := colStep_cut (by omega) hcp.1 hcq.1
  have hcx : 0 ≤ gI l i ∧ gI l i < out.length := by rw [h.len]; exact hl.at hi
  have hget : ∀ y, 0 ≤ y → cI (colStep out (triAt l i)) y = if y = gI l i then 3 - cI out (gI l (prvN l.length i)) - cI out (gI l (nxtN l.length i)) else cI out y := fun y hy => by rw [hs]; exact cI_set hcx hy
  refine ⟨by rw [colStep_len, h.len], fun x hx => ?_, fun x h0 h1 hx => ?_, fun k hk => ?_⟩
  · rw [hget x (hl.ge x hx)]
    split
    · omega
    · exact h.yes x ((hl.mem_erase hi).2 ⟨hx, by assumption⟩)
  · rw [hget x h0, if_neg (fun e => hx (by rw [e]; exact gI_mem hi))]
    exact h.no x h0 h1 (fun hm => hx ((hl.mem_erase hi).1 hm).1)
  · have hkn := nxt_lt (n := l.length) (i := k) (by omega)
    rw [hget _ (hl.at hk).1, hget _ (hl.at hkn).1]
    by_cases hki : k = i
    · subst hki
      rw [if_pos rfl, if_neg (fun e => e2 (hl.inj hq hi e))]
      omega
    · rw [if_neg (fun e => hki (hl.inj hk hi e))]
      by_cases hni : nxtN l.length k = i
      · rw [if_pos (by rw [hni])]
        have hkp : k = prvN l.length i := by
          rcases nxt_eq hk with ⟨g1, g2⟩ | ⟨g1, g2⟩ <;> rcases prv_eq hi with ⟨g3, g4⟩ | ⟨g3, g4⟩ <;> omega
        rw [hkp]
        omega
      · rw [if_neg (fun e => hni (hl.inj hkn hi e))]
        have key : ∃ j, j < (l.eraseIdx i).length ∧ gI (l.eraseIdx i) j = gI l k ∧ gI (l.eraseIdx i) (nxtN (l.eraseIdx i).length j) = gI l (nxtN l.length k) := by
          rcases Nat.lt_or_ge k i with h1 | h1
          · refine ⟨k, by omega, by rw [gI_erase (by omega), if_pos h1], ?_⟩
            rcases nxt_eq hk with ⟨g1, g2⟩ | ⟨g1, g2⟩
            · omega
            · rcases nxt_eq (n := (l.eraseIdx i).length) (i := k) (by omega) with ⟨g3, g4⟩ | ⟨g3, g4⟩
              · omega
              · rw [g2, g4, gI_erase (by omega), if_pos (by omega)]
          · refine ⟨k - 1, by omega, by rw [gI_erase (by omega), if_neg (by omega), show k - 1 + 1 = k by omega], ?_⟩
            rcases nxt_eq hk with ⟨g1, g2⟩ | ⟨g1, g2⟩
            · rcases nxt_eq (n := (l.eraseIdx i).length) (i := k - 1) (by omega) with ⟨g3, g4⟩ | ⟨g3, g4⟩
              · rw [g2, g4, gI_erase (by omega), if_pos (by omega)]
              · omega
            · rcases nxt_eq (n := (l.eraseIdx i).length) (i := k - 1) (by omega) with ⟨g3, g4⟩ | ⟨g3, g4⟩
              · omega
              · rw [g2, g4, gI_erase (by omega), if_neg (by omega)]; congr 1; omega
        obtain ⟨j, j1, j2, j3⟩ := key
        have := h.ne j j1
        rw [j2, j3] at this
        exact this
end Go.Proofs.Ytnepfcnlngpchaa
namespace Go.Proofs.Ytnepfcnlngpchaa.Geo
open Go.RowKit
def subP (xs : List Pt) (l : List Int) : Poly := ⟨l.length, fun j => (roomP xs).v (gI l (j % l.length)).toNat, fun j => by show (roomP xs).v (gI l ((j + l.length) % l.length)).toNat = _; rw [Nat.add_mod_right]⟩
theorem sub_v (xs : List Pt) {l : List Int} {j : Nat} (h : j < l.length) : (subP xs l).v j = (roomP xs).v (gI l j).toNat := by
  show (roomP xs).v (gI l (j % l.length)).toNat = _
  rw [Nat.mod_eq_of_lt h]
theorem gI_all {n k : Nat} (h : k < n) : gI (allC n) k = k := by
  unfold gI allC
  rw [getD_lt _ (by simpa using h)]; simp
theorem sub_all {xs : List Pt} (hn : 0 < xs.length) : subP xs (allC xs.length) = roomP xs := by
  refine Poly.ext' (allC_len _) fun j => ?_
  show (roomP xs).v (gI (allC xs.length) (j % (allC xs.length).length)).toNat = _
  rw [allC_len, gI_all (Nat.mod_lt _ hn), Int.toNat_natCast]
  exact (roomP xs).per_mod j
theorem sub_erase (xs : List Pt) {l : List Int} (h3 : 3 < l.length) {i : Nat} (hi : i < l.length) : (subP xs (l.eraseIdx i)).rot i = partB ((subP xs l).rot (i + l.length - 1)) 2 := by
  have hl := List.length_eraseIdx_of_lt hi
  refine Poly.ext' (by show (l.eraseIdx i).length = l.length - 2 + 1; omega) fun j => ?_
  show (roomP xs).v (gI (l.eraseIdx i) ((i + j) % (l.eraseIdx i).length)).toNat = (roomP xs).v (gI l ((i + l.length - 1 + (2 + j % (l.length - 2 + 1))) % l.length)).toNat
  have hm : j % (l.length - 1) < l.length - 1 := Nat.mod_lt _ (by omega)
  rw [hl, show l.length - 2 + 1 = l.length - 1 by omega, ← Nat.add_mod_mod]
  generalize j % (l.length - 1) = r at hm
  have e1 : (i + l.length - 1 + (2 + r)) % l.length = (i + 1 + r) % l.length := by
    rw [show i + l.length - 1 + (2 + r) = i + 1 + r + l.length by omega, Nat.add_mod_right]
  rw [e1]
  rcases Nat.lt_or_ge (i + 1 + r) l.length with g | g
  · rw [Nat.mod_eq_of_lt g, Nat.mod_eq_of_lt (show i + r < l.length - 1 by omega), gI_erase (by omega), if_neg (by omega), show i + r + 1 = i + 1 + r by omega]
  · rw [Nat.mod_eq_sub_mod g, Nat.mod_eq_of_lt (show i + 1 + r - l.length < l.length by omega), Nat.mod_eq_sub_mod (show l.length - 1 ≤ i + r by omega), Nat.mod_eq_of_lt (show i + r - (l.length - 1) < l.length - 1 by omega),
      gI_erase (by omega), if_pos (by omega), show i + r - (l.length - 1) = i + 1 + r - l.length by omega]
structure Sub (xs : List Pt) (l : List Int) : Prop where
  left : Left xs.length l
  sim : SimpleP (subP xs l)
  area : 0 < (subP xs l).area
  out : ∀ {K x}, 0 < K → Outp (roomP xs) K x → Outp (subP xs l) K x
  inn : ∀ {K x}, 0 < K → Inn (subP xs l) K x → Inn (roomP xs) K x
theorem Sub.all {xs : List Pt} (hr : roomOk xs = true) : Sub xs (allC xs.length) := by
  have e := sub_all (room_pos hr)
  exact ⟨left_all (room_len hr).1, by rw [e]; exact room_simple hr, by rw [e]; exact (room_area hr).2.1, fun _ h => by rw [e]; exact h, fun _ h => by rw [e] at h; exact h⟩
theorem Inn.rot {P : Poly} {K : Int} {x : Pt} (h : Inn P K x) (s : Nat) : Inn (P.rot s) K x := by
  obtain ⟨ho, g, hg, e⟩ := h
  refine ⟨fun k hk => ?_, g, hg, by rw [← e]; exact wnd_rot g (P.sc K) s x⟩
  have hn : 0 < P.n := by have hk : k < P.n := hk; omega
  have := ho ((s + k) % P.n) (Nat.mod_lt _ hn)
  rw [P.per_mod, P.per_add] at this
  exact this
theorem Inn.rot_iff {P : Poly} {K : Int} {x : Pt} (hn : 1 ≤ P.n) (s : Nat) : Inn (P.rot s) K x ↔ Inn P K x :=
  ⟨fun h => by have := h.rot (s * (P.n - 1)); rw [rot_back P s hn] at this; exact this, fun h => h.rot s⟩
abbrev EarL (xs : List Pt) (l : List Int) (i : Nat) : Prop := EarI (subP xs l) (i + l.length - 1)
theorem ear_pts (xs : List Pt) {l : List Int} (h3 : 3 ≤ l.length) {i : Nat} (hi : i < l.length) :
    (subP xs l).v (i + l.length - 1) = (roomP xs).v (gI l (prvN l.length i)).toNat ∧ (subP xs l).v (i + l.length - 1 + 1) = (roomP xs).v (gI l i).toNat ∧ (subP xs l).v (i + l.length - 1 + 2) = (roomP xs).v (gI l (nxtN l.length i)).toNat := by
  refine ⟨rfl, ?_, ?_⟩
  · show (roomP xs).v (gI l ((i + l.length - 1 + 1) % l.length)).toNat = _
    rw [show i + l.length - 1 + 1 = i + l.length by omega, Nat.add_mod_right, Nat.mod_eq_of_lt hi]
  · show (roomP xs).v (gI l ((i + l.length - 1 + 2) % l.length)).toNat = _
    rw [show i + l.length - 1 + 2 = i + 1 + l.length by omega, Nat.add_mod_right]; rfl
theorem Sub.some {xs : List Pt} {l : List Int} (h : Sub xs l) (h3 : 3 < l.length) : ∃ i, i < l.length ∧ EarL xs l i := by
  obtain ⟨s, d, -, -, e, -⟩ := two_ears l.length (subP xs l) rfl h3 h.sim h.area
  refine ⟨(s + 1) % l.length, Nat.mod_lt _ (by omega), ?_⟩
  have key : ∀ d, (subP xs l).v ((s + 1) % l.length + l.length - 1 + d) = (subP xs l).v (s + d) := fun d => by
    rw [show (s + 1) % l.length + l.length - 1 + d = (s + 1) % (subP xs l).n + (l.length - 1 + d) by show _ = (s + 1) % l.length + _; omega, (subP xs l).per_add, show s + 1 + (l.length - 1 + d) = s + d + l.length by omega]
    exact (subP xs l).per (s + d)
  show EarP _ _ _ _
  have k0 : (subP xs l).v ((s + 1) % l.length + l.length - 1) = (subP xs l).v s := key 0
  rw [k0, key 1, key 2]
  exact e
theorem room_v {xs : List Pt} {k : Int} (h0 : 0 ≤ k) (h : k < xs.length) : (roomP xs).v k.toNat = pI xs k := v_lt (by omega)
theorem turnI {xs : List Pt} (hr : roomOk xs = true) {a b c : Int} (ha : 0 ≤ a ∧ a < xs.length) (hb : 0 ≤ b ∧ b < xs.length) (hc : 0 ≤ c ∧ c < xs.length) : turn (pI xs a) (pI xs b) (pI xs c) = turnZ ((roomP xs).v a.toNat) ((roomP xs).v b.toNat) ((roomP xs).v c.toNat) := by
  rw [room_v ha.1 ha.2, room_v hb.1 hb.2, room_v hc.1 hc.2]
  exact turn_exact (bd_of_ok (corner_ok hr (by omega))) (bd_of_ok (corner_ok hr (by omega))) (bd_of_ok (corner_ok hr (by omega)))
theorem inTri_iff {a b c p : Pt} (ha : Bd a) (hb : Bd b) (hc : Bd c) (hp : Bd p) : inTri a b c p = true ↔ 0 ≤ turnZ a b p ∧ 0 ≤ turnZ b c p ∧ 0 ≤ turnZ c a p := by
  unfold inTri
  rw [turn_exact ha hb hp, turn_exact hb hc hp, turn_exact hc ha hp]
  simp only [Bool.and_eq_true, decide_eq_true_eq]
theorem left_bd {xs : List Pt} (hr : roomOk xs = true) {l : List Int} (hL : Left xs.length l) {k : Nat} (hk : k < l.length) : Bd (pI xs (gI l k)) := by
  have := hL.at hk
  exact bd_of_ok (corner_ok hr (by omega))
theorem Sub.ear_of {xs : List Pt} (hr : roomOk xs = true) {l : List Int} (h : Sub xs l) {i : Nat} (hi : i < l.length) (hc : cutM xs l i = true) : EarL xs l i := by
  have h3 := h.left.len
  obtain ⟨-, ht, hno⟩ := cutM_iff.1 hc
  have hp : prvN l.length i < l.length := prv_lt (by omega)
  have hn : nxtN l.length i < l.length := nxt_lt (by omega)
  obtain ⟨e0, e1, e2⟩ := ear_pts xs h3 hi
  show EarP _ _ _ _
  rw [e0, e1, e2]
  rw [turnI hr (h.left.at hp) (h.left.at hi) (h.left.at hn)] at ht
  refine ⟨ht, fun j n0 n1 n2 hb => ?_⟩
  have hj : j % l.length < l.length := Nat.mod_lt _ (by omega)
  have ej : (subP xs l).v j = (roomP xs).v (gI l (j % l.length)).toNat := rfl
  rw [ej] at n0 n1 n2 hb
  generalize j % l.length = r at hj n0 n1 n2 hb
  rcases hno r hj with g | g | g | g
  · exact n0 (by rw [g])
  · exact n1 (by rw [g])
  · exact n2 (by rw [g])
  · have rv : ∀ {k}, k < l.length → (roomP xs).v (gI l k).toNat = pI xs (gI l k) := fun hk => room_v (h.left.at hk).1 (h.left.at hk).2
    rw [rv hp, rv hi, rv hn, rv hj] at hb
    have := (inTri_iff (left_bd hr h.left hp) (left_bd hr h.left hi) (left_bd hr h.left hn) (left_bd hr h.left hj)).2 hb
    rw [g] at this
    cases this
theorem Sub.cut2 {xs : List Pt} {l : List Int} (h : Sub xs l) (h3 : 3 < l.length) {i : Nat} (he : EarL xs l i) : Cut ((subP xs l).rot (i + l.length - 1)) 2 :=
  ear_cut (h.sim.rot _) (by rw [area_rot]; exact h.area) h3 ((EarI.rot (show 0 < l.length by omega)).2 he)
theorem Sub.step {xs : List Pt} {l : List Int} (h : Sub xs l) (h3 : 3 < l.length) {i : Nat} (hi : i < l.length) (he : EarL xs l i) : Sub xs (l.eraseIdx i) := by
  have c := h.cut2 h3 he
  have hR := h.sim.rot (i + l.length - 1)
  have hl := List.length_eraseIdx_of_lt hi
  have e := sub_erase xs h3 hi
  have n1 : 1 ≤ (subP xs (l.eraseIdx i)).n := by show 1 ≤ (l.eraseIdx i).length; omega
  have nl : 1 ≤ (subP xs l).n := by show 1 ≤ l.length; omega
  have hb : (subP xs (l.eraseIdx i)) = (partB ((subP xs l).rot (i + l.length - 1)) 2).rot (i * ((subP xs (l.eraseIdx i)).n - 1)) := by rw [← e, rot_back _ _ n1]
  obtain ⟨c', e'⟩ := c.rot
  refine ⟨h.left.erase h3 hi, by rw [hb]; exact (c.simB hR).rot _, by rw [hb, area_rot]; exact c.b, fun hK o => ?_, fun hK o => h.inn hK ?_⟩
  · rw [← Outp.rot_iff n1 i, e]
    exact (c.out_both hR hK ((h.out hK o).rot _)).2
  · rw [← Inn.rot_iff n1 i, e] at o
    have := c'.inn_of (hR.rot 2) hK o
    rwa [Inn.rot_iff (P := (subP xs l).rot (i + l.length - 1)) nl, Inn.rot_iff nl] at this
theorem Sub.chord_inn {xs : List Pt} {l : List Int} (h : Sub xs l) (h3 : 3 < l.length) {i : Nat} (hi : i < l.length) (he : EarL xs l i) {s t K : Int} (hs : 0 < s) (ht : 0 < t) (e : s + t = K) :
    Inn (roomP xs) K (padd (smul s ((roomP xs).v (gI l (prvN l.length i)).toNat)) (smul t ((roomP xs).v (gI l (nxtN l.length i)).toNat))) := by
  have c := h.cut2 h3 he
  have := c.inn (h.sim.rot _) hs ht e
  rw [Inn.rot_iff (show 1 ≤ l.length by omega)] at this
  have := h.inn (by omega) this
  obtain ⟨e0, e1, e2⟩ := ear_pts xs (by omega) hi
  rw [← e0, ← e2]
  exact this
theorem mid_inn {xs : List Pt} (hr : roomOk xs = true) {p q : Pt} (hp : -40 ≤ p.1 ∧ p.1 ≤ 40 ∧ -40 ≤ p.2 ∧ p.2 ≤ 40) (hq : -40 ≤ q.1 ∧ q.1 ≤ 40 ∧ -40 ≤ q.2 ∧ q.2 ≤ 40) : midM xs p q = 2 ↔ Inn (roomP xs) 2 (padd p q) := by
  have h := pt_of_room hr
  have hn := room_pos hr
  have hmo := mid_out hr hp hq
  have e : sumP p q = padd p q := by
    unfold sumP padd
    rw [W_in (by omega) (by omega), W_in (by omega) (by omega)]
  have hs : Bd (padd p q) := by
    unfold Bd padd
    simp only
    omega
  have hy : (xs.map twP).length = xs.length := by simp
  have hv : ∀ k, pCy (xs.map twP) k = smul 2 (pCy xs k) := fun k => by
    have hk : k % xs.length < xs.length := Nat.mod_lt _ hn
    show (xs.map twP).getD (k % (xs.map twP).length) (0, 0) = smul 2 (xs.getD (k % xs.length) (0, 0))
    rw [List.length_map, getD_lt _ (by rw [List.length_map]; exact hk), getD_lt _ hk, List.getElem_map]
    exact twP_eq (h _ (List.getElem_mem hk))
  have hb : ∀ q ∈ xs.map twP, Bd q := fun c' hc' => by
    obtain ⟨c, hc, rfl⟩ := List.mem_map.1 hc'
    have := h c hc
    rw [twP_eq this]
    unfold Bd smul
    simp only
    omega
  have hP := room_simple hr
  have ne : ∀ k, k < xs.length → smul 2 ((roomP xs).v k) ≠ smul 2 ((roomP xs).v (k + 1)) := fun k hk e => by
    apply hP.ne k
    have e1 := congrArg Prod.fst e
    have e2 := congrArg Prod.snd e
    exact Prod.ext (Int.eq_of_mul_eq_mul_left (by omega) e1) (Int.eq_of_mul_eq_mul_left (by omega) e2)
  have wa : ∀ k, k < xs.length → pAt (xs.map twP) k = smul 2 ((roomP xs).v k) ∧ pCy (xs.map twP) (k + 1) = smul 2 ((roomP xs).v (k + 1)) := fun k hk => ⟨(pCy_lt (by omega)).symm.trans (hv k), hv (k + 1)⟩
  have onoff : ∀ k, k < xs.length → (onAt (xs.map twP) (padd p q) k = false ↔ Off (padd p q) (smul 2 ((roomP xs).v k)) (smul 2 ((roomP xs).v (k + 1)))) := fun k hk => by
    have b1 : Bd (pAt (xs.map twP) k) := pAt_bd hb (by omega)
    have b2 : Bd (pCy (xs.map twP) (k + 1)) := pCy_bd hb (by omega)
    show onS (padd p q) (pAt (xs.map twP) k) (pCy (xs.map twP) (k + 1)) = false ↔ _
    constructor
    · intro h0
      rcases off_or_on (padd p q) (ne k hk) with g | g
      · exact g
      · rw [← (wa k hk).1, ← (wa k hk).2] at g
        rw [g.onS b1 b2 hs] at h0
        exact absurd h0 (by decide)
    · intro g
      cases h0 : onS (padd p q) (pAt (xs.map twP) k) (pCy (xs.map twP) (k + 1)) with
      | false => rfl
      | true =>
        exfalso
        have := onS_OnM b1 b2 hs h0
        rw [(wa k hk).1, (wa k hk).2] at this
        exact this.not_off g
  have two : midM xs p q = 2 ↔ midM xs p q ≠ 0 ∧ onAny (xs.map twP) (padd p q) = false := by
    unfold midM
    rw [e]
    unfold placeM
    split
    · rename_i g; rw [g]; simp
    · rename_i g; split <;> simp [Bool.eq_false_iff.2 g]
  rw [two, ne_eq, hmo]
  have hoff : onAny (xs.map twP) (padd p q) = false ↔ OffP (roomP xs) 2 (padd p q) := by
    constructor
    · intro g k hk
      have hk : k < xs.length := hk
      exact (onoff k hk).1 (onAny_off g (by omega))
    · intro g
      exact onAny_no fun k hk => (onoff k (by omega)).2 (g k (by show k < xs.length; omega))
  rw [hoff]
  constructor
  · rintro ⟨g1, g2⟩
    exact (out_or_in hP (room_area hr).2.1 (by decide) g2).resolve_left g1
  · intro g
    exact ⟨g.not_out, g.1⟩
theorem diag_of_inn {xs : List Pt} (hr : roomOk xs = true) {i k : Nat} (hi : i < xs.length) (hk : k < xs.length) (hik : i ≠ k) (hin : ∀ s t K : Int, 0 < s → 0 < t → s + t = K → Inn (roomP xs) K (padd (smul s ((roomP xs).v i)) (smul t ((roomP xs).v k)))) : diagC xs i k = true := by
  have vi : (roomP xs).v i = pAt xs i := v_lt hi
  have vk : (roomP xs).v k = pAt xs k := v_lt hk
  rw [diagC_iff]
  refine ⟨?_, ?_, ?_⟩
  · rw [seesS_noout hr (corner_ok hr hi) (corner_ok hr hk) (corner_in hr hi) (corner_in hr hk)]
    intro s t hs ht hst o
    rcases (show s = 0 ∨ t = 0 ∨ (0 < s ∧ 0 < t) by omega) with g | g | ⟨g1, g2⟩
    · subst g
      have e : padd (smul 0 (pAt xs i)) (smul t (pAt xs k)) = smul t ((roomP xs).v k) := by rw [vk]; unfold padd smul; simp
      rw [e] at o
      refine corner_not_out (roomP xs) k (by show 0 < xs.length; omega) (Outp.desc (L := t) (by omega) ?_)
      rw [Int.mul_one]; rwa [Int.zero_add] at o
    · subst g
      have e : padd (smul s (pAt xs i)) (smul 0 (pAt xs k)) = smul s ((roomP xs).v i) := by rw [vi]; unfold padd smul; simp
      rw [e] at o
      refine corner_not_out (roomP xs) i (by show 0 < xs.length; omega) (Outp.desc (L := s) (by omega) ?_)
      rw [Int.mul_one]; rwa [Int.add_zero] at o
    · have := hin s t (s + t) g1 g2 rfl
      rw [vi, vk] at this
      exact this.not_out o
  · rw [freeTo_iff]
    intro j hj
    by_cases e1 : j = i
    · exact .inl e1
    by_cases e2 : j = k
    · exact .inr (.inl e2)
    refine .inr (.inr ?_)
    cases h0 : onS (pAt xs j) (pAt xs i) (pAt xs k) with
    | false => rfl
    | true =>
      exfalso
      obtain ⟨s, t, hs, ht, h0, x1, x2⟩ := (onS_OnM (bd_of_ok (corner_ok hr hi)) (bd_of_ok (corner_ok hr hk)) (bd_of_ok (corner_ok hr hj)) h0).coords
      have hne : ∀ {a}, a < xs.length → j ≠ a → pAt xs j ≠ pAt xs a := fun ha hja e => hja (room_inj hr hj ha e)
      rcases (show s = 0 ∨ t = 0 ∨ (0 < s ∧ 0 < t) by omega) with g | g | ⟨g1, g2⟩
      · subst g
        refine hne hk e2 (Prod.ext (Int.eq_of_mul_eq_mul_left (show t ≠ 0 by omega) (by simpa using x1)) (Int.eq_of_mul_eq_mul_left (show t ≠ 0 by omega) (by simpa using x2)))
      · subst g
        refine hne hi e1 (Prod.ext (Int.eq_of_mul_eq_mul_left (show s ≠ 0 by omega) (by simpa using x1)) (Int.eq_of_mul_eq_mul_left (show s ≠ 0 by omega) (by simpa using x2)))
      · have := hin s t (s + t) g1 g2 rfl
        rw [vi, vk, show padd (smul s (pAt xs i)) (smul t (pAt xs k)) = smul (s + t) ((roomP xs).v j) by rw [v_lt hj]; exact Prod.ext x1.symm x2.symm] at this
        have := this.1 j hj
        exact (Off.ne this).1 rfl
  · rw [mid_inn hr (ptOk_iff.1 (corner_ok hr hi)) (ptOk_iff.1 (corner_ok hr hk))]
    have := hin 1 1 2 (by decide) (by decide) rfl
    rwa [vi, vk, smul_one, smul_one] at this
theorem Sub.cut_of {xs : List Pt} (hr : roomOk xs = true) {l : List Int} (h : Sub xs l) (h3 : 3 < l.length) {i : Nat} (hi : i < l.length) (he : EarL xs l i) : cutM xs l i = true := by
  have hp : prvN l.length i < l.length := prv_lt (by omega)
  have hn : nxtN l.length i < l.length := nxt_lt (by omega)
  obtain ⟨q1, q2, q3⟩ := prv_ne (by omega) hi
  obtain ⟨e0, e1, e2⟩ := ear_pts xs (by omega) hi
  have ap := h.left.at hp
  have an := h.left.at hn
  have hne : gI l (prvN l.length i) ≠ gI l (nxtN l.length i) := fun e => q3 (h.left.inj hp hn e)
  have heP : EarP (subP xs l) _ _ _ := he
  rw [e0, e1, e2] at heP
  rw [cutM_iff]
  refine ⟨?_, by rw [turnI hr ap (h.left.at hi) an]; exact heP.1, fun j hj => ?_⟩
  · cases hnb : neighZ xs.length (gI l (prvN l.length i)) (gI l (nxtN l.length i)) with
    | true => exact .inr rfl
    | false =>
      left
      rw [diagM_iff]
      refine ⟨btw_iff.2 (by omega), btw_iff.2 (by omega), hne, hnb, diag_of_inn hr (by omega) (by omega) (by omega) fun s t K hs ht e => h.chord_inn h3 hi he hs ht e⟩
  · by_cases g0 : gI l j = gI l (prvN l.length i)
    · exact .inl g0
    by_cases g1 : gI l j = gI l i
    · exact .inr (.inl g1)
    by_cases g2 : gI l j = gI l (nxtN l.length i)
    · exact .inr (.inr (.inl g2))
    refine .inr (.inr (.inr ?_))
    have rv : ∀ {k}, k < l.length → (roomP xs).v (gI l k).toNat = pI xs (gI l k) := fun hk => room_v (h.left.at hk).1 (h.left.at hk).2
    have dif : ∀ {k}, k < l.length → gI l j ≠ gI l k → (subP xs l).v j ≠ (roomP xs).v (gI l k).toNat := fun {k} hk hjk e => by
      rw [sub_v xs hj, rv hj, rv hk] at e
      have a1 := h.left.at hj
      have a2 := h.left.at hk
      have := room_inj hr (by omega) (by omega) e
      omega
    have := heP.2 j (dif hp g0) (dif hi g1) (dif hn g2)
    rw [sub_v xs hj, rv hp, rv hi, rv hn, rv hj] at this
    exact Bool.eq_false_iff.2 fun hb => this ((inTri_iff (left_bd hr h.left hp) (left_bd hr h.left hi) (left_bd hr h.left hn) (left_bd hr h.left hj)).1 hb)
theorem Sub.first {xs : List Pt} (hr : roomOk xs = true) {l : List Int} (h : Sub xs l) (h3 : 3 < l.length) : ∃ i, firstCut xs l = Option.some i ∧ i < l.length ∧ EarL xs l i := by
  obtain ⟨i, hi, he⟩ := h.some h3
  cases hf : firstCut xs l with
  | some j =>
    have := firstCut_spec hf
    exact ⟨j, rfl, this.1, h.ear_of hr this.1 this.2⟩
  | none =>
    exfalso
    unfold firstCut at hf
    rw [List.find?_eq_none] at hf
    exact hf i (List.mem_range.2 hi) (h.cut_of hr h3 hi he)
theorem cut_of_diag {xs : List Pt} (hr : roomOk xs = true) {i k m : Nat} (hi : i < xs.length) (hk : k < xs.length) (hm : (i + m) % xs.length = k) (m2 : 2 ≤ m) (mn : m + 2 ≤ xs.length) (hd : diagC xs i k = true) : Cut ((roomP xs).rot i) m := by
  have hP := room_simple hr
  have hR := hP.rot i
  obtain ⟨hs, hf, hmid⟩ := diagC_iff.1 hd
  have hf := freeTo_iff.1 hf
  have hno := (seesS_noout hr (corner_ok hr hi) (corner_ok hr hk) (corner_in hr hi) (corner_in hr hk)).1 hs
  have v : ∀ j, ((roomP xs).rot i).v j = pAt xs ((i + j) % xs.length) := fun j => by
    show (roomP xs).v (i + j) = _
    rw [← v_lt (Nat.mod_lt _ (room_pos hr))]; exact ((roomP xs).per_mod (i + j)).symm
  have v0 : ((roomP xs).rot i).v 0 = pAt xs i := by rw [v 0, Nat.add_zero, Nat.mod_eq_of_lt hi]
  have vm : ((roomP xs).rot i).v m = pAt xs k := by rw [v m, hm]
  have idx : ∀ {a b : Nat}, a < xs.length → b < xs.length → (i + a) % xs.length = (i + b) % xs.length → a = b := fun {a b} ha hb e => by
    rcases Nat.lt_or_ge (i + a) xs.length with g1 | g1 <;> rcases Nat.lt_or_ge (i + b) xs.length with g2 | g2
    · rw [Nat.mod_eq_of_lt g1, Nat.mod_eq_of_lt g2] at e; omega
    · rw [Nat.mod_eq_of_lt g1, Nat.mod_eq_sub_mod g2, Nat.mod_eq_of_lt (by omega)] at e; omega
    · rw [Nat.mod_eq_sub_mod g1, Nat.mod_eq_of_lt (show i + a - xs.length < xs.length by omega), Nat.mod_eq_of_lt g2] at e; omega
    · rw [Nat.mod_eq_sub_mod g1, Nat.mod_eq_of_lt (show i + a - xs.length < xs.length by omega), Nat.mod_eq_sub_mod g2, Nat.mod_eq_of_lt (show i + b - xs.length < xs.length by omega)] at e; omega
  have bd : ∀ j, Bd (pAt xs ((i + j) % xs.length)) := fun j => bd_of_ok (corner_ok hr (Nat.mod_lt _ (by omega)))
  have hnR : ((roomP xs).rot i).n = xs.length := rfl
  have h0m : ((roomP xs).rot i).v 0 ≠ ((roomP xs).rot i).v m := hR.inj (by omega) (by omega) (by omega)
  have noOn : ∀ j, 0 < j → j < xs.length → j ≠ m → ¬ OnM (((roomP xs).rot i).v j) (((roomP xs).rot i).v 0) (((roomP xs).rot i).v m) := fun j h1 h2 h3 ho => by
    rw [v j, v0, vm] at ho
    have := ho.onS (bd_of_ok (corner_ok hr hi)) (bd_of_ok (corner_ok hr hk)) (bd j)
    have hlt : (i + j) % xs.length < xs.length := Nat.mod_lt _ (by omega)
    rcases hf _ hlt with e | e | e
    · have := idx (a := j) (b := 0) h2 (by omega) (by rw [Nat.add_zero, Nat.mod_eq_of_lt hi]; exact e)
      omega
    · have := idx (a := j) (b := m) h2 (by omega) (by rw [hm]; exact e)
      omega
    · rw [this] at e; cases e
  have c : Chord ((roomP xs).rot i) m := by
    refine Chord.mk' hR m2 mn (fun j h1 h2 h3 => (off_or_on _ h0m).resolve_right (noOn j h1 h2 h3)) (fun j h1 h2 h3 h4 => ?_)
    have h2 : j + 1 < xs.length := h2
    have hjj : ((roomP xs).rot i).v j ≠ ((roomP xs).rot i).v (j + 1) := hR.ne j
    rcases part_or_on h0m hjj with g | g | g | g | g | ⟨g1, g2⟩
    · exact g.symm
    · exact absurd g (noOn j h1 (by omega) h3)
    · exact absurd g (noOn (j + 1) (by omega) h2 h4)
    · exact absurd (hR.offI (i := j) (k := 0) (by omega) (by omega) (by omega) (by omega) (by omega)) g.not_off
    · exact absurd (hR.offI (i := j) (k := m) (by omega) (by omega) (by omega) (by omega) (by omega)) g.not_off
    · exfalso
      have hnoR : NoOut ((roomP xs).rot i) (((roomP xs).rot i).v 0) (((roomP xs).rot i).v m) := by
        rw [NoOut.rot_iff (show 1 ≤ xs.length by omega), v0, vm]; exact hno
      exact no_cross hR (fun j => room_turns hr (i + j)) (by rw [area_rot]; exact (room_area hr).2.1) hnoR (k := j) g2 g1
  refine cut_of hR c (s := 1) (t := 1) (K := 2) (by decide) (by decide) rfl ?_
  rw [Inn.rot_iff (show 1 ≤ xs.length by omega), v0, vm, smul_one, smul_one]
  exact (mid_inn hr (ptOk_iff.1 (corner_ok hr hi)) (ptOk_iff.1 (corner_ok hr hk))).1 hmid
theorem ear_mod {xs : List Pt} {l : List Int} (h3 : 3 ≤ l.length) {s : Nat} (e : EarI (subP xs l) s) : EarL xs l ((s + 1) % l.length) := by
  have key : ∀ d, (subP xs l).v ((s + 1) % l.length + l.length - 1 + d) = (subP xs l).v (s + d) := fun d => by
    rw [show (s + 1) % l.length + l.length - 1 + d = (s + 1) % (subP xs l).n + (l.length - 1 + d) by show _ = (s + 1) % l.length + _; omega, (subP xs l).per_add, show s + 1 + (l.length - 1 + d) = s + d + l.length by omega]
    exact (subP xs l).per (s + d)
  show EarP _ _ _ _
  have k0 : (subP xs l).v ((s + 1) % l.length + l.length - 1) = (subP xs l).v s := key 0
  rw [k0, key 1, key 2]
  exact e
theorem ear_nat {xs : List Pt} (hr : roomOk xs = true) {k : Nat} (hk : k < xs.length) : earM xs k = true ↔ xs.length = 3 ∨ diagM xs (prvN xs.length k : Nat) (nxtN xs.length k : Nat) = true := by
  unfold earM
  rw [hr, prv_int hk, nxt_int, btw_iff.2 (show (0 : Int) ≤ k ∧ (k : Int) ≤ xs.length - 1 by omega)]
  simp only [Bool.true_and, Bool.or_eq_true, decide_eq_true_eq]
  exact or_congr ⟨fun h => by omega, fun h => by omega⟩ Iff.rfl
theorem prv_nxt_far {n k : Nat} (h4 : 4 ≤ n) (hk : k < n) : (prvN n k + 1) % n ≠ nxtN n k ∧ (nxtN n k + 1) % n ≠ prvN n k ∧ (prvN n k + 2) % n = nxtN n k := by
  rcases prv_eq hk with ⟨h1, h2⟩ | ⟨h1, h2⟩ <;> rcases nxt_eq hk with ⟨h3, h5⟩ | ⟨h3, h5⟩ <;> rw [h2, h5]
  · omega
  · subst h1
    rw [show n - 1 + 1 = n by omega, Nat.mod_self, Nat.mod_eq_of_lt (show 0 + 1 + 1 < n by omega), show n - 1 + 2 = 1 + n by omega, Nat.add_mod_right, Nat.mod_eq_of_lt (show 1 < n by omega)]
    omega
  · rw [show k - 1 + 1 = k by omega, Nat.mod_eq_of_lt hk, Nat.mod_eq_of_lt (show 0 + 1 < n by omega), show k - 1 + 2 = n by omega, Nat.mod_self]
    omega
  · rw [show k - 1 + 1 = k by omega, Nat.mod_eq_of_lt hk, show k - 1 + 2 = k + 1 by omega, Nat.mod_eq_of_lt h3]
    refine ⟨by omega, ?_, rfl⟩
    rcases Nat.lt_or_ge (k + 1 + 1) n with g | g
    · rw [Nat.mod_eq_of_lt g]; omega
    · rw [show k + 1 + 1 = n by omega, Nat.mod_self]; omega
theorem ear_turn {xs : List Pt} (hr : roomOk xs = true) {k : Nat} (hk : k < xs.length) (he : earM xs k = true) : 0 < turnZ ((roomP xs).v (prvN xs.length k)) ((roomP xs).v k) ((roomP xs).v (nxtN xs.length k)) := by
  have hl := room_len hr
  have hp : prvN xs.length k < xs.length := prv_lt (by omega)
  have e1 : (roomP xs).v (prvN xs.length k + 1) = (roomP xs).v k := by
    rw [← (roomP xs).per_mod]
    congr 1
    show (prvN xs.length k + 1) % xs.length = k
    rcases prv_eq hk with ⟨h1, h2⟩ | ⟨h1, h2⟩ <;> rw [h2]
    · rw [show xs.length - 1 + 1 = xs.length by omega, Nat.mod_self]; omega
    · rw [show k - 1 + 1 = k by omega, Nat.mod_eq_of_lt hk]
  have e2 : (roomP xs).v (prvN xs.length k + 2) = (roomP xs).v (nxtN xs.length k) := by
    rw [← (roomP xs).per_mod]
    congr 1
    show (prvN xs.length k + 2) % xs.length = nxtN xs.length k
    unfold prvN nxtN
    rw [Nat.mod_add_mod, show k + xs.length - 1 + 2 = k + 1 + xs.length by omega, Nat.add_mod_right]
  rcases (ear_nat hr hk).1 he with h3 | hd
  · have ha := (room_area hr).2.1
    rw [tri_area' (show (roomP xs).n = 3 from h3), ← tri_turns (show (roomP xs).n = 3 from h3) (prvN xs.length k), e1, e2] at ha
    exact ha
  · have h4 : 4 ≤ xs.length := by
      rcases (show xs.length = 3 ∨ 4 ≤ xs.length by omega) with g | g
      · exfalso
        have := (diagN_iff hp (nxt_lt (by omega))).1 hd
        rcases prv_eq hk with ⟨h1, h2⟩ | ⟨h1, h2⟩ <;> rcases nxt_eq hk with ⟨h3, h5⟩ | ⟨h3, h5⟩ <;> rw [h2, h5, g] at this
        · omega
        · subst h1; exact this.2.2.1 rfl
        · have hk2 : k = 2 := by omega
          subst hk2
          exact this.2.2.1 rfl
        · have hk2 : k = 1 := by omega
          subst hk2
          exact this.2.2.1 rfl
      · exact g
    obtain ⟨-, -, f3⟩ := prv_nxt_far h4 hk
    have c := cut_of_diag hr hp (nxt_lt (by omega)) f3 (Nat.le_refl 2) (by omega) ((diagN_iff hp (nxt_lt (by omega))).1 hd).2.2.2
    have := c.a
    rw [tri_area' (show (((roomP xs).rot (prvN xs.length k)).arc 2).n = 3 from rfl), arc_v _ (by omega), arc_v _ (by omega), arc_v _ (by omega)] at this
    show 0 < turnZ _ _ _
    rw [← e1, ← e2]
    exact this
theorem ears_apart {xs : List Pt} (hr : roomOk xs = true) (h4 : 4 ≤ xs.length) : ∃ a b : Nat, a < b ∧ b < xs.length ∧ 1 < b - a ∧ b - a < xs.length - 1 ∧ earM xs a = true ∧ earM xs b = true := by
  have S := Sub.all hr
  have hla : (allC xs.length).length = xs.length := allC_len _
  have ear : ∀ s, EarI (subP xs (allC xs.length)) s → earM xs ((s + 1) % xs.length : Nat) = true := fun s hs => by
    have hk : (s + 1) % xs.length < xs.length := Nat.mod_lt _ (by omega)
    have hE := ear_mod (by omega) hs
    rw [hla] at hE
    have hc := S.cut_of hr (by omega) (i := (s + 1) % xs.length) (by omega) hE
    obtain ⟨hd, -⟩ := cutM_iff.1 hc
    rw [hla, gI_all (prv_lt (by omega)), gI_all (nxt_lt (by omega))] at hd
    rw [ear_nat hr hk]
    obtain ⟨f1, f2, -⟩ := prv_nxt_far h4 hk
    rcases hd with hd | hd
    · exact .inr hd
    · rw [neigh_nat.2 ⟨f1, f2⟩] at hd; cases hd
  obtain ⟨s, d, d2, dn, e1, e2⟩ := two_ears (allC xs.length).length (subP xs (allC xs.length)) rfl (by omega) S.sim S.area
  have dn : d + 2 ≤ xs.length := by rw [← hla]; exact dn
  have g1 := ear s e1
  have g2 := ear (s + d) e2
  have hk : (s + 1) % xs.length < xs.length := Nat.mod_lt _ (by omega)
  have em : (s + d + 1) % xs.length = ((s + 1) % xs.length + d) % xs.length := by rw [Nat.mod_add_mod]; congr 1; omega
  rw [em] at g2
  generalize (s + 1) % xs.length = t at *
  rcases Nat.lt_or_ge (t + d) xs.length with g | g
  · rw [Nat.mod_eq_of_lt g] at g2
    exact ⟨t, t + d, by omega, by omega, by omega, by omega, g1, g2⟩
  · rw [Nat.mod_eq_sub_mod g, Nat.mod_eq_of_lt (show t + d - xs.length < xs.length by omega)] at g2
    exact ⟨t + d - xs.length, t, by omega, by omega, by omega, by omega, g2, g1⟩
theorem erase_pt {l : List Pt} {i j : Nat} (hj : j + 1 < l.length) : pAt (l.eraseIdx i) j = if j < i then pAt l j else pAt l (j + 1) := by
  show (l.eraseIdx i).getD j (0, 0) = _
  rw [List.getD_eq_getElem?_getD, List.getElem?_eraseIdx]
  split <;> rw [← List.getD_eq_getElem?_getD]
theorem list_erase {l : List Pt} (h3 : 3 ≤ l.length) {i : Nat} (hi : i < l.length) : (roomP (l.eraseIdx i)).rot i = partB ((roomP l).rot (i + l.length - 1)) 2 := by
  have hl := List.length_eraseIdx_of_lt hi
  refine Poly.ext' (by show (l.eraseIdx i).length = l.length - 2 + 1; omega) fun j => ?_
  show (l.eraseIdx i).getD ((i + j) % (l.eraseIdx i).length) (0, 0) = l.getD ((i + l.length - 1 + (2 + j % (l.length - 2 + 1))) % l.length) (0, 0)
  have hm : j % (l.length - 1) < l.length - 1 := Nat.mod_lt _ (by omega)
  rw [hl, show l.length - 2 + 1 = l.length - 1 by omega, ← Nat.add_mod_mod]
  generalize j % (l.length - 1) = r at hm
  have e1 : (i + l.length - 1 + (2 + r)) % l.length = (i + 1 + r) % l.length := by
    rw [show i + l.length - 1 + (2 + r) = i + 1 + r + l.length by omega, Nat.add_mod_right]
  rw [e1]
  rcases Nat.lt_or_ge (i + 1 + r) l.length with g | g
  · rw [Nat.mod_eq_of_lt g, Nat.mod_eq_of_lt (show i + r < l.length - 1 by omega)]
    have := erase_pt (l := l) (i := i) (j := i + r) (by omega)
    rw [if_neg (by omega), show i + r + 1 = i + 1 + r by omega] at this
    exact this
  · rw [Nat.mod_eq_sub_mod g, Nat.mod_eq_of_lt (show i + 1 + r - l.length < l.length by omega), Nat.mod_eq_sub_mod (show l.length - 1 ≤ i + r by omega), Nat.mod_eq_of_lt (show i + r - (l.length - 1) < l.length - 1 by omega)]
    have := erase_pt (l := l) (i := i) (j := i + r - (l.length - 1)) (by omega)
    rw [if_pos (by omega), show i + r - (l.length - 1) = i + 1 + r - l.length by omega] at this
    rw [show i + r - (l.length - 1) = i + 1 + r - l.length by omega]
    exact this
theorem area_erase {l : List Pt} (h3 : 3 ≤ l.length) {i : Nat} (hi : i < l.length) : (roomP l).area = turnZ (pAt l (prvN l.length i)) (pAt l i) (pAt l (nxtN l.length i)) + (roomP (l.eraseIdx i)).area := by
  have e := list_erase h3 hi
  have q := area_cut ((roomP l).rot (i + l.length - 1)) (m := 2) (by show 2 ≤ l.length; omega)
  have q2 : (((roomP l).rot (i + l.length - 1)).rot 2).arc (((roomP l).rot (i + l.length - 1)).n - 2) = (roomP (l.eraseIdx i)).rot i := e.symm
  have w0 : (roomP l).v (i + l.length - 1 + 0) = pAt l (prvN l.length i) := rfl
  have w1 : (roomP l).v (i + l.length - 1 + 1) = pAt l i := by
    show l.getD ((i + l.length - 1 + 1) % l.length) (0, 0) = _
    rw [show i + l.length - 1 + 1 = i + l.length by omega, Nat.add_mod_right, Nat.mod_eq_of_lt hi]
  have w2 : (roomP l).v (i + l.length - 1 + 2) = pAt l (nxtN l.length i) := by
    show l.getD ((i + l.length - 1 + 2) % l.length) (0, 0) = l.getD ((i + 1) % l.length) (0, 0)
    rw [show i + l.length - 1 + 2 = i + 1 + l.length by omega, Nat.add_mod_right]
  rw [q2, area_rot, area_rot, tri_area' (show (((roomP l).rot (i + l.length - 1)).arc 2).n = 3 from rfl), arc_v _ (by omega), arc_v _ (by omega), arc_v _ (by omega)] at q
  rw [q]
  congr 1
  show turnZ ((roomP l).v (i + l.length - 1 + 0)) ((roomP l).v (i + l.length - 1 + 1)) ((roomP l).v (i + l.length - 1 + 2)) = _
  rw [w0, w1, w2]
end Go.Proofs.Ytnepfcnlngpchaa.Geo
namespace Go.Proofs.Ytnepfcnlngpchaa
open Go.RowKit Go.Proofs.Ytnepfcnlngpchaa.Nm
set_option maxRecDepth 10000
abbrev Cur := List Int × Int × Int
def curL (c : Cur) : List D := [.sl none (.b .u8) c.1, .int .i64 c.2.1, .int .i64 c.2.2]
structure curOk (c : Cur) : Prop where
  len : c.1.length ≤ 1048576
  lo : 0 ≤ c.2.1
  hi : c.2.1 ≤ 1048576
def newH (bs : List Int) : Nat → Int
  | 0 => W (99143 + (bs.length : Int))
  | i + 1 => bitI .and .i64 (W (W (W (newH bs i * 131) + W (bs.getD i 0)) + 7)) 1073741823
def newC (bs : List Int) : Cur := (bs, 0, newH bs (min bs.length 4000))
def byteH (c : Cur) : Int := W (c.2.2 * 6364136223846793005 + 1442695040888963407)
def byte0 (c : Cur) : Int := bitI .and .i64 (bitI .xor .i64 (bitI .shr .i64 (byteH c) 33) (bitI .shr .i64 (byteH c) 45)) 255
def byteX (c : Cur) : Int := if c.2.1 < (c.1.length : Int) then bitI .and .i64 (W (byte0 c + W (c.1.getD c.2.1.toNat 0))) 255 else byte0 c
def byteC (c : Cur) : Cur := (c.1, if c.2.1 < (c.1.length : Int) then c.2.1 + 1 else c.2.1, byteH c)
theorem and255 (x : Int) : 0 ≤ bitI .and .i64 x 255 ∧ bitI .and .i64 x 255 ≤ 255 := by
  have h : (BitVec.ofInt IntKind.i64.bits x &&& BitVec.ofInt IntKind.i64.bits 255).toNat ≤ 255 := by
    rw [BitVec.toNat_and]
    exact Nat.le_trans Nat.and_le_right (by decide)
  have e : bitI .and .i64 x 255 = (((BitVec.ofInt IntKind.i64.bits x &&& BitVec.ofInt IntKind.i64.bits 255).toNat : Nat) : Int) := W_in (by omega) (by omega)
  rw [e]
  omega
theorem byteX_bd (c : Cur) : 0 ≤ byteX c ∧ byteX c ≤ 255 := by
  unfold byteX
  split
  · exact and255 _
  · exact and255 _
theorem byteC_ok {c : Cur} (h : curOk c) : curOk (byteC c) := by
  obtain ⟨h1, h2, h3⟩ := h
  refine ⟨h1, ?_, ?_⟩ <;> (unfold byteC; simp only; split <;> omega)
def belowX (c : Cur) (n : Int) : Int :=
  if n ≤ 0 then 0 else if n ≤ 256 then (byteX c).tmod n
  else (byteX c * 16777216 + byteX (byteC c) * 65536 + byteX (byteC (byteC c)) * 256 + byteX (byteC (byteC (byteC c)))).tmod n
def belowC (c : Cur) (n : Int) : Cur := if n ≤ 0 then c else if n ≤ 256 then byteC c else byteC (byteC (byteC (byteC c)))
theorem below_bd {c : Cur} {n : Int} (h : 0 < n) : 0 ≤ belowX c n ∧ belowX c n < n := by
  unfold belowX
  have h1 := byteX_bd c
  have h2 := byteX_bd (byteC c)
  have h3 := byteX_bd (byteC (byteC c))
  have h4 := byteX_bd (byteC (byteC (byteC c)))
  rw [if_neg (by omega)]
  split
  · exact ⟨Int.tmod_nonneg _ h1.1, Int.tmod_lt_of_pos _ h⟩
  · exact ⟨Int.tmod_nonneg _ (by omega), Int.tmod_lt_of_pos _ h⟩
theorem belowC_ok {c : Cur} {n : Int} (h : curOk c) : curOk (belowC c n) := by
  unfold belowC
  split
  · exact h
  · split
    · exact byteC_ok h
    · exact byteC_ok (byteC_ok (byteC_ok (byteC_ok h)))
theorem newC_ok {bs : List Int} (h : bs.length ≤ 1048576) : curOk (newC bs) := ⟨h, Int.le_refl 0, show (0 : Int) ≤ 1048576 by decide⟩
def l01NewC : ConD := mkConN [.sl (.b .u8)] t_spec_l01Cur (fun x => x.1.length ≤ 1048576) fun x => curL (newC x.1)
set_option maxRecDepth 200000 in
theorem l01New_ok : GoodD Try.prog n_spec_l01New l01NewC := by
  refine good_ofN (tys := tyL) (env := []) (envw := []) (envd := []) [31] [] [] [] [] mixed tys trivial trivial trivial Try.func62 rfl (by kernel_rfl) (by decide) (by kernel_rfl) ?_
  have hG_ := kpz [(0, [0]), (1, [0, 3]), (2, [0, 3, 4]), (3, [0, 3, 4, 15]), (4, [0, 3, 4]), (5, [0, 3, 4]), (6, [2])] [] [] []
  rintro ⟨(bs : List Int), ⟨⟩⟩ (h1 : bs.length ≤ _)
  (repeat' (first | (with_reducible first | exact True.intro | refine zQ ?_ | (refine zG hG_ ?_; intro K_ hK_) | (refine zR ?_; intro K_ hK_) | (refine hK_ _ _ ?_; try clear hK_ K_) | refine sq_n ?_ | refine sq_r ?_ | refine sq_e ?_ | refine bq_n ?_ | refine bq_r ?_ | refine bq_q ?_ | refine zB ?_ | refine zX ?_ | refine zT ?_ | refine zK ?_ | refine gq_n ?_ | refine gq_r ?_ | refine gq_e ?_ | refine lq_n ?_ | refine lq_r ?_ | refine lq_e ?_ | refine bq_e (by decide) ?_) | ((with_reducible refine zC (b := ?b_) ?hb_ ?_ ?_); case hb_ => rfl) | ((conv => whnf); first | (with_reducible refine hK_ _ _ ?_; try clear hK_ K_) | (with_reducible refine fun (g_ : Sl) (o_ : Ow) => ?_) | (with_reducible first | exact True.intro | refine And.intro trivial ?_ | refine And.intro ?_ ?_) | exact Nat.le_of_ble_eq_true rfl | exact Or.inl rfl | (intro h_; cases h_) | (intro h_; (try simp only [vS1] at h_)) | rfl))) <;> (try (conv => whnf)) <;> (try first | change (_ : Int) ≤ _ | change (_ : Nat) ≤ _) <;> (try ((fail_if_success (with_reducible apply Exists.intro)); (try dsimp only); (try simp only [vS1])))
  refine awp'_loopG (α := Nat) (fun i ver_ => [(3, vInt (newH bs i)), (4, vInt i)]) (fun i ver_ => []) (fun i ver_ => []) (fun i => i ≤ bs.length ∧ i ≤ 4000) (fun i => bs.length - i) [0] [] (0) ?_
  conv => whnf
  refine ⟨⟨?inv1_, ?vals1_, ?own1_, ?fix1_⟩, ?body1_⟩
  case' vals1_ => (repeat' (first | (with_reducible first | exact True.intro | refine And.intro ?_ ?_ | refine Head.mk ?_ ?_ ?_ ?_) | ((conv => lhs; whnf); first | (with_reducible first | rfl | exact vInt_s (by omega)) | exact rfl) | ((conv => whnf); first | (with_reducible first | exact True.intro | refine And.intro ?_ ?_)))) <;> (try (conv => lhs; whnf))
  case' own1_ => (repeat' (first | (with_reducible first | exact True.intro | refine And.intro ?_ ?_ | refine Head.mk ?_ ?_ ?_ ?_) | ((conv => lhs; whnf); first | (with_reducible first | rfl | exact vInt_s (by omega)) | exact rfl) | ((conv => whnf); first | (with_reducible first | exact True.intro | refine And.intro ?_ ?_)))) <;> (try (conv => lhs; whnf))
  case' fix1_ => (repeat' (first | (with_reducible first | exact True.intro | refine And.intro ?_ ?_ | refine Head.mk ?_ ?_ ?_ ?_) | ((conv => lhs; whnf); first | (with_reducible first | rfl | exact vInt_s (by omega)) | exact rfl) | ((conv => whnf); first | (with_reducible first | exact True.intro | refine And.intro ?_ ?_)))) <;> (try (conv => lhs; whnf))
  · exact ⟨Nat.zero_le _, Nat.zero_le _⟩
  rintro i g_ o_ v_ ⟨hi, hi2⟩
  have hG_ := kpz [(0, [0]), (1, [0, 3]), (2, [0, 3, 4]), (3, [0, 3, 4, 15]), (4, [0, 3, 4]), (5, [0, 3, 4]), (6, [2])] [(6, [31])] [] []
  (repeat' (first | (with_reducible first | exact True.intro | refine zQ ?_ | (refine zG hG_ ?_; intro K_ hK_) | (refine zR ?_; intro K_ hK_) | (refine hK_ _ _ ?_; try clear hK_ K_) | refine sq_n ?_ | refine sq_r ?_ | refine sq_e ?_ | refine bq_n ?_ | refine bq_r ?_ | refine bq_q ?_ | refine zB ?_ | refine zX ?_ | refine zT ?_ | refine zK ?_ | refine gq_n ?_ | refine gq_r ?_ | refine gq_e ?_ | refine lq_n ?_ | refine lq_r ?_ | refine lq_e ?_ | refine bq_e (by decide) ?_) | ((with_reducible refine zC (b := ?b_) ?hb_ ?_ ?_); case hb_ => rfl) | ((conv => whnf); first | (with_reducible refine hK_ _ _ ?_; try clear hK_ K_) | (with_reducible refine fun (g_ : Sl) (o_ : Ow) => ?_) | (with_reducible first | exact True.intro | refine And.intro trivial ?_ | refine And.intro ?_ ?_) | exact Nat.le_of_ble_eq_true rfl | exact Or.inl rfl | (intro h_; cases h_) | (intro h_; (try simp only [vS1] at h_)) | rfl))) <;> (try (conv => whnf)) <;> (try first | change (_ : Int) ≤ _ | change (_ : Nat) ≤ _) <;> (try ((fail_if_success (with_reducible apply Exists.intro)); (try dsimp only); (try simp only [vS1])))
  all_goals (try (fail_if_success (with_reducible apply Exists.intro)); first | with_reducible assumption | omega | exact mdl (by omega) | exact ilo1 (by omega) | exact ilo2 (by omega) | exact ihi1 (by omega) (by omega) | exact ihi2 (by omega) (by omega))
  · refine ⟨i + 1, by omega, by omega, ?_⟩
    (repeat' (first | (with_reducible first | exact True.intro | refine And.intro ?_ ?_ | refine Head.mk ?_ ?_ ?_ ?_) | ((conv => lhs; whnf); first | (with_reducible first | rfl | exact vInt_s (by omega)) | exact rfl) | ((conv => whnf); first | (with_reducible first | exact True.intro | refine And.intro ?_ ?_)))) <;> (try (conv => lhs; whnf))
  · show dOf _ = some _
    unfold curL newC
    rw [show min bs.length 4000 = i by omega]; rfl
  · show dOf _ = some _
    unfold curL newC
    rw [show min bs.length 4000 = i by omega]; rfl
def l01ByteC : ConD := mkConB [.cur] 0 t_spec_l01Cur (fun x => curOk x.1) (fun x => vInt (byteX x.1)) fun x => curL (byteC x.1)
theorem l01Byte_ok : GoodD Try.prog n_spec_l01Byte l01ByteC := by
  refine good_ofB (tys := tyL) (env := []) (envw := []) (envd := []) [1000] [] [] [] [] mixed tys trivial trivial trivial Try.func116 rfl (by kernel_rfl) ⟨by decide, rfl⟩ (by kernel_rfl) ?_
  have hG_ := kpz [(0, [0]), (1, [0]), (2, [0, 3]), (3, [0, 3, 34]), (4, [0, 3]), (5, [3]), (6, [2])] [(0, [1000]), (1, [1000]), (2, [1000]), (3, [1000]), (4, [1000]), (5, [1000]), (6, [1000])] [] []
  rintro ⟨⟨(bs : List Int), (i : Int), (h : Int)⟩, ⟨⟩⟩ ⟨(h1 : bs.length ≤ _), (h2 : 0 ≤ i), (h3 : i ≤ _)⟩
  (repeat' (first | (with_reducible first | exact True.intro | refine zQ ?_ | (refine zG hG_ ?_; intro K_ hK_) | (refine zR ?_; intro K_ hK_) | (refine hK_ _ _ ?_; try clear hK_ K_) | refine sq_n ?_ | refine sq_r ?_ | refine sq_e ?_ | refine bq_n ?_ | refine bq_r ?_ | refine bq_q ?_ | refine zB ?_ | refine zX ?_ | refine zT ?_ | refine zK ?_ | refine gq_n ?_ | refine gq_r ?_ | refine gq_e ?_ | refine lq_n ?_ | refine lq_r ?_ | refine lq_e ?_ | refine bq_e (by decide) ?_) | ((with_reducible refine zC (b := ?b_) ?hb_ ?_ ?_); case hb_ => rfl) | ((conv => whnf); first | (with_reducible refine hK_ _ _ ?_; try clear hK_ K_) | (with_reducible refine fun (g_ : Sl) (o_ : Ow) => ?_) | (with_reducible first | exact True.intro | refine And.intro trivial ?_ | refine And.intro ?_ ?_) | exact Nat.le_of_ble_eq_true rfl | exact Or.inl rfl | (intro h_; cases h_) | (intro h_; (try simp only [vS1] at h_)) | rfl))) <;> (try (conv => whnf)) <;> (try first | change (_ : Int) ≤ _ | change (_ : Nat) ≤ _) <;> (try ((fail_if_success (with_reducible apply Exists.intro)); (try dsimp only); (try simp only [vS1])))
  all_goals (try (fail_if_success (with_reducible apply Exists.intro)); first | with_reducible assumption | omega | exact mdl (by omega) | exact ilo1 (by omega) | exact ilo2 (by omega) | exact ihi1 (by omega) (by omega) | exact ihi2 (by omega) (by omega))
  · show dOf _ = some _
    unfold curL byteC byteH
    simp only [W_l1, if_pos h_, W_in (show -9223372036854775808 ≤ i + 1 by omega) (show i + 1 ≤ 9223372036854775807 by omega)]; rfl
  · unfold byteX byte0 byteH
    simp only [W_l1, if_pos h_]
  · show dOf _ = some _
    unfold curL byteC byteH
    simp only [W_l1, if_neg h_]; rfl
  · unfold byteX byte0 byteH
    simp only [W_l1, if_neg h_]
def l01BelowC : ConD := mkConB [.cur, .int] 0 t_spec_l01Cur (fun x => curOk x.1) (fun x => vInt (belowX x.1 x.2.1)) fun x => curL (belowC x.1 x.2.1)
theorem l01Below_ok : GoodD Try.prog n_spec_l01Below l01BelowC := by
  refine good_ofB (tys := tyL) (env := []) (envw := []) (envd := [(n_spec_l01Byte, l01ByteC)]) [14, 18, 20, 22, 24, 1000] [14, 18, 20, 22, 24, 1000] [] [] [14, 18, 20, 22, 24] mixed tys trivial trivial ⟨l01Byte_ok, trivial⟩ Try.func77 rfl (by kernel_rfl) ⟨by decide, rfl⟩ (by kernel_rfl) ?_
  have hG_ := kpz [(0, [0, 1]), (1, [0, 1, 10]), (2, [4]), (3, [0, 1, 12]), (4, [4]), (5, [0, 1, 5]), (6, [0, 1, 5, 6]), (7, [0, 1, 5, 6, 7]), (8, [1, 5, 6, 7, 8]), (9, [4])] [(0, [1000]), (1, [1000]), (2, [1000]), (3, [1000]), (4, [1000]), (5, [1000]), (6, [1000]), (7, [1000]), (8, [1000]), (9, [1000])] [] []
  rintro ⟨⟨(bs : List Int), (i : Int), (h : Int)⟩, (n : Int), ⟨⟩⟩ (hc : curOk (bs, i, h))
  have h1 := byteC_ok hc
  have h2 := byteC_ok h1
  have h3 := byteC_ok h2
  have b0 := byteX_bd (bs, i, h)
  have b1 := byteX_bd (byteC (bs, i, h))
  have b2 := byteX_bd (byteC (byteC (bs, i, h)))
  have b3 := byteX_bd (byteC (byteC (byteC (bs, i, h))))
  (repeat' (first | (with_reducible first | exact True.intro | refine zQ ?_ | (refine zG hG_ ?_; intro K_ hK_) | (refine zR ?_; intro K_ hK_) | (refine hK_ _ _ ?_; try clear hK_ K_) | refine sq_n ?_ | refine sq_r ?_ | refine sq_e ?_ | refine bq_n ?_ | refine bq_r ?_ | refine bq_q ?_ | refine zB ?_ | refine zX ?_ | refine zT ?_ | refine zK ?_ | refine gq_n ?_ | refine gq_r ?_ | refine gq_e ?_ | refine lq_n ?_ | refine lq_r ?_ | refine lq_e ?_ | refine bq_e (by decide) ?_) | ((with_reducible refine zC (b := ?b_) ?hb_ ?_ ?_); case hb_ => rfl) | ((conv => whnf); first | (with_reducible refine hK_ _ _ ?_; try clear hK_ K_) | (with_reducible refine fun (g_ : Sl) (o_ : Ow) => ?_) | (with_reducible first | exact True.intro | refine And.intro trivial ?_ | refine And.intro ?_ ?_) | exact Nat.le_of_ble_eq_true rfl | exact Or.inl rfl | (intro h_; cases h_) | (intro h_; (try simp only [vS1] at h_)) | rfl))) <;> (try (conv => whnf)) <;> (try first | change (_ : Int) ≤ _ | change (_ : Nat) ≤ _) <;> (try ((fail_if_success (with_reducible apply Exists.intro)); (try dsimp only); (try simp only [vS1])))
  all_goals (try (fail_if_success (with_reducible apply Exists.intro)); first | with_reducible assumption | omega | exact mdl (by omega) | exact ilo1 (by omega) | exact ilo2 (by omega) | exact ihi1 (by omega) (by omega) | exact ihi2 (by omega) (by omega))
  · show dOf _ = some _
    unfold curL belowC
    simp only [if_pos h_]; rfl
  · unfold belowX
    simp only [if_pos h_]
  · exact ‹¬ Int.ofNat 0 ≤ 0› (by decide)
  · show dOf _ = some _
    unfold curL belowC
    simp only [if_neg ‹¬ n ≤ 0›, if_pos h_]; rfl
  · unfold belowX
    simp only [if_neg ‹¬ n ≤ 0›, if_pos h_]
  · exact ‹¬ Int.ofNat 0 ≤ 0› (by decide)
  · show dOf _ = some _
    unfold curL belowC
    simp only [if_neg ‹¬ n ≤ 0›, if_neg h_]; rfl
  · unfold belowX
    simp only [if_neg ‹¬ n ≤ 0›, if_neg h_, W_l1, W_l2]
    rw [W_in (by omega) (by omega)]
end Go.Proofs.Ytnepfcnlngpchaa
namespace Go.Proofs.Ytnepfcnlngpchaa
open Go.RowKit Go.Proofs.Ytnepfcnlngpchaa.Nm
set_option maxRecDepth 10000
set_option maxHeartbeats 2000000
def reflexM (xs : List Pt) (k : Nat) : Bool := decide (turn (pCy xs (k + xs.length - 1)) (pAt xs k) (pCy xs (k + 1)) < 0)
theorem mod_back {k n : Nat} (hk : k < n) (hn : n ≤ 1048576) : Int.tmod (W (W ((k : Int) + (n : Int)) - 1)) (n : Int) = (((k + n - 1) % n : Nat) : Int) := by
  unfold W
  rw [W_in (show -9223372036854775808 ≤ (k : Int) + n by omega) (by omega), W_in (by omega) (by omega), show (k : Int) + n - 1 = ((k + n - 1 : Nat) : Int) by omega, ← Int.ofNat_tmod]
def reflexC : Con := mkCon [.room, .int] (fun x => roomOk x.1 = true ∧ ∃ k : Nat, x.2.1 = k ∧ k < x.1.length) fun x => vB (reflexM x.1 x.2.1.toNat)
theorem reflex_ok : Good1 Try.prog n_impl_reflex reflexC := by
  refine good_ofG (tys := tyL) (env := [(n_impl_turn, turnC)]) (envw := []) (envd := []) [] [] [] [] [] mixed tys ⟨turn_ok, trivial⟩ trivial trivial Try.func76 rfl (by kernel_rfl) (by decide) (by kernel_rfl) ?_
  have hG_ := kpz [(0, [1, 2]), (1, [1, 2, 5]), (2, [4])] [] [] []
  rintro ⟨(xs : List Pt), (z : Int), ⟨⟩⟩ ⟨(hr : roomOk xs = true), k, (rfl : z = _), (hk : k < xs.length)⟩
  have hl := room_len hr
  have hb := mod_back hk (by omega)
  have hm := Nat.mod_lt (k + xs.length - 1) (show 0 < xs.length by omega)
  unfold W at hb
  (repeat' (first | (with_reducible first | exact True.intro | refine zQ ?_ | (refine zG hG_ ?_; intro K_ hK_) | (refine zR ?_; intro K_ hK_) | (refine hK_ _ _ ?_; try clear hK_ K_) | refine sq_n ?_ | refine sq_r ?_ | refine sq_e ?_ | refine bq_n ?_ | refine bq_r ?_ | refine bq_q ?_ | refine zB ?_ | refine zX ?_ | refine zT ?_ | refine zK ?_ | refine gq_n ?_ | refine gq_r ?_ | refine gq_e ?_ | refine lq_n ?_ | refine lq_r ?_ | refine lq_e ?_ | refine bq_e (by decide) ?_) | ((with_reducible refine zC (b := ?b_) ?hb_ ?_ ?_); case hb_ => rfl) | ((conv => whnf); first | (with_reducible refine hK_ _ _ ?_; try clear hK_ K_) | (with_reducible refine fun (g_ : Sl) (o_ : Ow) => ?_) | (with_reducible first | exact True.intro | refine And.intro trivial ?_ | refine And.intro ?_ ?_) | exact Nat.le_of_ble_eq_true rfl | exact Or.inl rfl | (intro h_; cases h_) | (intro h_; (try simp only [vS1] at h_)) | rfl))) <;> (try (conv => whnf)) <;> (try first | change (_ : Int) ≤ _ | change (_ : Nat) ≤ _) <;> (try ((fail_if_success (with_reducible apply Exists.intro)); (try dsimp only); (try simp only [vS1])))
  all_goals (try ((fail_if_success (with_reducible apply Exists.intro)); first | with_reducible assumption | omega))
  · exact ilo1 (by omega)
  · exact ihi1 (by omega) (by omega)
  · unfold reflexM
    rw [hb, mod_nat1 (by omega), Int.toNat_natCast, Int.toNat_natCast]
def bigC : Con := mkCon [.sl (.b .u8)] (fun _ => True) fun x => vB (decide ((x.1.length : Int) > 1048576))
theorem big_ok : Good1 Try.prog n_laws_big bigC := by
  refine good_ofG (tys := tyL) (env := []) (envw := []) (envd := []) [] [] [] [] [] mixed tys trivial trivial trivial Try.func11 rfl (by kernel_rfl) (by decide) (by kernel_rfl) ?_
  have hG_ := kpz [(0, [0]), (1, [2])] [] [] []
  rintro ⟨(bs : List Int), ⟨⟩⟩ -
  (repeat' (first | (with_reducible first | exact True.intro | refine zQ ?_ | (refine zG hG_ ?_; intro K_ hK_) | (refine zR ?_; intro K_ hK_) | (refine hK_ _ _ ?_; try clear hK_ K_) | refine sq_n ?_ | refine sq_r ?_ | refine sq_e ?_ | refine bq_n ?_ | refine bq_r ?_ | refine bq_q ?_ | refine zB ?_ | refine zX ?_ | refine zT ?_ | refine zK ?_ | refine gq_n ?_ | refine gq_r ?_ | refine gq_e ?_ | refine lq_n ?_ | refine lq_r ?_ | refine lq_e ?_ | refine bq_e (by decide) ?_) | ((with_reducible refine zC (b := ?b_) ?hb_ ?_ ?_); case hb_ => rfl) | ((conv => whnf); first | (with_reducible refine hK_ _ _ ?_; try clear hK_ K_) | (with_reducible refine fun (g_ : Sl) (o_ : Ow) => ?_) | (with_reducible first | exact True.intro | refine And.intro trivial ?_ | refine And.intro ?_ ?_) | exact Nat.le_of_ble_eq_true rfl | exact Or.inl rfl | (intro h_; cases h_) | (intro h_; (try simp only [vS1] at h_)) | rfl))) <;> (try (conv => whnf)) <;> (try first | change (_ : Int) ≤ _ | change (_ : Nat) ≤ _) <;> (try ((fail_if_success (with_reducible apply Exists.intro)); (try dsimp only); (try simp only [vS1])))
  all_goals (try ((fail_if_success (with_reducible apply Exists.intro)); first | with_reducible assumption | omega))
end Go.Proofs.Ytnepfcnlngpchaa
namespace Go.Proofs.Ytnepfcnlngpchaa
open Go.RowKit Go.Proofs.Ytnepfcnlngpchaa.Nm
set_option maxRecDepth 10000
def rRoomB (x : List Pt × Bool) : RV := ⟨.tup [.inr [.own 0 0], .inl (.d (.bool x.2))], some ⟨t_impl_Point, none, .b .pt, x.1⟩⟩
theorem l04Copy_ok : Good1 Try.prog n_spec_l04Copy (roomRoomC id) := by
  refine good_ofG (tys := tyL) (env := []) (envw := []) (envd := []) [3] [] [] [] [] mixed tys trivial trivial trivial Try.func111 rfl (by kernel_rfl) (by decide) (by kernel_rfl) ?_
  have hG_ := kpz [(0, [1, 2]), (1, [2])] [(0, [2]), (1, [2, 3])] [] []
  rintro ⟨(xs : List Pt), ⟨⟩⟩ (h1 : xs.length ≤ _)
  (repeat' (first | (with_reducible first | exact True.intro | refine zQ ?_ | (refine zG hG_ ?_; intro K_ hK_) | (refine zR ?_; intro K_ hK_) | (refine hK_ _ _ ?_; try clear hK_ K_) | refine sq_n ?_ | refine sq_r ?_ | refine sq_e ?_ | refine bq_n ?_ | refine bq_r ?_ | refine bq_q ?_ | refine zB ?_ | refine zX ?_ | refine zT ?_ | refine zK ?_ | refine gq_n ?_ | refine gq_r ?_ | refine gq_e ?_ | refine lq_n ?_ | refine lq_r ?_ | refine lq_e ?_ | refine bq_e (by decide) ?_) | ((with_reducible refine zC (b := ?b_) ?hb_ ?_ ?_); case hb_ => rfl) | ((conv => whnf); first | (with_reducible refine hK_ _ _ ?_; try clear hK_ K_) | (with_reducible refine fun (g_ : Sl) (o_ : Ow) => ?_) | (with_reducible first | exact True.intro | refine And.intro trivial ?_ | refine And.intro ?_ ?_) | exact Nat.le_of_ble_eq_true rfl | exact Or.inl rfl | (intro h_; cases h_) | (intro h_; (try simp only [vS1] at h_)) | rfl))) <;> (try (conv => whnf)) <;> (try first | change (_ : Int) ≤ _ | change (_ : Nat) ≤ _) <;> (try ((fail_if_success (with_reducible apply Exists.intro)); (try dsimp only); (try simp only [vS1]))) <;> (try simp (disch := omega) only [vS3, vS2] at *)
  all_goals (try (fail_if_success (with_reducible apply Exists.intro)); first | with_reducible assumption | omega | exact mdl (by omega) | exact ilo1 (by omega) | exact ilo2 (by omega) | exact ihi1 (by omega) (by omega) | exact ihi2 (by omega) (by omega))
end Go.Proofs.Ytnepfcnlngpchaa
namespace Go.Proofs.Ytnepfcnlngpchaa
open Go.RowKit Go.Proofs.Ytnepfcnlngpchaa.Nm
set_option maxRecDepth 10000
set_option maxHeartbeats 4000000
def shapeM (k : Int) : List Pt :=
  if k = 0 then [(0, 0), (4, 0), (4, 4), (0, 4)] else
  if k = 1 then [(0, 0), (5, 0), (2, 4)] else
  if k = 2 then [(0, 0), (6, 0), (6, 2), (2, 2), (2, 6), (0, 6)] else
  if k = 3 then [(0, 0), (8, 0), (8, 6), (4, 2), (0, 6)] else
  if k = 4 then [(0, 0), (10, 0), (10, 5), (8, 1), (5, 5), (2, 1), (0, 5)] else
  if k = 5 then [(0, 0), (7, 0), (7, 7), (1, 7), (1, 3), (3, 3), (3, 5), (5, 5), (5, 2), (0, 2)] else
  if k = 6 then [(0, 0), (4, 2), (8, 0), (5, 3), (4, 7), (3, 3)] else [(0, 0), (6, 1), (7, 4), (3, 6), (1, 3)]
def l04ShapeC : Con := mkCon [.int] (fun _ => True) fun x => .val (.agg [.d (.sl none (.b .pt) (shapeM x.1))])
theorem l04Shape_ok : Good1 Try.prog n_spec_l04Shape l04ShapeC := by
  refine good_ofG (tys := tyL) (env := []) (envw := []) (envd := []) [] [] [] [] [] mixed tys trivial trivial trivial Try.func110 rfl (by kernel_rfl) (by decide) (by kernel_rfl) ?_
  have hG_ := kpz [(0, [0, 2]), (1, [2, 3]), (2, [2, 3, 4]), (3, [2]), (4, [2, 3, 12]), (5, [2]), (6, [2, 3, 19]), (7, [2]), (8, [2, 3, 29]), (9, [2]), (10, [2, 3, 38]), (11, [2]), (12, [2, 3, 49]), (13, [2]), (14, [2, 63]), (15, [2]), (16, [2])] [(0, [2]), (1, [2]), (2, [2]), (3, [2]), (4, [2]), (5, [2]), (6, [2]), (7, [2]), (8, [2]), (9, [2]), (10, [2]), (11, [2]), (12, [2]), (13, [2]), (14, [2]), (15, [2]), (16, [2])] [] []
  rintro ⟨(k : Int), ⟨⟩⟩ -
  (repeat' (first | (with_reducible first | exact True.intro | refine zQ ?_ | (refine zG hG_ ?_; intro K_ hK_) | (refine zR ?_; intro K_ hK_) | (refine hK_ _ _ ?_; try clear hK_ K_) | refine sq_n ?_ | refine sq_r ?_ | refine sq_e ?_ | refine bq_n ?_ | refine bq_r ?_ | refine bq_q ?_ | refine zB ?_ | refine zX ?_ | refine zT ?_ | refine zK ?_ | refine gq_n ?_ | refine gq_r ?_ | refine gq_e ?_ | refine lq_n ?_ | refine lq_r ?_ | refine lq_e ?_ | refine bq_e (by decide) ?_) | ((with_reducible refine zC (b := ?b_) ?hb_ ?_ ?_); case hb_ => rfl) | ((conv => whnf); first | (with_reducible refine hK_ _ _ ?_; try clear hK_ K_) | (with_reducible refine fun (g_ : Sl) (o_ : Ow) => ?_) | (with_reducible first | exact True.intro | refine And.intro trivial ?_ | refine And.intro ?_ ?_) | exact Nat.le_of_ble_eq_true rfl | exact Or.inl rfl | (intro h_; cases h_) | (intro h_; (try simp only [vS1] at h_)) | rfl))) <;> (try (conv => whnf)) <;> (try first | change (_ : Int) ≤ _ | change (_ : Nat) ≤ _) <;> (try ((fail_if_success (with_reducible apply Exists.intro)); (try dsimp only); (try simp only [vS1])))
  all_goals (try (fail_if_success (with_reducible apply Exists.intro)); first | with_reducible assumption | omega | exact mdl (by omega) | exact ilo1 (by omega) | exact ilo2 (by omega) | exact ihi1 (by omega) (by omega) | exact ihi2 (by omega) (by omega))
  all_goals first
    | (have e := eq_of_beq h_; subst e; rfl)
    | (unfold shapeM; simp_all; rfl)
def stepX (xs : List Pt) (c : Cur) : List Pt :=
  xs.set (belowX c xs.length).toNat ((xs.getD (belowX c xs.length).toNat (0, 0)).1 + belowX (belowC c xs.length) 3 - 1, (xs.getD (belowX c xs.length).toNat (0, 0)).2 + belowX (belowC (belowC c xs.length) 3) 3 - 1)
def stepC (n : Int) (c : Cur) : Cur := belowC (belowC (belowC c n) 3) 3
def stepR (s : List Pt × Cur) : List Pt × Cur := (if roomOk (stepX s.1 s.2) then stepX s.1 s.2 else s.1, stepC s.1.length s.2)
def iterR (s : List Pt × Cur) : Nat → List Pt × Cur
  | 0 => s
  | j + 1 => stepR (iterR s j)
def turnP (turn : Int) (p : Pt) : Pt := if turn = 1 then (-p.2, p.1) else if turn = 2 then (-p.1, -p.2) else p
def laidP (turn dx : Int) (p : Pt) : Pt := ((turnP turn p).1 + dx, (turnP turn p).2)
def laidAt (xs : List Pt) (turn first dx : Int) (k : Nat) : Pt := laidP turn dx (xs.getD ((first.toNat + k) % xs.length) (0, 0))
def laidR (xs : List Pt) (turn first dx : Int) : List Pt := (List.range xs.length).map (laidAt xs turn first dx)
def room0 (c : Cur) : List Pt × Cur := (shapeM (belowX c 8), belowC (belowC c 8) 4)
def roomK (c : Cur) : Int := belowX (belowC c 8) 4
def roomS (c : Cur) : List Pt × Cur := iterR (room0 c) (roomK c).toNat
def roomX (c : Cur) : List Pt :=
  laidR (roomS c).1 (belowX (roomS c).2 4) (belowX (belowC (roomS c).2 4) (roomS c).1.length) (belowX (belowC (belowC (roomS c).2 4) (roomS c).1.length) 5 - 2)
def roomC (c : Cur) : Cur := belowC (belowC (belowC (roomS c).2 4) (roomS c).1.length) 5
theorem stepX_len (xs : List Pt) (c : Cur) : (stepX xs c).length = xs.length := List.length_set ..
theorem stepR_len (s : List Pt × Cur) : (stepR s).1.length = s.1.length := by
  unfold stepR
  simp only
  split
  · exact stepX_len _ _
  · rfl
theorem iterR_len (s : List Pt × Cur) : ∀ j, (iterR s j).1.length = s.1.length
  | 0 => rfl
  | j + 1 => (stepR_len _).trans (iterR_len s j)
theorem stepC_ok {n : Int} {c : Cur} (h : curOk c) : curOk (stepC n c) := belowC_ok (belowC_ok (belowC_ok h))
theorem iterR_cur {s : List Pt × Cur} (h : curOk s.2) : ∀ j, curOk (iterR s j).2
  | 0 => h
  | j + 1 => stepC_ok (iterR_cur h j)
theorem shape_len (k : Int) : 3 ≤ (shapeM k).length ∧ (shapeM k).length ≤ 10 := by
  unfold shapeM
  repeat' split
  all_goals decide
def setXY (xs : List Pt) (i : Nat) (a b : Int) : List Pt :=
  (xs.set i (W (W ((xs.getD i (0, 0)).1 + a) - 1), (xs.getD i (0, 0)).2)).set i
    (((xs.set i (W (W ((xs.getD i (0, 0)).1 + a) - 1), (xs.getD i (0, 0)).2)).getD i (0, 0)).1,
      W (W (((xs.set i (W (W ((xs.getD i (0, 0)).1 + a) - 1), (xs.getD i (0, 0)).2)).getD i (0, 0)).2 + b) - 1))
theorem pt_room {xs : List Pt} (hr : roomOk xs = true) {i : Nat} (hi : i < xs.length) : -40 ≤ (xs.getD i (0, 0)).1 ∧ (xs.getD i (0, 0)).1 ≤ 40 ∧ -40 ≤ (xs.getD i (0, 0)).2 ∧ (xs.getD i (0, 0)).2 ≤ 40 := by
  rw [getD_lt _ hi]
  exact ptOk_iff.1 (List.all_eq_true.1 (roomOk_iff.1 hr).2.1 _ (List.getElem_mem hi))
theorem setXY_eq {xs : List Pt} (hr : roomOk xs = true) {i : Nat} (hi : i < xs.length) {a b : Int} (ha : 0 ≤ a ∧ a < 3) (hb : 0 ≤ b ∧ b < 3) :
    setXY xs i a b = xs.set i ((xs.getD i (0, 0)).1 + a - 1, (xs.getD i (0, 0)).2 + b - 1) := by
  have h := pt_room hr hi
  have g : ∀ x : Pt, (xs.set i x).getD i (0, 0) = x := fun x => by rw [getD_lt _ (by rw [List.length_set]; exact hi), List.getElem_set_self]
  unfold setXY
  rw [List.set_set, g]
  simp only [W_l3]
  rw [W_in (by omega) (by omega), W_in (by omega) (by omega)]
theorem shape_ok (k : Int) : roomOk (shapeM k) = true := by
  unfold shapeM
  repeat' split
  all_goals decide +kernel
theorem iterR_ok {s : List Pt × Cur} (h : roomOk s.1 = true) : ∀ j, roomOk (iterR s j).1 = true
  | 0 => h
  | j + 1 => by
    show roomOk (stepR (iterR s j)).1 = true
    unfold stepR
    simp only
    split
    · assumption
    · exact iterR_ok h j
theorem stepX_setXY {xs : List Pt} (hr : roomOk xs = true) (c : Cur) : setXY xs (belowX c xs.length).toNat (belowX (belowC c xs.length) 3) (belowX (belowC (belowC c xs.length) 3) 3) = stepX xs c := by
  have h3 := (roomOk_iff.1 hr).1
  have hb := below_bd (c := c) (n := (xs.length : Int)) (by omega)
  exact setXY_eq hr (by omega) (below_bd (by decide)) (below_bd (by decide))
theorem rng1 {f : Nat → Pt} {x : Pt} (h : x = f 0) : [x] = (List.range (0 + 1)).map f := by rw [h]; rfl
theorem rngS {f : Nat → Pt} {k : Nat} {x : Pt} (h : x = f k) : (List.range k).map f ++ [x] = (List.range (k + 1)).map f := by
  rw [List.range_succ, List.map_append, h]; rfl
theorem laid_1 {xs : List Pt} (hr : roomOk xs = true) {turn first dx : Int} {k m : Nat} (ht : (turn == 1) = true) (hm : m = (first.toNat + k) % xs.length) (hdx : -2 ≤ dx ∧ dx ≤ 2) :
    (W (W (0 - (xs.getD m (0, 0)).2) + dx), (xs.getD m (0, 0)).1) = laidAt xs turn first dx k := by
  have h3 := (roomOk_iff.1 hr).1
  have h := pt_room hr (i := m) (by rw [hm]; exact Nat.mod_lt _ (by omega))
  unfold laidAt laidP turnP W
  rw [← hm, if_pos (eq_of_beq ht), W_l1, W_in (by omega) (by omega)]
  simp
theorem laid_2 {xs : List Pt} (hr : roomOk xs = true) {turn first dx : Int} {k m : Nat} (hn : (turn == 1) = false) (ht : (turn == 2) = true) (hm : m = (first.toNat + k) % xs.length) (hdx : -2 ≤ dx ∧ dx ≤ 2) :
    (W (W (0 - (xs.getD m (0, 0)).1) + dx), W (0 - (xs.getD m (0, 0)).2)) = laidAt xs turn first dx k := by
  have h3 := (roomOk_iff.1 hr).1
  have h := pt_room hr (i := m) (by rw [hm]; exact Nat.mod_lt _ (by omega))
  unfold laidAt laidP turnP W
  rw [← hm, if_neg (ne_of_beq_false hn), if_pos (eq_of_beq ht), W_l1, W_in (by omega) (by omega), W_in (by omega) (by omega)]
  simp
theorem laid_0 {xs : List Pt} (hr : roomOk xs = true) {turn first dx : Int} {k m : Nat} (hn : (turn == 1) = false) (ht : (turn == 2) = false) (hm : m = (first.toNat + k) % xs.length) (hdx : -2 ≤ dx ∧ dx ≤ 2) :
    (W ((xs.getD m (0, 0)).1 + dx), (xs.getD m (0, 0)).2) = laidAt xs turn first dx k := by
  have h3 := (roomOk_iff.1 hr).1
  have h := pt_room hr (i := m) (by rw [hm]; exact Nat.mod_lt _ (by omega))
  unfold laidAt laidP turnP W
  rw [← hm, if_neg (ne_of_beq_false hn), if_neg (ne_of_beq_false ht), W_in (by omega) (by omega)]
def l04RoomC : ConD := mkConB [.cur] 0 t_spec_l01Cur (fun x => curOk x.1) (fun x => .agg [.d (.sl none (.b .pt) (roomX x.1))]) fun x => curL (roomC x.1)
theorem l04Room_ok : GoodD Try.prog n_spec_l04Room l04RoomC := by
  refine good_ofB (tys := tyL) (env := [(n_spec_l04Shape, l04ShapeC), (n_spec_l04Copy, (roomRoomC id)), (n_spec_RoomOk, roomOkC)]) (envw := []) (envd := [(n_spec_l01Below, l01BelowC)]) [15, 21, 28, 30, 41, 56, 66, 69, 71, 1000] [13, 15, 21, 28, 41, 56, 66, 69, 71, 1000] [31, 32, 34, 35, 37, 38, 39, 44, 45, 46, 47, 49, 50, 52, 53, 54, 59, 60] [] [15, 21, 28, 41, 56, 66, 69, 71] mixed tys ⟨l04Shape_ok, l04Copy_ok, sRoomOk_ok, trivial⟩ trivial ⟨l01Below_ok, trivial⟩ Try.func61 rfl (by kernel_rfl) ⟨by decide, rfl⟩ (by kernel_rfl) ?_
  have hG_ := kpz [(0, [0, 2]), (1, [0, 2, 3]), (2, [0, 2, 3, 4]), (3, [0, 2, 3, 4, 5]), (4, [0, 2, 3, 4, 5, 23]), (5, [0, 2, 3, 4, 5]), (6, [0, 2, 3, 4, 5, 6]), (7, [0, 2, 3, 4, 5, 6, 7]), (8, [0, 2, 3, 4, 5, 6, 7]), (9, [0, 2, 3, 4, 5, 7]), (10, [0, 2, 3, 4, 5, 7, 62]), (11, [0, 2, 3, 4, 5]), (12, [0, 2, 3, 4, 8]), (13, [0, 2, 3, 4, 8, 9]), (14, [0, 2, 3, 4, 8, 9, 10]), (15, [2, 3, 4, 8, 9, 10, 11]), (16, [2, 3, 4, 8, 9, 10, 11, 12]), (17, [2, 3, 4, 8, 9, 10, 11, 12, 75]), (18, [2, 3, 4, 8, 9, 10, 11, 12]), (19, [2, 3, 4, 8, 9, 10, 11, 12, 13]), (20, [2, 3, 4, 8, 9, 10, 11, 12, 13, 87]), (21, [2, 3, 4, 8, 9, 10, 11, 12, 13, 87, 88]), (22, [2, 3, 4, 8, 9, 10, 11, 12, 13]), (23, [2, 3, 4, 8, 9, 10, 11, 12, 13, 96]), (24, [2, 3, 4, 8, 9, 10, 11, 12, 13]), (25, [2, 3, 4, 8, 9, 10, 11, 12, 13]), (26, [2, 3, 4, 8, 9, 10, 11, 12]), (27, [2])] [(0, [2, 1000]), (1, [2, 3, 1000]), (2, [2, 3, 1000]), (3, [2, 3, 1000]), (4, [2, 3, 1000]), (5, [2, 3, 30, 1000]), (6, [2, 3, 1000]), (7, [2, 3, 7, 30, 1000]), (8, [2, 3, 7, 30, 1000]), (9, [2, 3, 7, 30, 1000]), (10, [2, 3, 7, 30, 1000]), (11, [2, 3, 30, 1000]), (12, [2, 3, 8, 1000]), (13, [2, 3, 8, 1000]), (14, [2, 3, 8, 1000]), (15, [2, 3, 8, 1000]), (16, [2, 3, 8, 1000]), (17, [2, 3, 8, 1000]), (18, [2, 3, 8, 1000]), (19, [2, 3, 8, 13, 1000]), (20, [2, 3, 8, 13, 1000]), (21, [2, 3, 8, 13, 1000]), (22, [2, 3, 8, 13, 1000]), (23, [2, 3, 8, 13, 1000]), (24, [2, 3, 8, 13, 1000]), (25, [2, 3, 8, 13, 1000]), (26, [2, 3, 8, 1000]), (27, [2, 1000])] [(11, [30])] []
  rintro ⟨⟨(bs : List Int), (i : Int), (h : Int)⟩, ⟨⟩⟩ (hc : curOk (bs, i, h))
  have hb1 : 0 ≤ roomK (bs, i, h) ∧ roomK (bs, i, h) < 4 := below_bd (c := belowC (bs, i, h) 8) (n := 4) (by decide)
  have hl0 : 3 ≤ (room0 (bs, i, h)).1.length ∧ (room0 (bs, i, h)).1.length ≤ 10 := shape_len _
  have h1 : curOk (belowC (bs, i, h) 8) := belowC_ok hc
  have hlen := iterR_len (room0 (bs, i, h))
  have hcur : ∀ j, curOk (iterR (room0 (bs, i, h)) j).2 := iterR_cur (s := room0 (bs, i, h)) (show curOk (belowC (belowC (bs, i, h) 8) 4) from belowC_ok (belowC_ok hc))
  (repeat' (first | (with_reducible first | exact True.intro | refine zQ ?_ | (refine zG hG_ ?_; intro K_ hK_) | (refine zR ?_; intro K_ hK_) | (refine hK_ _ _ ?_; try clear hK_ K_) | refine sq_n ?_ | refine sq_r ?_ | refine sq_e ?_ | refine bq_n ?_ | refine bq_r ?_ | refine bq_q ?_ | refine zB ?_ | refine zX ?_ | refine zT ?_ | refine zK ?_ | refine gq_n ?_ | refine gq_r ?_ | refine gq_e ?_ | refine lq_n ?_ | refine lq_r ?_ | refine lq_e ?_ | refine bq_e (by decide) ?_) | ((with_reducible refine zC (b := ?b_) ?hb_ ?_ ?_); case hb_ => rfl) | ((conv => whnf); first | (with_reducible refine hK_ _ _ ?_; try clear hK_ K_) | (with_reducible refine fun (g_ : Sl) (o_ : Ow) => ?_) | (with_reducible first | exact True.intro | refine And.intro trivial ?_ | refine And.intro ?_ ?_) | exact Nat.le_of_ble_eq_true rfl | exact Or.inl rfl | (intro h_; cases h_) | (intro h_; (try simp only [vS1] at h_)) | rfl))) <;> (try (conv => whnf)) <;> (try first | change (_ : Int) ≤ _ | change (_ : Nat) ≤ _) <;> (try ((fail_if_success (with_reducible apply Exists.intro)); (try dsimp only); (try simp only [vS1])))
  all_goals (try (fail_if_success (with_reducible apply Exists.intro)); first | with_reducible assumption | omega | exact mdl (by omega) | exact ilo1 (by omega) | exact ilo2 (by omega) | exact ihi1 (by omega) (by omega) | exact ihi2 (by omega) (by omega))
  refine awp'_loopG (α := Nat) (fun j ver_ => [(5, vInt (roomK (bs, i, h) - j)), (4, vInt ((iterR (room0 (bs, i, h)) j).1.length : Nat))]) (fun j ver_ => [(3, 3, true, .box t_impl_Room [.d (.sl none (.b .pt) (iterR (room0 (bs, i, h)) j).1)])]) (fun j ver_ => [(1000, ⟨0, .box t_spec_l01Cur ((curL (iterR (room0 (bs, i, h)) j).2).map .d)⟩), (13, ⟨ver_ 13, .dead⟩)]) (fun j => j ≤ (roomK (bs, i, h)).toNat) (fun j => (roomK (bs, i, h)).toNat - j) [0, 2] [2] (0) ?_
  conv => whnf
  refine ⟨⟨?inv1_, ?vals1_, ?own1_, ?fix1_⟩, ?body1_⟩
  case' vals1_ => (repeat' (first | (with_reducible first | exact True.intro | refine And.intro ?_ ?_ | refine Head.mk ?_ ?_ ?_ ?_) | ((conv => lhs; whnf); first | (with_reducible first | rfl | exact vInt_s (by omega)) | exact rfl) | ((conv => whnf); first | (with_reducible first | exact True.intro | refine And.intro ?_ ?_)))) <;> (try (conv => lhs; whnf))
  case' own1_ => (repeat' (first | (with_reducible first | exact True.intro | refine And.intro ?_ ?_ | refine Head.mk ?_ ?_ ?_ ?_) | ((conv => lhs; whnf); first | (with_reducible first | rfl | exact vInt_s (by omega)) | exact rfl) | ((conv => whnf); first | (with_reducible first | exact True.intro | refine And.intro ?_ ?_)))) <;> (try (conv => lhs; whnf))
  case' fix1_ => (repeat' (first | (with_reducible first | exact True.intro | refine And.intro ?_ ?_ | refine Head.mk ?_ ?_ ?_ ?_) | ((conv => lhs; whnf); first | (with_reducible first | rfl | exact vInt_s (by omega)) | exact rfl) | ((conv => whnf); first | (with_reducible first | exact True.intro | refine And.intro ?_ ?_)))) <;> (try (conv => lhs; whnf))
  · exact (Int.sub_zero _).symm ▸ rfl
  · exact Nat.zero_le _
  rintro j g_ o_ v_ hj
  have hn := hlen j
  have hcj := hcur j
  have hrj := iterR_ok (s := room0 (bs, i, h)) (shape_ok _) j
  generalize hs : iterR (room0 (bs, i, h)) j = s at *
  have hstep : iterR (room0 (bs, i, h)) (j + 1) = stepR s := by show stepR _ = _; rw [hs]
  obtain ⟨xs, c⟩ := s
  have hc1 : curOk (belowC c (xs.length : Int)) := belowC_ok hcj
  have hc2 : curOk (belowC (belowC c (xs.length : Int)) 3) := belowC_ok hc1
  have hx3 : 3 ≤ xs.length ∧ xs.length ≤ 10 := by have : xs.length = _ := hn; omega
  have hbx := below_bd (c := c) (n := (xs.length : Int)) (by omega)
  (repeat' (first | (with_reducible first | exact True.intro | refine zQ ?_ | (refine zG hG_ ?_; intro K_ hK_) | (refine zR ?_; intro K_ hK_) | (refine hK_ _ _ ?_; try clear hK_ K_) | refine sq_n ?_ | refine sq_r ?_ | refine sq_e ?_ | refine bq_n ?_ | refine bq_r ?_ | refine bq_q ?_ | refine zB ?_ | refine zX ?_ | refine zT ?_ | refine zK ?_ | refine gq_n ?_ | refine gq_r ?_ | refine gq_e ?_ | refine lq_n ?_ | refine lq_r ?_ | refine lq_e ?_ | refine bq_e (by decide) ?_) | ((with_reducible refine zC (b := ?b_) ?hb_ ?_ ?_); case hb_ => rfl) | ((conv => whnf); first | (with_reducible refine hK_ _ _ ?_; try clear hK_ K_) | (with_reducible refine fun (g_ : Sl) (o_ : Ow) => ?_) | (with_reducible first | exact True.intro | refine And.intro trivial ?_ | refine And.intro ?_ ?_) | exact Nat.le_of_ble_eq_true rfl | exact Or.inl rfl | (intro h_; cases h_) | (intro h_; (try simp only [vS1] at h_)) | rfl))) <;> (try (conv => whnf)) <;> (try first | change (_ : Int) ≤ _ | change (_ : Nat) ≤ _) <;> (try ((fail_if_success (with_reducible apply Exists.intro)); (try dsimp only); (try simp only [vS1])))
  all_goals (try (fail_if_success (with_reducible apply Exists.intro)); first | with_reducible assumption | omega | exact mdl (by omega) | exact ilo1 (by omega) | exact ilo2 (by omega) | exact ihi1 (by omega) (by omega) | exact ihi2 (by omega) (by omega))
  all_goals (try (simp only [id_eq, List.length_set]; omega))
  · have hE := stepX_setXY hrj c
    have h_ : roomOk (setXY xs (belowX c xs.length).toNat (belowX (belowC c xs.length) 3) (belowX (belowC (belowC c xs.length) 3) 3)) = true := h_
    rw [hE] at h_
    have e1 : iterR (room0 (bs, i, h)) (j + 1) = (stepX xs c, stepC xs.length c) := by rw [hstep]; unfold stepR; simp only; rw [if_pos h_]
    refine ⟨j + 1, by omega, by omega, ?_⟩
    rw [e1]
    (repeat' (first | (with_reducible first | exact True.intro | refine And.intro ?_ ?_ | refine Head.mk ?_ ?_ ?_ ?_) | ((conv => lhs; whnf); first | (with_reducible first | rfl | exact vInt_s (by omega)) | exact rfl) | ((conv => whnf); first | (with_reducible first | exact True.intro | refine And.intro ?_ ?_)))) <;> (try (conv => lhs; whnf))
    · exact congrArg vInt (by rw [W_in (by omega) (by omega)]; omega)
    · exact congrArg vInt (by show ((xs.length : Nat) : Int) = ((stepX xs c).length : Int); rw [stepX_len])
    · exact congrArg (fun l => Own.box t_impl_Room [.d (.sl none (.b .pt) l)]) hE
  · have hE := stepX_setXY hrj c
    have h_ : roomOk (setXY xs (belowX c xs.length).toNat (belowX (belowC c xs.length) 3) (belowX (belowC (belowC c xs.length) 3) 3)) = false := h_
    rw [hE] at h_
    have e1 : iterR (room0 (bs, i, h)) (j + 1) = (xs, stepC xs.length c) := by rw [hstep]; unfold stepR; simp only; rw [if_neg (by rw [h_]; decide)]
    refine ⟨j + 1, by omega, by omega, ?_⟩
    rw [e1]
    (repeat' (first | (with_reducible first | exact True.intro | refine And.intro ?_ ?_ | refine Head.mk ?_ ?_ ?_ ?_) | ((conv => lhs; whnf); first | (with_reducible first | rfl | exact vInt_s (by omega)) | exact rfl) | ((conv => whnf); first | (with_reducible first | exact True.intro | refine And.intro ?_ ?_)))) <;> (try (conv => lhs; whnf))
    · exact congrArg vInt (by rw [W_in (by omega) (by omega)]; omega)
  · exact belowC_ok hcj
  · exact belowC_ok (belowC_ok hcj)
  have hj2 : j = (roomK (bs, i, h)).toNat := by omega
  have hS : roomS (bs, i, h) = (xs, c) := by unfold roomS; rw [← hj2]; exact hs
  have b1 := below_bd (c := c) (n := 4) (by decide)
  have b2 := below_bd (c := belowC c 4) (n := (xs.length : Int)) (by omega)
  have b3 := below_bd (c := belowC (belowC c 4) xs.length) (n := 5) (by decide)
  have hX : roomX (bs, i, h) = laidR xs (belowX c 4) (belowX (belowC c 4) xs.length) (belowX (belowC (belowC c 4) xs.length) 5 - 2) := by unfold roomX; rw [hS]
  have hC : roomC (bs, i, h) = belowC (belowC (belowC c 4) xs.length) 5 := by unfold roomC; rw [hS]
  generalize hT : belowX c 4 = turn at *
  generalize hF : belowX (belowC c 4) xs.length = first at *
  generalize hD : belowX (belowC (belowC c 4) xs.length) 5 = dx at *
  refine awp'_loopG (α := Nat) (fun k ver_ => [(4, vInt (xs.length : Nat)), (9, vInt turn), (10, vInt first), (11, vInt (dx - 2)), (12, vInt k)]) (fun k ver_ => [(8, 8, true, .box t_impl_Room [match k with | 0 => .d .nil | _ + 1 => .own 114 (ver_ 114)])]) (fun k ver_ => match k with | 0 => [] | _ + 1 => [(114, ⟨ver_ 114, .row t_impl_Point (.b .pt) ((List.range k).map (laidAt xs turn first (dx - 2)))⟩)]) (fun k => k ≤ xs.length) (fun k => xs.length - k) [2, 3] [2, 3, 1000] (0) ?_
  conv => whnf
  refine ⟨⟨?inv2_, ?vals2_, ?own2_, ?fix2_⟩, ?body2_⟩
  case' vals2_ => (repeat' (first | (with_reducible first | exact True.intro | refine And.intro ?_ ?_ | refine Head.mk ?_ ?_ ?_ ?_) | ((conv => lhs; whnf); first | (with_reducible first | rfl | exact vInt_s (by omega)) | exact rfl) | ((conv => whnf); first | (with_reducible first | exact True.intro | refine And.intro ?_ ?_)))) <;> (try (conv => lhs; whnf))
  case' own2_ => (repeat' (first | (with_reducible first | exact True.intro | refine And.intro ?_ ?_ | refine Head.mk ?_ ?_ ?_ ?_) | ((conv => lhs; whnf); first | (with_reducible first | rfl | exact vInt_s (by omega)) | exact rfl) | ((conv => whnf); first | (with_reducible first | exact True.intro | refine And.intro ?_ ?_)))) <;> (try (conv => lhs; whnf))
  case' fix2_ => (repeat' (first | (with_reducible first | exact True.intro | refine And.intro ?_ ?_ | refine Head.mk ?_ ?_ ?_ ?_) | ((conv => lhs; whnf); first | (with_reducible first | rfl | exact vInt_s (by omega)) | exact rfl) | ((conv => whnf); first | (with_reducible first | exact True.intro | refine And.intro ?_ ?_)))) <;> (try (conv => lhs; whnf))
  · exact congrArg vInt (W_in (by omega) (by omega))
  · exact Nat.zero_le _
  have hix : ∀ k : Nat, k < xs.length → Int.tmod (W (first + (k : Int))) (xs.length : Int) = (((first.toNat + k) % xs.length : Nat) : Int) := fun k hk => by
    rw [show first = ((first.toNat : Nat) : Int) by omega]
    exact mod_nat (by omega)
  have hlt : ∀ k : Nat, ((first.toNat + k) % xs.length) < xs.length := fun k => Nat.mod_lt _ (by omega)
  have hin : ∀ k : Nat, k < xs.length → 0 ≤ Int.tmod (W (first + (k : Int))) (xs.length : Int) ∧ Int.tmod (W (first + (k : Int))) (xs.length : Int) + 1 ≤ (xs.length : Int) := fun k hk => by
    have := hlt k
    rw [hix k hk]; omega
  have him : ∀ k : Nat, k < xs.length → (Int.tmod (W (first + (k : Int))) (xs.length : Int)).toNat = (first.toNat + k) % xs.length := fun k hk => by rw [hix k hk]; exact Int.toNat_natCast _
  rintro (_ | k) g_ o_ v_ hk
  ·
    have hG_ := kpz [(0, [0, 2]), (1, [0, 2, 3]), (2, [0, 2, 3, 4]), (3, [0, 2, 3, 4, 5]), (4, [0, 2, 3, 4, 5, 23]), (5, [0, 2, 3, 4, 5]), (6, [0, 2, 3, 4, 5, 6]), (7, [0, 2, 3, 4, 5, 6, 7]), (8, [0, 2, 3, 4, 5, 6, 7]), (9, [0, 2, 3, 4, 5, 7]), (10, [0, 2, 3, 4, 5, 7, 62]), (11, [0, 2, 3, 4, 5]), (12, [0, 2, 3, 4, 8]), (13, [0, 2, 3, 4, 8, 9]), (14, [0, 2, 3, 4, 8, 9, 10]), (15, [2, 3, 4, 8, 9, 10, 11]), (16, [2, 3, 4, 8, 9, 10, 11, 12]), (17, [2, 3, 4, 8, 9, 10, 11, 12, 75]), (18, [2, 3, 4, 8, 9, 10, 11, 12]), (19, [2, 3, 4, 8, 9, 10, 11, 12, 13]), (20, [2, 3, 4, 8, 9, 10, 11, 12, 13, 87]), (21, [2, 3, 4, 8, 9, 10, 11, 12, 13, 87, 88]), (22, [2, 3, 4, 8, 9, 10, 11, 12, 13]), (23, [2, 3, 4, 8, 9, 10, 11, 12, 13, 96]), (24, [2, 3, 4, 8, 9, 10, 11, 12, 13]), (25, [2, 3, 4, 8, 9, 10, 11, 12, 13]), (26, [2, 3, 4, 8, 9, 10, 11, 12]), (27, [2])] [(0, [2, 1000]), (1, [2, 3, 1000]), (2, [2, 3, 1000]), (3, [2, 3, 1000]), (4, [2, 3, 1000]), (5, [2, 3, 30, 1000]), (6, [2, 3, 1000]), (7, [2, 3, 7, 30, 1000]), (8, [2, 3, 7, 30, 1000]), (9, [2, 3, 7, 30, 1000]), (10, [2, 3, 7, 30, 1000]), (11, [2, 3, 30, 1000]), (12, [2, 3, 8, 1000]), (13, [2, 3, 8, 1000]), (14, [2, 3, 8, 1000]), (15, [2, 3, 8, 1000]), (16, [2, 3, 8, 1000]), (17, [2, 3, 8, 1000]), (18, [2, 3, 8, 114, 1000]), (19, [2, 3, 8, 13, 1000]), (20, [2, 3, 8, 13, 1000]), (21, [2, 3, 8, 13, 1000]), (22, [2, 3, 8, 13, 1000]), (23, [2, 3, 8, 13, 1000]), (24, [2, 3, 8, 13, 1000]), (25, [2, 3, 8, 13, 1000]), (26, [2, 3, 8, 114, 1000]), (27, [2, 1000])] [(11, [30])] []
    (repeat' (first | (with_reducible first | exact True.intro | refine zQ ?_ | (refine zG hG_ ?_; intro K_ hK_) | (refine zR ?_; intro K_ hK_) | (refine hK_ _ _ ?_; try clear hK_ K_) | refine sq_n ?_ | refine sq_r ?_ | refine sq_e ?_ | refine bq_n ?_ | refine bq_r ?_ | refine bq_q ?_ | refine zB ?_ | refine zX ?_ | refine zT ?_ | refine zK ?_ | refine gq_n ?_ | refine gq_r ?_ | refine gq_e ?_ | refine lq_n ?_ | refine lq_r ?_ | refine lq_e ?_ | refine bq_e (by decide) ?_) | ((with_reducible refine zC (b := ?b_) ?hb_ ?_ ?_); case hb_ => rfl) | ((conv => whnf); first | (with_reducible refine hK_ _ _ ?_; try clear hK_ K_) | (with_reducible refine fun (g_ : Sl) (o_ : Ow) => ?_) | (with_reducible first | exact True.intro | refine And.intro trivial ?_ | refine And.intro ?_ ?_) | exact Nat.le_of_ble_eq_true rfl | exact Or.inl rfl | (intro h_; cases h_) | (intro h_; (try simp only [vS1] at h_)) | rfl))) <;> (try (conv => whnf)) <;> (try first | change (_ : Int) ≤ _ | change (_ : Nat) ≤ _) <;> (try ((fail_if_success (with_reducible apply Exists.intro)); (try dsimp only); (try simp only [vS1])))
    all_goals (try ((fail_if_success (with_reducible apply Exists.intro)); first | with_reducible assumption | exact (hin _ (by omega)).1 | exact (hin _ (by omega)).2 | (simp only [List.length_map, List.length_range, List.length_singleton]; omega) | omega))
    · refine ⟨1, by omega, by omega, ?_⟩
      (repeat' (first | (with_reducible first | exact True.intro | refine And.intro ?_ ?_ | refine Head.mk ?_ ?_ ?_ ?_) | ((conv => lhs; whnf); first | (with_reducible first | rfl | exact vInt_s (by omega)) | exact rfl) | ((conv => whnf); first | (with_reducible first | exact True.intro | refine And.intro ?_ ?_)))) <;> (try (conv => lhs; whnf))
      exact locRow_eq (rng1 (laid_1 hrj ‹_› (him 0 (by omega)) (by omega)))
    · refine ⟨1, by omega, by omega, ?_⟩
      (repeat' (first | (with_reducible first | exact True.intro | refine And.intro ?_ ?_ | refine Head.mk ?_ ?_ ?_ ?_) | ((conv => lhs; whnf); first | (with_reducible first | rfl | exact vInt_s (by omega)) | exact rfl) | ((conv => whnf); first | (with_reducible first | exact True.intro | refine And.intro ?_ ?_)))) <;> (try (conv => lhs; whnf))
      exact locRow_eq (rng1 (laid_2 hrj ‹_› ‹_› (him 0 (by omega)) (by omega)))
    · refine ⟨1, by omega, by omega, ?_⟩
      (repeat' (first | (with_reducible first | exact True.intro | refine And.intro ?_ ?_ | refine Head.mk ?_ ?_ ?_ ?_) | ((conv => lhs; whnf); first | (with_reducible first | rfl | exact vInt_s (by omega)) | exact rfl) | ((conv => whnf); first | (with_reducible first | exact True.intro | refine And.intro ?_ ?_)))) <;> (try (conv => lhs; whnf))
      exact locRow_eq (rng1 (laid_0 hrj ‹_› ‹_› (him 0 (by omega)) (by omega)))
  ·
    have hG_ := kpz [(0, [0, 2]), (1, [0, 2, 3]), (2, [0, 2, 3, 4]), (3, [0, 2, 3, 4, 5]), (4, [0, 2, 3, 4, 5, 23]), (5, [0, 2, 3, 4, 5]), (6, [0, 2, 3, 4, 5, 6]), (7, [0, 2, 3, 4, 5, 6, 7]), (8, [0, 2, 3, 4, 5, 6, 7]), (9, [0, 2, 3, 4, 5, 7]), (10, [0, 2, 3, 4, 5, 7, 62]), (11, [0, 2, 3, 4, 5]), (12, [0, 2, 3, 4, 8]), (13, [0, 2, 3, 4, 8, 9]), (14, [0, 2, 3, 4, 8, 9, 10]), (15, [2, 3, 4, 8, 9, 10, 11]), (16, [2, 3, 4, 8, 9, 10, 11, 12]), (17, [2, 3, 4, 8, 9, 10, 11, 12, 75]), (18, [2, 3, 4, 8, 9, 10, 11, 12]), (19, [2, 3, 4, 8, 9, 10, 11, 12, 13]), (20, [2, 3, 4, 8, 9, 10, 11, 12, 13, 87]), (21, [2, 3, 4, 8, 9, 10, 11, 12, 13, 87, 88]), (22, [2, 3, 4, 8, 9, 10, 11, 12, 13]), (23, [2, 3, 4, 8, 9, 10, 11, 12, 13, 96]), (24, [2, 3, 4, 8, 9, 10, 11, 12, 13]), (25, [2, 3, 4, 8, 9, 10, 11, 12, 13]), (26, [2, 3, 4, 8, 9, 10, 11, 12]), (27, [2])] [(0, [2, 114, 1000]), (1, [2, 3, 114, 1000]), (2, [2, 3, 114, 1000]), (3, [2, 3, 114, 1000]), (4, [2, 3, 114, 1000]), (5, [2, 3, 30, 114, 1000]), (6, [2, 3, 114, 1000]), (7, [2, 3, 7, 30, 114, 1000]), (8, [2, 3, 7, 30, 114, 1000]), (9, [2, 3, 7, 30, 114, 1000]), (10, [2, 3, 7, 30, 114, 1000]), (11, [2, 3, 30, 114, 1000]), (12, [2, 3, 8, 114, 1000]), (13, [2, 3, 8, 114, 1000]), (14, [2, 3, 8, 114, 1000]), (15, [2, 3, 8, 114, 1000]), (16, [2, 3, 8, 114, 1000]), (17, [2, 3, 8, 114, 1000]), (18, [2, 3, 8, 114, 1000]), (19, [2, 3, 8, 13, 114, 1000]), (20, [2, 3, 8, 13, 114, 1000]), (21, [2, 3, 8, 13, 114, 1000]), (22, [2, 3, 8, 13, 114, 1000]), (23, [2, 3, 8, 13, 114, 1000]), (24, [2, 3, 8, 13, 114, 1000]), (25, [2, 3, 8, 13, 114, 1000]), (26, [2, 3, 8, 114, 1000]), (27, [2, 114, 1000])] [(11, [30])] []
    (repeat' (first | (with_reducible first | exact True.intro | refine zQ ?_ | (refine zG hG_ ?_; intro K_ hK_) | (refine zR ?_; intro K_ hK_) | (refine hK_ _ _ ?_; try clear hK_ K_) | refine sq_n ?_ | refine sq_r ?_ | refine sq_e ?_ | refine bq_n ?_ | refine bq_r ?_ | refine bq_q ?_ | refine zB ?_ | refine zX ?_ | refine zT ?_ | refine zK ?_ | refine gq_n ?_ | refine gq_r ?_ | refine gq_e ?_ | refine lq_n ?_ | refine lq_r ?_ | refine lq_e ?_ | refine bq_e (by decide) ?_) | ((with_reducible refine zC (b := ?b_) ?hb_ ?_ ?_); case hb_ => rfl) | ((conv => whnf); first | (with_reducible refine hK_ _ _ ?_; try clear hK_ K_) | (with_reducible refine fun (g_ : Sl) (o_ : Ow) => ?_) | (with_reducible first | exact True.intro | refine And.intro trivial ?_ | refine And.intro ?_ ?_) | exact Nat.le_of_ble_eq_true rfl | exact Or.inl rfl | (intro h_; cases h_) | (intro h_; (try simp only [vS1] at h_)) | rfl))) <;> (try (conv => whnf)) <;> (try first | change (_ : Int) ≤ _ | change (_ : Nat) ≤ _) <;> (try ((fail_if_success (with_reducible apply Exists.intro)); (try dsimp only); (try simp only [vS1])))
    all_goals (try ((fail_if_success (with_reducible apply Exists.intro)); first | with_reducible assumption | exact (hin _ (by omega)).1 | exact (hin _ (by omega)).2 | (simp only [List.length_map, List.length_range, List.length_singleton]; omega) | omega))
    · refine ⟨k + 2, by omega, by omega, ?_⟩
      (repeat' (first | (with_reducible first | exact True.intro | refine And.intro ?_ ?_ | refine Head.mk ?_ ?_ ?_ ?_) | ((conv => lhs; whnf); first | (with_reducible first | rfl | exact vInt_s (by omega)) | exact rfl) | ((conv => whnf); first | (with_reducible first | exact True.intro | refine And.intro ?_ ?_)))) <;> (try (conv => lhs; whnf))
      exact locRow_eq (rngS (laid_1 hrj ‹_› (him (k + 1) (by omega)) (by omega)))
    · refine ⟨k + 2, by omega, by omega, ?_⟩
      (repeat' (first | (with_reducible first | exact True.intro | refine And.intro ?_ ?_ | refine Head.mk ?_ ?_ ?_ ?_) | ((conv => lhs; whnf); first | (with_reducible first | rfl | exact vInt_s (by omega)) | exact rfl) | ((conv => whnf); first | (with_reducible first | exact True.intro | refine And.intro ?_ ?_)))) <;> (try (conv => lhs; whnf))
      exact locRow_eq (rngS (laid_2 hrj ‹_› ‹_› (him (k + 1) (by omega)) (by omega)))
    · refine ⟨k + 2, by omega, by omega, ?_⟩
      (repeat' (first | (with_reducible first | exact True.intro | refine And.intro ?_ ?_ | refine Head.mk ?_ ?_ ?_ ?_) | ((conv => lhs; whnf); first | (with_reducible first | rfl | exact vInt_s (by omega)) | exact rfl) | ((conv => whnf); first | (with_reducible first | exact True.intro | refine And.intro ?_ ?_)))) <;> (try (conv => lhs; whnf))
      exact locRow_eq (rngS (laid_0 hrj ‹_› ‹_› (him (k + 1) (by omega)) (by omega)))
    · show dOf _ = some _
      rw [hC]; rfl
    · rw [hX, show k + 1 = xs.length by omega]; rfl
def drawRoomM (bs : List Int) : List Pt := roomX (newC bs)
def drawRoomC : Con := mkCon [.sl (.b .u8)] (fun x => x.1.length ≤ 1048576) fun x => .val (.agg [.d (.sl none (.b .pt) (drawRoomM x.1))])
theorem drawRoom_ok : Good1 Try.prog n_spec_DrawRoom drawRoomC := by
  refine good_ofG (tys := tyL) (env := []) (envw := []) (envd := [(n_spec_l01New, l01NewC), (n_spec_l04Room, l04RoomC)]) [4, 5] [4, 5] [] [] [4, 5] mixed tys trivial trivial ⟨l01New_ok, l04Room_ok, trivial⟩ Try.func12 rfl (by kernel_rfl) (by decide) (by kernel_rfl) ?_
  have hG_ := kpz [(0, [0, 2]), (1, [2])] [(0, [2]), (1, [2, 4])] [] []
  rintro ⟨(bs : List Int), ⟨⟩⟩ (h1 : bs.length ≤ _)
  have hc := newC_ok h1
  (repeat' (first | (with_reducible first | exact True.intro | refine zQ ?_ | (refine zG hG_ ?_; intro K_ hK_) | (refine zR ?_; intro K_ hK_) | (refine hK_ _ _ ?_; try clear hK_ K_) | refine sq_n ?_ | refine sq_r ?_ | refine sq_e ?_ | refine bq_n ?_ | refine bq_r ?_ | refine bq_q ?_ | refine zB ?_ | refine zX ?_ | refine zT ?_ | refine zK ?_ | refine gq_n ?_ | refine gq_r ?_ | refine gq_e ?_ | refine lq_n ?_ | refine lq_r ?_ | refine lq_e ?_ | refine bq_e (by decide) ?_) | ((with_reducible refine zC (b := ?b_) ?hb_ ?_ ?_); case hb_ => rfl) | ((conv => whnf); first | (with_reducible refine hK_ _ _ ?_; try clear hK_ K_) | (with_reducible refine fun (g_ : Sl) (o_ : Ow) => ?_) | (with_reducible first | exact True.intro | refine And.intro trivial ?_ | refine And.intro ?_ ?_) | exact Nat.le_of_ble_eq_true rfl | exact Or.inl rfl | (intro h_; cases h_) | (intro h_; (try simp only [vS1] at h_)) | rfl))) <;> (try (conv => whnf)) <;> (try first | change (_ : Int) ≤ _ | change (_ : Nat) ≤ _) <;> (try ((fail_if_success (with_reducible apply Exists.intro)); (try dsimp only); (try simp only [vS1])))
  all_goals (try (fail_if_success (with_reducible apply Exists.intro)); first | with_reducible assumption | omega | exact mdl (by omega) | exact ilo1 (by omega) | exact ilo2 (by omega) | exact ihi1 (by omega) (by omega) | exact ihi2 (by omega) (by omega))
end Go.Proofs.Ytnepfcnlngpchaa
namespace Go.Proofs.Ytnepfcnlngpchaa
open Go.RowKit Go.Proofs.Ytnepfcnlngpchaa.Nm
set_option maxRecDepth 10000
theorem shape_bd (k : Int) : ∀ q ∈ shapeM k, 0 ≤ q.1 ∧ q.1 ≤ 10 ∧ 0 ≤ q.2 ∧ q.2 ≤ 10 := by
  unfold shapeM
  repeat' split
  all_goals decide
theorem stepR_bd {s : List Pt × Cur} {j : Int} (hr : roomOk s.1 = true) (h : ∀ q ∈ s.1, -j ≤ q.1 ∧ q.1 ≤ 10 + j ∧ -j ≤ q.2 ∧ q.2 ≤ 10 + j) : ∀ q ∈ (stepR s).1, -(j + 1) ≤ q.1 ∧ q.1 ≤ 10 + (j + 1) ∧ -(j + 1) ≤ q.2 ∧ q.2 ≤ 10 + (j + 1) := by
  have h3 := (roomOk_iff.1 hr).1
  intro q hq
  have old : q ∈ s.1 → -(j + 1) ≤ q.1 ∧ q.1 ≤ 10 + (j + 1) ∧ -(j + 1) ≤ q.2 ∧ q.2 ≤ 10 + (j + 1) := fun hq => by have := h q hq; omega
  unfold stepR at hq
  simp only at hq
  split at hq
  · unfold stepX at hq
    rcases List.mem_or_eq_of_mem_set hq with hq | rfl
    · exact old hq
    · have hb := below_bd (c := s.2) (n := (s.1.length : Int)) (by omega)
      have hi : (belowX s.2 s.1.length).toNat < s.1.length := by omega
      have := h _ (List.getElem_mem hi)
      rw [← getD_lt (0, 0) hi] at this
      have b1 := below_bd (c := belowC s.2 s.1.length) (n := 3) (by decide)
      have b2 := below_bd (c := belowC (belowC s.2 s.1.length) 3) (n := 3) (by decide)
      simp only
      omega
  · exact old hq
theorem iterR_bd (c : Cur) : ∀ j : Nat, ∀ q ∈ (iterR (room0 c) j).1, -(j : Int) ≤ q.1 ∧ q.1 ≤ 10 + (j : Int) ∧ -(j : Int) ≤ q.2 ∧ q.2 ≤ 10 + (j : Int)
  | 0 => fun q hq => by have := shape_bd _ q hq; omega
  | j + 1 => stepR_bd (iterR_ok (shape_ok _) j) (iterR_bd c j)
def laidMv (turn dx : Int) : Geo.Mv := if turn = 1 then ⟨0, 1, dx, 0, rfl⟩ else if turn = 2 then ⟨-1, 0, dx, 0, rfl⟩ else ⟨1, 0, dx, 0, rfl⟩
theorem laidMv_app (turn dx : Int) (p : Pt) : laidP turn dx p = (laidMv turn dx).app p := by
  unfold laidP turnP laidMv Geo.Mv.app
  split
  · refine Prod.ext ?_ ?_ <;> simp only <;> omega
  · split
    · refine Prod.ext ?_ ?_ <;> simp only <;> omega
    · refine Prod.ext ?_ ?_ <;> simp only <;> omega
theorem laidR_len (xs : List Pt) (turn first dx : Int) : (laidR xs turn first dx).length = xs.length := by unfold laidR; simp
theorem laid_ok {xs : List Pt} (hr : roomOk xs = true) {turn first dx : Int} (hb : ∀ q ∈ xs, -30 ≤ q.1 ∧ q.1 ≤ 30 ∧ -30 ≤ q.2 ∧ q.2 ≤ 30) (hd : -2 ≤ dx ∧ dx ≤ 2) : roomOk (laidR xs turn first dx) = true := by
  have h3 := (roomOk_iff.1 hr).1
  have hn : 0 < xs.length := by omega
  refine Geo.room_moved hr first.toNat (laidMv turn dx) (laidR_len _ _ _ _) (fun j => ?_) fun q hq => ?_
  · show (laidR xs turn first dx).getD (j % (laidR xs turn first dx).length) (0, 0) = _
    rw [laidR_len]
    have hj := Nat.mod_lt j hn
    rw [getD_lt _ (by rw [laidR_len]; exact hj)]
    unfold laidR
    rw [List.getElem_map, List.getElem_range]
    show laidP turn dx (xs.getD ((first.toNat + j % xs.length) % xs.length) (0, 0)) = _
    rw [laidMv_app, Nat.add_mod_mod]
  · unfold laidR at hq
    obtain ⟨k, -, rfl⟩ := List.mem_map.1 hq
    have hm : (first.toNat + k) % xs.length < xs.length := Nat.mod_lt _ hn
    have := hb _ (List.getElem_mem hm)
    rw [← getD_lt (0, 0) hm] at this
    show ptOk (laidP turn dx (xs.getD _ _)) = true
    refine ptOk_iff.2 ?_
    unfold laidP turnP
    repeat' split
    all_goals simp only; omega
theorem roomX_ok (c : Cur) : roomOk (roomX c) = true := by
  have hK : 0 ≤ roomK c ∧ roomK c < 4 := below_bd (by decide)
  refine laid_ok (iterR_ok (s := room0 c) (shape_ok _) _) (fun q hq => ?_) ?_
  · have := iterR_bd c _ q hq
    omega
  · have := below_bd (c := belowC (belowC (roomS c).2 4) (roomS c).1.length) (n := 5) (by decide)
    omega
theorem drawRoom_room (bs : List Int) : roomOk (drawRoomM bs) = true := roomX_ok _
end Go.Proofs.Ytnepfcnlngpchaa
namespace Go.Proofs.Ytnepfcnlngpchaa
open Go.RowKit Go.Proofs.Ytnepfcnlngpchaa.Nm
set_option maxRecDepth 10000
set_option maxHeartbeats 2000000
def AcAt (cs : List Int) (t : Tri) : Prop := cs.getD t.1.toNat 0 ≠ cs.getD t.2.1.toNat 0 ∧ cs.getD t.2.1.toNat 0 ≠ cs.getD t.2.2.toNat 0 ∧ cs.getD t.1.toNat 0 ≠ cs.getD t.2.2.toNat 0
instance (cs : List Int) (t : Tri) : Decidable (AcAt cs t) := by unfold AcAt; infer_instance
end Go.Proofs.Ytnepfcnlngpchaa
namespace Go.Proofs.Ytnepfcnlngpchaa
open Go.RowKit Go.Proofs.Ytnepfcnlngpchaa.Nm
set_option maxRecDepth 10000
set_option maxHeartbeats 4000000
def dArea (xs : List Pt) : Int := if (decide ((xs.length : Int) ≤ 10) && xs.all ptOk) = true then IntKind.i64.wrap (dbl xs) else 0
def dAreaC : Con := mkCon [.sl (.b .pt)] (fun x => x.1.length ≤ 1048576) fun x => vI (dArea x.1)
theorem dArea_ok : Good1 Try.prog n_impl_DoubleArea dAreaC := by
  refine good_ofG (tys := tyL) (env := [(n_impl_pointsOk, pointsOkC), (n_impl_area, areaC)]) (envw := []) (envd := []) [] [] [] [] [] mixed tys ⟨pointsOk_ok, area_ok, trivial⟩ trivial trivial Try.func23 rfl (by kernel_rfl) (by decide) (by kernel_rfl) ?_
  have hG_ := kpz [(0, [0]), (1, [0, 10]), (2, [2]), (3, [2])] [] [] []
  rintro ⟨(xs : List Pt), ⟨⟩⟩ (h1 : xs.length ≤ _)
  (repeat' (first | (with_reducible first | exact True.intro | refine zQ ?_ | (refine zG hG_ ?_; intro K_ hK_) | (refine zR ?_; intro K_ hK_) | (refine hK_ _ _ ?_; try clear hK_ K_) | refine sq_n ?_ | refine sq_r ?_ | refine sq_e ?_ | refine bq_n ?_ | refine bq_r ?_ | refine bq_q ?_ | refine zB ?_ | refine zX ?_ | refine zT ?_ | refine zK ?_ | refine gq_n ?_ | refine gq_r ?_ | refine gq_e ?_ | refine lq_n ?_ | refine lq_r ?_ | refine lq_e ?_ | refine bq_e (by decide) ?_) | ((with_reducible refine zC (b := ?b_) ?hb_ ?_ ?_); case hb_ => rfl) | ((conv => whnf); first | (with_reducible refine hK_ _ _ ?_; try clear hK_ K_) | (with_reducible refine fun (g_ : Sl) (o_ : Ow) => ?_) | (with_reducible first | exact True.intro | refine And.intro trivial ?_ | refine And.intro ?_ ?_) | exact Nat.le_of_ble_eq_true rfl | exact Or.inl rfl | (intro h_; cases h_) | (intro h_; (try simp only [vS1] at h_)) | rfl))) <;> (try (conv => whnf)) <;> (try first | change (_ : Int) ≤ _ | change (_ : Nat) ≤ _) <;> (try ((fail_if_success (with_reducible apply Exists.intro)); (try dsimp only); (try simp only [vS1]))) <;> (try simp (disch := omega) only [vS3, Int.add_sub_cancel, tn1, tnp, tnc, vS2] at *)
  all_goals (try ((fail_if_success (with_reducible apply Exists.intro)); first | with_reducible assumption | omega))
  · unfold dArea
    rw [decide_eq_false (by omega)]; rfl
  · unfold dArea
    rw [‹xs.all ptOk = false›, Bool.and_false]; rfl
  · unfold dArea
    rw [decide_eq_true (show (xs.length : Int) ≤ 10 by omega), ‹xs.all ptOk = true›]; rfl
theorem dArea_room {xs : List Pt} (hr : roomOk xs = true) : dArea xs = dbl xs := by
  have hl := room_len hr
  have h2 := (Geo.room_area hr).2
  rw [← (Geo.room_area hr).1] at h2
  unfold dArea
  rw [if_pos (by rw [decide_eq_true (by omega), (roomOk_iff.1 hr).2.1]; rfl)]
  exact W_in (by omega) (by omega)
end Go.Proofs.Ytnepfcnlngpchaa
namespace Go.Proofs.Ytnepfcnlngpchaa
open Go.RowKit Go.Proofs.Ytnepfcnlngpchaa.Nm
set_option maxRecDepth 10000
set_option maxHeartbeats 2000000
def copyC : Con := mkCon [.sl (.b .pt)] (fun x => x.1.length ≤ 1048576) fun x => ptRow x.1
theorem copyPoints_ok : Good1 Try.prog n_impl_copyPoints copyC := by
  refine good_ofG (tys := tyL) (env := []) (envw := []) (envd := []) [3] [] [] [] [] mixed tys trivial trivial trivial Try.func80 rfl (by kernel_rfl) (by decide) (by kernel_rfl) ?_
  have hG_ := kpz [(0, [0]), (1, [2])] [(1, [3])] [] []
  rintro ⟨(xs : List Pt), ⟨⟩⟩ (h1 : xs.length ≤ _)
  (repeat' (first | (with_reducible first | exact True.intro | refine zQ ?_ | (refine zG hG_ ?_; intro K_ hK_) | (refine zR ?_; intro K_ hK_) | (refine hK_ _ _ ?_; try clear hK_ K_) | refine sq_n ?_ | refine sq_r ?_ | refine sq_e ?_ | refine bq_n ?_ | refine bq_r ?_ | refine bq_q ?_ | refine zB ?_ | refine zX ?_ | refine zT ?_ | refine zK ?_ | refine gq_n ?_ | refine gq_r ?_ | refine gq_e ?_ | refine lq_n ?_ | refine lq_r ?_ | refine lq_e ?_ | refine bq_e (by decide) ?_) | ((with_reducible refine zC (b := ?b_) ?hb_ ?_ ?_); case hb_ => rfl) | ((conv => whnf); first | (with_reducible refine hK_ _ _ ?_; try clear hK_ K_) | (with_reducible refine fun (g_ : Sl) (o_ : Ow) => ?_) | (with_reducible first | exact True.intro | refine And.intro trivial ?_ | refine And.intro ?_ ?_) | exact Nat.le_of_ble_eq_true rfl | exact Or.inl rfl | (intro h_; cases h_) | (intro h_; (try simp only [vS1] at h_)) | rfl))) <;> (try (conv => whnf)) <;> (try first | change (_ : Int) ≤ _ | change (_ : Nat) ≤ _) <;> (try ((fail_if_success (with_reducible apply Exists.intro)); (try dsimp only); (try simp only [vS1]))) <;> (try simp (disch := omega) only [vS3, Int.add_sub_cancel, tn1, tnp, tnc, vS2] at *)
  all_goals (try (fail_if_success (with_reducible apply Exists.intro)); first | with_reducible assumption | omega | exact mdl (by omega) | exact ilo1 (by omega) | exact ilo2 (by omega) | exact ihi1 (by omega) (by omega) | exact ihi2 (by omega) (by omega))
def withoutC : Con := mkCon [.sl (.b .pt), .int] (fun x => x.1.length ≤ 1048576 ∧ 0 ≤ x.2.1 ∧ x.2.1 < x.1.length) fun x => ptRow (x.1.eraseIdx x.2.1.toNat)
theorem without_ok : Good1 Try.prog n_impl_without withoutC := by
  refine good_ofG (tys := tyL) (env := [(n_impl_copyPoints, copyC)]) (envw := []) (envd := []) [8] [7, 12] [] [] [] mixed tys ⟨copyPoints_ok, trivial⟩ trivial trivial Try.func70 rfl (by kernel_rfl) (by decide) (by kernel_rfl) ?_
  have hG_ := kpz [(0, [0, 1]), (1, [4])] [(1, [8])] [] []
  rintro ⟨(xs : List Pt), (k : Int), ⟨⟩⟩ ⟨(h1 : xs.length ≤ _), (h2 : 0 ≤ k), (h3 : k < _)⟩
  (repeat' (first | (with_reducible first | exact True.intro | refine zQ ?_ | (refine zG hG_ ?_; intro K_ hK_) | (refine zR ?_; intro K_ hK_) | (refine hK_ _ _ ?_; try clear hK_ K_) | refine sq_n ?_ | refine sq_r ?_ | refine sq_e ?_ | refine bq_n ?_ | refine bq_r ?_ | refine bq_q ?_ | refine zB ?_ | refine zX ?_ | refine zT ?_ | refine zK ?_ | refine gq_n ?_ | refine gq_r ?_ | refine gq_e ?_ | refine lq_n ?_ | refine lq_r ?_ | refine lq_e ?_ | refine bq_e (by decide) ?_) | ((with_reducible refine zC (b := ?b_) ?hb_ ?_ ?_); case hb_ => rfl) | ((conv => whnf); first | (with_reducible refine hK_ _ _ ?_; try clear hK_ K_) | (with_reducible refine fun (g_ : Sl) (o_ : Ow) => ?_) | (with_reducible first | exact True.intro | refine And.intro trivial ?_ | refine And.intro ?_ ?_) | exact Nat.le_of_ble_eq_true rfl | exact Or.inl rfl | (intro h_; cases h_) | (intro h_; (try simp only [vS1] at h_)) | rfl))) <;> (try (conv => whnf)) <;> (try first | change (_ : Int) ≤ _ | change (_ : Nat) ≤ _) <;> (try ((fail_if_success (with_reducible apply Exists.intro)); (try dsimp only); (try simp only [vS1]))) <;> (try simp (disch := omega) only [vS3, Int.add_sub_cancel, tn1, tnp, tnc, vS2] at *)
  all_goals (try (fail_if_success (with_reducible apply Exists.intro)); first | with_reducible assumption | omega | exact mdl (by omega) | exact ilo1 (by omega) | exact ilo2 (by omega) | exact ihi1 (by omega) (by omega) | exact ihi2 (by omega) (by omega))
  · exact congrArg some (by rw [erase_eq, show (k + 1).toNat = k.toNat + 1 by omega])
def strAt (l : List Pt) (i : Nat) : Bool := decide (turn (pAt l (prvN l.length i)) (pAt l i) (pAt l (nxtN l.length i)) = 0)
def firstStr (l : List Pt) : Option Nat := if 2 < l.length then (List.range l.length).find? (strAt l) else none
def strRun : Nat → List Pt → List Pt
  | 0, l => l
  | f + 1, l => match firstStr l with
    | none => l
    | some i => strRun f (l.eraseIdx i)
def straightM (l : List Pt) : List Pt := strRun l.length l
structure StrSt (xs l : List Pt) : Prop where
  run : strRun l.length l = straightM xs
  len : l.length ≤ xs.length
theorem strSt_start (xs : List Pt) : StrSt xs xs := ⟨rfl, Nat.le_refl _⟩
theorem StrSt.step {xs l : List Pt} (h : StrSt xs l) {i : Nat} (hi : i < l.length) (hf : firstStr l = some i) : StrSt xs (l.eraseIdx i) := by
  have hl := List.length_eraseIdx_of_lt hi
  have hr := h.run
  have := h.len
  refine ⟨?_, by omega⟩
  rw [hl]
  rw [show l.length = (l.length - 1) + 1 by omega] at hr
  unfold strRun at hr
  rw [hf] at hr
  exact hr
theorem StrSt.done {xs l : List Pt} (h : StrSt xs l) (hf : firstStr l = none) : straightM xs = l := by
  rw [← h.run]
  cases hn : l.length with
  | zero => rfl
  | succ n => unfold strRun; rw [hf]
theorem strRun_len : ∀ (f : Nat) (l : List Pt), (strRun f l).length ≤ l.length
  | 0, l => Nat.le_refl _
  | f + 1, l => by
    unfold strRun
    split
    · exact Nat.le_refl _
    · exact Nat.le_trans (strRun_len f _) (List.length_eraseIdx_le _ _)
theorem straight_len (l : List Pt) : (straightM l).length ≤ l.length := strRun_len _ l
theorem befZ_nat {n i : Nat} (hi : i < n) : befZ n i = (prvN n i : Nat) := prv_int hi
theorem aftZ_nat {n i : Nat} : aftZ n i = (nxtN n i : Nat) := nxt_int
theorem str_small {l : List Pt} (hl : ¬ 2 < l.length) : firstStr l = none := by unfold firstStr; rw [if_neg hl]
def cutEarM (xs : List Pt) (k : Int) : List Pt × Bool := if (earM xs k && !decide ((xs.length : Int) = 3)) && roomOk (straightM (xs.eraseIdx k.toNat)) then (straightM (xs.eraseIdx k.toNat), true) else ([], false)
theorem cutEar_no1 {xs : List Pt} {k : Int} (h : earM xs k = false) : cutEarM xs k = ([], false) := by unfold cutEarM; rw [h]; rfl
theorem cutEar_no2 {xs : List Pt} {k : Int} (h : (xs.length : Int) = 3) : cutEarM xs k = ([], false) := by unfold cutEarM; rw [if_neg]; simp [h]
theorem cutEar_no3 {xs : List Pt} {k : Int} (h : roomOk (straightM (xs.eraseIdx k.toNat)) = false) : cutEarM xs k = ([], false) := by unfold cutEarM; rw [h, Bool.and_false]; rfl
theorem cutEar_yes {xs : List Pt} {k : Int} (h1 : earM xs k = true) (h2 : ¬ (xs.length : Int) = 3) (h3 : roomOk (straightM (xs.eraseIdx k.toNat)) = true) : cutEarM xs k = (straightM (xs.eraseIdx k.toNat), true) := by unfold cutEarM; rw [if_pos]; simp [h1, h2, h3]
theorem cutEar_len (xs : List Pt) (k : Int) : (cutEarM xs k).1.length ≤ xs.length := by
  unfold cutEarM
  split
  · exact Nat.le_trans (straight_len _) (List.length_eraseIdx_le _ _)
  · simp
def cutEarC : Con := mkCon [.room, .int] (fun x => x.1.length ≤ 1048576) fun x => rRoomB (cutEarM x.1 x.2.1)
theorem ear_bd {xs : List Pt} {k : Int} (h : earM xs k = true) : 0 ≤ k ∧ k < xs.length ∧ 3 ≤ xs.length ∧ xs.length ≤ 10 := by
  have hc := earM_iff.1 h
  have hb := btw_iff.1 hc.2.1
  have hl := room_len hc.1
  omega
theorem iCutEar_ok : Good1 Try.prog n_impl_CutEar cutEarC := by
  refine good_ofG (tys := tyL) (env := [(n_impl_IsEar, earC), (n_impl_without, withoutC), (n_impl_around, aroundC), (n_impl_turn, turnC), (n_impl_RoomOk, roomOkC)]) (envw := []) (envd := []) [26, 65] [6, 9, 65] [] [] [] mixed tys ⟨iIsEar_ok, without_ok, around_ok, turn_ok, iRoomOk_ok, trivial⟩ trivial trivial Try.func22 rfl (by kernel_rfl) (by decide) (by kernel_rfl) ?_
  have hG_ := kpz [(0, [1, 2, 4]), (1, [1, 2, 4, 21]), (2, [4, 5]), (3, [4, 6]), (4, [4, 6, 7]), (5, [4, 6, 34]), (6, [4, 6, 7]), (7, [4, 6, 7, 36, 37, 38]), (8, [4, 6, 7, 36, 37, 38, 39]), (9, [4, 6, 7, 8, 9, 36, 37, 38]), (10, [4, 6, 7, 8, 9, 10, 11, 36, 37, 38]), (11, [4, 6, 7, 8, 36, 37, 38, 61]), (12, [4, 6]), (13, [4, 6, 7]), (14, [4, 6, 7, 36, 37, 38]), (15, [4, 6, 70]), (16, [4, 5]), (17, [4, 5])] [(0, [4]), (1, [4]), (2, [4]), (3, [4, 6, 26]), (4, [4, 6, 26]), (5, [4, 6, 26]), (6, [4, 6, 26]), (7, [4, 6, 26]), (8, [4, 6, 26]), (9, [4, 6, 9, 26]), (10, [4, 6, 9, 26]), (11, [4, 6, 26]), (12, [4, 6, 26, 65]), (13, [4, 6, 26]), (14, [4, 6, 26]), (15, [4, 6, 26]), (16, [4, 26]), (17, [4, 26])] [] [(12, [65, 26])]
  rintro ⟨(xs : List Pt), (k : Int), ⟨⟩⟩ (h1 : xs.length ≤ _)
  (repeat' (first | (with_reducible first | exact True.intro | refine zQ ?_ | (refine zG hG_ ?_; intro K_ hK_) | (refine zR ?_; intro K_ hK_) | (refine hK_ _ _ ?_; try clear hK_ K_) | refine sq_n ?_ | refine sq_r ?_ | refine sq_e ?_ | refine bq_n ?_ | refine bq_r ?_ | refine bq_q ?_ | refine zB ?_ | refine zX ?_ | refine zT ?_ | refine zK ?_ | refine gq_n ?_ | refine gq_r ?_ | refine gq_e ?_ | refine lq_n ?_ | refine lq_r ?_ | refine lq_e ?_ | refine bq_e (by decide) ?_) | ((with_reducible refine zC (b := ?b_) ?hb_ ?_ ?_); case hb_ => rfl) | ((conv => whnf); first | (with_reducible refine hK_ _ _ ?_; try clear hK_ K_) | (with_reducible refine fun (g_ : Sl) (o_ : Ow) => ?_) | (with_reducible first | exact True.intro | refine And.intro trivial ?_ | refine And.intro ?_ ?_) | exact Nat.le_of_ble_eq_true rfl | exact Or.inl rfl | (intro h_; cases h_) | (intro h_; (try simp only [vS1] at h_)) | rfl))) <;> (try (conv => whnf)) <;> (try first | change (_ : Int) ≤ _ | change (_ : Nat) ≤ _) <;> (try ((fail_if_success (with_reducible apply Exists.intro)); (try dsimp only); (try simp only [vS1]))) <;> (try simp (disch := omega) only [vS3, Int.add_sub_cancel, tn1, tnp, tnc, vS2] at *)
  all_goals (try (fail_if_success (with_reducible apply Exists.intro)); first | with_reducible assumption | omega | exact mdl (by omega) | exact ilo1 (by omega) | exact ilo2 (by omega) | exact ihi1 (by omega) (by omega) | exact ihi2 (by omega) (by omega))
  · rw [cutEar_no1 (by assumption)]
  · rw [cutEar_no1 (by assumption)]
  · rw [cutEar_no2 (by assumption)]
  · rw [cutEar_no2 (by assumption)]
  · have := ear_bd ‹earM xs k = true›; omega
  · have := ear_bd ‹earM xs k = true›; omega
  have hear : earM xs k = true := by assumption
  have hbd := ear_bd hear
  have hlen := List.length_eraseIdx_of_lt (l := xs) (i := k.toNat) (by omega)
  refine awp'_loopG (α := List Pt × Bool) (fun s ver_ => [(7, vBool s.2)]) (fun s ver_ => [(6, 6, true, .box t_impl_Room [.own 26 (ver_ 26)])]) (fun s ver_ => [(26, ⟨ver_ 26, .row t_impl_Point (.b .pt) s.1⟩), (9, ⟨ver_ 9, .dead⟩)]) (fun s => StrSt (xs.eraseIdx k.toNat) s.1 ∧ (s.2 = false → firstStr s.1 = none)) (fun s => 2 * s.1.length + s.2.toNat) [4] [4] ((xs.eraseIdx k.toNat, true)) ?_
  conv => whnf
  refine ⟨⟨?inv1_, ?vals1_, ?own1_, ?fix1_⟩, ?body1_⟩
  case' vals1_ => (repeat' (first | (with_reducible first | exact True.intro | refine And.intro ?_ ?_ | refine Head.mk ?_ ?_ ?_ ?_) | ((conv => lhs; whnf); first | (with_reducible first | rfl | exact vInt_s (by omega)) | exact rfl) | ((conv => whnf); first | (with_reducible first | exact True.intro | refine And.intro ?_ ?_)))) <;> (try (conv => lhs; whnf))
  case' own1_ => (repeat' (first | (with_reducible first | exact True.intro | refine And.intro ?_ ?_ | refine Head.mk ?_ ?_ ?_ ?_) | ((conv => lhs; whnf); first | (with_reducible first | rfl | exact vInt_s (by omega)) | exact rfl) | ((conv => whnf); first | (with_reducible first | exact True.intro | refine And.intro ?_ ?_)))) <;> (try (conv => lhs; whnf))
  case' fix1_ => (repeat' (first | (with_reducible first | exact True.intro | refine And.intro ?_ ?_ | refine Head.mk ?_ ?_ ?_ ?_) | ((conv => lhs; whnf); first | (with_reducible first | rfl | exact vInt_s (by omega)) | exact rfl) | ((conv => whnf); first | (with_reducible first | exact True.intro | refine And.intro ?_ ?_)))) <;> (try (conv => lhs; whnf))
  · exact ⟨strSt_start _, fun h => by cases h⟩
  rintro ⟨l, b⟩ g_ o_ v_ ⟨(hS : StrSt _ l), (hb : b = false → firstStr l = none)⟩
  have hll := hS.len
  have hdone : firstStr l = none → straightM (xs.eraseIdx k.toNat) = l := hS.done
  have hsm : ¬ 2 < l.length → straightM (xs.eraseIdx k.toNat) = l := fun h => hS.done (str_small h)
  have hno : straightM (xs.eraseIdx k.toNat) = l → roomOk l = false → cutEarM xs k = ([], false) := fun e h => cutEar_no3 (by rw [e]; exact h)
  have hyes : straightM (xs.eraseIdx k.toNat) = l → roomOk l = true → ¬ (xs.length : Int) = 3 → cutEarM xs k = (l, true) := fun e h h3 => by rw [cutEar_yes hear h3 (by rw [e]; exact h), e]
  (repeat' (first | (with_reducible first | exact True.intro | refine zQ ?_ | (refine zG hG_ ?_; intro K_ hK_) | (refine zR ?_; intro K_ hK_) | (refine hK_ _ _ ?_; try clear hK_ K_) | refine sq_n ?_ | refine sq_r ?_ | refine sq_e ?_ | refine bq_n ?_ | refine bq_r ?_ | refine bq_q ?_ | refine zB ?_ | refine zX ?_ | refine zT ?_ | refine zK ?_ | refine gq_n ?_ | refine gq_r ?_ | refine gq_e ?_ | refine lq_n ?_ | refine lq_r ?_ | refine lq_e ?_ | refine bq_e (by decide) ?_) | ((with_reducible refine zC (b := ?b_) ?hb_ ?_ ?_); case hb_ => rfl) | ((conv => whnf); first | (with_reducible refine hK_ _ _ ?_; try clear hK_ K_) | (with_reducible refine fun (g_ : Sl) (o_ : Ow) => ?_) | (with_reducible first | exact True.intro | refine And.intro trivial ?_ | refine And.intro ?_ ?_) | exact Nat.le_of_ble_eq_true rfl | exact Or.inl rfl | (intro h_; cases h_) | (intro h_; (try simp only [vS1] at h_)) | rfl))) <;> (try (conv => whnf)) <;> (try first | change (_ : Int) ≤ _ | change (_ : Nat) ≤ _) <;> (try ((fail_if_success (with_reducible apply Exists.intro)); (try dsimp only); (try simp only [vS1]))) <;> (try simp (disch := omega) only [vS3, Int.add_sub_cancel, tn1, tnp, tnc, vS2] at *)
  all_goals (try (fail_if_success (with_reducible apply Exists.intro)); first | with_reducible assumption | omega | exact mdl (by omega) | exact ilo1 (by omega) | exact ilo2 (by omega) | exact ihi1 (by omega) (by omega) | exact ihi2 (by omega) (by omega))
  ·
    refine awp'_loopG (α := Nat) (fun i ver_ => [(7, vBool false), (38, vInt i)]) (fun i ver_ => []) (fun i ver_ => [(9, ⟨ver_ 9, .dead⟩)]) (fun i => i ≤ l.length ∧ ∀ j, j < i → strAt l j = false) (fun i => l.length - i) [4, 6, 36, 37] [4, 6, 26] (0) ?_
    conv => whnf
    refine ⟨⟨?inv2_, ?vals2_, ?own2_, ?fix2_⟩, ?body2_⟩
    case' vals2_ => (repeat' (first | (with_reducible first | exact True.intro | refine And.intro ?_ ?_ | refine Head.mk ?_ ?_ ?_ ?_) | ((conv => lhs; whnf); first | (with_reducible first | rfl | exact vInt_s (by omega)) | exact rfl) | ((conv => whnf); first | (with_reducible first | exact True.intro | refine And.intro ?_ ?_)))) <;> (try (conv => lhs; whnf))
    case' own2_ => (repeat' (first | (with_reducible first | exact True.intro | refine And.intro ?_ ?_ | refine Head.mk ?_ ?_ ?_ ?_) | ((conv => lhs; whnf); first | (with_reducible first | rfl | exact vInt_s (by omega)) | exact rfl) | ((conv => whnf); first | (with_reducible first | exact True.intro | refine And.intro ?_ ?_)))) <;> (try (conv => lhs; whnf))
    case' fix2_ => (repeat' (first | (with_reducible first | exact True.intro | refine And.intro ?_ ?_ | refine Head.mk ?_ ?_ ?_ ?_) | ((conv => lhs; whnf); first | (with_reducible first | rfl | exact vInt_s (by omega)) | exact rfl) | ((conv => whnf); first | (with_reducible first | exact True.intro | refine And.intro ?_ ?_)))) <;> (try (conv => lhs; whnf))
    · exact ⟨Nat.zero_le _, fun j hj => absurd hj (by omega)⟩
    rintro i g_ o_ v_ ⟨hi, hall⟩
    have hbz : i < l.length → befZ l.length i = (prvN l.length i : Nat) := befZ_nat
    have haz : aftZ l.length i = (nxtN l.length i : Nat) := aftZ_nat
    have hpl : i < l.length → prvN l.length i < l.length := fun h => prv_lt (by omega)
    have hnl : i < l.length → nxtN l.length i < l.length := fun h => nxt_lt (by omega)
    (repeat' (first | (with_reducible first | exact True.intro | refine zQ ?_ | (refine zG hG_ ?_; intro K_ hK_) | (refine zR ?_; intro K_ hK_) | (refine hK_ _ _ ?_; try clear hK_ K_) | refine sq_n ?_ | refine sq_r ?_ | refine sq_e ?_ | refine bq_n ?_ | refine bq_r ?_ | refine bq_q ?_ | refine zB ?_ | refine zX ?_ | refine zT ?_ | refine zK ?_ | refine gq_n ?_ | refine gq_r ?_ | refine gq_e ?_ | refine lq_n ?_ | refine lq_r ?_ | refine lq_e ?_ | refine bq_e (by decide) ?_) | ((with_reducible refine zC (b := ?b_) ?hb_ ?_ ?_); case hb_ => rfl) | ((conv => whnf); first | (with_reducible refine hK_ _ _ ?_; try clear hK_ K_) | (with_reducible refine fun (g_ : Sl) (o_ : Ow) => ?_) | (with_reducible first | exact True.intro | refine And.intro trivial ?_ | refine And.intro ?_ ?_) | exact Nat.le_of_ble_eq_true rfl | exact Or.inl rfl | (intro h_; cases h_) | (intro h_; (try simp only [vS1] at h_)) | rfl))) <;> (try (conv => whnf)) <;> (try first | change (_ : Int) ≤ _ | change (_ : Nat) ≤ _) <;> (try ((fail_if_success (with_reducible apply Exists.intro)); (try dsimp only); (try simp only [vS1]))) <;> (try simp (disch := omega) only [vS3, Int.add_sub_cancel, tn1, tnp, tnc, vS2] at *) <;> (try rw [haz] at *) <;> (try rw [hbz (by assumption)] at *) <;> (try simp only [Int.toNat_natCast] at *)
    all_goals (try (fail_if_success (with_reducible apply Exists.intro)); first | with_reducible assumption | omega | exact mdl (by omega) | exact ilo1 (by omega) | exact ilo2 (by omega) | exact ihi1 (by omega) (by omega) | exact ihi2 (by omega) (by omega))
    all_goals (try (have hq1 := hpl (by assumption); have hq2 := hnl (by assumption)))
    all_goals (try (fail_if_success (with_reducible apply Exists.intro)); omega)
    · have hst : strAt l i = true := decide_eq_true (by assumption)
      have hf : firstStr l = some i := by
        unfold firstStr
        rw [if_pos (by omega)]
        exact List.find?_range_eq_some.2 ⟨hst, List.mem_range.2 (by assumption), fun j hj => by rw [hall j hj]; rfl⟩
      have hle2 := List.length_eraseIdx_of_lt (l := l) (i := i) (by assumption)
      refine ⟨(l.eraseIdx i, true), ?_, ⟨hS.step (by assumption) hf, fun h => by cases h⟩, ?_⟩
      · simp only [hle2]; omega
      · (repeat' (first | (with_reducible first | exact True.intro | refine And.intro ?_ ?_ | refine Head.mk ?_ ?_ ?_ ?_) | ((conv => lhs; whnf); first | (with_reducible first | rfl | exact vInt_s (by omega)) | exact rfl) | ((conv => whnf); first | (with_reducible first | exact True.intro | refine And.intro ?_ ?_)))) <;> (try (conv => lhs; whnf))
    · exact ⟨i + 1, by omega, ⟨by omega, lt_succ_all hall (decide_eq_false (by assumption))⟩, by (repeat' (first | (with_reducible first | exact True.intro | refine And.intro ?_ ?_ | refine Head.mk ?_ ?_ ?_ ?_) | ((conv => lhs; whnf); first | (with_reducible first | rfl | exact vInt_s (by omega)) | exact rfl) | ((conv => whnf); first | (with_reducible first | exact True.intro | refine And.intro ?_ ?_)))) <;> (try (conv => lhs; whnf))⟩
    · refine ⟨(l, false), ?_, ⟨hS, fun _ => ?_⟩, by (repeat' (first | (with_reducible first | exact True.intro | refine And.intro ?_ ?_ | refine Head.mk ?_ ?_ ?_ ?_) | ((conv => lhs; whnf); first | (with_reducible first | rfl | exact vInt_s (by omega)) | exact rfl) | ((conv => whnf); first | (with_reducible first | exact True.intro | refine And.intro ?_ ?_)))) <;> (try (conv => lhs; whnf))⟩
      · simp
      · show firstStr l = none
        unfold firstStr
        rw [if_pos (by omega)]
        exact List.find?_eq_none.2 fun j hj => by rw [hall j (by have := List.mem_range.1 hj; omega)]; decide
  all_goals (first
    | (have he := hsm (by omega); have h0 := hno he (by assumption); rw [h0]; done)
    | (have he := hsm (by omega); have h0 := hyes he (by assumption) (by assumption); rw [h0]; done)
    | (have he := hsm (by omega); have h0 := hyes he (by assumption) (by assumption); exact congrArg some (by rw [h0]))
    | (have he := hdone (hb trivial); have h0 := hno he (by assumption); rw [h0]; done)
    | (have he := hdone (hb trivial); have h0 := hyes he (by assumption) (by assumption); rw [h0]; done)
    | (have he := hdone (hb trivial); have h0 := hyes he (by assumption) (by assumption); exact congrArg some (by rw [h0]))
    | skip)
def earArea (xs : List Pt) (k : Int) : Int := if earM xs k then turn (pI xs (Int.tmod (k + xs.length - 1) xs.length)) (pI xs k) (pI xs (Int.tmod (k + 1) xs.length)) else 0
def earAreaC : Con := mkCon [.room, .int] (fun x => x.1.length ≤ 1048576) fun x => vI (earArea x.1 x.2.1)
theorem iEarArea_ok : Good1 Try.prog n_impl_EarArea earAreaC := by
  refine good_ofG (tys := tyL) (env := [(n_impl_IsEar, earC), (n_impl_around, aroundC), (n_impl_turn, turnC)]) (envw := []) (envd := []) [] [] [] [] [] mixed tys ⟨iIsEar_ok, around_ok, turn_ok, trivial⟩ trivial trivial Try.func24 rfl (by kernel_rfl) (by decide) (by kernel_rfl) ?_
  have hG_ := kpz [(0, [1, 2]), (1, [1, 2, 10]), (2, [4]), (3, [1, 2, 5, 6]), (4, [4])] [] [] []
  rintro ⟨(xs : List Pt), (k : Int), ⟨⟩⟩ (h1 : xs.length ≤ _)
  (repeat' (first | (with_reducible first | exact True.intro | refine zQ ?_ | (refine zG hG_ ?_; intro K_ hK_) | (refine zR ?_; intro K_ hK_) | (refine hK_ _ _ ?_; try clear hK_ K_) | refine sq_n ?_ | refine sq_r ?_ | refine sq_e ?_ | refine bq_n ?_ | refine bq_r ?_ | refine bq_q ?_ | refine zB ?_ | refine zX ?_ | refine zT ?_ | refine zK ?_ | refine gq_n ?_ | refine gq_r ?_ | refine gq_e ?_ | refine lq_n ?_ | refine lq_r ?_ | refine lq_e ?_ | refine bq_e (by decide) ?_) | ((with_reducible refine zC (b := ?b_) ?hb_ ?_ ?_); case hb_ => rfl) | ((conv => whnf); first | (with_reducible refine hK_ _ _ ?_; try clear hK_ K_) | (with_reducible refine fun (g_ : Sl) (o_ : Ow) => ?_) | (with_reducible first | exact True.intro | refine And.intro trivial ?_ | refine And.intro ?_ ?_) | exact Nat.le_of_ble_eq_true rfl | exact Or.inl rfl | (intro h_; cases h_) | (intro h_; (try simp only [vS1] at h_)) | rfl))) <;> (try (conv => whnf)) <;> (try first | change (_ : Int) ≤ _ | change (_ : Nat) ≤ _) <;> (try ((fail_if_success (with_reducible apply Exists.intro)); (try dsimp only); (try simp only [vS1]))) <;> (try simp (disch := omega) only [vS3, Int.add_sub_cancel, tn1, tnp, tnc, vS2] at *)
  all_goals (try (fail_if_success (with_reducible apply Exists.intro)); first | with_reducible assumption | omega | exact mdl (by omega) | exact ilo1 (by omega) | exact ilo2 (by omega) | exact ihi1 (by omega) (by omega) | exact ihi2 (by omega) (by omega))
  · unfold earArea; rw [if_neg (by rw [h_]; decide)]
  all_goals (have hc := earM_iff.1 h_; have hl := room_len hc.1; have hb := btw_iff.1 hc.2.1; have t1 := tmod_in (a := k + xs.length - 1) (n := xs.length) (by omega) (by omega); have t2 := tmod_in (a := k + 1) (n := xs.length) (by omega) (by omega))
  all_goals first
    | omega
    | (unfold befZ; omega)
    | (unfold aftZ; omega)
    | exact (if_pos h_).symm
def earsTo (xs : List Pt) (k : Nat) : List Int := ((List.range k).filter fun j : Nat => earM xs j).map fun j : Nat => (j : Int)
theorem earsTo_succ (xs : List Pt) (k : Nat) : earsTo xs (k + 1) = earsTo xs k ++ (if earM xs k then [(k : Int)] else []) := by
  unfold earsTo
  rw [List.range_succ, List.filter_append, List.map_append]
  congr 1
  rw [List.filter_cons]
  by_cases h : earM xs k = true
  · rw [if_pos h, if_pos h]; rfl
  · rw [if_neg h, if_neg h]; rfl
theorem earsTo_len (xs : List Pt) (k : Nat) : (earsTo xs k).length ≤ k := by
  unfold earsTo
  rw [List.length_map]
  exact Nat.le_trans (List.length_filter_le _ _) (by simp)
def earsM (xs : List Pt) : List Int := earsTo xs xs.length
theorem ears_bad {xs : List Pt} (h : roomOk xs = false) (k : Nat) : earsTo xs k = [] := by
  unfold earsTo
  rw [List.filter_eq_nil_iff.2 fun j _ hj => by have := (earM_iff.1 hj).1; rw [h] at this; cases this]
  rfl
def earsC : Con := mkCon [.room] (fun x => x.1.length ≤ 1048576) fun x => rowI (earsM x.1)
theorem iEarsOf_ok : Good1 Try.prog n_impl_EarsOf earsC := by
  refine good_ofG (tys := tyL) (env := [(n_impl_RoomOk, roomOkC), (n_impl_IsEar, earC)]) (envw := []) (envd := []) [8] [] [] [] [] mixed tys ⟨iRoomOk_ok, iIsEar_ok, trivial⟩ trivial trivial Try.func21 rfl (by kernel_rfl) (by decide) (by kernel_rfl) ?_
  have hG_ := kpz [(0, [1]), (1, [1, 7]), (2, [2]), (3, [1, 3]), (4, [1, 3, 11, 12]), (5, [1, 3, 11, 12, 13]), (6, [1, 3, 4, 11, 12]), (7, [1, 3, 4, 11, 12, 17]), (8, [1, 3, 11, 12]), (9, [1, 3, 11, 12]), (10, [2])] [(3, [8]), (4, [8]), (5, [8]), (6, [8]), (7, [8]), (8, [8]), (9, [8]), (10, [8])] [] []
  rintro ⟨(xs : List Pt), ⟨⟩⟩ (h1 : xs.length ≤ _)
  (repeat' (first | (with_reducible first | exact True.intro | refine zQ ?_ | (refine zG hG_ ?_; intro K_ hK_) | (refine zR ?_; intro K_ hK_) | (refine hK_ _ _ ?_; try clear hK_ K_) | refine sq_n ?_ | refine sq_r ?_ | refine sq_e ?_ | refine bq_n ?_ | refine bq_r ?_ | refine bq_q ?_ | refine zB ?_ | refine zX ?_ | refine zT ?_ | refine zK ?_ | refine gq_n ?_ | refine gq_r ?_ | refine gq_e ?_ | refine lq_n ?_ | refine lq_r ?_ | refine lq_e ?_ | refine bq_e (by decide) ?_) | ((with_reducible refine zC (b := ?b_) ?hb_ ?_ ?_); case hb_ => rfl) | ((conv => whnf); first | (with_reducible refine hK_ _ _ ?_; try clear hK_ K_) | (with_reducible refine fun (g_ : Sl) (o_ : Ow) => ?_) | (with_reducible first | exact True.intro | refine And.intro trivial ?_ | refine And.intro ?_ ?_) | exact Nat.le_of_ble_eq_true rfl | exact Or.inl rfl | (intro h_; cases h_) | (intro h_; (try simp only [vS1] at h_)) | rfl))) <;> (try (conv => whnf)) <;> (try first | change (_ : Int) ≤ _ | change (_ : Nat) ≤ _) <;> (try ((fail_if_success (with_reducible apply Exists.intro)); (try dsimp only); (try simp only [vS1]))) <;> (try simp (disch := omega) only [vS3, Int.add_sub_cancel, tn1, tnp, tnc, vS2] at *)
  all_goals (try (fail_if_success (with_reducible apply Exists.intro)); first | with_reducible assumption | omega | exact mdl (by omega) | exact ilo1 (by omega) | exact ilo2 (by omega) | exact ihi1 (by omega) (by omega) | exact ihi2 (by omega) (by omega))
  · exact ears_bad ‹_› _
  refine awp'_loopG (α := Nat) (fun k ver_ => [(12, vInt k)]) (fun k ver_ => [(3, 8, false, .row t_int (.b .int) (earsTo xs k))]) (fun k ver_ => []) (fun k => k ≤ xs.length) (fun k => xs.length - k) [1, 11] [] (0) ?_
  conv => whnf
  refine ⟨⟨?inv1_, ?vals1_, ?own1_, ?fix1_⟩, ?body1_⟩
  case' vals1_ => (repeat' (first | (with_reducible first | exact True.intro | refine And.intro ?_ ?_ | refine Head.mk ?_ ?_ ?_ ?_) | ((conv => lhs; whnf); first | (with_reducible first | rfl | exact vInt_s (by omega)) | exact rfl) | ((conv => whnf); first | (with_reducible first | exact True.intro | refine And.intro ?_ ?_)))) <;> (try (conv => lhs; whnf))
  case' own1_ => (repeat' (first | (with_reducible first | exact True.intro | refine And.intro ?_ ?_ | refine Head.mk ?_ ?_ ?_ ?_) | ((conv => lhs; whnf); first | (with_reducible first | rfl | exact vInt_s (by omega)) | exact rfl) | ((conv => whnf); first | (with_reducible first | exact True.intro | refine And.intro ?_ ?_)))) <;> (try (conv => lhs; whnf))
  case' fix1_ => (repeat' (first | (with_reducible first | exact True.intro | refine And.intro ?_ ?_ | refine Head.mk ?_ ?_ ?_ ?_) | ((conv => lhs; whnf); first | (with_reducible first | rfl | exact vInt_s (by omega)) | exact rfl) | ((conv => whnf); first | (with_reducible first | exact True.intro | refine And.intro ?_ ?_)))) <;> (try (conv => lhs; whnf))
  · exact Nat.zero_le _
  rintro k g_ o_ v_ hk
  have hlen := earsTo_len xs k
  (repeat' (first | (with_reducible first | exact True.intro | refine zQ ?_ | (refine zG hG_ ?_; intro K_ hK_) | (refine zR ?_; intro K_ hK_) | (refine hK_ _ _ ?_; try clear hK_ K_) | refine sq_n ?_ | refine sq_r ?_ | refine sq_e ?_ | refine bq_n ?_ | refine bq_r ?_ | refine bq_q ?_ | refine zB ?_ | refine zX ?_ | refine zT ?_ | refine zK ?_ | refine gq_n ?_ | refine gq_r ?_ | refine gq_e ?_ | refine lq_n ?_ | refine lq_r ?_ | refine lq_e ?_ | refine bq_e (by decide) ?_) | ((with_reducible refine zC (b := ?b_) ?hb_ ?_ ?_); case hb_ => rfl) | ((conv => whnf); first | (with_reducible refine hK_ _ _ ?_; try clear hK_ K_) | (with_reducible refine fun (g_ : Sl) (o_ : Ow) => ?_) | (with_reducible first | exact True.intro | refine And.intro trivial ?_ | refine And.intro ?_ ?_) | exact Nat.le_of_ble_eq_true rfl | exact Or.inl rfl | (intro h_; cases h_) | (intro h_; (try simp only [vS1] at h_)) | rfl))) <;> (try (conv => whnf)) <;> (try first | change (_ : Int) ≤ _ | change (_ : Nat) ≤ _) <;> (try ((fail_if_success (with_reducible apply Exists.intro)); (try dsimp only); (try simp only [vS1]))) <;> (try simp (disch := omega) only [vS3, Int.add_sub_cancel, tn1, tnp, tnc, vS2] at *)
  all_goals (try (fail_if_success (with_reducible apply Exists.intro)); first | with_reducible assumption | omega | exact mdl (by omega) | exact ilo1 (by omega) | exact ilo2 (by omega) | exact ihi1 (by omega) (by omega) | exact ihi2 (by omega) (by omega))
  · refine ⟨k + 1, by omega, by omega, ?_⟩
    (repeat' (first | (with_reducible first | exact True.intro | refine And.intro ?_ ?_ | refine Head.mk ?_ ?_ ?_ ?_) | ((conv => lhs; whnf); first | (with_reducible first | rfl | exact vInt_s (by omega)) | exact rfl) | ((conv => whnf); first | (with_reducible first | exact True.intro | refine And.intro ?_ ?_)))) <;> (try (conv => lhs; whnf))
    exact congrArg (Own.row _ _) (by rw [earsTo_succ, if_pos (by assumption)])
  · refine ⟨k + 1, by omega, by omega, ?_⟩
    (repeat' (first | (with_reducible first | exact True.intro | refine And.intro ?_ ?_ | refine Head.mk ?_ ?_ ?_ ?_) | ((conv => lhs; whnf); first | (with_reducible first | rfl | exact vInt_s (by omega)) | exact rfl) | ((conv => whnf); first | (with_reducible first | exact True.intro | refine And.intro ?_ ?_)))) <;> (try (conv => lhs; whnf))
    exact congrArg (Own.row _ _) (by rw [earsTo_succ, if_neg (by rw [Bool.not_eq_true]; assumption), List.append_nil])
  · rw [show k = xs.length by omega]; rfl
end Go.Proofs.Ytnepfcnlngpchaa
namespace Go.Proofs.Ytnepfcnlngpchaa
open Go.RowKit Go.Proofs.Ytnepfcnlngpchaa.Nm
set_option maxRecDepth 10000
set_option maxHeartbeats 4000000
theorem ears_at {xs : List Pt} {i : Nat} (hi : i < (earsM xs).length) : ∃ k : Nat, gI (earsM xs) i = (k : Int) ∧ k < xs.length ∧ earM xs k = true := by
  have hm := gI_mem hi
  unfold earsM earsTo at hm
  obtain ⟨k, hk, e⟩ := List.mem_map.1 hm
  obtain ⟨h1, h2⟩ := List.mem_filter.1 hk
  exact ⟨k, e.symm, List.mem_range.1 h1, h2⟩
theorem ears_mem {xs : List Pt} {k : Nat} (hk : k < xs.length) (he : earM xs k = true) : ∃ i, i < (earsM xs).length ∧ gI (earsM xs) i = (k : Int) := by
  have : (k : Int) ∈ earsM xs := List.mem_map.2 ⟨k, List.mem_filter.2 ⟨List.mem_range.2 hk, he⟩, rfl⟩
  exact mem_gI.1 this
theorem ears_inc (xs : List Pt) : (earsM xs).Pairwise (· < ·) := by
  unfold earsM earsTo
  rw [List.pairwise_map]
  exact (List.pairwise_lt_range.filter _).imp fun h => by omega
theorem turn_bd {a b c : Pt} (ha : ptOk a = true) (hb : ptOk b = true) (hc : ptOk c = true) : -12800 ≤ turnZ a b c ∧ turnZ a b c ≤ 12800 := by
  have h1 := ptOk_iff.1 ha
  have h2 := ptOk_iff.1 hb
  have h3 := ptOk_iff.1 hc
  have key : ∀ x y : Int, -80 ≤ x → x ≤ 80 → -80 ≤ y → y ≤ 80 → -6400 ≤ x * y ∧ x * y ≤ 6400 := fun x y g1 g2 g3 g4 => by
    have i1 := Int.mul_nonneg (show 0 ≤ 80 - x by omega) (show 0 ≤ 80 - y by omega)
    have i2 := Int.mul_nonneg (show 0 ≤ 80 + x by omega) (show 0 ≤ 80 + y by omega)
    have i3 := Int.mul_nonneg (show 0 ≤ 80 - x by omega) (show 0 ≤ 80 + y by omega)
    have i4 := Int.mul_nonneg (show 0 ≤ 80 + x by omega) (show 0 ≤ 80 - y by omega)
    have e1 : (80 - x) * (80 - y) = 6400 - 80 * x - 80 * y + x * y := by grind
    have e2 : (80 + x) * (80 + y) = 6400 + 80 * x + 80 * y + x * y := by grind
    have e3 : (80 - x) * (80 + y) = 6400 - 80 * x + 80 * y - x * y := by grind
    have e4 : (80 + x) * (80 - y) = 6400 + 80 * x - 80 * y - x * y := by grind
    omega
  have k1 := key (b.1 - a.1) (c.2 - a.2) (by omega) (by omega) (by omega) (by omega)
  have k2 := key (b.2 - a.2) (c.1 - a.1) (by omega) (by omega) (by omega) (by omega)
  unfold turnZ
  omega
theorem earArea_on {xs : List Pt} (hr : roomOk xs = true) {k : Nat} (hk : k < xs.length) (he : earM xs k = true) :
    earArea xs k = turnZ (pAt xs (prvN xs.length k)) (pAt xs k) (pAt xs (nxtN xs.length k)) ∧ 0 < earArea xs k ∧ earArea xs k ≤ 12800 := by
  have hp : prvN xs.length k < xs.length := prv_lt (by omega)
  have hn : nxtN xs.length k < xs.length := nxt_lt (by omega)
  have o : ∀ {j}, j < xs.length → ptOk (pAt xs j) = true := fun h => Geo.corner_ok hr h
  have e : earArea xs k = turnZ (pAt xs (prvN xs.length k)) (pAt xs k) (pAt xs (nxtN xs.length k)) := by
    unfold earArea
    rw [if_pos he, prv_int hk, nxt_int]
    show turn (pAt xs (prvN xs.length k : Int).toNat) (pAt xs (k : Int).toNat) (pAt xs (nxtN xs.length k : Int).toNat) = _
    rw [Int.toNat_natCast, Int.toNat_natCast, Int.toNat_natCast]
    exact turn_exact (bd_of_ok (o hp)) (bd_of_ok (o hk)) (bd_of_ok (o hn))
  have ht := Geo.ear_turn hr hk he
  rw [Geo.v_lt hp, Geo.v_lt hk, Geo.v_lt hn] at ht
  rw [e]
  exact ⟨rfl, ht, (turn_bd (o hp) (o hk) (o hn)).2⟩
def isReflM (xs : List Pt) (z : Int) : Bool := hasCor xs z && reflexM xs z.toNat
theorem ear_notrefl {xs : List Pt} (hr : roomOk xs = true) {k : Nat} (hk : k < xs.length) (he : earM xs k = true) : isReflM xs k = false := by
  have hl := room_len hr
  have hp : prvN xs.length k < xs.length := prv_lt (by omega)
  have hn : nxtN xs.length k < xs.length := nxt_lt (by omega)
  have o : ∀ {j}, j < xs.length → ptOk (pAt xs j) = true := fun h => Geo.corner_ok hr h
  have ht := Geo.ear_turn hr hk he
  rw [Geo.v_lt hp, Geo.v_lt hk, Geo.v_lt hn] at ht
  have : reflexM xs k = false := by
    unfold reflexM
    have e : turn (pCy xs (k + xs.length - 1)) (pAt xs k) (pCy xs (k + 1)) = turnZ (pAt xs (prvN xs.length k)) (pAt xs k) (pAt xs (nxtN xs.length k)) := turn_exact (bd_of_ok (o hp)) (bd_of_ok (o hk)) (bd_of_ok (o hn))
    rw [e]
    exact decide_eq_false (by omega)
  unfold isReflM
  rw [Int.toNat_natCast, this, Bool.and_false]
theorem str_area : ∀ (f : Nat) (l : List Pt), (∀ q ∈ l, Bd q) → (Geo.roomP (strRun f l)).area = (Geo.roomP l).area
  | 0, l, _ => rfl
  | f + 1, l, hb => by
    unfold strRun
    split
    · rfl
    · rename_i i hf
      unfold firstStr at hf
      split at hf
      · rename_i h2
        obtain ⟨hs, hi, -⟩ := List.find?_range_eq_some.1 hf
        have hi := List.mem_range.1 hi
        rw [str_area f _ fun q hq => hb q ((List.eraseIdx_sublist _ _).mem hq), Geo.area_erase h2 hi]
        have hs := of_decide_eq_true hs
        rw [turn_exact (pAt_bd hb (prv_lt (by omega))) (pAt_bd hb hi) (pAt_bd hb (nxt_lt (by omega)))] at hs
        omega
      · cases hf
theorem cutEar_on {xs : List Pt} (hr : roomOk xs = true) {k : Nat} (hk : k < xs.length) (he : earM xs k = true) (hok : (cutEarM xs k).2 = true) :
    dArea (cutEarM xs k).1 = dArea xs - earArea xs k ∧ (cutEarM xs k).1.length < xs.length := by
  have hl := room_len hr
  have hb := bd_of_room hr
  unfold cutEarM at hok ⊢
  split at hok
  · rename_i hc
    rw [if_pos hc]
    simp only [Bool.and_eq_true] at hc
    have hr2 := hc.2
    rw [Int.toNat_natCast] at hr2
    have hle := List.length_eraseIdx_of_lt hk
    refine ⟨?_, ?_⟩
    · show dArea (straightM (xs.eraseIdx (k : Int).toNat)) = _
      rw [Int.toNat_natCast, dArea_room hr2, dArea_room hr, (Geo.room_area hr2).1, (Geo.room_area hr).1, (earArea_on hr hk he).1]
      have e1 := str_area (xs.eraseIdx k).length (xs.eraseIdx k) fun q hq => hb q ((List.eraseIdx_sublist _ _).mem hq)
      have e2 := Geo.area_erase (by omega) hk
      unfold straightM
      rw [e1]
      omega
    · show (straightM (xs.eraseIdx (k : Int).toNat)).length < _
      rw [Int.toNat_natCast]
      have := straight_len (xs.eraseIdx k)
      omega
  · cases hok
def pairE (l : List Int) (n : Nat) (i k : Nat) : Bool := decide (gI l i - gI l k > 1) && decide (gI l i - gI l k < n - 1)
def rowA (l : List Int) (n i : Nat) (b : Bool) (k : Nat) : Bool := b || (List.range k).any (pairE l n i)
def outA (l : List Int) (n : Nat) (b : Bool) : Nat → Bool
  | 0 => b
  | i + 1 => rowA l n i (outA l n b i) i
theorem rowA_succ (l : List Int) (n i : Nat) (b : Bool) (k : Nat) : rowA l n i b (k + 1) = (rowA l n i b k || pairE l n i k) := by
  unfold rowA
  rw [List.range_succ, List.any_append, Bool.or_assoc]
  simp
theorem rowA_zero (l : List Int) (n i : Nat) (b : Bool) : rowA l n i b 0 = b := by unfold rowA; simp
theorem outA_keep {l : List Int} {n : Nat} {b : Bool} {i : Nat} : ∀ d, outA l n b i = true → outA l n b (i + d) = true
  | 0, h => h
  | d + 1, h => by
    show rowA l n (i + d) (outA l n b (i + d)) (i + d) = true
    unfold rowA
    rw [outA_keep d h]; rfl
theorem outA_pair {l : List Int} {n : Nat} {b : Bool} {i k m : Nat} (hk : k < i) (hi : i < m) (h : pairE l n i k = true) : outA l n b m = true := by
  have : outA l n b (i + 1) = true := by
    show rowA l n i _ i = true
    unfold rowA
    rw [Bool.or_eq_true]
    exact .inr (List.any_eq_true.2 ⟨k, List.mem_range.2 hk, h⟩)
  have := outA_keep (m - (i + 1)) this
  rwa [show i + 1 + (m - (i + 1)) = m by omega] at this
def startA (xs : List Pt) : Bool := decide ((xs.length : Int) = 3) && decide (((earsM xs).length : Int) = 3)
theorem ears_done {xs : List Pt} (hr : roomOk xs = true) : outA (earsM xs) xs.length (startA xs) (earsM xs).length = true := by
  have hl := room_len hr
  rcases (show xs.length = 3 ∨ 4 ≤ xs.length by omega) with h3 | h4
  · have hall : earsM xs = (List.range xs.length).map fun j : Nat => (j : Int) := by
      unfold earsM earsTo
      rw [List.filter_eq_self.2 fun k hk => (Geo.ear_nat hr (List.mem_range.1 hk)).2 (.inl h3)]
    have : startA xs = true := by
      unfold startA
      rw [hall, List.length_map, List.length_range, decide_eq_true (by omega)]; rfl
    have := outA_keep (l := earsM xs) (n := xs.length) (b := startA xs) (i := 0) (earsM xs).length this
    rwa [Nat.zero_add] at this
  · obtain ⟨a, b, hab, hb, d1, d2, ea, eb⟩ := Geo.ears_apart hr h4
    obtain ⟨k, hk, gk⟩ := ears_mem (by omega) ea
    obtain ⟨i, hi, gi⟩ := ears_mem hb eb
    have hki : k < i := by
      rcases Nat.lt_trichotomy k i with g | g | g
      · exact g
      · subst g; omega
      · have := List.pairwise_iff_getElem.1 (ears_inc xs) i k hi hk g
        rw [show (earsM xs)[i] = gI (earsM xs) i from (getD_lt _ hi).symm, show (earsM xs)[k] = gI (earsM xs) k from (getD_lt _ hk).symm] at this
        omega
    refine outA_pair hki hi ?_
    unfold pairE
    rw [gi, gk, decide_eq_true (by omega), decide_eq_true (by omega)]; rfl
def isReflC : Con := mkCon [.room, .int] (fun x => x.1.length ≤ 1048576) fun x => vB (isReflM x.1 x.2.1)
theorem isRefl_ok : Good1 Try.prog n_impl_IsReflex isReflC := by
  refine good_ofG (tys := tyL) (env := [(n_impl_hasCorner, hasCorC), (n_impl_reflex, reflexC)]) (envw := []) (envd := []) [] [] [] [] [] mixed tys ⟨hasCorner_ok, reflex_ok, trivial⟩ trivial trivial Try.func25 rfl (by kernel_rfl) (by decide) (by kernel_rfl) ?_
  have hG_ := kpz [(0, [1, 2]), (1, [4])] [] [] []
  rintro ⟨(xs : List Pt), (z : Int), ⟨⟩⟩ (h1 : xs.length ≤ _)
  have hc : hasCor xs z = true → roomOk xs = true ∧ ∃ k : Nat, z = k ∧ k < xs.length := fun h => by
    unfold hasCor at h
    simp only [Bool.and_eq_true] at h
    have := btw_iff.1 h.1
    exact ⟨h.2, z.toNat, by omega, by omega⟩
  (repeat' (first | (with_reducible first | exact True.intro | refine zQ ?_ | (refine zG hG_ ?_; intro K_ hK_) | (refine zR ?_; intro K_ hK_) | (refine hK_ _ _ ?_; try clear hK_ K_) | refine sq_n ?_ | refine sq_r ?_ | refine sq_e ?_ | refine bq_n ?_ | refine bq_r ?_ | refine bq_q ?_ | refine zB ?_ | refine zX ?_ | refine zT ?_ | refine zK ?_ | refine gq_n ?_ | refine gq_r ?_ | refine gq_e ?_ | refine lq_n ?_ | refine lq_r ?_ | refine lq_e ?_ | refine bq_e (by decide) ?_) | ((with_reducible refine zC (b := ?b_) ?hb_ ?_ ?_); case hb_ => rfl) | ((conv => whnf); first | (with_reducible refine hK_ _ _ ?_; try clear hK_ K_) | (with_reducible refine fun (g_ : Sl) (o_ : Ow) => ?_) | (with_reducible first | exact True.intro | refine And.intro trivial ?_ | refine And.intro ?_ ?_) | exact Nat.le_of_ble_eq_true rfl | exact Or.inl rfl | (intro h_; cases h_) | (intro h_; (try simp only [vS1] at h_)) | rfl))) <;> (try (conv => whnf)) <;> (try first | change (_ : Int) ≤ _ | change (_ : Nat) ≤ _) <;> (try ((fail_if_success (with_reducible apply Exists.intro)); (try dsimp only); (try simp only [vS1]))) <;> (try simp (disch := omega) only [vS3, Int.add_sub_cancel, tn1, tnp, tnc, vS2] at *)
  all_goals (try ((fail_if_success (with_reducible apply Exists.intro)); first | with_reducible assumption | omega))
  all_goals first
    | exact (hc (by assumption)).1
    | exact (hc (by assumption)).2
    | (unfold isReflM; simp_all; done)
    | skip
structure EarF (xs : List Pt) (l : List Int) : Prop where
  bd : ∀ {i}, i < l.length → 0 ≤ l.getD i (ElK.b ElB.int).dflt ∧ l.getD i (ElK.b ElB.int).dflt < xs.length
  sub : ∀ {i k}, k < i → i < l.length → IntKind.i64.wrap (l.getD i (ElK.b ElB.int).dflt - l.getD k (ElK.b ElB.int).dflt) = l.getD i (ElK.b ElB.int).dflt - l.getD k (ElK.b ElB.int).dflt
  one : IntKind.i64.wrap ((xs.length : Int) - 1) = (xs.length : Int) - 1
  refl : ∀ {i}, i < l.length → isReflM xs (l.getD i (ElK.b ElB.int).dflt) = false
  pos : ∀ {i}, i < l.length → 0 < earArea xs (l.getD i (ElK.b ElB.int).dflt)
  cut : ∀ {i}, i < l.length → (cutEarM xs (l.getD i (ElK.b ElB.int).dflt)).2 = true → dArea (cutEarM xs (l.getD i (ElK.b ElB.int).dflt)).1 = IntKind.i64.wrap (dArea xs - earArea xs (l.getD i (ElK.b ElB.int).dflt)) ∧ (cutEarM xs (l.getD i (ElK.b ElB.int).dflt)).1.length < xs.length
  len : ∀ {i}, i < l.length → (cutEarM xs (l.getD i (ElK.b ElB.int).dflt)).1.length ≤ 10
  done : outA l xs.length (startA xs) l.length = true
theorem earF {xs : List Pt} (hr : roomOk xs = true) : EarF xs (earsM xs) := by
  have hl := room_len hr
  have hda := dArea_room hr
  have hdb := (Geo.room_area hr).2.2
  have hdc := (Geo.room_area hr).2.1
  rw [← (Geo.room_area hr).1, ← hda] at hdb hdc
  have hev : ∀ i, i < (earsM xs).length → ∃ k : Nat, (earsM xs).getD i (ElK.b ElB.int).dflt = (k : Int) ∧ k < xs.length ∧ earM xs k = true := fun i hi => ears_at hi
  have bd : ∀ {i}, i < (earsM xs).length → 0 ≤ (earsM xs).getD i (ElK.b ElB.int).dflt ∧ (earsM xs).getD i (ElK.b ElB.int).dflt < xs.length := fun {i} hi => by
    obtain ⟨k, e, hk, he⟩ := hev i hi
    rw [e]; omega
  refine { bd := bd, sub := fun {i k} hk hi => ?_, one := W_in (by omega) (by omega), refl := fun {i} hi => ?_, pos := fun {i} hi => ?_, cut := fun {i} hi hc => ?_, len := fun {i} hi => ?_, done := ears_done hr }
  · have := bd hi
    have := bd (i := k) (by omega)
    exact W_in (by omega) (by omega)
  · obtain ⟨k, e, hk, he⟩ := hev i hi
    rw [e]; exact ear_notrefl hr hk he
  · obtain ⟨k, e, hk, he⟩ := hev i hi
    rw [e]; exact (earArea_on hr hk he).2.1
  · obtain ⟨k, e, hk, he⟩ := hev i hi
    rw [e] at hc ⊢
    obtain ⟨h1, h2, h3⟩ := earArea_on hr hk he
    obtain ⟨c1, c2⟩ := cutEar_on hr hk he hc
    exact ⟨by rw [c1, W_in (by omega) (by omega)], c2⟩
  · obtain ⟨k, e, hk, he⟩ := hev i hi
    rw [e]
    have := cutEar_len xs k
    omega
theorem fnEars_ok : Good1 Try.prog n_laws_FnEars (lawCon [.sl (.b .u8)]) := by
  refine good_ofG (tys := tyL) (env := [(n_laws_big, bigC), (n_spec_DrawRoom, drawRoomC), (n_impl_EarsOf, earsC), (n_impl_CutEar, cutEarC), (n_impl_DoubleArea, dAreaC), (n_impl_EarArea, earAreaC), (n_impl_IsReflex, isReflC)]) (envw := []) (envd := []) [] [9, 69, 70] [] [] [] mixed tys ⟨big_ok, drawRoom_ok, iEarsOf_ok, iCutEar_ok, dArea_ok, iEarArea_ok, isRefl_ok, trivial⟩ trivial trivial Try.func4 rfl (by kernel_rfl) (by decide) (by kernel_rfl) ?_
  have hG_ := kpz [(0, [0]), (1, [0, 12]), (2, [2]), (3, [3]), (4, [3, 4]), (5, [3, 4, 5]), (6, [3, 4, 5, 6]), (7, [3, 4, 5, 6, 7]), (8, [3, 4, 5, 6, 7, 30]), (9, [3, 4, 5, 6, 7]), (10, [3, 4, 5, 6, 7, 8]), (11, [3, 4, 5, 6, 7, 8, 35]), (12, [3, 4, 5, 6, 7, 8]), (13, [3, 4, 5, 6, 7, 8]), (14, [3, 4, 5, 6, 7, 9, 10]), (15, [3, 4, 5, 6, 7, 114]), (16, [2]), (17, [2])] [(3, [3]), (4, [3]), (5, [3]), (6, [3]), (7, [3]), (8, [3]), (9, [3]), (10, [3]), (11, [3]), (12, [3]), (13, [3]), (14, [3, 9]), (15, [3])] [] []
  rintro ⟨(bs : List Int), ⟨⟩⟩ ⟨(h0 : bs.length ≤ _), -⟩
  have hr := drawRoom_room bs
  have hl := room_len hr
  have hel : (earsM (drawRoomM bs)).length ≤ (drawRoomM bs).length := earsTo_len (drawRoomM bs) (drawRoomM bs).length
  have hF := earF hr
  (repeat' (first | (with_reducible first | exact True.intro | refine zQ ?_ | (refine zG hG_ ?_; intro K_ hK_) | (refine zR ?_; intro K_ hK_) | (refine hK_ _ _ ?_; try clear hK_ K_) | refine sq_n ?_ | refine sq_r ?_ | refine sq_e ?_ | refine bq_n ?_ | refine bq_r ?_ | refine bq_q ?_ | refine zB ?_ | refine zX ?_ | refine zT ?_ | refine zK ?_ | refine gq_n ?_ | refine gq_r ?_ | refine gq_e ?_ | refine lq_n ?_ | refine lq_r ?_ | refine lq_e ?_ | refine bq_e (by decide) ?_) | ((with_reducible refine zC (b := ?b_) ?hb_ ?_ ?_); case hb_ => rfl) | ((conv => whnf); first | (with_reducible refine hK_ _ _ ?_; try clear hK_ K_) | (with_reducible refine fun (g_ : Sl) (o_ : Ow) => ?_) | (with_reducible first | exact True.intro | refine And.intro trivial ?_ | refine And.intro ?_ ?_) | exact Nat.le_of_ble_eq_true rfl | exact Or.inl rfl | (intro h_; cases h_) | (intro h_; (try simp only [vS1] at h_)) | rfl))) <;> (try (conv => whnf)) <;> (try first | change (_ : Int) ≤ _ | change (_ : Nat) ≤ _) <;> (try ((fail_if_success (with_reducible apply Exists.intro)); (try dsimp only); (try simp only [vS1]))) <;> (try simp (disch := omega) only [vS3, Int.add_sub_cancel, tn1, tnp, tnc, vS2] at *)
  all_goals (try ((fail_if_success (with_reducible apply Exists.intro)); first | with_reducible assumption | omega))
  all_goals generalize drawRoomM bs = xs at *
  ·
    refine awp'_loopG (α := Nat) (fun i ver_ => [(6, vBool (outA (earsM xs) xs.length (startA xs) i)), (7, vInt i)]) (fun i ver_ => []) (fun i ver_ => [(9, ⟨ver_ 9, .dead⟩)]) (fun i => i ≤ (earsM xs).length) (fun i => (earsM xs).length - i) [3, 4, 5] [3] (0) ?_
    conv => whnf
    refine ⟨⟨?inv1_, ?vals1_, ?own1_, ?fix1_⟩, ?body1_⟩
    case' vals1_ => (repeat' (first | (with_reducible first | exact True.intro | refine And.intro ?_ ?_ | refine Head.mk ?_ ?_ ?_ ?_) | ((conv => lhs; whnf); first | (with_reducible first | rfl | exact vInt_s (by omega)) | exact rfl) | ((conv => whnf); first | (with_reducible first | exact True.intro | refine And.intro ?_ ?_)))) <;> (try (conv => lhs; whnf))
    case' own1_ => (repeat' (first | (with_reducible first | exact True.intro | refine And.intro ?_ ?_ | refine Head.mk ?_ ?_ ?_ ?_) | ((conv => lhs; whnf); first | (with_reducible first | rfl | exact vInt_s (by omega)) | exact rfl) | ((conv => whnf); first | (with_reducible first | exact True.intro | refine And.intro ?_ ?_)))) <;> (try (conv => lhs; whnf))
    case' fix1_ => (repeat' (first | (with_reducible first | exact True.intro | refine And.intro ?_ ?_ | refine Head.mk ?_ ?_ ?_ ?_) | ((conv => lhs; whnf); first | (with_reducible first | rfl | exact vInt_s (by omega)) | exact rfl) | ((conv => whnf); first | (with_reducible first | exact True.intro | refine And.intro ?_ ?_)))) <;> (try (conv => lhs; whnf))
    · refine congrArg vBool ?_; show _ = startA xs; unfold startA; rw [‹(xs.length : Int) = 3›]; rfl
    · exact Nat.zero_le _
    rintro i g_ o_ v_ hi
    (repeat' (first | (with_reducible first | exact True.intro | refine zQ ?_ | (refine zG hG_ ?_; intro K_ hK_) | (refine zR ?_; intro K_ hK_) | (refine hK_ _ _ ?_; try clear hK_ K_) | refine sq_n ?_ | refine sq_r ?_ | refine sq_e ?_ | refine bq_n ?_ | refine bq_r ?_ | refine bq_q ?_ | refine zB ?_ | refine zX ?_ | refine zT ?_ | refine zK ?_ | refine gq_n ?_ | refine gq_r ?_ | refine gq_e ?_ | refine lq_n ?_ | refine lq_r ?_ | refine lq_e ?_ | refine bq_e (by decide) ?_) | ((with_reducible refine zC (b := ?b_) ?hb_ ?_ ?_); case hb_ => rfl) | ((conv => whnf); first | (with_reducible refine hK_ _ _ ?_; try clear hK_ K_) | (with_reducible refine fun (g_ : Sl) (o_ : Ow) => ?_) | (with_reducible first | exact True.intro | refine And.intro trivial ?_ | refine And.intro ?_ ?_) | exact Nat.le_of_ble_eq_true rfl | exact Or.inl rfl | (intro h_; cases h_) | (intro h_; (try simp only [vS1] at h_)) | rfl))) <;> (try (conv => whnf)) <;> (try first | change (_ : Int) ≤ _ | change (_ : Nat) ≤ _) <;> (try ((fail_if_success (with_reducible apply Exists.intro)); (try dsimp only); (try simp only [vS1]))) <;> (try simp (disch := omega) only [vS3, Int.add_sub_cancel, tn1, tnp, tnc, vS2] at *)
    all_goals (try ((fail_if_success (with_reducible apply Exists.intro)); first | with_reducible assumption | omega))
    ·
      refine awp'_loopG (α := Nat) (fun k ver_ => [(6, vBool (rowA (earsM xs) xs.length i (outA (earsM xs) xs.length (startA xs) i) k)), (7, vInt i), (8, vInt k)]) (fun k ver_ => []) (fun k ver_ => [(9, ⟨ver_ 9, .dead⟩)]) (fun k => k ≤ i) (fun k => i - k) [3, 4, 5] [3] (0) ?_
      conv => whnf
      refine ⟨⟨?inv2_, ?vals2_, ?own2_, ?fix2_⟩, ?body2_⟩
      case' vals2_ => (repeat' (first | (with_reducible first | exact True.intro | refine And.intro ?_ ?_ | refine Head.mk ?_ ?_ ?_ ?_) | ((conv => lhs; whnf); first | (with_reducible first | rfl | exact vInt_s (by omega)) | exact rfl) | ((conv => whnf); first | (with_reducible first | exact True.intro | refine And.intro ?_ ?_)))) <;> (try (conv => lhs; whnf))
      case' own2_ => (repeat' (first | (with_reducible first | exact True.intro | refine And.intro ?_ ?_ | refine Head.mk ?_ ?_ ?_ ?_) | ((conv => lhs; whnf); first | (with_reducible first | rfl | exact vInt_s (by omega)) | exact rfl) | ((conv => whnf); first | (with_reducible first | exact True.intro | refine And.intro ?_ ?_)))) <;> (try (conv => lhs; whnf))
      case' fix2_ => (repeat' (first | (with_reducible first | exact True.intro | refine And.intro ?_ ?_ | refine Head.mk ?_ ?_ ?_ ?_) | ((conv => lhs; whnf); first | (with_reducible first | rfl | exact vInt_s (by omega)) | exact rfl) | ((conv => whnf); first | (with_reducible first | exact True.intro | refine And.intro ?_ ?_)))) <;> (try (conv => lhs; whnf))
      · exact congrArg vBool (rowA_zero _ _ _ _).symm
      · exact Nat.zero_le _
      rintro k g_ o_ v_ hk
      have hii : i < (earsM xs).length := by assumption
      have hcl := hF.len hii
      (repeat' (first | (with_reducible first | exact True.intro | refine zQ ?_ | (refine zG hG_ ?_; intro K_ hK_) | (refine zR ?_; intro K_ hK_) | (refine hK_ _ _ ?_; try clear hK_ K_) | refine sq_n ?_ | refine sq_r ?_ | refine sq_e ?_ | refine bq_n ?_ | refine bq_r ?_ | refine bq_q ?_ | refine zB ?_ | refine zX ?_ | refine zT ?_ | refine zK ?_ | refine gq_n ?_ | refine gq_r ?_ | refine gq_e ?_ | refine lq_n ?_ | refine lq_r ?_ | refine lq_e ?_ | refine bq_e (by decide) ?_) | ((with_reducible refine zC (b := ?b_) ?hb_ ?_ ?_); case hb_ => rfl) | ((conv => whnf); first | (with_reducible refine hK_ _ _ ?_; try clear hK_ K_) | (with_reducible refine fun (g_ : Sl) (o_ : Ow) => ?_) | (with_reducible first | exact True.intro | refine And.intro trivial ?_ | refine And.intro ?_ ?_) | exact Nat.le_of_ble_eq_true rfl | exact Or.inl rfl | (intro h_; cases h_) | (intro h_; (try simp only [vS1] at h_)) | rfl))) <;> (try (conv => whnf)) <;> (try first | change (_ : Int) ≤ _ | change (_ : Nat) ≤ _) <;> (try ((fail_if_success (with_reducible apply Exists.intro)); (try dsimp only); (try simp only [vS1]))) <;> (try simp (disch := omega) only [vS3, Int.add_sub_cancel, tn1, tnp, tnc, vS2] at *)
      all_goals (try ((fail_if_success (with_reducible apply Exists.intro)); first | with_reducible assumption | omega))
      · refine ⟨k + 1, by omega, by omega, ?_⟩
        (repeat' (first | (with_reducible first | exact True.intro | refine And.intro ?_ ?_ | refine Head.mk ?_ ?_ ?_ ?_) | ((conv => lhs; whnf); first | (with_reducible first | rfl | exact vInt_s (by omega)) | exact rfl) | ((conv => whnf); first | (with_reducible first | exact True.intro | refine And.intro ?_ ?_)))) <;> (try (conv => lhs; whnf))
        exact congrArg vBool (by rw [rowA_succ, ‹rowA _ _ _ _ k = true›]; rfl)
      · refine ⟨k + 1, by omega, by omega, ?_⟩
        (repeat' (first | (with_reducible first | exact True.intro | refine And.intro ?_ ?_ | refine Head.mk ?_ ?_ ?_ ?_) | ((conv => lhs; whnf); first | (with_reducible first | rfl | exact vInt_s (by omega)) | exact rfl) | ((conv => whnf); first | (with_reducible first | exact True.intro | refine And.intro ?_ ?_)))) <;> (try (conv => lhs; whnf))
        have hw := hF.sub ‹k < i› hii
        have hgt := ‹IntKind.i64.wrap _ > 1›
        rw [hw] at hgt
        refine congrArg vBool ?_
        rw [rowA_succ, ‹rowA _ _ _ _ k = false›, Bool.false_or]
        unfold pairE
        rw [decide_eq_true (show gI (earsM xs) i - gI (earsM xs) k > 1 from hgt), Bool.true_and, hw]
      · refine ⟨k + 1, by omega, by omega, ?_⟩
        (repeat' (first | (with_reducible first | exact True.intro | refine And.intro ?_ ?_ | refine Head.mk ?_ ?_ ?_ ?_) | ((conv => lhs; whnf); first | (with_reducible first | rfl | exact vInt_s (by omega)) | exact rfl) | ((conv => whnf); first | (with_reducible first | exact True.intro | refine And.intro ?_ ?_)))) <;> (try (conv => lhs; whnf))
        have hw := hF.sub ‹k < i› hii
        have hgt := ‹¬ IntKind.i64.wrap _ > 1›
        rw [hw] at hgt
        refine congrArg vBool ?_
        rw [rowA_succ, ‹rowA _ _ _ _ k = false›, Bool.false_or]
        unfold pairE
        rw [decide_eq_false (show ¬ gI (earsM xs) i - gI (earsM xs) k > 1 from hgt), Bool.false_and]
      · exact absurd (hF.cut hii (by assumption)).1 h_
      · have := (hF.cut hii (by assumption)).2
        omega
      · have := hF.pos hii
        omega
      · exact absurd ((hF.refl hii).symm.trans ‹isReflM _ _ = true›) (by decide)
      · refine ⟨i + 1, by omega, by omega, ?_⟩
        (repeat' (first | (with_reducible first | exact True.intro | refine And.intro ?_ ?_ | refine Head.mk ?_ ?_ ?_ ?_) | ((conv => lhs; whnf); first | (with_reducible first | rfl | exact vInt_s (by omega)) | exact rfl) | ((conv => whnf); first | (with_reducible first | exact True.intro | refine And.intro ?_ ?_)))) <;> (try (conv => lhs; whnf))
        exact congrArg vBool (by rw [show k = i by omega]; rfl)
      · have := hF.pos hii
        omega
      · exact absurd ((hF.refl hii).symm.trans ‹isReflM _ _ = true›) (by decide)
      · refine ⟨i + 1, by omega, by omega, ?_⟩
        (repeat' (first | (with_reducible first | exact True.intro | refine And.intro ?_ ?_ | refine Head.mk ?_ ?_ ?_ ?_) | ((conv => lhs; whnf); first | (with_reducible first | rfl | exact vInt_s (by omega)) | exact rfl) | ((conv => whnf); first | (with_reducible first | exact True.intro | refine And.intro ?_ ?_)))) <;> (try (conv => lhs; whnf))
        exact congrArg vBool (by rw [show k = i by omega]; rfl)
    · rw [show i = (earsM xs).length by omega]
      exact hF.done
  ·
    refine awp'_loopG (α := Nat) (fun i ver_ => [(6, vBool (outA (earsM xs) xs.length (startA xs) i)), (7, vInt i)]) (fun i ver_ => []) (fun i ver_ => [(9, ⟨ver_ 9, .dead⟩)]) (fun i => i ≤ (earsM xs).length) (fun i => (earsM xs).length - i) [3, 4, 5] [3] (0) ?_
    conv => whnf
    refine ⟨⟨?inv3_, ?vals3_, ?own3_, ?fix3_⟩, ?body3_⟩
    case' vals3_ => (repeat' (first | (with_reducible first | exact True.intro | refine And.intro ?_ ?_ | refine Head.mk ?_ ?_ ?_ ?_) | ((conv => lhs; whnf); first | (with_reducible first | rfl | exact vInt_s (by omega)) | exact rfl) | ((conv => whnf); first | (with_reducible first | exact True.intro | refine And.intro ?_ ?_)))) <;> (try (conv => lhs; whnf))
    case' own3_ => (repeat' (first | (with_reducible first | exact True.intro | refine And.intro ?_ ?_ | refine Head.mk ?_ ?_ ?_ ?_) | ((conv => lhs; whnf); first | (with_reducible first | rfl | exact vInt_s (by omega)) | exact rfl) | ((conv => whnf); first | (with_reducible first | exact True.intro | refine And.intro ?_ ?_)))) <;> (try (conv => lhs; whnf))
    case' fix3_ => (repeat' (first | (with_reducible first | exact True.intro | refine And.intro ?_ ?_ | refine Head.mk ?_ ?_ ?_ ?_) | ((conv => lhs; whnf); first | (with_reducible first | rfl | exact vInt_s (by omega)) | exact rfl) | ((conv => whnf); first | (with_reducible first | exact True.intro | refine And.intro ?_ ?_)))) <;> (try (conv => lhs; whnf))
    · refine congrArg vBool ?_; show _ = startA xs; unfold startA; rw [decide_eq_false ‹_›]; rfl
    · exact Nat.zero_le _
    rintro i g_ o_ v_ hi
    (repeat' (first | (with_reducible first | exact True.intro | refine zQ ?_ | (refine zG hG_ ?_; intro K_ hK_) | (refine zR ?_; intro K_ hK_) | (refine hK_ _ _ ?_; try clear hK_ K_) | refine sq_n ?_ | refine sq_r ?_ | refine sq_e ?_ | refine bq_n ?_ | refine bq_r ?_ | refine bq_q ?_ | refine zB ?_ | refine zX ?_ | refine zT ?_ | refine zK ?_ | refine gq_n ?_ | refine gq_r ?_ | refine gq_e ?_ | refine lq_n ?_ | refine lq_r ?_ | refine lq_e ?_ | refine bq_e (by decide) ?_) | ((with_reducible refine zC (b := ?b_) ?hb_ ?_ ?_); case hb_ => rfl) | ((conv => whnf); first | (with_reducible refine hK_ _ _ ?_; try clear hK_ K_) | (with_reducible refine fun (g_ : Sl) (o_ : Ow) => ?_) | (with_reducible first | exact True.intro | refine And.intro trivial ?_ | refine And.intro ?_ ?_) | exact Nat.le_of_ble_eq_true rfl | exact Or.inl rfl | (intro h_; cases h_) | (intro h_; (try simp only [vS1] at h_)) | rfl))) <;> (try (conv => whnf)) <;> (try first | change (_ : Int) ≤ _ | change (_ : Nat) ≤ _) <;> (try ((fail_if_success (with_reducible apply Exists.intro)); (try dsimp only); (try simp only [vS1]))) <;> (try simp (disch := omega) only [vS3, Int.add_sub_cancel, tn1, tnp, tnc, vS2] at *)
    all_goals (try ((fail_if_success (with_reducible apply Exists.intro)); first | with_reducible assumption | omega))
    ·
      refine awp'_loopG (α := Nat) (fun k ver_ => [(6, vBool (rowA (earsM xs) xs.length i (outA (earsM xs) xs.length (startA xs) i) k)), (7, vInt i), (8, vInt k)]) (fun k ver_ => []) (fun k ver_ => [(9, ⟨ver_ 9, .dead⟩)]) (fun k => k ≤ i) (fun k => i - k) [3, 4, 5] [3] (0) ?_
      conv => whnf
      refine ⟨⟨?inv4_, ?vals4_, ?own4_, ?fix4_⟩, ?body4_⟩
      case' vals4_ => (repeat' (first | (with_reducible first | exact True.intro | refine And.intro ?_ ?_ | refine Head.mk ?_ ?_ ?_ ?_) | ((conv => lhs; whnf); first | (with_reducible first | rfl | exact vInt_s (by omega)) | exact rfl) | ((conv => whnf); first | (with_reducible first | exact True.intro | refine And.intro ?_ ?_)))) <;> (try (conv => lhs; whnf))
      case' own4_ => (repeat' (first | (with_reducible first | exact True.intro | refine And.intro ?_ ?_ | refine Head.mk ?_ ?_ ?_ ?_) | ((conv => lhs; whnf); first | (with_reducible first | rfl | exact vInt_s (by omega)) | exact rfl) | ((conv => whnf); first | (with_reducible first | exact True.intro | refine And.intro ?_ ?_)))) <;> (try (conv => lhs; whnf))
      case' fix4_ => (repeat' (first | (with_reducible first | exact True.intro | refine And.intro ?_ ?_ | refine Head.mk ?_ ?_ ?_ ?_) | ((conv => lhs; whnf); first | (with_reducible first | rfl | exact vInt_s (by omega)) | exact rfl) | ((conv => whnf); first | (with_reducible first | exact True.intro | refine And.intro ?_ ?_)))) <;> (try (conv => lhs; whnf))
      · exact congrArg vBool (rowA_zero _ _ _ _).symm
      · exact Nat.zero_le _
      rintro k g_ o_ v_ hk
      have hii : i < (earsM xs).length := by assumption
      have hcl := hF.len hii
      (repeat' (first | (with_reducible first | exact True.intro | refine zQ ?_ | (refine zG hG_ ?_; intro K_ hK_) | (refine zR ?_; intro K_ hK_) | (refine hK_ _ _ ?_; try clear hK_ K_) | refine sq_n ?_ | refine sq_r ?_ | refine sq_e ?_ | refine bq_n ?_ | refine bq_r ?_ | refine bq_q ?_ | refine zB ?_ | refine zX ?_ | refine zT ?_ | refine zK ?_ | refine gq_n ?_ | refine gq_r ?_ | refine gq_e ?_ | refine lq_n ?_ | refine lq_r ?_ | refine lq_e ?_ | refine bq_e (by decide) ?_) | ((with_reducible refine zC (b := ?b_) ?hb_ ?_ ?_); case hb_ => rfl) | ((conv => whnf); first | (with_reducible refine hK_ _ _ ?_; try clear hK_ K_) | (with_reducible refine fun (g_ : Sl) (o_ : Ow) => ?_) | (with_reducible first | exact True.intro | refine And.intro trivial ?_ | refine And.intro ?_ ?_) | exact Nat.le_of_ble_eq_true rfl | exact Or.inl rfl | (intro h_; cases h_) | (intro h_; (try simp only [vS1] at h_)) | rfl))) <;> (try (conv => whnf)) <;> (try first | change (_ : Int) ≤ _ | change (_ : Nat) ≤ _) <;> (try ((fail_if_success (with_reducible apply Exists.intro)); (try dsimp only); (try simp only [vS1]))) <;> (try simp (disch := omega) only [vS3, Int.add_sub_cancel, tn1, tnp, tnc, vS2] at *)
      all_goals (try ((fail_if_success (with_reducible apply Exists.intro)); first | with_reducible assumption | omega))
      · refine ⟨k + 1, by omega, by omega, ?_⟩
        (repeat' (first | (with_reducible first | exact True.intro | refine And.intro ?_ ?_ | refine Head.mk ?_ ?_ ?_ ?_) | ((conv => lhs; whnf); first | (with_reducible first | rfl | exact vInt_s (by omega)) | exact rfl) | ((conv => whnf); first | (with_reducible first | exact True.intro | refine And.intro ?_ ?_)))) <;> (try (conv => lhs; whnf))
        exact congrArg vBool (by rw [rowA_succ, ‹rowA _ _ _ _ k = true›]; rfl)
      · refine ⟨k + 1, by omega, by omega, ?_⟩
        (repeat' (first | (with_reducible first | exact True.intro | refine And.intro ?_ ?_ | refine Head.mk ?_ ?_ ?_ ?_) | ((conv => lhs; whnf); first | (with_reducible first | rfl | exact vInt_s (by omega)) | exact rfl) | ((conv => whnf); first | (with_reducible first | exact True.intro | refine And.intro ?_ ?_)))) <;> (try (conv => lhs; whnf))
        have hw := hF.sub ‹k < i› hii
        have hgt := ‹IntKind.i64.wrap _ > 1›
        rw [hw] at hgt
        refine congrArg vBool ?_
        rw [rowA_succ, ‹rowA _ _ _ _ k = false›, Bool.false_or]
        unfold pairE
        rw [decide_eq_true (show gI (earsM xs) i - gI (earsM xs) k > 1 from hgt), Bool.true_and, hw]
      · refine ⟨k + 1, by omega, by omega, ?_⟩
        (repeat' (first | (with_reducible first | exact True.intro | refine And.intro ?_ ?_ | refine Head.mk ?_ ?_ ?_ ?_) | ((conv => lhs; whnf); first | (with_reducible first | rfl | exact vInt_s (by omega)) | exact rfl) | ((conv => whnf); first | (with_reducible first | exact True.intro | refine And.intro ?_ ?_)))) <;> (try (conv => lhs; whnf))
        have hw := hF.sub ‹k < i› hii
        have hgt := ‹¬ IntKind.i64.wrap _ > 1›
        rw [hw] at hgt
        refine congrArg vBool ?_
        rw [rowA_succ, ‹rowA _ _ _ _ k = false›, Bool.false_or]
        unfold pairE
        rw [decide_eq_false (show ¬ gI (earsM xs) i - gI (earsM xs) k > 1 from hgt), Bool.false_and]
      · exact absurd (hF.cut hii (by assumption)).1 h_
      · have := (hF.cut hii (by assumption)).2
        omega
      · have := hF.pos hii
        omega
      · exact absurd ((hF.refl hii).symm.trans ‹isReflM _ _ = true›) (by decide)
      · refine ⟨i + 1, by omega, by omega, ?_⟩
        (repeat' (first | (with_reducible first | exact True.intro | refine And.intro ?_ ?_ | refine Head.mk ?_ ?_ ?_ ?_) | ((conv => lhs; whnf); first | (with_reducible first | rfl | exact vInt_s (by omega)) | exact rfl) | ((conv => whnf); first | (with_reducible first | exact True.intro | refine And.intro ?_ ?_)))) <;> (try (conv => lhs; whnf))
        exact congrArg vBool (by rw [show k = i by omega]; rfl)
      · have := hF.pos hii
        omega
      · exact absurd ((hF.refl hii).symm.trans ‹isReflM _ _ = true›) (by decide)
      · refine ⟨i + 1, by omega, by omega, ?_⟩
        (repeat' (first | (with_reducible first | exact True.intro | refine And.intro ?_ ?_ | refine Head.mk ?_ ?_ ?_ ?_) | ((conv => lhs; whnf); first | (with_reducible first | rfl | exact vInt_s (by omega)) | exact rfl) | ((conv => whnf); first | (with_reducible first | exact True.intro | refine And.intro ?_ ?_)))) <;> (try (conv => lhs; whnf))
        exact congrArg vBool (by rw [show k = i by omega]; rfl)
    · rw [show i = (earsM xs).length by omega]
      exact hF.done
end Go.Proofs.Ytnepfcnlngpchaa
