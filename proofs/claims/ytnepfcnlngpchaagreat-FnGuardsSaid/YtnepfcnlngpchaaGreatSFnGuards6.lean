/- What the proof of 'FnGuards' needs, part 6: conditions and steps of the functions that it reaches, and the mathematics. -/
import Derived.Test.YtnepfcnlngpchaaGreatRows
import Derived.WalkKit
import Derived.WalkSpells
import Derived.Below
import Derived.Orders
import Derived.Maps.AppendAt
import Derived.Laws.StructEq
import Derived.WideShapes
import Derived.ChangeSlices
import Derived.Deep.Strs
import Derived.ChangeOld
import Derived.Shelf.SlLaysF0
import Derived.Shelf.SlSortCmp.InsertionK
import Derived.Shelf.SlSortCmp.SmallK
import Derived.Shelf.SlSortCmp.Xorshift
import Derived.Sort.LotA
import Derived.Shelf.Slices.Delete
import Derived.Shelf.Sort.Plain
import Derived.Test.YtnepfcnlngpchaaGreatSFnGuards5
set_option linter.unusedSimpArgs false
set_option linter.unusedVariables false
namespace Go.Proofs.YtnepfcnlngpchaaGreat
open Go.RowKit Go.Proofs.YtnepfcnlngpchaaGreat.Nm
set_option maxRecDepth 10000
def cornersB (xs : List Pt) (a b : Pt) : List Pt := distSort a (cutsOf xs a b)
theorem filter_len_le {xs : List Pt} {f : Pt → Bool} {n : Nat} (h : xs.length ≤ n) (k : Nat) : ((xs.take k).filter f).length ≤ n := Nat.le_trans (List.length_filter_le _ _) (by rw [List.length_take]; omega)
def cornersBC : Con := mkCon [.room, .pt, .pt] (fun x => x.1.length ≤ 10) fun x => ptRow (cornersB x.1 x.2.1 x.2.2.1)
theorem cornersBetween_ok : Good1 Tryz.prog n_impl_cornersBetween cornersBC := by
 refine good_ofG (tys := tyL) (env := [(n_impl_on, onC)]) (envw := [(n_slices_SortFunc_impl_Point, sortC)]) (envd := []) [12, 41] [] [] [] [] mixed tys ⟨on_ok, trivial⟩ ⟨sortFunc_ok, trivial⟩ trivial Tryz.func78 rfl (by kernel_rfl) (by decide) (by kernel_rfl) ?_
 have hG_ := kpz [(0, [3, 4, 5]), (1, [3, 4, 5, 7]), (2, [4, 5, 7, 14, 15, 16]), (3, [4, 5, 7, 14, 15, 16, 17]), (4, [4, 5, 7, 9, 14, 15, 16]), (5, [4, 5, 7, 9, 14, 15, 16, 33]), (6, [4, 5, 7, 14, 15, 16]), (7, [4, 5, 7, 14, 15, 16]), (8, [7]), (9, [6])] [(1, [12]), (2, [12]), (3, [12]), (4, [9, 12]), (5, [9, 12]), (6, [12]), (7, [12]), (8, [12]), (9, [12])] [] []
 rintro ⟨(xs : List Pt), ⟨(ax : Int), (ay : Int)⟩, ⟨(bx : Int), (b_y : Int)⟩, ⟨⟩⟩ (h1 : xs.length ≤ _)
 (repeat' (first | (with_reducible first | exact True.intro | refine zQ ?_ | (refine zG hG_ ?_; intro K_ hK_) | (refine zR ?_; intro K_ hK_) | (refine hK_ _ _ ?_; try clear hK_ K_) | refine sq_n ?_ | refine sq_r ?_ | refine sq_e ?_ | refine bq_n ?_ | refine bq_r ?_ | refine bq_q ?_ | refine zB ?_ | refine zX ?_ | refine zT ?_ | refine zK ?_ | refine gq_n ?_ | refine gq_r ?_ | refine gq_e ?_ | refine lq_n ?_ | refine lq_r ?_ | refine lq_e ?_ | refine bq_e (by decide) ?_) | ((with_reducible refine zC (b := ?b_) ?hb_ ?_ ?_); case hb_ => rfl) | ((conv => whnf); first | (with_reducible refine hK_ _ _ ?_; try clear hK_ K_) | (with_reducible refine fun (g_ : Sl) (o_ : Ow) => ?_) | (with_reducible first | exact True.intro | refine And.intro trivial ?_ | refine And.intro ?_ ?_) | exact Nat.le_of_ble_eq_true rfl | exact Or.inl rfl | (intro h_; cases h_) | (intro h_; (try simp only [vS1] at h_)) | rfl))) <;> (try (conv => whnf)) <;> (try first | change (_ : Int) ≤ _ | change (_ : Nat) ≤ _) <;> (try ((fail_if_success (with_reducible apply Exists.intro)); (try dsimp only); (try simp only [vS1]))) <;> (try simp (disch := omega) only [vS3, vS2] at *)
 all_goals (try (fail_if_success (with_reducible apply Exists.intro)); first | with_reducible assumption | omega | exact mdl (by omega) | exact ilo1 (by omega) | exact ilo2 (by omega) | exact ihi1 (by omega) (by omega) | exact ihi2 (by omega) (by omega))
 refine awp'_loopG (α := Nat) (fun k ver_ => [(16, vInt k)]) (fun k ver_ => [(7, 12, false, .row t_impl_Point (.b .pt) ([(ax, ay), (bx, b_y)] ++ (xs.take k).filter (amid (ax, ay) (bx, b_y))))]) (fun k ver_ => []) (fun k => k ≤ xs.length) (fun k => xs.length - k) [4, 5, 14, 15] [] (0) ?_
 conv => whnf
 refine ⟨⟨?inv1_, ?vals1_, ?own1_, ?fix1_⟩, ?body1_⟩
 case' vals1_ => (repeat' (first | (with_reducible first | exact True.intro | refine And.intro ?_ ?_ | refine Head.mk ?_ ?_ ?_ ?_) | ((conv => lhs; whnf); first | (with_reducible first | rfl | exact vInt_s (by omega)) | exact rfl) | ((conv => whnf); first | (with_reducible first | exact True.intro | refine And.intro ?_ ?_)))) <;> (try (conv => lhs; whnf))
 case' own1_ => (repeat' (first | (with_reducible first | exact True.intro | refine And.intro ?_ ?_ | refine Head.mk ?_ ?_ ?_ ?_) | ((conv => lhs; whnf); first | (with_reducible first | rfl | exact vInt_s (by omega)) | exact rfl) | ((conv => whnf); first | (with_reducible first | exact True.intro | refine And.intro ?_ ?_)))) <;> (try (conv => lhs; whnf))
 case' fix1_ => (repeat' (first | (with_reducible first | exact True.intro | refine And.intro ?_ ?_ | refine Head.mk ?_ ?_ ?_ ?_) | ((conv => lhs; whnf); first | (with_reducible first | rfl | exact vInt_s (by omega)) | exact rfl) | ((conv => whnf); first | (with_reducible first | exact True.intro | refine And.intro ?_ ?_)))) <;> (try (conv => lhs; whnf))
 ·exact Nat.zero_le _
 rintro k g_ o_ v_ hk
 have hl := filter_len_le (f := amid (ax, ay) (bx, b_y)) h1 k
 (repeat' (first | (with_reducible first | exact True.intro | refine zQ ?_ | (refine zG hG_ ?_; intro K_ hK_) | (refine zR ?_; intro K_ hK_) | (refine hK_ _ _ ?_; try clear hK_ K_) | refine sq_n ?_ | refine sq_r ?_ | refine sq_e ?_ | refine bq_n ?_ | refine bq_r ?_ | refine bq_q ?_ | refine zB ?_ | refine zX ?_ | refine zT ?_ | refine zK ?_ | refine gq_n ?_ | refine gq_r ?_ | refine gq_e ?_ | refine lq_n ?_ | refine lq_r ?_ | refine lq_e ?_ | refine bq_e (by decide) ?_) | ((with_reducible refine zC (b := ?b_) ?hb_ ?_ ?_); case hb_ => rfl) | ((conv => whnf); first | (with_reducible refine hK_ _ _ ?_; try clear hK_ K_) | (with_reducible refine fun (g_ : Sl) (o_ : Ow) => ?_) | (with_reducible first | exact True.intro | refine And.intro trivial ?_ | refine And.intro ?_ ?_) | exact Nat.le_of_ble_eq_true rfl | exact Or.inl rfl | (intro h_; cases h_) | (intro h_; (try simp only [vS1] at h_)) | rfl))) <;> (try (conv => whnf)) <;> (try first | change (_ : Int) ≤ _ | change (_ : Nat) ≤ _) <;> (try ((fail_if_success (with_reducible apply Exists.intro)); (try dsimp only); (try simp only [vS1]))) <;> (try simp (disch := omega) only [vS3, vS2] at *)
 all_goals (try (fail_if_success (with_reducible apply Exists.intro)); first | with_reducible assumption | omega | exact mdl (by omega) | exact ilo1 (by omega) | exact ilo2 (by omega) | exact ihi1 (by omega) (by omega) | exact ihi2 (by omega) (by omega))
 ·refine ⟨k + 1, by omega, by omega, ?_⟩
  (repeat' (first | (with_reducible first | exact True.intro | refine And.intro ?_ ?_ | refine Head.mk ?_ ?_ ?_ ?_) | ((conv => lhs; whnf); first | (with_reducible first | rfl | exact vInt_s (by omega)) | exact rfl) | ((conv => whnf); first | (with_reducible first | exact True.intro | refine And.intro ?_ ?_)))) <;> (try (conv => lhs; whnf))
  refine congrArg (Own.row _ _) ?_
  rw [filter_take_succ _ (0, 0) ‹k < xs.length›, if_pos (amid_yes ‹_› ‹_› ‹_›), List.append_assoc]
 ·refine ⟨k + 1, by omega, by omega, ?_⟩
  (repeat' (first | (with_reducible first | exact True.intro | refine And.intro ?_ ?_ | refine Head.mk ?_ ?_ ?_ ?_) | ((conv => lhs; whnf); first | (with_reducible first | rfl | exact vInt_s (by omega)) | exact rfl) | ((conv => whnf); first | (with_reducible first | exact True.intro | refine And.intro ?_ ?_)))) <;> (try (conv => lhs; whnf))
  refine congrArg (Own.row _ _) ?_
  rw [filter_take_succ _ (0, 0) ‹k < xs.length›, if_neg (by unfold amid; simp_all), List.append_nil]
 ·refine ⟨k + 1, by omega, by omega, ?_⟩
  (repeat' (first | (with_reducible first | exact True.intro | refine And.intro ?_ ?_ | refine Head.mk ?_ ?_ ?_ ?_) | ((conv => lhs; whnf); first | (with_reducible first | rfl | exact vInt_s (by omega)) | exact rfl) | ((conv => whnf); first | (with_reducible first | exact True.intro | refine And.intro ?_ ?_)))) <;> (try (conv => lhs; whnf))
  refine congrArg (Own.row _ _) ?_
  rw [filter_take_succ _ (0, 0) ‹k < xs.length›, if_neg (by unfold amid; simp_all), List.append_nil]
 ·refine ⟨k + 1, by omega, by omega, ?_⟩
  (repeat' (first | (with_reducible first | exact True.intro | refine And.intro ?_ ?_ | refine Head.mk ?_ ?_ ?_ ?_) | ((conv => lhs; whnf); first | (with_reducible first | rfl | exact vInt_s (by omega)) | exact rfl) | ((conv => whnf); first | (with_reducible first | exact True.intro | refine And.intro ?_ ?_)))) <;> (try (conv => lhs; whnf))
  refine congrArg (Own.row _ _) ?_
  rw [filter_take_succ _ (0, 0) ‹k < xs.length›, if_neg (by unfold amid; simp_all), List.append_nil]
 ·exact ⟨(ax, ay), rfl⟩
 ·rw [List.take_of_length_le (by omega)]; rfl
theorem map_take_succ' {α β : Type} (f : α → β) {xs : List α} {k : Nat} (d : α) (h : k < xs.length) : (xs.take (k + 1)).map f = (xs.take k).map f ++ [f (xs.getD k d)] := by
 rw [List.take_succ_eq_append_getElem h, List.map_append, getD_lt _ h]; rfl
def twiceC : Con := mkCon [.pt] (fun _ => True) fun x => .val (.agg (cPt (twP x.1)))
theorem twice_ok : Good1 Tryz.prog n_impl_twice twiceC := by
 refine good_ofG (tys := tyL) (env := []) (envw := []) (envd := []) [] [] [] [] [] mixed tys trivial trivial trivial Tryz.func120 rfl (by kernel_rfl) (by decide) (by kernel_rfl) ?_
 have hG_ := kpz [(0, [1, 2]), (1, [2])] [(0, [2]), (1, [2])] [] []
 rintro ⟨⟨(p : Int), (q : Int)⟩, ⟨⟩⟩ _
 (repeat' (first | (with_reducible first | exact True.intro | refine zQ ?_ | (refine zG hG_ ?_; intro K_ hK_) | (refine zR ?_; intro K_ hK_) | (refine hK_ _ _ ?_; try clear hK_ K_) | refine sq_n ?_ | refine sq_r ?_ | refine sq_e ?_ | refine bq_n ?_ | refine bq_r ?_ | refine bq_q ?_ | refine zB ?_ | refine zX ?_ | refine zT ?_ | refine zK ?_ | refine gq_n ?_ | refine gq_r ?_ | refine gq_e ?_ | refine lq_n ?_ | refine lq_r ?_ | refine lq_e ?_ | refine bq_e (by decide) ?_) | ((with_reducible refine zC (b := ?b_) ?hb_ ?_ ?_); case hb_ => rfl) | ((conv => whnf); first | (with_reducible refine hK_ _ _ ?_; try clear hK_ K_) | (with_reducible refine fun (g_ : Sl) (o_ : Ow) => ?_) | (with_reducible first | exact True.intro | refine And.intro trivial ?_ | refine And.intro ?_ ?_) | exact Nat.le_of_ble_eq_true rfl | exact Or.inl rfl | (intro h_; cases h_) | (intro h_; (try simp only [vS1] at h_)) | rfl))) <;> (try (conv => whnf)) <;> (try first | change (_ : Int) ≤ _ | change (_ : Nat) ≤ _)
def middleC : Con := mkCon [.room, .pt, .pt] (fun x => x.1.length ≤ 10) fun x => vI (midM x.1 x.2.1 x.2.2.1)
theorem middle_ok : Good1 Tryz.prog n_impl_middle middleC := by
 refine good_ofG (tys := tyL) (env := [(n_impl_twice, twiceC), (n_impl_place, placeC)]) (envw := []) (envd := []) [10] [] [] [] [] mixed tys ⟨twice_ok, place_ok, trivial⟩ trivial trivial Tryz.func79 rfl (by kernel_rfl) (by decide) (by kernel_rfl) ?_
 have hG_ := kpz [(0, [3, 4, 5]), (1, [3, 4, 5, 7]), (2, [4, 5, 7, 12, 13, 14]), (3, [4, 5, 7, 12, 13, 14, 15]), (4, [4, 5, 7, 9, 12, 13, 14]), (5, [4, 5, 7, 12, 13, 14]), (6, [4, 5, 7, 12, 13, 14]), (7, [6])] [(1, [10]), (2, [10]), (3, [10]), (4, [9, 10]), (5, [10]), (6, [10]), (7, [10])] [] []
 rintro ⟨(xs : List Pt), ⟨(ax : Int), (ay : Int)⟩, ⟨(bx : Int), (b_y : Int)⟩, ⟨⟩⟩ (h1 : xs.length ≤ _)
 (repeat' (first | (with_reducible first | exact True.intro | refine zQ ?_ | (refine zG hG_ ?_; intro K_ hK_) | (refine zR ?_; intro K_ hK_) | (refine hK_ _ _ ?_; try clear hK_ K_) | refine sq_n ?_ | refine sq_r ?_ | refine sq_e ?_ | refine bq_n ?_ | refine bq_r ?_ | refine bq_q ?_ | refine zB ?_ | refine zX ?_ | refine zT ?_ | refine zK ?_ | refine gq_n ?_ | refine gq_r ?_ | refine gq_e ?_ | refine lq_n ?_ | refine lq_r ?_ | refine lq_e ?_ | refine bq_e (by decide) ?_) | ((with_reducible refine zC (b := ?b_) ?hb_ ?_ ?_); case hb_ => rfl) | ((conv => whnf); first | (with_reducible refine hK_ _ _ ?_; try clear hK_ K_) | (with_reducible refine fun (g_ : Sl) (o_ : Ow) => ?_) | (with_reducible first | exact True.intro | refine And.intro trivial ?_ | refine And.intro ?_ ?_) | exact Nat.le_of_ble_eq_true rfl | exact Or.inl rfl | (intro h_; cases h_) | (intro h_; (try simp only [vS1] at h_)) | rfl))) <;> (try (conv => whnf)) <;> (try first | change (_ : Int) ≤ _ | change (_ : Nat) ≤ _) <;> (try ((fail_if_success (with_reducible apply Exists.intro)); (try dsimp only); (try simp only [vS1]))) <;> (try simp (disch := omega) only [vS3, vS2] at *)
 all_goals (try (fail_if_success (with_reducible apply Exists.intro)); first | with_reducible assumption | omega | exact mdl (by omega) | exact ilo1 (by omega) | exact ilo2 (by omega) | exact ihi1 (by omega) (by omega) | exact ihi2 (by omega) (by omega))
 refine awp'_loopG (α := Nat) (fun k ver_ => [(14, vInt k)]) (fun k ver_ => [(7, 10, false, .row t_impl_Point (.b .pt) ((xs.take k).map twP))]) (fun k ver_ => []) (fun k => k ≤ xs.length) (fun k => xs.length - k) [4, 5, 12, 13] [] (0) ?_
 conv => whnf
 refine ⟨⟨?inv2_, ?vals2_, ?own2_, ?fix2_⟩, ?body2_⟩
 case' vals2_ => (repeat' (first | (with_reducible first | exact True.intro | refine And.intro ?_ ?_ | refine Head.mk ?_ ?_ ?_ ?_) | ((conv => lhs; whnf); first | (with_reducible first | rfl | exact vInt_s (by omega)) | exact rfl) | ((conv => whnf); first | (with_reducible first | exact True.intro | refine And.intro ?_ ?_)))) <;> (try (conv => lhs; whnf))
 case' own2_ => (repeat' (first | (with_reducible first | exact True.intro | refine And.intro ?_ ?_ | refine Head.mk ?_ ?_ ?_ ?_) | ((conv => lhs; whnf); first | (with_reducible first | rfl | exact vInt_s (by omega)) | exact rfl) | ((conv => whnf); first | (with_reducible first | exact True.intro | refine And.intro ?_ ?_)))) <;> (try (conv => lhs; whnf))
 case' fix2_ => (repeat' (first | (with_reducible first | exact True.intro | refine And.intro ?_ ?_ | refine Head.mk ?_ ?_ ?_ ?_) | ((conv => lhs; whnf); first | (with_reducible first | rfl | exact vInt_s (by omega)) | exact rfl) | ((conv => whnf); first | (with_reducible first | exact True.intro | refine And.intro ?_ ?_)))) <;> (try (conv => lhs; whnf))
 ·exact Nat.zero_le _
 rintro k g_ o_ v_ hk
 (repeat' (first | (with_reducible first | exact True.intro | refine zQ ?_ | (refine zG hG_ ?_; intro K_ hK_) | (refine zR ?_; intro K_ hK_) | (refine hK_ _ _ ?_; try clear hK_ K_) | refine sq_n ?_ | refine sq_r ?_ | refine sq_e ?_ | refine bq_n ?_ | refine bq_r ?_ | refine bq_q ?_ | refine zB ?_ | refine zX ?_ | refine zT ?_ | refine zK ?_ | refine gq_n ?_ | refine gq_r ?_ | refine gq_e ?_ | refine lq_n ?_ | refine lq_r ?_ | refine lq_e ?_ | refine bq_e (by decide) ?_) | ((with_reducible refine zC (b := ?b_) ?hb_ ?_ ?_); case hb_ => rfl) | ((conv => whnf); first | (with_reducible refine hK_ _ _ ?_; try clear hK_ K_) | (with_reducible refine fun (g_ : Sl) (o_ : Ow) => ?_) | (with_reducible first | exact True.intro | refine And.intro trivial ?_ | refine And.intro ?_ ?_) | exact Nat.le_of_ble_eq_true rfl | exact Or.inl rfl | (intro h_; cases h_) | (intro h_; (try simp only [vS1] at h_)) | rfl))) <;> (try (conv => whnf)) <;> (try first | change (_ : Int) ≤ _ | change (_ : Nat) ≤ _) <;> (try ((fail_if_success (with_reducible apply Exists.intro)); (try dsimp only); (try simp only [vS1]))) <;> (try simp (disch := omega) only [vS3, vS2] at *)
 all_goals (try (fail_if_success (with_reducible apply Exists.intro)); first | with_reducible assumption | omega | exact mdl (by omega) | exact ilo1 (by omega) | exact ilo2 (by omega) | exact ihi1 (by omega) (by omega) | exact ihi2 (by omega) (by omega))
 ·refine ⟨k + 1, by omega, by omega, ?_⟩
  (repeat' (first | (with_reducible first | exact True.intro | refine And.intro ?_ ?_ | refine Head.mk ?_ ?_ ?_ ?_) | ((conv => lhs; whnf); first | (with_reducible first | rfl | exact vInt_s (by omega)) | exact rfl) | ((conv => whnf); first | (with_reducible first | exact True.intro | refine And.intro ?_ ?_)))) <;> (try (conv => lhs; whnf))
  exact congrArg (Own.row _ _) (map_take_succ' twP (0, 0) h_).symm
 ·rw [List.take_of_length_le (by omega)]; rfl
def seesI (xs : List Pt) (a b : Pt) : Bool := (List.range xs.length).all (fun k => !crs a b (wl xs k).1 (wl xs k).2) && (List.range ((cornersB xs a b).length - 1)).all fun k => midM xs (pAt (cornersB xs a b) k) (pAt (cornersB xs a b) (k + 1)) != 0
def seesC : Con := mkCon [.room, .pt, .pt] (fun x => x.1.length ≤ 10) fun x => vB (seesI x.1 x.2.1 x.2.2.1)
theorem cornersB_len (xs : List Pt) (a b : Pt) : (cornersB xs a b).length = 2 + (xs.filter (amid a b)).length := by unfold cornersB; rw [distSort_len]; simp; omega
theorem seesI_no1 {xs : List Pt} {a b : Pt} {k : Nat} (hk : k < xs.length) (h : crs a b (wl xs k).1 (wl xs k).2 = true) : seesI xs a b = false := by
 unfold seesI
 rw [show (List.range xs.length).all (fun k => !crs a b (wl xs k).1 (wl xs k).2) = false from List.all_eq_false.2 ⟨k, List.mem_range.2 hk, by rw [h]; decide⟩]
 rfl
theorem seesI_no2 {xs : List Pt} {a b : Pt} {k : Nat} (hk : k + 1 < (cornersB xs a b).length) (h : midM xs (pAt (cornersB xs a b) k) (pAt (cornersB xs a b) (k + 1)) = 0) : seesI xs a b = false := by
 unfold seesI
 rw [show ((List.range ((cornersB xs a b).length - 1)).all fun k => midM xs (pAt (cornersB xs a b) k) (pAt (cornersB xs a b) (k + 1)) != 0) = false from List.all_eq_false.2 ⟨k, List.mem_range.2 (by omega), by rw [h]; decide⟩]
 exact Bool.and_false _
theorem seesI_yes {xs : List Pt} {a b : Pt} (h1 : ∀ k, k < xs.length → crs a b (wl xs k).1 (wl xs k).2 = false) (h2 : ∀ k, k + 1 < (cornersB xs a b).length → midM xs (pAt (cornersB xs a b) k) (pAt (cornersB xs a b) (k + 1)) ≠ 0) : seesI xs a b = true := by
 unfold seesI
 rw [Bool.and_eq_true, List.all_eq_true, List.all_eq_true]
 exact ⟨fun k hk => by rw [h1 k (List.mem_range.1 hk)]; rfl, fun k hk => by simpa using h2 k (by have := List.mem_range.1 hk; omega)⟩
theorem sees_ok : Good1 Tryz.prog n_impl_sees seesC := by
 refine good_ofG (tys := tyL) (env := [(n_impl_wallsOf, wallsOfC), (n_impl_crosses, crossesC), (n_impl_cornersBetween, cornersBC), (n_impl_middle, middleC)]) (envw := []) (envd := []) [] [] [] [] [] mixed tys ⟨wallsOf_ok, crosses_ok, cornersBetween_ok, middle_ok, trivial⟩ trivial trivial Tryz.func52 rfl (by kernel_rfl) (by decide) (by kernel_rfl) ?_
 have hG_ := kpz [(0, [3, 4, 5]), (1, [3, 4, 5, 13, 14, 15]), (2, [3, 4, 5, 13, 14, 15, 16]), (3, [3, 4, 5, 8, 13, 14, 15]), (4, [3, 4, 5, 13, 14, 15, 23]), (5, [6]), (6, [3, 4, 5, 13, 14, 15]), (7, [3, 9]), (8, [3, 9, 10]), (9, [3, 9, 10, 32]), (10, [3, 9, 10]), (11, [3, 9, 10, 46]), (12, [6]), (13, [6])] [(3, [8])] [] []
 rintro ⟨(xs : List Pt), ⟨(ax : Int), (ay : Int)⟩, ⟨(bx : Int), (b_y : Int)⟩, ⟨⟩⟩ (h1 : xs.length ≤ _)
 have hw := walls_len xs
 have hc := cornersB_len xs (ax, ay) (bx, b_y)
 have hfl := filter_len_le (f := amid (ax, ay) (bx, b_y)) h1 xs.length
 rw [List.take_of_length_le (Nat.le_refl _)] at hfl
 (repeat' (first | (with_reducible first | exact True.intro | refine zQ ?_ | (refine zG hG_ ?_; intro K_ hK_) | (refine zR ?_; intro K_ hK_) | (refine hK_ _ _ ?_; try clear hK_ K_) | refine sq_n ?_ | refine sq_r ?_ | refine sq_e ?_ | refine bq_n ?_ | refine bq_r ?_ | refine bq_q ?_ | refine zB ?_ | refine zX ?_ | refine zT ?_ | refine zK ?_ | refine gq_n ?_ | refine gq_r ?_ | refine gq_e ?_ | refine lq_n ?_ | refine lq_r ?_ | refine lq_e ?_ | refine bq_e (by decide) ?_) | ((with_reducible refine zC (b := ?b_) ?hb_ ?_ ?_); case hb_ => rfl) | ((conv => whnf); first | (with_reducible refine hK_ _ _ ?_; try clear hK_ K_) | (with_reducible refine fun (g_ : Sl) (o_ : Ow) => ?_) | (with_reducible first | exact True.intro | refine And.intro trivial ?_ | refine And.intro ?_ ?_) | exact Nat.le_of_ble_eq_true rfl | exact Or.inl rfl | (intro h_; cases h_) | (intro h_; (try simp only [vS1] at h_)) | rfl))) <;> (try (conv => whnf)) <;> (try first | change (_ : Int) ≤ _ | change (_ : Nat) ≤ _) <;> (try ((fail_if_success (with_reducible apply Exists.intro)); (try dsimp only); (try simp only [vS1]))) <;> (try simp (disch := omega) only [vS3, vS2] at *)
 all_goals (try (fail_if_success (with_reducible apply Exists.intro)); first | with_reducible assumption | omega | exact mdl (by omega) | exact ilo1 (by omega) | exact ilo2 (by omega) | exact ihi1 (by omega) (by omega) | exact ihi2 (by omega) (by omega))
 refine awp'_loopG (α := Nat) (fun k ver_ => [(15, vInt k)]) (fun k ver_ => []) (fun k ver_ => []) (fun k => k ≤ xs.length ∧ ∀ j, j < k → crs (ax, ay) (bx, b_y) (wl xs j).1 (wl xs j).2 = false) (fun k => xs.length - k) [3, 4, 5, 13, 14] [] (0) ?_
 conv => whnf
 refine ⟨⟨?inv3_, ?vals3_, ?own3_, ?fix3_⟩, ?body3_⟩
 case' vals3_ => (repeat' (first | (with_reducible first | exact True.intro | refine And.intro ?_ ?_ | refine Head.mk ?_ ?_ ?_ ?_) | ((conv => lhs; whnf); first | (with_reducible first | rfl | exact vInt_s (by omega)) | exact rfl) | ((conv => whnf); first | (with_reducible first | exact True.intro | refine And.intro ?_ ?_)))) <;> (try (conv => lhs; whnf))
 case' own3_ => (repeat' (first | (with_reducible first | exact True.intro | refine And.intro ?_ ?_ | refine Head.mk ?_ ?_ ?_ ?_) | ((conv => lhs; whnf); first | (with_reducible first | rfl | exact vInt_s (by omega)) | exact rfl) | ((conv => whnf); first | (with_reducible first | exact True.intro | refine And.intro ?_ ?_)))) <;> (try (conv => lhs; whnf))
 case' fix3_ => (repeat' (first | (with_reducible first | exact True.intro | refine And.intro ?_ ?_ | refine Head.mk ?_ ?_ ?_ ?_) | ((conv => lhs; whnf); first | (with_reducible first | rfl | exact vInt_s (by omega)) | exact rfl) | ((conv => whnf); first | (with_reducible first | exact True.intro | refine And.intro ?_ ?_)))) <;> (try (conv => lhs; whnf))
 ·exact ⟨Nat.zero_le _, fun j hj => absurd hj (by omega)⟩
 rintro k g_ o_ v_ ⟨hk, hall⟩
 (repeat' (first | (with_reducible first | exact True.intro | refine zQ ?_ | (refine zG hG_ ?_; intro K_ hK_) | (refine zR ?_; intro K_ hK_) | (refine hK_ _ _ ?_; try clear hK_ K_) | refine sq_n ?_ | refine sq_r ?_ | refine sq_e ?_ | refine bq_n ?_ | refine bq_r ?_ | refine bq_q ?_ | refine zB ?_ | refine zX ?_ | refine zT ?_ | refine zK ?_ | refine gq_n ?_ | refine gq_r ?_ | refine gq_e ?_ | refine lq_n ?_ | refine lq_r ?_ | refine lq_e ?_ | refine bq_e (by decide) ?_) | ((with_reducible refine zC (b := ?b_) ?hb_ ?_ ?_); case hb_ => rfl) | ((conv => whnf); first | (with_reducible refine hK_ _ _ ?_; try clear hK_ K_) | (with_reducible refine fun (g_ : Sl) (o_ : Ow) => ?_) | (with_reducible first | exact True.intro | refine And.intro trivial ?_ | refine And.intro ?_ ?_) | exact Nat.le_of_ble_eq_true rfl | exact Or.inl rfl | (intro h_; cases h_) | (intro h_; (try simp only [vS1] at h_)) | rfl))) <;> (try (conv => whnf)) <;> (try first | change (_ : Int) ≤ _ | change (_ : Nat) ≤ _) <;> (try ((fail_if_success (with_reducible apply Exists.intro)); (try dsimp only); (try simp only [vS1]))) <;> (try simp (disch := omega) only [vS3, vS2] at *)
 all_goals (try (fail_if_success (with_reducible apply Exists.intro)); first | with_reducible assumption | omega | exact mdl (by omega) | exact ilo1 (by omega) | exact ilo2 (by omega) | exact ihi1 (by omega) (by omega) | exact ihi2 (by omega) (by omega))
 ·rw [walls_get (by omega)] at *
  exact (seesI_no1 (k := k) (by omega) (by assumption)).symm
 ·rw [walls_get (by omega)] at *
  refine ⟨k + 1, by omega, ⟨by omega, fun j hj => ?_⟩, by (repeat' (first | (with_reducible first | exact True.intro | refine And.intro ?_ ?_ | refine Head.mk ?_ ?_ ?_ ?_) | ((conv => lhs; whnf); first | (with_reducible first | rfl | exact vInt_s (by omega)) | exact rfl) | ((conv => whnf); first | (with_reducible first | exact True.intro | refine And.intro ?_ ?_)))) <;> (try (conv => lhs; whnf))⟩
  rcases Nat.lt_or_ge j k with h5 | h5
  ·exact hall j h5
  ·rw [show j = k by omega]; assumption
 have hall2 : ∀ j, j < xs.length → crs (ax, ay) (bx, b_y) (wl xs j).1 (wl xs j).2 = false := fun j hj => hall j (by omega)
 refine awp'_loopG (α := Nat) (fun i ver_ => [(10, vInt (i + 1))]) (fun i ver_ => []) (fun i ver_ => []) (fun i => i + 1 ≤ (cornersB xs (ax, ay) (bx, b_y)).length ∧ ∀ j, j < i → midM xs (pAt (cornersB xs (ax, ay) (bx, b_y)) j) (pAt (cornersB xs (ax, ay) (bx, b_y)) (j + 1)) ≠ 0) (fun i => 20 - i) [3, 9] [] (0) ?_
 conv => whnf
 refine ⟨⟨?inv4_, ?vals4_, ?own4_, ?fix4_⟩, ?body4_⟩
 case' vals4_ => (repeat' (first | (with_reducible first | exact True.intro | refine And.intro ?_ ?_ | refine Head.mk ?_ ?_ ?_ ?_) | ((conv => lhs; whnf); first | (with_reducible first | rfl | exact vInt_s (by omega)) | exact rfl) | ((conv => whnf); first | (with_reducible first | exact True.intro | refine And.intro ?_ ?_)))) <;> (try (conv => lhs; whnf))
 case' own4_ => (repeat' (first | (with_reducible first | exact True.intro | refine And.intro ?_ ?_ | refine Head.mk ?_ ?_ ?_ ?_) | ((conv => lhs; whnf); first | (with_reducible first | rfl | exact vInt_s (by omega)) | exact rfl) | ((conv => whnf); first | (with_reducible first | exact True.intro | refine And.intro ?_ ?_)))) <;> (try (conv => lhs; whnf))
 case' fix4_ => (repeat' (first | (with_reducible first | exact True.intro | refine And.intro ?_ ?_ | refine Head.mk ?_ ?_ ?_ ?_) | ((conv => lhs; whnf); first | (with_reducible first | rfl | exact vInt_s (by omega)) | exact rfl) | ((conv => whnf); first | (with_reducible first | exact True.intro | refine And.intro ?_ ?_)))) <;> (try (conv => lhs; whnf))
 ·exact ⟨by omega, fun j hj => absurd hj (by omega)⟩
 rintro i g_ o_ v_ ⟨hi, hmid⟩
 (repeat' (first | (with_reducible first | exact True.intro | refine zQ ?_ | (refine zG hG_ ?_; intro K_ hK_) | (refine zR ?_; intro K_ hK_) | (refine hK_ _ _ ?_; try clear hK_ K_) | refine sq_n ?_ | refine sq_r ?_ | refine sq_e ?_ | refine bq_n ?_ | refine bq_r ?_ | refine bq_q ?_ | refine zB ?_ | refine zX ?_ | refine zT ?_ | refine zK ?_ | refine gq_n ?_ | refine gq_r ?_ | refine gq_e ?_ | refine lq_n ?_ | refine lq_r ?_ | refine lq_e ?_ | refine bq_e (by decide) ?_) | ((with_reducible refine zC (b := ?b_) ?hb_ ?_ ?_); case hb_ => rfl) | ((conv => whnf); first | (with_reducible refine hK_ _ _ ?_; try clear hK_ K_) | (with_reducible refine fun (g_ : Sl) (o_ : Ow) => ?_) | (with_reducible first | exact True.intro | refine And.intro trivial ?_ | refine And.intro ?_ ?_) | exact Nat.le_of_ble_eq_true rfl | exact Or.inl rfl | (intro h_; cases h_) | (intro h_; (try simp only [vS1] at h_)) | rfl))) <;> (try (conv => whnf)) <;> (try first | change (_ : Int) ≤ _ | change (_ : Nat) ≤ _) <;> (try ((fail_if_success (with_reducible apply Exists.intro)); (try dsimp only); (try simp only [vS1]))) <;> (try simp (disch := omega) only [vS3, vS2] at *)
 all_goals (try (fail_if_success (with_reducible apply Exists.intro)); first | with_reducible assumption | omega | exact mdl (by omega) | exact ilo1 (by omega) | exact ilo2 (by omega) | exact ihi1 (by omega) (by omega) | exact ihi2 (by omega) (by omega))
 ·rw [show ((i : Int) + 1 - 1).toNat = i by omega, show ((i : Int) + 1).toNat = i + 1 by omega] at h_
  exact (seesI_no2 (by omega) h_).symm
 ·rw [show ((i : Int) + 1 - 1).toNat = i by omega, show ((i : Int) + 1).toNat = i + 1 by omega] at h_
  refine ⟨i + 1, by omega, ⟨by omega, fun j hj => ?_⟩, by (repeat' (first | (with_reducible first | exact True.intro | refine And.intro ?_ ?_ | refine Head.mk ?_ ?_ ?_ ?_) | ((conv => lhs; whnf); first | (with_reducible first | rfl | exact vInt_s (by omega)) | exact rfl) | ((conv => whnf); first | (with_reducible first | exact True.intro | refine And.intro ?_ ?_)))) <;> (try (conv => lhs; whnf))⟩
  rcases Nat.lt_or_ge j i with h5 | h5
  ·exact hmid j h5
  ·rw [show j = i by omega]; exact h_
 ·exact (seesI_yes hall2 fun j hj => hmid j (by omega)).symm
end Go.Proofs.YtnepfcnlngpchaaGreat
namespace Go.Proofs.YtnepfcnlngpchaaGreat
open Go.Shelf Go.RowKit Go.Lib Go.Sort Go.Proofs.YtnepfcnlngpchaaGreat.Nm
theorem bd_default : Bd (default : Pt) := by unfold Bd; decide
theorem getBang_bd {d : Array Pt} (h : ∀ p ∈ d.toList, Bd p) (i : Nat) : Bd d[i]! := by
 by_cases hi : i < d.size
 ·rw [getElem!_pos d i hi]; exact h _ (Array.getElem_mem_toList hi)
 ·rw [getElem!_neg d i hi]; exact bd_default
theorem swp_mem {d : Array Pt} (h : ∀ p ∈ d.toList, Bd p) {i j : Nat} (hi : i < d.size) (hj : j < d.size) : ∀ p ∈ (swp d i j).toList, Bd p := by
 intro p hp
 have hperm := swp_permIn d 0 d.size i j (Nat.zero_le _) hi (Nat.zero_le _) hj (Nat.le_refl _)
 have h3 := hperm.2.2
 have h1 := hperm.1
 rw [← h1, Array.extract_size, h1, Array.extract_size] at h3
 exact h p (h3.mem_iff.1 hp)
theorem insInner_congr {lt lt' : Pt → Pt → Bool} (hl : ∀ x y, Bd x → Bd y → lt x y = lt' x y) (a : Nat) : ∀ (j : Nat) (d : Array Pt), (∀ p ∈ d.toList, Bd p) → j < d.size → insInner lt a j d = insInner lt' a j d
 | 0, d, _, _ => rfl
 | j + 1, d, h, hj => by
  unfold insInner
  rw [hl _ _ (getBang_bd h _) (getBang_bd h _)]
  split
  ·exact insInner_congr hl a j _ (swp_mem h hj (by omega)) (by rw [size_swp]; omega)
  ·rfl
theorem insInner_bd {lt : Pt → Pt → Bool} (a : Nat) : ∀ (j : Nat) (d : Array Pt), (∀ p ∈ d.toList, Bd p) → j < d.size → ∀ p ∈ (insInner lt a j d).toList, Bd p
 | 0, d, h, _ => h
 | j + 1, d, h, hj => by
  unfold insInner
  split
  ·exact insInner_bd a j _ (swp_mem h hj (by omega)) (by rw [size_swp]; omega)
  ·exact h
theorem insOuter_congr {lt lt' : Pt → Pt → Bool} (hl : ∀ x y, Bd x → Bd y → lt x y = lt' x y) (a b : Nat) : ∀ (n i : Nat) (d : Array Pt), b - i ≤ n → b ≤ d.size → (∀ p ∈ d.toList, Bd p) → insOuter lt a b i d = insOuter lt' a b i d
 | 0, i, d, hn, hb, h => by unfold insOuter; rw [if_neg (by omega), if_neg (by omega)]
 | n + 1, i, d, hn, hb, h => by
  unfold insOuter
  split
  ·rw [insInner_congr hl a i d h (by omega)]
   exact insOuter_congr hl a b n (i + 1) _ (by omega) (by rw [insInner_size]; exact hb) (insInner_bd a i d h (by omega))
  ·rfl
theorem sq_bd {x : Int} (h1 : -2000 ≤ x) (h2 : x ≤ 2000) : 0 ≤ x * x ∧ x * x ≤ 4000000 := by
 have := mul_bd h1 h2 h1 h2
 refine ⟨?_, this.2⟩
 rcases Int.le_total 0 x with h | h
 ·exact Int.mul_nonneg h h
 ·exact Int.mul_nonneg_of_nonpos_of_nonpos h h
theorem sqM_exact {a x : Pt} (ha : Bd a) (hx : Bd x) : sqM a x = sqd a x ∧ 0 ≤ sqd a x ∧ sqd a x ≤ 8000000 := by
 unfold Bd at ha hx
 have e1 := sq_bd (x := a.1 - x.1) (by omega) (by omega)
 have e2 := sq_bd (x := a.2 - x.2) (by omega) (by omega)
 have hw : ∀ n : Int, -9223372036854775808 ≤ n → n ≤ 9223372036854775807 → wrap64 n = n := fun n h1 h2 => by unfold wrap64; omega
 unfold sqM sqd
 rw [hw (a.1 - x.1) (by omega) (by omega), hw (a.2 - x.2) (by omega) (by omega), hw ((a.1 - x.1) * _) (by omega) (by omega), hw ((a.2 - x.2) * _) (by omega) (by omega), hw _ (by omega) (by omega)]
 exact ⟨rfl, by omega, by omega⟩
theorem cb_lt {a x y : Pt} (ha : Bd a) (hx : Bd x) (hy : Bd y) : ltOf (cbCmp a) x y = decide (sqd a x < sqd a y) := by
 obtain ⟨e1, b1, b2⟩ := sqM_exact ha hx
 obtain ⟨e2, b3, b4⟩ := sqM_exact ha hy
 unfold ltOf cbCmp
 rw [e1, e2, W_in (by omega) (by omega)]
 exact decide_eq_decide.2 (by omega)
theorem swo_key (key : Pt → Int) : SWO fun x y => decide (key x < key y) :=
 ⟨fun x => by simp, fun x y z h1 h2 => by simp at *; omega, fun x y z h1 h2 => by simp at *; omega⟩
theorem distSort_perm {a : Pt} {xs : List Pt} (ha : Bd a) (h : ∀ p ∈ xs, Bd p) : (distSort a xs).Perm xs ∧ (distSort a xs).Pairwise fun p q => sqd a p ≤ sqd a q := by
 have e : distSort a xs = (Sort.insertionSort (fun x y => decide (sqd a x < sqd a y)) xs.toArray 0 xs.length).toList := by
  unfold distSort Sort.insertionSort
  rw [insOuter_congr (fun x y hx hy => cb_lt ha hx hy) 0 xs.length _ _ xs.toArray (Nat.le_refl _) (by simp) (by simpa using h)]
 rw [e]
 obtain ⟨⟨h1, h2, h3⟩, h4⟩ := insertionSort_holds (lt := fun x y => decide (sqd a x < sqd a y)) (swo_key (sqd a)) xs.toArray 0 xs.length (Nat.zero_le _) (by simp)
 generalize Sort.insertionSort (fun x y => decide (sqd a x < sqd a y)) xs.toArray 0 xs.length = D at *
 have hs : D.size = xs.length := by rw [h1]; simp
 refine ⟨?_, ?_⟩
 ·have h3 := h3
  rw [← hs, Array.extract_size] at h3
  rw [show D.size = xs.toArray.size by rw [h1], Array.extract_size] at h3
  exact h3
 ·rw [List.pairwise_iff_getElem]
  intro i j hi hj hij
  have hi' : i < D.size := by simpa using hi
  have hj' : j < D.size := by simpa using hj
  have := h4 i j (Nat.zero_le _) hij (by omega)
  rw [getElem!_pos D i hi', getElem!_pos D j hj'] at this
  simp only [decide_eq_false_iff_not] at this
  simp only [Array.getElem_toList]
  omega
theorem seesI_iff' {xs : List Pt} {a b : Pt} : seesI xs a b = true ↔ (∀ k, k < xs.length → crs a b (wl xs k).1 (wl xs k).2 = false) ∧ ∀ u, u + 1 < (cornersB xs a b).length → midM xs (pAt (cornersB xs a b) u) (pAt (cornersB xs a b) (u + 1)) ≠ 0 := by
 unfold seesI
 simp only [Bool.and_eq_true, List.all_eq_true, List.mem_range, Bool.not_eq_true', bne_iff_ne, ne_eq]
 refine and_congr_right fun _ => ⟨fun h u hu => h u (by omega), fun h u hu => h u (by omega)⟩
theorem cuts_bd {xs : List Pt} {a b : Pt} (ha : ptOk a = true) (hb : ptOk b = true) : ∀ p ∈ cutsOf xs a b, Bd p := fun p h => bd_on (bd_of_ok ha) (bd_of_ok hb) (cuts_on h)
theorem seesI_iff {xs : List Pt} {a b : Pt} (hr : roomOk xs = true) (ha : ptOk a = true) (hb : ptOk b = true) : seesI xs a b = true ↔ Sees xs a b := by
 rw [seesI_iff']
 obtain ⟨h1, h2⟩ := distSort_perm (bd_of_ok ha) (cuts_bd (xs := xs) ha hb)
 exact and_congr_right fun _ => sees_sorted hr ha hb h1 h2
theorem sees_eq {xs : List Pt} {a b : Pt} (hr : roomOk xs = true) (ha : ptOk a = true) (hb : ptOk b = true) : seesI xs a b = seesS xs a b := by
 rw [Bool.eq_iff_iff, seesI_iff hr ha hb, seesS_iff hr ha hb]
theorem cornersB_perm {xs : List Pt} {a b : Pt} (ha : ptOk a = true) (hb : ptOk b = true) : (cornersB xs a b).length = (cutsOf xs a b).length :=
 (distSort_perm (bd_of_ok ha) (cuts_bd (xs := xs) ha hb)).1.length_eq
end Go.Proofs.YtnepfcnlngpchaaGreat
namespace Go.Proofs.YtnepfcnlngpchaaGreat
open Go.RowKit Go.Proofs.YtnepfcnlngpchaaGreat.Nm
set_option maxRecDepth 10000
theorem tn1 (k : Nat) : ((k : Int) + 1).toNat = k + 1 := by omega
theorem tnp {k : Nat} (h : 1 ≤ k) : ((k : Int) - 1).toNat = k - 1 := by omega
theorem tnc (k : Nat) : ((k : Int) + 1 - 1).toNat = k := by omega
theorem Good1.imp {P : Program} {f : FuncId} {ts : List Ty} {pre pre' : Args ts → Prop} {res res' : Args ts → RV} (h : Good1 P f (mkCon ts pre res)) (hp : ∀ x, pre' x → pre x ∧ res' x = res x) : Good1 P f (mkCon ts pre' res') :=
 ⟨fun w F args vs x h1 h2 h3 h4 h5 => by
  obtain ⟨k1, k2⟩ := hp x h2
  show Calls _ _ _ _ fun e w' => ∃ v, e = .returned v ∧ Below w.heap.size w w' ∧ RetC w w' F (res' x) v
  rw [k2]
  exact h.snd w F args vs x h1 k1 h3 h4 h5, h.has⟩
theorem eq_false_of {b : Bool} (h : b = true → False) : false = b := by cases b with | false => rfl | true => exact (h rfl).elim
theorem eq_true_of {b : Bool} (h : b = true) : true = b := h.symm
theorem lt_succ_all {P : Nat → Prop} {k : Nat} (h : ∀ j, j < k → P j) (hk : P k) : ∀ j, j < k + 1 → P j := fun j hj => by
 rcases Nat.lt_or_ge j k with h5 | h5
 ·exact h j h5
 ·rw [show j = k by omega]; exact hk
def rowI (xs : List Int) : RV := ⟨.one (.own 0 0), some ⟨t_int, none, .b .int, xs⟩⟩
abbrev Tri := Int × Int × Int
abbrev pI (xs : List Pt) (k : Int) : Pt := xs.getD k.toNat (0, 0)
def inTri (a b c p : Pt) : Bool := decide (0 ≤ turn a b p) && (decide (0 ≤ turn b c p) && decide (0 ≤ turn c a p))
def inTurnC : Con := mkCon [.pt, .pt, .pt, .pt] (fun _ => True) fun x => vB (inTri x.2.1 x.2.2.1 x.2.2.2.1 x.1)
theorem inTurn_ok : Good1 Tryz.prog n_impl_inTurn inTurnC := by
 refine good_ofG (tys := tyL) (env := [(n_impl_turn, turnC)]) (envw := []) (envd := []) [] [] [] [] [] mixed tys ⟨turn_ok, trivial⟩ trivial trivial Tryz.func131 rfl (by kernel_rfl) (by decide) (by kernel_rfl) ?_
 have hG_ := kpz [(0, [4, 5, 6, 7]), (1, [8])] [] [] []
 rintro ⟨⟨(a : Int), (b : Int)⟩, ⟨(c : Int), (d : Int)⟩, ⟨(e : Int), (f : Int)⟩, ⟨(g : Int), (h : Int)⟩, ⟨⟩⟩ _
 (repeat' (first | (with_reducible first | exact True.intro | refine zQ ?_ | (refine zG hG_ ?_; intro K_ hK_) | (refine zR ?_; intro K_ hK_) | (refine hK_ _ _ ?_; try clear hK_ K_) | refine sq_n ?_ | refine sq_r ?_ | refine sq_e ?_ | refine bq_n ?_ | refine bq_r ?_ | refine bq_q ?_ | refine zB ?_ | refine zX ?_ | refine zT ?_ | refine zK ?_ | refine gq_n ?_ | refine gq_r ?_ | refine gq_e ?_ | refine lq_n ?_ | refine lq_r ?_ | refine lq_e ?_ | refine bq_e (by decide) ?_) | ((with_reducible refine zC (b := ?b_) ?hb_ ?_ ?_); case hb_ => rfl) | ((conv => whnf); first | (with_reducible refine hK_ _ _ ?_; try clear hK_ K_) | (with_reducible refine fun (g_ : Sl) (o_ : Ow) => ?_) | (with_reducible first | exact True.intro | refine And.intro trivial ?_ | refine And.intro ?_ ?_) | exact Nat.le_of_ble_eq_true rfl | exact Or.inl rfl | (intro h_; cases h_) | (intro h_; (try simp only [vS1] at h_)) | rfl))) <;> (try (conv => whnf)) <;> (try first | change (_ : Int) ≤ _ | change (_ : Nat) ≤ _) <;> (try ((fail_if_success (with_reducible apply Exists.intro)); (try dsimp only); (try simp only [vS1]))) <;> simp_all [inTri]
 all_goals (intros; omega)
def rot {α : Type} (xs : List α) (k : Nat) : List α := xs.drop k ++ xs.take k
def rRoom (xs : List Pt) : RV := ⟨.agg [.own 0 0], some ⟨t_impl_Point, none, .b .pt, xs⟩⟩
def rowPts (xs : List Pt) : RV := ⟨.one (.own 0 0), some ⟨t_impl_Point, none, .b .pt, xs⟩⟩
def ptsOf (xs : List Pt) (ks : List Int) : List Pt := if roomOk xs && ks.all (fun k => btw k 0 (xs.length - 1)) then ks.map (pI xs) else []
theorem ptsOf_ok {xs : List Pt} {ks : List Int} (hx : roomOk xs = true) (h : ks.all (fun k => btw k 0 (xs.length - 1)) = true) : ptsOf xs ks = ks.map (pI xs) := by unfold ptsOf; rw [hx, h]; rfl
theorem ptsOf_no {xs : List Pt} {ks : List Int} {k : Nat} (hk : k < ks.length) (h : btw (ks.getD k 0) 0 (xs.length - 1) = false) : ptsOf xs ks = [] := by
 unfold ptsOf
 rw [all_no (k := k) 0 hk h]; simp
def ptsOfC : Con := mkCon [.room, .sl (.b .int)] (fun x => x.1.length ≤ 1048576 ∧ x.2.1.length ≤ 1048576) fun x => rowPts (ptsOf x.1 x.2.1)
theorem map_take_succ {α β : Type} (f : α → β) {xs : List α} {k : Nat} (d : α) (h : k < xs.length) : (xs.take (k + 1)).map f = (xs.take k).map f ++ [f (xs.getD k d)] := by
 rw [List.take_succ_eq_append_getElem h, List.map_append, getD_lt _ h]; rfl
theorem iPointsOf_ok : Good1 Tryz.prog n_impl_PointsOf ptsOfC := by
 refine good_ofG (tys := tyL) (env := [(n_impl_RoomOk, roomOkC), (n_impl_between, btwC)]) (envw := []) (envd := []) [11] [] [] [] [] mixed tys ⟨iRoomOk_ok, between_ok, trivial⟩ trivial trivial Tryz.func15 rfl (by kernel_rfl) (by decide) (by kernel_rfl) ?_
 have hG_ := kpz [(0, [1, 2]), (1, [1, 2, 10]), (2, [4]), (3, [1, 2, 5]), (4, [2, 5, 12, 13, 14]), (5, [2, 5, 12, 13, 14, 15]), (6, [2, 5, 7, 12, 13, 14]), (7, [2, 5, 7, 12, 13, 14, 24]), (8, [4]), (9, [2, 5, 12, 13, 14]), (10, [2, 5, 12, 13, 14]), (11, [4])] [(3, [11]), (4, [11]), (5, [11]), (6, [11]), (7, [11]), (8, [11]), (9, [11]), (10, [11]), (11, [11])] [] []
 rintro ⟨(xs : List Pt), (ks : List Int), ⟨⟩⟩ ⟨(h1 : xs.length ≤ _), (h2 : ks.length ≤ _)⟩
 (repeat' (first | (with_reducible first | exact True.intro | refine zQ ?_ | (refine zG hG_ ?_; intro K_ hK_) | (refine zR ?_; intro K_ hK_) | (refine hK_ _ _ ?_; try clear hK_ K_) | refine sq_n ?_ | refine sq_r ?_ | refine sq_e ?_ | refine bq_n ?_ | refine bq_r ?_ | refine bq_q ?_ | refine zB ?_ | refine zX ?_ | refine zT ?_ | refine zK ?_ | refine gq_n ?_ | refine gq_r ?_ | refine gq_e ?_ | refine lq_n ?_ | refine lq_r ?_ | refine lq_e ?_ | refine bq_e (by decide) ?_) | ((with_reducible refine zC (b := ?b_) ?hb_ ?_ ?_); case hb_ => rfl) | ((conv => whnf); first | (with_reducible refine hK_ _ _ ?_; try clear hK_ K_) | (with_reducible refine fun (g_ : Sl) (o_ : Ow) => ?_) | (with_reducible first | exact True.intro | refine And.intro trivial ?_ | refine And.intro ?_ ?_) | exact Nat.le_of_ble_eq_true rfl | exact Or.inl rfl | (intro h_; cases h_) | (intro h_; (try simp only [vS1] at h_)) | rfl))) <;> (try (conv => whnf)) <;> (try first | change (_ : Int) ≤ _ | change (_ : Nat) ≤ _) <;> (try ((fail_if_success (with_reducible apply Exists.intro)); (try dsimp only); (try simp only [vS1]))) <;> (try simp (disch := omega) only [vS3, vS2] at *)
 all_goals (try (fail_if_success (with_reducible apply Exists.intro)); first | with_reducible assumption | omega | exact mdl (by omega) | exact ilo1 (by omega) | exact ilo2 (by omega) | exact ihi1 (by omega) (by omega) | exact ihi2 (by omega) (by omega))
 ·simp_all [ptsOf]
 have hx : roomOk xs = true := by assumption
 refine awp'_loopG (α := Nat) (fun k ver_ => [(14, vInt k)]) (fun k ver_ => [(5, 11, false, .row t_impl_Point (.b .pt) ((ks.take k).map (pI xs)))]) (fun k ver_ => []) (fun k => k ≤ ks.length ∧ (ks.take k).all (fun k => btw k 0 (xs.length - 1)) = true) (fun k => ks.length - k) [2, 12, 13] [] (0) ?_
 conv => whnf
 refine ⟨⟨?inv1_, ?vals1_, ?own1_, ?fix1_⟩, ?body1_⟩
 case' vals1_ => (repeat' (first | (with_reducible first | exact True.intro | refine And.intro ?_ ?_ | refine Head.mk ?_ ?_ ?_ ?_) | ((conv => lhs; whnf); first | (with_reducible first | rfl | exact vInt_s (by omega)) | exact rfl) | ((conv => whnf); first | (with_reducible first | exact True.intro | refine And.intro ?_ ?_)))) <;> (try (conv => lhs; whnf))
 case' own1_ => (repeat' (first | (with_reducible first | exact True.intro | refine And.intro ?_ ?_ | refine Head.mk ?_ ?_ ?_ ?_) | ((conv => lhs; whnf); first | (with_reducible first | rfl | exact vInt_s (by omega)) | exact rfl) | ((conv => whnf); first | (with_reducible first | exact True.intro | refine And.intro ?_ ?_)))) <;> (try (conv => lhs; whnf))
 case' fix1_ => (repeat' (first | (with_reducible first | exact True.intro | refine And.intro ?_ ?_ | refine Head.mk ?_ ?_ ?_ ?_) | ((conv => lhs; whnf); first | (with_reducible first | rfl | exact vInt_s (by omega)) | exact rfl) | ((conv => whnf); first | (with_reducible first | exact True.intro | refine And.intro ?_ ?_)))) <;> (try (conv => lhs; whnf))
 ·exact ⟨Nat.zero_le _, by simp⟩
 rintro k g_ o_ v_ ⟨hk, hall⟩
 (repeat' (first | (with_reducible first | exact True.intro | refine zQ ?_ | (refine zG hG_ ?_; intro K_ hK_) | (refine zR ?_; intro K_ hK_) | (refine hK_ _ _ ?_; try clear hK_ K_) | refine sq_n ?_ | refine sq_r ?_ | refine sq_e ?_ | refine bq_n ?_ | refine bq_r ?_ | refine bq_q ?_ | refine zB ?_ | refine zX ?_ | refine zT ?_ | refine zK ?_ | refine gq_n ?_ | refine gq_r ?_ | refine gq_e ?_ | refine lq_n ?_ | refine lq_r ?_ | refine lq_e ?_ | refine bq_e (by decide) ?_) | ((with_reducible refine zC (b := ?b_) ?hb_ ?_ ?_); case hb_ => rfl) | ((conv => whnf); first | (with_reducible refine hK_ _ _ ?_; try clear hK_ K_) | (with_reducible refine fun (g_ : Sl) (o_ : Ow) => ?_) | (with_reducible first | exact True.intro | refine And.intro trivial ?_ | refine And.intro ?_ ?_) | exact Nat.le_of_ble_eq_true rfl | exact Or.inl rfl | (intro h_; cases h_) | (intro h_; (try simp only [vS1] at h_)) | rfl))) <;> (try (conv => whnf)) <;> (try first | change (_ : Int) ≤ _ | change (_ : Nat) ≤ _) <;> (try ((fail_if_success (with_reducible apply Exists.intro)); (try dsimp only); (try simp only [vS1]))) <;> (try simp (disch := omega) only [vS3, vS2] at *)
 all_goals (try (fail_if_success (with_reducible apply Exists.intro)); first | with_reducible assumption | omega | exact mdl (by omega) | exact ilo1 (by omega) | exact ilo2 (by omega) | exact ihi1 (by omega) (by omega) | exact ihi2 (by omega) (by omega))
 ·exact ptsOf_no ‹k < ks.length› h_
 ·have := btw_iff.1 h_; omega
 ·have := btw_iff.1 h_; omega
 ·refine ⟨k + 1, by omega, ⟨by omega, ?_⟩, ?_⟩
  ·rw [all_succ 0 (by omega), hall]; exact h_
  ·(repeat' (first | (with_reducible first | exact True.intro | refine And.intro ?_ ?_ | refine Head.mk ?_ ?_ ?_ ?_) | ((conv => lhs; whnf); first | (with_reducible first | rfl | exact vInt_s (by omega)) | exact rfl) | ((conv => whnf); first | (with_reducible first | exact True.intro | refine And.intro ?_ ?_)))) <;> (try (conv => lhs; whnf))
   exact congrArg (Own.row _ _) (map_take_succ (pI xs) _ (by omega)).symm
 ·rw [List.take_of_length_le (by omega)] at *
  exact congrArg some (ptsOf_ok hx hall).symm
end Go.Proofs.YtnepfcnlngpchaaGreat
namespace Go.Proofs.YtnepfcnlngpchaaGreat
open Go.RowKit Go.Proofs.YtnepfcnlngpchaaGreat.Nm
set_option maxRecDepth 10000
set_option maxHeartbeats 2000000
def sees2C : Con := mkCon [.room, .pt, .pt] (fun x => roomOk x.1 = true ∧ ptOk x.2.1 = true ∧ ptOk x.2.2.1 = true) fun x => vB (seesS x.1 x.2.1 x.2.2.1)
theorem sees2_ok : Good1 Tryz.prog n_impl_sees sees2C := by
 exact Good1.imp sees_ok fun x h => ⟨(room_len h.1).2, congrArg vB (sees_eq h.1 h.2.1 h.2.2).symm⟩
def inP (xs : List Pt) (p : Pt) : Bool := ptOk p && inB xs p
def allInM (xs l : List Pt) : Bool := roomOk xs && l.all (inP xs)
theorem inP_iff {xs : List Pt} {p : Pt} : inP xs p = true ↔ ptOk p = true ∧ placeM xs p ≠ 0 := by unfold inP; rw [Bool.and_eq_true, bne_iff_ne]
theorem isIn_iff {xs : List Pt} {p : Pt} : isIn xs p = true ↔ roomOk xs = true ∧ inP xs p = true := by
 unfold isIn placeIn inP
 cases ptOk p <;> cases roomOk xs <;> simp
theorem isIn_pt {xs : List Pt} {p : Pt} (h : isIn xs p = true) : ptOk p = true := (inP_iff.1 (isIn_iff.1 h).2).1
theorem allIn_iff {xs l : List Pt} : allInM xs l = true ↔ roomOk xs = true ∧ ∀ k, k < l.length → inP xs (pAt l k) = true := by
 unfold allInM
 rw [Bool.and_eq_true, List.all_eq_true]
 refine and_congr_right fun _ => ⟨fun h k hk => h _ (pAt_mem hk), fun h p hp => ?_⟩
 obtain ⟨k, hk, rfl⟩ := List.getElem_of_mem hp
 rw [← getD_lt (0, 0) hk]
 exact h k hk
theorem allIn_pt {xs l : List Pt} (h : allInM xs l = true) {k : Nat} (hk : k < l.length) : ptOk (pAt l k) = true := (inP_iff.1 ((allIn_iff.1 h).2 k hk)).1
def allInC : Con := mkCon [.room, .sl (.b .pt)] (fun x => x.1.length ≤ 1048576 ∧ x.2.1.length ≤ 1048576) fun x => vB (allInM x.1 x.2.1)
theorem allIn_ok : Good1 Tryz.prog n_impl_allIn allInC := by
 refine good_ofG (tys := tyL) (env := [(n_impl_PointOk, ptOkC), (n_impl_place, placeC), (n_impl_RoomOk, roomOkC)]) (envw := []) (envd := []) [] [] [] [] [] mixed tys ⟨iPointOk_ok, place_ok, iRoomOk_ok, trivial⟩ trivial trivial Tryz.func50 rfl (by kernel_rfl) (by decide) (by kernel_rfl) ?_
 have hG_ := kpz [(0, [1, 2]), (1, [2, 7, 8, 9]), (2, [2, 7, 8, 9, 10]), (3, [2, 6, 7, 8, 9]), (4, [2, 7, 8, 9, 22]), (5, [4]), (6, [2, 7, 8, 9]), (7, [4])] [(3, [6])] [] []
 rintro ⟨(xs : List Pt), (l : List Pt), ⟨⟩⟩ ⟨(h1 : xs.length ≤ _), (h2 : l.length ≤ _)⟩
 (repeat' (first | (with_reducible first | exact True.intro | refine zQ ?_ | (refine zG hG_ ?_; intro K_ hK_) | (refine zR ?_; intro K_ hK_) | (refine hK_ _ _ ?_; try clear hK_ K_) | refine sq_n ?_ | refine sq_r ?_ | refine sq_e ?_ | refine bq_n ?_ | refine bq_r ?_ | refine bq_q ?_ | refine zB ?_ | refine zX ?_ | refine zT ?_ | refine zK ?_ | refine gq_n ?_ | refine gq_r ?_ | refine gq_e ?_ | refine lq_n ?_ | refine lq_r ?_ | refine lq_e ?_ | refine bq_e (by decide) ?_) | ((with_reducible refine zC (b := ?b_) ?hb_ ?_ ?_); case hb_ => rfl) | ((conv => whnf); first | (with_reducible refine hK_ _ _ ?_; try clear hK_ K_) | (with_reducible refine fun (g_ : Sl) (o_ : Ow) => ?_) | (with_reducible first | exact True.intro | refine And.intro trivial ?_ | refine And.intro ?_ ?_) | exact Nat.le_of_ble_eq_true rfl | exact Or.inl rfl | (intro h_; cases h_) | (intro h_; (try simp only [vS1] at h_)) | rfl))) <;> (try (conv => whnf)) <;> (try first | change (_ : Int) ≤ _ | change (_ : Nat) ≤ _) <;> (try ((fail_if_success (with_reducible apply Exists.intro)); (try dsimp only); (try simp only [vS1]))) <;> (try simp (disch := omega) only [vS3, Int.add_sub_cancel, tn1, tnp, tnc, vS2] at *)
 all_goals (try (fail_if_success (with_reducible apply Exists.intro)); first | with_reducible assumption | omega | exact mdl (by omega) | exact ilo1 (by omega) | exact ilo2 (by omega) | exact ihi1 (by omega) (by omega) | exact ihi2 (by omega) (by omega))
 refine awp'_loopG (α := Nat) (fun k ver_ => [(9, vInt k)]) (fun k ver_ => []) (fun k ver_ => []) (fun k => k ≤ l.length ∧ ∀ j, j < k → inP xs (pAt l j) = true) (fun k => l.length - k) [2, 7, 8] [] (0) ?_
 conv => whnf
 refine ⟨⟨?inv1_, ?vals1_, ?own1_, ?fix1_⟩, ?body1_⟩
 case' vals1_ => (repeat' (first | (with_reducible first | exact True.intro | refine And.intro ?_ ?_ | refine Head.mk ?_ ?_ ?_ ?_) | ((conv => lhs; whnf); first | (with_reducible first | rfl | exact vInt_s (by omega)) | exact rfl) | ((conv => whnf); first | (with_reducible first | exact True.intro | refine And.intro ?_ ?_)))) <;> (try (conv => lhs; whnf))
 case' own1_ => (repeat' (first | (with_reducible first | exact True.intro | refine And.intro ?_ ?_ | refine Head.mk ?_ ?_ ?_ ?_) | ((conv => lhs; whnf); first | (with_reducible first | rfl | exact vInt_s (by omega)) | exact rfl) | ((conv => whnf); first | (with_reducible first | exact True.intro | refine And.intro ?_ ?_)))) <;> (try (conv => lhs; whnf))
 case' fix1_ => (repeat' (first | (with_reducible first | exact True.intro | refine And.intro ?_ ?_ | refine Head.mk ?_ ?_ ?_ ?_) | ((conv => lhs; whnf); first | (with_reducible first | rfl | exact vInt_s (by omega)) | exact rfl) | ((conv => whnf); first | (with_reducible first | exact True.intro | refine And.intro ?_ ?_)))) <;> (try (conv => lhs; whnf))
 ·exact ⟨Nat.zero_le _, fun j hj => absurd hj (by omega)⟩
 rintro k g_ o_ v_ ⟨hk, hall⟩
 (repeat' (first | (with_reducible first | exact True.intro | refine zQ ?_ | (refine zG hG_ ?_; intro K_ hK_) | (refine zR ?_; intro K_ hK_) | (refine hK_ _ _ ?_; try clear hK_ K_) | refine sq_n ?_ | refine sq_r ?_ | refine sq_e ?_ | refine bq_n ?_ | refine bq_r ?_ | refine bq_q ?_ | refine zB ?_ | refine zX ?_ | refine zT ?_ | refine zK ?_ | refine gq_n ?_ | refine gq_r ?_ | refine gq_e ?_ | refine lq_n ?_ | refine lq_r ?_ | refine lq_e ?_ | refine bq_e (by decide) ?_) | ((with_reducible refine zC (b := ?b_) ?hb_ ?_ ?_); case hb_ => rfl) | ((conv => whnf); first | (with_reducible refine hK_ _ _ ?_; try clear hK_ K_) | (with_reducible refine fun (g_ : Sl) (o_ : Ow) => ?_) | (with_reducible first | exact True.intro | refine And.intro trivial ?_ | refine And.intro ?_ ?_) | exact Nat.le_of_ble_eq_true rfl | exact Or.inl rfl | (intro h_; cases h_) | (intro h_; (try simp only [vS1] at h_)) | rfl))) <;> (try (conv => whnf)) <;> (try first | change (_ : Int) ≤ _ | change (_ : Nat) ≤ _) <;> (try ((fail_if_success (with_reducible apply Exists.intro)); (try dsimp only); (try simp only [vS1]))) <;> (try simp (disch := omega) only [vS3, Int.add_sub_cancel, tn1, tnp, tnc, vS2] at *)
 all_goals (try (fail_if_success (with_reducible apply Exists.intro)); first | with_reducible assumption | omega | exact mdl (by omega) | exact ilo1 (by omega) | exact ilo2 (by omega) | exact ihi1 (by omega) (by omega) | exact ihi2 (by omega) (by omega))
 ·refine eq_false_of fun hc => ?_
  have := (inP_iff.1 ((allIn_iff.1 hc).2 k ‹k < l.length›)).1
  simp_all
 ·refine eq_false_of fun hc => ?_
  have := (inP_iff.1 ((allIn_iff.1 hc).2 k ‹k < l.length›)).2
  simp_all
 ·exact ⟨k + 1, by omega, ⟨by omega, lt_succ_all hall (inP_iff.2 ⟨by assumption, by assumption⟩)⟩, by (repeat' (first | (with_reducible first | exact True.intro | refine And.intro ?_ ?_ | refine Head.mk ?_ ?_ ?_ ?_) | ((conv => lhs; whnf); first | (with_reducible first | rfl | exact vInt_s (by omega)) | exact rfl) | ((conv => whnf); first | (with_reducible first | exact True.intro | refine And.intro ?_ ?_)))) <;> (try (conv => lhs; whnf))⟩
 ·rw [Bool.eq_iff_iff, allIn_iff]
  exact ⟨fun h => ⟨h, fun j hj => hall j (by omega)⟩, fun h => h.1⟩
def neighZ (n i k : Int) : Bool := decide (Int.tmod (i + 1) n = k) || decide (Int.tmod (k + 1) n = i)
def neighC : Con := mkCon [.room, .int, .int] (fun x => 0 < x.1.length ∧ x.1.length ≤ 1048576 ∧ (-1000 ≤ x.2.1 ∧ x.2.1 ≤ 1000) ∧ (-1000 ≤ x.2.2.1 ∧ x.2.2.1 ≤ 1000)) fun x => vB (neighZ x.1.length x.2.1 x.2.2.1)
theorem neighbors_ok : Good1 Tryz.prog n_impl_neighbors neighC := by
 refine good_ofG (tys := tyL) (env := []) (envw := []) (envd := []) [] [] [] [] [] mixed tys trivial trivial trivial Tryz.func77 rfl (by kernel_rfl) (by decide) (by kernel_rfl) ?_
 have hG_ := kpz [(0, [1, 2, 3]), (1, [1, 2, 7]), (2, [6])] [] [] []
 rintro ⟨(xs : List Pt), (i : Int), (k : Int), ⟨⟩⟩ ⟨(h0 : 0 < xs.length), (h1 : xs.length ≤ _), ⟨(h2 : -1000 ≤ i), (h3 : i ≤ 1000)⟩, (h4 : -1000 ≤ k), (h5 : k ≤ 1000)⟩
 (repeat' (first | (with_reducible first | exact True.intro | refine zQ ?_ | (refine zG hG_ ?_; intro K_ hK_) | (refine zR ?_; intro K_ hK_) | (refine hK_ _ _ ?_; try clear hK_ K_) | refine sq_n ?_ | refine sq_r ?_ | refine sq_e ?_ | refine bq_n ?_ | refine bq_r ?_ | refine bq_q ?_ | refine zB ?_ | refine zX ?_ | refine zT ?_ | refine zK ?_ | refine gq_n ?_ | refine gq_r ?_ | refine gq_e ?_ | refine lq_n ?_ | refine lq_r ?_ | refine lq_e ?_ | refine bq_e (by decide) ?_) | ((with_reducible refine zC (b := ?b_) ?hb_ ?_ ?_); case hb_ => rfl) | ((conv => whnf); first | (with_reducible refine hK_ _ _ ?_; try clear hK_ K_) | (with_reducible refine fun (g_ : Sl) (o_ : Ow) => ?_) | (with_reducible first | exact True.intro | refine And.intro trivial ?_ | refine And.intro ?_ ?_) | exact Nat.le_of_ble_eq_true rfl | exact Or.inl rfl | (intro h_; cases h_) | (intro h_; (try simp only [vS1] at h_)) | rfl))) <;> (try (conv => whnf)) <;> (try first | change (_ : Int) ≤ _ | change (_ : Nat) ≤ _) <;> (try ((fail_if_success (with_reducible apply Exists.intro)); (try dsimp only); (try simp only [vS1]))) <;> (try simp (disch := omega) only [vS3, Int.add_sub_cancel, tn1, tnp, tnc, vS2] at *)
 all_goals (try (fail_if_success (with_reducible apply Exists.intro)); first | with_reducible assumption | omega | exact mdl (by omega) | exact ilo1 (by omega) | exact ilo2 (by omega) | exact ihi1 (by omega) (by omega) | exact ihi2 (by omega) (by omega))
 ·unfold neighZ; rw [decide_eq_true h_]; rfl
 ·unfold neighZ; rw [decide_eq_false h_]; rfl
def diagC (xs : List Pt) (i k : Nat) : Bool := seesS xs (pAt xs i) (pAt xs k) && (freeTo xs i k xs.length && decide (midM xs (pAt xs i) (pAt xs k) = 2))
def diagM (xs : List Pt) (i k : Int) : Bool := btw i 0 (xs.length - 1) && (btw k 0 (xs.length - 1) && (!decide (i = k) && (!neighZ xs.length i k && diagC xs i.toNat k.toNat)))
theorem diagC_iff {xs : List Pt} {i k : Nat} : diagC xs i k = true ↔ seesS xs (pAt xs i) (pAt xs k) = true ∧ freeTo xs i k xs.length = true ∧ midM xs (pAt xs i) (pAt xs k) = 2 := by
 unfold diagC; simp only [Bool.and_eq_true, decide_eq_true_eq]
theorem diagM_iff {xs : List Pt} {i k : Int} : diagM xs i k = true ↔ btw i 0 (xs.length - 1) = true ∧ btw k 0 (xs.length - 1) = true ∧ i ≠ k ∧ neighZ xs.length i k = false ∧ diagC xs i.toNat k.toNat = true := by
 unfold diagM; simp only [Bool.and_eq_true, Bool.not_eq_true', decide_eq_false_iff_not, ne_eq]
theorem room_inj {xs : List Pt} (hr : roomOk xs = true) {i j : Nat} (hi : i < xs.length) (hj : j < xs.length) (e : pAt xs i = pAt xs j) : i = j := by
 rw [show pAt xs i = xs[i] from getD_lt _ hi, show pAt xs j = xs[j] from getD_lt _ hj] at e
 exact (List.getElem_inj (room_nodup hr)).1 e
theorem two_iff {xs : List Pt} (hr : roomOk xs = true) {i k : Nat} (hi : i < xs.length) (hk : k < xs.length) : (cutsOf xs (pAt xs i) (pAt xs k)).length = 2 ↔ freeTo xs i k xs.length = true := by
 have h1 : (cutsOf xs (pAt xs i) (pAt xs k)).length = 2 ↔ xs.filter (amid (pAt xs i) (pAt xs k)) = [] := by
  simp only [cutsOf, List.cons_append, List.nil_append, List.length_cons]
  rw [← List.length_eq_zero_iff]
  omega
 rw [h1, freeTo_iff, List.filter_eq_nil_iff]
 constructor
 ·intro h j hj
  by_cases e1 : j = i
  ·exact .inl e1
  ·by_cases e2 : j = k
   ·exact .inr (.inl e2)
   ·refine .inr (.inr ?_)
    have := h (pAt xs j) (pAt_mem hj)
    rw [amid_iff] at this
    rw [← Bool.not_eq_true]
    exact fun h3 => this ⟨fun e => e1 (room_inj hr hj hi e), fun e => e2 (room_inj hr hj hk e), h3⟩
 ·intro h c hc hm
  obtain ⟨j, hj, rfl⟩ := List.getElem_of_mem hc
  rw [← getD_lt (0, 0) hj] at hm
  obtain ⟨m1, m2, m3⟩ := amid_iff.1 hm
  rcases h j hj with e | e | e
  ·exact m1 (by rw [e])
  ·exact m2 (by rw [e])
  ·rw [m3] at e; cases e
theorem cornersB2 {xs : List Pt} (hr : roomOk xs = true) {i k : Nat} (hi : i < xs.length) (hk : k < xs.length) : (cornersB xs (pAt xs i) (pAt xs k)).length = 2 ↔ freeTo xs i k xs.length = true := by
 rw [cornersB_perm (room_pt hr hi) (room_pt hr hk), two_iff hr hi hk]
def diagonalC : Con := mkCon [.room, .int, .int] (fun x => roomOk x.1 = true) fun x => vB (diagM x.1 x.2.1 x.2.2.1)
theorem diagonal_ok : Good1 Tryz.prog n_impl_diagonal diagonalC := by
 refine good_ofG (tys := tyL) (env := [(n_impl_between, btwC), (n_impl_neighbors, neighC), (n_impl_cornersBetween, cornersBC), (n_impl_sees, sees2C), (n_impl_middle, middleC)]) (envw := []) (envd := []) [] [36, 37, 39, 40, 41, 42, 44, 45] [] [] [] mixed tys ⟨between_ok, neighbors_ok, cornersBetween_ok, sees2_ok, middle_ok, trivial⟩ trivial trivial Tryz.func43 rfl (by kernel_rfl) (by decide) (by kernel_rfl) ?_
 have hG_ := kpz [(0, [1, 2, 3]), (1, [1, 2, 3, 7]), (2, [1, 2, 3, 35]), (3, [6]), (4, [3, 8, 9]), (5, [6])] [(4, [8, 9])] [] []
 rintro ⟨(xs : List Pt), (i : Int), (k : Int), ⟨⟩⟩ (hr : roomOk xs = true)
 have hl := room_len hr
 (repeat' (first | (with_reducible first | exact True.intro | refine zQ ?_ | (refine zG hG_ ?_; intro K_ hK_) | (refine zR ?_; intro K_ hK_) | (refine hK_ _ _ ?_; try clear hK_ K_) | refine sq_n ?_ | refine sq_r ?_ | refine sq_e ?_ | refine bq_n ?_ | refine bq_r ?_ | refine bq_q ?_ | refine zB ?_ | refine zX ?_ | refine zT ?_ | refine zK ?_ | refine gq_n ?_ | refine gq_r ?_ | refine gq_e ?_ | refine lq_n ?_ | refine lq_r ?_ | refine lq_e ?_ | refine bq_e (by decide) ?_) | ((with_reducible refine zC (b := ?b_) ?hb_ ?_ ?_); case hb_ => rfl) | ((conv => whnf); first | (with_reducible refine hK_ _ _ ?_; try clear hK_ K_) | (with_reducible refine fun (g_ : Sl) (o_ : Ow) => ?_) | (with_reducible first | exact True.intro | refine And.intro trivial ?_ | refine And.intro ?_ ?_) | exact Nat.le_of_ble_eq_true rfl | exact Or.inl rfl | (intro h_; cases h_) | (intro h_; (try simp only [vS1] at h_)) | rfl))) <;> (try (conv => whnf)) <;> (try first | change (_ : Int) ≤ _ | change (_ : Nat) ≤ _) <;> (try ((fail_if_success (with_reducible apply Exists.intro)); (try dsimp only); (try simp only [vS1]))) <;> (try simp (disch := omega) only [vS3, Int.add_sub_cancel, tn1, tnp, tnc, vS2] at *)
 all_goals (try (fail_if_success (with_reducible apply Exists.intro)); first | with_reducible assumption | omega | exact mdl (by omega) | exact ilo1 (by omega) | exact ilo2 (by omega) | exact ihi1 (by omega) (by omega) | exact ihi2 (by omega) (by omega))
 all_goals first
  | (have b1 := btw_iff.1 ‹btw i 0 _ = true›; have b2 := btw_iff.1 ‹btw k 0 _ = true›; first | omega | exact room_pt hr (by omega))
  | (have b1 := btw_iff.1 ‹btw i 0 _ = true›; omega)
  | skip
 ·exact eq_false_of fun hc => by have h := (diagM_iff.1 hc).1; rw [‹btw i 0 _ = false›] at h; cases h
 ·exact eq_false_of fun hc => by have h := (diagM_iff.1 hc).2.1; rw [‹btw k 0 _ = false›] at h; cases h
 ·exact eq_false_of fun hc => (diagM_iff.1 hc).2.2.1 ‹i = k›
 ·exact eq_false_of fun hc => by have h := (diagM_iff.1 hc).2.2.2.1; rw [‹neighZ _ i k = true›] at h; cases h
 all_goals (have b1 := btw_iff.1 ‹btw i 0 _ = true›; have b2 := btw_iff.1 ‹btw k 0 _ = true›; have h2 := cornersB2 hr (i := i.toNat) (k := k.toNat) (by omega) (by omega))
 ·rw [Bool.eq_iff_iff, diagM_iff, diagC_iff, beq_iff_eq]
  exact ⟨fun h => ⟨‹_›, ‹_›, ‹_›, ‹_›, ‹seesS xs _ _ = true›, h2.1 (Int.ofNat.inj h_), h⟩, fun h => h.2.2.2.2.2.2⟩
 ·exact eq_false_of fun hc => absurd ((diagC_iff.1 (diagM_iff.1 hc).2.2.2.2).1.symm.trans ‹seesS xs _ _ = false›) (by decide)
 ·exact eq_false_of fun hc => h_ (congrArg Int.ofNat (h2.2 (diagC_iff.1 (diagM_iff.1 hc).2.2.2.2).2.1))
end Go.Proofs.YtnepfcnlngpchaaGreat
namespace Go.Proofs.YtnepfcnlngpchaaGreat
open Go.RowKit Go.Proofs.YtnepfcnlngpchaaGreat.Nm
set_option maxRecDepth 10000
theorem locRow_eq {v : Nat} {t : TypeId} {k : ElK} {xs ys : List k.T} (h : xs = ys) : (⟨v, .row t k xs⟩ : Loc) = ⟨v, .row t k ys⟩ := by rw [h]
def roomRoomC (f : List Pt → List Pt) : Con := mkCon [.room] (fun x => x.1.length ≤ 1048576) fun x => rRoom (f x.1)
theorem getD_set {α : Type} {xs : List α} {i p : Nat} {x d : α} (hi : i < xs.length) : (xs.set i x).getD p d = if p = i then x else xs.getD p d := by
 rw [List.getD_eq_getElem?_getD, List.getElem?_set]
 by_cases h : i = p
 ·subst h; simp [hi]
 ·rw [if_neg h, if_neg (Ne.symm h)]; rfl
end Go.Proofs.YtnepfcnlngpchaaGreat
namespace Go.Proofs.YtnepfcnlngpchaaGreat
open Go.RowKit
def dnV : Nat → AV
 | 0 => vInt (-1)
 | i + 1 => vInt i
theorem dnV_eq (n : Nat) : vInt ((n : Int) - 1) = dnV n := by
 cases n with
 | zero => rfl
 | succ i => exact congrArg vInt (by omega)
theorem erase_eq {α : Type} (l : List α) (k : Nat) : l.eraseIdx k = l.take k ++ l.drop (k + 1) := List.eraseIdx_eq_take_drop_succ l k
abbrev gI (l : List Int) (k : Nat) : Int := l.getD k 0
def prvN (n i : Nat) : Nat := (i + n - 1) % n
def nxtN (n i : Nat) : Nat := (i + 1) % n
theorem prv_int {n i : Nat} (hi : i < n) : Int.tmod ((i : Int) + n - 1) n = (prvN n i : Nat) := by
 unfold prvN
 rw [show ((i : Int) + n - 1) = ((i + n - 1 : Nat) : Int) by omega, ← Int.ofNat_tmod]
def cutM (xs : List Pt) (l : List Int) (i : Nat) : Bool :=
 ((diagM xs (gI l (prvN l.length i)) (gI l (nxtN l.length i)) || neighZ xs.length (gI l (prvN l.length i)) (gI l (nxtN l.length i))) && decide (0 < turn (pI xs (gI l (prvN l.length i))) (pI xs (gI l i)) (pI xs (gI l (nxtN l.length i))))) &&
 l.all fun x => decide (x = gI l (prvN l.length i)) || (decide (x = gI l i) || (decide (x = gI l (nxtN l.length i)) || !inTri (pI xs (gI l (prvN l.length i))) (pI xs (gI l i)) (pI xs (gI l (nxtN l.length i))) (pI xs x)))
theorem cutM_iff {xs : List Pt} {l : List Int} {i : Nat} : cutM xs l i = true ↔ (diagM xs (gI l (prvN l.length i)) (gI l (nxtN l.length i)) = true ∨ neighZ xs.length (gI l (prvN l.length i)) (gI l (nxtN l.length i)) = true) ∧
  0 < turn (pI xs (gI l (prvN l.length i))) (pI xs (gI l i)) (pI xs (gI l (nxtN l.length i))) ∧
  ∀ j, j < l.length → gI l j = gI l (prvN l.length i) ∨ gI l j = gI l i ∨ gI l j = gI l (nxtN l.length i) ∨ inTri (pI xs (gI l (prvN l.length i))) (pI xs (gI l i)) (pI xs (gI l (nxtN l.length i))) (pI xs (gI l j)) = false := by
 unfold cutM
 simp only [Bool.and_eq_true, Bool.or_eq_true, decide_eq_true_eq, List.all_eq_true, Bool.not_eq_true']
 constructor
 ·rintro ⟨⟨h1, h2⟩, h3⟩
  refine ⟨h1, h2, fun j hj => h3 _ ?_⟩
  rw [show gI l j = l[j] from getD_lt _ hj]
  exact List.getElem_mem _
 ·rintro ⟨h1, h2, h3⟩
  refine ⟨⟨h1, h2⟩, fun x hx => ?_⟩
  obtain ⟨j, hj, rfl⟩ := List.getElem_of_mem hx
  have := h3 j hj
  rwa [show gI l j = l[j] from getD_lt _ hj] at this
def firstCut (xs : List Pt) (l : List Int) : Option Nat := (List.range l.length).find? (cutM xs l)
theorem firstCut_some {xs : List Pt} {l : List Int} {i : Nat} (hi : i < l.length) (h : cutM xs l i = true) (hb : ∀ j, j < i → cutM xs l j = false) : firstCut xs l = some i := by
 unfold firstCut
 rw [List.find?_range_eq_some]
 exact ⟨h, List.mem_range.2 hi, fun j hj => by rw [hb j hj]; rfl⟩
theorem firstCut_none {xs : List Pt} {l : List Int} (h : ∀ j, j < l.length → cutM xs l j = false) : firstCut xs l = none := by
 unfold firstCut
 rw [List.find?_eq_none]
 intro j hj
 rw [h j (List.mem_range.1 hj)]
 decide
theorem firstCut_spec {xs : List Pt} {l : List Int} {i : Nat} (h : firstCut xs l = some i) : i < l.length ∧ cutM xs l i = true := by
 unfold firstCut at h
 rw [List.find?_range_eq_some] at h
 exact ⟨List.mem_range.1 h.2.1, h.1⟩
def triS (a b c : Int) : Tri := (min (min a b) c, a + b + c - min (min a b) c - max (max a b) c, max (max a b) c)
def triAt (l : List Int) (i : Nat) : Tri := triS (gI l (prvN l.length i)) (gI l i) (gI l (nxtN l.length i))
def triRun (xs : List Pt) : Nat → List Int → List Tri → List Tri
 | 0, l, out => out ++ [triS (gI l 0) (gI l 1) (gI l 2)]
 | f + 1, l, out => match firstCut xs l with
  | none => []
  | some i => triRun xs f (l.eraseIdx i) (out ++ [triAt l i])
def allC (n : Nat) : List Int := (List.range n).map fun k : Nat => (k : Int)
def trisM (xs : List Pt) : List Tri := if roomOk xs then triRun xs (xs.length - 3) (allC xs.length) [] else []
theorem allC_len (n : Nat) : (allC n).length = n := by simp [allC]
theorem allC_succ (n : Nat) : allC (n + 1) = allC n ++ [(n : Int)] := by unfold allC; rw [List.range_succ, List.map_append]; rfl
theorem tris_bad {xs : List Pt} (h : roomOk xs = false) : trisM xs = [] := by unfold trisM; rw [h]; rfl
theorem triRun_len {xs : List Pt} : ∀ (f : Nat) (l : List Int) (out : List Tri), (triRun xs f l out).length ≤ out.length + f + 1
 | 0, l, out => by simp [triRun]
 | f + 1, l, out => by
  unfold triRun
  split
  ·simp
  ·have := triRun_len (xs := xs) f (l.eraseIdx ‹Nat›) (out ++ [triAt l ‹Nat›])
   simp only [List.length_append, List.length_cons, List.length_nil] at this
   omega
theorem tris_len (xs : List Pt) : (trisM xs).length ≤ xs.length + 1 := by
 unfold trisM
 split
 ·have := triRun_len (xs := xs) (xs.length - 3) (allC xs.length) []
  simp only [List.length_nil] at this
  omega
 ·simp
structure Left (n : Nat) (l : List Int) : Prop where
 len : 3 ≤ l.length
 le : l.length ≤ n
 inc : l.Pairwise (· < ·)
 ge : ∀ x ∈ l, 0 ≤ x
 lt : ∀ x ∈ l, x < n
theorem left_all {n : Nat} (h : 3 ≤ n) : Left n (allC n) := by
 refine ⟨by rw [allC_len]; exact h, by rw [allC_len]; exact Nat.le_refl _, ?_, ?_, ?_⟩
 ·unfold allC
  rw [List.pairwise_map]
  exact List.pairwise_lt_range.imp fun h => by omega
 all_goals (intro x hx; unfold allC at hx; obtain ⟨k, hk, rfl⟩ := List.mem_map.1 hx; have := List.mem_range.1 hk; omega)
theorem Left.erase {n : Nat} {l : List Int} (h : Left n l) (h4 : 3 < l.length) {i : Nat} (hi : i < l.length) : Left n (l.eraseIdx i) := by
 have hl := List.length_eraseIdx_of_lt hi
 refine ⟨by omega, by have := h.le; omega, h.inc.sublist (List.eraseIdx_sublist _ _), fun x hx => h.ge x ((List.eraseIdx_sublist _ _).mem hx), fun x hx => h.lt x ((List.eraseIdx_sublist _ _).mem hx)⟩
theorem gI_mem {l : List Int} {k : Nat} (h : k < l.length) : gI l k ∈ l := by rw [show gI l k = l[k] from getD_lt _ h]; exact List.getElem_mem _
theorem Left.at {n : Nat} {l : List Int} (h : Left n l) {k : Nat} (hk : k < l.length) : 0 ≤ gI l k ∧ gI l k < n := ⟨h.ge _ (gI_mem hk), h.lt _ (gI_mem hk)⟩
theorem Left.mono {n : Nat} {l : List Int} (h : Left n l) {i j : Nat} (hij : i < j) (hj : j < l.length) : gI l i < gI l j := by
 rw [show gI l i = l[i] from getD_lt _ (by omega), show gI l j = l[j] from getD_lt _ hj]
 exact List.pairwise_iff_getElem.1 h.inc i j (by omega) hj hij
theorem Left.inj {n : Nat} {l : List Int} (h : Left n l) {i j : Nat} (hi : i < l.length) (hj : j < l.length) (e : gI l i = gI l j) : i = j := by
 rcases Nat.lt_trichotomy i j with h1 | h1 | h1
 ·have := h.mono h1 hj; omega
 ·exact h1
 ·have := h.mono h1 hi; omega
theorem prv_lt {n i : Nat} (h : 0 < n) : prvN n i < n := Nat.mod_lt _ h
theorem nxt_lt {n i : Nat} (h : 0 < n) : nxtN n i < n := Nat.mod_lt _ h
theorem prv_eq {n i : Nat} (hi : i < n) : (i = 0 ∧ prvN n i = n - 1) ∨ (0 < i ∧ prvN n i = i - 1) := by
 unfold prvN
 rcases Nat.eq_zero_or_pos i with h | h
 ·subst h; exact .inl ⟨rfl, by rw [Nat.zero_add, Nat.mod_eq_of_lt (by omega)]⟩
 ·exact .inr ⟨h, by rw [show i + n - 1 = (i - 1) + n by omega, Nat.add_mod_right, Nat.mod_eq_of_lt (by omega)]⟩
theorem nxt_eq {n i : Nat} (hi : i < n) : (i + 1 = n ∧ nxtN n i = 0) ∨ (i + 1 < n ∧ nxtN n i = i + 1) := by
 unfold nxtN
 rcases Nat.lt_or_ge (i + 1) n with h | h
 ·exact .inr ⟨h, Nat.mod_eq_of_lt h⟩
 ·have : i + 1 = n := by omega
  exact .inl ⟨this, by rw [this, Nat.mod_self]⟩
structure TriSt (xs : List Pt) (s : List Int × List Tri) : Prop where
 left : Left xs.length s.1
 run : triRun xs (s.1.length - 3) s.1 s.2 = trisM xs
 len : s.2.length + s.1.length = xs.length
theorem triSt_start {xs : List Pt} (hr : roomOk xs = true) (h3 : 3 ≤ xs.length) : TriSt xs (allC xs.length, []) :=
 ⟨left_all h3, by show triRun xs ((allC xs.length).length - 3) _ _ = _; rw [allC_len]; unfold trisM; rw [if_pos hr], by simp [allC_len]⟩
theorem TriSt.step {xs : List Pt} {s : List Int × List Tri} (h : TriSt xs s) (h4 : 3 < s.1.length) {i : Nat} (hc : firstCut xs s.1 = some i) : TriSt xs (s.1.eraseIdx i, s.2 ++ [triAt s.1 i]) := by
 have hi := (firstCut_spec hc).1
 have hl := List.length_eraseIdx_of_lt hi
 refine ⟨h.left.erase h4 hi, ?_, ?_⟩
 ·have hr := h.run
  show triRun xs ((s.1.eraseIdx i).length - 3) _ _ = _
  rw [hl, show s.1.length - 1 - 3 = s.1.length - 4 by omega]
  rw [show s.1.length - 3 = (s.1.length - 4) + 1 by omega] at hr
  unfold triRun at hr
  rw [hc] at hr
  exact hr
 ·have := h.len
  show (s.2 ++ [triAt s.1 i]).length + (s.1.eraseIdx i).length = _
  rw [List.length_append, hl]
  simp only [List.length_cons, List.length_nil]
  omega
theorem TriSt.none {xs : List Pt} {s : List Int × List Tri} (h : TriSt xs s) (h4 : 3 < s.1.length) (hc : firstCut xs s.1 = none) : trisM xs = [] := by
 have hr := h.run
 rw [show s.1.length - 3 = (s.1.length - 4) + 1 by omega] at hr
 unfold triRun at hr
 rw [hc] at hr
 exact hr.symm
theorem TriSt.last {xs : List Pt} {s : List Int × List Tri} (h : TriSt xs s) (h3 : s.1.length ≤ 3) : trisM xs = s.2 ++ [triS (gI s.1 0) (gI s.1 1) (gI s.1 2)] := by
 have hr := h.run
 rw [show s.1.length - 3 = 0 by omega] at hr
 exact hr.symm
inductive Cutd : List Int → List Tri → Prop
 | last {l : List Int} (h : l.length = 3) : Cutd l [triS (gI l 0) (gI l 1) (gI l 2)]
 | step {l : List Int} {ts : List Tri} {i : Nat} (h : 3 < l.length) (hi : i < l.length) (hr : Cutd (l.eraseIdx i) ts) : Cutd l (triAt l i :: ts)
theorem run_cutd {xs : List Pt} : ∀ (f : Nat) (l : List Int) (out : List Tri), l.length = f + 3 → triRun xs f l out = [] ∨ ∃ ts, triRun xs f l out = out ++ ts ∧ Cutd l ts
 | 0, l, out, h => .inr ⟨_, rfl, .last (by omega)⟩
 | f + 1, l, out, h => by
  unfold triRun
  split
  ·exact .inl rfl
  ·rename_i i hc
   have hi := (firstCut_spec hc).1
   have hl := List.length_eraseIdx_of_lt hi
   rcases run_cutd (xs := xs) f (l.eraseIdx i) (out ++ [triAt l i]) (by omega) with e | ⟨ts, e, hd⟩
   ·exact .inl e
   ·exact .inr ⟨triAt l i :: ts, by rw [e]; simp, .step (by omega) hi hd⟩
theorem tris_cutd (xs : List Pt) : trisM xs = [] ∨ (roomOk xs = true ∧ Cutd (allC xs.length) (trisM xs)) := by
 unfold trisM
 split
 ·rename_i hr
  have hl := room_len hr
  rcases run_cutd (xs := xs) (xs.length - 3) (allC xs.length) [] (by rw [allC_len]; omega) with e | ⟨ts, e, hd⟩
  ·exact .inl e
  ·rw [e, List.nil_append]; exact .inr ⟨hr, hd⟩
 ·exact .inl rfl
theorem Cutd.ne {l : List Int} {ts : List Tri} (h : Cutd l ts) : ts ≠ [] := by cases h <;> simp
theorem triS_six (a b c : Int) : triS a b c = (a, b, c) ∨ triS a b c = (a, c, b) ∨ triS a b c = (b, a, c) ∨ triS a b c = (b, c, a) ∨ triS a b c = (c, a, b) ∨ triS a b c = (c, b, a) := by
 unfold triS
 simp only [Prod.mk.injEq]
 omega
theorem triS_inc {a b c : Int} (h1 : a ≠ b) (h2 : b ≠ c) (h3 : a ≠ c) : (triS a b c).1 < (triS a b c).2.1 ∧ (triS a b c).2.1 < (triS a b c).2.2 := by
 unfold triS
 simp only
 omega
theorem triS_sorted {a b c : Int} (h1 : a < b) (h2 : b < c) : triS a b c = (a, b, c) := by
 unfold triS
 simp only [Prod.mk.injEq]
 omega
def TriIn (n : Nat) (t : Tri) : Prop := 0 ≤ t.1 ∧ t.1 < t.2.1 ∧ t.2.1 < t.2.2 ∧ t.2.2 < n
theorem triIn_of {n : Nat} {a b c : Int} (h1 : a ≠ b) (h2 : b ≠ c) (h3 : a ≠ c) (ha : 0 ≤ a ∧ a < n) (hb : 0 ≤ b ∧ b < n) (hc : 0 ≤ c ∧ c < n) : TriIn n (triS a b c) := by
 have hi := triS_inc h1 h2 h3
 unfold TriIn
 rcases triS_six a b c with e | e | e | e | e | e <;> rw [e] at hi ⊢ <;> simp only at hi ⊢ <;> omega
theorem prv_ne {n i : Nat} (h3 : 3 ≤ n) (hi : i < n) : prvN n i ≠ i ∧ nxtN n i ≠ i ∧ prvN n i ≠ nxtN n i := by
 rcases prv_eq hi with ⟨h1, h2⟩ | ⟨h1, h2⟩ <;> rcases nxt_eq hi with ⟨h4, h5⟩ | ⟨h4, h5⟩ <;> omega
theorem Left.triAt {n : Nat} {l : List Int} (h : Left n l) {i : Nat} (hi : i < l.length) : TriIn n (triAt l i) := by
 have h3 := h.len
 obtain ⟨e1, e2, e3⟩ := prv_ne h3 hi
 have hp := prv_lt (n := l.length) (i := i) (by omega)
 have hq := nxt_lt (n := l.length) (i := i) (by omega)
 exact triIn_of (fun e => e1 (h.inj hp hi e)) (fun e => e2 (h.inj hq hi e.symm)) (fun e => e3 (h.inj hp hq e)) (h.at hp) (h.at hi) (h.at hq)
theorem Cutd.triIn {n : Nat} {l : List Int} {ts : List Tri} (h : Cutd l ts) (hl : Left n l) : ∀ t ∈ ts, TriIn n t := by
 induction h with
 | last h3 =>
  rename_i l
  intro t ht
  rw [List.mem_singleton.1 ht]
  have h01 := hl.mono (i := 0) (j := 1) (by omega) (by omega)
  have h12 := hl.mono (i := 1) (j := 2) (by omega) (by omega)
  exact triIn_of (by omega) (by omega) (by omega) (hl.at (by omega)) (hl.at (by omega)) (hl.at (by omega))
 | step h4 hi hr ih =>
  intro t ht
  rcases List.mem_cons.1 ht with rfl | ht
  ·exact hl.triAt hi
  ·exact ih (hl.erase h4 hi) t ht
theorem tris_in {xs : List Pt} {t : Tri} (h : t ∈ trisM xs) : TriIn xs.length t := by
 rcases tris_cutd xs with e | ⟨hr, hd⟩
 ·rw [e] at h; cases h
 ·exact hd.triIn (left_all (room_len hr).1) t h
theorem Cutd.drop {n : Nat} {l : List Int} {ts : List Tri} (h : Cutd l ts) (hl : Left n l) : ∀ j, j < ts.length → ∃ l', Left n l' ∧ Cutd l' (ts.drop j) := by
 induction h with
 | last h3 =>
  intro j hj
  have : j = 0 := by simpa using hj
  subst this
  exact ⟨_, hl, .last h3⟩
 | step h4 hi hr ih =>
  intro j hj
  cases j with
  | zero => exact ⟨_, hl, .step h4 hi hr⟩
  | succ j => exact ih (hl.erase h4 hi) j (by simpa using hj)
abbrev cI (out : List Int) (x : Int) : Int := out.getD x.toNat 0
def colBase (n : Nat) (t : Tri) : List Int := (((List.replicate n (-1 : Int)).set t.1.toNat 0).set t.2.1.toNat 1).set t.2.2.toNat 2
def colStep (out : List Int) (t : Tri) : List Int :=
 if cI out t.1 < 0 then out.set t.1.toNat (3 - cI out t.2.1 - cI out t.2.2)
 else if cI out t.2.1 < 0 then out.set t.2.1.toNat (3 - cI out t.2.2 - cI out t.1)
 else if cI out t.2.2 < 0 then out.set t.2.2.toNat (3 - cI out t.1 - cI out t.2.1)
 else out
def colF (n : Nat) : List Tri → List Int
 | [] => []
 | [t] => colBase n t
 | t :: ts => colStep (colF n ts) t
theorem colF_cons {n : Nat} {t : Tri} {ts : List Tri} (h : ts ≠ []) : colF n (t :: ts) = colStep (colF n ts) t := by
 cases ts with
 | nil => exact absurd rfl h
 | cons a r => rfl
theorem colStep_len (out : List Int) (t : Tri) : (colStep out t).length = out.length := by
 unfold colStep
 split
 ·simp
 ·split
  ·simp
  ·split <;> simp
theorem colF_len {n : Nat} : ∀ {ts : List Tri}, ts ≠ [] → (colF n ts).length = n
 | [], h => absurd rfl h
 | [t], _ => by simp [colF, colBase]
 | t :: s :: ts, _ => by rw [colF_cons (by simp), colStep_len]; exact colF_len (by simp)
theorem cI_set {out : List Int} {x y : Int} {v : Int} (hx : 0 ≤ x ∧ x < out.length) (hy : 0 ≤ y) : cI (out.set x.toNat v) y = if y = x then v else cI out y := by
 unfold cI
 rw [getD_set (by omega)]
 by_cases h : y = x
 ·subst h; rw [if_pos rfl, if_pos rfl]
 ·rw [if_neg h, if_neg (by omega)]
structure Col (n : Nat) (l : List Int) (out : List Int) : Prop where
 len : out.length = n
 yes : ∀ x ∈ l, 0 ≤ cI out x ∧ cI out x ≤ 2
 no : ∀ x : Int, 0 ≤ x → x < n → x ∉ l → cI out x = -1
 ne : ∀ k, k < l.length → cI out (gI l k) ≠ cI out (gI l (nxtN l.length k))
theorem gI_erase {l : List Int} {i j : Nat} (hj : j + 1 < l.length) : gI (l.eraseIdx i) j = if j < i then gI l j else gI l (j + 1) := by
 unfold gI
 rw [List.getD_eq_getElem?_getD, List.getElem?_eraseIdx]
 split <;> rw [← List.getD_eq_getElem?_getD]
theorem mem_gI {l : List Int} {x : Int} : x ∈ l ↔ ∃ k, k < l.length ∧ gI l k = x := by
 rw [List.mem_iff_getElem]
 constructor
 ·rintro ⟨k, h, e⟩; exact ⟨k, h, by rw [show gI l k = l[k] from getD_lt _ h, e]⟩
 ·rintro ⟨k, h, e⟩; exact ⟨k, h, by rw [← e, show gI l k = l[k] from getD_lt _ h]⟩
theorem Left.mem_erase {n : Nat} {l : List Int} (h : Left n l) {i : Nat} (hi : i < l.length) {x : Int} : x ∈ l.eraseIdx i ↔ x ∈ l ∧ x ≠ gI l i := by
 have hl := List.length_eraseIdx_of_lt hi
 rw [mem_gI, mem_gI, hl]
 constructor
 ·rintro ⟨k, hk, e⟩
  rw [gI_erase (by omega)] at e
  split at e
  ·exact ⟨⟨k, by omega, e⟩, fun e' => by have := h.inj (i := k) (j := i) (by omega) hi (by rw [e, e']); omega⟩
  ·exact ⟨⟨k + 1, by omega, e⟩, fun e' => by have := h.inj (i := k + 1) (j := i) (by omega) hi (by rw [e, e']); omega⟩
 ·rintro ⟨⟨k, hk, e⟩, hne⟩
  have hki : k ≠ i := fun e' => hne (by rw [← e, e'])
  rcases Nat.lt_or_ge k i with h1 | h1
  ·exact ⟨k, by omega, by rw [gI_erase (by omega), if_pos h1, e]⟩
  ·exact ⟨k - 1, by omega, by rw [gI_erase (by omega), if_neg (by omega), show k - 1 + 1 = k by omega, e]⟩
theorem colStep_cut {out : List Int} {p c q : Int} (hc : cI out c < 0) (hp : 0 ≤ cI out p) (hq : 0 ≤ cI out q) : colStep out (triS p c q) = out.set c.toNat (3 - cI out p - cI out q) := by
 unfold colStep
 rcases triS_six p c q with e | e | e | e | e | e <;> rw [e] <;> simp only
 ·rw [if_neg (by omega), if_pos hc]; congr 1; omega
 ·rw [if_neg (by omega), if_neg (by omega), if_pos hc]
 ·rw [if_pos hc]
 ·rw [if_pos hc]; congr 1; omega
 ·rw [if_neg (by omega), if_neg (by omega), if_pos hc]; congr 1; omega
 ·rw [if_neg (by omega), if_pos hc]
theorem Col.step {n : Nat} {l : List Int} {i : Nat} {out : List Int} (hl : Left n l) (h4 : 3 < l.length) (hi : i < l.length) (h : Col n (l.eraseIdx i) out) :
  (cI out (gI l i) = -1 ∧ (0 ≤ cI out (gI l (prvN l.length i)) ∧ cI out (gI l (prvN l.length i)) ≤ 2) ∧ (0 ≤ cI out (gI l (nxtN l.length i)) ∧ cI out (gI l (nxtN l.length i)) ≤ 2)) ∧ Col n l (colStep out (triAt l i)) := by
 have hlen := List.length_eraseIdx_of_lt hi
 obtain ⟨e1, e2, e3⟩ := prv_ne (n := l.length) (by omega) hi
 have hp := prv_lt (n := l.length) (i := i) (by omega)
 have hq := nxt_lt (n := l.length) (i := i) (by omega)
 have hpm : gI l (prvN l.length i) ∈ l.eraseIdx i := (hl.mem_erase hi).2 ⟨gI_mem hp, fun e => e1 (hl.inj hp hi e)⟩
 have hqm : gI l (nxtN l.length i) ∈ l.eraseIdx i := (hl.mem_erase hi).2 ⟨gI_mem hq, fun e => e2 (hl.inj hq hi e)⟩
 have hcn : gI l i ∉ l.eraseIdx i := fun hm => ((hl.mem_erase hi).1 hm).2 rfl
 have hc := h.no _ (hl.at hi).1 (hl.at hi).2 hcn
 have hcp := h.yes _ hpm
 have hcq := h.yes _ hqm
 have hpq : cI out (gI l (prvN l.length i)) ≠ cI out (gI l (nxtN l.length i)) := by
  have key : ∃ k, k < (l.eraseIdx i).length ∧ gI (l.eraseIdx i) k = gI l (prvN l.length i) ∧ gI (l.eraseIdx i) (nxtN (l.eraseIdx i).length k) = gI l (nxtN l.length i) := by
   rcases prv_eq hi with ⟨h1, h2⟩ | ⟨h1, h2⟩
   ·refine ⟨l.length - 2, by omega, by rw [gI_erase (by omega), if_neg (by omega), h2]; congr 1; omega, ?_⟩
    rcases nxt_eq (n := (l.eraseIdx i).length) (i := l.length - 2) (by omega) with ⟨g1, g2⟩ | ⟨g1, g2⟩
    ·rcases nxt_eq hi with ⟨g3, g4⟩ | ⟨g3, g4⟩
     ·omega
     ·rw [g2, g4, gI_erase (by omega), if_neg (by omega)]; congr 1; omega
    ·omega
   ·refine ⟨i - 1, by omega, by rw [gI_erase (by omega), if_pos (by omega), h2], ?_⟩
    rcases nxt_eq hi with ⟨g3, g4⟩ | ⟨g3, g4⟩
    ·rcases nxt_eq (n := (l.eraseIdx i).length) (i := i - 1) (by omega) with ⟨g1, g2⟩ | ⟨g1, g2⟩
     ·rw [g2, g4, gI_erase (by omega), if_pos (by omega)]
     ·omega
    ·rcases nxt_eq (n := (l.eraseIdx i).length) (i := i - 1) (by omega) with ⟨g1, g2⟩ | ⟨g1, g2⟩
     ·omega
     ·rw [g2, g4, gI_erase (by omega), if_neg (by omega)]; congr 1; omega
  obtain ⟨k, k1, k2, k3⟩ := key
  have := h.ne k k1
  rw [k2, k3] at this
  exact this
 refine ⟨⟨hc, hcp, hcq⟩, ?_⟩
 have hs : colStep out (triAt l i) = out.set (gI l i).toNat (3 - cI out (gI l (prvN l.length i)) - cI out (gI l (nxtN l.length i))) := colStep_cut (by omega) hcp.1 hcq.1
 have hcx : 0 ≤ gI l i ∧ gI l i < out.length := by rw [h.len]; exact hl.at hi
 have hget : ∀ y, 0 ≤ y → cI (colStep out (triAt l i)) y = if y = gI l i then 3 - cI out (gI l (prvN l.length i)) - cI out (gI l (nxtN l.length i)) else cI out y := fun y hy => by rw [hs]; exact cI_set hcx hy
 refine ⟨by rw [colStep_len, h.len], fun x hx => ?_, fun x h0 h1 hx => ?_, fun k hk => ?_⟩
 ·rw [hget x (hl.ge x hx)]
  split
  ·omega
  ·exact h.yes x ((hl.mem_erase hi).2 ⟨hx, by assumption⟩)
 ·rw [hget x h0, if_neg (fun e => hx (by rw [e]; exact gI_mem hi))]
  exact h.no x h0 h1 (fun hm => hx ((hl.mem_erase hi).1 hm).1)
 ·have hkn := nxt_lt (n := l.length) (i := k) (by omega)
  rw [hget _ (hl.at hk).1, hget _ (hl.at hkn).1]
  by_cases hki : k = i
  ·subst hki
   rw [if_pos rfl, if_neg (fun e => e2 (hl.inj hq hi e))]
   omega
  ·rw [if_neg (fun e => hki (hl.inj hk hi e))]
   by_cases hni : nxtN l.length k = i
   ·rw [if_pos (by rw [hni])]
    have hkp : k = prvN l.length i := by
     rcases nxt_eq hk with ⟨g1, g2⟩ | ⟨g1, g2⟩ <;> rcases prv_eq hi with ⟨g3, g4⟩ | ⟨g3, g4⟩ <;> omega
    rw [hkp]
    omega
   ·rw [if_neg (fun e => hni (hl.inj hkn hi e))]
    have key : ∃ j, j < (l.eraseIdx i).length ∧ gI (l.eraseIdx i) j = gI l k ∧ gI (l.eraseIdx i) (nxtN (l.eraseIdx i).length j) = gI l (nxtN l.length k) := by
     rcases Nat.lt_or_ge k i with h1 | h1
     ·refine ⟨k, by omega, by rw [gI_erase (by omega), if_pos h1], ?_⟩
      rcases nxt_eq hk with ⟨g1, g2⟩ | ⟨g1, g2⟩
      ·omega
      ·rcases nxt_eq (n := (l.eraseIdx i).length) (i := k) (by omega) with ⟨g3, g4⟩ | ⟨g3, g4⟩
       ·omega
       ·rw [g2, g4, gI_erase (by omega), if_pos (by omega)]
     ·refine ⟨k - 1, by omega, by rw [gI_erase (by omega), if_neg (by omega), show k - 1 + 1 = k by omega], ?_⟩
      rcases nxt_eq hk with ⟨g1, g2⟩ | ⟨g1, g2⟩
      ·rcases nxt_eq (n := (l.eraseIdx i).length) (i := k - 1) (by omega) with ⟨g3, g4⟩ | ⟨g3, g4⟩
       ·rw [g2, g4, gI_erase (by omega), if_pos (by omega)]
       ·omega
      ·rcases nxt_eq (n := (l.eraseIdx i).length) (i := k - 1) (by omega) with ⟨g3, g4⟩ | ⟨g3, g4⟩
       ·omega
       ·rw [g2, g4, gI_erase (by omega), if_neg (by omega)]; congr 1; omega
    obtain ⟨j, j1, j2, j3⟩ := key
    have := h.ne j j1
    rw [j2, j3] at this
    exact this
theorem Cutd.col {n : Nat} {l : List Int} {ts : List Tri} (h : Cutd l ts) (hl : Left n l) : Col n l (colF n ts) := by
 induction h with
 | last h3 =>
  rename_i l
  have h01 := hl.mono (i := 0) (j := 1) (by omega) (by omega)
  have h12 := hl.mono (i := 1) (j := 2) (by omega) (by omega)
  have a0 := hl.at (k := 0) (by omega)
  have a1 := hl.at (k := 1) (by omega)
  have a2 := hl.at (k := 2) (by omega)
  have hget : ∀ y : Int, 0 ≤ y → y < n → cI (colF n [triS (gI l 0) (gI l 1) (gI l 2)]) y = if y = gI l 2 then 2 else if y = gI l 1 then 1 else if y = gI l 0 then 0 else -1 := fun y hy hyn => by
   show cI (colBase n _) y = _
   rw [triS_sorted h01 h12]
   unfold colBase
   simp only
   rw [cI_set (by simp only [List.length_set, List.length_replicate]; omega) hy, cI_set (by simp only [List.length_set, List.length_replicate]; omega) hy, cI_set (by simp only [List.length_replicate]; omega) hy]
   have : cI (List.replicate n (-1 : Int)) y = -1 := by
    unfold cI
    rw [getD_lt _ (by simp; omega), List.getElem_replicate]
   rw [this]
  refine ⟨colF_len (by simp), fun x hx => ?_, fun x h0 h1 hx => ?_, fun k hk => ?_⟩
  ·rw [hget x (hl.ge x hx) (hl.lt x hx)]
   obtain ⟨k, hk, rfl⟩ := mem_gI.1 hx
   have : k = 0 ∨ k = 1 ∨ k = 2 := by omega
   rcases this with rfl | rfl | rfl
   ·rw [if_neg (by omega), if_neg (by omega), if_pos rfl]; omega
   ·rw [if_neg (by omega), if_pos rfl]; omega
   ·rw [if_pos rfl]; omega
  ·rw [hget x h0 h1, if_neg (fun e => hx (by rw [e]; exact gI_mem (by omega))), if_neg (fun e => hx (by rw [e]; exact gI_mem (by omega))), if_neg (fun e => hx (by rw [e]; exact gI_mem (by omega)))]
  ·have : k = 0 ∨ k = 1 ∨ k = 2 := by omega
   rw [h3]
   rcases this with rfl | rfl | rfl
   ·show cI _ (gI l 0) ≠ cI _ (gI l 1)
    rw [hget _ a0.1 a0.2, hget _ a1.1 a1.2, if_neg (by omega), if_neg (by omega), if_pos rfl, if_neg (by omega), if_pos rfl]
    decide
   ·show cI _ (gI l 1) ≠ cI _ (gI l 2)
    rw [hget _ a1.1 a1.2, hget _ a2.1 a2.2, if_neg (by omega), if_pos rfl, if_pos rfl]
    decide
   ·show cI _ (gI l 2) ≠ cI _ (gI l 0)
    rw [hget _ a2.1 a2.2, hget _ a0.1 a0.2, if_pos rfl, if_neg (by omega), if_neg (by omega), if_pos rfl]
    decide
 | step h4 hi hr ih =>
  rw [colF_cons hr.ne]
  exact (Col.step hl h4 hi (ih (hl.erase h4 hi))).2
def colorsM (xs : List Pt) : List Int := colF xs.length (trisM xs)
theorem colors_len {xs : List Pt} (h : trisM xs ≠ []) : (colorsM xs).length = xs.length := colF_len h
theorem colors_bd {xs : List Pt} {x : Int} (hx : x ∈ colorsM xs) : 0 ≤ x ∧ x ≤ 2 := by
 rcases tris_cutd xs with e | ⟨hr, hd⟩
 ·unfold colorsM at hx; rw [e] at hx; cases hx
 ·have hL := left_all (room_len hr).1
  have hc := hd.col hL
  obtain ⟨k, hk, rfl⟩ := mem_gI.1 hx
  have hkn : k < xs.length := by rw [← colors_len hd.ne]; exact hk
  have hm : (k : Int) ∈ allC xs.length := by unfold allC; exact List.mem_map.2 ⟨k, List.mem_range.2 hkn, rfl⟩
  have := hc.yes _ hm
  simpa [cI, colorsM] using this
theorem colors_step {xs : List Pt} {j : Nat} (hj : j + 1 < (trisM xs).length) : ∃ p c q, (trisM xs).getD j (0, 0, 0) = triS p c q ∧ cI (colF xs.length ((trisM xs).drop (j + 1))) c = -1 ∧
  (0 ≤ cI (colF xs.length ((trisM xs).drop (j + 1))) p ∧ cI (colF xs.length ((trisM xs).drop (j + 1))) p ≤ 2) ∧ (0 ≤ cI (colF xs.length ((trisM xs).drop (j + 1))) q ∧ cI (colF xs.length ((trisM xs).drop (j + 1))) q ≤ 2) := by
 rcases tris_cutd xs with e | ⟨hr, hd⟩
 ·rw [e] at hj; simp at hj
 ·have hL := left_all (room_len hr).1
  obtain ⟨l, hl, hc⟩ := hd.drop hL j (by omega)
  have he : (trisM xs).drop j = (trisM xs).getD j (0, 0, 0) :: (trisM xs).drop (j + 1) := by
   rw [List.drop_eq_getElem_cons (by omega : j < (trisM xs).length), getD_lt _ (by omega)]
  rw [he] at hc
  generalize htl : (trisM xs).drop (j + 1) = ts at hc ⊢
  have hne : ts ≠ [] := by
   rw [← htl]
   intro h0
   have := congrArg List.length h0
   simp at this
   omega
  generalize (trisM xs).getD j (0, 0, 0) = t at hc ⊢
  cases hc with
  | last h3 => exact absurd rfl hne
  | step h4 hi hcr =>
   rename_i i
   obtain ⟨⟨h1, h2, h3⟩, -⟩ := Col.step hl h4 hi (hcr.col (hl.erase h4 hi))
   exact ⟨_, _, _, rfl, h1, h2, h3⟩
end Go.Proofs.YtnepfcnlngpchaaGreat
namespace Go.Proofs.YtnepfcnlngpchaaGreat.Geo
open Go.RowKit
def subP (xs : List Pt) (l : List Int) : Poly := ⟨l.length, fun j => (roomP xs).v (gI l (j % l.length)).toNat, fun j => by show (roomP xs).v (gI l ((j + l.length) % l.length)).toNat = _; rw [Nat.add_mod_right]⟩
theorem sub_v (xs : List Pt) {l : List Int} {j : Nat} (h : j < l.length) : (subP xs l).v j = (roomP xs).v (gI l j).toNat := by
 show (roomP xs).v (gI l (j % l.length)).toNat = _
 rw [Nat.mod_eq_of_lt h]
theorem gI_all {n k : Nat} (h : k < n) : gI (allC n) k = k := by
 unfold gI allC
 rw [getD_lt _ (by simpa using h)]; simp
theorem sub_all {xs : List Pt} (hn : 0 < xs.length) : subP xs (allC xs.length) = roomP xs := by
 refine Poly.ext' (allC_len _) fun j => ?_
 show (roomP xs).v (gI (allC xs.length) (j % (allC xs.length).length)).toNat = _
 rw [allC_len, gI_all (Nat.mod_lt _ hn), Int.toNat_natCast]
 exact (roomP xs).per_mod j
theorem sub_erase (xs : List Pt) {l : List Int} (h3 : 3 < l.length) {i : Nat} (hi : i < l.length) : (subP xs (l.eraseIdx i)).rot i = partB ((subP xs l).rot (i + l.length - 1)) 2 := by
 have hl := List.length_eraseIdx_of_lt hi
 refine Poly.ext' (by show (l.eraseIdx i).length = l.length - 2 + 1; omega) fun j => ?_
 show (roomP xs).v (gI (l.eraseIdx i) ((i + j) % (l.eraseIdx i).length)).toNat = (roomP xs).v (gI l ((i + l.length - 1 + (2 + j % (l.length - 2 + 1))) % l.length)).toNat
 have hm : j % (l.length - 1) < l.length - 1 := Nat.mod_lt _ (by omega)
 rw [hl, show l.length - 2 + 1 = l.length - 1 by omega, ← Nat.add_mod_mod]
 generalize j % (l.length - 1) = r at hm
 have e1 : (i + l.length - 1 + (2 + r)) % l.length = (i + 1 + r) % l.length := by
  rw [show i + l.length - 1 + (2 + r) = i + 1 + r + l.length by omega, Nat.add_mod_right]
 rw [e1]
 rcases Nat.lt_or_ge (i + 1 + r) l.length with g | g
 ·rw [Nat.mod_eq_of_lt g, Nat.mod_eq_of_lt (show i + r < l.length - 1 by omega), gI_erase (by omega), if_neg (by omega), show i + r + 1 = i + 1 + r by omega]
 ·rw [Nat.mod_eq_sub_mod g, Nat.mod_eq_of_lt (show i + 1 + r - l.length < l.length by omega), Nat.mod_eq_sub_mod (show l.length - 1 ≤ i + r by omega), Nat.mod_eq_of_lt (show i + r - (l.length - 1) < l.length - 1 by omega),
   gI_erase (by omega), if_pos (by omega), show i + r - (l.length - 1) = i + 1 + r - l.length by omega]
structure Sub (xs : List Pt) (l : List Int) : Prop where
 left : Left xs.length l
 sim : SimpleP (subP xs l)
 area : 0 < (subP xs l).area
 out : ∀ {K x}, 0 < K → Outp (roomP xs) K x → Outp (subP xs l) K x
 inn : ∀ {K x}, 0 < K → Inn (subP xs l) K x → Inn (roomP xs) K x
theorem Sub.all {xs : List Pt} (hr : roomOk xs = true) : Sub xs (allC xs.length) := by
 have e := sub_all (room_pos hr)
 exact ⟨left_all (room_len hr).1, by rw [e]; exact room_simple hr, by rw [e]; exact (room_area hr).2.1, fun _ h => by rw [e]; exact h, fun _ h => by rw [e] at h; exact h⟩
theorem Inn.rot {P : Poly} {K : Int} {x : Pt} (h : Inn P K x) (s : Nat) : Inn (P.rot s) K x := by
 obtain ⟨ho, g, hg, e⟩ := h
 refine ⟨fun k hk => ?_, g, hg, by rw [← e]; exact wnd_rot g (P.sc K) s x⟩
 have hn : 0 < P.n := by have hk : k < P.n := hk; omega
 have := ho ((s + k) % P.n) (Nat.mod_lt _ hn)
 rw [P.per_mod, P.per_add] at this
 exact this
theorem Inn.rot_iff {P : Poly} {K : Int} {x : Pt} (hn : 1 ≤ P.n) (s : Nat) : Inn (P.rot s) K x ↔ Inn P K x :=
 ⟨fun h => by have := h.rot (s * (P.n - 1)); rw [rot_back P s hn] at this; exact this, fun h => h.rot s⟩
abbrev EarL (xs : List Pt) (l : List Int) (i : Nat) : Prop := EarI (subP xs l) (i + l.length - 1)
theorem ear_pts (xs : List Pt) {l : List Int} (h3 : 3 ≤ l.length) {i : Nat} (hi : i < l.length) :
  (subP xs l).v (i + l.length - 1) = (roomP xs).v (gI l (prvN l.length i)).toNat ∧ (subP xs l).v (i + l.length - 1 + 1) = (roomP xs).v (gI l i).toNat ∧ (subP xs l).v (i + l.length - 1 + 2) = (roomP xs).v (gI l (nxtN l.length i)).toNat := by
 refine ⟨rfl, ?_, ?_⟩
 ·show (roomP xs).v (gI l ((i + l.length - 1 + 1) % l.length)).toNat = _
  rw [show i + l.length - 1 + 1 = i + l.length by omega, Nat.add_mod_right, Nat.mod_eq_of_lt hi]
 ·show (roomP xs).v (gI l ((i + l.length - 1 + 2) % l.length)).toNat = _
  rw [show i + l.length - 1 + 2 = i + 1 + l.length by omega, Nat.add_mod_right]; rfl
theorem Sub.some {xs : List Pt} {l : List Int} (h : Sub xs l) (h3 : 3 < l.length) : ∃ i, i < l.length ∧ EarL xs l i := by
 obtain ⟨s, d, -, -, e, -⟩ := two_ears l.length (subP xs l) rfl h3 h.sim h.area
 refine ⟨(s + 1) % l.length, Nat.mod_lt _ (by omega), ?_⟩
 have key : ∀ d, (subP xs l).v ((s + 1) % l.length + l.length - 1 + d) = (subP xs l).v (s + d) := fun d => by
  rw [show (s + 1) % l.length + l.length - 1 + d = (s + 1) % (subP xs l).n + (l.length - 1 + d) by show _ = (s + 1) % l.length + _; omega, (subP xs l).per_add, show s + 1 + (l.length - 1 + d) = s + d + l.length by omega]
  exact (subP xs l).per (s + d)
 show EarP _ _ _ _
 have k0 : (subP xs l).v ((s + 1) % l.length + l.length - 1) = (subP xs l).v s := key 0
 rw [k0, key 1, key 2]
 exact e
theorem room_v {xs : List Pt} {k : Int} (h0 : 0 ≤ k) (h : k < xs.length) : (roomP xs).v k.toNat = pI xs k := v_lt (by omega)
theorem turnI {xs : List Pt} (hr : roomOk xs = true) {a b c : Int} (ha : 0 ≤ a ∧ a < xs.length) (hb : 0 ≤ b ∧ b < xs.length) (hc : 0 ≤ c ∧ c < xs.length) : turn (pI xs a) (pI xs b) (pI xs c) = turnZ ((roomP xs).v a.toNat) ((roomP xs).v b.toNat) ((roomP xs).v c.toNat) := by
 rw [room_v ha.1 ha.2, room_v hb.1 hb.2, room_v hc.1 hc.2]
 exact turn_exact (bd_of_ok (corner_ok hr (by omega))) (bd_of_ok (corner_ok hr (by omega))) (bd_of_ok (corner_ok hr (by omega)))
theorem inTri_iff {a b c p : Pt} (ha : Bd a) (hb : Bd b) (hc : Bd c) (hp : Bd p) : inTri a b c p = true ↔ 0 ≤ turnZ a b p ∧ 0 ≤ turnZ b c p ∧ 0 ≤ turnZ c a p := by
 unfold inTri
 rw [turn_exact ha hb hp, turn_exact hb hc hp, turn_exact hc ha hp]
 simp only [Bool.and_eq_true, decide_eq_true_eq]
theorem left_bd {xs : List Pt} (hr : roomOk xs = true) {l : List Int} (hL : Left xs.length l) {k : Nat} (hk : k < l.length) : Bd (pI xs (gI l k)) := by
 have := hL.at hk
 exact bd_of_ok (corner_ok hr (by omega))
theorem Sub.ear_of {xs : List Pt} (hr : roomOk xs = true) {l : List Int} (h : Sub xs l) {i : Nat} (hi : i < l.length) (hc : cutM xs l i = true) : EarL xs l i := by
 have h3 := h.left.len
 obtain ⟨-, ht, hno⟩ := cutM_iff.1 hc
 have hp : prvN l.length i < l.length := prv_lt (by omega)
 have hn : nxtN l.length i < l.length := nxt_lt (by omega)
 obtain ⟨e0, e1, e2⟩ := ear_pts xs h3 hi
 show EarP _ _ _ _
 rw [e0, e1, e2]
 rw [turnI hr (h.left.at hp) (h.left.at hi) (h.left.at hn)] at ht
 refine ⟨ht, fun j n0 n1 n2 hb => ?_⟩
 have hj : j % l.length < l.length := Nat.mod_lt _ (by omega)
 have ej : (subP xs l).v j = (roomP xs).v (gI l (j % l.length)).toNat := rfl
 rw [ej] at n0 n1 n2 hb
 generalize j % l.length = r at hj n0 n1 n2 hb
 rcases hno r hj with g | g | g | g
 ·exact n0 (by rw [g])
 ·exact n1 (by rw [g])
 ·exact n2 (by rw [g])
 ·have rv : ∀ {k}, k < l.length → (roomP xs).v (gI l k).toNat = pI xs (gI l k) := fun hk => room_v (h.left.at hk).1 (h.left.at hk).2
  rw [rv hp, rv hi, rv hn, rv hj] at hb
  have := (inTri_iff (left_bd hr h.left hp) (left_bd hr h.left hi) (left_bd hr h.left hn) (left_bd hr h.left hj)).2 hb
  rw [g] at this
  cases this
theorem Sub.cut2 {xs : List Pt} {l : List Int} (h : Sub xs l) (h3 : 3 < l.length) {i : Nat} (he : EarL xs l i) : Cut ((subP xs l).rot (i + l.length - 1)) 2 :=
 ear_cut (h.sim.rot _) (by rw [area_rot]; exact h.area) h3 ((EarI.rot (show 0 < l.length by omega)).2 he)
theorem Sub.step {xs : List Pt} {l : List Int} (h : Sub xs l) (h3 : 3 < l.length) {i : Nat} (hi : i < l.length) (he : EarL xs l i) : Sub xs (l.eraseIdx i) := by
 have c := h.cut2 h3 he
 have hR := h.sim.rot (i + l.length - 1)
 have hl := List.length_eraseIdx_of_lt hi
 have e := sub_erase xs h3 hi
 have n1 : 1 ≤ (subP xs (l.eraseIdx i)).n := by show 1 ≤ (l.eraseIdx i).length; omega
 have nl : 1 ≤ (subP xs l).n := by show 1 ≤ l.length; omega
 have hb : (subP xs (l.eraseIdx i)) = (partB ((subP xs l).rot (i + l.length - 1)) 2).rot (i * ((subP xs (l.eraseIdx i)).n - 1)) := by rw [← e, rot_back _ _ n1]
 obtain ⟨c', e'⟩ := c.rot
 refine ⟨h.left.erase h3 hi, by rw [hb]; exact (c.simB hR).rot _, by rw [hb, area_rot]; exact c.b, fun hK o => ?_, fun hK o => h.inn hK ?_⟩
 ·rw [← Outp.rot_iff n1 i, e]
  exact (c.out_both hR hK ((h.out hK o).rot _)).2
 ·rw [← Inn.rot_iff n1 i, e] at o
  have := c'.inn_of (hR.rot 2) hK o
  rwa [Inn.rot_iff (P := (subP xs l).rot (i + l.length - 1)) nl, Inn.rot_iff nl] at this
theorem Sub.chord_inn {xs : List Pt} {l : List Int} (h : Sub xs l) (h3 : 3 < l.length) {i : Nat} (hi : i < l.length) (he : EarL xs l i) {s t K : Int} (hs : 0 < s) (ht : 0 < t) (e : s + t = K) :
  Inn (roomP xs) K (padd (smul s ((roomP xs).v (gI l (prvN l.length i)).toNat)) (smul t ((roomP xs).v (gI l (nxtN l.length i)).toNat))) := by
 have c := h.cut2 h3 he
 have := c.inn (h.sim.rot _) hs ht e
 rw [Inn.rot_iff (show 1 ≤ l.length by omega)] at this
 have := h.inn (by omega) this
 obtain ⟨e0, e1, e2⟩ := ear_pts xs (by omega) hi
 rw [← e0, ← e2]
 exact this
theorem mid_inn {xs : List Pt} (hr : roomOk xs = true) {p q : Pt} (hp : -40 ≤ p.1 ∧ p.1 ≤ 40 ∧ -40 ≤ p.2 ∧ p.2 ≤ 40) (hq : -40 ≤ q.1 ∧ q.1 ≤ 40 ∧ -40 ≤ q.2 ∧ q.2 ≤ 40) : midM xs p q = 2 ↔ Inn (roomP xs) 2 (padd p q) := by
 have h := pt_of_room hr
 have hn := room_pos hr
 have hmo := mid_out hr hp hq
 have e : sumP p q = padd p q := by
  unfold sumP padd
  rw [W_in (by omega) (by omega), W_in (by omega) (by omega)]
 have hs : Bd (padd p q) := by
  unfold Bd padd
  simp only
  omega
 have hy : (xs.map twP).length = xs.length := by simp
 have hv : ∀ k, pCy (xs.map twP) k = smul 2 (pCy xs k) := fun k => by
  have hk : k % xs.length < xs.length := Nat.mod_lt _ hn
  show (xs.map twP).getD (k % (xs.map twP).length) (0, 0) = smul 2 (xs.getD (k % xs.length) (0, 0))
  rw [List.length_map, getD_lt _ (by rw [List.length_map]; exact hk), getD_lt _ hk, List.getElem_map]
  exact twP_eq (h _ (List.getElem_mem hk))
 have hb : ∀ q ∈ xs.map twP, Bd q := fun c' hc' => by
  obtain ⟨c, hc, rfl⟩ := List.mem_map.1 hc'
  have := h c hc
  rw [twP_eq this]
  unfold Bd smul
  simp only
  omega
 have hP := room_simple hr
 have ne : ∀ k, k < xs.length → smul 2 ((roomP xs).v k) ≠ smul 2 ((roomP xs).v (k + 1)) := fun k hk e => by
  apply hP.ne k
  have e1 := congrArg Prod.fst e
  have e2 := congrArg Prod.snd e
  exact Prod.ext (Int.eq_of_mul_eq_mul_left (by omega) e1) (Int.eq_of_mul_eq_mul_left (by omega) e2)
 have wa : ∀ k, k < xs.length → pAt (xs.map twP) k = smul 2 ((roomP xs).v k) ∧ pCy (xs.map twP) (k + 1) = smul 2 ((roomP xs).v (k + 1)) := fun k hk => ⟨(pCy_lt (by omega)).symm.trans (hv k), hv (k + 1)⟩
 have onoff : ∀ k, k < xs.length → (onAt (xs.map twP) (padd p q) k = false ↔ Off (padd p q) (smul 2 ((roomP xs).v k)) (smul 2 ((roomP xs).v (k + 1)))) := fun k hk => by
  have b1 : Bd (pAt (xs.map twP) k) := pAt_bd hb (by omega)
  have b2 : Bd (pCy (xs.map twP) (k + 1)) := pCy_bd hb (by omega)
  show onS (padd p q) (pAt (xs.map twP) k) (pCy (xs.map twP) (k + 1)) = false ↔ _
  constructor
  ·intro h0
   rcases off_or_on (padd p q) (ne k hk) with g | g
   ·exact g
   ·rw [← (wa k hk).1, ← (wa k hk).2] at g
    rw [g.onS b1 b2 hs] at h0
    exact absurd h0 (by decide)
  ·intro g
   cases h0 : onS (padd p q) (pAt (xs.map twP) k) (pCy (xs.map twP) (k + 1)) with
   | false => rfl
   | true =>
    exfalso
    have := onS_OnM b1 b2 hs h0
    rw [(wa k hk).1, (wa k hk).2] at this
    exact this.not_off g
 have two : midM xs p q = 2 ↔ midM xs p q ≠ 0 ∧ onAny (xs.map twP) (padd p q) = false := by
  unfold midM
  rw [e]
  unfold placeM
  split
  ·rename_i g; rw [g]; simp
  ·rename_i g; split <;> simp [Bool.eq_false_iff.2 g]
 rw [two, ne_eq, hmo]
 have hoff : onAny (xs.map twP) (padd p q) = false ↔ OffP (roomP xs) 2 (padd p q) := by
  constructor
  ·intro g k hk
   have hk : k < xs.length := hk
   exact (onoff k hk).1 (onAny_off g (by omega))
  ·intro g
   exact onAny_no fun k hk => (onoff k (by omega)).2 (g k (by show k < xs.length; omega))
 rw [hoff]
 constructor
 ·rintro ⟨g1, g2⟩
  exact (out_or_in hP (room_area hr).2.1 (by decide) g2).resolve_left g1
 ·intro g
  exact ⟨g.not_out, g.1⟩
theorem diag_of_inn {xs : List Pt} (hr : roomOk xs = true) {i k : Nat} (hi : i < xs.length) (hk : k < xs.length) (hik : i ≠ k) (hin : ∀ s t K : Int, 0 < s → 0 < t → s + t = K → Inn (roomP xs) K (padd (smul s ((roomP xs).v i)) (smul t ((roomP xs).v k)))) : diagC xs i k = true := by
 have vi : (roomP xs).v i = pAt xs i := v_lt hi
 have vk : (roomP xs).v k = pAt xs k := v_lt hk
 rw [diagC_iff]
 refine ⟨?_, ?_, ?_⟩
 ·rw [seesS_noout hr (corner_ok hr hi) (corner_ok hr hk) (corner_in hr hi) (corner_in hr hk)]
  intro s t hs ht hst o
  rcases (show s = 0 ∨ t = 0 ∨ (0 < s ∧ 0 < t) by omega) with g | g | ⟨g1, g2⟩
  ·subst g
   have e : padd (smul 0 (pAt xs i)) (smul t (pAt xs k)) = smul t ((roomP xs).v k) := by rw [vk]; unfold padd smul; simp
   rw [e] at o
   refine corner_not_out (roomP xs) k (by show 0 < xs.length; omega) (Outp.desc (L := t) (by omega) ?_)
   rw [Int.mul_one]; rwa [Int.zero_add] at o
  ·subst g
   have e : padd (smul s (pAt xs i)) (smul 0 (pAt xs k)) = smul s ((roomP xs).v i) := by rw [vi]; unfold padd smul; simp
   rw [e] at o
   refine corner_not_out (roomP xs) i (by show 0 < xs.length; omega) (Outp.desc (L := s) (by omega) ?_)
   rw [Int.mul_one]; rwa [Int.add_zero] at o
  ·have := hin s t (s + t) g1 g2 rfl
   rw [vi, vk] at this
   exact this.not_out o
 ·rw [freeTo_iff]
  intro j hj
  by_cases e1 : j = i
  ·exact .inl e1
  by_cases e2 : j = k
  ·exact .inr (.inl e2)
  refine .inr (.inr ?_)
  cases h0 : onS (pAt xs j) (pAt xs i) (pAt xs k) with
  | false => rfl
  | true =>
   exfalso
   obtain ⟨s, t, hs, ht, h0, x1, x2⟩ := (onS_OnM (bd_of_ok (corner_ok hr hi)) (bd_of_ok (corner_ok hr hk)) (bd_of_ok (corner_ok hr hj)) h0).coords
   have hne : ∀ {a}, a < xs.length → j ≠ a → pAt xs j ≠ pAt xs a := fun ha hja e => hja (room_inj hr hj ha e)
   rcases (show s = 0 ∨ t = 0 ∨ (0 < s ∧ 0 < t) by omega) with g | g | ⟨g1, g2⟩
   ·subst g
    refine hne hk e2 (Prod.ext (Int.eq_of_mul_eq_mul_left (show t ≠ 0 by omega) (by simpa using x1)) (Int.eq_of_mul_eq_mul_left (show t ≠ 0 by omega) (by simpa using x2)))
   ·subst g
    refine hne hi e1 (Prod.ext (Int.eq_of_mul_eq_mul_left (show s ≠ 0 by omega) (by simpa using x1)) (Int.eq_of_mul_eq_mul_left (show s ≠ 0 by omega) (by simpa using x2)))
   ·have := hin s t (s + t) g1 g2 rfl
    rw [vi, vk, show padd (smul s (pAt xs i)) (smul t (pAt xs k)) = smul (s + t) ((roomP xs).v j) by rw [v_lt hj]; exact Prod.ext x1.symm x2.symm] at this
    have := this.1 j hj
    exact (Off.ne this).1 rfl
 ·rw [mid_inn hr (ptOk_iff.1 (corner_ok hr hi)) (ptOk_iff.1 (corner_ok hr hk))]
  have := hin 1 1 2 (by decide) (by decide) rfl
  rwa [vi, vk, smul_one, smul_one] at this
theorem Sub.cut_of {xs : List Pt} (hr : roomOk xs = true) {l : List Int} (h : Sub xs l) (h3 : 3 < l.length) {i : Nat} (hi : i < l.length) (he : EarL xs l i) : cutM xs l i = true := by
 have hp : prvN l.length i < l.length := prv_lt (by omega)
 have hn : nxtN l.length i < l.length := nxt_lt (by omega)
 obtain ⟨q1, q2, q3⟩ := prv_ne (by omega) hi
 obtain ⟨e0, e1, e2⟩ := ear_pts xs (by omega) hi
 have ap := h.left.at hp
 have an := h.left.at hn
 have hne : gI l (prvN l.length i) ≠ gI l (nxtN l.length i) := fun e => q3 (h.left.inj hp hn e)
 have heP : EarP (subP xs l) _ _ _ := he
 rw [e0, e1, e2] at heP
 rw [cutM_iff]
 refine ⟨?_, by rw [turnI hr ap (h.left.at hi) an]; exact heP.1, fun j hj => ?_⟩
 ·cases hnb : neighZ xs.length (gI l (prvN l.length i)) (gI l (nxtN l.length i)) with
  | true => exact .inr rfl
  | false =>
   left
   rw [diagM_iff]
   refine ⟨btw_iff.2 (by omega), btw_iff.2 (by omega), hne, hnb, diag_of_inn hr (by omega) (by omega) (by omega) fun s t K hs ht e => h.chord_inn h3 hi he hs ht e⟩
 ·by_cases g0 : gI l j = gI l (prvN l.length i)
  ·exact .inl g0
  by_cases g1 : gI l j = gI l i
  ·exact .inr (.inl g1)
  by_cases g2 : gI l j = gI l (nxtN l.length i)
  ·exact .inr (.inr (.inl g2))
  refine .inr (.inr (.inr ?_))
  have rv : ∀ {k}, k < l.length → (roomP xs).v (gI l k).toNat = pI xs (gI l k) := fun hk => room_v (h.left.at hk).1 (h.left.at hk).2
  have dif : ∀ {k}, k < l.length → gI l j ≠ gI l k → (subP xs l).v j ≠ (roomP xs).v (gI l k).toNat := fun {k} hk hjk e => by
   rw [sub_v xs hj, rv hj, rv hk] at e
   have a1 := h.left.at hj
   have a2 := h.left.at hk
   have := room_inj hr (by omega) (by omega) e
   omega
  have := heP.2 j (dif hp g0) (dif hi g1) (dif hn g2)
  rw [sub_v xs hj, rv hp, rv hi, rv hn, rv hj] at this
  exact Bool.eq_false_iff.2 fun hb => this ((inTri_iff (left_bd hr h.left hp) (left_bd hr h.left hi) (left_bd hr h.left hn) (left_bd hr h.left hj)).1 hb)
theorem Sub.first {xs : List Pt} (hr : roomOk xs = true) {l : List Int} (h : Sub xs l) (h3 : 3 < l.length) : ∃ i, firstCut xs l = Option.some i ∧ i < l.length ∧ EarL xs l i := by
 obtain ⟨i, hi, he⟩ := h.some h3
 cases hf : firstCut xs l with
 | some j =>
  have := firstCut_spec hf
  exact ⟨j, rfl, this.1, h.ear_of hr this.1 this.2⟩
 | none =>
  exfalso
  unfold firstCut at hf
  rw [List.find?_eq_none] at hf
  exact hf i (List.mem_range.2 hi) (h.cut_of hr h3 hi he)
abbrev tv (xs : List Pt) (k : Int) : Pt := (roomP xs).v k.toNat
def areaT (xs : List Pt) (t : Tri) : Int := turnZ (tv xs t.1) (tv xs t.2.1) (tv xs t.2.2)
def InC (a b c p : Pt) : Prop := 0 ≤ turnZ a b p ∧ 0 ≤ turnZ b c p ∧ 0 ≤ turnZ c a p
theorem InC.cyc {a b c p : Pt} (h : InC a b c p) : InC b c a p := ⟨h.2.1, h.2.2, h.1⟩
abbrev InT3 (xs : List Pt) (t : Tri) (p : Pt) : Prop := InC (tv xs t.1) (tv xs t.2.1) (tv xs t.2.2) p
theorem triAt_cyc {n : Nat} {l : List Int} (hL : Left n l) {i : Nat} (hi : i < l.length) :
  triAt l i = (gI l (prvN l.length i), gI l i, gI l (nxtN l.length i)) ∨ triAt l i = (gI l i, gI l (nxtN l.length i), gI l (prvN l.length i)) ∨ triAt l i = (gI l (nxtN l.length i), gI l (prvN l.length i), gI l i) := by
 have h3 := hL.len
 unfold triAt
 rcases prv_eq hi with ⟨h1, h2⟩ | ⟨h1, h2⟩ <;> rcases nxt_eq hi with ⟨h4, h5⟩ | ⟨h4, h5⟩
 ·omega
 ·right; left
  have m1 := hL.mono (i := i) (j := nxtN l.length i) (by omega) (by omega)
  have m2 := hL.mono (i := nxtN l.length i) (j := prvN l.length i) (by omega) (by omega)
  unfold triS
  simp only [Prod.mk.injEq]
  omega
 ·right; right
  have m1 := hL.mono (i := nxtN l.length i) (j := prvN l.length i) (by omega) (by omega)
  have m2 := hL.mono (i := prvN l.length i) (j := i) (by omega) (by omega)
  unfold triS
  simp only [Prod.mk.injEq]
  omega
 ·left
  have m1 := hL.mono (i := prvN l.length i) (j := i) (by omega) (by omega)
  have m2 := hL.mono (i := i) (j := nxtN l.length i) (by omega) (by omega)
  unfold triS
  simp only [Prod.mk.injEq]
  omega
structure Tri3 (xs : List Pt) (a b c : Pt) : Prop where
 pos : 0 < turnZ a b c
 see : ∀ p, InC a b c p → NoOut (roomP xs) a p ∧ NoOut (roomP xs) b p ∧ NoOut (roomP xs) c p
theorem Tri3.cyc {xs : List Pt} {a b c : Pt} (h : Tri3 xs a b c) : Tri3 xs b c a :=
 ⟨by rw [turn_cyc]; exact h.pos, fun p hp => by
  obtain ⟨h1, h2, h3⟩ := h.see p hp.cyc.cyc
  exact ⟨h2, h3, h1⟩⟩
theorem NoOut.swap {P : Poly} {a b : Pt} (h : NoOut P a b) : NoOut P b a := fun s t hs ht hst o => by
 refine h t s ht hs (by omega) ?_
 rw [show padd (smul t a) (smul s b) = padd (smul s b) (smul t a) by unfold padd; exact Prod.ext (Int.add_comm _ _) (Int.add_comm _ _), Int.add_comm]
 exact o
theorem tri3_of {xs : List Pt} {Q : Poly} (hQ : SimpleP Q) (hn : Q.n = 3) (ha : 0 < Q.area) (out : ∀ {K x}, 0 < K → Outp (roomP xs) K x → Outp Q K x) : Tri3 xs (Q.v 0) (Q.v 1) (Q.v 2) := by
 have ht : 0 < turnZ (Q.v 0) (Q.v 1) (Q.v 2) := by rwa [tri_area' hn] at ha
 have c3 : ∀ j, Q.v (j + 3) = Q.v j := fun j => by rw [← hn, Q.per]
 refine ⟨ht, fun p ⟨h0, h1, h2⟩ => ?_⟩
 have st : ∀ k, NoOut (roomP xs) (Q.v k) p := fun k => NoOut.swap fun s t hs ht' hst o => by
  refine star hQ (fun j => by rw [tri_turns hn]; omega) ha (p := p) (fun k hk => ?_) (corner_not_out Q k (by omega)) s t hs ht' hst (out hst o)
  rcases (show k = 0 ∨ k = 1 ∨ k = 2 by omega) with q | q | q <;> subst q
  ·exact h0
  ·exact h1
  ·rw [c3 0]; exact h2
 exact ⟨st 0, st 1, st 2⟩
theorem inC_of {Q : Poly} (hn : Q.n = 3) (ha : 0 < Q.area) {p : Pt} (h : ¬ Outp Q 1 p) : InC (Q.v 0) (Q.v 1) (Q.v 2) p := by
 have ht : 0 < turnZ (Q.v 0) (Q.v 1) (Q.v 2) := by rwa [tri_area' hn] at ha
 have c3 : ∀ j, Q.v (j + 3) = Q.v j := fun j => by rw [← hn, Q.per]
 have g : ∀ k, k < 3 → 0 ≤ turnZ (Q.v k) (Q.v (k + 1)) p := fun k hk => tri_in hn h k (by omega) (by rw [tri_turns hn]; omega)
 refine ⟨g 0 (by decide), g 1 (by decide), ?_⟩
 have := g 2 (by decide)
 rwa [c3 0] at this
structure TriGood (xs : List Pt) (l : List Int) (ts : List Tri) : Prop where
 cut : Cutd l ts
 len : ts.length + 2 = l.length
 sum : (ts.map (areaT xs)).sum = (subP xs l).area
 tri : ∀ t ∈ ts, Tri3 xs (tv xs t.1) (tv xs t.2.1) (tv xs t.2.2)
 all : ∀ p, ¬ Outp (subP xs l) 1 p → ∃ t ∈ ts, InT3 xs t p
theorem sub3 {xs : List Pt} {l : List Int} (h : l.length = 3) : (subP xs l).v 0 = tv xs (gI l 0) ∧ (subP xs l).v 1 = tv xs (gI l 1) ∧ (subP xs l).v 2 = tv xs (gI l 2) :=
 ⟨sub_v xs (by omega), sub_v xs (by omega), sub_v xs (by omega)⟩
theorem Sub.good {xs : List Pt} (hr : roomOk xs = true) : ∀ (f : Nat) (l : List Int) (out : List Tri), l.length = f + 3 → Sub xs l → ∃ ts, triRun xs f l out = out ++ ts ∧ TriGood xs l ts
 | 0, l, out, hl, h => by
  have hl : l.length = 3 := by omega
  have h01 := h.left.mono (i := 0) (j := 1) (by omega) (by omega)
  have h12 := h.left.mono (i := 1) (j := 2) (by omega) (by omega)
  obtain ⟨e0, e1, e2⟩ := sub3 (xs := xs) hl
  have es := triS_sorted h01 h12
  have hn : (subP xs l).n = 3 := hl
  refine ⟨_, rfl, .last hl, by simp [hl], ?_, fun t ht => ?_, fun p hp => ⟨_, List.mem_singleton.2 rfl, ?_⟩⟩
  ·rw [tri_area' hn, e0, e1, e2, List.map_cons, List.map_nil, List.sum_cons, List.sum_nil, Int.add_zero, areaT, es]
  ·rw [List.mem_singleton.1 ht, es]
   have := tri3_of h.sim hn h.area h.out
   rw [e0, e1, e2] at this
   exact this
  ·rw [es]
   have := inC_of hn h.area hp
   rw [e0, e1, e2] at this
   exact this
 | f + 1, l, out, hl, h => by
  have h3 : 3 < l.length := by omega
  obtain ⟨i, hf, hi, he⟩ := h.first hr h3
  have hle := List.length_eraseIdx_of_lt hi
  have hS := h.step h3 hi he
  obtain ⟨ts, er, G⟩ := Sub.good hr f (l.eraseIdx i) (out ++ [triAt l i]) (by omega) hS
  have c := h.cut2 h3 he
  have hR := h.sim.rot (i + l.length - 1)
  have ep := sub_erase xs h3 hi
  obtain ⟨e0, e1, e2⟩ := ear_pts xs (by omega) hi
  have a0 : (((subP xs l).rot (i + l.length - 1)).arc 2).v 0 = tv xs (gI l (prvN l.length i)) := by rw [arc_v _ (by omega)]; exact e0
  have a1 : (((subP xs l).rot (i + l.length - 1)).arc 2).v 1 = tv xs (gI l i) := by rw [arc_v _ (by omega)]; exact e1
  have a2 : (((subP xs l).rot (i + l.length - 1)).arc 2).v 2 = tv xs (gI l (nxtN l.length i)) := by rw [arc_v _ (by omega)]; exact e2
  have T := tri3_of (xs := xs) (c.simA hR) rfl c.a fun hK o => (c.out_both hR hK ((h.out hK o).rot _)).1
  rw [a0, a1, a2] at T
  have nl : 1 ≤ (subP xs l).n := by show 1 ≤ l.length; omega
  have ne : 1 ≤ (subP xs (l.eraseIdx i)).n := by show 1 ≤ (l.eraseIdx i).length; omega
  have hcyc := triAt_cyc h.left hi
  refine ⟨triAt l i :: ts, ?_, .step h3 hi G.cut, ?_, ?_, fun t ht => ?_, fun p hp => ?_⟩
  ·unfold triRun
   rw [hf]
   show triRun xs f (l.eraseIdx i) (out ++ [triAt l i]) = _
   rw [er]; simp
  ·have := G.len
   simp only [List.length_cons]; omega
  ·rw [List.map_cons, List.sum_cons, G.sum]
   have q := area_cut ((subP xs l).rot (i + l.length - 1)) (m := 2) (by show 2 ≤ l.length; omega)
   have q2 : (((subP xs l).rot (i + l.length - 1)).rot 2).arc (((subP xs l).rot (i + l.length - 1)).n - 2) = (subP xs (l.eraseIdx i)).rot i := ep.symm
   rw [q2, area_rot, area_rot, tri_area' (show (((subP xs l).rot (i + l.length - 1)).arc 2).n = 3 from rfl), a0, a1, a2] at q
   rw [q]
   congr 1
   unfold areaT
   rcases hcyc with e | e | e <;> rw [e]
   ·exact turn_cyc _ _ _
   ·exact (turn_cyc _ _ _).symm
  ·rcases List.mem_cons.1 ht with rfl | ht
   ·rcases hcyc with e | e | e <;> rw [e]
    ·exact T
    ·exact T.cyc
    ·exact T.cyc.cyc
   ·exact G.tri t ht
  ·by_cases hB : Outp (subP xs (l.eraseIdx i)) 1 p
   ·have hA : ¬ Outp (((subP xs l).rot (i + l.length - 1)).arc 2) 1 p := fun hA => by
     have hB := hB.rot i
     rw [ep] at hB
     have := c.out hA hB
     rw [Outp.rot_iff nl] at this
     exact hp this
    have hI := inC_of rfl c.a hA
    rw [a0, a1, a2] at hI
    refine ⟨triAt l i, List.mem_cons_self, ?_⟩
    show InC _ _ _ _
    rcases hcyc with e | e | e <;> rw [e]
    ·exact hI
    ·exact hI.cyc
    ·exact hI.cyc.cyc
   ·obtain ⟨t, ht, h'⟩ := G.all p hB
    exact ⟨t, List.mem_cons_of_mem _ ht, h'⟩
theorem tris_good {xs : List Pt} (hr : roomOk xs = true) : TriGood xs (allC xs.length) (trisM xs) := by
 have h3 := (room_len hr).1
 obtain ⟨ts, e, G⟩ := Sub.good hr (xs.length - 3) (allC xs.length) [] (by rw [allC_len]; omega) (Sub.all hr)
 unfold trisM
 rw [if_pos hr, e, List.nil_append]
 exact G
theorem tris_count {xs : List Pt} (hr : roomOk xs = true) : (trisM xs).length + 2 = xs.length := by
 have := (tris_good hr).len
 rwa [allC_len] at this
theorem tris_ne {xs : List Pt} (hr : roomOk xs = true) : trisM xs ≠ [] := fun e => by
 have := tris_count hr
 have := (room_len hr).1
 rw [e] at *
 simp at *
 omega
theorem tris_all {xs : List Pt} {p : Pt} (hp : p ∈ floorPts xs) : ∃ t ∈ trisM xs, InT3 xs t p := by
 obtain ⟨hr, hpt, hi⟩ := mem_floor.1 hp
 refine (tris_good hr).all p ?_
 rw [sub_all (room_pos hr)]
 exact fun o => hi ((out_iff hr (bd_of_ok hpt)).2 o)
end Go.Proofs.YtnepfcnlngpchaaGreat.Geo
namespace Go.Proofs.YtnepfcnlngpchaaGreat
open Go.RowKit Go.Proofs.YtnepfcnlngpchaaGreat.Nm
set_option maxRecDepth 10000
set_option maxHeartbeats 2000000
theorem floor_pt {xs : List Pt} {k : Nat} (hk : k < (floorPts xs).length) : ptOk (pAt (floorPts xs) k) = true := (floor_mem (pAt_mem hk)).2.1
theorem sub_len {α : Type} {l : List α} {f : α → Bool} {n : Nat} (h : l.length ≤ n) (k : Nat) : ((l.take k).filter f).length ≤ n := Nat.le_trans (List.length_filter_le _ _) (by rw [List.length_take]; omega)
def seesAny (xs gs : List Pt) (p : Pt) : Bool := gs.any fun g => seesS xs g p
theorem any_succ {α : Type} {f : α → Bool} {xs : List α} {k : Nat} (d : α) (h : k < xs.length) : (xs.take (k + 1)).any f = ((xs.take k).any f || f (xs.getD k d)) := by
 rw [List.take_succ_eq_append_getElem h, List.any_append, getD_lt _ h]; simp
theorem any_yes {α : Type} {f : α → Bool} {xs : List α} {k : Nat} (d : α) (h : k < xs.length) (hf : f (xs.getD k d) = true) : xs.any f = true := List.any_eq_true.2 ⟨_, by rw [getD_lt _ h]; exact List.getElem_mem h, hf⟩
def seenBySomeC : Con := mkCon [.room, .sl (.b .pt), .pt] (fun x => allInM x.1 x.2.1 = true ∧ x.2.1.length ≤ 1048576 ∧ ptOk x.2.2.1 = true) fun x => vB (seesAny x.1 x.2.1 x.2.2.1)
theorem seenBySome_ok : Good1 Tryz.prog n_impl_seenBySome seenBySomeC := by
 refine good_ofG (tys := tyL) (env := [(n_impl_sees, sees2C)]) (envw := []) (envd := []) [] [] [] [] [] mixed tys ⟨sees2_ok, trivial⟩ trivial trivial Tryz.func55 rfl (by kernel_rfl) (by decide) (by kernel_rfl) ?_
 have hG_ := kpz [(0, [1, 3, 5]), (1, [3, 5, 9, 10, 11]), (2, [3, 5, 9, 10, 11, 12]), (3, [3, 5, 8, 9, 10, 11]), (4, [3, 5, 9, 10, 11, 18]), (5, [6]), (6, [3, 5, 9, 10, 11]), (7, [6])] [(3, [8])] [] []
 rintro ⟨(xs : List Pt), (gs : List Pt), ⟨(p : Int), (q : Int)⟩, ⟨⟩⟩ ⟨(hin : allInM xs gs = true), (h1 : gs.length ≤ _), (hp : ptOk (p, q) = true)⟩
 have hr := (allIn_iff.1 hin).1
 (repeat' (first | (with_reducible first | exact True.intro | refine zQ ?_ | (refine zG hG_ ?_; intro K_ hK_) | (refine zR ?_; intro K_ hK_) | (refine hK_ _ _ ?_; try clear hK_ K_) | refine sq_n ?_ | refine sq_r ?_ | refine sq_e ?_ | refine bq_n ?_ | refine bq_r ?_ | refine bq_q ?_ | refine zB ?_ | refine zX ?_ | refine zT ?_ | refine zK ?_ | refine gq_n ?_ | refine gq_r ?_ | refine gq_e ?_ | refine lq_n ?_ | refine lq_r ?_ | refine lq_e ?_ | refine bq_e (by decide) ?_) | ((with_reducible refine zC (b := ?b_) ?hb_ ?_ ?_); case hb_ => rfl) | ((conv => whnf); first | (with_reducible refine hK_ _ _ ?_; try clear hK_ K_) | (with_reducible refine fun (g_ : Sl) (o_ : Ow) => ?_) | (with_reducible first | exact True.intro | refine And.intro trivial ?_ | refine And.intro ?_ ?_) | exact Nat.le_of_ble_eq_true rfl | exact Or.inl rfl | (intro h_; cases h_) | (intro h_; (try simp only [vS1] at h_)) | rfl))) <;> (try (conv => whnf)) <;> (try first | change (_ : Int) ≤ _ | change (_ : Nat) ≤ _) <;> (try ((fail_if_success (with_reducible apply Exists.intro)); (try dsimp only); (try simp only [vS1]))) <;> (try simp (disch := omega) only [vS3, Int.add_sub_cancel, tn1, tnp, tnc, vS2] at *)
 all_goals (try (fail_if_success (with_reducible apply Exists.intro)); first | with_reducible assumption | omega | exact mdl (by omega) | exact ilo1 (by omega) | exact ilo2 (by omega) | exact ihi1 (by omega) (by omega) | exact ihi2 (by omega) (by omega))
 refine awp'_loopG (α := Nat) (fun k ver_ => [(11, vInt k)]) (fun k ver_ => []) (fun k ver_ => []) (fun k => k ≤ gs.length ∧ (gs.take k).any (fun g => seesS xs g (p, q)) = false) (fun k => gs.length - k) [3, 5, 9, 10] [] (0) ?_
 conv => whnf
 refine ⟨⟨?inv1_, ?vals1_, ?own1_, ?fix1_⟩, ?body1_⟩
 case' vals1_ => (repeat' (first | (with_reducible first | exact True.intro | refine And.intro ?_ ?_ | refine Head.mk ?_ ?_ ?_ ?_) | ((conv => lhs; whnf); first | (with_reducible first | rfl | exact vInt_s (by omega)) | exact rfl) | ((conv => whnf); first | (with_reducible first | exact True.intro | refine And.intro ?_ ?_)))) <;> (try (conv => lhs; whnf))
 case' own1_ => (repeat' (first | (with_reducible first | exact True.intro | refine And.intro ?_ ?_ | refine Head.mk ?_ ?_ ?_ ?_) | ((conv => lhs; whnf); first | (with_reducible first | rfl | exact vInt_s (by omega)) | exact rfl) | ((conv => whnf); first | (with_reducible first | exact True.intro | refine And.intro ?_ ?_)))) <;> (try (conv => lhs; whnf))
 case' fix1_ => (repeat' (first | (with_reducible first | exact True.intro | refine And.intro ?_ ?_ | refine Head.mk ?_ ?_ ?_ ?_) | ((conv => lhs; whnf); first | (with_reducible first | rfl | exact vInt_s (by omega)) | exact rfl) | ((conv => whnf); first | (with_reducible first | exact True.intro | refine And.intro ?_ ?_)))) <;> (try (conv => lhs; whnf))
 ·exact ⟨Nat.zero_le _, rfl⟩
 rintro k g_ o_ v_ ⟨hk, hall⟩
 (repeat' (first | (with_reducible first | exact True.intro | refine zQ ?_ | (refine zG hG_ ?_; intro K_ hK_) | (refine zR ?_; intro K_ hK_) | (refine hK_ _ _ ?_; try clear hK_ K_) | refine sq_n ?_ | refine sq_r ?_ | refine sq_e ?_ | refine bq_n ?_ | refine bq_r ?_ | refine bq_q ?_ | refine zB ?_ | refine zX ?_ | refine zT ?_ | refine zK ?_ | refine gq_n ?_ | refine gq_r ?_ | refine gq_e ?_ | refine lq_n ?_ | refine lq_r ?_ | refine lq_e ?_ | refine bq_e (by decide) ?_) | ((with_reducible refine zC (b := ?b_) ?hb_ ?_ ?_); case hb_ => rfl) | ((conv => whnf); first | (with_reducible refine hK_ _ _ ?_; try clear hK_ K_) | (with_reducible refine fun (g_ : Sl) (o_ : Ow) => ?_) | (with_reducible first | exact True.intro | refine And.intro trivial ?_ | refine And.intro ?_ ?_) | exact Nat.le_of_ble_eq_true rfl | exact Or.inl rfl | (intro h_; cases h_) | (intro h_; (try simp only [vS1] at h_)) | rfl))) <;> (try (conv => whnf)) <;> (try first | change (_ : Int) ≤ _ | change (_ : Nat) ≤ _) <;> (try ((fail_if_success (with_reducible apply Exists.intro)); (try dsimp only); (try simp only [vS1]))) <;> (try simp (disch := omega) only [vS3, Int.add_sub_cancel, tn1, tnp, tnc, vS2] at *)
 all_goals (try (fail_if_success (with_reducible apply Exists.intro)); first | with_reducible assumption | omega | exact mdl (by omega) | exact ilo1 (by omega) | exact ilo2 (by omega) | exact ihi1 (by omega) (by omega) | exact ihi2 (by omega) (by omega))
 ·exact allIn_pt hin (by omega)
 ·exact eq_true_of (any_yes (0, 0) (by omega) (by assumption))
 ·exact ⟨k + 1, by omega, ⟨by omega, by rw [any_succ (0, 0) (by omega), hall, Bool.false_or]; assumption⟩, by (repeat' (first | (with_reducible first | exact True.intro | refine And.intro ?_ ?_ | refine Head.mk ?_ ?_ ?_ ?_) | ((conv => lhs; whnf); first | (with_reducible first | rfl | exact vInt_s (by omega)) | exact rfl) | ((conv => whnf); first | (with_reducible first | exact True.intro | refine And.intro ?_ ?_)))) <;> (try (conv => lhs; whnf))⟩
 ·rw [List.take_of_length_le (by omega)] at hall
  exact hall.symm
def notSeen (xs gs : List Pt) (p : Pt) : Bool := !seesAny xs gs p
theorem notSeen_t {xs gs : List Pt} {p : Pt} (h : seesAny xs gs p = false) : notSeen xs gs p = true := by unfold notSeen; rw [h]; rfl
theorem notSeen_f {xs gs : List Pt} {p : Pt} (h : seesAny xs gs p = true) : ¬ notSeen xs gs p = true := by unfold notSeen; rw [h]; decide
def unseenM (xs gs : List Pt) : List Pt := if allInM xs gs then (floorPts xs).filter (notSeen xs gs) else []
def seesAllM (xs gs : List Pt) : Bool := allInM xs gs && (floorPts xs).all (seesAny xs gs)
def unseenC : Con := mkCon [.room, .sl (.b .pt)] (fun x => x.1.length ≤ 1048576 ∧ x.2.1.length ≤ 1048576) fun x => ptRow (unseenM x.1 x.2.1)
def seesAllC : Con := mkCon [.room, .sl (.b .pt)] (fun x => x.1.length ≤ 1048576 ∧ x.2.1.length ≤ 1048576) fun x => vB (seesAllM x.1 x.2.1)
theorem unseen_bad {xs gs : List Pt} (h : allInM xs gs = false) : unseenM xs gs = [] := by unfold unseenM; rw [h]; rfl
theorem unseen_ok {xs gs : List Pt} (h : allInM xs gs = true) : unseenM xs gs = (floorPts xs).filter (notSeen xs gs) := by unfold unseenM; rw [h]; rfl
theorem iSeesAll_ok : Good1 Tryz.prog n_impl_SeesAll seesAllC := by
 refine good_ofG (tys := tyL) (env := [(n_impl_allIn, allInC), (n_impl_floor, floorC), (n_impl_seenBySome, seenBySomeC)]) (envw := []) (envd := []) [] [] [] [] [] mixed tys ⟨allIn_ok, floor_ok, seenBySome_ok, trivial⟩ trivial trivial Tryz.func17 rfl (by kernel_rfl) (by decide) (by kernel_rfl) ?_
 have hG_ := kpz [(0, [1, 2]), (1, [1, 2, 10]), (2, [4]), (3, [1, 2, 12, 13, 14]), (4, [1, 2, 12, 13, 14, 15]), (5, [1, 2, 6, 12, 13, 14]), (6, [1, 2, 12, 13, 14, 22]), (7, [4]), (8, [1, 2, 12, 13, 14]), (9, [4])] [(5, [6])] [] []
 rintro ⟨(xs : List Pt), (gs : List Pt), ⟨⟩⟩ ⟨(h1 : xs.length ≤ _), (h2 : gs.length ≤ _)⟩
 have hf := floor_len xs
 (repeat' (first | (with_reducible first | exact True.intro | refine zQ ?_ | (refine zG hG_ ?_; intro K_ hK_) | (refine zR ?_; intro K_ hK_) | (refine hK_ _ _ ?_; try clear hK_ K_) | refine sq_n ?_ | refine sq_r ?_ | refine sq_e ?_ | refine bq_n ?_ | refine bq_r ?_ | refine bq_q ?_ | refine zB ?_ | refine zX ?_ | refine zT ?_ | refine zK ?_ | refine gq_n ?_ | refine gq_r ?_ | refine gq_e ?_ | refine lq_n ?_ | refine lq_r ?_ | refine lq_e ?_ | refine bq_e (by decide) ?_) | ((with_reducible refine zC (b := ?b_) ?hb_ ?_ ?_); case hb_ => rfl) | ((conv => whnf); first | (with_reducible refine hK_ _ _ ?_; try clear hK_ K_) | (with_reducible refine fun (g_ : Sl) (o_ : Ow) => ?_) | (with_reducible first | exact True.intro | refine And.intro trivial ?_ | refine And.intro ?_ ?_) | exact Nat.le_of_ble_eq_true rfl | exact Or.inl rfl | (intro h_; cases h_) | (intro h_; (try simp only [vS1] at h_)) | rfl))) <;> (try (conv => whnf)) <;> (try first | change (_ : Int) ≤ _ | change (_ : Nat) ≤ _) <;> (try ((fail_if_success (with_reducible apply Exists.intro)); (try dsimp only); (try simp only [vS1]))) <;> (try simp (disch := omega) only [vS3, Int.add_sub_cancel, tn1, tnp, tnc, vS2] at *)
 all_goals (try (fail_if_success (with_reducible apply Exists.intro)); first | with_reducible assumption | omega | exact mdl (by omega) | exact ilo1 (by omega) | exact ilo2 (by omega) | exact ihi1 (by omega) (by omega) | exact ihi2 (by omega) (by omega))
 ·unfold seesAllM; rw [h_]; rfl
 ·exact (allIn_iff.1 h_).1
 have hin : allInM xs gs = true := by assumption
 have hr := (allIn_iff.1 hin).1
 refine awp'_loopG (α := Nat) (fun k ver_ => [(14, vInt k)]) (fun k ver_ => []) (fun k ver_ => []) (fun k => k ≤ (floorPts xs).length ∧ ((floorPts xs).take k).all (seesAny xs gs) = true) (fun k => (floorPts xs).length - k) [1, 2, 12, 13] [] (0) ?_
 conv => whnf
 refine ⟨⟨?inv2_, ?vals2_, ?own2_, ?fix2_⟩, ?body2_⟩
 case' vals2_ => (repeat' (first | (with_reducible first | exact True.intro | refine And.intro ?_ ?_ | refine Head.mk ?_ ?_ ?_ ?_) | ((conv => lhs; whnf); first | (with_reducible first | rfl | exact vInt_s (by omega)) | exact rfl) | ((conv => whnf); first | (with_reducible first | exact True.intro | refine And.intro ?_ ?_)))) <;> (try (conv => lhs; whnf))
 case' own2_ => (repeat' (first | (with_reducible first | exact True.intro | refine And.intro ?_ ?_ | refine Head.mk ?_ ?_ ?_ ?_) | ((conv => lhs; whnf); first | (with_reducible first | rfl | exact vInt_s (by omega)) | exact rfl) | ((conv => whnf); first | (with_reducible first | exact True.intro | refine And.intro ?_ ?_)))) <;> (try (conv => lhs; whnf))
 case' fix2_ => (repeat' (first | (with_reducible first | exact True.intro | refine And.intro ?_ ?_ | refine Head.mk ?_ ?_ ?_ ?_) | ((conv => lhs; whnf); first | (with_reducible first | rfl | exact vInt_s (by omega)) | exact rfl) | ((conv => whnf); first | (with_reducible first | exact True.intro | refine And.intro ?_ ?_)))) <;> (try (conv => lhs; whnf))
 ·exact ⟨Nat.zero_le _, rfl⟩
 rintro k g_ o_ v_ ⟨hk, hall⟩
 (repeat' (first | (with_reducible first | exact True.intro | refine zQ ?_ | (refine zG hG_ ?_; intro K_ hK_) | (refine zR ?_; intro K_ hK_) | (refine hK_ _ _ ?_; try clear hK_ K_) | refine sq_n ?_ | refine sq_r ?_ | refine sq_e ?_ | refine bq_n ?_ | refine bq_r ?_ | refine bq_q ?_ | refine zB ?_ | refine zX ?_ | refine zT ?_ | refine zK ?_ | refine gq_n ?_ | refine gq_r ?_ | refine gq_e ?_ | refine lq_n ?_ | refine lq_r ?_ | refine lq_e ?_ | refine bq_e (by decide) ?_) | ((with_reducible refine zC (b := ?b_) ?hb_ ?_ ?_); case hb_ => rfl) | ((conv => whnf); first | (with_reducible refine hK_ _ _ ?_; try clear hK_ K_) | (with_reducible refine fun (g_ : Sl) (o_ : Ow) => ?_) | (with_reducible first | exact True.intro | refine And.intro trivial ?_ | refine And.intro ?_ ?_) | exact Nat.le_of_ble_eq_true rfl | exact Or.inl rfl | (intro h_; cases h_) | (intro h_; (try simp only [vS1] at h_)) | rfl))) <;> (try (conv => whnf)) <;> (try first | change (_ : Int) ≤ _ | change (_ : Nat) ≤ _) <;> (try ((fail_if_success (with_reducible apply Exists.intro)); (try dsimp only); (try simp only [vS1]))) <;> (try simp (disch := omega) only [vS3, Int.add_sub_cancel, tn1, tnp, tnc, vS2] at *)
 all_goals (try (fail_if_success (with_reducible apply Exists.intro)); first | with_reducible assumption | omega | exact mdl (by omega) | exact ilo1 (by omega) | exact ilo2 (by omega) | exact ihi1 (by omega) (by omega) | exact ihi2 (by omega) (by omega))
 ·exact floor_pt (by omega)
 ·unfold seesAllM; rw [hin, all_no (0, 0) (show k < (floorPts xs).length by omega) (by assumption)]; rfl
 ·exact ⟨k + 1, by omega, ⟨by omega, by rw [all_succ (0, 0) (by omega), hall, Bool.true_and]; assumption⟩, by (repeat' (first | (with_reducible first | exact True.intro | refine And.intro ?_ ?_ | refine Head.mk ?_ ?_ ?_ ?_) | ((conv => lhs; whnf); first | (with_reducible first | rfl | exact vInt_s (by omega)) | exact rfl) | ((conv => whnf); first | (with_reducible first | exact True.intro | refine And.intro ?_ ?_)))) <;> (try (conv => lhs; whnf))⟩
 ·unfold seesAllM; rw [hin, take_all (by omega) hall]; rfl
theorem iUnseenBy_ok : Good1 Tryz.prog n_impl_UnseenBy unseenC := by
 refine good_ofG (tys := tyL) (env := [(n_impl_allIn, allInC), (n_impl_floor, floorC), (n_impl_seenBySome, seenBySomeC)]) (envw := []) (envd := []) [12] [] [] [] [] mixed tys ⟨allIn_ok, floor_ok, seenBySome_ok, trivial⟩ trivial trivial Tryz.func18 rfl (by kernel_rfl) (by decide) (by kernel_rfl) ?_
 have hG_ := kpz [(0, [1, 2]), (1, [1, 2, 11]), (2, [4]), (3, [1, 2, 5]), (4, [1, 2, 5, 14, 15, 16]), (5, [1, 2, 5, 14, 15, 16, 17]), (6, [1, 2, 5, 7, 14, 15, 16]), (7, [1, 2, 5, 7, 14, 15, 16, 24]), (8, [1, 2, 5, 14, 15, 16]), (9, [1, 2, 5, 14, 15, 16]), (10, [4])] [(3, [12]), (4, [12]), (5, [12]), (6, [7, 12]), (7, [7, 12]), (8, [12]), (9, [12]), (10, [12])] [] []
 rintro ⟨(xs : List Pt), (gs : List Pt), ⟨⟩⟩ ⟨(h1 : xs.length ≤ _), (h2 : gs.length ≤ _)⟩
 have hf := floor_len xs
 (repeat' (first | (with_reducible first | exact True.intro | refine zQ ?_ | (refine zG hG_ ?_; intro K_ hK_) | (refine zR ?_; intro K_ hK_) | (refine hK_ _ _ ?_; try clear hK_ K_) | refine sq_n ?_ | refine sq_r ?_ | refine sq_e ?_ | refine bq_n ?_ | refine bq_r ?_ | refine bq_q ?_ | refine zB ?_ | refine zX ?_ | refine zT ?_ | refine zK ?_ | refine gq_n ?_ | refine gq_r ?_ | refine gq_e ?_ | refine lq_n ?_ | refine lq_r ?_ | refine lq_e ?_ | refine bq_e (by decide) ?_) | ((with_reducible refine zC (b := ?b_) ?hb_ ?_ ?_); case hb_ => rfl) | ((conv => whnf); first | (with_reducible refine hK_ _ _ ?_; try clear hK_ K_) | (with_reducible refine fun (g_ : Sl) (o_ : Ow) => ?_) | (with_reducible first | exact True.intro | refine And.intro trivial ?_ | refine And.intro ?_ ?_) | exact Nat.le_of_ble_eq_true rfl | exact Or.inl rfl | (intro h_; cases h_) | (intro h_; (try simp only [vS1] at h_)) | rfl))) <;> (try (conv => whnf)) <;> (try first | change (_ : Int) ≤ _ | change (_ : Nat) ≤ _) <;> (try ((fail_if_success (with_reducible apply Exists.intro)); (try dsimp only); (try simp only [vS1]))) <;> (try simp (disch := omega) only [vS3, Int.add_sub_cancel, tn1, tnp, tnc, vS2] at *)
 all_goals (try (fail_if_success (with_reducible apply Exists.intro)); first | with_reducible assumption | omega | exact mdl (by omega) | exact ilo1 (by omega) | exact ilo2 (by omega) | exact ihi1 (by omega) (by omega) | exact ihi2 (by omega) (by omega))
 ·exact unseen_bad ‹_›
 ·exact (allIn_iff.1 h_).1
 have hin : allInM xs gs = true := by assumption
 have hr := (allIn_iff.1 hin).1
 refine awp'_loopG (α := Nat) (fun k ver_ => [(16, vInt k)]) (fun k ver_ => [(5, 12, false, .row t_impl_Point (.b .pt) (((floorPts xs).take k).filter (notSeen xs gs)))]) (fun k ver_ => []) (fun k => k ≤ (floorPts xs).length) (fun k => (floorPts xs).length - k) [1, 2, 14, 15] [] (0) ?_
 conv => whnf
 refine ⟨⟨?inv3_, ?vals3_, ?own3_, ?fix3_⟩, ?body3_⟩
 case' vals3_ => (repeat' (first | (with_reducible first | exact True.intro | refine And.intro ?_ ?_ | refine Head.mk ?_ ?_ ?_ ?_) | ((conv => lhs; whnf); first | (with_reducible first | rfl | exact vInt_s (by omega)) | exact rfl) | ((conv => whnf); first | (with_reducible first | exact True.intro | refine And.intro ?_ ?_)))) <;> (try (conv => lhs; whnf))
 case' own3_ => (repeat' (first | (with_reducible first | exact True.intro | refine And.intro ?_ ?_ | refine Head.mk ?_ ?_ ?_ ?_) | ((conv => lhs; whnf); first | (with_reducible first | rfl | exact vInt_s (by omega)) | exact rfl) | ((conv => whnf); first | (with_reducible first | exact True.intro | refine And.intro ?_ ?_)))) <;> (try (conv => lhs; whnf))
 case' fix3_ => (repeat' (first | (with_reducible first | exact True.intro | refine And.intro ?_ ?_ | refine Head.mk ?_ ?_ ?_ ?_) | ((conv => lhs; whnf); first | (with_reducible first | rfl | exact vInt_s (by omega)) | exact rfl) | ((conv => whnf); first | (with_reducible first | exact True.intro | refine And.intro ?_ ?_)))) <;> (try (conv => lhs; whnf))
 ·exact Nat.zero_le _
 rintro k g_ o_ v_ hk
 have hl := sub_len (f := notSeen xs gs) hf k
 (repeat' (first | (with_reducible first | exact True.intro | refine zQ ?_ | (refine zG hG_ ?_; intro K_ hK_) | (refine zR ?_; intro K_ hK_) | (refine hK_ _ _ ?_; try clear hK_ K_) | refine sq_n ?_ | refine sq_r ?_ | refine sq_e ?_ | refine bq_n ?_ | refine bq_r ?_ | refine bq_q ?_ | refine zB ?_ | refine zX ?_ | refine zT ?_ | refine zK ?_ | refine gq_n ?_ | refine gq_r ?_ | refine gq_e ?_ | refine lq_n ?_ | refine lq_r ?_ | refine lq_e ?_ | refine bq_e (by decide) ?_) | ((with_reducible refine zC (b := ?b_) ?hb_ ?_ ?_); case hb_ => rfl) | ((conv => whnf); first | (with_reducible refine hK_ _ _ ?_; try clear hK_ K_) | (with_reducible refine fun (g_ : Sl) (o_ : Ow) => ?_) | (with_reducible first | exact True.intro | refine And.intro trivial ?_ | refine And.intro ?_ ?_) | exact Nat.le_of_ble_eq_true rfl | exact Or.inl rfl | (intro h_; cases h_) | (intro h_; (try simp only [vS1] at h_)) | rfl))) <;> (try (conv => whnf)) <;> (try first | change (_ : Int) ≤ _ | change (_ : Nat) ≤ _) <;> (try ((fail_if_success (with_reducible apply Exists.intro)); (try dsimp only); (try simp only [vS1]))) <;> (try simp (disch := omega) only [vS3, Int.add_sub_cancel, tn1, tnp, tnc, vS2] at *)
 all_goals (try (fail_if_success (with_reducible apply Exists.intro)); first | with_reducible assumption | omega | exact mdl (by omega) | exact ilo1 (by omega) | exact ilo2 (by omega) | exact ihi1 (by omega) (by omega) | exact ihi2 (by omega) (by omega))
 ·exact floor_pt (by omega)
 ·refine ⟨k + 1, by omega, by omega, ?_⟩
  (repeat' (first | (with_reducible first | exact True.intro | refine And.intro ?_ ?_ | refine Head.mk ?_ ?_ ?_ ?_) | ((conv => lhs; whnf); first | (with_reducible first | rfl | exact vInt_s (by omega)) | exact rfl) | ((conv => whnf); first | (with_reducible first | exact True.intro | refine And.intro ?_ ?_)))) <;> (try (conv => lhs; whnf))
  exact congrArg (Own.row _ _) (by rw [filter_take_succ _ (0, 0) (by assumption), if_pos (notSeen_t (by assumption))])
 ·refine ⟨k + 1, by omega, by omega, ?_⟩
  (repeat' (first | (with_reducible first | exact True.intro | refine And.intro ?_ ?_ | refine Head.mk ?_ ?_ ?_ ?_) | ((conv => lhs; whnf); first | (with_reducible first | rfl | exact vInt_s (by omega)) | exact rfl) | ((conv => whnf); first | (with_reducible first | exact True.intro | refine And.intro ?_ ?_)))) <;> (try (conv => lhs; whnf))
  exact congrArg (Own.row _ _) (by rw [filter_take_succ _ (0, 0) (by assumption), if_neg (notSeen_f (by assumption)), List.append_nil])
 ·rw [List.take_of_length_le (by omega), unseen_ok hin]; rfl
theorem sqd_small {a b : Pt} (ha : ptOk a = true) (hb : ptOk b = true) : IntKind.i64.wrap (IntKind.i64.wrap (IntKind.i64.wrap (a.1 - b.1) * IntKind.i64.wrap (a.1 - b.1)) + IntKind.i64.wrap (IntKind.i64.wrap (a.2 - b.2) * IntKind.i64.wrap (a.2 - b.2))) = sqd a b ∧ 0 ≤ sqd a b ∧ sqd a b ≤ 8000000 := by
 have h := sqM_exact (bd_of_ok ha) (bd_of_ok hb)
 rw [ptOk_iff] at ha hb
 have e1 := sq_bd (x := a.1 - b.1) (by omega) (by omega)
 have e2 := sq_bd (x := a.2 - b.2) (by omega) (by omega)
 refine ⟨?_, h.2⟩
 rw [W_in (n := a.1 - b.1) (by omega) (by omega), W_in (n := a.2 - b.2) (by omega) (by omega), W_in (n := (a.1 - b.1) * _) (by omega) (by omega), W_in (n := (a.2 - b.2) * _) (by omega) (by omega), W_in (by omega) (by omega)]
 rfl
def squareC : Con := mkCon [.pt, .pt] (fun x => ptOk x.1 = true ∧ ptOk x.2.1 = true) fun x => vI (sqd x.1 x.2.1)
theorem square_ok : Good1 Tryz.prog n_impl_square squareC := by
 refine good_ofG (tys := tyL) (env := []) (envw := []) (envd := []) [] [] [] [] [] mixed tys trivial trivial trivial Tryz.func53 rfl (by kernel_rfl) (by decide) (by kernel_rfl) ?_
 have hG_ := kpz [(0, [2, 3]), (1, [4])] [] [] []
 rintro ⟨⟨(a : Int), (b : Int)⟩, ⟨(c : Int), (d : Int)⟩, ⟨⟩⟩ ⟨(h1 : ptOk (a, b) = true), (h2 : ptOk (c, d) = true)⟩
 (repeat' (first | (with_reducible first | exact True.intro | refine zQ ?_ | (refine zG hG_ ?_; intro K_ hK_) | (refine zR ?_; intro K_ hK_) | (refine hK_ _ _ ?_; try clear hK_ K_) | refine sq_n ?_ | refine sq_r ?_ | refine sq_e ?_ | refine bq_n ?_ | refine bq_r ?_ | refine bq_q ?_ | refine zB ?_ | refine zX ?_ | refine zT ?_ | refine zK ?_ | refine gq_n ?_ | refine gq_r ?_ | refine gq_e ?_ | refine lq_n ?_ | refine lq_r ?_ | refine lq_e ?_ | refine bq_e (by decide) ?_) | ((with_reducible refine zC (b := ?b_) ?hb_ ?_ ?_); case hb_ => rfl) | ((conv => whnf); first | (with_reducible refine hK_ _ _ ?_; try clear hK_ K_) | (with_reducible refine fun (g_ : Sl) (o_ : Ow) => ?_) | (with_reducible first | exact True.intro | refine And.intro trivial ?_ | refine And.intro ?_ ?_) | exact Nat.le_of_ble_eq_true rfl | exact Or.inl rfl | (intro h_; cases h_) | (intro h_; (try simp only [vS1] at h_)) | rfl))) <;> (try (conv => whnf)) <;> (try first | change (_ : Int) ≤ _ | change (_ : Nat) ≤ _)
 exact (sqd_small h1 h2).1
def nearTo (xs gs : List Pt) (p : Pt) : Nat → Int
 | 0 => -1
 | k + 1 => if seesS xs (pAt gs k) p && (decide (nearTo xs gs p k < 0) || decide (sqd p (pAt gs k) < sqd p (pI gs (nearTo xs gs p k)))) then (k : Int) else nearTo xs gs p k
theorem nearTo_bd (xs gs : List Pt) (p : Pt) : ∀ k, -1 ≤ nearTo xs gs p k ∧ nearTo xs gs p k < k
 | 0 => by simp [nearTo]
 | k + 1 => by
  have := nearTo_bd xs gs p k
  unfold nearTo
  split <;> omega
theorem nearTo_t {xs gs : List Pt} {p : Pt} {k : Nat} (h : seesS xs (pAt gs k) p = true) (h2 : nearTo xs gs p k < 0 ∨ sqd p (pAt gs k) < sqd p (pI gs (nearTo xs gs p k))) : (k : Int) = nearTo xs gs p (k + 1) := by
 refine (if_pos ?_).symm
 rw [h, Bool.true_and, Bool.or_eq_true, decide_eq_true_eq, decide_eq_true_eq]; exact h2
theorem nearTo_f1 {xs gs : List Pt} {p : Pt} {k : Nat} (h : seesS xs (pAt gs k) p = false) : nearTo xs gs p k = nearTo xs gs p (k + 1) := by
 refine (if_neg ?_).symm
 rw [h]; simp
theorem nearTo_f2 {xs gs : List Pt} {p : Pt} {k : Nat} (h : ¬ nearTo xs gs p k < 0) (h2 : ¬ sqd p (pAt gs k) < sqd p (pI gs (nearTo xs gs p k))) : nearTo xs gs p k = nearTo xs gs p (k + 1) := by
 refine (if_neg ?_).symm
 rw [decide_eq_false h, decide_eq_false h2]; simp
def nearM (xs gs : List Pt) (p : Pt) : Int := if allInM xs gs && isIn xs p then nearTo xs gs p gs.length else -1
def nearC : Con := mkCon [.room, .sl (.b .pt), .pt] (fun x => x.1.length ≤ 1048576 ∧ x.2.1.length ≤ 1048576) fun x => vI (nearM x.1 x.2.1 x.2.2.1)
theorem iNearestGuard_ok : Good1 Tryz.prog n_impl_NearestGuard nearC := by
 refine good_ofG (tys := tyL) (env := [(n_impl_allIn, allInC), (n_impl_IsIn, isInC), (n_impl_sees, sees2C), (n_impl_square, squareC)]) (envw := []) (envd := []) [] [] [] [] [] mixed tys ⟨allIn_ok, iIsIn_ok, sees2_ok, square_ok, trivial⟩ trivial trivial Tryz.func16 rfl (by kernel_rfl) (by decide) (by kernel_rfl) ?_
 have hG_ := kpz [(0, [1, 3, 5]), (1, [1, 3, 5, 19]), (2, [6]), (3, [1, 3, 5, 7]), (4, [1, 3, 5, 7, 20, 21, 22]), (5, [1, 3, 5, 7, 20, 21, 22, 23]), (6, [1, 3, 5, 7, 8, 9, 20, 21, 22]), (7, [1, 3, 5, 7, 8, 20, 21, 22, 46]), (8, [1, 3, 5, 7, 20, 21, 22]), (9, [1, 3, 5, 7, 20, 21, 22]), (10, [6])] [(6, [9])] [] []
 rintro ⟨(xs : List Pt), (gs : List Pt), ⟨(p : Int), (q : Int)⟩, ⟨⟩⟩ ⟨(h1 : xs.length ≤ _), (h2 : gs.length ≤ _)⟩
 (repeat' (first | (with_reducible first | exact True.intro | refine zQ ?_ | (refine zG hG_ ?_; intro K_ hK_) | (refine zR ?_; intro K_ hK_) | (refine hK_ _ _ ?_; try clear hK_ K_) | refine sq_n ?_ | refine sq_r ?_ | refine sq_e ?_ | refine bq_n ?_ | refine bq_r ?_ | refine bq_q ?_ | refine zB ?_ | refine zX ?_ | refine zT ?_ | refine zK ?_ | refine gq_n ?_ | refine gq_r ?_ | refine gq_e ?_ | refine lq_n ?_ | refine lq_r ?_ | refine lq_e ?_ | refine bq_e (by decide) ?_) | ((with_reducible refine zC (b := ?b_) ?hb_ ?_ ?_); case hb_ => rfl) | ((conv => whnf); first | (with_reducible refine hK_ _ _ ?_; try clear hK_ K_) | (with_reducible refine fun (g_ : Sl) (o_ : Ow) => ?_) | (with_reducible first | exact True.intro | refine And.intro trivial ?_ | refine And.intro ?_ ?_) | exact Nat.le_of_ble_eq_true rfl | exact Or.inl rfl | (intro h_; cases h_) | (intro h_; (try simp only [vS1] at h_)) | rfl))) <;> (try (conv => whnf)) <;> (try first | change (_ : Int) ≤ _ | change (_ : Nat) ≤ _) <;> (try ((fail_if_success (with_reducible apply Exists.intro)); (try dsimp only); (try simp only [vS1]))) <;> (try simp (disch := omega) only [vS3, Int.add_sub_cancel, tn1, tnp, tnc, vS2] at *)
 all_goals (try (fail_if_success (with_reducible apply Exists.intro)); first | with_reducible assumption | omega | exact mdl (by omega) | exact ilo1 (by omega) | exact ilo2 (by omega) | exact ihi1 (by omega) (by omega) | exact ihi2 (by omega) (by omega))
 ·unfold nearM; rw [‹allInM xs gs = false›]; rfl
 ·unfold nearM; rw [‹isIn xs (p, q) = false›, Bool.and_false]; rfl
 have hin : allInM xs gs = true := by assumption
 have hip : isIn xs (p, q) = true := by assumption
 have hr := (allIn_iff.1 hin).1
 have hpp := isIn_pt hip
 refine awp'_loopG (α := Nat) (fun k ver_ => [(22, vInt k), (7, vInt (nearTo xs gs (p, q) k))]) (fun k ver_ => []) (fun k ver_ => []) (fun k => k ≤ gs.length) (fun k => gs.length - k) [1, 3, 5, 20, 21] [] (0) ?_
 conv => whnf
 refine ⟨⟨?inv4_, ?vals4_, ?own4_, ?fix4_⟩, ?body4_⟩
 case' vals4_ => (repeat' (first | (with_reducible first | exact True.intro | refine And.intro ?_ ?_ | refine Head.mk ?_ ?_ ?_ ?_) | ((conv => lhs; whnf); first | (with_reducible first | rfl | exact vInt_s (by omega)) | exact rfl) | ((conv => whnf); first | (with_reducible first | exact True.intro | refine And.intro ?_ ?_)))) <;> (try (conv => lhs; whnf))
 case' own4_ => (repeat' (first | (with_reducible first | exact True.intro | refine And.intro ?_ ?_ | refine Head.mk ?_ ?_ ?_ ?_) | ((conv => lhs; whnf); first | (with_reducible first | rfl | exact vInt_s (by omega)) | exact rfl) | ((conv => whnf); first | (with_reducible first | exact True.intro | refine And.intro ?_ ?_)))) <;> (try (conv => lhs; whnf))
 case' fix4_ => (repeat' (first | (with_reducible first | exact True.intro | refine And.intro ?_ ?_ | refine Head.mk ?_ ?_ ?_ ?_) | ((conv => lhs; whnf); first | (with_reducible first | rfl | exact vInt_s (by omega)) | exact rfl) | ((conv => whnf); first | (with_reducible first | exact True.intro | refine And.intro ?_ ?_)))) <;> (try (conv => lhs; whnf))
 ·exact Nat.zero_le _
 rintro k g_ o_ v_ hk
 have hb := nearTo_bd xs gs (p, q) k
 have hpt : ∀ j, j < gs.length → ptOk (pAt gs j) = true := fun j hj => allIn_pt hin hj
 (repeat' (first | (with_reducible first | exact True.intro | refine zQ ?_ | (refine zG hG_ ?_; intro K_ hK_) | (refine zR ?_; intro K_ hK_) | (refine hK_ _ _ ?_; try clear hK_ K_) | refine sq_n ?_ | refine sq_r ?_ | refine sq_e ?_ | refine bq_n ?_ | refine bq_r ?_ | refine bq_q ?_ | refine zB ?_ | refine zX ?_ | refine zT ?_ | refine zK ?_ | refine gq_n ?_ | refine gq_r ?_ | refine gq_e ?_ | refine lq_n ?_ | refine lq_r ?_ | refine lq_e ?_ | refine bq_e (by decide) ?_) | ((with_reducible refine zC (b := ?b_) ?hb_ ?_ ?_); case hb_ => rfl) | ((conv => whnf); first | (with_reducible refine hK_ _ _ ?_; try clear hK_ K_) | (with_reducible refine fun (g_ : Sl) (o_ : Ow) => ?_) | (with_reducible first | exact True.intro | refine And.intro trivial ?_ | refine And.intro ?_ ?_) | exact Nat.le_of_ble_eq_true rfl | exact Or.inl rfl | (intro h_; cases h_) | (intro h_; (try simp only [vS1] at h_)) | rfl))) <;> (try (conv => whnf)) <;> (try first | change (_ : Int) ≤ _ | change (_ : Nat) ≤ _) <;> (try ((fail_if_success (with_reducible apply Exists.intro)); (try dsimp only); (try simp only [vS1]))) <;> (try simp (disch := omega) only [vS3, Int.add_sub_cancel, tn1, tnp, tnc, vS2] at *)
 all_goals (try (fail_if_success (with_reducible apply Exists.intro)); first | with_reducible assumption | omega | exact mdl (by omega) | exact ilo1 (by omega) | exact ilo2 (by omega) | exact ihi1 (by omega) (by omega) | exact ihi2 (by omega) (by omega))
 all_goals first
  | exact hpt _ (by omega)
  | (refine ⟨k + 1, by omega, by omega, ?_⟩; (repeat' (first | (with_reducible first | exact True.intro | refine And.intro ?_ ?_ | refine Head.mk ?_ ?_ ?_ ?_) | ((conv => lhs; whnf); first | (with_reducible first | rfl | exact vInt_s (by omega)) | exact rfl) | ((conv => whnf); first | (with_reducible first | exact True.intro | refine And.intro ?_ ?_)))) <;> (try (conv => lhs; whnf)); refine congrArg vInt ?_; first | exact nearTo_t (by assumption) (.inl (by assumption)) | exact nearTo_t (by assumption) (.inr (by assumption)) | exact nearTo_f1 (by assumption) | exact nearTo_f2 (by assumption) (by assumption))
  | skip
 ·unfold nearM; rw [hin, hip, show k = gs.length by omega]; rfl
end Go.Proofs.YtnepfcnlngpchaaGreat
namespace Go.Proofs.YtnepfcnlngpchaaGreat
open Go.RowKit Go.Proofs.YtnepfcnlngpchaaGreat.Nm
set_option maxRecDepth 10000
set_option maxHeartbeats 4000000
abbrev Msk := List (List Bool)
structure LOk (M : Msk) (l : List Int) : Prop where
 le : l.length ≤ 64
 at_ : ∀ j, j < l.length → 0 ≤ l.getD j 0 ∧ l.getD j 0 < M.length
theorem LOk.app {M : Msk} {l : List Int} {k : Nat} (h : LOk M l) (hl : l.length < 64) (hk : k < M.length) : LOk M (l ++ [(k : Int)]) := by
 refine ⟨by rw [List.length_append, List.length_singleton]; omega, fun j hj => ?_⟩
 rw [List.length_append, List.length_singleton] at hj
 rw [List.getD_eq_getElem?_getD]
 rcases Nat.lt_or_ge j l.length with h1 | h1
 ·rw [List.getElem?_append_left h1, ← List.getD_eq_getElem?_getD]
  exact h.at_ j h1
 ·rw [List.getElem?_append_right h1, show j - l.length = 0 by omega]
  simp only [List.getElem?_cons_zero, Option.getD_some]
  omega
end Go.Proofs.YtnepfcnlngpchaaGreat
namespace Go.Proofs.YtnepfcnlngpchaaGreat
open Go.RowKit Go.Proofs.YtnepfcnlngpchaaGreat.Nm
set_option maxRecDepth 10000
set_option maxHeartbeats 2000000
def strAt (l : List Pt) (i : Nat) : Bool := decide (turn (pAt l (prvN l.length i)) (pAt l i) (pAt l (nxtN l.length i)) = 0)
def firstStr (l : List Pt) : Option Nat := if 2 < l.length then (List.range l.length).find? (strAt l) else none
def strRun : Nat → List Pt → List Pt
 | 0, l => l
 | f + 1, l => match firstStr l with
  | none => l
  | some i => strRun f (l.eraseIdx i)
def straightM (l : List Pt) : List Pt := strRun l.length l
structure StrSt (xs l : List Pt) : Prop where
 run : strRun l.length l = straightM xs
 len : l.length ≤ xs.length
theorem StrSt.step {xs l : List Pt} (h : StrSt xs l) {i : Nat} (hi : i < l.length) (hf : firstStr l = some i) : StrSt xs (l.eraseIdx i) := by
 have hl := List.length_eraseIdx_of_lt hi
 have hr := h.run
 have := h.len
 refine ⟨?_, by omega⟩
 rw [hl]
 rw [show l.length = (l.length - 1) + 1 by omega] at hr
 unfold strRun at hr
 rw [hf] at hr
 exact hr
theorem StrSt.done {xs l : List Pt} (h : StrSt xs l) (hf : firstStr l = none) : straightM xs = l := by
 rw [← h.run]
 cases hn : l.length with
 | zero => rfl
 | succ n => unfold strRun; rw [hf]
theorem corner_in {xs : List Pt} (hr : roomOk xs = true) {k : Nat} (hk : k < xs.length) : inP xs (pAt xs k) = true := by
 refine inP_iff.2 ⟨room_pt hr hk, ?_⟩
 rw [placeM_on hk (onS_self (a := pAt xs k) (b := pCy xs (k + 1)))]
 decide
end Go.Proofs.YtnepfcnlngpchaaGreat
namespace Go.Proofs.YtnepfcnlngpchaaGreat
open Go.RowKit Go.Proofs.YtnepfcnlngpchaaGreat.Nm
set_option maxRecDepth 10000
abbrev Cur := List Int × Int × Int
def curL (c : Cur) : List D := [.sl none (.b .u8) c.1, .int .i64 c.2.1, .int .i64 c.2.2]
structure curOk (c : Cur) : Prop where
 len : c.1.length ≤ 1048576
 lo : 0 ≤ c.2.1
 hi : c.2.1 ≤ 1048576
def newH (bs : List Int) : Nat → Int
 | 0 => W (99143 + (bs.length : Int))
 | i + 1 => bitI .and .i64 (W (W (W (newH bs i * 131) + W (bs.getD i 0)) + 7)) 1073741823
def newC (bs : List Int) : Cur := (bs, 0, newH bs (min bs.length 4000))
def byteH (c : Cur) : Int := W (c.2.2 * 6364136223846793005 + 1442695040888963407)
def byte0 (c : Cur) : Int := bitI .and .i64 (bitI .xor .i64 (bitI .shr .i64 (byteH c) 33) (bitI .shr .i64 (byteH c) 45)) 255
def byteX (c : Cur) : Int := if c.2.1 < (c.1.length : Int) then bitI .and .i64 (W (byte0 c + W (c.1.getD c.2.1.toNat 0))) 255 else byte0 c
def byteC (c : Cur) : Cur := (c.1, if c.2.1 < (c.1.length : Int) then c.2.1 + 1 else c.2.1, byteH c)
theorem and255 (x : Int) : 0 ≤ bitI .and .i64 x 255 ∧ bitI .and .i64 x 255 ≤ 255 := by
 have h : (BitVec.ofInt IntKind.i64.bits x &&& BitVec.ofInt IntKind.i64.bits 255).toNat ≤ 255 := by
  rw [BitVec.toNat_and]
  exact Nat.le_trans Nat.and_le_right (by decide)
 have e : bitI .and .i64 x 255 = (((BitVec.ofInt IntKind.i64.bits x &&& BitVec.ofInt IntKind.i64.bits 255).toNat : Nat) : Int) := W_in (by omega) (by omega)
 rw [e]
 omega
theorem byteX_bd (c : Cur) : 0 ≤ byteX c ∧ byteX c ≤ 255 := by
 unfold byteX
 split
 ·exact and255 _
 ·exact and255 _
theorem byteC_ok {c : Cur} (h : curOk c) : curOk (byteC c) := by
 obtain ⟨h1, h2, h3⟩ := h
 refine ⟨h1, ?_, ?_⟩ <;> (unfold byteC; simp only; split <;> omega)
def belowX (c : Cur) (n : Int) : Int :=
 if n ≤ 0 then 0 else if n ≤ 256 then (byteX c).tmod n
 else (byteX c * 16777216 + byteX (byteC c) * 65536 + byteX (byteC (byteC c)) * 256 + byteX (byteC (byteC (byteC c)))).tmod n
def belowC (c : Cur) (n : Int) : Cur := if n ≤ 0 then c else if n ≤ 256 then byteC c else byteC (byteC (byteC (byteC c)))
theorem below_bd {c : Cur} {n : Int} (h : 0 < n) : 0 ≤ belowX c n ∧ belowX c n < n := by
 unfold belowX
 have h1 := byteX_bd c
 have h2 := byteX_bd (byteC c)
 have h3 := byteX_bd (byteC (byteC c))
 have h4 := byteX_bd (byteC (byteC (byteC c)))
 rw [if_neg (by omega)]
 split
 ·exact ⟨Int.tmod_nonneg _ h1.1, Int.tmod_lt_of_pos _ h⟩
 ·exact ⟨Int.tmod_nonneg _ (by omega), Int.tmod_lt_of_pos _ h⟩
theorem belowC_ok {c : Cur} {n : Int} (h : curOk c) : curOk (belowC c n) := by
 unfold belowC
 split
 ·exact h
 ·split
  ·exact byteC_ok h
  ·exact byteC_ok (byteC_ok (byteC_ok (byteC_ok h)))
theorem newC_ok {bs : List Int} (h : bs.length ≤ 1048576) : curOk (newC bs) := ⟨h, Int.le_refl 0, show (0 : Int) ≤ 1048576 by decide⟩
def l01NewC : ConD := mkConN [.sl (.b .u8)] t_spec_l01Cur (fun x => x.1.length ≤ 1048576) fun x => curL (newC x.1)
set_option maxRecDepth 200000 in
theorem l01New_ok : GoodD Tryz.prog n_spec_l01New l01NewC := by
 refine good_ofN (tys := tyL) (env := []) (envw := []) (envd := []) [31] [] [] [] [] mixed tys trivial trivial trivial Tryz.func29 rfl (by kernel_rfl) (by decide) (by kernel_rfl) ?_
 have hG_ := kpz [(0, [0]), (1, [0, 3]), (2, [0, 3, 4]), (3, [0, 3, 4, 15]), (4, [0, 3, 4]), (5, [0, 3, 4]), (6, [2])] [] [] []
 rintro ⟨(bs : List Int), ⟨⟩⟩ (h1 : bs.length ≤ _)
 (repeat' (first | (with_reducible first | exact True.intro | refine zQ ?_ | (refine zG hG_ ?_; intro K_ hK_) | (refine zR ?_; intro K_ hK_) | (refine hK_ _ _ ?_; try clear hK_ K_) | refine sq_n ?_ | refine sq_r ?_ | refine sq_e ?_ | refine bq_n ?_ | refine bq_r ?_ | refine bq_q ?_ | refine zB ?_ | refine zX ?_ | refine zT ?_ | refine zK ?_ | refine gq_n ?_ | refine gq_r ?_ | refine gq_e ?_ | refine lq_n ?_ | refine lq_r ?_ | refine lq_e ?_ | refine bq_e (by decide) ?_) | ((with_reducible refine zC (b := ?b_) ?hb_ ?_ ?_); case hb_ => rfl) | ((conv => whnf); first | (with_reducible refine hK_ _ _ ?_; try clear hK_ K_) | (with_reducible refine fun (g_ : Sl) (o_ : Ow) => ?_) | (with_reducible first | exact True.intro | refine And.intro trivial ?_ | refine And.intro ?_ ?_) | exact Nat.le_of_ble_eq_true rfl | exact Or.inl rfl | (intro h_; cases h_) | (intro h_; (try simp only [vS1] at h_)) | rfl))) <;> (try (conv => whnf)) <;> (try first | change (_ : Int) ≤ _ | change (_ : Nat) ≤ _) <;> (try ((fail_if_success (with_reducible apply Exists.intro)); (try dsimp only); (try simp only [vS1])))
 refine awp'_loopG (α := Nat) (fun i ver_ => [(3, vInt (newH bs i)), (4, vInt i)]) (fun i ver_ => []) (fun i ver_ => []) (fun i => i ≤ bs.length ∧ i ≤ 4000) (fun i => bs.length - i) [0] [] (0) ?_
 conv => whnf
 refine ⟨⟨?inv1_, ?vals1_, ?own1_, ?fix1_⟩, ?body1_⟩
 case' vals1_ => (repeat' (first | (with_reducible first | exact True.intro | refine And.intro ?_ ?_ | refine Head.mk ?_ ?_ ?_ ?_) | ((conv => lhs; whnf); first | (with_reducible first | rfl | exact vInt_s (by omega)) | exact rfl) | ((conv => whnf); first | (with_reducible first | exact True.intro | refine And.intro ?_ ?_)))) <;> (try (conv => lhs; whnf))
 case' own1_ => (repeat' (first | (with_reducible first | exact True.intro | refine And.intro ?_ ?_ | refine Head.mk ?_ ?_ ?_ ?_) | ((conv => lhs; whnf); first | (with_reducible first | rfl | exact vInt_s (by omega)) | exact rfl) | ((conv => whnf); first | (with_reducible first | exact True.intro | refine And.intro ?_ ?_)))) <;> (try (conv => lhs; whnf))
 case' fix1_ => (repeat' (first | (with_reducible first | exact True.intro | refine And.intro ?_ ?_ | refine Head.mk ?_ ?_ ?_ ?_) | ((conv => lhs; whnf); first | (with_reducible first | rfl | exact vInt_s (by omega)) | exact rfl) | ((conv => whnf); first | (with_reducible first | exact True.intro | refine And.intro ?_ ?_)))) <;> (try (conv => lhs; whnf))
 ·exact ⟨Nat.zero_le _, Nat.zero_le _⟩
 rintro i g_ o_ v_ ⟨hi, hi2⟩
 have hG_ := kpz [(0, [0]), (1, [0, 3]), (2, [0, 3, 4]), (3, [0, 3, 4, 15]), (4, [0, 3, 4]), (5, [0, 3, 4]), (6, [2])] [(6, [31])] [] []
 (repeat' (first | (with_reducible first | exact True.intro | refine zQ ?_ | (refine zG hG_ ?_; intro K_ hK_) | (refine zR ?_; intro K_ hK_) | (refine hK_ _ _ ?_; try clear hK_ K_) | refine sq_n ?_ | refine sq_r ?_ | refine sq_e ?_ | refine bq_n ?_ | refine bq_r ?_ | refine bq_q ?_ | refine zB ?_ | refine zX ?_ | refine zT ?_ | refine zK ?_ | refine gq_n ?_ | refine gq_r ?_ | refine gq_e ?_ | refine lq_n ?_ | refine lq_r ?_ | refine lq_e ?_ | refine bq_e (by decide) ?_) | ((with_reducible refine zC (b := ?b_) ?hb_ ?_ ?_); case hb_ => rfl) | ((conv => whnf); first | (with_reducible refine hK_ _ _ ?_; try clear hK_ K_) | (with_reducible refine fun (g_ : Sl) (o_ : Ow) => ?_) | (with_reducible first | exact True.intro | refine And.intro trivial ?_ | refine And.intro ?_ ?_) | exact Nat.le_of_ble_eq_true rfl | exact Or.inl rfl | (intro h_; cases h_) | (intro h_; (try simp only [vS1] at h_)) | rfl))) <;> (try (conv => whnf)) <;> (try first | change (_ : Int) ≤ _ | change (_ : Nat) ≤ _) <;> (try ((fail_if_success (with_reducible apply Exists.intro)); (try dsimp only); (try simp only [vS1])))
 all_goals (try (fail_if_success (with_reducible apply Exists.intro)); first | with_reducible assumption | omega | exact mdl (by omega) | exact ilo1 (by omega) | exact ilo2 (by omega) | exact ihi1 (by omega) (by omega) | exact ihi2 (by omega) (by omega))
 ·refine ⟨i + 1, by omega, by omega, ?_⟩
  (repeat' (first | (with_reducible first | exact True.intro | refine And.intro ?_ ?_ | refine Head.mk ?_ ?_ ?_ ?_) | ((conv => lhs; whnf); first | (with_reducible first | rfl | exact vInt_s (by omega)) | exact rfl) | ((conv => whnf); first | (with_reducible first | exact True.intro | refine And.intro ?_ ?_)))) <;> (try (conv => lhs; whnf))
 ·show dOf _ = some _
  unfold curL newC
  rw [show min bs.length 4000 = i by omega]; rfl
 ·show dOf _ = some _
  unfold curL newC
  rw [show min bs.length 4000 = i by omega]; rfl
def l01ByteC : ConD := mkConB [.cur] 0 t_spec_l01Cur (fun x => curOk x.1) (fun x => vInt (byteX x.1)) fun x => curL (byteC x.1)
theorem l01Byte_ok : GoodD Tryz.prog n_spec_l01Byte l01ByteC := by
 refine good_ofB (tys := tyL) (env := []) (envw := []) (envd := []) [1000] [] [] [] [] mixed tys trivial trivial trivial Tryz.func102 rfl (by kernel_rfl) ⟨by decide, rfl⟩ (by kernel_rfl) ?_
 have hG_ := kpz [(0, [0]), (1, [0]), (2, [0, 3]), (3, [0, 3, 34]), (4, [0, 3]), (5, [3]), (6, [2])] [(0, [1000]), (1, [1000]), (2, [1000]), (3, [1000]), (4, [1000]), (5, [1000]), (6, [1000])] [] []
 rintro ⟨⟨(bs : List Int), (i : Int), (h : Int)⟩, ⟨⟩⟩ ⟨(h1 : bs.length ≤ _), (h2 : 0 ≤ i), (h3 : i ≤ _)⟩
 (repeat' (first | (with_reducible first | exact True.intro | refine zQ ?_ | (refine zG hG_ ?_; intro K_ hK_) | (refine zR ?_; intro K_ hK_) | (refine hK_ _ _ ?_; try clear hK_ K_) | refine sq_n ?_ | refine sq_r ?_ | refine sq_e ?_ | refine bq_n ?_ | refine bq_r ?_ | refine bq_q ?_ | refine zB ?_ | refine zX ?_ | refine zT ?_ | refine zK ?_ | refine gq_n ?_ | refine gq_r ?_ | refine gq_e ?_ | refine lq_n ?_ | refine lq_r ?_ | refine lq_e ?_ | refine bq_e (by decide) ?_) | ((with_reducible refine zC (b := ?b_) ?hb_ ?_ ?_); case hb_ => rfl) | ((conv => whnf); first | (with_reducible refine hK_ _ _ ?_; try clear hK_ K_) | (with_reducible refine fun (g_ : Sl) (o_ : Ow) => ?_) | (with_reducible first | exact True.intro | refine And.intro trivial ?_ | refine And.intro ?_ ?_) | exact Nat.le_of_ble_eq_true rfl | exact Or.inl rfl | (intro h_; cases h_) | (intro h_; (try simp only [vS1] at h_)) | rfl))) <;> (try (conv => whnf)) <;> (try first | change (_ : Int) ≤ _ | change (_ : Nat) ≤ _) <;> (try ((fail_if_success (with_reducible apply Exists.intro)); (try dsimp only); (try simp only [vS1])))
 all_goals (try (fail_if_success (with_reducible apply Exists.intro)); first | with_reducible assumption | omega | exact mdl (by omega) | exact ilo1 (by omega) | exact ilo2 (by omega) | exact ihi1 (by omega) (by omega) | exact ihi2 (by omega) (by omega))
 ·show dOf _ = some _
  unfold curL byteC byteH
  simp only [W_l1, if_pos h_, W_in (show -9223372036854775808 ≤ i + 1 by omega) (show i + 1 ≤ 9223372036854775807 by omega)]; rfl
 ·unfold byteX byte0 byteH
  simp only [W_l1, if_pos h_]
 ·show dOf _ = some _
  unfold curL byteC byteH
  simp only [W_l1, if_neg h_]; rfl
 ·unfold byteX byte0 byteH
  simp only [W_l1, if_neg h_]
def l01BelowC : ConD := mkConB [.cur, .int] 0 t_spec_l01Cur (fun x => curOk x.1) (fun x => vInt (belowX x.1 x.2.1)) fun x => curL (belowC x.1 x.2.1)
theorem l01Below_ok : GoodD Tryz.prog n_spec_l01Below l01BelowC := by
 refine good_ofB (tys := tyL) (env := []) (envw := []) (envd := [(n_spec_l01Byte, l01ByteC)]) [14, 18, 20, 22, 24, 1000] [14, 18, 20, 22, 24, 1000] [] [] [14, 18, 20, 22, 24] mixed tys trivial trivial ⟨l01Byte_ok, trivial⟩ Tryz.func65 rfl (by kernel_rfl) ⟨by decide, rfl⟩ (by kernel_rfl) ?_
 have hG_ := kpz [(0, [0, 1]), (1, [0, 1, 10]), (2, [4]), (3, [0, 1, 12]), (4, [4]), (5, [0, 1, 5]), (6, [0, 1, 5, 6]), (7, [0, 1, 5, 6, 7]), (8, [1, 5, 6, 7, 8]), (9, [4])] [(0, [1000]), (1, [1000]), (2, [1000]), (3, [1000]), (4, [1000]), (5, [1000]), (6, [1000]), (7, [1000]), (8, [1000]), (9, [1000])] [] []
 rintro ⟨⟨(bs : List Int), (i : Int), (h : Int)⟩, (n : Int), ⟨⟩⟩ (hc : curOk (bs, i, h))
 have h1 := byteC_ok hc
 have h2 := byteC_ok h1
 have h3 := byteC_ok h2
 have b0 := byteX_bd (bs, i, h)
 have b1 := byteX_bd (byteC (bs, i, h))
 have b2 := byteX_bd (byteC (byteC (bs, i, h)))
 have b3 := byteX_bd (byteC (byteC (byteC (bs, i, h))))
 (repeat' (first | (with_reducible first | exact True.intro | refine zQ ?_ | (refine zG hG_ ?_; intro K_ hK_) | (refine zR ?_; intro K_ hK_) | (refine hK_ _ _ ?_; try clear hK_ K_) | refine sq_n ?_ | refine sq_r ?_ | refine sq_e ?_ | refine bq_n ?_ | refine bq_r ?_ | refine bq_q ?_ | refine zB ?_ | refine zX ?_ | refine zT ?_ | refine zK ?_ | refine gq_n ?_ | refine gq_r ?_ | refine gq_e ?_ | refine lq_n ?_ | refine lq_r ?_ | refine lq_e ?_ | refine bq_e (by decide) ?_) | ((with_reducible refine zC (b := ?b_) ?hb_ ?_ ?_); case hb_ => rfl) | ((conv => whnf); first | (with_reducible refine hK_ _ _ ?_; try clear hK_ K_) | (with_reducible refine fun (g_ : Sl) (o_ : Ow) => ?_) | (with_reducible first | exact True.intro | refine And.intro trivial ?_ | refine And.intro ?_ ?_) | exact Nat.le_of_ble_eq_true rfl | exact Or.inl rfl | (intro h_; cases h_) | (intro h_; (try simp only [vS1] at h_)) | rfl))) <;> (try (conv => whnf)) <;> (try first | change (_ : Int) ≤ _ | change (_ : Nat) ≤ _) <;> (try ((fail_if_success (with_reducible apply Exists.intro)); (try dsimp only); (try simp only [vS1])))
 all_goals (try (fail_if_success (with_reducible apply Exists.intro)); first | with_reducible assumption | omega | exact mdl (by omega) | exact ilo1 (by omega) | exact ilo2 (by omega) | exact ihi1 (by omega) (by omega) | exact ihi2 (by omega) (by omega))
 ·show dOf _ = some _
  unfold curL belowC
  simp only [if_pos h_]; rfl
 ·unfold belowX
  simp only [if_pos h_]
 ·exact ‹¬ Int.ofNat 0 ≤ 0› (by decide)
 ·show dOf _ = some _
  unfold curL belowC
  simp only [if_neg ‹¬ n ≤ 0›, if_pos h_]; rfl
 ·unfold belowX
  simp only [if_neg ‹¬ n ≤ 0›, if_pos h_]
 ·exact ‹¬ Int.ofNat 0 ≤ 0› (by decide)
 ·show dOf _ = some _
  unfold curL belowC
  simp only [if_neg ‹¬ n ≤ 0›, if_neg h_]; rfl
 ·unfold belowX
  simp only [if_neg ‹¬ n ≤ 0›, if_neg h_, W_l1, W_l2]
  rw [W_in (by omega) (by omega)]
end Go.Proofs.YtnepfcnlngpchaaGreat
namespace Go.Proofs.YtnepfcnlngpchaaGreat
open Go.RowKit Go.Proofs.YtnepfcnlngpchaaGreat.Nm
set_option maxRecDepth 10000
set_option maxHeartbeats 2000000
def bigC : Con := mkCon [.sl (.b .u8)] (fun _ => True) fun x => vB (decide ((x.1.length : Int) > 1048576))
theorem big_ok : Good1 Tryz.prog n_laws_big bigC := by
 refine good_ofG (tys := tyL) (env := []) (envw := []) (envd := []) [] [] [] [] [] mixed tys trivial trivial trivial Tryz.func6 rfl (by kernel_rfl) (by decide) (by kernel_rfl) ?_
 have hG_ := kpz [(0, [0]), (1, [2])] [] [] []
 rintro ⟨(bs : List Int), ⟨⟩⟩ -
 (repeat' (first | (with_reducible first | exact True.intro | refine zQ ?_ | (refine zG hG_ ?_; intro K_ hK_) | (refine zR ?_; intro K_ hK_) | (refine hK_ _ _ ?_; try clear hK_ K_) | refine sq_n ?_ | refine sq_r ?_ | refine sq_e ?_ | refine bq_n ?_ | refine bq_r ?_ | refine bq_q ?_ | refine zB ?_ | refine zX ?_ | refine zT ?_ | refine zK ?_ | refine gq_n ?_ | refine gq_r ?_ | refine gq_e ?_ | refine lq_n ?_ | refine lq_r ?_ | refine lq_e ?_ | refine bq_e (by decide) ?_) | ((with_reducible refine zC (b := ?b_) ?hb_ ?_ ?_); case hb_ => rfl) | ((conv => whnf); first | (with_reducible refine hK_ _ _ ?_; try clear hK_ K_) | (with_reducible refine fun (g_ : Sl) (o_ : Ow) => ?_) | (with_reducible first | exact True.intro | refine And.intro trivial ?_ | refine And.intro ?_ ?_) | exact Nat.le_of_ble_eq_true rfl | exact Or.inl rfl | (intro h_; cases h_) | (intro h_; (try simp only [vS1] at h_)) | rfl))) <;> (try (conv => whnf)) <;> (try first | change (_ : Int) ≤ _ | change (_ : Nat) ≤ _) <;> (try ((fail_if_success (with_reducible apply Exists.intro)); (try dsimp only); (try simp only [vS1])))
 all_goals (try ((fail_if_success (with_reducible apply Exists.intro)); first | with_reducible assumption | omega))
end Go.Proofs.YtnepfcnlngpchaaGreat
namespace Go.Proofs.YtnepfcnlngpchaaGreat
open Go.RowKit Go.Proofs.YtnepfcnlngpchaaGreat.Nm
set_option maxRecDepth 10000
def Rise (n : Nat) : Nat → List Int → Prop
 | _, [] => True
 | a, x :: r => ∃ k : Nat, x = (k : Int) ∧ a ≤ k ∧ k < n ∧ Rise n (k + 1) r
theorem Rise.mem {n : Nat} : ∀ {a : Nat} {l : List Int}, Rise n a l → ∀ x ∈ l, ∃ k : Nat, x = (k : Int) ∧ a ≤ k ∧ k < n
 | _, [], _, x, hx => by cases hx
 | a, y :: r, ⟨k, e, h1, h2, h3⟩, x, hx => by
  rcases List.mem_cons.1 hx with rfl | hx
  ·exact ⟨k, e, h1, h2⟩
  ·obtain ⟨j, e', g1, g2⟩ := h3.mem x hx
   exact ⟨j, e', by omega, g2⟩
def covF (xs : List Pt) (l : List Int) : Prop := ∀ p ∈ floorPts xs, ∃ k ∈ l, seesS xs (pAt xs k.toNat) p = true
theorem floor_pos' {xs : List Pt} (hr : roomOk xs = true) : 0 < (floorPts xs).length := List.length_pos_of_mem (Geo.corner_floor hr (room_pos hr))
theorem Cutd.mem {l : List Int} {ts : List Tri} (h : Cutd l ts) : ∀ t ∈ ts, t.1 ∈ l ∧ t.2.1 ∈ l ∧ t.2.2 ∈ l := by
 induction h with
 | last h3 =>
  rename_i l
  intro t ht
  rw [List.mem_singleton.1 ht]
  have m0 := gI_mem (l := l) (k := 0) (by omega)
  have m1 := gI_mem (l := l) (k := 1) (by omega)
  have m2 := gI_mem (l := l) (k := 2) (by omega)
  rcases triS_six (gI l 0) (gI l 1) (gI l 2) with e | e | e | e | e | e <;> rw [e] <;> exact ⟨by assumption, by assumption, by assumption⟩
 | step h4 hi hr ih =>
  rename_i l ts i
  intro t ht
  rcases List.mem_cons.1 ht with rfl | ht
  ·have m0 := gI_mem (l := l) (k := prvN l.length i) (prv_lt (by omega))
   have m1 := gI_mem (l := l) (k := i) hi
   have m2 := gI_mem (l := l) (k := nxtN l.length i) (nxt_lt (by omega))
   unfold triAt
   rcases triS_six (gI l (prvN l.length i)) (gI l i) (gI l (nxtN l.length i)) with e | e | e | e | e | e <;> rw [e] <;> exact ⟨by assumption, by assumption, by assumption⟩
  ·obtain ⟨h1, h2, h3⟩ := ih t ht
   have sub := List.eraseIdx_sublist l i
   exact ⟨sub.mem h1, sub.mem h2, sub.mem h3⟩
def Dif (cs : List Int) (a b c : Int) : Prop := cI cs a ≠ cI cs b ∧ cI cs b ≠ cI cs c ∧ cI cs a ≠ cI cs c
theorem dif_triS {cs : List Int} {a b c : Int} (h : Dif cs a b c) : Dif cs (triS a b c).1 (triS a b c).2.1 (triS a b c).2.2 := by
 obtain ⟨h1, h2, h3⟩ := h
 rcases triS_six a b c with e | e | e | e | e | e <;> rw [e]
 ·exact ⟨h1, h2, h3⟩
 ·exact ⟨h3, h2.symm, h1⟩
 ·exact ⟨h1.symm, h3, h2⟩
 ·exact ⟨h2, h3.symm, h1.symm⟩
 ·exact ⟨h3.symm, h1, h2.symm⟩
 ·exact ⟨h2.symm, h1.symm, h3.symm⟩
theorem Cutd.dif {n : Nat} {l : List Int} {ts : List Tri} (h : Cutd l ts) (hl : Left n l) : ∀ t ∈ ts, Dif (colF n ts) t.1 t.2.1 t.2.2 := by
 induction h with
 | last h3 =>
  rename_i l
  intro t ht
  rw [List.mem_singleton.1 ht]
  have hc := (Cutd.last h3).col hl
  have q := hc.ne
  rw [h3] at q
  exact dif_triS ⟨q 0 (by decide), q 1 (by decide), (q 2 (by decide)).symm⟩
 | step h4 hi hr ih =>
  rename_i l ts i
  intro t ht
  have hle := hl.erase h4 hi
  obtain ⟨⟨hc, hp, hq⟩, hC⟩ := Col.step hl h4 hi (hr.col hle)
  rw [colF_cons hr.ne]
  have hout := (hr.col hle).len
  have hpl := prv_lt (n := l.length) (i := i) (by omega)
  have hnl := nxt_lt (n := l.length) (i := i) (by omega)
  obtain ⟨e1, e2, e3⟩ := prv_ne (n := l.length) (by omega) hi
  have hs : colStep (colF n ts) (triAt l i) = (colF n ts).set (gI l i).toNat (3 - cI (colF n ts) (gI l (prvN l.length i)) - cI (colF n ts) (gI l (nxtN l.length i))) := colStep_cut (by omega) hp.1 hq.1
  have hcx : 0 ≤ gI l i ∧ gI l i < (colF n ts).length := by rw [hout]; exact hl.at hi
  have hget : ∀ y, 0 ≤ y → cI (colStep (colF n ts) (triAt l i)) y = if y = gI l i then 3 - cI (colF n ts) (gI l (prvN l.length i)) - cI (colF n ts) (gI l (nxtN l.length i)) else cI (colF n ts) y := fun y hy => by rw [hs]; exact cI_set hcx hy
  rcases List.mem_cons.1 ht with rfl | ht
  ·have b := hC.yes _ (gI_mem hi)
   have gc := hget _ (hl.at hi).1
   have gp := hget _ (hl.at hpl).1
   have gq := hget _ (hl.at hnl).1
   rw [if_pos rfl] at gc
   rw [if_neg fun e => e1 (hl.inj hpl hi e)] at gp
   rw [if_neg fun e => e2 (hl.inj hnl hi e)] at gq
   have n1 := hC.ne i hi
   have n0 := hC.ne _ hpl
   have en : nxtN l.length (prvN l.length i) = i := by
    rcases prv_eq hi with ⟨h1, h2⟩ | ⟨h1, h2⟩ <;> rw [h2]
    ·rcases nxt_eq (n := l.length) (i := l.length - 1) (by omega) with ⟨g1, g2⟩ | ⟨g1, g2⟩ <;> omega
    ·rcases nxt_eq (n := l.length) (i := i - 1) (by omega) with ⟨g1, g2⟩ | ⟨g1, g2⟩ <;> omega
   rw [en] at n0
   exact dif_triS ⟨n0, n1, by omega⟩
  ·obtain ⟨d1, d2, d3⟩ := ih hle t ht
   obtain ⟨m1, m2, m3⟩ := hr.mem t ht
   have same : ∀ y, y ∈ l.eraseIdx i → cI (colStep (colF n ts) (triAt l i)) y = cI (colF n ts) y := fun y hy => by
    rw [hget y (hle.ge y hy), if_neg ((hl.mem_erase hi).1 hy).2]
   exact ⟨by rw [same _ m1, same _ m2]; exact d1, by rw [same _ m2, same _ m3]; exact d2, by rw [same _ m1, same _ m3]; exact d3⟩
theorem tris_cut {xs : List Pt} (hr : roomOk xs = true) : Cutd (allC xs.length) (trisM xs) := (Geo.tris_good hr).cut
theorem colors_dif {xs : List Pt} (hr : roomOk xs = true) : ∀ t ∈ trisM xs, Dif (colorsM xs) t.1 t.2.1 t.2.2 := (tris_cut hr).dif (left_all (room_len hr).1)
theorem colors_at {xs : List Pt} (hr : roomOk xs = true) {k : Int} (h0 : 0 ≤ k) (h : k < xs.length) : 0 ≤ cI (colorsM xs) k ∧ cI (colorsM xs) k ≤ 2 := by
 have hl := colors_len (Geo.tris_ne hr)
 refine colors_bd (xs := xs) ?_
 show (colorsM xs).getD k.toNat 0 ∈ _
 rw [getD_lt _ (by omega)]
 exact List.getElem_mem _
def colL (xs : List Pt) (c : Int) : List Int := ((List.range xs.length).filter fun j => decide ((colorsM xs).getD j 0 = c)).map fun j : Nat => (j : Int)
theorem mem_colL {xs : List Pt} {c x : Int} : x ∈ colL xs c ↔ ∃ k : Nat, x = (k : Int) ∧ k < xs.length ∧ cI (colorsM xs) k = c := by
 unfold colL
 rw [List.mem_map]
 constructor
 ·rintro ⟨k, hk, rfl⟩
  obtain ⟨h1, h2⟩ := List.mem_filter.1 hk
  exact ⟨k, rfl, List.mem_range.1 h1, of_decide_eq_true h2⟩
 ·rintro ⟨k, rfl, h1, h2⟩
  exact ⟨k, List.mem_filter.2 ⟨List.mem_range.2 h1, decide_eq_true h2⟩, rfl⟩
theorem Rise.weak {n : Nat} : ∀ {a : Nat} {l : List Int}, Rise n (a + 1) l → Rise n a l
 | _, [], _ => trivial
 | a, x :: r, ⟨k, e, h1, h2, h3⟩ => ⟨k, e, by omega, h2, h3⟩
theorem rise_filter (n : Nat) (f : Nat → Bool) : ∀ m a, a + m ≤ n → Rise n a (((List.range' a m).filter f).map fun k : Nat => (k : Int))
 | 0, a, _ => trivial
 | m + 1, a, h => by
  have ih := rise_filter n f m (a + 1) (by omega)
  rw [List.range'_succ, List.filter_cons]
  split
  ·exact ⟨a, rfl, Nat.le_refl _, by omega, ih⟩
  ·exact ih.weak
theorem colL_rise (xs : List Pt) (c : Int) : Rise xs.length 0 (colL xs c) := by
 unfold colL
 rw [List.range_eq_range']
 exact rise_filter _ _ _ _ (by omega)
theorem colL_cov {xs : List Pt} (hr : roomOk xs = true) {c : Int} (hc : 0 ≤ c ∧ c ≤ 2) : covF xs (colL xs c) := fun p hp => by
 obtain ⟨t, ht, hI⟩ := Geo.tris_all hp
 obtain ⟨s1, s2, s3⟩ := ((Geo.tris_good hr).tri t ht).see p hI
 obtain ⟨d1, d2, d3⟩ := colors_dif hr t ht
 obtain ⟨i0, i1, i2, i3⟩ := tris_in ht
 have b1 := colors_at hr (k := t.1) (by omega) (by omega)
 have b2 := colors_at hr (k := t.2.1) (by omega) (by omega)
 have b3 := colors_at hr (k := t.2.2) (by omega) (by omega)
 obtain ⟨-, hpt, hpi⟩ := Geo.mem_floor.1 hp
 have key : ∀ k : Int, 0 ≤ k → k < xs.length → cI (colorsM xs) k = c → Geo.NoOut (Geo.roomP xs) (Geo.tv xs k) p → ∃ g ∈ colL xs c, seesS xs (pAt xs g.toNat) p = true := fun k h0 h1 h2 h3 => by
  refine ⟨k, mem_colL.2 ⟨k.toNat, by omega, by omega, by rw [Int.toNat_of_nonneg h0]; exact h2⟩, ?_⟩
  rw [Geo.seesS_noout hr (Geo.corner_ok hr (by omega)) hpt (Geo.corner_in hr (by omega)) hpi]
  rwa [show Geo.tv xs k = pAt xs k.toNat from Geo.v_lt (by omega)] at h3
 rcases (show cI (colorsM xs) t.1 = c ∨ cI (colorsM xs) t.2.1 = c ∨ cI (colorsM xs) t.2.2 = c by omega) with g | g | g
 ·exact key _ (by omega) (by omega) g s1
 ·exact key _ (by omega) (by omega) g s2
 ·exact key _ (by omega) (by omega) g s3
theorem cov_pos {xs : List Pt} (hr : roomOk xs = true) {l : List Int} (h : covF xs l) : 1 ≤ l.length := by
 obtain ⟨k, hk, -⟩ := h _ (pAt_mem (L := floorPts xs) (u := 0) (floor_pos' hr))
 exact List.length_pos_of_mem hk
theorem Rise.corners {n : Nat} {l : List Int} (h : Rise n 0 l) : ∀ x ∈ l, ∃ k : Nat, x = (k : Int) ∧ k < n := fun x hx => by
 obtain ⟨k, e, _, g⟩ := h.mem x hx
 exact ⟨k, e, g⟩
theorem seesAll_iff {xs : List Pt} (hr : roomOk xs = true) {l : List Int} (hl : ∀ x ∈ l, ∃ k : Nat, x = (k : Int) ∧ k < xs.length) : seesAllM xs (l.map (pI xs)) = true ↔ covF xs l := by
 unfold seesAllM covF seesAny
 rw [Bool.and_eq_true, List.all_eq_true]
 have hin : allInM xs (l.map (pI xs)) = true := by
  unfold allInM
  rw [hr, Bool.true_and, List.all_eq_true]
  intro p hp
  obtain ⟨x, hx, rfl⟩ := List.mem_map.1 hp
  obtain ⟨k, rfl, hk⟩ := hl x hx
  exact corner_in hr hk
 rw [hin]
 constructor
 ·rintro ⟨-, h⟩ p hp
  obtain ⟨g, hg, hs⟩ := List.any_eq_true.1 (h p hp)
  obtain ⟨x, hx, rfl⟩ := List.mem_map.1 hg
  exact ⟨x, hx, hs⟩
 ·intro h
  refine ⟨rfl, fun p hp => ?_⟩
  obtain ⟨x, hx, hs⟩ := h p hp
  exact List.any_eq_true.2 ⟨pI xs x, List.mem_map.2 ⟨x, hx, rfl⟩, hs⟩
theorem pts_map {xs : List Pt} (hr : roomOk xs = true) {l : List Int} (hl : ∀ x ∈ l, ∃ k : Nat, x = (k : Int) ∧ k < xs.length) : ptsOf xs l = l.map (pI xs) := ptsOf_ok hr (List.all_eq_true.2 fun x hx => by
 obtain ⟨k, rfl, hk⟩ := hl x hx
 rw [btw_iff]; omega)
theorem l04Copy_ok : Good1 Tryz.prog n_spec_l04Copy (roomRoomC id) := by
 refine good_ofG (tys := tyL) (env := []) (envw := []) (envd := []) [3] [] [] [] [] mixed tys trivial trivial trivial Tryz.func66 rfl (by kernel_rfl) (by decide) (by kernel_rfl) ?_
 have hG_ := kpz [(0, [1, 2]), (1, [2])] [(0, [2]), (1, [2, 3])] [] []
 rintro ⟨(xs : List Pt), ⟨⟩⟩ (h1 : xs.length ≤ _)
 (repeat' (first | (with_reducible first | exact True.intro | refine zQ ?_ | (refine zG hG_ ?_; intro K_ hK_) | (refine zR ?_; intro K_ hK_) | (refine hK_ _ _ ?_; try clear hK_ K_) | refine sq_n ?_ | refine sq_r ?_ | refine sq_e ?_ | refine bq_n ?_ | refine bq_r ?_ | refine bq_q ?_ | refine zB ?_ | refine zX ?_ | refine zT ?_ | refine zK ?_ | refine gq_n ?_ | refine gq_r ?_ | refine gq_e ?_ | refine lq_n ?_ | refine lq_r ?_ | refine lq_e ?_ | refine bq_e (by decide) ?_) | ((with_reducible refine zC (b := ?b_) ?hb_ ?_ ?_); case hb_ => rfl) | ((conv => whnf); first | (with_reducible refine hK_ _ _ ?_; try clear hK_ K_) | (with_reducible refine fun (g_ : Sl) (o_ : Ow) => ?_) | (with_reducible first | exact True.intro | refine And.intro trivial ?_ | refine And.intro ?_ ?_) | exact Nat.le_of_ble_eq_true rfl | exact Or.inl rfl | (intro h_; cases h_) | (intro h_; (try simp only [vS1] at h_)) | rfl))) <;> (try (conv => whnf)) <;> (try first | change (_ : Int) ≤ _ | change (_ : Nat) ≤ _) <;> (try ((fail_if_success (with_reducible apply Exists.intro)); (try dsimp only); (try simp only [vS1]))) <;> (try simp (disch := omega) only [vS3, vS2] at *)
 all_goals (try (fail_if_success (with_reducible apply Exists.intro)); first | with_reducible assumption | omega | exact mdl (by omega) | exact ilo1 (by omega) | exact ilo2 (by omega) | exact ihi1 (by omega) (by omega) | exact ihi2 (by omega) (by omega))
end Go.Proofs.YtnepfcnlngpchaaGreat
namespace Go.Proofs.YtnepfcnlngpchaaGreat
open Go.RowKit Go.Proofs.YtnepfcnlngpchaaGreat.Nm
set_option maxRecDepth 10000
set_option maxHeartbeats 4000000
def shapeM (k : Int) : List Pt :=
 if k = 0 then [(0, 0), (4, 0), (4, 4), (0, 4)] else
 if k = 1 then [(0, 0), (5, 0), (2, 4)] else
 if k = 2 then [(0, 0), (6, 0), (6, 2), (2, 2), (2, 6), (0, 6)] else
 if k = 3 then [(0, 0), (8, 0), (8, 6), (4, 2), (0, 6)] else
 if k = 4 then [(0, 0), (10, 0), (10, 5), (8, 1), (5, 5), (2, 1), (0, 5)] else
 if k = 5 then [(0, 0), (7, 0), (7, 7), (1, 7), (1, 3), (3, 3), (3, 5), (5, 5), (5, 2), (0, 2)] else
 if k = 6 then [(0, 0), (4, 2), (8, 0), (5, 3), (4, 7), (3, 3)] else [(0, 0), (6, 1), (7, 4), (3, 6), (1, 3)]
def l04ShapeC : Con := mkCon [.int] (fun _ => True) fun x => .val (.agg [.d (.sl none (.b .pt) (shapeM x.1))])
theorem l04Shape_ok : Good1 Tryz.prog n_spec_l04Shape l04ShapeC := by
 refine good_ofG (tys := tyL) (env := []) (envw := []) (envd := []) [] [] [] [] [] mixed tys trivial trivial trivial Tryz.func64 rfl (by kernel_rfl) (by decide) (by kernel_rfl) ?_
 have hG_ := kpz [(0, [0, 2]), (1, [2, 3]), (2, [2, 3, 4]), (3, [2]), (4, [2, 3, 12]), (5, [2]), (6, [2, 3, 19]), (7, [2]), (8, [2, 3, 29]), (9, [2]), (10, [2, 3, 38]), (11, [2]), (12, [2, 3, 49]), (13, [2]), (14, [2, 63]), (15, [2]), (16, [2])] [(0, [2]), (1, [2]), (2, [2]), (3, [2]), (4, [2]), (5, [2]), (6, [2]), (7, [2]), (8, [2]), (9, [2]), (10, [2]), (11, [2]), (12, [2]), (13, [2]), (14, [2]), (15, [2]), (16, [2])] [] []
 rintro ⟨(k : Int), ⟨⟩⟩ -
 (repeat' (first | (with_reducible first | exact True.intro | refine zQ ?_ | (refine zG hG_ ?_; intro K_ hK_) | (refine zR ?_; intro K_ hK_) | (refine hK_ _ _ ?_; try clear hK_ K_) | refine sq_n ?_ | refine sq_r ?_ | refine sq_e ?_ | refine bq_n ?_ | refine bq_r ?_ | refine bq_q ?_ | refine zB ?_ | refine zX ?_ | refine zT ?_ | refine zK ?_ | refine gq_n ?_ | refine gq_r ?_ | refine gq_e ?_ | refine lq_n ?_ | refine lq_r ?_ | refine lq_e ?_ | refine bq_e (by decide) ?_) | ((with_reducible refine zC (b := ?b_) ?hb_ ?_ ?_); case hb_ => rfl) | ((conv => whnf); first | (with_reducible refine hK_ _ _ ?_; try clear hK_ K_) | (with_reducible refine fun (g_ : Sl) (o_ : Ow) => ?_) | (with_reducible first | exact True.intro | refine And.intro trivial ?_ | refine And.intro ?_ ?_) | exact Nat.le_of_ble_eq_true rfl | exact Or.inl rfl | (intro h_; cases h_) | (intro h_; (try simp only [vS1] at h_)) | rfl))) <;> (try (conv => whnf)) <;> (try first | change (_ : Int) ≤ _ | change (_ : Nat) ≤ _) <;> (try ((fail_if_success (with_reducible apply Exists.intro)); (try dsimp only); (try simp only [vS1])))
 all_goals (try (fail_if_success (with_reducible apply Exists.intro)); first | with_reducible assumption | omega | exact mdl (by omega) | exact ilo1 (by omega) | exact ilo2 (by omega) | exact ihi1 (by omega) (by omega) | exact ihi2 (by omega) (by omega))
 all_goals first
  | (have e := eq_of_beq h_; subst e; rfl)
  | (unfold shapeM; simp_all; rfl)
def stepX (xs : List Pt) (c : Cur) : List Pt :=
 xs.set (belowX c xs.length).toNat ((xs.getD (belowX c xs.length).toNat (0, 0)).1 + belowX (belowC c xs.length) 3 - 1, (xs.getD (belowX c xs.length).toNat (0, 0)).2 + belowX (belowC (belowC c xs.length) 3) 3 - 1)
def stepC (n : Int) (c : Cur) : Cur := belowC (belowC (belowC c n) 3) 3
def stepR (s : List Pt × Cur) : List Pt × Cur := (if roomOk (stepX s.1 s.2) then stepX s.1 s.2 else s.1, stepC s.1.length s.2)
def iterR (s : List Pt × Cur) : Nat → List Pt × Cur
 | 0 => s
 | j + 1 => stepR (iterR s j)
def turnP (turn : Int) (p : Pt) : Pt := if turn = 1 then (-p.2, p.1) else if turn = 2 then (-p.1, -p.2) else p
def laidP (turn dx : Int) (p : Pt) : Pt := ((turnP turn p).1 + dx, (turnP turn p).2)
def laidAt (xs : List Pt) (turn first dx : Int) (k : Nat) : Pt := laidP turn dx (xs.getD ((first.toNat + k) % xs.length) (0, 0))
def laidR (xs : List Pt) (turn first dx : Int) : List Pt := (List.range xs.length).map (laidAt xs turn first dx)
def room0 (c : Cur) : List Pt × Cur := (shapeM (belowX c 8), belowC (belowC c 8) 4)
def roomK (c : Cur) : Int := belowX (belowC c 8) 4
def roomS (c : Cur) : List Pt × Cur := iterR (room0 c) (roomK c).toNat
def roomX (c : Cur) : List Pt :=
 laidR (roomS c).1 (belowX (roomS c).2 4) (belowX (belowC (roomS c).2 4) (roomS c).1.length) (belowX (belowC (belowC (roomS c).2 4) (roomS c).1.length) 5 - 2)
def roomC (c : Cur) : Cur := belowC (belowC (belowC (roomS c).2 4) (roomS c).1.length) 5
theorem stepX_len (xs : List Pt) (c : Cur) : (stepX xs c).length = xs.length := List.length_set ..
theorem stepR_len (s : List Pt × Cur) : (stepR s).1.length = s.1.length := by
 unfold stepR
 simp only
 split
 ·exact stepX_len _ _
 ·rfl
theorem iterR_len (s : List Pt × Cur) : ∀ j, (iterR s j).1.length = s.1.length
 | 0 => rfl
 | j + 1 => (stepR_len _).trans (iterR_len s j)
theorem stepC_ok {n : Int} {c : Cur} (h : curOk c) : curOk (stepC n c) := belowC_ok (belowC_ok (belowC_ok h))
theorem iterR_cur {s : List Pt × Cur} (h : curOk s.2) : ∀ j, curOk (iterR s j).2
 | 0 => h
 | j + 1 => stepC_ok (iterR_cur h j)
theorem shape_len (k : Int) : 3 ≤ (shapeM k).length ∧ (shapeM k).length ≤ 10 := by
 unfold shapeM
 repeat' split
 all_goals decide
def setXY (xs : List Pt) (i : Nat) (a b : Int) : List Pt :=
 (xs.set i (W (W ((xs.getD i (0, 0)).1 + a) - 1), (xs.getD i (0, 0)).2)).set i
  (((xs.set i (W (W ((xs.getD i (0, 0)).1 + a) - 1), (xs.getD i (0, 0)).2)).getD i (0, 0)).1,
   W (W (((xs.set i (W (W ((xs.getD i (0, 0)).1 + a) - 1), (xs.getD i (0, 0)).2)).getD i (0, 0)).2 + b) - 1))
theorem pt_room {xs : List Pt} (hr : roomOk xs = true) {i : Nat} (hi : i < xs.length) : -40 ≤ (xs.getD i (0, 0)).1 ∧ (xs.getD i (0, 0)).1 ≤ 40 ∧ -40 ≤ (xs.getD i (0, 0)).2 ∧ (xs.getD i (0, 0)).2 ≤ 40 := by
 rw [getD_lt _ hi]
 exact ptOk_iff.1 (List.all_eq_true.1 (roomOk_iff.1 hr).2.1 _ (List.getElem_mem hi))
theorem setXY_eq {xs : List Pt} (hr : roomOk xs = true) {i : Nat} (hi : i < xs.length) {a b : Int} (ha : 0 ≤ a ∧ a < 3) (hb : 0 ≤ b ∧ b < 3) :
  setXY xs i a b = xs.set i ((xs.getD i (0, 0)).1 + a - 1, (xs.getD i (0, 0)).2 + b - 1) := by
 have h := pt_room hr hi
 have g : ∀ x : Pt, (xs.set i x).getD i (0, 0) = x := fun x => by rw [getD_lt _ (by rw [List.length_set]; exact hi), List.getElem_set_self]
 unfold setXY
 rw [List.set_set, g]
 simp only [W_l3]
 rw [W_in (by omega) (by omega), W_in (by omega) (by omega)]
theorem shape_ok (k : Int) : roomOk (shapeM k) = true := by
 unfold shapeM
 repeat' split
 all_goals decide +kernel
theorem iterR_ok {s : List Pt × Cur} (h : roomOk s.1 = true) : ∀ j, roomOk (iterR s j).1 = true
 | 0 => h
 | j + 1 => by
  show roomOk (stepR (iterR s j)).1 = true
  unfold stepR
  simp only
  split
  ·assumption
  ·exact iterR_ok h j
theorem stepX_setXY {xs : List Pt} (hr : roomOk xs = true) (c : Cur) : setXY xs (belowX c xs.length).toNat (belowX (belowC c xs.length) 3) (belowX (belowC (belowC c xs.length) 3) 3) = stepX xs c := by
 have h3 := (roomOk_iff.1 hr).1
 have hb := below_bd (c := c) (n := (xs.length : Int)) (by omega)
 exact setXY_eq hr (by omega) (below_bd (by decide)) (below_bd (by decide))
theorem rng1 {f : Nat → Pt} {x : Pt} (h : x = f 0) : [x] = (List.range (0 + 1)).map f := by rw [h]; rfl
theorem rngS {f : Nat → Pt} {k : Nat} {x : Pt} (h : x = f k) : (List.range k).map f ++ [x] = (List.range (k + 1)).map f := by
 rw [List.range_succ, List.map_append, h]; rfl
theorem laid_1 {xs : List Pt} (hr : roomOk xs = true) {turn first dx : Int} {k m : Nat} (ht : (turn == 1) = true) (hm : m = (first.toNat + k) % xs.length) (hdx : -2 ≤ dx ∧ dx ≤ 2) :
  (W (W (0 - (xs.getD m (0, 0)).2) + dx), (xs.getD m (0, 0)).1) = laidAt xs turn first dx k := by
 have h3 := (roomOk_iff.1 hr).1
 have h := pt_room hr (i := m) (by rw [hm]; exact Nat.mod_lt _ (by omega))
 unfold laidAt laidP turnP W
 rw [← hm, if_pos (eq_of_beq ht), W_l1, W_in (by omega) (by omega)]
 simp
theorem laid_2 {xs : List Pt} (hr : roomOk xs = true) {turn first dx : Int} {k m : Nat} (hn : (turn == 1) = false) (ht : (turn == 2) = true) (hm : m = (first.toNat + k) % xs.length) (hdx : -2 ≤ dx ∧ dx ≤ 2) :
  (W (W (0 - (xs.getD m (0, 0)).1) + dx), W (0 - (xs.getD m (0, 0)).2)) = laidAt xs turn first dx k := by
 have h3 := (roomOk_iff.1 hr).1
 have h := pt_room hr (i := m) (by rw [hm]; exact Nat.mod_lt _ (by omega))
 unfold laidAt laidP turnP W
 rw [← hm, if_neg (ne_of_beq_false hn), if_pos (eq_of_beq ht), W_l1, W_in (by omega) (by omega), W_in (by omega) (by omega)]
 simp
theorem laid_0 {xs : List Pt} (hr : roomOk xs = true) {turn first dx : Int} {k m : Nat} (hn : (turn == 1) = false) (ht : (turn == 2) = false) (hm : m = (first.toNat + k) % xs.length) (hdx : -2 ≤ dx ∧ dx ≤ 2) :
  (W ((xs.getD m (0, 0)).1 + dx), (xs.getD m (0, 0)).2) = laidAt xs turn first dx k := by
 have h3 := (roomOk_iff.1 hr).1
 have h := pt_room hr (i := m) (by rw [hm]; exact Nat.mod_lt _ (by omega))
 unfold laidAt laidP turnP W
 rw [← hm, if_neg (ne_of_beq_false hn), if_neg (ne_of_beq_false ht), W_in (by omega) (by omega)]
def l04RoomC : ConD := mkConB [.cur] 0 t_spec_l01Cur (fun x => curOk x.1) (fun x => .agg [.d (.sl none (.b .pt) (roomX x.1))]) fun x => curL (roomC x.1)
theorem l04Room_ok : GoodD Tryz.prog n_spec_l04Room l04RoomC := by
 refine good_ofB (tys := tyL) (env := [(n_spec_l04Shape, l04ShapeC), (n_spec_l04Copy, (roomRoomC id)), (n_spec_RoomOk, roomOkC)]) (envw := []) (envd := [(n_spec_l01Below, l01BelowC)]) [15, 21, 28, 30, 41, 56, 66, 69, 71, 1000] [13, 15, 21, 28, 41, 56, 66, 69, 71, 1000] [31, 32, 34, 35, 37, 38, 39, 44, 45, 46, 47, 49, 50, 52, 53, 54, 59, 60] [] [15, 21, 28, 41, 56, 66, 69, 71] mixed tys ⟨l04Shape_ok, l04Copy_ok, sRoomOk_ok, trivial⟩ trivial ⟨l01Below_ok, trivial⟩ Tryz.func30 rfl (by kernel_rfl) ⟨by decide, rfl⟩ (by kernel_rfl) ?_
 have hG_ := kpz [(0, [0, 2]), (1, [0, 2, 3]), (2, [0, 2, 3, 4]), (3, [0, 2, 3, 4, 5]), (4, [0, 2, 3, 4, 5, 23]), (5, [0, 2, 3, 4, 5]), (6, [0, 2, 3, 4, 5, 6]), (7, [0, 2, 3, 4, 5, 6, 7]), (8, [0, 2, 3, 4, 5, 6, 7]), (9, [0, 2, 3, 4, 5, 7]), (10, [0, 2, 3, 4, 5, 7, 62]), (11, [0, 2, 3, 4, 5]), (12, [0, 2, 3, 4, 8]), (13, [0, 2, 3, 4, 8, 9]), (14, [0, 2, 3, 4, 8, 9, 10]), (15, [2, 3, 4, 8, 9, 10, 11]), (16, [2, 3, 4, 8, 9, 10, 11, 12]), (17, [2, 3, 4, 8, 9, 10, 11, 12, 75]), (18, [2, 3, 4, 8, 9, 10, 11, 12]), (19, [2, 3, 4, 8, 9, 10, 11, 12, 13]), (20, [2, 3, 4, 8, 9, 10, 11, 12, 13, 87]), (21, [2, 3, 4, 8, 9, 10, 11, 12, 13, 87, 88]), (22, [2, 3, 4, 8, 9, 10, 11, 12, 13]), (23, [2, 3, 4, 8, 9, 10, 11, 12, 13, 96]), (24, [2, 3, 4, 8, 9, 10, 11, 12, 13]), (25, [2, 3, 4, 8, 9, 10, 11, 12, 13]), (26, [2, 3, 4, 8, 9, 10, 11, 12]), (27, [2])] [(0, [2, 1000]), (1, [2, 3, 1000]), (2, [2, 3, 1000]), (3, [2, 3, 1000]), (4, [2, 3, 1000]), (5, [2, 3, 30, 1000]), (6, [2, 3, 1000]), (7, [2, 3, 7, 30, 1000]), (8, [2, 3, 7, 30, 1000]), (9, [2, 3, 7, 30, 1000]), (10, [2, 3, 7, 30, 1000]), (11, [2, 3, 30, 1000]), (12, [2, 3, 8, 1000]), (13, [2, 3, 8, 1000]), (14, [2, 3, 8, 1000]), (15, [2, 3, 8, 1000]), (16, [2, 3, 8, 1000]), (17, [2, 3, 8, 1000]), (18, [2, 3, 8, 1000]), (19, [2, 3, 8, 13, 1000]), (20, [2, 3, 8, 13, 1000]), (21, [2, 3, 8, 13, 1000]), (22, [2, 3, 8, 13, 1000]), (23, [2, 3, 8, 13, 1000]), (24, [2, 3, 8, 13, 1000]), (25, [2, 3, 8, 13, 1000]), (26, [2, 3, 8, 1000]), (27, [2, 1000])] [(11, [30])] []
 rintro ⟨⟨(bs : List Int), (i : Int), (h : Int)⟩, ⟨⟩⟩ (hc : curOk (bs, i, h))
 have hb1 : 0 ≤ roomK (bs, i, h) ∧ roomK (bs, i, h) < 4 := below_bd (c := belowC (bs, i, h) 8) (n := 4) (by decide)
 have hl0 : 3 ≤ (room0 (bs, i, h)).1.length ∧ (room0 (bs, i, h)).1.length ≤ 10 := shape_len _
 have h1 : curOk (belowC (bs, i, h) 8) := belowC_ok hc
 have hlen := iterR_len (room0 (bs, i, h))
 have hcur : ∀ j, curOk (iterR (room0 (bs, i, h)) j).2 := iterR_cur (s := room0 (bs, i, h)) (show curOk (belowC (belowC (bs, i, h) 8) 4) from belowC_ok (belowC_ok hc))
 (repeat' (first | (with_reducible first | exact True.intro | refine zQ ?_ | (refine zG hG_ ?_; intro K_ hK_) | (refine zR ?_; intro K_ hK_) | (refine hK_ _ _ ?_; try clear hK_ K_) | refine sq_n ?_ | refine sq_r ?_ | refine sq_e ?_ | refine bq_n ?_ | refine bq_r ?_ | refine bq_q ?_ | refine zB ?_ | refine zX ?_ | refine zT ?_ | refine zK ?_ | refine gq_n ?_ | refine gq_r ?_ | refine gq_e ?_ | refine lq_n ?_ | refine lq_r ?_ | refine lq_e ?_ | refine bq_e (by decide) ?_) | ((with_reducible refine zC (b := ?b_) ?hb_ ?_ ?_); case hb_ => rfl) | ((conv => whnf); first | (with_reducible refine hK_ _ _ ?_; try clear hK_ K_) | (with_reducible refine fun (g_ : Sl) (o_ : Ow) => ?_) | (with_reducible first | exact True.intro | refine And.intro trivial ?_ | refine And.intro ?_ ?_) | exact Nat.le_of_ble_eq_true rfl | exact Or.inl rfl | (intro h_; cases h_) | (intro h_; (try simp only [vS1] at h_)) | rfl))) <;> (try (conv => whnf)) <;> (try first | change (_ : Int) ≤ _ | change (_ : Nat) ≤ _) <;> (try ((fail_if_success (with_reducible apply Exists.intro)); (try dsimp only); (try simp only [vS1])))
 all_goals (try (fail_if_success (with_reducible apply Exists.intro)); first | with_reducible assumption | omega | exact mdl (by omega) | exact ilo1 (by omega) | exact ilo2 (by omega) | exact ihi1 (by omega) (by omega) | exact ihi2 (by omega) (by omega))
 refine awp'_loopG (α := Nat) (fun j ver_ => [(5, vInt (roomK (bs, i, h) - j)), (4, vInt ((iterR (room0 (bs, i, h)) j).1.length : Nat))]) (fun j ver_ => [(3, 3, true, .box t_impl_Room [.d (.sl none (.b .pt) (iterR (room0 (bs, i, h)) j).1)])]) (fun j ver_ => [(1000, ⟨0, .box t_spec_l01Cur ((curL (iterR (room0 (bs, i, h)) j).2).map .d)⟩), (13, ⟨ver_ 13, .dead⟩)]) (fun j => j ≤ (roomK (bs, i, h)).toNat) (fun j => (roomK (bs, i, h)).toNat - j) [0, 2] [2] (0) ?_
 conv => whnf
 refine ⟨⟨?inv1_, ?vals1_, ?own1_, ?fix1_⟩, ?body1_⟩
 case' vals1_ => (repeat' (first | (with_reducible first | exact True.intro | refine And.intro ?_ ?_ | refine Head.mk ?_ ?_ ?_ ?_) | ((conv => lhs; whnf); first | (with_reducible first | rfl | exact vInt_s (by omega)) | exact rfl) | ((conv => whnf); first | (with_reducible first | exact True.intro | refine And.intro ?_ ?_)))) <;> (try (conv => lhs; whnf))
 case' own1_ => (repeat' (first | (with_reducible first | exact True.intro | refine And.intro ?_ ?_ | refine Head.mk ?_ ?_ ?_ ?_) | ((conv => lhs; whnf); first | (with_reducible first | rfl | exact vInt_s (by omega)) | exact rfl) | ((conv => whnf); first | (with_reducible first | exact True.intro | refine And.intro ?_ ?_)))) <;> (try (conv => lhs; whnf))
 case' fix1_ => (repeat' (first | (with_reducible first | exact True.intro | refine And.intro ?_ ?_ | refine Head.mk ?_ ?_ ?_ ?_) | ((conv => lhs; whnf); first | (with_reducible first | rfl | exact vInt_s (by omega)) | exact rfl) | ((conv => whnf); first | (with_reducible first | exact True.intro | refine And.intro ?_ ?_)))) <;> (try (conv => lhs; whnf))
 ·exact (Int.sub_zero _).symm ▸ rfl
 ·exact Nat.zero_le _
 rintro j g_ o_ v_ hj
 have hn := hlen j
 have hcj := hcur j
 have hrj := iterR_ok (s := room0 (bs, i, h)) (shape_ok _) j
 generalize hs : iterR (room0 (bs, i, h)) j = s at *
 have hstep : iterR (room0 (bs, i, h)) (j + 1) = stepR s := by show stepR _ = _; rw [hs]
 obtain ⟨xs, c⟩ := s
 have hc1 : curOk (belowC c (xs.length : Int)) := belowC_ok hcj
 have hc2 : curOk (belowC (belowC c (xs.length : Int)) 3) := belowC_ok hc1
 have hx3 : 3 ≤ xs.length ∧ xs.length ≤ 10 := by have : xs.length = _ := hn; omega
 have hbx := below_bd (c := c) (n := (xs.length : Int)) (by omega)
 (repeat' (first | (with_reducible first | exact True.intro | refine zQ ?_ | (refine zG hG_ ?_; intro K_ hK_) | (refine zR ?_; intro K_ hK_) | (refine hK_ _ _ ?_; try clear hK_ K_) | refine sq_n ?_ | refine sq_r ?_ | refine sq_e ?_ | refine bq_n ?_ | refine bq_r ?_ | refine bq_q ?_ | refine zB ?_ | refine zX ?_ | refine zT ?_ | refine zK ?_ | refine gq_n ?_ | refine gq_r ?_ | refine gq_e ?_ | refine lq_n ?_ | refine lq_r ?_ | refine lq_e ?_ | refine bq_e (by decide) ?_) | ((with_reducible refine zC (b := ?b_) ?hb_ ?_ ?_); case hb_ => rfl) | ((conv => whnf); first | (with_reducible refine hK_ _ _ ?_; try clear hK_ K_) | (with_reducible refine fun (g_ : Sl) (o_ : Ow) => ?_) | (with_reducible first | exact True.intro | refine And.intro trivial ?_ | refine And.intro ?_ ?_) | exact Nat.le_of_ble_eq_true rfl | exact Or.inl rfl | (intro h_; cases h_) | (intro h_; (try simp only [vS1] at h_)) | rfl))) <;> (try (conv => whnf)) <;> (try first | change (_ : Int) ≤ _ | change (_ : Nat) ≤ _) <;> (try ((fail_if_success (with_reducible apply Exists.intro)); (try dsimp only); (try simp only [vS1])))
 all_goals (try (fail_if_success (with_reducible apply Exists.intro)); first | with_reducible assumption | omega | exact mdl (by omega) | exact ilo1 (by omega) | exact ilo2 (by omega) | exact ihi1 (by omega) (by omega) | exact ihi2 (by omega) (by omega))
 all_goals (try (simp only [id_eq, List.length_set]; omega))
 ·have hE := stepX_setXY hrj c
  have h_ : roomOk (setXY xs (belowX c xs.length).toNat (belowX (belowC c xs.length) 3) (belowX (belowC (belowC c xs.length) 3) 3)) = true := h_
  rw [hE] at h_
  have e1 : iterR (room0 (bs, i, h)) (j + 1) = (stepX xs c, stepC xs.length c) := by rw [hstep]; unfold stepR; simp only; rw [if_pos h_]
  refine ⟨j + 1, by omega, by omega, ?_⟩
  rw [e1]
  (repeat' (first | (with_reducible first | exact True.intro | refine And.intro ?_ ?_ | refine Head.mk ?_ ?_ ?_ ?_) | ((conv => lhs; whnf); first | (with_reducible first | rfl | exact vInt_s (by omega)) | exact rfl) | ((conv => whnf); first | (with_reducible first | exact True.intro | refine And.intro ?_ ?_)))) <;> (try (conv => lhs; whnf))
  ·exact congrArg vInt (by rw [W_in (by omega) (by omega)]; omega)
  ·exact congrArg vInt (by show ((xs.length : Nat) : Int) = ((stepX xs c).length : Int); rw [stepX_len])
  ·exact congrArg (fun l => Own.box t_impl_Room [.d (.sl none (.b .pt) l)]) hE
 ·have hE := stepX_setXY hrj c
  have h_ : roomOk (setXY xs (belowX c xs.length).toNat (belowX (belowC c xs.length) 3) (belowX (belowC (belowC c xs.length) 3) 3)) = false := h_
  rw [hE] at h_
  have e1 : iterR (room0 (bs, i, h)) (j + 1) = (xs, stepC xs.length c) := by rw [hstep]; unfold stepR; simp only; rw [if_neg (by rw [h_]; decide)]
  refine ⟨j + 1, by omega, by omega, ?_⟩
  rw [e1]
  (repeat' (first | (with_reducible first | exact True.intro | refine And.intro ?_ ?_ | refine Head.mk ?_ ?_ ?_ ?_) | ((conv => lhs; whnf); first | (with_reducible first | rfl | exact vInt_s (by omega)) | exact rfl) | ((conv => whnf); first | (with_reducible first | exact True.intro | refine And.intro ?_ ?_)))) <;> (try (conv => lhs; whnf))
  ·exact congrArg vInt (by rw [W_in (by omega) (by omega)]; omega)
 ·exact belowC_ok hcj
 ·exact belowC_ok (belowC_ok hcj)
 have hj2 : j = (roomK (bs, i, h)).toNat := by omega
 have hS : roomS (bs, i, h) = (xs, c) := by unfold roomS; rw [← hj2]; exact hs
 have b1 := below_bd (c := c) (n := 4) (by decide)
 have b2 := below_bd (c := belowC c 4) (n := (xs.length : Int)) (by omega)
 have b3 := below_bd (c := belowC (belowC c 4) xs.length) (n := 5) (by decide)
 have hX : roomX (bs, i, h) = laidR xs (belowX c 4) (belowX (belowC c 4) xs.length) (belowX (belowC (belowC c 4) xs.length) 5 - 2) := by unfold roomX; rw [hS]
 have hC : roomC (bs, i, h) = belowC (belowC (belowC c 4) xs.length) 5 := by unfold roomC; rw [hS]
 generalize hT : belowX c 4 = turn at *
 generalize hF : belowX (belowC c 4) xs.length = first at *
 generalize hD : belowX (belowC (belowC c 4) xs.length) 5 = dx at *
 refine awp'_loopG (α := Nat) (fun k ver_ => [(4, vInt (xs.length : Nat)), (9, vInt turn), (10, vInt first), (11, vInt (dx - 2)), (12, vInt k)]) (fun k ver_ => [(8, 8, true, .box t_impl_Room [match k with | 0 => .d .nil | _ + 1 => .own 114 (ver_ 114)])]) (fun k ver_ => match k with | 0 => [] | _ + 1 => [(114, ⟨ver_ 114, .row t_impl_Point (.b .pt) ((List.range k).map (laidAt xs turn first (dx - 2)))⟩)]) (fun k => k ≤ xs.length) (fun k => xs.length - k) [2, 3] [2, 3, 1000] (0) ?_
 conv => whnf
 refine ⟨⟨?inv2_, ?vals2_, ?own2_, ?fix2_⟩, ?body2_⟩
 case' vals2_ => (repeat' (first | (with_reducible first | exact True.intro | refine And.intro ?_ ?_ | refine Head.mk ?_ ?_ ?_ ?_) | ((conv => lhs; whnf); first | (with_reducible first | rfl | exact vInt_s (by omega)) | exact rfl) | ((conv => whnf); first | (with_reducible first | exact True.intro | refine And.intro ?_ ?_)))) <;> (try (conv => lhs; whnf))
 case' own2_ => (repeat' (first | (with_reducible first | exact True.intro | refine And.intro ?_ ?_ | refine Head.mk ?_ ?_ ?_ ?_) | ((conv => lhs; whnf); first | (with_reducible first | rfl | exact vInt_s (by omega)) | exact rfl) | ((conv => whnf); first | (with_reducible first | exact True.intro | refine And.intro ?_ ?_)))) <;> (try (conv => lhs; whnf))
 case' fix2_ => (repeat' (first | (with_reducible first | exact True.intro | refine And.intro ?_ ?_ | refine Head.mk ?_ ?_ ?_ ?_) | ((conv => lhs; whnf); first | (with_reducible first | rfl | exact vInt_s (by omega)) | exact rfl) | ((conv => whnf); first | (with_reducible first | exact True.intro | refine And.intro ?_ ?_)))) <;> (try (conv => lhs; whnf))
 ·exact congrArg vInt (W_in (by omega) (by omega))
 ·exact Nat.zero_le _
 have hix : ∀ k : Nat, k < xs.length → Int.tmod (W (first + (k : Int))) (xs.length : Int) = (((first.toNat + k) % xs.length : Nat) : Int) := fun k hk => by
  rw [show first = ((first.toNat : Nat) : Int) by omega]
  exact mod_nat (by omega)
 have hlt : ∀ k : Nat, ((first.toNat + k) % xs.length) < xs.length := fun k => Nat.mod_lt _ (by omega)
 have hin : ∀ k : Nat, k < xs.length → 0 ≤ Int.tmod (W (first + (k : Int))) (xs.length : Int) ∧ Int.tmod (W (first + (k : Int))) (xs.length : Int) + 1 ≤ (xs.length : Int) := fun k hk => by
  have := hlt k
  rw [hix k hk]; omega
 have him : ∀ k : Nat, k < xs.length → (Int.tmod (W (first + (k : Int))) (xs.length : Int)).toNat = (first.toNat + k) % xs.length := fun k hk => by rw [hix k hk]; exact Int.toNat_natCast _
 rintro (_ | k) g_ o_ v_ hk
 ·
  have hG_ := kpz [(0, [0, 2]), (1, [0, 2, 3]), (2, [0, 2, 3, 4]), (3, [0, 2, 3, 4, 5]), (4, [0, 2, 3, 4, 5, 23]), (5, [0, 2, 3, 4, 5]), (6, [0, 2, 3, 4, 5, 6]), (7, [0, 2, 3, 4, 5, 6, 7]), (8, [0, 2, 3, 4, 5, 6, 7]), (9, [0, 2, 3, 4, 5, 7]), (10, [0, 2, 3, 4, 5, 7, 62]), (11, [0, 2, 3, 4, 5]), (12, [0, 2, 3, 4, 8]), (13, [0, 2, 3, 4, 8, 9]), (14, [0, 2, 3, 4, 8, 9, 10]), (15, [2, 3, 4, 8, 9, 10, 11]), (16, [2, 3, 4, 8, 9, 10, 11, 12]), (17, [2, 3, 4, 8, 9, 10, 11, 12, 75]), (18, [2, 3, 4, 8, 9, 10, 11, 12]), (19, [2, 3, 4, 8, 9, 10, 11, 12, 13]), (20, [2, 3, 4, 8, 9, 10, 11, 12, 13, 87]), (21, [2, 3, 4, 8, 9, 10, 11, 12, 13, 87, 88]), (22, [2, 3, 4, 8, 9, 10, 11, 12, 13]), (23, [2, 3, 4, 8, 9, 10, 11, 12, 13, 96]), (24, [2, 3, 4, 8, 9, 10, 11, 12, 13]), (25, [2, 3, 4, 8, 9, 10, 11, 12, 13]), (26, [2, 3, 4, 8, 9, 10, 11, 12]), (27, [2])] [(0, [2, 1000]), (1, [2, 3, 1000]), (2, [2, 3, 1000]), (3, [2, 3, 1000]), (4, [2, 3, 1000]), (5, [2, 3, 30, 1000]), (6, [2, 3, 1000]), (7, [2, 3, 7, 30, 1000]), (8, [2, 3, 7, 30, 1000]), (9, [2, 3, 7, 30, 1000]), (10, [2, 3, 7, 30, 1000]), (11, [2, 3, 30, 1000]), (12, [2, 3, 8, 1000]), (13, [2, 3, 8, 1000]), (14, [2, 3, 8, 1000]), (15, [2, 3, 8, 1000]), (16, [2, 3, 8, 1000]), (17, [2, 3, 8, 1000]), (18, [2, 3, 8, 114, 1000]), (19, [2, 3, 8, 13, 1000]), (20, [2, 3, 8, 13, 1000]), (21, [2, 3, 8, 13, 1000]), (22, [2, 3, 8, 13, 1000]), (23, [2, 3, 8, 13, 1000]), (24, [2, 3, 8, 13, 1000]), (25, [2, 3, 8, 13, 1000]), (26, [2, 3, 8, 114, 1000]), (27, [2, 1000])] [(11, [30])] []
  (repeat' (first | (with_reducible first | exact True.intro | refine zQ ?_ | (refine zG hG_ ?_; intro K_ hK_) | (refine zR ?_; intro K_ hK_) | (refine hK_ _ _ ?_; try clear hK_ K_) | refine sq_n ?_ | refine sq_r ?_ | refine sq_e ?_ | refine bq_n ?_ | refine bq_r ?_ | refine bq_q ?_ | refine zB ?_ | refine zX ?_ | refine zT ?_ | refine zK ?_ | refine gq_n ?_ | refine gq_r ?_ | refine gq_e ?_ | refine lq_n ?_ | refine lq_r ?_ | refine lq_e ?_ | refine bq_e (by decide) ?_) | ((with_reducible refine zC (b := ?b_) ?hb_ ?_ ?_); case hb_ => rfl) | ((conv => whnf); first | (with_reducible refine hK_ _ _ ?_; try clear hK_ K_) | (with_reducible refine fun (g_ : Sl) (o_ : Ow) => ?_) | (with_reducible first | exact True.intro | refine And.intro trivial ?_ | refine And.intro ?_ ?_) | exact Nat.le_of_ble_eq_true rfl | exact Or.inl rfl | (intro h_; cases h_) | (intro h_; (try simp only [vS1] at h_)) | rfl))) <;> (try (conv => whnf)) <;> (try first | change (_ : Int) ≤ _ | change (_ : Nat) ≤ _) <;> (try ((fail_if_success (with_reducible apply Exists.intro)); (try dsimp only); (try simp only [vS1])))
  all_goals (try ((fail_if_success (with_reducible apply Exists.intro)); first | with_reducible assumption | exact (hin _ (by omega)).1 | exact (hin _ (by omega)).2 | (simp only [List.length_map, List.length_range, List.length_singleton]; omega) | omega))
  ·refine ⟨1, by omega, by omega, ?_⟩
   (repeat' (first | (with_reducible first | exact True.intro | refine And.intro ?_ ?_ | refine Head.mk ?_ ?_ ?_ ?_) | ((conv => lhs; whnf); first | (with_reducible first | rfl | exact vInt_s (by omega)) | exact rfl) | ((conv => whnf); first | (with_reducible first | exact True.intro | refine And.intro ?_ ?_)))) <;> (try (conv => lhs; whnf))
   exact locRow_eq (rng1 (laid_1 hrj ‹_› (him 0 (by omega)) (by omega)))
  ·refine ⟨1, by omega, by omega, ?_⟩
   (repeat' (first | (with_reducible first | exact True.intro | refine And.intro ?_ ?_ | refine Head.mk ?_ ?_ ?_ ?_) | ((conv => lhs; whnf); first | (with_reducible first | rfl | exact vInt_s (by omega)) | exact rfl) | ((conv => whnf); first | (with_reducible first | exact True.intro | refine And.intro ?_ ?_)))) <;> (try (conv => lhs; whnf))
   exact locRow_eq (rng1 (laid_2 hrj ‹_› ‹_› (him 0 (by omega)) (by omega)))
  ·refine ⟨1, by omega, by omega, ?_⟩
   (repeat' (first | (with_reducible first | exact True.intro | refine And.intro ?_ ?_ | refine Head.mk ?_ ?_ ?_ ?_) | ((conv => lhs; whnf); first | (with_reducible first | rfl | exact vInt_s (by omega)) | exact rfl) | ((conv => whnf); first | (with_reducible first | exact True.intro | refine And.intro ?_ ?_)))) <;> (try (conv => lhs; whnf))
   exact locRow_eq (rng1 (laid_0 hrj ‹_› ‹_› (him 0 (by omega)) (by omega)))
 ·
  have hG_ := kpz [(0, [0, 2]), (1, [0, 2, 3]), (2, [0, 2, 3, 4]), (3, [0, 2, 3, 4, 5]), (4, [0, 2, 3, 4, 5, 23]), (5, [0, 2, 3, 4, 5]), (6, [0, 2, 3, 4, 5, 6]), (7, [0, 2, 3, 4, 5, 6, 7]), (8, [0, 2, 3, 4, 5, 6, 7]), (9, [0, 2, 3, 4, 5, 7]), (10, [0, 2, 3, 4, 5, 7, 62]), (11, [0, 2, 3, 4, 5]), (12, [0, 2, 3, 4, 8]), (13, [0, 2, 3, 4, 8, 9]), (14, [0, 2, 3, 4, 8, 9, 10]), (15, [2, 3, 4, 8, 9, 10, 11]), (16, [2, 3, 4, 8, 9, 10, 11, 12]), (17, [2, 3, 4, 8, 9, 10, 11, 12, 75]), (18, [2, 3, 4, 8, 9, 10, 11, 12]), (19, [2, 3, 4, 8, 9, 10, 11, 12, 13]), (20, [2, 3, 4, 8, 9, 10, 11, 12, 13, 87]), (21, [2, 3, 4, 8, 9, 10, 11, 12, 13, 87, 88]), (22, [2, 3, 4, 8, 9, 10, 11, 12, 13]), (23, [2, 3, 4, 8, 9, 10, 11, 12, 13, 96]), (24, [2, 3, 4, 8, 9, 10, 11, 12, 13]), (25, [2, 3, 4, 8, 9, 10, 11, 12, 13]), (26, [2, 3, 4, 8, 9, 10, 11, 12]), (27, [2])] [(0, [2, 114, 1000]), (1, [2, 3, 114, 1000]), (2, [2, 3, 114, 1000]), (3, [2, 3, 114, 1000]), (4, [2, 3, 114, 1000]), (5, [2, 3, 30, 114, 1000]), (6, [2, 3, 114, 1000]), (7, [2, 3, 7, 30, 114, 1000]), (8, [2, 3, 7, 30, 114, 1000]), (9, [2, 3, 7, 30, 114, 1000]), (10, [2, 3, 7, 30, 114, 1000]), (11, [2, 3, 30, 114, 1000]), (12, [2, 3, 8, 114, 1000]), (13, [2, 3, 8, 114, 1000]), (14, [2, 3, 8, 114, 1000]), (15, [2, 3, 8, 114, 1000]), (16, [2, 3, 8, 114, 1000]), (17, [2, 3, 8, 114, 1000]), (18, [2, 3, 8, 114, 1000]), (19, [2, 3, 8, 13, 114, 1000]), (20, [2, 3, 8, 13, 114, 1000]), (21, [2, 3, 8, 13, 114, 1000]), (22, [2, 3, 8, 13, 114, 1000]), (23, [2, 3, 8, 13, 114, 1000]), (24, [2, 3, 8, 13, 114, 1000]), (25, [2, 3, 8, 13, 114, 1000]), (26, [2, 3, 8, 114, 1000]), (27, [2, 114, 1000])] [(11, [30])] []
  (repeat' (first | (with_reducible first | exact True.intro | refine zQ ?_ | (refine zG hG_ ?_; intro K_ hK_) | (refine zR ?_; intro K_ hK_) | (refine hK_ _ _ ?_; try clear hK_ K_) | refine sq_n ?_ | refine sq_r ?_ | refine sq_e ?_ | refine bq_n ?_ | refine bq_r ?_ | refine bq_q ?_ | refine zB ?_ | refine zX ?_ | refine zT ?_ | refine zK ?_ | refine gq_n ?_ | refine gq_r ?_ | refine gq_e ?_ | refine lq_n ?_ | refine lq_r ?_ | refine lq_e ?_ | refine bq_e (by decide) ?_) | ((with_reducible refine zC (b := ?b_) ?hb_ ?_ ?_); case hb_ => rfl) | ((conv => whnf); first | (with_reducible refine hK_ _ _ ?_; try clear hK_ K_) | (with_reducible refine fun (g_ : Sl) (o_ : Ow) => ?_) | (with_reducible first | exact True.intro | refine And.intro trivial ?_ | refine And.intro ?_ ?_) | exact Nat.le_of_ble_eq_true rfl | exact Or.inl rfl | (intro h_; cases h_) | (intro h_; (try simp only [vS1] at h_)) | rfl))) <;> (try (conv => whnf)) <;> (try first | change (_ : Int) ≤ _ | change (_ : Nat) ≤ _) <;> (try ((fail_if_success (with_reducible apply Exists.intro)); (try dsimp only); (try simp only [vS1])))
  all_goals (try ((fail_if_success (with_reducible apply Exists.intro)); first | with_reducible assumption | exact (hin _ (by omega)).1 | exact (hin _ (by omega)).2 | (simp only [List.length_map, List.length_range, List.length_singleton]; omega) | omega))
  ·refine ⟨k + 2, by omega, by omega, ?_⟩
   (repeat' (first | (with_reducible first | exact True.intro | refine And.intro ?_ ?_ | refine Head.mk ?_ ?_ ?_ ?_) | ((conv => lhs; whnf); first | (with_reducible first | rfl | exact vInt_s (by omega)) | exact rfl) | ((conv => whnf); first | (with_reducible first | exact True.intro | refine And.intro ?_ ?_)))) <;> (try (conv => lhs; whnf))
   exact locRow_eq (rngS (laid_1 hrj ‹_› (him (k + 1) (by omega)) (by omega)))
  ·refine ⟨k + 2, by omega, by omega, ?_⟩
   (repeat' (first | (with_reducible first | exact True.intro | refine And.intro ?_ ?_ | refine Head.mk ?_ ?_ ?_ ?_) | ((conv => lhs; whnf); first | (with_reducible first | rfl | exact vInt_s (by omega)) | exact rfl) | ((conv => whnf); first | (with_reducible first | exact True.intro | refine And.intro ?_ ?_)))) <;> (try (conv => lhs; whnf))
   exact locRow_eq (rngS (laid_2 hrj ‹_› ‹_› (him (k + 1) (by omega)) (by omega)))
  ·refine ⟨k + 2, by omega, by omega, ?_⟩
   (repeat' (first | (with_reducible first | exact True.intro | refine And.intro ?_ ?_ | refine Head.mk ?_ ?_ ?_ ?_) | ((conv => lhs; whnf); first | (with_reducible first | rfl | exact vInt_s (by omega)) | exact rfl) | ((conv => whnf); first | (with_reducible first | exact True.intro | refine And.intro ?_ ?_)))) <;> (try (conv => lhs; whnf))
   exact locRow_eq (rngS (laid_0 hrj ‹_› ‹_› (him (k + 1) (by omega)) (by omega)))
  ·show dOf _ = some _
   rw [hC]; rfl
  ·rw [hX, show k + 1 = xs.length by omega]; rfl
theorem roomC_ok {c : Cur} (h : curOk c) : curOk (roomC c) := belowC_ok (belowC_ok (belowC_ok (iterR_cur (s := room0 c) (show curOk (belowC (belowC c 8) 4) from belowC_ok (belowC_ok h)) _)))
def drawRoomM (bs : List Int) : List Pt := roomX (newC bs)
def l08PointX (c : Cur) (xs : List Pt) : Pt := pAt (floorPts xs) (belowX c (floorPts xs).length).toNat
def l08PointC (c : Cur) (xs : List Pt) : Cur := belowC c (floorPts xs).length
def l08PointCo : ConD := mkConB [.cur, .room] 0 t_spec_l01Cur (fun x => curOk x.1 ∧ x.2.1.length ≤ 1048576 ∧ 0 < (floorPts x.2.1).length) (fun x => .agg (cPt (l08PointX x.1 x.2.1))) fun x => curL (l08PointC x.1 x.2.1)
theorem l08Point_ok : GoodD Tryz.prog n_spec_l08Point l08PointCo := by
 refine good_ofB (tys := tyL) (env := [(n_spec_FloorPoints, floorTC)]) (envw := []) (envd := [(n_spec_l01Below, l01BelowC)]) [17, 1000] [17, 1000] [] [] [17] mixed tys ⟨floorPoints_ok, trivial⟩ trivial ⟨l01Below_ok, trivial⟩ Tryz.func47 rfl (by kernel_rfl) ⟨by decide, rfl⟩ (by kernel_rfl) ?_
 have hG_ := kpz [(0, [0, 3, 4]), (1, [0, 4, 5]), (2, [0, 4, 5, 10]), (3, [4]), (4, [4])] [(0, [4, 1000]), (1, [4, 1000]), (2, [4, 1000]), (3, [4, 1000]), (4, [4, 1000])] [] []
 rintro ⟨⟨(bs : List Int), (i : Int), (h : Int)⟩, (xs : List Pt), ⟨⟩⟩ ⟨(hc : curOk (bs, i, h)), (h1 : xs.length ≤ _), (h2 : 0 < (floorPts xs).length)⟩
 have hf := floor_len xs
 have hb := below_bd (c := (bs, i, h)) (n := ((floorPts xs).length : Int)) (by omega)
 (repeat' (first | (with_reducible first | exact True.intro | refine zQ ?_ | (refine zG hG_ ?_; intro K_ hK_) | (refine zR ?_; intro K_ hK_) | (refine hK_ _ _ ?_; try clear hK_ K_) | refine sq_n ?_ | refine sq_r ?_ | refine sq_e ?_ | refine bq_n ?_ | refine bq_r ?_ | refine bq_q ?_ | refine zB ?_ | refine zX ?_ | refine zT ?_ | refine zK ?_ | refine gq_n ?_ | refine gq_r ?_ | refine gq_e ?_ | refine lq_n ?_ | refine lq_r ?_ | refine lq_e ?_ | refine bq_e (by decide) ?_) | ((with_reducible refine zC (b := ?b_) ?hb_ ?_ ?_); case hb_ => rfl) | ((conv => whnf); first | (with_reducible refine hK_ _ _ ?_; try clear hK_ K_) | (with_reducible refine fun (g_ : Sl) (o_ : Ow) => ?_) | (with_reducible first | exact True.intro | refine And.intro trivial ?_ | refine And.intro ?_ ?_) | exact Nat.le_of_ble_eq_true rfl | exact Or.inl rfl | (intro h_; cases h_) | (intro h_; (try simp only [vS1] at h_)) | rfl))) <;> (try (conv => whnf)) <;> (try first | change (_ : Int) ≤ _ | change (_ : Nat) ≤ _) <;> (try ((fail_if_success (with_reducible apply Exists.intro)); (try dsimp only); (try simp only [vS1])))
 all_goals (try (fail_if_success (with_reducible apply Exists.intro)); first | with_reducible assumption | omega | exact mdl (by omega) | exact ilo1 (by omega) | exact ilo2 (by omega) | exact ihi1 (by omega) (by omega) | exact ihi2 (by omega) (by omega))
 ·exact absurd (eq_of_beq h_) (by omega)
def sightC0 (bs : List Int) : Cur := roomC (newC bs)
def drawSightM (bs : List Int) : List Pt × Pt × Pt := (drawRoomM bs, l08PointX (sightC0 bs) (drawRoomM bs), l08PointX (l08PointC (sightC0 bs) (drawRoomM bs)) (drawRoomM bs))
def drawSightC : Con := mkCon [.sl (.b .u8)] (fun x => x.1.length ≤ 1048576 ∧ 0 < (floorPts (drawRoomM x.1)).length ∧ (drawRoomM x.1).length ≤ 10) fun x => .val (.tup [.inr [.d (.sl none (.b .pt) (drawSightM x.1).1)], .inr (cPt (drawSightM x.1).2.1), .inr (cPt (drawSightM x.1).2.2)])
theorem drawSight_ok : Good1 Tryz.prog n_spec_DrawSight drawSightC := by
 refine good_ofG (tys := tyL) (env := []) (envw := []) (envd := [(n_spec_l01New, l01NewC), (n_spec_l04Room, l04RoomC), (n_spec_l08Point, l08PointCo)]) [2, 9, 11, 14, 19] [2, 9, 11, 14, 19] [15, 16, 18] [] [9, 11, 14, 19] mixed tys trivial trivial ⟨l01New_ok, l04Room_ok, l08Point_ok, trivial⟩ Tryz.func13 rfl (by kernel_rfl) (by decide) (by kernel_rfl) ?_
 have hG_ := kpz [(0, [0, 2, 3, 4]), (1, [2, 3, 4, 5]), (2, [2, 3, 4, 5, 6]), (3, [2, 3, 4, 5, 6, 7]), (4, [2, 3, 4])] [(0, [2, 3, 4]), (1, [2, 3, 4, 9]), (2, [2, 3, 4, 6, 9]), (3, [2, 3, 4, 6, 7, 9]), (4, [2, 3, 4, 9])] [] []
 rintro ⟨(bs : List Int), ⟨⟩⟩ ⟨(h1 : bs.length ≤ _), (h2 : 0 < (floorPts (drawRoomM bs)).length), (h3 : (drawRoomM bs).length ≤ 10)⟩
 have hc := newC_ok h1
 have hc2 : curOk (roomC (newC bs)) := roomC_ok hc
 have hc3 : curOk (l08PointC (roomC (newC bs)) (roomX (newC bs))) := belowC_ok hc2
 have h2 : 0 < (floorPts (roomX (newC bs))).length := h2
 have h3 : (roomX (newC bs)).length ≤ 10 := h3
 (repeat' (first | (with_reducible first | exact True.intro | refine zQ ?_ | (refine zG hG_ ?_; intro K_ hK_) | (refine zR ?_; intro K_ hK_) | (refine hK_ _ _ ?_; try clear hK_ K_) | refine sq_n ?_ | refine sq_r ?_ | refine sq_e ?_ | refine bq_n ?_ | refine bq_r ?_ | refine bq_q ?_ | refine zB ?_ | refine zX ?_ | refine zT ?_ | refine zK ?_ | refine gq_n ?_ | refine gq_r ?_ | refine gq_e ?_ | refine lq_n ?_ | refine lq_r ?_ | refine lq_e ?_ | refine bq_e (by decide) ?_) | ((with_reducible refine zC (b := ?b_) ?hb_ ?_ ?_); case hb_ => rfl) | ((conv => whnf); first | (with_reducible refine hK_ _ _ ?_; try clear hK_ K_) | (with_reducible refine fun (g_ : Sl) (o_ : Ow) => ?_) | (with_reducible first | exact True.intro | refine And.intro trivial ?_ | refine And.intro ?_ ?_) | exact Nat.le_of_ble_eq_true rfl | exact Or.inl rfl | (intro h_; cases h_) | (intro h_; (try simp only [vS1] at h_)) | rfl))) <;> (try (conv => whnf)) <;> (try first | change (_ : Int) ≤ _ | change (_ : Nat) ≤ _) <;> (try ((fail_if_success (with_reducible apply Exists.intro)); (try dsimp only); (try simp only [vS1])))
 all_goals (try (fail_if_success (with_reducible apply Exists.intro)); first | with_reducible assumption | omega | exact mdl (by omega) | exact ilo1 (by omega) | exact ilo2 (by omega) | exact ihi1 (by omega) (by omega) | exact ihi2 (by omega) (by omega))
end Go.Proofs.YtnepfcnlngpchaaGreat
namespace Go.Proofs.YtnepfcnlngpchaaGreat
open Go.RowKit Go.Proofs.YtnepfcnlngpchaaGreat.Nm
set_option maxRecDepth 10000
theorem shape_bd (k : Int) : ∀ q ∈ shapeM k, 0 ≤ q.1 ∧ q.1 ≤ 10 ∧ 0 ≤ q.2 ∧ q.2 ≤ 10 := by
 unfold shapeM
 repeat' split
 all_goals decide
theorem stepR_bd {s : List Pt × Cur} {j : Int} (hr : roomOk s.1 = true) (h : ∀ q ∈ s.1, -j ≤ q.1 ∧ q.1 ≤ 10 + j ∧ -j ≤ q.2 ∧ q.2 ≤ 10 + j) : ∀ q ∈ (stepR s).1, -(j + 1) ≤ q.1 ∧ q.1 ≤ 10 + (j + 1) ∧ -(j + 1) ≤ q.2 ∧ q.2 ≤ 10 + (j + 1) := by
 have h3 := (roomOk_iff.1 hr).1
 intro q hq
 have old : q ∈ s.1 → -(j + 1) ≤ q.1 ∧ q.1 ≤ 10 + (j + 1) ∧ -(j + 1) ≤ q.2 ∧ q.2 ≤ 10 + (j + 1) := fun hq => by have := h q hq; omega
 unfold stepR at hq
 simp only at hq
 split at hq
 ·unfold stepX at hq
  rcases List.mem_or_eq_of_mem_set hq with hq | rfl
  ·exact old hq
  ·have hb := below_bd (c := s.2) (n := (s.1.length : Int)) (by omega)
   have hi : (belowX s.2 s.1.length).toNat < s.1.length := by omega
   have := h _ (List.getElem_mem hi)
   rw [← getD_lt (0, 0) hi] at this
   have b1 := below_bd (c := belowC s.2 s.1.length) (n := 3) (by decide)
   have b2 := below_bd (c := belowC (belowC s.2 s.1.length) 3) (n := 3) (by decide)
   simp only
   omega
 ·exact old hq
theorem iterR_bd (c : Cur) : ∀ j : Nat, ∀ q ∈ (iterR (room0 c) j).1, -(j : Int) ≤ q.1 ∧ q.1 ≤ 10 + (j : Int) ∧ -(j : Int) ≤ q.2 ∧ q.2 ≤ 10 + (j : Int)
 | 0 => fun q hq => by have := shape_bd _ q hq; omega
 | j + 1 => stepR_bd (iterR_ok (shape_ok _) j) (iterR_bd c j)
def laidMv (turn dx : Int) : Geo.Mv := if turn = 1 then ⟨0, 1, dx, 0, rfl⟩ else if turn = 2 then ⟨-1, 0, dx, 0, rfl⟩ else ⟨1, 0, dx, 0, rfl⟩
theorem laidMv_app (turn dx : Int) (p : Pt) : laidP turn dx p = (laidMv turn dx).app p := by
 unfold laidP turnP laidMv Geo.Mv.app
 split
 ·refine Prod.ext ?_ ?_ <;> simp only <;> omega
 ·split
  ·refine Prod.ext ?_ ?_ <;> simp only <;> omega
  ·refine Prod.ext ?_ ?_ <;> simp only <;> omega
theorem laidR_len (xs : List Pt) (turn first dx : Int) : (laidR xs turn first dx).length = xs.length := by unfold laidR; simp
theorem laid_ok {xs : List Pt} (hr : roomOk xs = true) {turn first dx : Int} (hb : ∀ q ∈ xs, -30 ≤ q.1 ∧ q.1 ≤ 30 ∧ -30 ≤ q.2 ∧ q.2 ≤ 30) (hd : -2 ≤ dx ∧ dx ≤ 2) : roomOk (laidR xs turn first dx) = true := by
 have h3 := (roomOk_iff.1 hr).1
 have hn : 0 < xs.length := by omega
 refine Geo.room_moved hr first.toNat (laidMv turn dx) (laidR_len _ _ _ _) (fun j => ?_) fun q hq => ?_
 ·show (laidR xs turn first dx).getD (j % (laidR xs turn first dx).length) (0, 0) = _
  rw [laidR_len]
  have hj := Nat.mod_lt j hn
  rw [getD_lt _ (by rw [laidR_len]; exact hj)]
  unfold laidR
  rw [List.getElem_map, List.getElem_range]
  show laidP turn dx (xs.getD ((first.toNat + j % xs.length) % xs.length) (0, 0)) = _
  rw [laidMv_app, Nat.add_mod_mod]
 ·unfold laidR at hq
  obtain ⟨k, -, rfl⟩ := List.mem_map.1 hq
  have hm : (first.toNat + k) % xs.length < xs.length := Nat.mod_lt _ hn
  have := hb _ (List.getElem_mem hm)
  rw [← getD_lt (0, 0) hm] at this
  show ptOk (laidP turn dx (xs.getD _ _)) = true
  refine ptOk_iff.2 ?_
  unfold laidP turnP
  repeat' split
  all_goals simp only; omega
theorem roomX_ok (c : Cur) : roomOk (roomX c) = true := by
 have hK : 0 ≤ roomK c ∧ roomK c < 4 := below_bd (by decide)
 refine laid_ok (iterR_ok (s := room0 c) (shape_ok _) _) (fun q hq => ?_) ?_
 ·have := iterR_bd c _ q hq
  omega
 ·have := below_bd (c := belowC (belowC (roomS c).2 4) (roomS c).1.length) (n := 5) (by decide)
  omega
theorem drawRoom_room (bs : List Int) : roomOk (drawRoomM bs) = true := roomX_ok _
end Go.Proofs.YtnepfcnlngpchaaGreat
namespace Go.Proofs.YtnepfcnlngpchaaGreat
open Go.Shelf Go.RowKit Go.Lib Go.Sort Go.Proofs.YtnepfcnlngpchaaGreat.Nm
theorem holds_int {w : World} {F : Nat → Prop} {ty : TypeId} {s : Value} {xs : List Int} {cells : List Value} (hw : w.ownsRow 0 ty 1 s xs.length cells) (hr : RowC w F (.b .int) xs cells) (hne : 0 < xs.length) :
  ∃ g cap cur, s = .slice (some ⟨g, 0, none⟩) xs.length cap ∧ w.heap[g]? = some (.cells cur ty (0, 0)) ∧ xs.length ≤ cap ∧ cap ≤ maxLen ∧ cur.size = cap * 1 ∧ Holds (Value.int .i64) w g 0 xs.toArray := by
 rcases hw.2 with ⟨_, h0⟩ | ⟨g, cap, cur, hv, _, hh, hn, hm, hs, ht⟩
 ·omega
 refine ⟨g, cap, cur, hv, hh, hn, hm, hs, fun t ht' => ?_⟩
 have ht2 : t < xs.length := by simpa using ht'
 obtain ⟨us, hul, hue, hus⟩ := hr.2 t xs[t] (List.getElem?_eq_getElem ht2)
 have hue : us = [.int .i64 xs[t]] := hue
 subst hue
 have hc := hus 0 _ rfl
 rw [show t * (ElK.b ElB.int).size + 0 = t by show t * 1 + 0 = t; omega, ← ht, List.getElem?_take_of_lt (by omega), Array.getElem?_toList] at hc
 have hx : xs.toArray[t]! = xs[t] := by rw [getElem!_pos xs.toArray t ht']; simp
 constructor
 ·simp only [World.cell?, hh, Nat.zero_add, hx]
  simpa using hc
 ·simp [World.frozen?, hh]
theorem after_int {w W : World} {ty : TypeId} {g cap m : Nat} {cur : Array Value} {zs : List Int} {os : Array Obj} (hh : w.heap[g]? = some (.cells cur ty (0, 0))) (hn : zs.length ≤ cap) (hmz : m ≤ zs.length) (hm : cap ≤ maxLen) (hs : cur.size = cap * 1)
  (hos : W.os = w.os) (htape : W.tape = w.tape) (hout : W.output = w.output) (hheap : W.heap = w.heap.modify g (onCells (Go.Sort.putCells (Value.int .i64) 0 zs.toArray)) ++ os) :
  w.grownBy W (some g) ∧ W.ownsRow 0 ty 1 (.slice (some ⟨g, 0, none⟩) m cap) m ((zs.take m).map (Value.int .i64)) := by
 have hg : g < w.heap.size := lt_of_block hh
 have hpre : ∀ k, k < w.heap.size → W.heap[k]? = (w.heap.modify g (onCells (Go.Sort.putCells (Value.int .i64) 0 zs.toArray)))[k]? := fun k hk => by
  rw [hheap, Array.getElem?_append_left (by rw [Array.size_modify]; exact hk)]
 refine ⟨⟨hos, htape, hout, by rw [hheap, Array.size_append, Array.size_modify]; omega, fun k hk hne => ?_⟩, by simp; omega, .inr ⟨g, cap, Go.Sort.putCells (Value.int .i64) 0 zs.toArray cur, rfl, Nat.zero_le _, ?_, by omega, hm, ?_, ?_⟩⟩
 ·rw [hpre k hk, Array.getElem?_modify, if_neg (fun e => hne (by rw [e]))]
 ·rw [hpre g hg, Array.getElem?_modify, if_pos rfl, hh]; rfl
 ·rw [← hs]; simp [Go.Sort.putCells]
 ·refine List.ext_getElem? fun i => ?_
  rcases Nat.lt_or_ge i m with hi | hi
  ·rw [List.getElem?_take_of_lt (by omega), Array.getElem?_toList, List.getElem?_map, List.getElem?_take_of_lt hi]
   have hc : i < cur.size := by omega
   have hz : i < zs.length := by omega
   simp only [Go.Sort.putCells, Array.getElem?_mapIdx, Array.getElem?_eq_getElem hc, Option.map_some, Nat.zero_le, true_and, Nat.zero_add, List.size_toArray, hz, if_true, Nat.sub_zero, List.getElem?_eq_getElem hz]
   rw [getElem!_pos zs.toArray i (by simpa using hz)]
   simp
  ·rw [List.getElem?_eq_none (by rw [List.length_take]; omega), List.getElem?_eq_none (by simp; omega)]
theorem rowC_ints (w : World) (F : Nat → Prop) (xs : List Int) : RowC w F (.b .int) xs (xs.map (Value.int .i64)) := by
 refine ⟨fun v hv => ?_, fun i x hx => ⟨[.int .i64 x], rfl, rfl, fun j u hu => ?_⟩⟩
 ·obtain ⟨x, -, rfl⟩ := List.mem_map.1 hv; rfl
 ·cases j with
  | zero =>
   simp at hu
   subst hu
   show (xs.map (Value.int .i64))[i * 1 + 0]? = _
   rw [Nat.mul_one, Nat.add_zero, List.getElem?_map, hx]; rfl
  | succ j => simp at hu
def isort_ren : Go.Shelf.Ren := ⟨fun | 125 => 71 | 128 => 113 | 129 => 114 | 189 => 132 | 215 => 115 | 216 => 161 | 257 => 144 | 294 => 155 | 295 => 156 | 296 => 157 | 297 => 158 | 298 => 159 | 299 => 160 | 300 => 162 | 301 => 163 | 328 => 167 | 329 => 136 | 330 => 137 | 331 => 168 | 332 => 169 | 343 => 171 | n => n, fun | 0 => 0 | 3 => 3 | 4 => 4 | 5 => 5 | 9 => 9 | 28 => 33 | 46 => 94 | 51 => 124 | 53 => 126 | 131 => 121 | 182 => 116 | 183 => 117 | 218 => 138 | 222 => 142 | 228 => 151 | 229 => 152 | n => n, fun n => n⟩
theorem isort_lay : Lays.n189 Tryz.prog isort_ren := {
 mixed := by kernel_rfl
 f125 := Tryz.func71.trans (congrArg some (by kernel_rfl))
 f128 := Tryz.func113.trans (congrArg some (by kernel_rfl))
 f129 := Tryz.func114.trans (congrArg some (by kernel_rfl))
 f189 := Tryz.func132.trans (congrArg some (by kernel_rfl))
 f215 := Tryz.func115.trans (congrArg some (by kernel_rfl))
 f216 := Tryz.func161.trans (congrArg some (by kernel_rfl))
 f257 := Tryz.func144.trans (congrArg some (by kernel_rfl))
 f294 := Tryz.func155.trans (congrArg some (by kernel_rfl))
 f295 := Tryz.func156.trans (congrArg some (by kernel_rfl))
 f296 := Tryz.func157.trans (congrArg some (by kernel_rfl))
 f297 := Tryz.func158.trans (congrArg some (by kernel_rfl))
 f298 := Tryz.func159.trans (congrArg some (by kernel_rfl))
 f299 := Tryz.func160.trans (congrArg some (by kernel_rfl))
 f300 := Tryz.func162.trans (congrArg some (by kernel_rfl))
 f301 := Tryz.func163.trans (congrArg some (by kernel_rfl))
 f328 := Tryz.func167.trans (congrArg some (by kernel_rfl))
 f329 := Tryz.func136.trans (congrArg some (by kernel_rfl))
 f330 := Tryz.func137.trans (congrArg some (by kernel_rfl))
 f331 := Tryz.func168.trans (congrArg some (by kernel_rfl))
 f332 := Tryz.func169.trans (congrArg some (by kernel_rfl))
 f343 := Tryz.func171.trans (congrArg some (by kernel_rfl))
 t0 := Tryz.underlying0
 a0 := Tryz.isAgg0
 z0 := Tryz.sizeOf0
 v0 := Tryz.zeroValue0
 t3 := Tryz.underlying3
 a3 := Tryz.isAgg3
 z3 := Tryz.sizeOf3
 v3 := Tryz.zeroValue3
 t4 := Tryz.underlying4
 a4 := Tryz.isAgg4
 z4 := Tryz.sizeOf4
 v4 := Tryz.zeroValue4
 t5 := Tryz.underlying5
 a5 := Tryz.isAgg5
 z5 := Tryz.sizeOf5
 v5 := Tryz.zeroValue5
 t9 := Tryz.underlying9
 a9 := Tryz.isAgg9
 z9 := Tryz.sizeOf9
 v9 := Tryz.zeroValue9
 t28 := Tryz.underlying33
 a28 := Tryz.isAgg33
 z28 := Tryz.sizeOf33
 v28 := Tryz.zeroValue33
 t46 := Tryz.underlying94
 a46 := Tryz.isAgg94
 z46 := Tryz.sizeOf94
 v46 := Tryz.zeroValue94
 t51 := Tryz.underlying124
 a51 := Tryz.isAgg124
 z51 := Tryz.sizeOf124
 v51 := Tryz.zeroValue124
 t53 := Tryz.underlying126
 a53 := Tryz.isAgg126
 z53 := Tryz.sizeOf126
 v53 := Tryz.zeroValue126
 t131 := Tryz.underlying121
 a131 := Tryz.isAgg121
 z131 := Tryz.sizeOf121
 v131 := Tryz.zeroValue121
 t182 := Tryz.underlying116
 a182 := Tryz.isAgg116
 z182 := Tryz.sizeOf116
 v182 := Tryz.zeroValue116
 t183 := Tryz.underlying117
 a183 := Tryz.isAgg117
 z183 := Tryz.sizeOf117
 v183 := Tryz.zeroValue117
 t218 := Tryz.underlying138
 a218 := Tryz.isAgg138
 z218 := Tryz.sizeOf138
 v218 := Tryz.zeroValue138
 t222 := Tryz.underlying142
 a222 := Tryz.isAgg142
 z222 := Tryz.sizeOf142
 v222 := Tryz.zeroValue142
 t228 := Tryz.underlying151
 a228 := Tryz.isAgg151
 z228 := Tryz.sizeOf151
 v228 := Tryz.zeroValue151
 t229 := Tryz.underlying152
 a229 := Tryz.isAgg152
 z229 := Tryz.sizeOf152
 v229 := Tryz.zeroValue152
}
def sortIC : ConW := mkConW [.sl (.b .int)] 0 t_int (fun x => 0 < x.1.length ∧ x.1.length ≤ 1048576) (fun _ => .tup []) fun x => ⟨.b .int, x.1.mergeSort (fun x y => decide (x ≤ y)), false⟩
theorem sortI_snd : SoundW Tryz.prog n_slices_Sort_int sortIC := by
 intro w F args vs a0 l ver (x : Args [.sl (.b .int)]) s k xs ys cells ha hoc hoth hpat hpre hcast hbase hF hlen hargs hw hrow hs hone
 have hpat : decs [.sl (.b .int)] (setA args 0 (ownAs a0 (.d (.sl none k xs)))) = some x := hpat
 have ha : nthA args 0 = some a0 := ha
 match args, vs, ha, hpat, hlen, hargs with
 | [], _, ha, _, _, _ => cases ha
 | z :: c :: r, _, _, hpat, _, _ => simp only [setA, decs] at hpat; split at hpat <;> simp_all
 | [z], [v0], ha, hpat, hlen, hargs =>
  obtain rfl : z = a0 := Option.some.inj ha
  have h0 := hargs 0 z v0 rfl rfl
  obtain ⟨x1, ⟨⟩⟩ := x
  obtain ⟨hp1, hp2⟩ := hpre
  have hp1 : 0 < x1.length := hp1
  have hp2 : x1.length ≤ 1048576 := hp2
  have hz : z = .one (.own l ver) ∧ ∃ e : k = .b .int, e ▸ xs = x1 := by
   simp only [setA, decs] at hpat
   split at hpat
   ·rename_i a b e1 e2
    injection hpat with hpat
    injection hpat with h1 h2
    subst h1
    unfold ownCell at hoc
    split at hoc
    ·injection hoc with hoc; injection hoc with e3 e4
     subst e3; subst e4
     exact ⟨rfl, castL_ok e1⟩
    ·simp only [ownAs, Ty.dec] at e1; cases e1
    ·cases hoc
   ·cases hpat
  obtain ⟨rfl, ek, he⟩ := hz
  subst ek
  have he : xs = x1 := he
  subst he
  have hv0 : v0 = s := h0
  subst hv0
  have hys : ys = xs.mergeSort (fun x y => decide (x ≤ y)) := by
   have : castL (.b .int) (.b .int) (xs.mergeSort (fun x y => decide (x ≤ y))) = some ys := hcast
   exact (Option.some.inj this).symm
  subst hys
  have hw : w.ownsRow 0 t_int 1 v0 xs.length cells := hw
  obtain ⟨g, cap, cur, hv0, hh, hn, hm, hcs, hK⟩ := holds_int hw hrow hp1
  subst hv0
  have hg := (hs g rfl).1
  have hmain := Any.slices_Sort_int isort_lay g 0 cap xs w hK hg (by omega)
  have hmain' : Calls Tryz.prog n_slices_Sort_int #[.slice (some ⟨g, 0, none⟩) xs.length cap] w fun e w' => e = .returned (.tuple #[]) ∧ ∃ n os, w' = grow (putRow (Value.int .i64) (Sort.ahead w n) g 0 (xs.mergeSort fun x y => decide (x ≤ y)).toArray) os := hmain
  refine hmain'.mono ?_
  rintro e w' ⟨rfl, n, os, rfl⟩
  have hl : (xs.mergeSort fun x y => decide (x ≤ y)).length = xs.length := List.length_mergeSort _
  obtain ⟨ha1, ha2⟩ := after_int (W := grow (putRow (Value.int .i64) (Sort.ahead w n) g 0 (xs.mergeSort fun x y => decide (x ≤ y)).toArray) os) (m := xs.length) (zs := xs.mergeSort fun x y => decide (x ≤ y)) (os := os) hh (by omega) (by omega) hm hcs rfl rfl rfl rfl
  rw [List.take_of_length_le (by omega)] at ha2
  exact ⟨.tuple #[], .slice (some ⟨g, 0, none⟩) xs.length cap, _, rfl, ha1, fun b hb => .inl hb, by rw [hl]; exact ha2, rowC_ints _ F _, rfl, rfl, [], rfl, rfl, fun j x u hx => by simp at hx⟩
theorem sortI_ok : GoodW Tryz.prog n_slices_Sort_int sortIC := by
 exact ⟨sortI_snd, _, Tryz.func132, by decide, rfl⟩
def del_ren : Go.Shelf.Ren := ⟨fun | 23 => 98 | n => n, fun | 0 => 0 | 3 => 3 | 4 => 4 | 22 => 33 | n => n, fun n => n⟩
theorem del_lay : Lays2.n23 Tryz.prog del_ren := {
 mixed := by kernel_rfl
 f23 := Tryz.func98.trans (congrArg some (by kernel_rfl))
 t0 := Tryz.underlying0
 a0 := Tryz.isAgg0
 z0 := Tryz.sizeOf0
 v0 := Tryz.zeroValue0
 t3 := Tryz.underlying3
 a3 := Tryz.isAgg3
 z3 := Tryz.sizeOf3
 v3 := Tryz.zeroValue3
 t4 := Tryz.underlying4
 a4 := Tryz.isAgg4
 z4 := Tryz.sizeOf4
 v4 := Tryz.zeroValue4
 t22 := Tryz.underlying33
 a22 := Tryz.isAgg33
 z22 := Tryz.sizeOf33
 v22 := Tryz.zeroValue33
 i3 := by kernel_rfl
}
def delC : ConW := mkConW [.sl (.b .int), .int, .int] 0 t_int (fun x => 0 < x.1.length ∧ x.1.length ≤ 1048576 ∧ 0 ≤ x.2.1 ∧ x.2.1 ≤ x.2.2.1 ∧ x.2.2.1 ≤ x.1.length) (fun _ => .tup []) fun x => ⟨.b .int, x.1.take x.2.1.toNat ++ x.1.drop x.2.2.1.toNat, true⟩
theorem del_snd : SoundW Tryz.prog n_slices_Delete_int delC := by
 intro w F args vs a0 l ver (x : Args [.sl (.b .int), .int, .int]) s k xs ys cells ha hoc hoth hpat hpre hcast hbase hF hlen hargs hw hrow hs hone
 have hpat : decs [.sl (.b .int), .int, .int] (setA args 0 (ownAs a0 (.d (.sl none k xs)))) = some x := hpat
 have ha : nthA args 0 = some a0 := ha
 match args, vs, ha, hpat, hlen, hargs with
 | [], _, ha, _, _, _ => cases ha
 | [z], _, _, hpat, _, _ => simp only [setA, decs] at hpat; split at hpat <;> simp_all
 | [z, c], _, _, hpat, _, _ => simp only [setA, decs] at hpat; split at hpat <;> simp_all
 | z :: c :: d :: e :: r, _, _, hpat, _, _ => simp only [setA, decs] at hpat; split at hpat <;> simp_all
 | [z, c, d], [v0, v1, v2], ha, hpat, hlen, hargs =>
  obtain rfl : z = a0 := Option.some.inj ha
  have h0 := hargs 0 z v0 rfl rfl
  have h1 := hargs 1 c v1 rfl rfl
  have h2 := hargs 2 d v2 rfl rfl
  obtain ⟨x1, i, j, ⟨⟩⟩ := x
  obtain ⟨hp1, hp2, hp3, hp4, hp5⟩ := hpre
  have hp1 : 0 < x1.length := hp1
  have hp2 : x1.length ≤ 1048576 := hp2
  have hp3 : 0 ≤ i := hp3
  have hp4 : i ≤ j := hp4
  have hp5 : j ≤ x1.length := hp5
  have hz : z = .one (.own l ver) ∧ (∃ e : k = .b .int, e ▸ xs = x1) ∧ c = .one (.d (.int .i64 i)) ∧ d = .one (.d (.int .i64 j)) := by
   simp only [setA, decs] at hpat
   split at hpat
   next a b e1 e2 =>
    injection hpat with hpat
    injection hpat with g1 g2
    subst g1
    split at e2
    next a' b' e3 e4 =>
     injection e2 with e2
     subst e2
     injection g2 with g2 g3
     subst g2
     split at e4
     next a'' b'' e5 e6 =>
      injection e4 with e4
      subst e4
      injection g3 with g3 g4
      subst g3
      have hint : ∀ {y : AV} {n : Int}, Ty.int.dec y = some n → y = .one (.d (.int .i64 n)) := by
       intro y n hy
       cases y with
       | one c =>
        cases c with
        | d x =>
         cases x with
         | int k m => cases k <;> first | (injection hy with hy; subst hy; rfl) | (simp only [Ty.dec] at hy; cases hy)
         | _ => simp only [Ty.dec] at hy; cases hy
        | _ => simp only [Ty.dec] at hy; cases hy
       | _ => simp only [Ty.dec] at hy; cases hy
      unfold ownCell at hoc
      split at hoc
      ·injection hoc with hoc; injection hoc with e7 e8
       subst e7; subst e8
       exact ⟨rfl, castL_ok e1, hint e3, hint e5⟩
      ·simp only [ownAs, Ty.dec] at e1; cases e1
      ·cases hoc
     next => cases e4
    next => cases e2
   next => cases hpat
  obtain ⟨rfl, ⟨ek, he⟩, rfl, rfl⟩ := hz
  subst ek
  have he : xs = x1 := he
  subst he
  have hv0 : v0 = s := h0
  subst hv0
  have hv1 : v1 = .int .i64 i := intD h1
  have hv2 : v2 = .int .i64 j := intD h2
  subst hv1
  subst hv2
  obtain ⟨i, rfl⟩ := Int.eq_ofNat_of_zero_le hp3
  obtain ⟨j, rfl⟩ := Int.eq_ofNat_of_zero_le (Int.le_trans hp3 hp4)
  have hij : i ≤ j := Int.ofNat_le.1 hp4
  have hjl : j ≤ xs.length := Int.ofNat_le.1 hp5
  have hys : ys = xs.take i ++ xs.drop j := by
   have : castL (.b .int) (.b .int) (xs.take (i : Int).toNat ++ xs.drop (j : Int).toNat) = some ys := hcast
   exact (Option.some.inj this).symm
  subst hys
  have hw : w.ownsRow 0 t_int 1 v0 xs.length cells := hw
  obtain ⟨g, cap, cur, hv0, hh, hn, hm, hcs, hK⟩ := holds_int hw hrow hp1
  subst hv0
  have hmain := Any.slices_Delete_int del_lay g 0 cap i j xs w hK hn (by unfold maxLen at hm; omega) (by omega) (by omega)
  have hmain' : Calls Tryz.prog n_slices_Delete_int #[.slice (some ⟨g, 0, none⟩) xs.length cap, .int .i64 i, .int .i64 j] w fun e w' => e = .returned (.slice (some ⟨g, 0, none⟩) (xs.length - (j - i)) cap) ∧ ∃ q, w' = putRow (Value.int .i64) (Sort.ahead w q) g 0 (xs.take i ++ xs.drop j ++ List.replicate (j - i) 0).toArray := hmain
  refine hmain'.mono ?_
  rintro e w' ⟨rfl, q, rfl⟩
  have hl : (xs.take i ++ xs.drop j).length = xs.length - (j - i) := by simp; omega
  have hl2 : (xs.take i ++ xs.drop j ++ List.replicate (j - i) 0).length = xs.length := by simp; omega
  obtain ⟨ha1, ha2⟩ := after_int (W := putRow (Value.int .i64) (Sort.ahead w q) g 0 (xs.take i ++ xs.drop j ++ List.replicate (j - i) 0).toArray) (m := xs.length - (j - i)) (zs := xs.take i ++ xs.drop j ++ List.replicate (j - i) 0) (os := #[]) hh (by omega) (by omega) hm hcs rfl rfl rfl (by simp [putRow, mapBlock, Sort.ahead])
  have htk : (xs.take i ++ xs.drop j ++ List.replicate (j - i) 0).take (xs.length - (j - i)) = xs.take i ++ xs.drop j := by
   rw [← hl]; exact List.take_left
  rw [htk] at ha2
  exact ⟨_, .slice (some ⟨g, 0, none⟩) (xs.length - (j - i)) cap, _, rfl, ha1, fun b hb => .inl hb, by rw [hl]; exact ha2, rowC_ints _ F _, rfl, rfl⟩
theorem del_ok : GoodW Tryz.prog n_slices_Delete_int delC := by
 exact ⟨del_snd, _, Tryz.func98, by decide, rfl⟩
end Go.Proofs.YtnepfcnlngpchaaGreat
namespace Go.Proofs.YtnepfcnlngpchaaGreat
open Go.RowKit Go.Proofs.YtnepfcnlngpchaaGreat.Nm
set_option maxRecDepth 10000
set_option maxHeartbeats 2000000
def cutC : Con := mkCon [.room, .sl (.b .int), .int] (fun x => roomOk x.1 = true ∧ Left x.1.length x.2.1 ∧ 0 ≤ x.2.2.1 ∧ x.2.2.1 < x.2.1.length) fun x => vB (cutM x.1 x.2.1 x.2.2.1.toNat)
theorem canCut_ok : Good1 Tryz.prog n_impl_canCut cutC := by
  refine good_ofG (tys := tyL) (env := [(n_impl_diagonal, diagonalC), (n_impl_neighbors, neighC), (n_impl_turn, turnC), (n_impl_inTurn, inTurnC)]) (envw := []) (envd := []) [] [11, 12, 13, 38, 39, 41, 42, 43, 44, 46, 47, 48, 49, 51, 52] [] [] [] mixed tys ⟨diagonal_ok, neighbors_ok, turn_ok, inTurn_ok, trivial⟩ trivial trivial Tryz.func96 rfl (by kernel_rfl) (by decide) (by kernel_rfl) ?_
  have hG_ := kpz [(0, [1, 2, 3]), (1, [1, 2, 3, 7]), (2, [1, 3, 8, 9, 10]), (3, [1, 3, 8, 9, 10, 11, 12, 13]), (4, [1, 3, 8, 9, 10, 11, 12, 13, 71]), (5, [6]), (6, [3, 8, 9, 10, 11, 12, 13, 72, 73, 74]), (7, [3, 8, 9, 10, 11, 12, 13, 72, 73, 74, 75]), (8, [3, 8, 9, 10, 11, 12, 13, 15, 72, 73, 74]), (9, [3, 8, 9, 10, 11, 12, 13, 72, 73, 74, 101]), (10, [6]), (11, [3, 8, 9, 10, 11, 12, 13, 72, 73, 74]), (12, [6])] [(3, [11, 12, 13]), (4, [11, 12, 13]), (6, [11, 12, 13]), (7, [11, 12, 13]), (8, [11, 12, 13]), (9, [11, 12, 13]), (11, [11, 12, 13])] [] []
  rintro ⟨(xs : List Pt), (l : List Int), (i : Int), ⟨⟩⟩ ⟨(hr : roomOk xs = true), (hL : Left xs.length l), (h0 : 0 ≤ i), (h1 : i < l.length)⟩
  have hlr := room_len hr
  have hle := hL.le
  obtain ⟨i, rfl⟩ := Int.eq_ofNat_of_zero_le h0
  have hpz := prv_int (n := l.length) (i := i) (by omega)
  have hpl : prvN l.length i < l.length := prv_lt (by omega)
  have hA : 0 ≤ l.getD (prvN l.length i) (ElK.b ElB.int).dflt ∧ l.getD (prvN l.length i) (ElK.b ElB.int).dflt < xs.length := hL.at hpl
  have hK : 0 ≤ l.getD i (ElK.b ElB.int).dflt ∧ l.getD i (ElK.b ElB.int).dflt < xs.length := hL.at (by omega)
  have hB : 0 ≤ l.getD ((i + 1) % l.length) (ElK.b ElB.int).dflt ∧ l.getD ((i + 1) % l.length) (ElK.b ElB.int).dflt < xs.length := hL.at (nxt_lt (by omega))
  have hwA : IntKind.i64.wrap (l.getD (prvN l.length i) (ElK.b ElB.int).dflt + 1) = l.getD (prvN l.length i) (ElK.b ElB.int).dflt + 1 := W_in (by omega) (by omega)
  have hwB : IntKind.i64.wrap (l.getD ((i + 1) % l.length) (ElK.b ElB.int).dflt + 1) = l.getD ((i + 1) % l.length) (ElK.b ElB.int).dflt + 1 := W_in (by omega) (by omega)
  have hX : ∀ m, m < l.length → 0 ≤ l.getD m (ElK.b ElB.int).dflt ∧ l.getD m (ElK.b ElB.int).dflt < xs.length := fun m hm => hL.at hm
  have hcut : cutM xs l i = true ↔ (diagM xs (l.getD (prvN l.length i) (ElK.b ElB.int).dflt) (l.getD ((i + 1) % l.length) (ElK.b ElB.int).dflt) = true ∨ neighZ xs.length (l.getD (prvN l.length i) (ElK.b ElB.int).dflt) (l.getD ((i + 1) % l.length) (ElK.b ElB.int).dflt) = true) ∧
      0 < turn (xs.getD (l.getD (prvN l.length i) (ElK.b ElB.int).dflt).toNat (ElK.b ElB.pt).dflt) (xs.getD (l.getD i (ElK.b ElB.int).dflt).toNat (ElK.b ElB.pt).dflt) (xs.getD (l.getD ((i + 1) % l.length) (ElK.b ElB.int).dflt).toNat (ElK.b ElB.pt).dflt) ∧
      ∀ j, j < l.length → l.getD j (ElK.b ElB.int).dflt = l.getD (prvN l.length i) (ElK.b ElB.int).dflt ∨ l.getD j (ElK.b ElB.int).dflt = l.getD i (ElK.b ElB.int).dflt ∨ l.getD j (ElK.b ElB.int).dflt = l.getD ((i + 1) % l.length) (ElK.b ElB.int).dflt ∨
        inTri (xs.getD (l.getD (prvN l.length i) (ElK.b ElB.int).dflt).toNat (ElK.b ElB.pt).dflt) (xs.getD (l.getD i (ElK.b ElB.int).dflt).toNat (ElK.b ElB.pt).dflt) (xs.getD (l.getD ((i + 1) % l.length) (ElK.b ElB.int).dflt).toNat (ElK.b ElB.pt).dflt) (xs.getD (l.getD j (ElK.b ElB.int).dflt).toNat (ElK.b ElB.pt).dflt) = false := cutM_iff
  generalize hgc : cutM xs l i = cc at hcut
  generalize hga : l.getD (prvN l.length i) (ElK.b ElB.int).dflt = A at *
  generalize hgb : l.getD ((i + 1) % l.length) (ElK.b ElB.int).dflt = B at *
  (repeat' (first | (with_reducible first | exact True.intro | refine zQ ?_ | (refine zG hG_ ?_; intro K_ hK_) | (refine zR ?_; intro K_ hK_) | (refine hK_ _ _ ?_; try clear hK_ K_) | refine sq_n ?_ | refine sq_r ?_ | refine sq_e ?_ | refine bq_n ?_ | refine bq_r ?_ | refine bq_q ?_ | refine zB ?_ | refine zX ?_ | refine zT ?_ | refine zK ?_ | refine gq_n ?_ | refine gq_r ?_ | refine gq_e ?_ | refine lq_n ?_ | refine lq_r ?_ | refine lq_e ?_ | refine bq_e (by decide) ?_) | ((with_reducible refine zC (b := ?b_) ?hb_ ?_ ?_); case hb_ => rfl) | ((conv => whnf); first | (with_reducible refine hK_ _ _ ?_; try clear hK_ K_) | (with_reducible refine fun (g_ : Sl) (o_ : Ow) => ?_) | (with_reducible first | exact True.intro | refine And.intro trivial ?_ | refine And.intro ?_ ?_) | exact Nat.le_of_ble_eq_true rfl | exact Or.inl rfl | (intro h_; cases h_) | (intro h_; (try simp only [vS1] at h_)) | rfl))) <;> (try (conv => whnf)) <;> (try first | change (_ : Int) ≤ _ | change (_ : Nat) ≤ _) <;> (try ((fail_if_success (with_reducible apply Exists.intro)); (try dsimp only); (try simp only [vS1]))) <;> (try simp (disch := omega) only [vS3, Int.add_sub_cancel, tn1, tnp, tnc, vS2] at *) <;> (try simp only [hpz, Int.toNat_natCast, hga, hgb, hgc, hwA, hwB] at *) <;> (try simp (disch := omega) only [W_in] at *)
  all_goals (try (fail_if_success (with_reducible apply Exists.intro)); first | with_reducible assumption | omega | exact mdl (by omega) | exact ilo1 (by omega) | exact ilo2 (by omega) | exact ihi1 (by omega) (by omega) | exact ihi2 (by omega) (by omega))
  all_goals first
    | (refine eq_false_of fun hc => ?_
       have h5 := hcut.1 hc
       simp_all [neighZ]
       done)
    | (refine eq_false_of fun hc => ?_
       have h5 := (hcut.1 hc).2.1
       omega)
    | skip
  ·
    refine awp'_loopG (α := Nat) (fun m ver_ => [(74, vInt m)]) (fun m ver_ => []) (fun m ver_ => []) (fun m => m ≤ l.length ∧ ∀ j, j < m → l.getD j (ElK.b ElB.int).dflt = A ∨ l.getD j (ElK.b ElB.int).dflt = l.getD i (ElK.b ElB.int).dflt ∨ l.getD j (ElK.b ElB.int).dflt = B ∨ inTri (xs.getD A.toNat (ElK.b ElB.pt).dflt) (xs.getD (l.getD i (ElK.b ElB.int).dflt).toNat (ElK.b ElB.pt).dflt) (xs.getD B.toNat (ElK.b ElB.pt).dflt) (xs.getD (l.getD j (ElK.b ElB.int).dflt).toNat (ElK.b ElB.pt).dflt) = false) (fun m => l.length - m) [3, 8, 9, 10, 11, 12, 13, 72, 73] [11, 12, 13] (0) ?_
    conv => whnf
    refine ⟨⟨?inv1_, ?vals1_, ?own1_, ?fix1_⟩, ?body1_⟩
    case' vals1_ => (repeat' (first | (with_reducible first | exact True.intro | refine And.intro ?_ ?_ | refine Head.mk ?_ ?_ ?_ ?_) | ((conv => lhs; whnf); first | (with_reducible first | rfl | exact vInt_s (by omega)) | exact rfl) | ((conv => whnf); first | (with_reducible first | exact True.intro | refine And.intro ?_ ?_)))) <;> (try (conv => lhs; whnf))
    case' own1_ => (repeat' (first | (with_reducible first | exact True.intro | refine And.intro ?_ ?_ | refine Head.mk ?_ ?_ ?_ ?_) | ((conv => lhs; whnf); first | (with_reducible first | rfl | exact vInt_s (by omega)) | exact rfl) | ((conv => whnf); first | (with_reducible first | exact True.intro | refine And.intro ?_ ?_)))) <;> (try (conv => lhs; whnf))
    case' fix1_ => (repeat' (first | (with_reducible first | exact True.intro | refine And.intro ?_ ?_ | refine Head.mk ?_ ?_ ?_ ?_) | ((conv => lhs; whnf); first | (with_reducible first | rfl | exact vInt_s (by omega)) | exact rfl) | ((conv => whnf); first | (with_reducible first | exact True.intro | refine And.intro ?_ ?_)))) <;> (try (conv => lhs; whnf))
    · exact ⟨Nat.zero_le _, fun j hj => absurd hj (by omega)⟩
    rintro m g_ o_ v_ ⟨hm, hall⟩
    (repeat' (first | (with_reducible first | exact True.intro | refine zQ ?_ | (refine zG hG_ ?_; intro K_ hK_) | (refine zR ?_; intro K_ hK_) | (refine hK_ _ _ ?_; try clear hK_ K_) | refine sq_n ?_ | refine sq_r ?_ | refine sq_e ?_ | refine bq_n ?_ | refine bq_r ?_ | refine bq_q ?_ | refine zB ?_ | refine zX ?_ | refine zT ?_ | refine zK ?_ | refine gq_n ?_ | refine gq_r ?_ | refine gq_e ?_ | refine lq_n ?_ | refine lq_r ?_ | refine lq_e ?_ | refine bq_e (by decide) ?_) | ((with_reducible refine zC (b := ?b_) ?hb_ ?_ ?_); case hb_ => rfl) | ((conv => whnf); first | (with_reducible refine hK_ _ _ ?_; try clear hK_ K_) | (with_reducible refine fun (g_ : Sl) (o_ : Ow) => ?_) | (with_reducible first | exact True.intro | refine And.intro trivial ?_ | refine And.intro ?_ ?_) | exact Nat.le_of_ble_eq_true rfl | exact Or.inl rfl | (intro h_; cases h_) | (intro h_; (try simp only [vS1] at h_)) | rfl))) <;> (try (conv => whnf)) <;> (try first | change (_ : Int) ≤ _ | change (_ : Nat) ≤ _) <;> (try ((fail_if_success (with_reducible apply Exists.intro)); (try dsimp only); (try simp only [vS1]))) <;> (try simp (disch := omega) only [vS3, Int.add_sub_cancel, tn1, tnp, tnc, vS2] at *) <;> (try simp only [hpz, Int.toNat_natCast, hga, hgb, hgc, hwA, hwB] at *)
    all_goals (try (fail_if_success (with_reducible apply Exists.intro)); first | with_reducible assumption | omega | exact mdl (by omega) | exact ilo1 (by omega) | exact ilo2 (by omega) | exact ihi1 (by omega) (by omega) | exact ihi2 (by omega) (by omega))
    all_goals first
      | exact (hX m (by assumption)).1
      | (have := (hX m (by assumption)).2; omega)
      | exact ⟨m + 1, by omega, ⟨by omega, lt_succ_all hall (by first | exact .inl (by assumption) | exact .inr (.inl (by assumption)) | exact .inr (.inr (.inl (by assumption))) | exact .inr (.inr (.inr (by assumption))))⟩, by (repeat' (first | (with_reducible first | exact True.intro | refine And.intro ?_ ?_ | refine Head.mk ?_ ?_ ?_ ?_) | ((conv => lhs; whnf); first | (with_reducible first | rfl | exact vInt_s (by omega)) | exact rfl) | ((conv => whnf); first | (with_reducible first | exact True.intro | refine And.intro ?_ ?_)))) <;> (try (conv => lhs; whnf))⟩
      | (refine eq_false_of fun hc => ?_
         rcases (hcut.1 hc).2.2 m (by assumption) with e | e | e | e <;> first | contradiction | exact absurd (‹inTri _ _ _ _ = true›.symm.trans e) (by decide))
      | (refine eq_true_of (hcut.2 ⟨?_, by omega, fun j hj => hall j (by omega)⟩)
         first | exact .inl (by assumption) | exact .inr (by assumption) | (refine .inr ?_; simp [neighZ, *]; done))
      | skip
  ·
    refine awp'_loopG (α := Nat) (fun m ver_ => [(74, vInt m)]) (fun m ver_ => []) (fun m ver_ => []) (fun m => m ≤ l.length ∧ ∀ j, j < m → l.getD j (ElK.b ElB.int).dflt = A ∨ l.getD j (ElK.b ElB.int).dflt = l.getD i (ElK.b ElB.int).dflt ∨ l.getD j (ElK.b ElB.int).dflt = B ∨ inTri (xs.getD A.toNat (ElK.b ElB.pt).dflt) (xs.getD (l.getD i (ElK.b ElB.int).dflt).toNat (ElK.b ElB.pt).dflt) (xs.getD B.toNat (ElK.b ElB.pt).dflt) (xs.getD (l.getD j (ElK.b ElB.int).dflt).toNat (ElK.b ElB.pt).dflt) = false) (fun m => l.length - m) [3, 8, 9, 10, 11, 12, 13, 72, 73] [11, 12, 13] (0) ?_
    conv => whnf
    refine ⟨⟨?inv2_, ?vals2_, ?own2_, ?fix2_⟩, ?body2_⟩
    case' vals2_ => (repeat' (first | (with_reducible first | exact True.intro | refine And.intro ?_ ?_ | refine Head.mk ?_ ?_ ?_ ?_) | ((conv => lhs; whnf); first | (with_reducible first | rfl | exact vInt_s (by omega)) | exact rfl) | ((conv => whnf); first | (with_reducible first | exact True.intro | refine And.intro ?_ ?_)))) <;> (try (conv => lhs; whnf))
    case' own2_ => (repeat' (first | (with_reducible first | exact True.intro | refine And.intro ?_ ?_ | refine Head.mk ?_ ?_ ?_ ?_) | ((conv => lhs; whnf); first | (with_reducible first | rfl | exact vInt_s (by omega)) | exact rfl) | ((conv => whnf); first | (with_reducible first | exact True.intro | refine And.intro ?_ ?_)))) <;> (try (conv => lhs; whnf))
    case' fix2_ => (repeat' (first | (with_reducible first | exact True.intro | refine And.intro ?_ ?_ | refine Head.mk ?_ ?_ ?_ ?_) | ((conv => lhs; whnf); first | (with_reducible first | rfl | exact vInt_s (by omega)) | exact rfl) | ((conv => whnf); first | (with_reducible first | exact True.intro | refine And.intro ?_ ?_)))) <;> (try (conv => lhs; whnf))
    · exact ⟨Nat.zero_le _, fun j hj => absurd hj (by omega)⟩
    rintro m g_ o_ v_ ⟨hm, hall⟩
    (repeat' (first | (with_reducible first | exact True.intro | refine zQ ?_ | (refine zG hG_ ?_; intro K_ hK_) | (refine zR ?_; intro K_ hK_) | (refine hK_ _ _ ?_; try clear hK_ K_) | refine sq_n ?_ | refine sq_r ?_ | refine sq_e ?_ | refine bq_n ?_ | refine bq_r ?_ | refine bq_q ?_ | refine zB ?_ | refine zX ?_ | refine zT ?_ | refine zK ?_ | refine gq_n ?_ | refine gq_r ?_ | refine gq_e ?_ | refine lq_n ?_ | refine lq_r ?_ | refine lq_e ?_ | refine bq_e (by decide) ?_) | ((with_reducible refine zC (b := ?b_) ?hb_ ?_ ?_); case hb_ => rfl) | ((conv => whnf); first | (with_reducible refine hK_ _ _ ?_; try clear hK_ K_) | (with_reducible refine fun (g_ : Sl) (o_ : Ow) => ?_) | (with_reducible first | exact True.intro | refine And.intro trivial ?_ | refine And.intro ?_ ?_) | exact Nat.le_of_ble_eq_true rfl | exact Or.inl rfl | (intro h_; cases h_) | (intro h_; (try simp only [vS1] at h_)) | rfl))) <;> (try (conv => whnf)) <;> (try first | change (_ : Int) ≤ _ | change (_ : Nat) ≤ _) <;> (try ((fail_if_success (with_reducible apply Exists.intro)); (try dsimp only); (try simp only [vS1]))) <;> (try simp (disch := omega) only [vS3, Int.add_sub_cancel, tn1, tnp, tnc, vS2] at *) <;> (try simp only [hpz, Int.toNat_natCast, hga, hgb, hgc, hwA, hwB] at *)
    all_goals (try (fail_if_success (with_reducible apply Exists.intro)); first | with_reducible assumption | omega | exact mdl (by omega) | exact ilo1 (by omega) | exact ilo2 (by omega) | exact ihi1 (by omega) (by omega) | exact ihi2 (by omega) (by omega))
    all_goals first
      | exact (hX m (by assumption)).1
      | (have := (hX m (by assumption)).2; omega)
      | exact ⟨m + 1, by omega, ⟨by omega, lt_succ_all hall (by first | exact .inl (by assumption) | exact .inr (.inl (by assumption)) | exact .inr (.inr (.inl (by assumption))) | exact .inr (.inr (.inr (by assumption))))⟩, by (repeat' (first | (with_reducible first | exact True.intro | refine And.intro ?_ ?_ | refine Head.mk ?_ ?_ ?_ ?_) | ((conv => lhs; whnf); first | (with_reducible first | rfl | exact vInt_s (by omega)) | exact rfl) | ((conv => whnf); first | (with_reducible first | exact True.intro | refine And.intro ?_ ?_)))) <;> (try (conv => lhs; whnf))⟩
      | (refine eq_false_of fun hc => ?_
         rcases (hcut.1 hc).2.2 m (by assumption) with e | e | e | e <;> first | contradiction | exact absurd (‹inTri _ _ _ _ = true›.symm.trans e) (by decide))
      | (refine eq_true_of (hcut.2 ⟨?_, by omega, fun j hj => hall j (by omega)⟩)
         first | exact .inl (by assumption) | exact .inr (by assumption) | (refine .inr ?_; simp [neighZ, *]; done))
      | skip
end Go.Proofs.YtnepfcnlngpchaaGreat
