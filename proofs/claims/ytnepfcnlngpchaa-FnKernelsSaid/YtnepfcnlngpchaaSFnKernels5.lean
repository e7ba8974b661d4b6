/- What the proof of 'FnKernels' needs, part 5: conditions and steps of the functions that it reaches, and the mathematics. -/
import Derived.Test.YtnepfcnlngpchaaRows
import Derived.WalkKit
import Derived.WalkSpells
import Derived.Below
import Derived.Orders
import Derived.Maps.AppendAt
import Derived.Laws.StructEq
import Derived.WideShapes
import Derived.ChangeSlices
import Derived.Deep.Strs
import Derived.ChangeOld
import Derived.Shelf.SlLaysF0
import Derived.Shelf.SlSortCmp.InsertionK
import Derived.Shelf.SlSortCmp.SmallK
import Derived.Shelf.SlSortCmp.Xorshift
import Derived.Sort.LotA
import Derived.Test.YtnepfcnlngpchaaSFnKernels4
namespace Go.Proofs.Ytnepfcnlngpchaa
open Go.RowKit Go.Proofs.Ytnepfcnlngpchaa.Nm
set_option maxRecDepth 10000
set_option linter.unusedSimpArgs false
set_option linter.unusedVariables false
def cornersB (xs : List Pt) (a b : Pt) : List Pt := distSort a (cutsOf xs a b)
theorem filter_len_le {xs : List Pt} {f : Pt → Bool} {n : Nat} (h : xs.length ≤ n) (k : Nat) : ((xs.take k).filter f).length ≤ n := Nat.le_trans (List.length_filter_le _ _) (by rw [List.length_take]; omega)
def cornersBC : Con := mkCon [.room, .pt, .pt] (fun x => x.1.length ≤ 10) fun x => ptRow (cornersB x.1 x.2.1 x.2.2.1)
theorem cornersBetween_ok : Good1 Try.prog n_impl_cornersBetween cornersBC := by
  refine good_ofG (tys := tyL) (env := [(n_impl_on, onC)]) (envw := [(n_slices_SortFunc_impl_Point, sortC)]) (envd := []) [12, 41] [] [] [] [] mixed tys ⟨on_ok, trivial⟩ ⟨sortFunc_ok, trivial⟩ trivial Try.func122 rfl (by kernel_rfl) (by decide) (by kernel_rfl) ?_
  have hG_ := kpz [(0, [3, 4, 5]), (1, [3, 4, 5, 7]), (2, [4, 5, 7, 14, 15, 16]), (3, [4, 5, 7, 14, 15, 16, 17]), (4, [4, 5, 7, 9, 14, 15, 16]), (5, [4, 5, 7, 9, 14, 15, 16, 33]), (6, [4, 5, 7, 14, 15, 16]), (7, [4, 5, 7, 14, 15, 16]), (8, [7]), (9, [6])] [(1, [12]), (2, [12]), (3, [12]), (4, [9, 12]), (5, [9, 12]), (6, [12]), (7, [12]), (8, [12]), (9, [12])] [] []
  rintro ⟨(xs : List Pt), ⟨(ax : Int), (ay : Int)⟩, ⟨(bx : Int), (b_y : Int)⟩, ⟨⟩⟩ (h1 : xs.length ≤ _)
  (repeat' (first | with_reducible exact True.intro | with_reducible refine st_seq ?_ | (with_reducible refine st_regionG hG_ ?_; intro K_ hK_) | (with_reducible refine st_region ?_; intro K_ hK_) | (with_reducible refine hK_ _ _ ?_; try clear hK_ K_) | ((with_reducible refine st_cond (b := ?b_) ?hb_ ?_ ?_); case hb_ => rfl) | with_reducible refine sq_n ?_ | with_reducible refine sq_r ?_ | with_reducible refine sq_e ?_ | with_reducible refine bq_n ?_ | with_reducible refine bq_r ?_ | with_reducible refine bq_q ?_ | with_reducible refine st_block ?_ | with_reducible refine st_exit ?_ | with_reducible refine st_ret ?_ | with_reducible refine st_skip ?_ | with_reducible refine gq_n ?_ | with_reducible refine gq_r ?_ | with_reducible refine gq_e ?_ | with_reducible refine lq_n ?_ | with_reducible refine lq_r ?_ | with_reducible refine lq_e ?_ | with_reducible refine bq_e (by decide) ?_ | ((conv => whnf); first | (with_reducible refine hK_ _ _ ?_; try clear hK_ K_) | (with_reducible refine fun (g_ : Sl) (o_ : Ow) => ?_) | with_reducible exact True.intro | with_reducible refine And.intro trivial ?_ | with_reducible refine And.intro ?_ ?_ | exact Nat.le_of_ble_eq_true rfl | exact Or.inl rfl | (intro h_; cases h_) | (intro h_; (try simp only [cond_true, cond_false, decide_eq_true_eq, decide_eq_false_iff_not, Bool.not_eq_true', Bool.not_eq_false', Int.toNat_natCast, prodEta] at h_)) | rfl))) <;> (try (conv => whnf)) <;> (try first | change (_ : Int) ≤ _ | change (_ : Nat) ≤ _) <;> (try ((fail_if_success (with_reducible apply Exists.intro)); (try dsimp only); (try simp only [cond_true, cond_false, decide_eq_true_eq, decide_eq_false_iff_not, Bool.not_eq_true', Bool.not_eq_false', Int.toNat_natCast, prodEta]))) <;> (try simp (disch := omega) only [ptEq2, cond_true, cond_false, decide_eq_true_eq, decide_eq_false_iff_not, List.length_drop, List.take_length, Int.toNat_zero, List.drop_zero, Nat.zero_add, List.nil_append, mod_nat1, mod_nat2, tm1, tm2, tmj, W_in, List.length_append, List.length_take, List.length_replicate, List.length_set, List.length_map, List.length_cons, List.length_nil, prodEta, Int.toNat_natCast, beq_iff_eq, beq_eq_false_iff_ne, bne_iff_ne, bne_eq_false_iff_eq, ne_eq, Int.natCast_inj, Int.ofNat_lt, Int.ofNat_le] at *)
  all_goals (try (fail_if_success (with_reducible apply Exists.intro)); first | with_reducible assumption | omega | exact mdl (by omega) | exact ilo1 (by omega) | exact ilo2 (by omega) | exact ihi1 (by omega) (by omega) | exact ihi2 (by omega) (by omega))
  refine awp'_loopG (α := Nat) (fun k ver_ => [(16, vInt k)]) (fun k ver_ => [(7, 12, false, .row t_impl_Point (.b .pt) ([(ax, ay), (bx, b_y)] ++ (xs.take k).filter (amid (ax, ay) (bx, b_y))))]) (fun k ver_ => []) (fun k => k ≤ xs.length) (fun k => xs.length - k) [4, 5, 14, 15] [] (0) ?_
  conv => whnf
  refine ⟨⟨?inv1_, ?vals1_, ?own1_, ?fix1_⟩, ?body1_⟩
  case' vals1_ => (repeat' (first | with_reducible exact True.intro | with_reducible refine And.intro ?_ ?_ | with_reducible refine Head.mk ?_ ?_ ?_ ?_ | ((conv => lhs; whnf); first | with_reducible rfl | with_reducible exact vInt_s (by omega) | exact rfl) | ((conv => whnf); first | with_reducible exact True.intro | with_reducible refine And.intro ?_ ?_))) <;> (try (conv => lhs; whnf))
  case' own1_ => (repeat' (first | with_reducible exact True.intro | with_reducible refine And.intro ?_ ?_ | with_reducible refine Head.mk ?_ ?_ ?_ ?_ | ((conv => lhs; whnf); first | with_reducible rfl | with_reducible exact vInt_s (by omega) | exact rfl) | ((conv => whnf); first | with_reducible exact True.intro | with_reducible refine And.intro ?_ ?_))) <;> (try (conv => lhs; whnf))
  case' fix1_ => (repeat' (first | with_reducible exact True.intro | with_reducible refine And.intro ?_ ?_ | with_reducible refine Head.mk ?_ ?_ ?_ ?_ | ((conv => lhs; whnf); first | with_reducible rfl | with_reducible exact vInt_s (by omega) | exact rfl) | ((conv => whnf); first | with_reducible exact True.intro | with_reducible refine And.intro ?_ ?_))) <;> (try (conv => lhs; whnf))
  · exact Nat.zero_le _
  rintro k g_ o_ v_ hk
  have hl := filter_len_le (f := amid (ax, ay) (bx, b_y)) h1 k
  (repeat' (first | with_reducible exact True.intro | with_reducible refine st_seq ?_ | (with_reducible refine st_regionG hG_ ?_; intro K_ hK_) | (with_reducible refine st_region ?_; intro K_ hK_) | (with_reducible refine hK_ _ _ ?_; try clear hK_ K_) | ((with_reducible refine st_cond (b := ?b_) ?hb_ ?_ ?_); case hb_ => rfl) | with_reducible refine sq_n ?_ | with_reducible refine sq_r ?_ | with_reducible refine sq_e ?_ | with_reducible refine bq_n ?_ | with_reducible refine bq_r ?_ | with_reducible refine bq_q ?_ | with_reducible refine st_block ?_ | with_reducible refine st_exit ?_ | with_reducible refine st_ret ?_ | with_reducible refine st_skip ?_ | with_reducible refine gq_n ?_ | with_reducible refine gq_r ?_ | with_reducible refine gq_e ?_ | with_reducible refine lq_n ?_ | with_reducible refine lq_r ?_ | with_reducible refine lq_e ?_ | with_reducible refine bq_e (by decide) ?_ | ((conv => whnf); first | (with_reducible refine hK_ _ _ ?_; try clear hK_ K_) | (with_reducible refine fun (g_ : Sl) (o_ : Ow) => ?_) | with_reducible exact True.intro | with_reducible refine And.intro trivial ?_ | with_reducible refine And.intro ?_ ?_ | exact Nat.le_of_ble_eq_true rfl | exact Or.inl rfl | (intro h_; cases h_) | (intro h_; (try simp only [cond_true, cond_false, decide_eq_true_eq, decide_eq_false_iff_not, Bool.not_eq_true', Bool.not_eq_false', Int.toNat_natCast, prodEta] at h_)) | rfl))) <;> (try (conv => whnf)) <;> (try first | change (_ : Int) ≤ _ | change (_ : Nat) ≤ _) <;> (try ((fail_if_success (with_reducible apply Exists.intro)); (try dsimp only); (try simp only [cond_true, cond_false, decide_eq_true_eq, decide_eq_false_iff_not, Bool.not_eq_true', Bool.not_eq_false', Int.toNat_natCast, prodEta]))) <;> (try simp (disch := omega) only [ptEq2, cond_true, cond_false, decide_eq_true_eq, decide_eq_false_iff_not, List.length_drop, List.take_length, Int.toNat_zero, List.drop_zero, Nat.zero_add, List.nil_append, mod_nat1, mod_nat2, tm1, tm2, tmj, W_in, List.length_append, List.length_take, List.length_replicate, List.length_set, List.length_map, List.length_cons, List.length_nil, prodEta, Int.toNat_natCast, beq_iff_eq, beq_eq_false_iff_ne, bne_iff_ne, bne_eq_false_iff_eq, ne_eq, Int.natCast_inj, Int.ofNat_lt, Int.ofNat_le] at *)
  all_goals (try (fail_if_success (with_reducible apply Exists.intro)); first | with_reducible assumption | omega | exact mdl (by omega) | exact ilo1 (by omega) | exact ilo2 (by omega) | exact ihi1 (by omega) (by omega) | exact ihi2 (by omega) (by omega))
  · refine ⟨k + 1, by omega, by omega, ?_⟩
    (repeat' (first | with_reducible exact True.intro | with_reducible refine And.intro ?_ ?_ | with_reducible refine Head.mk ?_ ?_ ?_ ?_ | ((conv => lhs; whnf); first | with_reducible rfl | with_reducible exact vInt_s (by omega) | exact rfl) | ((conv => whnf); first | with_reducible exact True.intro | with_reducible refine And.intro ?_ ?_))) <;> (try (conv => lhs; whnf))
    refine congrArg (Own.row _ _) ?_
    rw [filter_take_succ _ (0, 0) ‹k < xs.length›, if_pos (amid_yes ‹_› ‹_› ‹_›), List.append_assoc]
  · refine ⟨k + 1, by omega, by omega, ?_⟩
    (repeat' (first | with_reducible exact True.intro | with_reducible refine And.intro ?_ ?_ | with_reducible refine Head.mk ?_ ?_ ?_ ?_ | ((conv => lhs; whnf); first | with_reducible rfl | with_reducible exact vInt_s (by omega) | exact rfl) | ((conv => whnf); first | with_reducible exact True.intro | with_reducible refine And.intro ?_ ?_))) <;> (try (conv => lhs; whnf))
    refine congrArg (Own.row _ _) ?_
    rw [filter_take_succ _ (0, 0) ‹k < xs.length›, if_neg (by unfold amid; simp_all), List.append_nil]
  · refine ⟨k + 1, by omega, by omega, ?_⟩
    (repeat' (first | with_reducible exact True.intro | with_reducible refine And.intro ?_ ?_ | with_reducible refine Head.mk ?_ ?_ ?_ ?_ | ((conv => lhs; whnf); first | with_reducible rfl | with_reducible exact vInt_s (by omega) | exact rfl) | ((conv => whnf); first | with_reducible exact True.intro | with_reducible refine And.intro ?_ ?_))) <;> (try (conv => lhs; whnf))
    refine congrArg (Own.row _ _) ?_
    rw [filter_take_succ _ (0, 0) ‹k < xs.length›, if_neg (by unfold amid; simp_all), List.append_nil]
  · refine ⟨k + 1, by omega, by omega, ?_⟩
    (repeat' (first | with_reducible exact True.intro | with_reducible refine And.intro ?_ ?_ | with_reducible refine Head.mk ?_ ?_ ?_ ?_ | ((conv => lhs; whnf); first | with_reducible rfl | with_reducible exact vInt_s (by omega) | exact rfl) | ((conv => whnf); first | with_reducible exact True.intro | with_reducible refine And.intro ?_ ?_))) <;> (try (conv => lhs; whnf))
    refine congrArg (Own.row _ _) ?_
    rw [filter_take_succ _ (0, 0) ‹k < xs.length›, if_neg (by unfold amid; simp_all), List.append_nil]
  · exact ⟨(ax, ay), rfl⟩
  · rw [List.take_of_length_le (by omega)]; rfl
theorem map_take_succ' {α β : Type} (f : α → β) {xs : List α} {k : Nat} (d : α) (h : k < xs.length) : (xs.take (k + 1)).map f = (xs.take k).map f ++ [f (xs.getD k d)] := by
  rw [List.take_succ_eq_append_getElem h, List.map_append, getD_lt _ h]; rfl
def twiceC : Con := mkCon [.pt] (fun _ => True) fun x => .val (.agg (cPt (twP x.1)))
theorem twice_ok : Good1 Try.prog n_impl_twice twiceC := by
  refine good_ofG (tys := tyL) (env := []) (envw := []) (envd := []) [] [] [] [] [] mixed tys trivial trivial trivial Try.func147 rfl (by kernel_rfl) (by decide) (by kernel_rfl) ?_
  have hG_ := kpz [(0, [1, 2]), (1, [2])] [(0, [2]), (1, [2])] [] []
  rintro ⟨⟨(p : Int), (q : Int)⟩, ⟨⟩⟩ _
  (repeat' (first | with_reducible exact True.intro | with_reducible refine st_seq ?_ | (with_reducible refine st_regionG hG_ ?_; intro K_ hK_) | (with_reducible refine st_region ?_; intro K_ hK_) | (with_reducible refine hK_ _ _ ?_; try clear hK_ K_) | ((with_reducible refine st_cond (b := ?b_) ?hb_ ?_ ?_); case hb_ => rfl) | with_reducible refine sq_n ?_ | with_reducible refine sq_r ?_ | with_reducible refine sq_e ?_ | with_reducible refine bq_n ?_ | with_reducible refine bq_r ?_ | with_reducible refine bq_q ?_ | with_reducible refine st_block ?_ | with_reducible refine st_exit ?_ | with_reducible refine st_ret ?_ | with_reducible refine st_skip ?_ | with_reducible refine gq_n ?_ | with_reducible refine gq_r ?_ | with_reducible refine gq_e ?_ | with_reducible refine lq_n ?_ | with_reducible refine lq_r ?_ | with_reducible refine lq_e ?_ | with_reducible refine bq_e (by decide) ?_ | ((conv => whnf); first | (with_reducible refine hK_ _ _ ?_; try clear hK_ K_) | (with_reducible refine fun (g_ : Sl) (o_ : Ow) => ?_) | with_reducible exact True.intro | with_reducible refine And.intro trivial ?_ | with_reducible refine And.intro ?_ ?_ | exact Nat.le_of_ble_eq_true rfl | exact Or.inl rfl | (intro h_; cases h_) | (intro h_; (try simp only [cond_true, cond_false, decide_eq_true_eq, decide_eq_false_iff_not, Bool.not_eq_true', Bool.not_eq_false', Int.toNat_natCast, prodEta] at h_)) | rfl))) <;> (try (conv => whnf)) <;> (try first | change (_ : Int) ≤ _ | change (_ : Nat) ≤ _)
def middleC : Con := mkCon [.room, .pt, .pt] (fun x => x.1.length ≤ 10) fun x => vI (midM x.1 x.2.1 x.2.2.1)
theorem middle_ok : Good1 Try.prog n_impl_middle middleC := by
  refine good_ofG (tys := tyL) (env := [(n_impl_twice, twiceC), (n_impl_place, placeC)]) (envw := []) (envd := []) [10] [] [] [] [] mixed tys ⟨twice_ok, place_ok, trivial⟩ trivial trivial Try.func123 rfl (by kernel_rfl) (by decide) (by kernel_rfl) ?_
  have hG_ := kpz [(0, [3, 4, 5]), (1, [3, 4, 5, 7]), (2, [4, 5, 7, 12, 13, 14]), (3, [4, 5, 7, 12, 13, 14, 15]), (4, [4, 5, 7, 9, 12, 13, 14]), (5, [4, 5, 7, 12, 13, 14]), (6, [4, 5, 7, 12, 13, 14]), (7, [6])] [(1, [10]), (2, [10]), (3, [10]), (4, [9, 10]), (5, [10]), (6, [10]), (7, [10])] [] []
  rintro ⟨(xs : List Pt), ⟨(ax : Int), (ay : Int)⟩, ⟨(bx : Int), (b_y : Int)⟩, ⟨⟩⟩ (h1 : xs.length ≤ _)
  (repeat' (first | with_reducible exact True.intro | with_reducible refine st_seq ?_ | (with_reducible refine st_regionG hG_ ?_; intro K_ hK_) | (with_reducible refine st_region ?_; intro K_ hK_) | (with_reducible refine hK_ _ _ ?_; try clear hK_ K_) | ((with_reducible refine st_cond (b := ?b_) ?hb_ ?_ ?_); case hb_ => rfl) | with_reducible refine sq_n ?_ | with_reducible refine sq_r ?_ | with_reducible refine sq_e ?_ | with_reducible refine bq_n ?_ | with_reducible refine bq_r ?_ | with_reducible refine bq_q ?_ | with_reducible refine st_block ?_ | with_reducible refine st_exit ?_ | with_reducible refine st_ret ?_ | with_reducible refine st_skip ?_ | with_reducible refine gq_n ?_ | with_reducible refine gq_r ?_ | with_reducible refine gq_e ?_ | with_reducible refine lq_n ?_ | with_reducible refine lq_r ?_ | with_reducible refine lq_e ?_ | with_reducible refine bq_e (by decide) ?_ | ((conv => whnf); first | (with_reducible refine hK_ _ _ ?_; try clear hK_ K_) | (with_reducible refine fun (g_ : Sl) (o_ : Ow) => ?_) | with_reducible exact True.intro | with_reducible refine And.intro trivial ?_ | with_reducible refine And.intro ?_ ?_ | exact Nat.le_of_ble_eq_true rfl | exact Or.inl rfl | (intro h_; cases h_) | (intro h_; (try simp only [cond_true, cond_false, decide_eq_true_eq, decide_eq_false_iff_not, Bool.not_eq_true', Bool.not_eq_false', Int.toNat_natCast, prodEta] at h_)) | rfl))) <;> (try (conv => whnf)) <;> (try first | change (_ : Int) ≤ _ | change (_ : Nat) ≤ _) <;> (try ((fail_if_success (with_reducible apply Exists.intro)); (try dsimp only); (try simp only [cond_true, cond_false, decide_eq_true_eq, decide_eq_false_iff_not, Bool.not_eq_true', Bool.not_eq_false', Int.toNat_natCast, prodEta]))) <;> (try simp (disch := omega) only [ptEq2, cond_true, cond_false, decide_eq_true_eq, decide_eq_false_iff_not, List.length_drop, List.take_length, Int.toNat_zero, List.drop_zero, Nat.zero_add, List.nil_append, mod_nat1, mod_nat2, tm1, tm2, tmj, W_in, List.length_append, List.length_take, List.length_replicate, List.length_set, List.length_map, List.length_cons, List.length_nil, prodEta, Int.toNat_natCast, beq_iff_eq, beq_eq_false_iff_ne, bne_iff_ne, bne_eq_false_iff_eq, ne_eq, Int.natCast_inj, Int.ofNat_lt, Int.ofNat_le] at *)
  all_goals (try (fail_if_success (with_reducible apply Exists.intro)); first | with_reducible assumption | omega | exact mdl (by omega) | exact ilo1 (by omega) | exact ilo2 (by omega) | exact ihi1 (by omega) (by omega) | exact ihi2 (by omega) (by omega))
  refine awp'_loopG (α := Nat) (fun k ver_ => [(14, vInt k)]) (fun k ver_ => [(7, 10, false, .row t_impl_Point (.b .pt) ((xs.take k).map twP))]) (fun k ver_ => []) (fun k => k ≤ xs.length) (fun k => xs.length - k) [4, 5, 12, 13] [] (0) ?_
  conv => whnf
  refine ⟨⟨?inv2_, ?vals2_, ?own2_, ?fix2_⟩, ?body2_⟩
  case' vals2_ => (repeat' (first | with_reducible exact True.intro | with_reducible refine And.intro ?_ ?_ | with_reducible refine Head.mk ?_ ?_ ?_ ?_ | ((conv => lhs; whnf); first | with_reducible rfl | with_reducible exact vInt_s (by omega) | exact rfl) | ((conv => whnf); first | with_reducible exact True.intro | with_reducible refine And.intro ?_ ?_))) <;> (try (conv => lhs; whnf))
  case' own2_ => (repeat' (first | with_reducible exact True.intro | with_reducible refine And.intro ?_ ?_ | with_reducible refine Head.mk ?_ ?_ ?_ ?_ | ((conv => lhs; whnf); first | with_reducible rfl | with_reducible exact vInt_s (by omega) | exact rfl) | ((conv => whnf); first | with_reducible exact True.intro | with_reducible refine And.intro ?_ ?_))) <;> (try (conv => lhs; whnf))
  case' fix2_ => (repeat' (first | with_reducible exact True.intro | with_reducible refine And.intro ?_ ?_ | with_reducible refine Head.mk ?_ ?_ ?_ ?_ | ((conv => lhs; whnf); first | with_reducible rfl | with_reducible exact vInt_s (by omega) | exact rfl) | ((conv => whnf); first | with_reducible exact True.intro | with_reducible refine And.intro ?_ ?_))) <;> (try (conv => lhs; whnf))
  · exact Nat.zero_le _
  rintro k g_ o_ v_ hk
  (repeat' (first | with_reducible exact True.intro | with_reducible refine st_seq ?_ | (with_reducible refine st_regionG hG_ ?_; intro K_ hK_) | (with_reducible refine st_region ?_; intro K_ hK_) | (with_reducible refine hK_ _ _ ?_; try clear hK_ K_) | ((with_reducible refine st_cond (b := ?b_) ?hb_ ?_ ?_); case hb_ => rfl) | with_reducible refine sq_n ?_ | with_reducible refine sq_r ?_ | with_reducible refine sq_e ?_ | with_reducible refine bq_n ?_ | with_reducible refine bq_r ?_ | with_reducible refine bq_q ?_ | with_reducible refine st_block ?_ | with_reducible refine st_exit ?_ | with_reducible refine st_ret ?_ | with_reducible refine st_skip ?_ | with_reducible refine gq_n ?_ | with_reducible refine gq_r ?_ | with_reducible refine gq_e ?_ | with_reducible refine lq_n ?_ | with_reducible refine lq_r ?_ | with_reducible refine lq_e ?_ | with_reducible refine bq_e (by decide) ?_ | ((conv => whnf); first | (with_reducible refine hK_ _ _ ?_; try clear hK_ K_) | (with_reducible refine fun (g_ : Sl) (o_ : Ow) => ?_) | with_reducible exact True.intro | with_reducible refine And.intro trivial ?_ | with_reducible refine And.intro ?_ ?_ | exact Nat.le_of_ble_eq_true rfl | exact Or.inl rfl | (intro h_; cases h_) | (intro h_; (try simp only [cond_true, cond_false, decide_eq_true_eq, decide_eq_false_iff_not, Bool.not_eq_true', Bool.not_eq_false', Int.toNat_natCast, prodEta] at h_)) | rfl))) <;> (try (conv => whnf)) <;> (try first | change (_ : Int) ≤ _ | change (_ : Nat) ≤ _) <;> (try ((fail_if_success (with_reducible apply Exists.intro)); (try dsimp only); (try simp only [cond_true, cond_false, decide_eq_true_eq, decide_eq_false_iff_not, Bool.not_eq_true', Bool.not_eq_false', Int.toNat_natCast, prodEta]))) <;> (try simp (disch := omega) only [ptEq2, cond_true, cond_false, decide_eq_true_eq, decide_eq_false_iff_not, List.length_drop, List.take_length, Int.toNat_zero, List.drop_zero, Nat.zero_add, List.nil_append, mod_nat1, mod_nat2, tm1, tm2, tmj, W_in, List.length_append, List.length_take, List.length_replicate, List.length_set, List.length_map, List.length_cons, List.length_nil, prodEta, Int.toNat_natCast, beq_iff_eq, beq_eq_false_iff_ne, bne_iff_ne, bne_eq_false_iff_eq, ne_eq, Int.natCast_inj, Int.ofNat_lt, Int.ofNat_le] at *)
  all_goals (try (fail_if_success (with_reducible apply Exists.intro)); first | with_reducible assumption | omega | exact mdl (by omega) | exact ilo1 (by omega) | exact ilo2 (by omega) | exact ihi1 (by omega) (by omega) | exact ihi2 (by omega) (by omega))
  · refine ⟨k + 1, by omega, by omega, ?_⟩
    (repeat' (first | with_reducible exact True.intro | with_reducible refine And.intro ?_ ?_ | with_reducible refine Head.mk ?_ ?_ ?_ ?_ | ((conv => lhs; whnf); first | with_reducible rfl | with_reducible exact vInt_s (by omega) | exact rfl) | ((conv => whnf); first | with_reducible exact True.intro | with_reducible refine And.intro ?_ ?_))) <;> (try (conv => lhs; whnf))
    exact congrArg (Own.row _ _) (map_take_succ' twP (0, 0) h_).symm
  · rw [List.take_of_length_le (by omega)]; rfl
def seesI (xs : List Pt) (a b : Pt) : Bool := (List.range xs.length).all (fun k => !crs a b (wl xs k).1 (wl xs k).2) && (List.range ((cornersB xs a b).length - 1)).all fun k => midM xs (pAt (cornersB xs a b) k) (pAt (cornersB xs a b) (k + 1)) != 0
def seesC : Con := mkCon [.room, .pt, .pt] (fun x => x.1.length ≤ 10) fun x => vB (seesI x.1 x.2.1 x.2.2.1)
theorem cornersB_len (xs : List Pt) (a b : Pt) : (cornersB xs a b).length = 2 + (xs.filter (amid a b)).length := by unfold cornersB; rw [distSort_len]; simp; omega
theorem seesI_no1 {xs : List Pt} {a b : Pt} {k : Nat} (hk : k < xs.length) (h : crs a b (wl xs k).1 (wl xs k).2 = true) : seesI xs a b = false := by
  unfold seesI
  rw [show (List.range xs.length).all (fun k => !crs a b (wl xs k).1 (wl xs k).2) = false from List.all_eq_false.2 ⟨k, List.mem_range.2 hk, by rw [h]; decide⟩]
  rfl
theorem seesI_no2 {xs : List Pt} {a b : Pt} {k : Nat} (hk : k + 1 < (cornersB xs a b).length) (h : midM xs (pAt (cornersB xs a b) k) (pAt (cornersB xs a b) (k + 1)) = 0) : seesI xs a b = false := by
  unfold seesI
  rw [show ((List.range ((cornersB xs a b).length - 1)).all fun k => midM xs (pAt (cornersB xs a b) k) (pAt (cornersB xs a b) (k + 1)) != 0) = false from List.all_eq_false.2 ⟨k, List.mem_range.2 (by omega), by rw [h]; decide⟩]
  exact Bool.and_false _
theorem seesI_yes {xs : List Pt} {a b : Pt} (h1 : ∀ k, k < xs.length → crs a b (wl xs k).1 (wl xs k).2 = false) (h2 : ∀ k, k + 1 < (cornersB xs a b).length → midM xs (pAt (cornersB xs a b) k) (pAt (cornersB xs a b) (k + 1)) ≠ 0) : seesI xs a b = true := by
  unfold seesI
  rw [Bool.and_eq_true, List.all_eq_true, List.all_eq_true]
  exact ⟨fun k hk => by rw [h1 k (List.mem_range.1 hk)]; rfl, fun k hk => by simpa using h2 k (by have := List.mem_range.1 hk; omega)⟩
theorem sees_ok : Good1 Try.prog n_impl_sees seesC := by
  refine good_ofG (tys := tyL) (env := [(n_impl_wallsOf, wallsOfC), (n_impl_crosses, crossesC), (n_impl_cornersBetween, cornersBC), (n_impl_middle, middleC)]) (envw := []) (envd := []) [] [] [] [] [] mixed tys ⟨wallsOf_ok, crosses_ok, cornersBetween_ok, middle_ok, trivial⟩ trivial trivial Try.func92 rfl (by kernel_rfl) (by decide) (by kernel_rfl) ?_
  have hG_ := kpz [(0, [3, 4, 5]), (1, [3, 4, 5, 13, 14, 15]), (2, [3, 4, 5, 13, 14, 15, 16]), (3, [3, 4, 5, 8, 13, 14, 15]), (4, [3, 4, 5, 13, 14, 15, 23]), (5, [6]), (6, [3, 4, 5, 13, 14, 15]), (7, [3, 9]), (8, [3, 9, 10]), (9, [3, 9, 10, 32]), (10, [3, 9, 10]), (11, [3, 9, 10, 46]), (12, [6]), (13, [6])] [(3, [8])] [] []
  rintro ⟨(xs : List Pt), ⟨(ax : Int), (ay : Int)⟩, ⟨(bx : Int), (b_y : Int)⟩, ⟨⟩⟩ (h1 : xs.length ≤ _)
  have hw := walls_len xs
  have hc := cornersB_len xs (ax, ay) (bx, b_y)
  have hfl := filter_len_le (f := amid (ax, ay) (bx, b_y)) h1 xs.length
  rw [List.take_of_length_le (Nat.le_refl _)] at hfl
  (repeat' (first | with_reducible exact True.intro | with_reducible refine st_seq ?_ | (with_reducible refine st_regionG hG_ ?_; intro K_ hK_) | (with_reducible refine st_region ?_; intro K_ hK_) | (with_reducible refine hK_ _ _ ?_; try clear hK_ K_) | ((with_reducible refine st_cond (b := ?b_) ?hb_ ?_ ?_); case hb_ => rfl) | with_reducible refine sq_n ?_ | with_reducible refine sq_r ?_ | with_reducible refine sq_e ?_ | with_reducible refine bq_n ?_ | with_reducible refine bq_r ?_ | with_reducible refine bq_q ?_ | with_reducible refine st_block ?_ | with_reducible refine st_exit ?_ | with_reducible refine st_ret ?_ | with_reducible refine st_skip ?_ | with_reducible refine gq_n ?_ | with_reducible refine gq_r ?_ | with_reducible refine gq_e ?_ | with_reducible refine lq_n ?_ | with_reducible refine lq_r ?_ | with_reducible refine lq_e ?_ | with_reducible refine bq_e (by decide) ?_ | ((conv => whnf); first | (with_reducible refine hK_ _ _ ?_; try clear hK_ K_) | (with_reducible refine fun (g_ : Sl) (o_ : Ow) => ?_) | with_reducible exact True.intro | with_reducible refine And.intro trivial ?_ | with_reducible refine And.intro ?_ ?_ | exact Nat.le_of_ble_eq_true rfl | exact Or.inl rfl | (intro h_; cases h_) | (intro h_; (try simp only [cond_true, cond_false, decide_eq_true_eq, decide_eq_false_iff_not, Bool.not_eq_true', Bool.not_eq_false', Int.toNat_natCast, prodEta] at h_)) | rfl))) <;> (try (conv => whnf)) <;> (try first | change (_ : Int) ≤ _ | change (_ : Nat) ≤ _) <;> (try ((fail_if_success (with_reducible apply Exists.intro)); (try dsimp only); (try simp only [cond_true, cond_false, decide_eq_true_eq, decide_eq_false_iff_not, Bool.not_eq_true', Bool.not_eq_false', Int.toNat_natCast, prodEta]))) <;> (try simp (disch := omega) only [ptEq2, cond_true, cond_false, decide_eq_true_eq, decide_eq_false_iff_not, List.length_drop, List.take_length, Int.toNat_zero, List.drop_zero, Nat.zero_add, List.nil_append, mod_nat1, mod_nat2, tm1, tm2, tmj, W_in, List.length_append, List.length_take, List.length_replicate, List.length_set, List.length_map, List.length_cons, List.length_nil, prodEta, Int.toNat_natCast, beq_iff_eq, beq_eq_false_iff_ne, bne_iff_ne, bne_eq_false_iff_eq, ne_eq, Int.natCast_inj, Int.ofNat_lt, Int.ofNat_le] at *)
  all_goals (try (fail_if_success (with_reducible apply Exists.intro)); first | with_reducible assumption | omega | exact mdl (by omega) | exact ilo1 (by omega) | exact ilo2 (by omega) | exact ihi1 (by omega) (by omega) | exact ihi2 (by omega) (by omega))
  refine awp'_loopG (α := Nat) (fun k ver_ => [(15, vInt k)]) (fun k ver_ => []) (fun k ver_ => []) (fun k => k ≤ xs.length ∧ ∀ j, j < k → crs (ax, ay) (bx, b_y) (wl xs j).1 (wl xs j).2 = false) (fun k => xs.length - k) [3, 4, 5, 13, 14] [] (0) ?_
  conv => whnf
  refine ⟨⟨?inv3_, ?vals3_, ?own3_, ?fix3_⟩, ?body3_⟩
  case' vals3_ => (repeat' (first | with_reducible exact True.intro | with_reducible refine And.intro ?_ ?_ | with_reducible refine Head.mk ?_ ?_ ?_ ?_ | ((conv => lhs; whnf); first | with_reducible rfl | with_reducible exact vInt_s (by omega) | exact rfl) | ((conv => whnf); first | with_reducible exact True.intro | with_reducible refine And.intro ?_ ?_))) <;> (try (conv => lhs; whnf))
  case' own3_ => (repeat' (first | with_reducible exact True.intro | with_reducible refine And.intro ?_ ?_ | with_reducible refine Head.mk ?_ ?_ ?_ ?_ | ((conv => lhs; whnf); first | with_reducible rfl | with_reducible exact vInt_s (by omega) | exact rfl) | ((conv => whnf); first | with_reducible exact True.intro | with_reducible refine And.intro ?_ ?_))) <;> (try (conv => lhs; whnf))
  case' fix3_ => (repeat' (first | with_reducible exact True.intro | with_reducible refine And.intro ?_ ?_ | with_reducible refine Head.mk ?_ ?_ ?_ ?_ | ((conv => lhs; whnf); first | with_reducible rfl | with_reducible exact vInt_s (by omega) | exact rfl) | ((conv => whnf); first | with_reducible exact True.intro | with_reducible refine And.intro ?_ ?_))) <;> (try (conv => lhs; whnf))
  · exact ⟨Nat.zero_le _, fun j hj => absurd hj (by omega)⟩
  rintro k g_ o_ v_ ⟨hk, hall⟩
  (repeat' (first | with_reducible exact True.intro | with_reducible refine st_seq ?_ | (with_reducible refine st_regionG hG_ ?_; intro K_ hK_) | (with_reducible refine st_region ?_; intro K_ hK_) | (with_reducible refine hK_ _ _ ?_; try clear hK_ K_) | ((with_reducible refine st_cond (b := ?b_) ?hb_ ?_ ?_); case hb_ => rfl) | with_reducible refine sq_n ?_ | with_reducible refine sq_r ?_ | with_reducible refine sq_e ?_ | with_reducible refine bq_n ?_ | with_reducible refine bq_r ?_ | with_reducible refine bq_q ?_ | with_reducible refine st_block ?_ | with_reducible refine st_exit ?_ | with_reducible refine st_ret ?_ | with_reducible refine st_skip ?_ | with_reducible refine gq_n ?_ | with_reducible refine gq_r ?_ | with_reducible refine gq_e ?_ | with_reducible refine lq_n ?_ | with_reducible refine lq_r ?_ | with_reducible refine lq_e ?_ | with_reducible refine bq_e (by decide) ?_ | ((conv => whnf); first | (with_reducible refine hK_ _ _ ?_; try clear hK_ K_) | (with_reducible refine fun (g_ : Sl) (o_ : Ow) => ?_) | with_reducible exact True.intro | with_reducible refine And.intro trivial ?_ | with_reducible refine And.intro ?_ ?_ | exact Nat.le_of_ble_eq_true rfl | exact Or.inl rfl | (intro h_; cases h_) | (intro h_; (try simp only [cond_true, cond_false, decide_eq_true_eq, decide_eq_false_iff_not, Bool.not_eq_true', Bool.not_eq_false', Int.toNat_natCast, prodEta] at h_)) | rfl))) <;> (try (conv => whnf)) <;> (try first | change (_ : Int) ≤ _ | change (_ : Nat) ≤ _) <;> (try ((fail_if_success (with_reducible apply Exists.intro)); (try dsimp only); (try simp only [cond_true, cond_false, decide_eq_true_eq, decide_eq_false_iff_not, Bool.not_eq_true', Bool.not_eq_false', Int.toNat_natCast, prodEta]))) <;> (try simp (disch := omega) only [ptEq2, cond_true, cond_false, decide_eq_true_eq, decide_eq_false_iff_not, List.length_drop, List.take_length, Int.toNat_zero, List.drop_zero, Nat.zero_add, List.nil_append, mod_nat1, mod_nat2, tm1, tm2, tmj, W_in, List.length_append, List.length_take, List.length_replicate, List.length_set, List.length_map, List.length_cons, List.length_nil, prodEta, Int.toNat_natCast, beq_iff_eq, beq_eq_false_iff_ne, bne_iff_ne, bne_eq_false_iff_eq, ne_eq, Int.natCast_inj, Int.ofNat_lt, Int.ofNat_le] at *)
  all_goals (try (fail_if_success (with_reducible apply Exists.intro)); first | with_reducible assumption | omega | exact mdl (by omega) | exact ilo1 (by omega) | exact ilo2 (by omega) | exact ihi1 (by omega) (by omega) | exact ihi2 (by omega) (by omega))
  · rw [walls_get (by omega)] at *
    exact (seesI_no1 (k := k) (by omega) (by assumption)).symm
  · rw [walls_get (by omega)] at *
    refine ⟨k + 1, by omega, ⟨by omega, fun j hj => ?_⟩, by (repeat' (first | with_reducible exact True.intro | with_reducible refine And.intro ?_ ?_ | with_reducible refine Head.mk ?_ ?_ ?_ ?_ | ((conv => lhs; whnf); first | with_reducible rfl | with_reducible exact vInt_s (by omega) | exact rfl) | ((conv => whnf); first | with_reducible exact True.intro | with_reducible refine And.intro ?_ ?_))) <;> (try (conv => lhs; whnf))⟩
    rcases Nat.lt_or_ge j k with h5 | h5
    · exact hall j h5
    · rw [show j = k by omega]; assumption
  have hall2 : ∀ j, j < xs.length → crs (ax, ay) (bx, b_y) (wl xs j).1 (wl xs j).2 = false := fun j hj => hall j (by omega)
  refine awp'_loopG (α := Nat) (fun i ver_ => [(10, vInt (i + 1))]) (fun i ver_ => []) (fun i ver_ => []) (fun i => i + 1 ≤ (cornersB xs (ax, ay) (bx, b_y)).length ∧ ∀ j, j < i → midM xs (pAt (cornersB xs (ax, ay) (bx, b_y)) j) (pAt (cornersB xs (ax, ay) (bx, b_y)) (j + 1)) ≠ 0) (fun i => 20 - i) [3, 9] [] (0) ?_
  conv => whnf
  refine ⟨⟨?inv4_, ?vals4_, ?own4_, ?fix4_⟩, ?body4_⟩
  case' vals4_ => (repeat' (first | with_reducible exact True.intro | with_reducible refine And.intro ?_ ?_ | with_reducible refine Head.mk ?_ ?_ ?_ ?_ | ((conv => lhs; whnf); first | with_reducible rfl | with_reducible exact vInt_s (by omega) | exact rfl) | ((conv => whnf); first | with_reducible exact True.intro | with_reducible refine And.intro ?_ ?_))) <;> (try (conv => lhs; whnf))
  case' own4_ => (repeat' (first | with_reducible exact True.intro | with_reducible refine And.intro ?_ ?_ | with_reducible refine Head.mk ?_ ?_ ?_ ?_ | ((conv => lhs; whnf); first | with_reducible rfl | with_reducible exact vInt_s (by omega) | exact rfl) | ((conv => whnf); first | with_reducible exact True.intro | with_reducible refine And.intro ?_ ?_))) <;> (try (conv => lhs; whnf))
  case' fix4_ => (repeat' (first | with_reducible exact True.intro | with_reducible refine And.intro ?_ ?_ | with_reducible refine Head.mk ?_ ?_ ?_ ?_ | ((conv => lhs; whnf); first | with_reducible rfl | with_reducible exact vInt_s (by omega) | exact rfl) | ((conv => whnf); first | with_reducible exact True.intro | with_reducible refine And.intro ?_ ?_))) <;> (try (conv => lhs; whnf))
  · exact ⟨by omega, fun j hj => absurd hj (by omega)⟩
  rintro i g_ o_ v_ ⟨hi, hmid⟩
  (repeat' (first | with_reducible exact True.intro | with_reducible refine st_seq ?_ | (with_reducible refine st_regionG hG_ ?_; intro K_ hK_) | (with_reducible refine st_region ?_; intro K_ hK_) | (with_reducible refine hK_ _ _ ?_; try clear hK_ K_) | ((with_reducible refine st_cond (b := ?b_) ?hb_ ?_ ?_); case hb_ => rfl) | with_reducible refine sq_n ?_ | with_reducible refine sq_r ?_ | with_reducible refine sq_e ?_ | with_reducible refine bq_n ?_ | with_reducible refine bq_r ?_ | with_reducible refine bq_q ?_ | with_reducible refine st_block ?_ | with_reducible refine st_exit ?_ | with_reducible refine st_ret ?_ | with_reducible refine st_skip ?_ | with_reducible refine gq_n ?_ | with_reducible refine gq_r ?_ | with_reducible refine gq_e ?_ | with_reducible refine lq_n ?_ | with_reducible refine lq_r ?_ | with_reducible refine lq_e ?_ | with_reducible refine bq_e (by decide) ?_ | ((conv => whnf); first | (with_reducible refine hK_ _ _ ?_; try clear hK_ K_) | (with_reducible refine fun (g_ : Sl) (o_ : Ow) => ?_) | with_reducible exact True.intro | with_reducible refine And.intro trivial ?_ | with_reducible refine And.intro ?_ ?_ | exact Nat.le_of_ble_eq_true rfl | exact Or.inl rfl | (intro h_; cases h_) | (intro h_; (try simp only [cond_true, cond_false, decide_eq_true_eq, decide_eq_false_iff_not, Bool.not_eq_true', Bool.not_eq_false', Int.toNat_natCast, prodEta] at h_)) | rfl))) <;> (try (conv => whnf)) <;> (try first | change (_ : Int) ≤ _ | change (_ : Nat) ≤ _) <;> (try ((fail_if_success (with_reducible apply Exists.intro)); (try dsimp only); (try simp only [cond_true, cond_false, decide_eq_true_eq, decide_eq_false_iff_not, Bool.not_eq_true', Bool.not_eq_false', Int.toNat_natCast, prodEta]))) <;> (try simp (disch := omega) only [ptEq2, cond_true, cond_false, decide_eq_true_eq, decide_eq_false_iff_not, List.length_drop, List.take_length, Int.toNat_zero, List.drop_zero, Nat.zero_add, List.nil_append, mod_nat1, mod_nat2, tm1, tm2, tmj, W_in, List.length_append, List.length_take, List.length_replicate, List.length_set, List.length_map, List.length_cons, List.length_nil, prodEta, Int.toNat_natCast, beq_iff_eq, beq_eq_false_iff_ne, bne_iff_ne, bne_eq_false_iff_eq, ne_eq, Int.natCast_inj, Int.ofNat_lt, Int.ofNat_le] at *)
  all_goals (try (fail_if_success (with_reducible apply Exists.intro)); first | with_reducible assumption | omega | exact mdl (by omega) | exact ilo1 (by omega) | exact ilo2 (by omega) | exact ihi1 (by omega) (by omega) | exact ihi2 (by omega) (by omega))
  · rw [show ((i : Int) + 1 - 1).toNat = i by omega, show ((i : Int) + 1).toNat = i + 1 by omega] at h_
    exact (seesI_no2 (by omega) h_).symm
  · rw [show ((i : Int) + 1 - 1).toNat = i by omega, show ((i : Int) + 1).toNat = i + 1 by omega] at h_
    refine ⟨i + 1, by omega, ⟨by omega, fun j hj => ?_⟩, by (repeat' (first | with_reducible exact True.intro | with_reducible refine And.intro ?_ ?_ | with_reducible refine Head.mk ?_ ?_ ?_ ?_ | ((conv => lhs; whnf); first | with_reducible rfl | with_reducible exact vInt_s (by omega) | exact rfl) | ((conv => whnf); first | with_reducible exact True.intro | with_reducible refine And.intro ?_ ?_))) <;> (try (conv => lhs; whnf))⟩
    rcases Nat.lt_or_ge j i with h5 | h5
    · exact hmid j h5
    · rw [show j = i by omega]; exact h_
  · exact (seesI_yes hall2 fun j hj => hmid j (by omega)).symm
end Go.Proofs.Ytnepfcnlngpchaa
namespace Go.Proofs.Ytnepfcnlngpchaa
open Go.Shelf Go.RowKit Go.Lib Go.Sort Go.Proofs.Ytnepfcnlngpchaa.Nm
set_option linter.unusedSimpArgs false
set_option linter.unusedVariables false
theorem bd_default : Bd (default : Pt) := by unfold Bd; decide
theorem getBang_bd {d : Array Pt} (h : ∀ p ∈ d.toList, Bd p) (i : Nat) : Bd d[i]! := by
  by_cases hi : i < d.size
  · rw [getElem!_pos d i hi]; exact h _ (Array.getElem_mem_toList hi)
  · rw [getElem!_neg d i hi]; exact bd_default
theorem swp_mem {d : Array Pt} (h : ∀ p ∈ d.toList, Bd p) {i j : Nat} (hi : i < d.size) (hj : j < d.size) : ∀ p ∈ (swp d i j).toList, Bd p := by
  intro p hp
  have hperm := swp_permIn d 0 d.size i j (Nat.zero_le _) hi (Nat.zero_le _) hj (Nat.le_refl _)
  have h3 := hperm.2.2
  have h1 := hperm.1
  rw [← h1, Array.extract_size, h1, Array.extract_size] at h3
  exact h p (h3.mem_iff.1 hp)
theorem insInner_congr {lt lt' : Pt → Pt → Bool} (hl : ∀ x y, Bd x → Bd y → lt x y = lt' x y) (a : Nat) : ∀ (j : Nat) (d : Array Pt), (∀ p ∈ d.toList, Bd p) → j < d.size → insInner lt a j d = insInner lt' a j d
  | 0, d, _, _ => rfl
  | j + 1, d, h, hj => by
    unfold insInner
    rw [hl _ _ (getBang_bd h _) (getBang_bd h _)]
    split
    · exact insInner_congr hl a j _ (swp_mem h hj (by omega)) (by rw [size_swp]; omega)
    · rfl
theorem insInner_bd {lt : Pt → Pt → Bool} (a : Nat) : ∀ (j : Nat) (d : Array Pt), (∀ p ∈ d.toList, Bd p) → j < d.size → ∀ p ∈ (insInner lt a j d).toList, Bd p
  | 0, d, h, _ => h
  | j + 1, d, h, hj => by
    unfold insInner
    split
    · exact insInner_bd a j _ (swp_mem h hj (by omega)) (by rw [size_swp]; omega)
    · exact h
theorem insOuter_congr {lt lt' : Pt → Pt → Bool} (hl : ∀ x y, Bd x → Bd y → lt x y = lt' x y) (a b : Nat) : ∀ (n i : Nat) (d : Array Pt), b - i ≤ n → b ≤ d.size → (∀ p ∈ d.toList, Bd p) → insOuter lt a b i d = insOuter lt' a b i d
  | 0, i, d, hn, hb, h => by unfold insOuter; rw [if_neg (by omega), if_neg (by omega)]
  | n + 1, i, d, hn, hb, h => by
    unfold insOuter
    split
    · rw [insInner_congr hl a i d h (by omega)]
      exact insOuter_congr hl a b n (i + 1) _ (by omega) (by rw [insInner_size]; exact hb) (insInner_bd a i d h (by omega))
    · rfl
theorem sq_bd {x : Int} (h1 : -2000 ≤ x) (h2 : x ≤ 2000) : 0 ≤ x * x ∧ x * x ≤ 4000000 := by
  have := mul_bd h1 h2 h1 h2
  refine ⟨?_, this.2⟩
  rcases Int.le_total 0 x with h | h
  · exact Int.mul_nonneg h h
  · exact Int.mul_nonneg_of_nonpos_of_nonpos h h
theorem sqM_exact {a x : Pt} (ha : Bd a) (hx : Bd x) : sqM a x = sqd a x ∧ 0 ≤ sqd a x ∧ sqd a x ≤ 8000000 := by
  unfold Bd at ha hx
  have e1 := sq_bd (x := a.1 - x.1) (by omega) (by omega)
  have e2 := sq_bd (x := a.2 - x.2) (by omega) (by omega)
  have hw : ∀ n : Int, -9223372036854775808 ≤ n → n ≤ 9223372036854775807 → wrap64 n = n := fun n h1 h2 => by unfold wrap64; omega
  unfold sqM sqd
  rw [hw (a.1 - x.1) (by omega) (by omega), hw (a.2 - x.2) (by omega) (by omega), hw ((a.1 - x.1) * _) (by omega) (by omega), hw ((a.2 - x.2) * _) (by omega) (by omega), hw _ (by omega) (by omega)]
  exact ⟨rfl, by omega, by omega⟩
theorem cb_lt {a x y : Pt} (ha : Bd a) (hx : Bd x) (hy : Bd y) : ltOf (cbCmp a) x y = decide (sqd a x < sqd a y) := by
  obtain ⟨e1, b1, b2⟩ := sqM_exact ha hx
  obtain ⟨e2, b3, b4⟩ := sqM_exact ha hy
  unfold ltOf cbCmp
  rw [e1, e2, W_in (by omega) (by omega)]
  exact decide_eq_decide.2 (by omega)
theorem swo_key (key : Pt → Int) : SWO fun x y => decide (key x < key y) :=
  ⟨fun x => by simp, fun x y z h1 h2 => by simp at *; omega, fun x y z h1 h2 => by simp at *; omega⟩
theorem distSort_perm {a : Pt} {xs : List Pt} (ha : Bd a) (h : ∀ p ∈ xs, Bd p) : (distSort a xs).Perm xs ∧ (distSort a xs).Pairwise fun p q => sqd a p ≤ sqd a q := by
  have e : distSort a xs = (Sort.insertionSort (fun x y => decide (sqd a x < sqd a y)) xs.toArray 0 xs.length).toList := by
    unfold distSort Sort.insertionSort
    rw [insOuter_congr (fun x y hx hy => cb_lt ha hx hy) 0 xs.length _ _ xs.toArray (Nat.le_refl _) (by simp) (by simpa using h)]
  rw [e]
  obtain ⟨⟨h1, h2, h3⟩, h4⟩ := insertionSort_holds (lt := fun x y => decide (sqd a x < sqd a y)) (swo_key (sqd a)) xs.toArray 0 xs.length (Nat.zero_le _) (by simp)
  generalize Sort.insertionSort (fun x y => decide (sqd a x < sqd a y)) xs.toArray 0 xs.length = D at *
  have hs : D.size = xs.length := by rw [h1]; simp
  refine ⟨?_, ?_⟩
  · have h3 := h3
    rw [← hs, Array.extract_size] at h3
    rw [show D.size = xs.toArray.size by rw [h1], Array.extract_size] at h3
    exact h3
  · rw [List.pairwise_iff_getElem]
    intro i j hi hj hij
    have hi' : i < D.size := by simpa using hi
    have hj' : j < D.size := by simpa using hj
    have := h4 i j (Nat.zero_le _) hij (by omega)
    rw [getElem!_pos D i hi', getElem!_pos D j hj'] at this
    simp only [decide_eq_false_iff_not] at this
    simp only [Array.getElem_toList]
    omega
theorem seesI_iff' {xs : List Pt} {a b : Pt} : seesI xs a b = true ↔ (∀ k, k < xs.length → crs a b (wl xs k).1 (wl xs k).2 = false) ∧ ∀ u, u + 1 < (cornersB xs a b).length → midM xs (pAt (cornersB xs a b) u) (pAt (cornersB xs a b) (u + 1)) ≠ 0 := by
  unfold seesI
  simp only [Bool.and_eq_true, List.all_eq_true, List.mem_range, Bool.not_eq_true', bne_iff_ne, ne_eq]
  refine and_congr_right fun _ => ⟨fun h u hu => h u (by omega), fun h u hu => h u (by omega)⟩
theorem cuts_bd {xs : List Pt} {a b : Pt} (ha : ptOk a = true) (hb : ptOk b = true) : ∀ p ∈ cutsOf xs a b, Bd p := fun p h => bd_on (bd_of_ok ha) (bd_of_ok hb) (cuts_on h)
theorem seesI_iff {xs : List Pt} {a b : Pt} (hr : roomOk xs = true) (ha : ptOk a = true) (hb : ptOk b = true) : seesI xs a b = true ↔ Sees xs a b := by
  rw [seesI_iff']
  obtain ⟨h1, h2⟩ := distSort_perm (bd_of_ok ha) (cuts_bd (xs := xs) ha hb)
  exact and_congr_right fun _ => sees_sorted hr ha hb h1 h2
theorem sees_eq {xs : List Pt} {a b : Pt} (hr : roomOk xs = true) (ha : ptOk a = true) (hb : ptOk b = true) : seesI xs a b = seesS xs a b := by
  rw [Bool.eq_iff_iff, seesI_iff hr ha hb, seesS_iff hr ha hb]
end Go.Proofs.Ytnepfcnlngpchaa
namespace Go.Proofs.Ytnepfcnlngpchaa
open Go.RowKit Go.Proofs.Ytnepfcnlngpchaa.Nm
set_option maxRecDepth 10000
set_option linter.unusedSimpArgs false
set_option linter.unusedVariables false
theorem tn1 (k : Nat) : ((k : Int) + 1).toNat = k + 1 := by omega
theorem tnp {k : Nat} (h : 1 ≤ k) : ((k : Int) - 1).toNat = k - 1 := by omega
theorem tnc (k : Nat) : ((k : Int) + 1 - 1).toNat = k := by omega
theorem Good1.imp {P : Program} {f : FuncId} {ts : List Ty} {pre pre' : Args ts → Prop} {res res' : Args ts → RV} (h : Good1 P f (mkCon ts pre res)) (hp : ∀ x, pre' x → pre x ∧ res' x = res x) : Good1 P f (mkCon ts pre' res') :=
  ⟨fun w F args vs x h1 h2 h3 h4 h5 => by
    obtain ⟨k1, k2⟩ := hp x h2
    show Calls _ _ _ _ fun e w' => ∃ v, e = .returned v ∧ Below w.heap.size w w' ∧ RetC w w' F (res' x) v
    rw [k2]
    exact h.snd w F args vs x h1 k1 h3 h4 h5, h.has⟩
theorem eq_false_of {b : Bool} (h : b = true → False) : false = b := by cases b with | false => rfl | true => exact (h rfl).elim
theorem eq_true_of {b : Bool} (h : b = true) : true = b := h.symm
theorem lt_succ_all {P : Nat → Prop} {k : Nat} (h : ∀ j, j < k → P j) (hk : P k) : ∀ j, j < k + 1 → P j := fun j hj => by
  rcases Nat.lt_or_ge j k with h5 | h5
  · exact h j h5
  · rw [show j = k by omega]; exact hk
def rowI (xs : List Int) : RV := ⟨.one (.own 0 0), some ⟨t_int, none, .b .int, xs⟩⟩
end Go.Proofs.Ytnepfcnlngpchaa
namespace Go.Proofs.Ytnepfcnlngpchaa
open Go.RowKit Go.Proofs.Ytnepfcnlngpchaa.Nm
set_option maxRecDepth 10000
set_option linter.unusedSimpArgs false
set_option linter.unusedVariables false
def rot {α : Type} (xs : List α) (k : Nat) : List α := xs.drop k ++ xs.take k
def rRoom (xs : List Pt) : RV := ⟨.agg [.own 0 0], some ⟨t_impl_Point, none, .b .pt, xs⟩⟩
end Go.Proofs.Ytnepfcnlngpchaa
namespace Go.Proofs.Ytnepfcnlngpchaa
open Go.RowKit Go.Proofs.Ytnepfcnlngpchaa.Nm
set_option maxRecDepth 10000
set_option maxHeartbeats 2000000
set_option linter.unusedSimpArgs false
set_option linter.unusedVariables false
def sees2C : Con := mkCon [.room, .pt, .pt] (fun x => roomOk x.1 = true ∧ ptOk x.2.1 = true ∧ ptOk x.2.2.1 = true) fun x => vB (seesS x.1 x.2.1 x.2.2.1)
theorem sees2_ok : Good1 Try.prog n_impl_sees sees2C := by
  exact Good1.imp sees_ok fun x h => ⟨(room_len h.1).2, congrArg vB (sees_eq h.1 h.2.1 h.2.2).symm⟩
def inP (xs : List Pt) (p : Pt) : Bool := ptOk p && inB xs p
theorem inP_iff {xs : List Pt} {p : Pt} : inP xs p = true ↔ ptOk p = true ∧ placeM xs p ≠ 0 := by unfold inP; rw [Bool.and_eq_true, bne_iff_ne]
theorem isIn_iff {xs : List Pt} {p : Pt} : isIn xs p = true ↔ roomOk xs = true ∧ inP xs p = true := by
  unfold isIn placeIn inP
  cases ptOk p <;> cases roomOk xs <;> simp
theorem isIn_pt {xs : List Pt} {p : Pt} (h : isIn xs p = true) : ptOk p = true := (inP_iff.1 (isIn_iff.1 h).2).1
theorem isIn_room {xs : List Pt} {p : Pt} (h : isIn xs p = true) : roomOk xs = true := (isIn_iff.1 h).1
def seesCs (xs : List Pt) (p : Pt) : Bool := (List.range xs.length).all fun k => seesS xs p (pAt xs k)
theorem seesCs_iff {xs : List Pt} {p : Pt} : seesCs xs p = true ↔ ∀ k, k < xs.length → seesS xs p (pAt xs k) = true := by
  unfold seesCs
  simp only [List.all_eq_true, List.mem_range]
def seesCsC : Con := mkCon [.room, .pt] (fun x => roomOk x.1 = true ∧ ptOk x.2.1 = true) fun x => vB (seesCs x.1 x.2.1)
theorem seesCorners_ok : Good1 Try.prog n_impl_seesCorners seesCsC := by
  refine good_ofG (tys := tyL) (env := [(n_impl_sees, sees2C)]) (envw := []) (envd := []) [] [] [] [] [] mixed tys ⟨sees2_ok, trivial⟩ trivial trivial Try.func66 rfl (by kernel_rfl) (by decide) (by kernel_rfl) ?_
  have hG_ := kpz [(0, [2, 3]), (1, [2, 3, 8, 9, 10]), (2, [2, 3, 8, 9, 10, 11]), (3, [2, 3, 6, 8, 9, 10]), (4, [2, 3, 8, 9, 10, 18]), (5, [4]), (6, [2, 3, 8, 9, 10]), (7, [4])] [(3, [6])] [] []
  rintro ⟨(xs : List Pt), ⟨(p : Int), (q : Int)⟩, ⟨⟩⟩ ⟨(hr : roomOk xs = true), (hp : ptOk (p, q) = true)⟩
  have hl := room_len hr
  have hpt : ∀ k, k < xs.length → ptOk (pAt xs k) = true := fun k hk => room_pt hr hk
  (repeat' (first | with_reducible exact True.intro | with_reducible refine st_seq ?_ | (with_reducible refine st_regionG hG_ ?_; intro K_ hK_) | (with_reducible refine st_region ?_; intro K_ hK_) | (with_reducible refine hK_ _ _ ?_; try clear hK_ K_) | ((with_reducible refine st_cond (b := ?b_) ?hb_ ?_ ?_); case hb_ => rfl) | with_reducible refine sq_n ?_ | with_reducible refine sq_r ?_ | with_reducible refine sq_e ?_ | with_reducible refine bq_n ?_ | with_reducible refine bq_r ?_ | with_reducible refine bq_q ?_ | with_reducible refine st_block ?_ | with_reducible refine st_exit ?_ | with_reducible refine st_ret ?_ | with_reducible refine st_skip ?_ | with_reducible refine gq_n ?_ | with_reducible refine gq_r ?_ | with_reducible refine gq_e ?_ | with_reducible refine lq_n ?_ | with_reducible refine lq_r ?_ | with_reducible refine lq_e ?_ | with_reducible refine bq_e (by decide) ?_ | ((conv => whnf); first | (with_reducible refine hK_ _ _ ?_; try clear hK_ K_) | (with_reducible refine fun (g_ : Sl) (o_ : Ow) => ?_) | with_reducible exact True.intro | with_reducible refine And.intro trivial ?_ | with_reducible refine And.intro ?_ ?_ | exact Nat.le_of_ble_eq_true rfl | exact Or.inl rfl | (intro h_; cases h_) | (intro h_; (try simp only [cond_true, cond_false, decide_eq_true_eq, decide_eq_false_iff_not, Bool.not_eq_true', Bool.not_eq_false', Int.toNat_natCast, prodEta] at h_)) | rfl))) <;> (try (conv => whnf)) <;> (try first | change (_ : Int) ≤ _ | change (_ : Nat) ≤ _) <;> (try ((fail_if_success (with_reducible apply Exists.intro)); (try dsimp only); (try simp only [cond_true, cond_false, decide_eq_true_eq, decide_eq_false_iff_not, Bool.not_eq_true', Bool.not_eq_false', Int.toNat_natCast, prodEta]))) <;> (try simp (disch := omega) only [ptEq2, cond_true, cond_false, decide_eq_true_eq, decide_eq_false_iff_not, List.length_drop, List.take_length, Int.toNat_zero, List.drop_zero, Nat.zero_add, List.nil_append, mod_nat1, mod_nat2, tm1, tm2, tmj, W_in, Int.add_sub_cancel, tn1, tnp, tnc, List.length_append, List.length_take, List.length_replicate, List.length_set, List.length_map, List.length_cons, List.length_nil, prodEta, Int.toNat_natCast, beq_iff_eq, beq_eq_false_iff_ne, bne_iff_ne, bne_eq_false_iff_eq, ne_eq, Int.natCast_inj, Int.ofNat_lt, Int.ofNat_le] at *)
  all_goals (try (fail_if_success (with_reducible apply Exists.intro)); first | with_reducible assumption | omega | exact mdl (by omega) | exact ilo1 (by omega) | exact ilo2 (by omega) | exact ihi1 (by omega) (by omega) | exact ihi2 (by omega) (by omega))
  refine awp'_loopG (α := Nat) (fun k ver_ => [(10, vInt k)]) (fun k ver_ => []) (fun k ver_ => []) (fun k => k ≤ xs.length ∧ ∀ j, j < k → seesS xs (p, q) (pAt xs j) = true) (fun k => xs.length - k) [2, 3, 8, 9] [] (0) ?_
  conv => whnf
  refine ⟨⟨?inv2_, ?vals2_, ?own2_, ?fix2_⟩, ?body2_⟩
  case' vals2_ => (repeat' (first | with_reducible exact True.intro | with_reducible refine And.intro ?_ ?_ | with_reducible refine Head.mk ?_ ?_ ?_ ?_ | ((conv => lhs; whnf); first | with_reducible rfl | with_reducible exact vInt_s (by omega) | exact rfl) | ((conv => whnf); first | with_reducible exact True.intro | with_reducible refine And.intro ?_ ?_))) <;> (try (conv => lhs; whnf))
  case' own2_ => (repeat' (first | with_reducible exact True.intro | with_reducible refine And.intro ?_ ?_ | with_reducible refine Head.mk ?_ ?_ ?_ ?_ | ((conv => lhs; whnf); first | with_reducible rfl | with_reducible exact vInt_s (by omega) | exact rfl) | ((conv => whnf); first | with_reducible exact True.intro | with_reducible refine And.intro ?_ ?_))) <;> (try (conv => lhs; whnf))
  case' fix2_ => (repeat' (first | with_reducible exact True.intro | with_reducible refine And.intro ?_ ?_ | with_reducible refine Head.mk ?_ ?_ ?_ ?_ | ((conv => lhs; whnf); first | with_reducible rfl | with_reducible exact vInt_s (by omega) | exact rfl) | ((conv => whnf); first | with_reducible exact True.intro | with_reducible refine And.intro ?_ ?_))) <;> (try (conv => lhs; whnf))
  · exact ⟨Nat.zero_le _, fun j hj => absurd hj (by omega)⟩
  rintro k g_ o_ v_ ⟨hk, hall⟩
  (repeat' (first | with_reducible exact True.intro | with_reducible refine st_seq ?_ | (with_reducible refine st_regionG hG_ ?_; intro K_ hK_) | (with_reducible refine st_region ?_; intro K_ hK_) | (with_reducible refine hK_ _ _ ?_; try clear hK_ K_) | ((with_reducible refine st_cond (b := ?b_) ?hb_ ?_ ?_); case hb_ => rfl) | with_reducible refine sq_n ?_ | with_reducible refine sq_r ?_ | with_reducible refine sq_e ?_ | with_reducible refine bq_n ?_ | with_reducible refine bq_r ?_ | with_reducible refine bq_q ?_ | with_reducible refine st_block ?_ | with_reducible refine st_exit ?_ | with_reducible refine st_ret ?_ | with_reducible refine st_skip ?_ | with_reducible refine gq_n ?_ | with_reducible refine gq_r ?_ | with_reducible refine gq_e ?_ | with_reducible refine lq_n ?_ | with_reducible refine lq_r ?_ | with_reducible refine lq_e ?_ | with_reducible refine bq_e (by decide) ?_ | ((conv => whnf); first | (with_reducible refine hK_ _ _ ?_; try clear hK_ K_) | (with_reducible refine fun (g_ : Sl) (o_ : Ow) => ?_) | with_reducible exact True.intro | with_reducible refine And.intro trivial ?_ | with_reducible refine And.intro ?_ ?_ | exact Nat.le_of_ble_eq_true rfl | exact Or.inl rfl | (intro h_; cases h_) | (intro h_; (try simp only [cond_true, cond_false, decide_eq_true_eq, decide_eq_false_iff_not, Bool.not_eq_true', Bool.not_eq_false', Int.toNat_natCast, prodEta] at h_)) | rfl))) <;> (try (conv => whnf)) <;> (try first | change (_ : Int) ≤ _ | change (_ : Nat) ≤ _) <;> (try ((fail_if_success (with_reducible apply Exists.intro)); (try dsimp only); (try simp only [cond_true, cond_false, decide_eq_true_eq, decide_eq_false_iff_not, Bool.not_eq_true', Bool.not_eq_false', Int.toNat_natCast, prodEta]))) <;> (try simp (disch := omega) only [ptEq2, cond_true, cond_false, decide_eq_true_eq, decide_eq_false_iff_not, List.length_drop, List.take_length, Int.toNat_zero, List.drop_zero, Nat.zero_add, List.nil_append, mod_nat1, mod_nat2, tm1, tm2, tmj, W_in, Int.add_sub_cancel, tn1, tnp, tnc, List.length_append, List.length_take, List.length_replicate, List.length_set, List.length_map, List.length_cons, List.length_nil, prodEta, Int.toNat_natCast, beq_iff_eq, beq_eq_false_iff_ne, bne_iff_ne, bne_eq_false_iff_eq, ne_eq, Int.natCast_inj, Int.ofNat_lt, Int.ofNat_le] at *)
  all_goals (try (fail_if_success (with_reducible apply Exists.intro)); first | with_reducible assumption | omega | exact mdl (by omega) | exact ilo1 (by omega) | exact ilo2 (by omega) | exact ihi1 (by omega) (by omega) | exact ihi2 (by omega) (by omega))
  all_goals first
    | exact hpt _ (by omega)
    | exact eq_true_of (seesCs_iff.2 fun j hj => hall j (by omega))
    | exact eq_false_of fun hc => absurd (seesCs_iff.1 hc k (by omega)) (by simp_all)
    | exact ⟨k + 1, by omega, ⟨by omega, lt_succ_all hall (by assumption)⟩, by (repeat' (first | with_reducible exact True.intro | with_reducible refine And.intro ?_ ?_ | with_reducible refine Head.mk ?_ ?_ ?_ ?_ | ((conv => lhs; whnf); first | with_reducible rfl | with_reducible exact vInt_s (by omega) | exact rfl) | ((conv => whnf); first | with_reducible exact True.intro | with_reducible refine And.intro ?_ ?_))) <;> (try (conv => lhs; whnf))⟩
def seesCornersM (xs : List Pt) (p : Pt) : Bool := isIn xs p && seesCs xs p
def seesCornersC : Con := mkCon [.room, .pt] (fun x => x.1.length ≤ 1048576) fun x => vB (seesCornersM x.1 x.2.1)
theorem iSeesCorners_ok : Good1 Try.prog n_impl_SeesCorners seesCornersC := by
  refine good_ofG (tys := tyL) (env := [(n_impl_IsIn, isInC), (n_impl_seesCorners, seesCsC)]) (envw := []) (envd := []) [] [] [] [] [] mixed tys ⟨iIsIn_ok, seesCorners_ok, trivial⟩ trivial trivial Try.func18 rfl (by kernel_rfl) (by decide) (by kernel_rfl) ?_
  have hG_ := kpz [(0, [2, 3]), (1, [4])] [] [] []
  rintro ⟨(xs : List Pt), ⟨(p : Int), (q : Int)⟩, ⟨⟩⟩ (h1 : xs.length ≤ _)
  (repeat' (first | with_reducible exact True.intro | with_reducible refine st_seq ?_ | (with_reducible refine st_regionG hG_ ?_; intro K_ hK_) | (with_reducible refine st_region ?_; intro K_ hK_) | (with_reducible refine hK_ _ _ ?_; try clear hK_ K_) | ((with_reducible refine st_cond (b := ?b_) ?hb_ ?_ ?_); case hb_ => rfl) | with_reducible refine sq_n ?_ | with_reducible refine sq_r ?_ | with_reducible refine sq_e ?_ | with_reducible refine bq_n ?_ | with_reducible refine bq_r ?_ | with_reducible refine bq_q ?_ | with_reducible refine st_block ?_ | with_reducible refine st_exit ?_ | with_reducible refine st_ret ?_ | with_reducible refine st_skip ?_ | with_reducible refine gq_n ?_ | with_reducible refine gq_r ?_ | with_reducible refine gq_e ?_ | with_reducible refine lq_n ?_ | with_reducible refine lq_r ?_ | with_reducible refine lq_e ?_ | with_reducible refine bq_e (by decide) ?_ | ((conv => whnf); first | (with_reducible refine hK_ _ _ ?_; try clear hK_ K_) | (with_reducible refine fun (g_ : Sl) (o_ : Ow) => ?_) | with_reducible exact True.intro | with_reducible refine And.intro trivial ?_ | with_reducible refine And.intro ?_ ?_ | exact Nat.le_of_ble_eq_true rfl | exact Or.inl rfl | (intro h_; cases h_) | (intro h_; (try simp only [cond_true, cond_false, decide_eq_true_eq, decide_eq_false_iff_not, Bool.not_eq_true', Bool.not_eq_false', Int.toNat_natCast, prodEta] at h_)) | rfl))) <;> (try (conv => whnf)) <;> (try first | change (_ : Int) ≤ _ | change (_ : Nat) ≤ _) <;> (try ((fail_if_success (with_reducible apply Exists.intro)); (try dsimp only); (try simp only [cond_true, cond_false, decide_eq_true_eq, decide_eq_false_iff_not, Bool.not_eq_true', Bool.not_eq_false', Int.toNat_natCast, prodEta]))) <;> (try simp (disch := omega) only [ptEq2, cond_true, cond_false, decide_eq_true_eq, decide_eq_false_iff_not, List.length_drop, List.take_length, Int.toNat_zero, List.drop_zero, Nat.zero_add, List.nil_append, mod_nat1, mod_nat2, tm1, tm2, tmj, W_in, Int.add_sub_cancel, tn1, tnp, tnc, List.length_append, List.length_take, List.length_replicate, List.length_set, List.length_map, List.length_cons, List.length_nil, prodEta, Int.toNat_natCast, beq_iff_eq, beq_eq_false_iff_ne, bne_iff_ne, bne_eq_false_iff_eq, ne_eq, Int.natCast_inj, Int.ofNat_lt, Int.ofNat_le] at *)
  all_goals (try (fail_if_success (with_reducible apply Exists.intro)); first | with_reducible assumption | omega | exact mdl (by omega) | exact ilo1 (by omega) | exact ilo2 (by omega) | exact ihi1 (by omega) (by omega) | exact ihi2 (by omega) (by omega))
  all_goals first
    | exact isIn_room (by assumption)
    | exact isIn_pt (by assumption)
    | (unfold seesCornersM; rw [h_]; rfl)
end Go.Proofs.Ytnepfcnlngpchaa
namespace Go.Proofs.Ytnepfcnlngpchaa
open Go.RowKit Go.Proofs.Ytnepfcnlngpchaa.Nm
set_option maxRecDepth 10000
set_option linter.unusedSimpArgs false
set_option linter.unusedVariables false
abbrev Cur := List Int × Int × Int
def curL (c : Cur) : List D := [.sl none (.b .u8) c.1, .int .i64 c.2.1, .int .i64 c.2.2]
structure curOk (c : Cur) : Prop where
  len : c.1.length ≤ 1048576
  lo : 0 ≤ c.2.1
  hi : c.2.1 ≤ 1048576
def newH (bs : List Int) : Nat → Int
  | 0 => W (99143 + (bs.length : Int))
  | i + 1 => bitI .and .i64 (W (W (W (newH bs i * 131) + W (bs.getD i 0)) + 7)) 1073741823
def newC (bs : List Int) : Cur := (bs, 0, newH bs (min bs.length 4000))
def byteH (c : Cur) : Int := W (c.2.2 * 6364136223846793005 + 1442695040888963407)
def byte0 (c : Cur) : Int := bitI .and .i64 (bitI .xor .i64 (bitI .shr .i64 (byteH c) 33) (bitI .shr .i64 (byteH c) 45)) 255
def byteX (c : Cur) : Int := if c.2.1 < (c.1.length : Int) then bitI .and .i64 (W (byte0 c + W (c.1.getD c.2.1.toNat 0))) 255 else byte0 c
def byteC (c : Cur) : Cur := (c.1, if c.2.1 < (c.1.length : Int) then c.2.1 + 1 else c.2.1, byteH c)
theorem and255 (x : Int) : 0 ≤ bitI .and .i64 x 255 ∧ bitI .and .i64 x 255 ≤ 255 := by
  have h : (BitVec.ofInt IntKind.i64.bits x &&& BitVec.ofInt IntKind.i64.bits 255).toNat ≤ 255 := by
    rw [BitVec.toNat_and]
    exact Nat.le_trans Nat.and_le_right (by decide)
  have e : bitI .and .i64 x 255 = (((BitVec.ofInt IntKind.i64.bits x &&& BitVec.ofInt IntKind.i64.bits 255).toNat : Nat) : Int) := W_in (by omega) (by omega)
  rw [e]
  omega
theorem byteX_bd (c : Cur) : 0 ≤ byteX c ∧ byteX c ≤ 255 := by
  unfold byteX
  split
  · exact and255 _
  · exact and255 _
theorem byteC_ok {c : Cur} (h : curOk c) : curOk (byteC c) := by
  obtain ⟨h1, h2, h3⟩ := h
  refine ⟨h1, ?_, ?_⟩ <;> (unfold byteC; simp only; split <;> omega)
def belowX (c : Cur) (n : Int) : Int :=
  if n ≤ 0 then 0 else if n ≤ 256 then (byteX c).tmod n
  else (byteX c * 16777216 + byteX (byteC c) * 65536 + byteX (byteC (byteC c)) * 256 + byteX (byteC (byteC (byteC c)))).tmod n
def belowC (c : Cur) (n : Int) : Cur := if n ≤ 0 then c else if n ≤ 256 then byteC c else byteC (byteC (byteC (byteC c)))
theorem below_bd {c : Cur} {n : Int} (h : 0 < n) : 0 ≤ belowX c n ∧ belowX c n < n := by
  unfold belowX
  have h1 := byteX_bd c
  have h2 := byteX_bd (byteC c)
  have h3 := byteX_bd (byteC (byteC c))
  have h4 := byteX_bd (byteC (byteC (byteC c)))
  rw [if_neg (by omega)]
  split
  · exact ⟨Int.tmod_nonneg _ h1.1, Int.tmod_lt_of_pos _ h⟩
  · exact ⟨Int.tmod_nonneg _ (by omega), Int.tmod_lt_of_pos _ h⟩
theorem belowC_ok {c : Cur} {n : Int} (h : curOk c) : curOk (belowC c n) := by
  unfold belowC
  split
  · exact h
  · split
    · exact byteC_ok h
    · exact byteC_ok (byteC_ok (byteC_ok (byteC_ok h)))
theorem newC_ok {bs : List Int} (h : bs.length ≤ 1048576) : curOk (newC bs) := ⟨h, Int.le_refl 0, show (0 : Int) ≤ 1048576 by decide⟩
def l01NewC : ConD := mkConN [.sl (.b .u8)] t_spec_l01Cur (fun x => x.1.length ≤ 1048576) fun x => curL (newC x.1)
set_option maxRecDepth 200000 in
theorem l01New_ok : GoodD Try.prog n_spec_l01New l01NewC := by
  refine good_ofN (tys := tyL) (env := []) (envw := []) (envd := []) [31] [] [] [] [] mixed tys trivial trivial trivial Try.func62 rfl (by kernel_rfl) (by decide) (by kernel_rfl) ?_
  have hG_ := kpz [(0, [0]), (1, [0, 3]), (2, [0, 3, 4]), (3, [0, 3, 4, 15]), (4, [0, 3, 4]), (5, [0, 3, 4]), (6, [2])] [] [] []
  rintro ⟨(bs : List Int), ⟨⟩⟩ (h1 : bs.length ≤ _)
  (repeat' (first | with_reducible exact True.intro | with_reducible refine st_seq ?_ | (with_reducible refine st_regionG hG_ ?_; intro K_ hK_) | (with_reducible refine st_region ?_; intro K_ hK_) | (with_reducible refine hK_ _ _ ?_; try clear hK_ K_) | ((with_reducible refine st_cond (b := ?b_) ?hb_ ?_ ?_); case hb_ => rfl) | with_reducible refine sq_n ?_ | with_reducible refine sq_r ?_ | with_reducible refine sq_e ?_ | with_reducible refine bq_n ?_ | with_reducible refine bq_r ?_ | with_reducible refine bq_q ?_ | with_reducible refine st_block ?_ | with_reducible refine st_exit ?_ | with_reducible refine st_ret ?_ | with_reducible refine st_skip ?_ | with_reducible refine gq_n ?_ | with_reducible refine gq_r ?_ | with_reducible refine gq_e ?_ | with_reducible refine lq_n ?_ | with_reducible refine lq_r ?_ | with_reducible refine lq_e ?_ | with_reducible refine bq_e (by decide) ?_ | ((conv => whnf); first | (with_reducible refine hK_ _ _ ?_; try clear hK_ K_) | (with_reducible refine fun (g_ : Sl) (o_ : Ow) => ?_) | with_reducible exact True.intro | with_reducible refine And.intro trivial ?_ | with_reducible refine And.intro ?_ ?_ | exact Nat.le_of_ble_eq_true rfl | exact Or.inl rfl | (intro h_; cases h_) | (intro h_; (try simp only [cond_true, cond_false, decide_eq_true_eq, decide_eq_false_iff_not, Bool.not_eq_true', Bool.not_eq_false', Int.toNat_natCast, prodEta] at h_)) | rfl))) <;> (try (conv => whnf)) <;> (try first | change (_ : Int) ≤ _ | change (_ : Nat) ≤ _) <;> (try ((fail_if_success (with_reducible apply Exists.intro)); (try dsimp only); (try simp only [cond_true, cond_false, decide_eq_true_eq, decide_eq_false_iff_not, Bool.not_eq_true', Bool.not_eq_false', Int.toNat_natCast, prodEta])))
  refine awp'_loopG (α := Nat) (fun i ver_ => [(3, vInt (newH bs i)), (4, vInt i)]) (fun i ver_ => []) (fun i ver_ => []) (fun i => i ≤ bs.length ∧ i ≤ 4000) (fun i => bs.length - i) [0] [] (0) ?_
  conv => whnf
  refine ⟨⟨?inv1_, ?vals1_, ?own1_, ?fix1_⟩, ?body1_⟩
  case' vals1_ => (repeat' (first | with_reducible exact True.intro | with_reducible refine And.intro ?_ ?_ | with_reducible refine Head.mk ?_ ?_ ?_ ?_ | ((conv => lhs; whnf); first | with_reducible rfl | with_reducible exact vInt_s (by omega) | exact rfl) | ((conv => whnf); first | with_reducible exact True.intro | with_reducible refine And.intro ?_ ?_))) <;> (try (conv => lhs; whnf))
  case' own1_ => (repeat' (first | with_reducible exact True.intro | with_reducible refine And.intro ?_ ?_ | with_reducible refine Head.mk ?_ ?_ ?_ ?_ | ((conv => lhs; whnf); first | with_reducible rfl | with_reducible exact vInt_s (by omega) | exact rfl) | ((conv => whnf); first | with_reducible exact True.intro | with_reducible refine And.intro ?_ ?_))) <;> (try (conv => lhs; whnf))
  case' fix1_ => (repeat' (first | with_reducible exact True.intro | with_reducible refine And.intro ?_ ?_ | with_reducible refine Head.mk ?_ ?_ ?_ ?_ | ((conv => lhs; whnf); first | with_reducible rfl | with_reducible exact vInt_s (by omega) | exact rfl) | ((conv => whnf); first | with_reducible exact True.intro | with_reducible refine And.intro ?_ ?_))) <;> (try (conv => lhs; whnf))
  · exact ⟨Nat.zero_le _, Nat.zero_le _⟩
  rintro i g_ o_ v_ ⟨hi, hi2⟩
  have hG_ := kpz [(0, [0]), (1, [0, 3]), (2, [0, 3, 4]), (3, [0, 3, 4, 15]), (4, [0, 3, 4]), (5, [0, 3, 4]), (6, [2])] [(6, [31])] [] []
  (repeat' (first | with_reducible exact True.intro | with_reducible refine st_seq ?_ | (with_reducible refine st_regionG hG_ ?_; intro K_ hK_) | (with_reducible refine st_region ?_; intro K_ hK_) | (with_reducible refine hK_ _ _ ?_; try clear hK_ K_) | ((with_reducible refine st_cond (b := ?b_) ?hb_ ?_ ?_); case hb_ => rfl) | with_reducible refine sq_n ?_ | with_reducible refine sq_r ?_ | with_reducible refine sq_e ?_ | with_reducible refine bq_n ?_ | with_reducible refine bq_r ?_ | with_reducible refine bq_q ?_ | with_reducible refine st_block ?_ | with_reducible refine st_exit ?_ | with_reducible refine st_ret ?_ | with_reducible refine st_skip ?_ | with_reducible refine gq_n ?_ | with_reducible refine gq_r ?_ | with_reducible refine gq_e ?_ | with_reducible refine lq_n ?_ | with_reducible refine lq_r ?_ | with_reducible refine lq_e ?_ | with_reducible refine bq_e (by decide) ?_ | ((conv => whnf); first | (with_reducible refine hK_ _ _ ?_; try clear hK_ K_) | (with_reducible refine fun (g_ : Sl) (o_ : Ow) => ?_) | with_reducible exact True.intro | with_reducible refine And.intro trivial ?_ | with_reducible refine And.intro ?_ ?_ | exact Nat.le_of_ble_eq_true rfl | exact Or.inl rfl | (intro h_; cases h_) | (intro h_; (try simp only [cond_true, cond_false, decide_eq_true_eq, decide_eq_false_iff_not, Bool.not_eq_true', Bool.not_eq_false', Int.toNat_natCast, prodEta] at h_)) | rfl))) <;> (try (conv => whnf)) <;> (try first | change (_ : Int) ≤ _ | change (_ : Nat) ≤ _) <;> (try ((fail_if_success (with_reducible apply Exists.intro)); (try dsimp only); (try simp only [cond_true, cond_false, decide_eq_true_eq, decide_eq_false_iff_not, Bool.not_eq_true', Bool.not_eq_false', Int.toNat_natCast, prodEta])))
  all_goals (try (fail_if_success (with_reducible apply Exists.intro)); first | with_reducible assumption | omega | exact mdl (by omega) | exact ilo1 (by omega) | exact ilo2 (by omega) | exact ihi1 (by omega) (by omega) | exact ihi2 (by omega) (by omega))
  · refine ⟨i + 1, by omega, by omega, ?_⟩
    (repeat' (first | with_reducible exact True.intro | with_reducible refine And.intro ?_ ?_ | with_reducible refine Head.mk ?_ ?_ ?_ ?_ | ((conv => lhs; whnf); first | with_reducible rfl | with_reducible exact vInt_s (by omega) | exact rfl) | ((conv => whnf); first | with_reducible exact True.intro | with_reducible refine And.intro ?_ ?_))) <;> (try (conv => lhs; whnf))
  · show dOf _ = some _
    unfold curL newC
    rw [show min bs.length 4000 = i by omega]; rfl
  · show dOf _ = some _
    unfold curL newC
    rw [show min bs.length 4000 = i by omega]; rfl
def l01ByteC : ConD := mkConB [.cur] 0 t_spec_l01Cur (fun x => curOk x.1) (fun x => vInt (byteX x.1)) fun x => curL (byteC x.1)
theorem l01Byte_ok : GoodD Try.prog n_spec_l01Byte l01ByteC := by
  refine good_ofB (tys := tyL) (env := []) (envw := []) (envd := []) [1000] [] [] [] [] mixed tys trivial trivial trivial Try.func116 rfl (by kernel_rfl) ⟨by decide, rfl⟩ (by kernel_rfl) ?_
  have hG_ := kpz [(0, [0]), (1, [0]), (2, [0, 3]), (3, [0, 3, 34]), (4, [0, 3]), (5, [3]), (6, [2])] [(0, [1000]), (1, [1000]), (2, [1000]), (3, [1000]), (4, [1000]), (5, [1000]), (6, [1000])] [] []
  rintro ⟨⟨(bs : List Int), (i : Int), (h : Int)⟩, ⟨⟩⟩ ⟨(h1 : bs.length ≤ _), (h2 : 0 ≤ i), (h3 : i ≤ _)⟩
  (repeat' (first | with_reducible exact True.intro | with_reducible refine st_seq ?_ | (with_reducible refine st_regionG hG_ ?_; intro K_ hK_) | (with_reducible refine st_region ?_; intro K_ hK_) | (with_reducible refine hK_ _ _ ?_; try clear hK_ K_) | ((with_reducible refine st_cond (b := ?b_) ?hb_ ?_ ?_); case hb_ => rfl) | with_reducible refine sq_n ?_ | with_reducible refine sq_r ?_ | with_reducible refine sq_e ?_ | with_reducible refine bq_n ?_ | with_reducible refine bq_r ?_ | with_reducible refine bq_q ?_ | with_reducible refine st_block ?_ | with_reducible refine st_exit ?_ | with_reducible refine st_ret ?_ | with_reducible refine st_skip ?_ | with_reducible refine gq_n ?_ | with_reducible refine gq_r ?_ | with_reducible refine gq_e ?_ | with_reducible refine lq_n ?_ | with_reducible refine lq_r ?_ | with_reducible refine lq_e ?_ | with_reducible refine bq_e (by decide) ?_ | ((conv => whnf); first | (with_reducible refine hK_ _ _ ?_; try clear hK_ K_) | (with_reducible refine fun (g_ : Sl) (o_ : Ow) => ?_) | with_reducible exact True.intro | with_reducible refine And.intro trivial ?_ | with_reducible refine And.intro ?_ ?_ | exact Nat.le_of_ble_eq_true rfl | exact Or.inl rfl | (intro h_; cases h_) | (intro h_; (try simp only [cond_true, cond_false, decide_eq_true_eq, decide_eq_false_iff_not, Bool.not_eq_true', Bool.not_eq_false', Int.toNat_natCast, prodEta] at h_)) | rfl))) <;> (try (conv => whnf)) <;> (try first | change (_ : Int) ≤ _ | change (_ : Nat) ≤ _) <;> (try ((fail_if_success (with_reducible apply Exists.intro)); (try dsimp only); (try simp only [cond_true, cond_false, decide_eq_true_eq, decide_eq_false_iff_not, Bool.not_eq_true', Bool.not_eq_false', Int.toNat_natCast, prodEta])))
  all_goals (try (fail_if_success (with_reducible apply Exists.intro)); first | with_reducible assumption | omega | exact mdl (by omega) | exact ilo1 (by omega) | exact ilo2 (by omega) | exact ihi1 (by omega) (by omega) | exact ihi2 (by omega) (by omega))
  · show dOf _ = some _
    unfold curL byteC byteH
    simp only [W_l1, if_pos h_, W_in (show -9223372036854775808 ≤ i + 1 by omega) (show i + 1 ≤ 9223372036854775807 by omega)]; rfl
  · unfold byteX byte0 byteH
    simp only [W_l1, if_pos h_]
  · show dOf _ = some _
    unfold curL byteC byteH
    simp only [W_l1, if_neg h_]; rfl
  · unfold byteX byte0 byteH
    simp only [W_l1, if_neg h_]
def l01BelowC : ConD := mkConB [.cur, .int] 0 t_spec_l01Cur (fun x => curOk x.1) (fun x => vInt (belowX x.1 x.2.1)) fun x => curL (belowC x.1 x.2.1)
theorem l01Below_ok : GoodD Try.prog n_spec_l01Below l01BelowC := by
  refine good_ofB (tys := tyL) (env := []) (envw := []) (envd := [(n_spec_l01Byte, l01ByteC)]) [14, 18, 20, 22, 24, 1000] [14, 18, 20, 22, 24, 1000] [] [] [14, 18, 20, 22, 24] mixed tys trivial trivial ⟨l01Byte_ok, trivial⟩ Try.func77 rfl (by kernel_rfl) ⟨by decide, rfl⟩ (by kernel_rfl) ?_
  have hG_ := kpz [(0, [0, 1]), (1, [0, 1, 10]), (2, [4]), (3, [0, 1, 12]), (4, [4]), (5, [0, 1, 5]), (6, [0, 1, 5, 6]), (7, [0, 1, 5, 6, 7]), (8, [1, 5, 6, 7, 8]), (9, [4])] [(0, [1000]), (1, [1000]), (2, [1000]), (3, [1000]), (4, [1000]), (5, [1000]), (6, [1000]), (7, [1000]), (8, [1000]), (9, [1000])] [] []
  rintro ⟨⟨(bs : List Int), (i : Int), (h : Int)⟩, (n : Int), ⟨⟩⟩ (hc : curOk (bs, i, h))
  have h1 := byteC_ok hc
  have h2 := byteC_ok h1
  have h3 := byteC_ok h2
  have b0 := byteX_bd (bs, i, h)
  have b1 := byteX_bd (byteC (bs, i, h))
  have b2 := byteX_bd (byteC (byteC (bs, i, h)))
  have b3 := byteX_bd (byteC (byteC (byteC (bs, i, h))))
  (repeat' (first | with_reducible exact True.intro | with_reducible refine st_seq ?_ | (with_reducible refine st_regionG hG_ ?_; intro K_ hK_) | (with_reducible refine st_region ?_; intro K_ hK_) | (with_reducible refine hK_ _ _ ?_; try clear hK_ K_) | ((with_reducible refine st_cond (b := ?b_) ?hb_ ?_ ?_); case hb_ => rfl) | with_reducible refine sq_n ?_ | with_reducible refine sq_r ?_ | with_reducible refine sq_e ?_ | with_reducible refine bq_n ?_ | with_reducible refine bq_r ?_ | with_reducible refine bq_q ?_ | with_reducible refine st_block ?_ | with_reducible refine st_exit ?_ | with_reducible refine st_ret ?_ | with_reducible refine st_skip ?_ | with_reducible refine gq_n ?_ | with_reducible refine gq_r ?_ | with_reducible refine gq_e ?_ | with_reducible refine lq_n ?_ | with_reducible refine lq_r ?_ | with_reducible refine lq_e ?_ | with_reducible refine bq_e (by decide) ?_ | ((conv => whnf); first | (with_reducible refine hK_ _ _ ?_; try clear hK_ K_) | (with_reducible refine fun (g_ : Sl) (o_ : Ow) => ?_) | with_reducible exact True.intro | with_reducible refine And.intro trivial ?_ | with_reducible refine And.intro ?_ ?_ | exact Nat.le_of_ble_eq_true rfl | exact Or.inl rfl | (intro h_; cases h_) | (intro h_; (try simp only [cond_true, cond_false, decide_eq_true_eq, decide_eq_false_iff_not, Bool.not_eq_true', Bool.not_eq_false', Int.toNat_natCast, prodEta] at h_)) | rfl))) <;> (try (conv => whnf)) <;> (try first | change (_ : Int) ≤ _ | change (_ : Nat) ≤ _) <;> (try ((fail_if_success (with_reducible apply Exists.intro)); (try dsimp only); (try simp only [cond_true, cond_false, decide_eq_true_eq, decide_eq_false_iff_not, Bool.not_eq_true', Bool.not_eq_false', Int.toNat_natCast, prodEta])))
  all_goals (try (fail_if_success (with_reducible apply Exists.intro)); first | with_reducible assumption | omega | exact mdl (by omega) | exact ilo1 (by omega) | exact ilo2 (by omega) | exact ihi1 (by omega) (by omega) | exact ihi2 (by omega) (by omega))
  · show dOf _ = some _
    unfold curL belowC
    simp only [if_pos h_]; rfl
  · unfold belowX
    simp only [if_pos h_]
  · exact ‹¬ Int.ofNat 0 ≤ 0› (by decide)
  · show dOf _ = some _
    unfold curL belowC
    simp only [if_neg ‹¬ n ≤ 0›, if_pos h_]; rfl
  · unfold belowX
    simp only [if_neg ‹¬ n ≤ 0›, if_pos h_]
  · exact ‹¬ Int.ofNat 0 ≤ 0› (by decide)
  · show dOf _ = some _
    unfold curL belowC
    simp only [if_neg ‹¬ n ≤ 0›, if_neg h_]; rfl
  · unfold belowX
    simp only [if_neg ‹¬ n ≤ 0›, if_neg h_, W_l1, W_l2]
    rw [W_in (by omega) (by omega)]
end Go.Proofs.Ytnepfcnlngpchaa
namespace Go.Proofs.Ytnepfcnlngpchaa
open Go.RowKit Go.Proofs.Ytnepfcnlngpchaa.Nm
set_option maxRecDepth 10000
set_option maxHeartbeats 2000000
set_option linter.unusedSimpArgs false
set_option linter.unusedVariables false
def reflexM (xs : List Pt) (k : Nat) : Bool := decide (turn (pCy xs (k + xs.length - 1)) (pAt xs k) (pCy xs (k + 1)) < 0)
theorem mod_back {k n : Nat} (hk : k < n) (hn : n ≤ 1048576) : Int.tmod (W (W ((k : Int) + (n : Int)) - 1)) (n : Int) = (((k + n - 1) % n : Nat) : Int) := by
  unfold W
  rw [W_in (show -9223372036854775808 ≤ (k : Int) + n by omega) (by omega), W_in (by omega) (by omega), show (k : Int) + n - 1 = ((k + n - 1 : Nat) : Int) by omega, ← Int.ofNat_tmod]
def reflexC : Con := mkCon [.room, .int] (fun x => roomOk x.1 = true ∧ ∃ k : Nat, x.2.1 = k ∧ k < x.1.length) fun x => vB (reflexM x.1 x.2.1.toNat)
theorem reflex_ok : Good1 Try.prog n_impl_reflex reflexC := by
  refine good_ofG (tys := tyL) (env := [(n_impl_turn, turnC)]) (envw := []) (envd := []) [] [] [] [] [] mixed tys ⟨turn_ok, trivial⟩ trivial trivial Try.func76 rfl (by kernel_rfl) (by decide) (by kernel_rfl) ?_
  have hG_ := kpz [(0, [1, 2]), (1, [1, 2, 5]), (2, [4])] [] [] []
  rintro ⟨(xs : List Pt), (z : Int), ⟨⟩⟩ ⟨(hr : roomOk xs = true), k, (rfl : z = _), (hk : k < xs.length)⟩
  have hl := room_len hr
  have hb := mod_back hk (by omega)
  have hm := Nat.mod_lt (k + xs.length - 1) (show 0 < xs.length by omega)
  unfold W at hb
  (repeat' (first | with_reducible exact True.intro | with_reducible refine st_seq ?_ | (with_reducible refine st_regionG hG_ ?_; intro K_ hK_) | (with_reducible refine st_region ?_; intro K_ hK_) | (with_reducible refine hK_ _ _ ?_; try clear hK_ K_) | ((with_reducible refine st_cond (b := ?b_) ?hb_ ?_ ?_); case hb_ => rfl) | with_reducible refine sq_n ?_ | with_reducible refine sq_r ?_ | with_reducible refine sq_e ?_ | with_reducible refine bq_n ?_ | with_reducible refine bq_r ?_ | with_reducible refine bq_q ?_ | with_reducible refine st_block ?_ | with_reducible refine st_exit ?_ | with_reducible refine st_ret ?_ | with_reducible refine st_skip ?_ | with_reducible refine gq_n ?_ | with_reducible refine gq_r ?_ | with_reducible refine gq_e ?_ | with_reducible refine lq_n ?_ | with_reducible refine lq_r ?_ | with_reducible refine lq_e ?_ | with_reducible refine bq_e (by decide) ?_ | ((conv => whnf); first | (with_reducible refine hK_ _ _ ?_; try clear hK_ K_) | (with_reducible refine fun (g_ : Sl) (o_ : Ow) => ?_) | with_reducible exact True.intro | with_reducible refine And.intro trivial ?_ | with_reducible refine And.intro ?_ ?_ | exact Nat.le_of_ble_eq_true rfl | exact Or.inl rfl | (intro h_; cases h_) | (intro h_; (try simp only [cond_true, cond_false, decide_eq_true_eq, decide_eq_false_iff_not, Bool.not_eq_true', Bool.not_eq_false', Int.toNat_natCast, prodEta] at h_)) | rfl))) <;> (try (conv => whnf)) <;> (try first | change (_ : Int) ≤ _ | change (_ : Nat) ≤ _) <;> (try ((fail_if_success (with_reducible apply Exists.intro)); (try dsimp only); (try simp only [cond_true, cond_false, decide_eq_true_eq, decide_eq_false_iff_not, Bool.not_eq_true', Bool.not_eq_false', Int.toNat_natCast, prodEta])))
  all_goals (try ((fail_if_success (with_reducible apply Exists.intro)); first | with_reducible assumption | omega))
  · exact ilo1 (by omega)
  · exact ihi1 (by omega) (by omega)
  · unfold reflexM
    rw [hb, mod_nat1 (by omega), Int.toNat_natCast, Int.toNat_natCast]
def reflK (xs : List Pt) (k : Nat) : List Int := ((List.range k).filter (reflexM xs)).map fun j : Nat => (j : Int)
theorem reflK_succ (xs : List Pt) (k : Nat) : reflK xs (k + 1) = reflK xs k ++ (if reflexM xs k then [(k : Int)] else []) := by
  unfold reflK
  rw [List.range_succ, List.filter_append, List.map_append, List.filter_cons, List.filter_nil]
  cases reflexM xs k <;> rfl
theorem reflK_len (xs : List Pt) (k : Nat) : (reflK xs k).length ≤ k := by
  unfold reflK
  rw [List.length_map]
  exact Nat.le_trans (List.length_filter_le _ _) (by rw [List.length_range]; omega)
theorem beq_dec (a b : Int) : (a == b) = decide (a = b) := by rw [Bool.eq_iff_iff]; simp
def reflM (xs : List Pt) : List Int := if roomOk xs then reflK xs xs.length else []
def convM (xs : List Pt) : Bool := roomOk xs && decide (((reflM xs).length : Int) = 0)
theorem convM_iff {xs : List Pt} : convM xs = true ↔ roomOk xs = true ∧ ∀ k, k < xs.length → reflexM xs k = false := by
  unfold convM
  rw [Bool.and_eq_true, decide_eq_true_eq]
  refine and_congr_right fun hr => ?_
  unfold reflM
  rw [if_pos hr]
  unfold reflK
  rw [List.length_map]
  constructor
  · intro h k hk
    have : (List.filter (reflexM xs) (List.range xs.length)) = [] := List.eq_nil_of_length_eq_zero (by omega)
    have := List.filter_eq_nil_iff.1 this k (List.mem_range.2 hk)
    simpa using this
  · intro h
    rw [List.filter_eq_nil_iff.2 fun k hk => by rw [h k (List.mem_range.1 hk)]; decide]
    rfl
def reflC : Con := mkCon [.room] (fun x => x.1.length ≤ 1048576) fun x => rowI (reflM x.1)
theorem reflCorners_ok : Good1 Try.prog n_impl_ReflexCorners reflC := by
  refine good_ofG (tys := tyL) (env := [(n_impl_RoomOk, roomOkC), (n_impl_reflex, reflexC)]) (envw := []) (envd := []) [8] [] [] [] [] mixed tys ⟨iRoomOk_ok, reflex_ok, trivial⟩ trivial trivial Try.func68 rfl (by kernel_rfl) (by decide) (by kernel_rfl) ?_
  have hG_ := kpz [(0, [1]), (1, [1, 7]), (2, [2]), (3, [1, 3]), (4, [1, 3, 11, 12]), (5, [1, 3, 11, 12, 13]), (6, [1, 3, 4, 11, 12]), (7, [1, 3, 4, 11, 12, 17]), (8, [1, 3, 11, 12]), (9, [1, 3, 11, 12]), (10, [2])] [(3, [8]), (4, [8]), (5, [8]), (6, [8]), (7, [8]), (8, [8]), (9, [8]), (10, [8])] [] []
  rintro ⟨(xs : List Pt), ⟨⟩⟩ (h1 : xs.length ≤ _)
  (repeat' (first | with_reducible exact True.intro | with_reducible refine st_seq ?_ | (with_reducible refine st_regionG hG_ ?_; intro K_ hK_) | (with_reducible refine st_region ?_; intro K_ hK_) | (with_reducible refine hK_ _ _ ?_; try clear hK_ K_) | ((with_reducible refine st_cond (b := ?b_) ?hb_ ?_ ?_); case hb_ => rfl) | with_reducible refine sq_n ?_ | with_reducible refine sq_r ?_ | with_reducible refine sq_e ?_ | with_reducible refine bq_n ?_ | with_reducible refine bq_r ?_ | with_reducible refine bq_q ?_ | with_reducible refine st_block ?_ | with_reducible refine st_exit ?_ | with_reducible refine st_ret ?_ | with_reducible refine st_skip ?_ | with_reducible refine gq_n ?_ | with_reducible refine gq_r ?_ | with_reducible refine gq_e ?_ | with_reducible refine lq_n ?_ | with_reducible refine lq_r ?_ | with_reducible refine lq_e ?_ | with_reducible refine bq_e (by decide) ?_ | ((conv => whnf); first | (with_reducible refine hK_ _ _ ?_; try clear hK_ K_) | (with_reducible refine fun (g_ : Sl) (o_ : Ow) => ?_) | with_reducible exact True.intro | with_reducible refine And.intro trivial ?_ | with_reducible refine And.intro ?_ ?_ | exact Nat.le_of_ble_eq_true rfl | exact Or.inl rfl | (intro h_; cases h_) | (intro h_; (try simp only [cond_true, cond_false, decide_eq_true_eq, decide_eq_false_iff_not, Bool.not_eq_true', Bool.not_eq_false', Int.toNat_natCast, prodEta] at h_)) | rfl))) <;> (try (conv => whnf)) <;> (try first | change (_ : Int) ≤ _ | change (_ : Nat) ≤ _) <;> (try ((fail_if_success (with_reducible apply Exists.intro)); (try dsimp only); (try simp only [cond_true, cond_false, decide_eq_true_eq, decide_eq_false_iff_not, Bool.not_eq_true', Bool.not_eq_false', Int.toNat_natCast, prodEta]))) <;> (try simp (disch := omega) only [ptEq2, cond_true, cond_false, decide_eq_true_eq, decide_eq_false_iff_not, List.length_drop, List.take_length, Int.toNat_zero, List.drop_zero, Nat.zero_add, List.nil_append, mod_nat1, mod_nat2, tm1, tm2, tmj, W_in, Int.add_sub_cancel, tn1, tnp, tnc, List.length_append, List.length_take, List.length_replicate, List.length_set, List.length_map, List.length_cons, List.length_nil, prodEta, Int.toNat_natCast, beq_iff_eq, beq_eq_false_iff_ne, bne_iff_ne, bne_eq_false_iff_eq, ne_eq, Int.natCast_inj, Int.ofNat_lt, Int.ofNat_le] at *)
  all_goals (try ((fail_if_success (with_reducible apply Exists.intro)); first | with_reducible assumption | omega))
  · unfold reflM; rw [h_]; rfl
  have hr : roomOk xs = true := by assumption
  have hl := room_len hr
  refine awp'_loopG (α := Nat) (fun k ver_ => [(12, vInt k)]) (fun k ver_ => [(3, 8, false, .row t_int (.b .int) (reflK xs k))]) (fun k ver_ => []) (fun k => k ≤ xs.length) (fun k => xs.length - k) [1, 11] [] (0) ?_
  conv => whnf
  refine ⟨⟨?inv1_, ?vals1_, ?own1_, ?fix1_⟩, ?body1_⟩
  case' vals1_ => (repeat' (first | with_reducible exact True.intro | with_reducible refine And.intro ?_ ?_ | with_reducible refine Head.mk ?_ ?_ ?_ ?_ | ((conv => lhs; whnf); first | with_reducible rfl | with_reducible exact vInt_s (by omega) | exact rfl) | ((conv => whnf); first | with_reducible exact True.intro | with_reducible refine And.intro ?_ ?_))) <;> (try (conv => lhs; whnf))
  case' own1_ => (repeat' (first | with_reducible exact True.intro | with_reducible refine And.intro ?_ ?_ | with_reducible refine Head.mk ?_ ?_ ?_ ?_ | ((conv => lhs; whnf); first | with_reducible rfl | with_reducible exact vInt_s (by omega) | exact rfl) | ((conv => whnf); first | with_reducible exact True.intro | with_reducible refine And.intro ?_ ?_))) <;> (try (conv => lhs; whnf))
  case' fix1_ => (repeat' (first | with_reducible exact True.intro | with_reducible refine And.intro ?_ ?_ | with_reducible refine Head.mk ?_ ?_ ?_ ?_ | ((conv => lhs; whnf); first | with_reducible rfl | with_reducible exact vInt_s (by omega) | exact rfl) | ((conv => whnf); first | with_reducible exact True.intro | with_reducible refine And.intro ?_ ?_))) <;> (try (conv => lhs; whnf))
  · exact Nat.zero_le _
  rintro k g_ o_ v_ hk
  have hlen := reflK_len xs k
  (repeat' (first | with_reducible exact True.intro | with_reducible refine st_seq ?_ | (with_reducible refine st_regionG hG_ ?_; intro K_ hK_) | (with_reducible refine st_region ?_; intro K_ hK_) | (with_reducible refine hK_ _ _ ?_; try clear hK_ K_) | ((with_reducible refine st_cond (b := ?b_) ?hb_ ?_ ?_); case hb_ => rfl) | with_reducible refine sq_n ?_ | with_reducible refine sq_r ?_ | with_reducible refine sq_e ?_ | with_reducible refine bq_n ?_ | with_reducible refine bq_r ?_ | with_reducible refine bq_q ?_ | with_reducible refine st_block ?_ | with_reducible refine st_exit ?_ | with_reducible refine st_ret ?_ | with_reducible refine st_skip ?_ | with_reducible refine gq_n ?_ | with_reducible refine gq_r ?_ | with_reducible refine gq_e ?_ | with_reducible refine lq_n ?_ | with_reducible refine lq_r ?_ | with_reducible refine lq_e ?_ | with_reducible refine bq_e (by decide) ?_ | ((conv => whnf); first | (with_reducible refine hK_ _ _ ?_; try clear hK_ K_) | (with_reducible refine fun (g_ : Sl) (o_ : Ow) => ?_) | with_reducible exact True.intro | with_reducible refine And.intro trivial ?_ | with_reducible refine And.intro ?_ ?_ | exact Nat.le_of_ble_eq_true rfl | exact Or.inl rfl | (intro h_; cases h_) | (intro h_; (try simp only [cond_true, cond_false, decide_eq_true_eq, decide_eq_false_iff_not, Bool.not_eq_true', Bool.not_eq_false', Int.toNat_natCast, prodEta] at h_)) | rfl))) <;> (try (conv => whnf)) <;> (try first | change (_ : Int) ≤ _ | change (_ : Nat) ≤ _) <;> (try ((fail_if_success (with_reducible apply Exists.intro)); (try dsimp only); (try simp only [cond_true, cond_false, decide_eq_true_eq, decide_eq_false_iff_not, Bool.not_eq_true', Bool.not_eq_false', Int.toNat_natCast, prodEta]))) <;> (try simp (disch := omega) only [ptEq2, cond_true, cond_false, decide_eq_true_eq, decide_eq_false_iff_not, List.length_drop, List.take_length, Int.toNat_zero, List.drop_zero, Nat.zero_add, List.nil_append, mod_nat1, mod_nat2, tm1, tm2, tmj, W_in, Int.add_sub_cancel, tn1, tnp, tnc, List.length_append, List.length_take, List.length_replicate, List.length_set, List.length_map, List.length_cons, List.length_nil, prodEta, Int.toNat_natCast, beq_iff_eq, beq_eq_false_iff_ne, bne_iff_ne, bne_eq_false_iff_eq, ne_eq, Int.natCast_inj, Int.ofNat_lt, Int.ofNat_le] at *)
  all_goals (try ((fail_if_success (with_reducible apply Exists.intro)); first | with_reducible assumption | omega))
  · exact ⟨k, rfl, by omega⟩
  · refine ⟨k + 1, by omega, by omega, ?_⟩
    (repeat' (first | with_reducible exact True.intro | with_reducible refine And.intro ?_ ?_ | with_reducible refine Head.mk ?_ ?_ ?_ ?_ | ((conv => lhs; whnf); first | with_reducible rfl | with_reducible exact vInt_s (by omega) | exact rfl) | ((conv => whnf); first | with_reducible exact True.intro | with_reducible refine And.intro ?_ ?_))) <;> (try (conv => lhs; whnf))
    exact congrArg (Own.row _ _) (by rw [reflK_succ, if_pos (by assumption)])
  · refine ⟨k + 1, by omega, by omega, ?_⟩
    (repeat' (first | with_reducible exact True.intro | with_reducible refine And.intro ?_ ?_ | with_reducible refine Head.mk ?_ ?_ ?_ ?_ | ((conv => lhs; whnf); first | with_reducible rfl | with_reducible exact vInt_s (by omega) | exact rfl) | ((conv => whnf); first | with_reducible exact True.intro | with_reducible refine And.intro ?_ ?_))) <;> (try (conv => lhs; whnf))
    exact congrArg (Own.row _ _) (by rw [reflK_succ, if_neg (by rw [Bool.not_eq_true]; assumption), List.append_nil])
  · unfold reflM
    rw [if_pos hr, show k = xs.length by omega]; rfl
def convC : Con := mkCon [.room] (fun x => x.1.length ≤ 1048576) fun x => vB (convM x.1)
theorem isConvex_ok : Good1 Try.prog n_impl_IsConvex convC := by
  refine good_ofG (tys := tyL) (env := [(n_impl_RoomOk, roomOkC), (n_impl_ReflexCorners, reflC)]) (envw := []) (envd := []) [] [] [] [] [] mixed tys ⟨iRoomOk_ok, reflCorners_ok, trivial⟩ trivial trivial Try.func19 rfl (by kernel_rfl) (by decide) (by kernel_rfl) ?_
  have hG_ := kpz [(0, [1]), (1, [2])] [] [] []
  rintro ⟨(xs : List Pt), ⟨⟩⟩ (h1 : xs.length ≤ _)
  (repeat' (first | with_reducible exact True.intro | with_reducible refine st_seq ?_ | (with_reducible refine st_regionG hG_ ?_; intro K_ hK_) | (with_reducible refine st_region ?_; intro K_ hK_) | (with_reducible refine hK_ _ _ ?_; try clear hK_ K_) | ((with_reducible refine st_cond (b := ?b_) ?hb_ ?_ ?_); case hb_ => rfl) | with_reducible refine sq_n ?_ | with_reducible refine sq_r ?_ | with_reducible refine sq_e ?_ | with_reducible refine bq_n ?_ | with_reducible refine bq_r ?_ | with_reducible refine bq_q ?_ | with_reducible refine st_block ?_ | with_reducible refine st_exit ?_ | with_reducible refine st_ret ?_ | with_reducible refine st_skip ?_ | with_reducible refine gq_n ?_ | with_reducible refine gq_r ?_ | with_reducible refine gq_e ?_ | with_reducible refine lq_n ?_ | with_reducible refine lq_r ?_ | with_reducible refine lq_e ?_ | with_reducible refine bq_e (by decide) ?_ | ((conv => whnf); first | (with_reducible refine hK_ _ _ ?_; try clear hK_ K_) | (with_reducible refine fun (g_ : Sl) (o_ : Ow) => ?_) | with_reducible exact True.intro | with_reducible refine And.intro trivial ?_ | with_reducible refine And.intro ?_ ?_ | exact Nat.le_of_ble_eq_true rfl | exact Or.inl rfl | (intro h_; cases h_) | (intro h_; (try simp only [cond_true, cond_false, decide_eq_true_eq, decide_eq_false_iff_not, Bool.not_eq_true', Bool.not_eq_false', Int.toNat_natCast, prodEta] at h_)) | rfl))) <;> (try (conv => whnf)) <;> (try first | change (_ : Int) ≤ _ | change (_ : Nat) ≤ _) <;> (try ((fail_if_success (with_reducible apply Exists.intro)); (try dsimp only); (try simp only [cond_true, cond_false, decide_eq_true_eq, decide_eq_false_iff_not, Bool.not_eq_true', Bool.not_eq_false', Int.toNat_natCast, prodEta]))) <;> (try simp (disch := omega) only [ptEq2, cond_true, cond_false, decide_eq_true_eq, decide_eq_false_iff_not, List.length_drop, List.take_length, Int.toNat_zero, List.drop_zero, Nat.zero_add, List.nil_append, mod_nat1, mod_nat2, tm1, tm2, tmj, W_in, Int.add_sub_cancel, tn1, tnp, tnc, List.length_append, List.length_take, List.length_replicate, List.length_set, List.length_map, List.length_cons, List.length_nil, prodEta, Int.toNat_natCast, beq_iff_eq, beq_eq_false_iff_ne, bne_iff_ne, bne_eq_false_iff_eq, ne_eq, Int.natCast_inj, Int.ofNat_lt, Int.ofNat_le] at *)
  all_goals (try ((fail_if_success (with_reducible apply Exists.intro)); first | with_reducible assumption | omega))
  · unfold convM
    rw [h_, Bool.true_and]
    exact beq_dec _ _
  · unfold convM; rw [h_]; rfl
theorem iFloorPoints_ok : Good1 Try.prog n_impl_FloorPoints floorTC := by
  refine good_ofG (tys := tyL) (env := [(n_impl_RoomOk, roomOkC), (n_impl_floor, floorC)]) (envw := []) (envd := []) [7] [] [] [] [] mixed tys ⟨iRoomOk_ok, floor_ok, trivial⟩ trivial trivial Try.func13 rfl (by kernel_rfl) (by decide) (by kernel_rfl) ?_
  have hG_ := kpz [(0, [1]), (1, [1, 5]), (2, [2]), (3, [2])] [(3, [7])] [] []
  rintro ⟨(xs : List Pt), ⟨⟩⟩ (h1 : xs.length ≤ _)
  (repeat' (first | with_reducible exact True.intro | with_reducible refine st_seq ?_ | (with_reducible refine st_regionG hG_ ?_; intro K_ hK_) | (with_reducible refine st_region ?_; intro K_ hK_) | (with_reducible refine hK_ _ _ ?_; try clear hK_ K_) | ((with_reducible refine st_cond (b := ?b_) ?hb_ ?_ ?_); case hb_ => rfl) | with_reducible refine sq_n ?_ | with_reducible refine sq_r ?_ | with_reducible refine sq_e ?_ | with_reducible refine bq_n ?_ | with_reducible refine bq_r ?_ | with_reducible refine bq_q ?_ | with_reducible refine st_block ?_ | with_reducible refine st_exit ?_ | with_reducible refine st_ret ?_ | with_reducible refine st_skip ?_ | with_reducible refine gq_n ?_ | with_reducible refine gq_r ?_ | with_reducible refine gq_e ?_ | with_reducible refine lq_n ?_ | with_reducible refine lq_r ?_ | with_reducible refine lq_e ?_ | with_reducible refine bq_e (by decide) ?_ | ((conv => whnf); first | (with_reducible refine hK_ _ _ ?_; try clear hK_ K_) | (with_reducible refine fun (g_ : Sl) (o_ : Ow) => ?_) | with_reducible exact True.intro | with_reducible refine And.intro trivial ?_ | with_reducible refine And.intro ?_ ?_ | exact Nat.le_of_ble_eq_true rfl | exact Or.inl rfl | (intro h_; cases h_) | (intro h_; (try simp only [cond_true, cond_false, decide_eq_true_eq, decide_eq_false_iff_not, Bool.not_eq_true', Bool.not_eq_false', Int.toNat_natCast, prodEta] at h_)) | rfl))) <;> (try (conv => whnf)) <;> (try first | change (_ : Int) ≤ _ | change (_ : Nat) ≤ _) <;> (try ((fail_if_success (with_reducible apply Exists.intro)); (try dsimp only); (try simp only [cond_true, cond_false, decide_eq_true_eq, decide_eq_false_iff_not, Bool.not_eq_true', Bool.not_eq_false', Int.toNat_natCast, prodEta]))) <;> (try simp (disch := omega) only [ptEq2, cond_true, cond_false, decide_eq_true_eq, decide_eq_false_iff_not, List.length_drop, List.take_length, Int.toNat_zero, List.drop_zero, Nat.zero_add, List.nil_append, mod_nat1, mod_nat2, tm1, tm2, tmj, W_in, Int.add_sub_cancel, tn1, tnp, tnc, List.length_append, List.length_take, List.length_replicate, List.length_set, List.length_map, List.length_cons, List.length_nil, prodEta, Int.toNat_natCast, beq_iff_eq, beq_eq_false_iff_ne, bne_iff_ne, bne_eq_false_iff_eq, ne_eq, Int.natCast_inj, Int.ofNat_lt, Int.ofNat_le] at *)
  all_goals (try ((fail_if_success (with_reducible apply Exists.intro)); first | with_reducible assumption | omega))
  · unfold floorPts; rw [h_]; rfl
def btoiC : Con := mkCon [.bool] (fun _ => True) fun x => vI (if x.1 then 1 else 0)
theorem btoi_ok : Good1 Try.prog n_laws_btoi btoiC := by
  refine good_ofG (tys := tyL) (env := []) (envw := []) (envd := []) [] [] [] [] [] mixed tys trivial trivial trivial Try.func17 rfl (by kernel_rfl) (by decide) (by kernel_rfl) ?_
  have hG_ := kpz [(0, [0]), (1, [3]), (2, [2]), (3, [2])] [] [] []
  rintro ⟨(b : Bool), ⟨⟩⟩ -
  (repeat' (first | with_reducible exact True.intro | with_reducible refine st_seq ?_ | (with_reducible refine st_regionG hG_ ?_; intro K_ hK_) | (with_reducible refine st_region ?_; intro K_ hK_) | (with_reducible refine hK_ _ _ ?_; try clear hK_ K_) | ((with_reducible refine st_cond (b := ?b_) ?hb_ ?_ ?_); case hb_ => rfl) | with_reducible refine sq_n ?_ | with_reducible refine sq_r ?_ | with_reducible refine sq_e ?_ | with_reducible refine bq_n ?_ | with_reducible refine bq_r ?_ | with_reducible refine bq_q ?_ | with_reducible refine st_block ?_ | with_reducible refine st_exit ?_ | with_reducible refine st_ret ?_ | with_reducible refine st_skip ?_ | with_reducible refine gq_n ?_ | with_reducible refine gq_r ?_ | with_reducible refine gq_e ?_ | with_reducible refine lq_n ?_ | with_reducible refine lq_r ?_ | with_reducible refine lq_e ?_ | with_reducible refine bq_e (by decide) ?_ | ((conv => whnf); first | (with_reducible refine hK_ _ _ ?_; try clear hK_ K_) | (with_reducible refine fun (g_ : Sl) (o_ : Ow) => ?_) | with_reducible exact True.intro | with_reducible refine And.intro trivial ?_ | with_reducible refine And.intro ?_ ?_ | exact Nat.le_of_ble_eq_true rfl | exact Or.inl rfl | (intro h_; cases h_) | (intro h_; (try simp only [cond_true, cond_false, decide_eq_true_eq, decide_eq_false_iff_not, Bool.not_eq_true', Bool.not_eq_false', Int.toNat_natCast, prodEta] at h_)) | rfl))) <;> (try (conv => whnf)) <;> (try first | change (_ : Int) ≤ _ | change (_ : Nat) ≤ _) <;> (try ((fail_if_success (with_reducible apply Exists.intro)); (try dsimp only); (try simp only [cond_true, cond_false, decide_eq_true_eq, decide_eq_false_iff_not, Bool.not_eq_true', Bool.not_eq_false', Int.toNat_natCast, prodEta])))
  all_goals (try ((fail_if_success (with_reducible apply Exists.intro)); first | with_reducible assumption | omega))
  all_goals skip
def bigC : Con := mkCon [.sl (.b .u8)] (fun _ => True) fun x => vB (decide ((x.1.length : Int) > 1048576))
theorem big_ok : Good1 Try.prog n_laws_big bigC := by
  refine good_ofG (tys := tyL) (env := []) (envw := []) (envd := []) [] [] [] [] [] mixed tys trivial trivial trivial Try.func11 rfl (by kernel_rfl) (by decide) (by kernel_rfl) ?_
  have hG_ := kpz [(0, [0]), (1, [2])] [] [] []
  rintro ⟨(bs : List Int), ⟨⟩⟩ -
  (repeat' (first | with_reducible exact True.intro | with_reducible refine st_seq ?_ | (with_reducible refine st_regionG hG_ ?_; intro K_ hK_) | (with_reducible refine st_region ?_; intro K_ hK_) | (with_reducible refine hK_ _ _ ?_; try clear hK_ K_) | ((with_reducible refine st_cond (b := ?b_) ?hb_ ?_ ?_); case hb_ => rfl) | with_reducible refine sq_n ?_ | with_reducible refine sq_r ?_ | with_reducible refine sq_e ?_ | with_reducible refine bq_n ?_ | with_reducible refine bq_r ?_ | with_reducible refine bq_q ?_ | with_reducible refine st_block ?_ | with_reducible refine st_exit ?_ | with_reducible refine st_ret ?_ | with_reducible refine st_skip ?_ | with_reducible refine gq_n ?_ | with_reducible refine gq_r ?_ | with_reducible refine gq_e ?_ | with_reducible refine lq_n ?_ | with_reducible refine lq_r ?_ | with_reducible refine lq_e ?_ | with_reducible refine bq_e (by decide) ?_ | ((conv => whnf); first | (with_reducible refine hK_ _ _ ?_; try clear hK_ K_) | (with_reducible refine fun (g_ : Sl) (o_ : Ow) => ?_) | with_reducible exact True.intro | with_reducible refine And.intro trivial ?_ | with_reducible refine And.intro ?_ ?_ | exact Nat.le_of_ble_eq_true rfl | exact Or.inl rfl | (intro h_; cases h_) | (intro h_; (try simp only [cond_true, cond_false, decide_eq_true_eq, decide_eq_false_iff_not, Bool.not_eq_true', Bool.not_eq_false', Int.toNat_natCast, prodEta] at h_)) | rfl))) <;> (try (conv => whnf)) <;> (try first | change (_ : Int) ≤ _ | change (_ : Nat) ≤ _) <;> (try ((fail_if_success (with_reducible apply Exists.intro)); (try dsimp only); (try simp only [cond_true, cond_false, decide_eq_true_eq, decide_eq_false_iff_not, Bool.not_eq_true', Bool.not_eq_false', Int.toNat_natCast, prodEta])))
  all_goals (try ((fail_if_success (with_reducible apply Exists.intro)); first | with_reducible assumption | omega))
end Go.Proofs.Ytnepfcnlngpchaa
namespace Go.Proofs.Ytnepfcnlngpchaa
open Go.RowKit Go.Proofs.Ytnepfcnlngpchaa.Nm
set_option maxRecDepth 10000
set_option linter.unusedSimpArgs false
set_option linter.unusedVariables false
def mirP (p : Pt) : Pt := (IntKind.i64.wrap (0 - p.1), p.2)
end Go.Proofs.Ytnepfcnlngpchaa
namespace Go.Proofs.Ytnepfcnlngpchaa
open Go.RowKit Go.Proofs.Ytnepfcnlngpchaa.Nm
set_option maxRecDepth 10000
set_option linter.unusedSimpArgs false
set_option linter.unusedVariables false
theorem locRow_eq {v : Nat} {t : TypeId} {k : ElK} {xs ys : List k.T} (h : xs = ys) : (⟨v, .row t k xs⟩ : Loc) = ⟨v, .row t k ys⟩ := by rw [h]
def roomRoomC (f : List Pt → List Pt) : Con := mkCon [.room] (fun x => x.1.length ≤ 1048576) fun x => rRoom (f x.1)
end Go.Proofs.Ytnepfcnlngpchaa
namespace Go.Proofs.Ytnepfcnlngpchaa.Geo
set_option linter.unusedSimpArgs false
set_option linter.unusedVariables false
theorem pp {a b : Int} (h1 : 0 < a) (h2 : 0 < b) : 0 < a * b := Int.mul_pos h1 h2
theorem nn0 {a b : Int} (h1 : 0 ≤ a) (h2 : 0 ≤ b) : 0 ≤ a * b := Int.mul_nonneg h1 h2
theorem mm0 {a b : Int} (h1 : a ≤ 0) (h2 : b ≤ 0) : 0 ≤ a * b := by have := Int.mul_nonneg (show 0 ≤ -a by omega) (show 0 ≤ -b by omega); rwa [Int.neg_mul_neg] at this
theorem pm0 {a b : Int} (h1 : 0 ≤ a) (h2 : b ≤ 0) : a * b ≤ 0 := by have := Int.mul_nonneg h1 (show 0 ≤ -b by omega); rw [Int.mul_neg] at this; omega
theorem mp0 {a b : Int} (h1 : a ≤ 0) (h2 : 0 ≤ b) : a * b ≤ 0 := by have := Int.mul_nonneg (show 0 ≤ -a by omega) h2; rw [Int.neg_mul] at this; omega
theorem mm {a b : Int} (h1 : a < 0) (h2 : b < 0) : 0 < a * b := by have := Int.mul_pos (show 0 < -a by omega) (show 0 < -b by omega); rwa [Int.neg_mul_neg] at this
theorem pm {a b : Int} (h1 : 0 < a) (h2 : b < 0) : a * b < 0 := by have := Int.mul_pos h1 (show 0 < -b by omega); rw [Int.mul_neg] at this; omega
theorem mp {a b : Int} (h1 : a < 0) (h2 : 0 < b) : a * b < 0 := by have := Int.mul_pos (show 0 < -a by omega) h2; rw [Int.neg_mul] at this; omega
section
variable {A B U V p r d fa fb fq fr : Int}
theorem e2_of (E0 : B - A = U - V) (E1 : B * p - A * r = U * d) : B * (p - d) - A * (r - d) = V * d := by grind
theorem lm (E0 : B - A = U - V) (E1 : B * p - A * r = U * d) (F : B * fa - A * fb = U * fr - V * fq) (hd : 0 < d) (ha : 0 < fa) (hb : 0 < fb) (hq : fq ≤ 0) (hr : fr ≤ 0)
    (h1 : p ≤ 0) (h2 : 0 < r) (h3 : r ≤ d) : 0 < U ↔ B < 0 := by
  have E2 := e2_of E0 E1
  constructor
  · intro hU
    rcases (show B < 0 ∨ 0 ≤ B by omega) with h | hB
    · exact h
    exfalso
    have g1 := pp hU hd
    have g2 := pm0 hB h1
    rcases (show A < 0 ∨ 0 ≤ A by omega) with hA | hA
    · rcases (show 0 < V ∨ V ≤ 0 by omega) with hV | hV
      · have g3 := pp hV hd
        have g4 := pm0 hB (show p - d ≤ 0 by omega)
        have g5 := mm0 (show A ≤ 0 by omega) (show r - d ≤ 0 by omega)
        omega
      · have g3 := nn0 hB (show 0 ≤ fa by omega)
        have g4 := mp hA hb
        have g5 := pm0 (show 0 ≤ U by omega) hr
        have g6 := mm0 hV hq
        omega
    · have g3 := nn0 hA (show 0 ≤ r by omega)
      omega
  · intro hB
    rcases (show 0 < U ∨ U ≤ 0 by omega) with h | hU
    · exact h
    exfalso
    have g1 := mp0 hU (show 0 ≤ d by omega)
    have g2 := mm0 (show B ≤ 0 by omega) h1
    rcases (show A < 0 ∨ 0 ≤ A by omega) with hA | hA
    · have g3 := mp hA h2
      omega
    · have g3 := mp hB ha
      have g4 := nn0 hA (show 0 ≤ fb by omega)
      have g5 := mm0 hU hr
      rcases (show 0 < V ∨ V ≤ 0 by omega) with hV | hV
      · have g6 := pm0 (show 0 ≤ V by omega) hq
        omega
      · have g6 := mm hB (show p - d < 0 by omega)
        have g7 := pm0 hA (show r - d ≤ 0 by omega)
        have g8 := mp0 hV (show 0 ≤ d by omega)
        omega
theorem lh (E0 : B - A = U - V) (E1 : B * p - A * r = U * d) (F : B * fa - A * fb = U * fr - V * fq) (hd : 0 < d) (ha : 0 < fa) (hb : 0 < fb) (hq : fq ≤ 0) (hr : fr ≤ 0)
    (h1 : p ≤ 0) (h2 : d < r) : 0 < U ↔ 0 < V := by
  have E2 := e2_of E0 E1
  constructor
  · intro hU
    rcases (show 0 < V ∨ V ≤ 0 by omega) with h | hV
    · exact h
    exfalso
    have g1 := pp hU hd
    have g0 := mp0 hV (show 0 ≤ d by omega)
    rcases (show A < 0 ∨ 0 ≤ A by omega) with hA | hA
    · rcases (show B < 0 ∨ 0 ≤ B by omega) with hB | hB
      · have g2 := mm hB (show p - d < 0 by omega)
        have g3 := mp hA (show 0 < r - d by omega)
        omega
      · have g3 := nn0 hB (show 0 ≤ fa by omega)
        have g4 := mp hA hb
        have g5 := pm0 (show 0 ≤ U by omega) hr
        have g6 := mm0 hV hq
        omega
    · rcases (show B < 0 ∨ 0 ≤ B by omega) with hB | hB
      · omega
      · have g2 := pm0 hB h1
        have g3 := nn0 hA (show 0 ≤ r by omega)
        omega
  · intro hV
    rcases (show 0 < U ∨ U ≤ 0 by omega) with h | hU
    · exact h
    exfalso
    have g1 := pp hV hd
    have g0 := mp0 hU (show 0 ≤ d by omega)
    rcases (show A < 0 ∨ 0 ≤ A by omega) with hA | hA
    · rcases (show B < 0 ∨ 0 ≤ B by omega) with hB | hB
      · have g2 := mm0 (show B ≤ 0 by omega) h1
        have g3 := mp hA (show 0 < r by omega)
        omega
      · omega
    · rcases (show B < 0 ∨ 0 ≤ B by omega) with hB | hB
      · have g2 := mp hB ha
        have g3 := nn0 hA (show 0 ≤ fb by omega)
        have g4 := mm0 hU hr
        have g5 := pm0 (show 0 ≤ V by omega) hq
        omega
      · have g2 := pm0 hB (show p - d ≤ 0 by omega)
        have g3 := nn0 hA (show 0 ≤ r - d by omega)
        omega
theorem mmL (E0 : B - A = U - V) (E1 : B * p - A * r = U * d) (F : B * fa - A * fb = U * fr - V * fq) (hd : 0 < d) (ha : 0 < fa) (hb : 0 < fb) (hq : fq ≤ 0) (hr : fr ≤ 0)
    (h1 : 0 < p) (h2 : p ≤ d) (h3 : 0 < r) (h4 : r ≤ d) : A < 0 ↔ B < 0 := by
  have E2 := e2_of E0 E1
  constructor
  · intro hA
    rcases (show B < 0 ∨ 0 ≤ B by omega) with h | hB
    · exact h
    exfalso
    have g1 := nn0 hB (show 0 ≤ p by omega)
    have g2 := mp hA h3
    have g3 := pm0 hB (show p - d ≤ 0 by omega)
    have g4 := mm0 (show A ≤ 0 by omega) (show r - d ≤ 0 by omega)
    have g5 := nn0 hB (show 0 ≤ fa by omega)
    have g6 := mp hA hb
    rcases (show 0 < U ∨ U ≤ 0 by omega) with hU | hU
    · have g7 := pm0 (show 0 ≤ U by omega) hr
      rcases (show 0 < V ∨ V ≤ 0 by omega) with hV | hV
      · have := pp hV hd; omega
      · have := mm0 hV hq; omega
    · have := mp0 hU (show 0 ≤ d by omega); omega
  · intro hB
    rcases (show A < 0 ∨ 0 ≤ A by omega) with h | hA
    · exact h
    exfalso
    have g1 := mp hB h1
    have g2 := nn0 hA (show 0 ≤ r by omega)
    have g3 := mm0 (show B ≤ 0 by omega) (show p - d ≤ 0 by omega)
    have g4 := pm0 hA (show r - d ≤ 0 by omega)
    have g5 := mp hB ha
    have g6 := nn0 hA (show 0 ≤ fb by omega)
    rcases (show U < 0 ∨ 0 ≤ U by omega) with hU | hU
    · have g7 := mm0 (show U ≤ 0 by omega) hr
      rcases (show V < 0 ∨ 0 ≤ V by omega) with hV | hV
      · have := mp hV hd; omega
      · have := pm0 hV hq; omega
    · have := nn0 hU (show 0 ≤ d by omega); omega
theorem mh (E0 : B - A = U - V) (E1 : B * p - A * r = U * d) (F : B * fa - A * fb = U * fr - V * fq) (hd : 0 < d) (ha : 0 < fa) (hb : 0 < fb) (hq : fq ≤ 0) (hr : fr ≤ 0)
    (h1 : 0 < p) (h2 : p ≤ d) (h3 : d < r) : 0 < V ↔ A < 0 := by
  have E2 := e2_of E0 E1
  constructor
  · intro hV
    rcases (show A < 0 ∨ 0 ≤ A by omega) with h | hA
    · exact h
    exfalso
    have g1 := pp hV hd
    have g2 := nn0 hA (show 0 ≤ r - d by omega)
    have g3 := nn0 hA (show 0 ≤ r by omega)
    rcases (show B < 0 ∨ 0 ≤ B by omega) with hB | hB
    · have g4 := mp hB h1
      have g5 := mp hB ha
      have g6 := nn0 hA (show 0 ≤ fb by omega)
      have g7 := pm0 (show 0 ≤ V by omega) hq
      rcases (show U < 0 ∨ 0 ≤ U by omega) with hU | hU
      · have := mm0 (show U ≤ 0 by omega) hr; omega
      · have := nn0 hU (show 0 ≤ d by omega); omega
    · have g4 := pm0 hB (show p - d ≤ 0 by omega)
      omega
  · intro hA
    rcases (show 0 < V ∨ V ≤ 0 by omega) with h | hV
    · exact h
    exfalso
    have g1 := mp0 hV (show 0 ≤ d by omega)
    have g2 := mp hA (show 0 < r - d by omega)
    have g3 := mp hA (show 0 < r by omega)
    rcases (show B < 0 ∨ 0 ≤ B by omega) with hB | hB
    · have g4 := mm0 (show B ≤ 0 by omega) (show p - d ≤ 0 by omega)
      omega
    · have g4 := nn0 hB (show 0 ≤ p by omega)
      have g5 := nn0 hB (show 0 ≤ fa by omega)
      have g6 := mp hA hb
      have g7 := mm0 hV hq
      rcases (show 0 < U ∨ U ≤ 0 by omega) with hU | hU
      · have := pm0 (show 0 ≤ U by omega) hr; omega
      · have := mp0 hU (show 0 ≤ d by omega); omega
end
structure Aff where
  u : Int
  v : Int
  w : Int
def Aff.ev (f : Aff) (p : Pt) : Int := f.u * p.1 + f.v * p.2 + f.w
theorem tid (a b q r : Pt) : turnZ q r b - turnZ q r a = turnZ a b q - turnZ a b r := by unfold turnZ; grind
theorem aid (f : Aff) (a b q r : Pt) : turnZ q r b * f.ev a - turnZ q r a * f.ev b = turnZ a b q * f.ev r - turnZ a b r * f.ev q := by unfold turnZ Aff.ev; grind
theorem turnZ_swap (a b p : Pt) : turnZ b a p = - turnZ a b p := by unfold turnZ; grind
def crN (h : Aff) (p a b : Pt) : Int :=
  if h.ev a ≤ h.ev p ∧ h.ev p < h.ev b ∧ 0 < turnZ a b p then 1 else if h.ev b ≤ h.ev p ∧ h.ev p < h.ev a ∧ turnZ a b p < 0 then -1 else 0
theorem crN_swap (h : Aff) (p a b : Pt) : crN h p b a = - crN h p a b := by
  unfold crN
  rw [turnZ_swap a b p]
  repeat' split
  all_goals omega
def inS (h : Aff) (q r x : Pt) : Int := if h.ev q < h.ev x ∧ h.ev x ≤ h.ev r ∧ turnZ q r x < 0 then 1 else 0
def Part (a b q r : Pt) : Prop := ∃ f : Aff, 0 < f.ev a ∧ 0 < f.ev b ∧ f.ev q ≤ 0 ∧ f.ev r ≤ 0
theorem cr_step' (h : Aff) {a b q r : Pt} (hs : Part a b q r) (hd : h.ev q < h.ev r) (hab : h.ev a ≤ h.ev b) : crN h q a b - crN h r a b = inS h q r b - inS h q r a := by
  obtain ⟨f, fa, fb, fq, fr⟩ := hs
  have E0 := tid a b q r
  have E := aid h a b q r
  have F := aid f a b q r
  have E1 : turnZ q r b * (h.ev a - h.ev q) - turnZ q r a * (h.ev b - h.ev q) = turnZ a b q * (h.ev r - h.ev q) := by grind
  unfold crN inS
  generalize turnZ q r b = B at *
  generalize turnZ q r a = A at *
  generalize turnZ a b q = U at *
  generalize turnZ a b r = V at *
  have hd' : 0 < h.ev r - h.ev q := by omega
  rcases (show h.ev a ≤ h.ev q ∨ (h.ev q < h.ev a ∧ h.ev a ≤ h.ev r) ∨ h.ev r < h.ev a by omega) with ha | ⟨ha1, ha2⟩ | ha
  · rcases (show h.ev b ≤ h.ev q ∨ (h.ev q < h.ev b ∧ h.ev b ≤ h.ev r) ∨ h.ev r < h.ev b by omega) with hb | ⟨hb1, hb2⟩ | hb
    · repeat' split
      all_goals omega
    · have := lm E0 E1 F hd' fa fb fq fr (by omega) (by omega) (by omega)
      repeat' split
      all_goals omega
    · have := lh E0 E1 F hd' fa fb fq fr (by omega) (by omega)
      repeat' split
      all_goals omega
  · rcases (show h.ev b ≤ h.ev r ∨ h.ev r < h.ev b by omega) with hb | hb
    · have := mmL E0 E1 F hd' fa fb fq fr (by omega) (by omega) (by omega) (by omega)
      repeat' split
      all_goals omega
    · have := mh E0 E1 F hd' fa fb fq fr (by omega) (by omega) (by omega)
      repeat' split
      all_goals omega
  · repeat' split
    all_goals omega
theorem Part.swap {a b q r : Pt} (hs : Part a b q r) : Part b a q r := let ⟨f, fa, fb, fq, fr⟩ := hs; ⟨f, fb, fa, fq, fr⟩
theorem cr_step (h : Aff) {a b q r : Pt} (hs : Part a b q r) (hd : h.ev q < h.ev r) : crN h q a b - crN h r a b = inS h q r b - inS h q r a := by
  rcases (show h.ev a ≤ h.ev b ∨ h.ev b ≤ h.ev a by omega) with hab | hab
  · exact cr_step' h hs hd hab
  · have := cr_step' h hs.swap hd hab
    rw [crN_swap h q a b, crN_swap h r a b] at this
    omega
section
variable {A B U V p r d fa fb fq fr : Int}
theorem lev (E0 : B - A = U - V) (E1 : B * p = A * r) (F : B * fa - A * fb = U * fr - V * fq) (ha : 0 < fa) (hb : 0 < fb) (hq : fq ≤ 0) (hr : fr ≤ 0)
    (h1 : p ≤ 0) (h2 : 0 < r) : 0 < U ↔ 0 < V := by
  constructor
  · intro hU
    rcases (show 0 < V ∨ V ≤ 0 by omega) with h | hV
    · exact h
    exfalso
    have g5 := pm0 (show 0 ≤ U by omega) hr
    have g6 := mm0 hV hq
    rcases (show 0 < B ∨ B ≤ 0 by omega) with hB | hB
    · have g1 := pm0 (show 0 ≤ B by omega) h1
      have g2 := pp hB ha
      rcases (show 0 < A ∨ A ≤ 0 by omega) with hA | hA
      · have := pp hA h2; omega
      · have := mp0 hA (show 0 ≤ fb by omega); omega
    · have g1 := mm0 hB h1
      have := mp (show A < 0 by omega) h2
      omega
  · intro hV
    rcases (show 0 < U ∨ U ≤ 0 by omega) with h | hU
    · exact h
    exfalso
    have g5 := mm0 hU hr
    have g6 := pm0 (show 0 ≤ V by omega) hq
    rcases (show B < 0 ∨ 0 ≤ B by omega) with hB | hB
    · have g1 := mm0 (show B ≤ 0 by omega) h1
      have g2 := mp hB ha
      rcases (show A < 0 ∨ 0 ≤ A by omega) with hA | hA
      · have := mp hA h2; omega
      · have := nn0 hA (show 0 ≤ fb by omega); omega
    · have g1 := pm0 hB h1
      have := pp (show 0 < A by omega) h2
      omega
end
theorem cr_level' (h : Aff) {a b q r : Pt} (hs : Part a b q r) (hd : h.ev q = h.ev r) (hab : h.ev a ≤ h.ev b) : crN h q a b = crN h r a b := by
  obtain ⟨f, fa, fb, fq, fr⟩ := hs
  have E0 := tid a b q r
  have E := aid h a b q r
  have F := aid f a b q r
  have E1 : turnZ q r b * (h.ev a - h.ev q) = turnZ q r a * (h.ev b - h.ev q) := by grind
  unfold crN
  generalize turnZ q r b = B at *
  generalize turnZ q r a = A at *
  generalize turnZ a b q = U at *
  generalize turnZ a b r = V at *
  rcases (show h.ev q < h.ev a ∨ h.ev b ≤ h.ev q ∨ (h.ev a ≤ h.ev q ∧ h.ev q < h.ev b) by omega) with ha | ha | ⟨h1, h2⟩
  · repeat' split
    all_goals omega
  · repeat' split
    all_goals omega
  · have := lev E0 E1 F fa fb fq fr (by omega) (by omega)
    repeat' split
    all_goals omega
theorem cr_level (h : Aff) {a b q r : Pt} (hs : Part a b q r) (hd : h.ev q = h.ev r) : crN h q a b = crN h r a b := by
  rcases (show h.ev a ≤ h.ev b ∨ h.ev b ≤ h.ev a by omega) with hab | hab
  · exact cr_level' h hs hd hab
  · have := cr_level' h hs.swap hd hab
    rw [crN_swap h q a b, crN_swap h r a b] at this
    omega
def sumN (f : Nat → Int) : Nat → Int
  | 0 => 0
  | n + 1 => sumN f n + f n
theorem sumN_congr {f g : Nat → Int} : ∀ {n : Nat}, (∀ k, k < n → f k = g k) → sumN f n = sumN g n
  | 0, _ => rfl
  | n + 1, h => by simp only [sumN]; rw [sumN_congr fun k hk => h k (by omega), h n (by omega)]
theorem sumN_sub (f g : Nat → Int) : ∀ n, sumN (fun k => f k - g k) n = sumN f n - sumN g n
  | 0 => rfl
  | n + 1 => by simp only [sumN]; rw [sumN_sub f g n]; omega
theorem sumN_tel (g : Nat → Int) : ∀ n, sumN (fun k => g (k + 1) - g k) n = g n - g 0
  | 0 => by simp [sumN]
  | n + 1 => by simp only [sumN]; rw [sumN_tel g n]; omega
theorem sumN_one {f : Nat → Int} {k : Nat} : ∀ {n : Nat}, k < n → sumN f n = sumN (fun j => if j = k then 0 else f j) n + f k
  | 0, h => by omega
  | n + 1, h => by
    simp only [sumN]
    by_cases e : n = k
    · subst e
      rw [if_pos rfl, sumN_congr (f := fun j => if j = n then 0 else f j) (g := f) fun j hj => if_neg (by omega)]
      omega
    · rw [sumN_one (k := k) (n := n) (by omega), if_neg e]; omega
structure Way where
  n : Nat
  v : Nat → Pt
  cyc : v n = v 0
def wnd (h : Aff) (P : Way) (p : Pt) : Int := sumN (fun k => crN h p (P.v k) (P.v (k + 1))) P.n
def wndO (h : Aff) (P : Way) (k : Nat) (p : Pt) : Int := sumN (fun j => if j = k then 0 else crN h p (P.v j) (P.v (j + 1))) P.n
theorem wnd_one (h : Aff) (P : Way) {k : Nat} (hk : k < P.n) (p : Pt) : wnd h P p = wndO h P k p + crN h p (P.v k) (P.v (k + 1)) := sumN_one hk
theorem tel_one (P : Way) (J : Pt → Int) {k : Nat} (hk : k < P.n) : sumN (fun j => if j = k then 0 else J (P.v (j + 1)) - J (P.v j)) P.n = J (P.v k) - J (P.v (k + 1)) := by
  have h1 := sumN_tel (fun j => J (P.v j)) P.n
  have h2 := sumN_one (f := fun j => J (P.v (j + 1)) - J (P.v j)) hk
  rw [h1] at h2
  simp only [P.cyc] at h2
  omega
theorem wnd_step (h : Aff) (P : Way) {q r : Pt} (hs : ∀ j, j < P.n → Part (P.v j) (P.v (j + 1)) q r) : wnd h P q = wnd h P r := by
  have key : ∀ {q r : Pt}, (∀ j, j < P.n → Part (P.v j) (P.v (j + 1)) q r) → h.ev q < h.ev r → wnd h P q = wnd h P r := by
    intro q r hs hd
    have h1 : sumN (fun k => crN h q (P.v k) (P.v (k + 1)) - crN h r (P.v k) (P.v (k + 1))) P.n = sumN (fun k => inS h q r (P.v (k + 1)) - inS h q r (P.v k)) P.n :=
      sumN_congr fun k hk => cr_step h (hs k hk) hd
    rw [sumN_sub, sumN_tel (fun k => inS h q r (P.v k)), P.cyc] at h1
    unfold wnd
    omega
  rcases (show h.ev q < h.ev r ∨ h.ev q = h.ev r ∨ h.ev r < h.ev q by omega) with hd | hd | hd
  · exact key hs hd
  · exact sumN_congr fun k hk => cr_level h (hs k hk) hd
  · exact (key (fun j hj => let ⟨f, fa, fb, fq, fr⟩ := hs j hj; ⟨f, fa, fb, fr, fq⟩) hd).symm
theorem wndO_step (h : Aff) (P : Way) {k : Nat} (hk : k < P.n) {q r : Pt} (hs : ∀ j, j < P.n → j ≠ k → Part (P.v j) (P.v (j + 1)) q r) (hd : h.ev q < h.ev r) :
    wndO h P k q - wndO h P k r = inS h q r (P.v k) - inS h q r (P.v (k + 1)) := by
  rw [← tel_one P (inS h q r) hk]
  unfold wndO
  rw [← sumN_sub]
  refine sumN_congr fun j hj => ?_
  by_cases e : j = k
  · simp [e]
  · rw [if_neg e, if_neg e, if_neg e]; exact cr_step h (hs j hj e) hd
theorem wndO_level (h : Aff) (P : Way) {k : Nat} {q r : Pt} (hs : ∀ j, j < P.n → j ≠ k → Part (P.v j) (P.v (j + 1)) q r) (hd : h.ev q = h.ev r) : wndO h P k q = wndO h P k r := by
  refine sumN_congr fun j hj => ?_
  by_cases e : j = k
  · simp [e]
  · rw [if_neg e, if_neg e]; exact cr_level h (hs j hj e) hd
def side (h : Aff) (p a b : Pt) : Int := if h.ev a < h.ev b ∧ 0 < turnZ a b p then 1 else if h.ev b < h.ev a ∧ turnZ a b p < 0 then -1 else 0
theorem plu (h : Aff) (a b p x : Pt) : (h.ev b - h.ev a) * turnZ p x a + (h.ev x - h.ev a) * turnZ a b p = (h.ev p - h.ev a) * turnZ a b x := by unfold turnZ Aff.ev; grind
theorem sgn_of {s t m n : Int} (hs : 0 < s) (ht : 0 < t) (e : s * m + t * n = 0) : (m < 0 ↔ 0 < n) ∧ (0 < m ↔ n < 0) := by
  rcases (show m < 0 ∨ m = 0 ∨ 0 < m by omega) with h | h | h
  · have h1 := pm hs h
    have : 0 < n := by
      rcases (show 0 < n ∨ n ≤ 0 by omega) with h2 | h2
      · exact h2
      · have := pm0 (show 0 ≤ t by omega) h2; omega
    omega
  · subst h
    rw [Int.mul_zero, Int.zero_add] at e
    have : n = 0 := by rcases Int.mul_eq_zero.1 e with h | h <;> omega
    omega
  · have h1 := pp hs h
    have : n < 0 := by
      rcases (show n < 0 ∨ 0 ≤ n by omega) with h2 | h2
      · exact h2
      · have := nn0 (show 0 ≤ t by omega) h2; omega
    omega
def OnO (h : Aff) (x a b : Pt) : Prop := turnZ a b x = 0 ∧ ((h.ev a < h.ev x ∧ h.ev x < h.ev b) ∨ (h.ev b < h.ev x ∧ h.ev x < h.ev a))
theorem wndO_step' (h : Aff) (P : Way) {k : Nat} (hk : k < P.n) {q r a b : Pt} (hs : ∀ j, j < P.n → j ≠ k → Part (P.v j) (P.v (j + 1)) q r) (hd : h.ev q < h.ev r) (ha : P.v k = a) (hb : P.v (k + 1) = b) :
    wndO h P k q - wndO h P k r = inS h q r a - inS h q r b := by
  subst ha; subst hb; exact wndO_step h P hk hs hd
theorem wnd_see (h : Aff) (P : Way) {k : Nat} (hk : k < P.n) {p x : Pt} (hx : OnO h x (P.v k) (P.v (k + 1))) (hs : ∀ j, j < P.n → j ≠ k → Part (P.v j) (P.v (j + 1)) p x) :
    wnd h P p = wndO h P k x + side h p (P.v k) (P.v (k + 1)) := by
  rw [wnd_one h P hk]
  obtain ⟨h0, hx⟩ := hx
  obtain ⟨a, hPa⟩ : ∃ a, P.v k = a := ⟨_, rfl⟩
  obtain ⟨b, hPb⟩ : ∃ b, P.v (k + 1) = b := ⟨_, rfl⟩
  rw [hPa, hPb] at h0 hx ⊢
  have i1 := plu h a b p x
  have i2 := plu h b a p x
  have i3 := turnZ_swap a b p
  have i4 := turnZ_swap a b x
  have i5 : turnZ x p a = - turnZ p x a := turnZ_swap p x a
  have i6 : turnZ x p b = - turnZ p x b := turnZ_swap p x b
  rw [h0, Int.mul_zero] at i1
  rw [i4, h0, i3] at i2
  rcases (show h.ev p < h.ev x ∨ h.ev p = h.ev x ∨ h.ev x < h.ev p by omega) with hd | hd | hd
  · have e := wndO_step' h P hk hs hd hPa hPb
    rcases hx with ⟨ha, hb⟩ | ⟨hb, ha⟩
    · have := sgn_of (show 0 < h.ev b - h.ev a by omega) (show 0 < h.ev x - h.ev a by omega) i1
      unfold inS at e
      unfold crN side
      revert e
      repeat' split
      all_goals omega
    · have := sgn_of (show 0 < h.ev a - h.ev b by omega) (show 0 < h.ev x - h.ev b by omega) (show (h.ev a - h.ev b) * turnZ p x b + (h.ev x - h.ev b) * (- turnZ a b p) = 0 by omega)
      unfold inS at e
      unfold crN side
      revert e
      repeat' split
      all_goals omega
  · rw [wndO_level h P hs hd]
    unfold crN side
    repeat' split
    all_goals omega
  · have e := wndO_step' h P hk (q := x) (r := p) (fun j hj hjk => let ⟨f, fa, fb, fq, fr⟩ := hs j hj hjk; ⟨f, fa, fb, fr, fq⟩) hd hPa hPb
    rcases hx with ⟨ha, hb⟩ | ⟨hb, ha⟩
    · have := sgn_of (show 0 < h.ev b - h.ev a by omega) (show 0 < h.ev b - h.ev x by omega) (show (h.ev b - h.ev a) * turnZ p x b + (h.ev b - h.ev x) * (- turnZ a b p) = 0 by rw [← Int.neg_inj]; rw [← Int.neg_sub (h.ev b) (h.ev a), ← Int.neg_sub (h.ev b) (h.ev x), Int.neg_mul, Int.neg_mul] at i2; omega)
      unfold inS at e
      unfold crN side
      revert e
      repeat' split
      all_goals omega
    · have := sgn_of (show 0 < h.ev a - h.ev b by omega) (show 0 < h.ev a - h.ev x by omega) (show (h.ev a - h.ev b) * turnZ p x a + (h.ev a - h.ev x) * turnZ a b p = 0 by rw [← Int.neg_inj]; rw [← Int.neg_sub (h.ev a) (h.ev b), ← Int.neg_sub (h.ev a) (h.ev x), Int.neg_mul, Int.neg_mul] at i1; omega)
      unfold inS at e
      unfold crN side
      revert e
      repeat' split
      all_goals omega
theorem wndO_along (h : Aff) (P : Way) {k : Nat} (hk : k < P.n) {x y : Pt} (hx : turnZ (P.v k) (P.v (k + 1)) x = 0) (hy : turnZ (P.v k) (P.v (k + 1)) y = 0) (hab : P.v k ≠ P.v (k + 1)) (hs : ∀ j, j < P.n → j ≠ k → Part (P.v j) (P.v (j + 1)) x y) :
    wndO h P k x = wndO h P k y := by
  have flat : ∀ {a b x y : Pt}, a ≠ b → turnZ a b x = 0 → turnZ a b y = 0 → turnZ x y a = 0 ∧ turnZ x y b = 0 := by
    intro a b x y hab hx hy
    have one : ∀ a b x y : Pt, a ≠ b → turnZ a b x = 0 → turnZ a b y = 0 → turnZ x y a = 0 := by
      intro a b x y hab hx hy
      have i1 : (b.1 - a.1) * turnZ x y a = (x.1 - a.1) * turnZ a b y - (y.1 - a.1) * turnZ a b x := by unfold turnZ; grind
      have i2 : (b.2 - a.2) * turnZ x y a = (x.2 - a.2) * turnZ a b y - (y.2 - a.2) * turnZ a b x := by unfold turnZ; grind
      rw [hx, hy, Int.mul_zero, Int.mul_zero, Int.sub_zero] at i1 i2
      rcases Int.mul_eq_zero.1 i1 with h1 | h1
      · rcases Int.mul_eq_zero.1 i2 with h2 | h2
        · exact absurd (Prod.ext (by omega) (by omega)) hab
        · exact h2
      · exact h1
    exact ⟨one a b x y hab hx hy, one b a x y (Ne.symm hab) (by rw [turnZ_swap, hx]; rfl) (by rw [turnZ_swap, hy]; rfl)⟩
  have key : ∀ {x y : Pt}, turnZ (P.v k) (P.v (k + 1)) x = 0 → turnZ (P.v k) (P.v (k + 1)) y = 0 → (∀ j, j < P.n → j ≠ k → Part (P.v j) (P.v (j + 1)) x y) → h.ev x < h.ev y → wndO h P k x = wndO h P k y := by
    intro x y hx hy hs hd
    have e := wndO_step h P hk hs hd
    have ⟨f1, f2⟩ := flat hab hx hy
    unfold inS at e
    rw [f1, f2] at e
    simp at e
    omega
  rcases (show h.ev x < h.ev y ∨ h.ev x = h.ev y ∨ h.ev y < h.ev x by omega) with hd | hd | hd
  · exact key hx hy hs hd
  · exact wndO_level h P hs hd
  · exact (key hy hx (fun j hj hjk => let ⟨f, fa, fb, fq, fr⟩ := hs j hj hjk; ⟨f, fa, fb, fr, fq⟩) hd).symm
def smul (K : Int) (p : Pt) : Pt := (K * p.1, K * p.2)
def padd (p q : Pt) : Pt := (p.1 + q.1, p.2 + q.2)
def psub (p q : Pt) : Pt := (p.1 - q.1, p.2 - q.2)
def Aff.sc (K : Int) (h : Aff) : Aff := ⟨h.u, h.v, K * h.w⟩
def Way.sc (K : Int) (P : Way) : Way := ⟨P.n, fun k => smul K (P.v k), by show smul K (P.v P.n) = smul K (P.v 0); rw [P.cyc]⟩
def Aff.lin (h : Aff) (d : Pt) : Int := h.u * d.1 + h.v * d.2
theorem ev_sc (h : Aff) (K : Int) (p d : Pt) : (h.sc K).ev (padd (smul K p) d) = K * h.ev p + h.lin d := by unfold Aff.ev Aff.sc smul padd Aff.lin; grind
theorem ev_sc0 (h : Aff) (K : Int) (p : Pt) : (h.sc K).ev (smul K p) = K * h.ev p := by unfold Aff.ev Aff.sc smul; grind
theorem turn_sc (K : Int) (a b p d : Pt) : turnZ (smul K a) (smul K b) (padd (smul K p) d) = K * (K * turnZ a b p + turnZ a b (padd a d)) := by unfold turnZ smul padd; grind
theorem turn_sc0 (K : Int) (a b p : Pt) : turnZ (smul K a) (smul K b) (smul K p) = K * (K * turnZ a b p) := by unfold turnZ smul; grind
theorem mul_sgn {K n : Int} (hK : 0 < K) : (0 < K * n ↔ 0 < n) ∧ (K * n < 0 ↔ n < 0) := by
  rcases (show n < 0 ∨ n = 0 ∨ 0 < n by omega) with h | h | h
  · have := pm hK h; omega
  · subst h; simp
  · have := pp hK h; omega
theorem mul_lt_iff {K m n : Int} (hK : 0 < K) : (K * m < K * n ↔ m < n) ∧ (K * m ≤ K * n ↔ m ≤ n) := ⟨Int.mul_lt_mul_left hK, Int.mul_le_mul_left hK⟩
theorem crN_sc (h : Aff) {K : Int} (hK : 0 < K) (p a b : Pt) : crN (h.sc K) (smul K p) (smul K a) (smul K b) = crN h p a b := by
  unfold crN
  simp only [ev_sc0, turn_sc0, (mul_lt_iff hK).1, (mul_lt_iff hK).2, (mul_sgn hK).1, (mul_sgn hK).2]
theorem wnd_sc (h : Aff) (P : Way) {K : Int} (hK : 0 < K) (p : Pt) : wnd (h.sc K) (P.sc K) (smul K p) = wnd h P p := sumN_congr fun k _ => crN_sc h hK _ _ _
theorem wndO_sc (h : Aff) (P : Way) {K : Int} (hK : 0 < K) (k : Nat) (p : Pt) : wndO (h.sc K) (P.sc K) k (smul K p) = wndO h P k p := sumN_congr fun j _ => by
  by_cases e : j = k
  · simp [e]
  · rw [if_neg e, if_neg e]; exact crN_sc h hK _ _ _
theorem Part.sc {a b q r : Pt} {K : Int} (hK : 0 < K) (h : Part a b q r) : Part (smul K a) (smul K b) (smul K q) (smul K r) := by
  obtain ⟨f, fa, fb, fq, fr⟩ := h
  refine ⟨f.sc K, ?_, ?_, ?_, ?_⟩ <;> rw [ev_sc0]
  · exact pp hK fa
  · exact pp hK fb
  · exact pm0 (by omega) fq
  · exact pm0 (by omega) fr
def Off (p a b : Pt) : Prop := ∃ f : Aff, 0 < f.ev a ∧ 0 < f.ev b ∧ f.ev p < 0
def Late (Q : Int → Prop) : Prop := ∃ K0 : Int, ∀ K, K0 ≤ K → 0 < K → Q K
theorem Late.and {Q R : Int → Prop} (h1 : Late Q) (h2 : Late R) : Late fun K => Q K ∧ R K := by
  obtain ⟨k1, h1⟩ := h1
  obtain ⟨k2, h2⟩ := h2
  exact ⟨max k1 k2, fun K hK h0 => ⟨h1 K (by omega) h0, h2 K (by omega) h0⟩⟩
theorem Late.of {Q : Int → Prop} (h : ∀ K, 0 < K → Q K) : Late Q := ⟨0, fun K _ h0 => h K h0⟩
theorem Late.ge (k0 : Int) : Late fun K => k0 ≤ K := ⟨k0, fun K h _ => h⟩
theorem Late.imp {Q R : Int → Prop} (h1 : Late Q) (h : ∀ K, 0 < K → Q K → R K) : Late R := let ⟨k, hk⟩ := h1; ⟨k, fun K h1 h0 => h K h0 (hk K h1 h0)⟩
theorem Late.all {n : Nat} {Q : Nat → Int → Prop} (h : ∀ j, j < n → Late (Q j)) : Late fun K => ∀ j, j < n → Q j K := by
  induction n with
  | zero => exact .of fun K _ j hj => absurd hj (by omega)
  | succ n ih =>
    refine ((ih fun j hj => h j (by omega)).and (h n (by omega))).imp fun K _ ⟨h1, h2⟩ j hj => ?_
    rcases (show j < n ∨ j = n by omega) with h | h
    · exact h1 j h
    · subst h; exact h2
theorem Late.get {Q : Int → Prop} (h : Late Q) : ∃ K, 0 < K ∧ Q K := let ⟨k, hk⟩ := h; ⟨max k 1, by omega, hk _ (by omega) (by omega)⟩
theorem Off.near {p a b : Pt} (h : Off p a b) (d e : Pt) : Late fun K => Part (smul K a) (smul K b) (padd (smul K p) d) (padd (smul K p) e) := by
  obtain ⟨f, fa, fb, fp⟩ := h
  refine ⟨max (f.lin d) (f.lin e), fun K hK h0 => ⟨f.sc K, by rw [ev_sc0]; exact pp h0 fa, by rw [ev_sc0]; exact pp h0 fb, ?_, ?_⟩⟩
  · rw [ev_sc]
    have : K * f.ev p ≤ K * (-1) := (mul_lt_iff h0).2.2 (by omega)
    omega
  · rw [ev_sc]
    have : K * f.ev p ≤ K * (-1) := (mul_lt_iff h0).2.2 (by omega)
    omega
def OnI (x a b : Pt) : Prop := ∃ s t : Int, 0 < s ∧ 0 < t ∧ (s + t) * x.1 = s * a.1 + t * b.1 ∧ (s + t) * x.2 = s * a.2 + t * b.2
theorem on_ev {s t : Int} {x a b : Pt} (h1 : (s + t) * x.1 = s * a.1 + t * b.1) (h2 : (s + t) * x.2 = s * a.2 + t * b.2) (f : Aff) : (s + t) * f.ev x = s * f.ev a + t * f.ev b := by
  have e : (s + t) * f.ev x = f.u * ((s + t) * x.1) + f.v * ((s + t) * x.2) + (s + t) * f.w := by unfold Aff.ev; grind
  rw [e, h1, h2]; unfold Aff.ev; grind
theorem OnI.le {x a b : Pt} (h : OnI x a b) {f : Aff} (ha : f.ev a ≤ 0) (hb : f.ev b ≤ 0) : f.ev x ≤ 0 := by
  obtain ⟨s, t, hs, ht, h1, h2⟩ := h
  have e := on_ev h1 h2 f
  have g1 := pm0 (show 0 ≤ s by omega) ha
  have g2 := pm0 (show 0 ≤ t by omega) hb
  rcases (show f.ev x ≤ 0 ∨ 0 < f.ev x by omega) with h | h
  · exact h
  · have := pp (show 0 < s + t by omega) h; omega
theorem OnI.neg {x a b : Pt} (h : OnI x a b) {f : Aff} (ha : f.ev a < 0) (hb : f.ev b ≤ 0) : f.ev x < 0 := by
  obtain ⟨s, t, hs, ht, h1, h2⟩ := h
  have e := on_ev h1 h2 f
  have g1 := pm hs ha
  have g2 := pm0 (show 0 ≤ t by omega) hb
  rcases (show f.ev x < 0 ∨ 0 ≤ f.ev x by omega) with h | h
  · exact h
  · have := nn0 (show 0 ≤ s + t by omega) h; omega
theorem OnI.swap {x a b : Pt} (h : OnI x a b) : OnI x b a := let ⟨s, t, hs, ht, h1, h2⟩ := h; ⟨t, s, ht, hs, by rw [Int.add_comm t s, h1]; omega, by rw [Int.add_comm t s, h2]; omega⟩
def Aff.turn (a b : Pt) : Aff := ⟨-(b.2 - a.2), b.1 - a.1, (b.2 - a.2) * a.1 - (b.1 - a.1) * a.2⟩
theorem ev_turn (a b p : Pt) : (Aff.turn a b).ev p = turnZ a b p := by unfold Aff.ev Aff.turn turnZ; grind
def dotZ (a b p : Pt) : Int := (b.1 - a.1) * (p.1 - b.1) + (b.2 - a.2) * (p.2 - b.2)
def Aff.dot (a b : Pt) : Aff := ⟨b.1 - a.1, b.2 - a.2, -((b.1 - a.1) * b.1 + (b.2 - a.2) * b.2)⟩
theorem ev_dot (a b p : Pt) : (Aff.dot a b).ev p = dotZ a b p := by unfold Aff.ev Aff.dot dotZ; grind
def Aff.lc (m : Int) (f : Aff) (n : Int) (g : Aff) (c : Int) : Aff := ⟨m * f.u + n * g.u, m * f.v + n * g.v, m * f.w + n * g.w + c⟩
theorem ev_lc (m : Int) (f : Aff) (n : Int) (g : Aff) (c : Int) (p : Pt) : (Aff.lc m f n g c).ev p = m * f.ev p + n * g.ev p + c := by unfold Aff.ev Aff.lc; grind
theorem OnI.flat {x a b : Pt} (h : OnI x a b) : turnZ a b x = 0 := by
  obtain ⟨s, t, hs, ht, h1, h2⟩ := h
  have e := on_ev h1 h2 (Aff.turn a b)
  rw [ev_turn, ev_turn, ev_turn] at e
  have e1 : turnZ a b a = 0 := by unfold turnZ; grind
  have e2 : turnZ a b b = 0 := by unfold turnZ; grind
  rw [e1, e2, Int.mul_zero, Int.mul_zero] at e
  rcases Int.mul_eq_zero.1 e with h | h
  · omega
  · exact h
theorem OnI.lev {x a b : Pt} (hx : OnI x a b) {h : Aff} (hab : h.ev a ≠ h.ev b) : OnO h x a b := by
  refine ⟨hx.flat, ?_⟩
  obtain ⟨s, t, hs, ht, h1, h2⟩ := hx
  have e := on_ev h1 h2 h
  have e1 : (s + t) * (h.ev x - h.ev a) = t * (h.ev b - h.ev a) := by grind
  have e2 : (s + t) * (h.ev b - h.ev x) = s * (h.ev b - h.ev a) := by grind
  have hst : 0 < s + t := by omega
  rcases (show h.ev a < h.ev b ∨ h.ev b < h.ev a by omega) with hl | hl
  · have g1 := pp ht (show 0 < h.ev b - h.ev a by omega)
    have g2 := pp hs (show 0 < h.ev b - h.ev a by omega)
    rw [← e1] at g1
    rw [← e2] at g2
    have := (mul_sgn hst).1.1 g1
    have := (mul_sgn hst).1.1 g2
    omega
  · have g1 := pm ht (show h.ev b - h.ev a < 0 by omega)
    have g2 := pm hs (show h.ev b - h.ev a < 0 by omega)
    rw [← e1] at g1
    rw [← e2] at g2
    have := (mul_sgn hst).2.1 g1
    have := (mul_sgn hst).2.1 g2
    omega
def Bends (a b z : Pt) : Prop := a ≠ b ∧ (turnZ a b z ≠ 0 ∨ 0 < dotZ a b z)
theorem sq_pos {a b : Pt} (h : a ≠ b) : 0 < (b.1 - a.1) * (b.1 - a.1) + (b.2 - a.2) * (b.2 - a.2) := by
  have h1 : 0 ≤ (b.1 - a.1) * (b.1 - a.1) := by rcases (show 0 ≤ b.1 - a.1 ∨ b.1 - a.1 ≤ 0 by omega) with h | h; exact nn0 h h; exact mm0 h h
  have h2 : 0 ≤ (b.2 - a.2) * (b.2 - a.2) := by rcases (show 0 ≤ b.2 - a.2 ∨ b.2 - a.2 ≤ 0 by omega) with h | h; exact nn0 h h; exact mm0 h h
  rcases (show 0 < (b.1 - a.1) * (b.1 - a.1) + (b.2 - a.2) * (b.2 - a.2) ∨ ((b.1 - a.1) * (b.1 - a.1) = 0 ∧ (b.2 - a.2) * (b.2 - a.2) = 0) by omega) with h3 | ⟨h3, h4⟩
  · exact h3
  · exfalso
    have h5 : b.1 - a.1 = 0 := by rcases Int.mul_eq_zero.1 h3 with h | h <;> exact h
    have h6 : b.2 - a.2 = 0 := by rcases Int.mul_eq_zero.1 h4 with h | h <;> exact h
    exact h (Prod.ext (by omega) (by omega))
theorem Bends.part {a b z x y : Pt} (h : Bends a b z) (hx : OnI x a b) (hy : OnI y a b) : Part b z x y := by
  obtain ⟨hab, h⟩ := h
  have hsq := sq_pos hab
  have da : dotZ a b a = -((b.1 - a.1) * (b.1 - a.1) + (b.2 - a.2) * (b.2 - a.2)) := by unfold dotZ; grind
  have db : dotZ a b b = 0 := by unfold dotZ; grind
  have tx := hx.flat
  have ty := hy.flat
  have tb : turnZ a b b = 0 := by unfold turnZ; grind
  have gx : dotZ a b x < 0 := by rw [← ev_dot]; exact hx.neg (by rw [ev_dot]; omega) (by rw [ev_dot]; omega)
  have gy : dotZ a b y < 0 := by rw [← ev_dot]; exact hy.neg (by rw [ev_dot]; omega) (by rw [ev_dot]; omega)
  have hm : ∃ m : Int, 0 ≤ dotZ a b z + m * turnZ a b z := by
    rcases h with h | h
    · rcases (show 0 < turnZ a b z ∨ turnZ a b z < 0 by omega) with h | h
      · refine ⟨(dotZ a b z).natAbs, ?_⟩
        have : ((dotZ a b z).natAbs : Int) * 1 ≤ ((dotZ a b z).natAbs : Int) * turnZ a b z := Int.mul_le_mul_of_nonneg_left (by omega) (by omega)
        omega
      · refine ⟨-(dotZ a b z).natAbs, ?_⟩
        have : ((dotZ a b z).natAbs : Int) * 1 ≤ ((dotZ a b z).natAbs : Int) * (- turnZ a b z) := Int.mul_le_mul_of_nonneg_left (by omega) (by omega)
        rw [Int.mul_neg] at this
        rw [Int.neg_mul]
        omega
    · exact ⟨0, by omega⟩
  obtain ⟨m, hm⟩ := hm
  refine ⟨Aff.lc 2 (Aff.dot a b) (2 * m) (Aff.turn a b) 1, ?_, ?_, ?_, ?_⟩ <;> rw [ev_lc, ev_dot, ev_turn]
  · rw [db, tb]; omega
  · rw [Int.mul_assoc]; omega
  · rw [tx]; omega
  · rw [ty]; omega
def Adj (n j k : Nat) : Prop := k = j + 1 ∨ j = k + 1 ∨ (j = 0 ∧ k + 1 = n) ∨ (k = 0 ∧ j + 1 = n)
structure Simple (P : Way) : Prop where
  n3 : 3 ≤ P.n
  off : ∀ j k, j < P.n → k + 1 < P.n → j ≠ k → j ≠ k + 1 → Off (P.v (k + 1)) (P.v j) (P.v (j + 1))
  apart : ∀ j k, j < P.n → k < P.n → j ≠ k → ¬ Adj P.n j k → Part (P.v j) (P.v (j + 1)) (P.v k) (P.v (k + 1))
  bend : ∀ k, k + 1 < P.n → Bends (P.v k) (P.v (k + 1)) (P.v (k + 2)) ∧ Bends (P.v (k + 2)) (P.v (k + 1)) (P.v k)
  bend0 : ∀ k, k + 1 = P.n → Bends (P.v k) (P.v 0) (P.v 1) ∧ Bends (P.v 1) (P.v 0) (P.v k)
theorem Part.inn {a b c d x y : Pt} (h : Part a b c d) (hx : OnI x c d) (hy : OnI y c d) : Part a b x y := by
  obtain ⟨f, fa, fb, fc, fd⟩ := h
  exact ⟨f, fa, fb, hx.le fc fd, hy.le fc fd⟩
theorem smul_on {K : Int} {x a b : Pt} (hK : 0 < K) (h : OnI x a b) : OnI (smul K x) (smul K a) (smul K b) := by
  obtain ⟨s, t, hs, ht, h1, h2⟩ := h
  refine ⟨s, t, hs, ht, ?_, ?_⟩ <;> simp only [smul]
  · rw [Int.mul_left_comm, h1]; grind
  · rw [Int.mul_left_comm, h2]; grind
theorem Bends.sc {K : Int} (hK : 0 < K) {a b z : Pt} (h : Bends a b z) : Bends (smul K a) (smul K b) (smul K z) := by
  refine ⟨fun e => h.1 ?_, ?_⟩
  · have e1 : K * a.1 = K * b.1 := congrArg Prod.fst e
    have e2 : K * a.2 = K * b.2 := congrArg Prod.snd e
    exact Prod.ext (Int.eq_of_mul_eq_mul_left (by omega) e1) (Int.eq_of_mul_eq_mul_left (by omega) e2)
  · rw [turn_sc0]
    rcases h.2 with h | h
    · refine .inl fun e => h ?_
      rcases Int.mul_eq_zero.1 e with e | e
      · omega
      · rcases Int.mul_eq_zero.1 e with e | e
        · omega
        · exact e
    · refine .inr ?_
      have e : dotZ (smul K a) (smul K b) (smul K z) = K * (K * dotZ a b z) := by unfold dotZ smul; grind
      rw [e]
      exact pp hK (pp hK h)
theorem Off.sc {K : Int} (hK : 0 < K) {p a b : Pt} (h : Off p a b) : Off (smul K p) (smul K a) (smul K b) := by
  obtain ⟨f, fa, fb, fp⟩ := h
  exact ⟨f.sc K, by rw [ev_sc0]; exact pp hK fa, by rw [ev_sc0]; exact pp hK fb, by rw [ev_sc0]; exact pm hK fp⟩
theorem Simple.sc {K : Int} (hK : 0 < K) {P : Way} (h : Simple P) : Simple (P.sc K) :=
  ⟨h.n3, fun j k h1 h2 h3 h4 => (h.off j k h1 h2 h3 h4).sc hK, fun j k h1 h2 h3 h4 => (h.apart j k h1 h2 h3 h4).sc hK, fun k h1 => ⟨(h.bend k h1).1.sc hK, (h.bend k h1).2.sc hK⟩, fun k h1 => ⟨(h.bend0 k h1).1.sc hK, (h.bend0 k h1).2.sc hK⟩⟩
theorem Simple.ne {P : Way} (h : Simple P) {k : Nat} (hk : k < P.n) : P.v k ≠ P.v (k + 1) := by
  rcases (show k + 1 < P.n ∨ k + 1 = P.n by omega) with h1 | h1
  · exact (h.bend k h1).1.1
  · have := (h.bend0 k h1).1.1
    rwa [h1, P.cyc]
theorem Part.comm2 {a b q r : Pt} (h : Part a b q r) : Part a b r q := let ⟨f, fa, fb, fq, fr⟩ := h; ⟨f, fa, fb, fr, fq⟩
theorem Simple.inn {P : Way} (h : Simple P) {k : Nat} (hk : k < P.n) {x y : Pt} (hx : OnI x (P.v k) (P.v (k + 1))) (hy : OnI y (P.v k) (P.v (k + 1))) {j : Nat} (hj : j < P.n) (hjk : j ≠ k) :
    Part (P.v j) (P.v (j + 1)) x y := by
  have h3 := h.n3
  have hc := P.cyc
  by_cases ha : Adj P.n j k
  · rcases ha with rfl | rfl | ⟨rfl, ha⟩ | ⟨rfl, ha⟩
    · exact ((h.bend j hk).2.part hx.swap hy.swap).swap
    · exact (h.bend k hj).1.part hx hy
    · rw [ha, hc] at hx hy
      exact (h.bend0 k ha).1.part hx hy
    · rw [show j + 1 = P.n from ha, hc]
      exact ((h.bend0 j ha).2.part hx.swap hy.swap).swap
  · exact (h.apart j k hj hk hjk ha).inn hx hy
theorem Simple.along (h : Aff) {P : Way} (hP : Simple P) {k : Nat} (hk : k < P.n) {x y : Pt} (hx : OnI x (P.v k) (P.v (k + 1))) (hy : OnI y (P.v k) (P.v (k + 1))) : wndO h P k x = wndO h P k y :=
  wndO_along h P hk hx.flat hy.flat (hP.ne hk) fun _ hj hjk => hP.inn hk hx hy hj hjk
def lam (h : Aff) (P : Way) (k : Nat) (x : Pt) : Int := wndO h P k x + if h.ev (P.v k) < h.ev (P.v (k + 1)) then 1 else 0
def Sloped (h : Aff) (P : Way) : Prop := ∀ k, k < P.n → h.ev (P.v k) ≠ h.ev (P.v (k + 1))
theorem wnd_left {h : Aff} {P : Way} (hh : Sloped h P) {k : Nat} (hk : k < P.n) {p x : Pt} (hx : OnI x (P.v k) (P.v (k + 1))) (hs : ∀ j, j < P.n → j ≠ k → Part (P.v j) (P.v (j + 1)) p x) (ht : 0 < turnZ (P.v k) (P.v (k + 1)) p) :
    wnd h P p = lam h P k x := by
  rw [wnd_see h P hk (hx.lev (hh k hk)) hs]
  unfold lam side
  have := hh k hk
  repeat' split
  all_goals omega
theorem wnd_right {h : Aff} {P : Way} (hh : Sloped h P) {k : Nat} (hk : k < P.n) {p x : Pt} (hx : OnI x (P.v k) (P.v (k + 1))) (hs : ∀ j, j < P.n → j ≠ k → Part (P.v j) (P.v (j + 1)) p x) (ht : turnZ (P.v k) (P.v (k + 1)) p < 0) :
    wnd h P p = lam h P k x - 1 := by
  rw [wnd_see h P hk (hx.lev (hh k hk)) hs]
  unfold lam side
  have := hh k hk
  repeat' split
  all_goals omega
def nearA (K : Int) (a b : Pt) : Pt := padd (smul K a) (psub b a)
theorem nearA_on {K : Int} (hK : 2 ≤ K) (a b : Pt) : OnI (nearA K a b) (smul K a) (smul K b) :=
  ⟨K - 1, 1, by omega, by omega, by unfold nearA smul padd psub; grind, by unfold nearA smul padd psub; grind⟩
theorem part_turn {a b q r : Pt} {m : Int} (hm : m = 1 ∨ m = -1) (hq : 0 < m * turnZ a b q) (hr : 0 < m * turnZ a b r) : Part a b q r := by
  have ta : turnZ a b a = 0 := by unfold turnZ; grind
  have tb : turnZ a b b = 0 := by unfold turnZ; grind
  refine ⟨Aff.lc (-m) (Aff.turn a b) 0 (Aff.turn a b) 1, ?_, ?_, ?_, ?_⟩ <;> rw [ev_lc, ev_turn]
  · rw [ta]; omega
  · rw [tb]; omega
  · rw [Int.neg_mul]; omega
  · rw [Int.neg_mul]; omega
def rotP (d : Pt) : Pt := (-d.2, d.1)
theorem corner_at {P : Way} (hP : Simple P) {h : Aff} (hh : Sloped h P) {k : Nat} (hk : k + 1 < P.n) {K : Int} (hK : 2 ≤ K) (d : Pt)
    (hn : ∀ j, j < P.n → j ≠ k → j ≠ k + 1 → Part (smul K (P.v j)) (smul K (P.v (j + 1))) (padd (smul K (P.v (k + 1))) d) (nearA K (P.v (k + 1)) (P.v k)) ∧ Part (smul K (P.v j)) (smul K (P.v (j + 1))) (padd (smul K (P.v (k + 1))) d) (nearA K (P.v (k + 1)) (P.v (k + 2))))
    (h1 : Part (smul K (P.v (k + 1))) (smul K (P.v (k + 2))) (padd (smul K (P.v (k + 1))) d) (nearA K (P.v (k + 1)) (P.v k)))
    (h2 : Part (smul K (P.v k)) (smul K (P.v (k + 1))) (padd (smul K (P.v (k + 1))) d) (nearA K (P.v (k + 1)) (P.v (k + 2))))
    (hs : (0 < turnZ (smul K (P.v k)) (smul K (P.v (k + 1))) (padd (smul K (P.v (k + 1))) d) ∧ 0 < turnZ (smul K (P.v (k + 1))) (smul K (P.v (k + 2))) (padd (smul K (P.v (k + 1))) d)) ∨
      (turnZ (smul K (P.v k)) (smul K (P.v (k + 1))) (padd (smul K (P.v (k + 1))) d) < 0 ∧ turnZ (smul K (P.v (k + 1))) (smul K (P.v (k + 2))) (padd (smul K (P.v (k + 1))) d) < 0)) :
    lam (h.sc K) (P.sc K) k (nearA K (P.v (k + 1)) (P.v k)) = lam (h.sc K) (P.sc K) (k + 1) (nearA K (P.v (k + 1)) (P.v (k + 2))) := by
  have hK0 : 0 < K := by omega
  have hh' : Sloped (h.sc K) (P.sc K) := fun j hj e => hh j hj (by
    have e : (h.sc K).ev (smul K (P.v j)) = (h.sc K).ev (smul K (P.v (j + 1))) := e
    rw [ev_sc0, ev_sc0] at e
    exact Int.eq_of_mul_eq_mul_left (by omega) e)
  have o1 : OnI (nearA K (P.v (k + 1)) (P.v k)) ((P.sc K).v k) ((P.sc K).v (k + 1)) := (nearA_on hK _ _).swap
  have o2 : OnI (nearA K (P.v (k + 1)) (P.v (k + 2))) ((P.sc K).v (k + 1)) ((P.sc K).v (k + 1 + 1)) := nearA_on hK _ _
  have s1 : ∀ j, j < (P.sc K).n → j ≠ k → Part ((P.sc K).v j) ((P.sc K).v (j + 1)) (padd (smul K (P.v (k + 1))) d) (nearA K (P.v (k + 1)) (P.v k)) := fun j hj hjk => by
    by_cases e : j = k + 1
    · subst e; exact h1
    · exact (hn j hj hjk e).1
  have s2 : ∀ j, j < (P.sc K).n → j ≠ k + 1 → Part ((P.sc K).v j) ((P.sc K).v (j + 1)) (padd (smul K (P.v (k + 1))) d) (nearA K (P.v (k + 1)) (P.v (k + 2))) := fun j hj hjk => by
    by_cases e : j = k
    · subst e; exact h2
    · exact (hn j hj e hjk).2
  have hkn : k < (P.sc K).n := by show k < P.n; omega
  have hkn1 : k + 1 < (P.sc K).n := hk
  rcases hs with ⟨t1, t2⟩ | ⟨t1, t2⟩
  · rw [← wnd_left hh' hkn o1 s1 t1, ← wnd_left hh' hkn1 o2 s2 t2]
  · have e1 := wnd_right hh' hkn o1 s1 t1
    have e2 := wnd_right hh' hkn1 o2 s2 t2
    omega
theorem Simple.corner {P : Way} (hP : Simple P) {h : Aff} (hh : Sloped h P) {k : Nat} (hk : k + 1 < P.n) :
    Late fun K => lam (h.sc K) (P.sc K) k (nearA K (P.v (k + 1)) (P.v k)) = lam (h.sc K) (P.sc K) (k + 1) (nearA K (P.v (k + 1)) (P.v (k + 2))) := by
  have near : ∀ d : Pt, Late fun K => ∀ j, j < P.n → (j ≠ k → j ≠ k + 1 → Part (smul K (P.v j)) (smul K (P.v (j + 1))) (padd (smul K (P.v (k + 1))) d) (nearA K (P.v (k + 1)) (P.v k)) ∧ Part (smul K (P.v j)) (smul K (P.v (j + 1))) (padd (smul K (P.v (k + 1))) d) (nearA K (P.v (k + 1)) (P.v (k + 2)))) := by
    intro d
    refine Late.all fun j hj => ?_
    by_cases e : j = k ∨ j = k + 1
    · exact Late.of fun K _ h1 h2 => absurd e (by omega)
    · have ho := hP.off j k hj hk (by omega) (by omega)
      exact ((ho.near d (psub (P.v k) (P.v (k + 1)))).and (ho.near d (psub (P.v (k + 2)) (P.v (k + 1))))).imp fun K _ h _ _ => h
  have hb := hP.bend k hk
  generalize hu : P.v k = u at *
  generalize hv : P.v (k + 1) = v at *
  generalize hw : P.v (k + 2) = w at *
  have fin : ∀ (d : Pt) (K : Int), 2 ≤ K → (∀ j, j < P.n → (j ≠ k → j ≠ k + 1 → Part (smul K (P.v j)) (smul K (P.v (j + 1))) (padd (smul K v) d) (nearA K v u) ∧ Part (smul K (P.v j)) (smul K (P.v (j + 1))) (padd (smul K v) d) (nearA K v w))) →
      Part (smul K v) (smul K w) (padd (smul K v) d) (nearA K v u) → Part (smul K u) (smul K v) (padd (smul K v) d) (nearA K v w) →
      ((0 < turnZ (smul K u) (smul K v) (padd (smul K v) d) ∧ 0 < turnZ (smul K v) (smul K w) (padd (smul K v) d)) ∨ (turnZ (smul K u) (smul K v) (padd (smul K v) d) < 0 ∧ turnZ (smul K v) (smul K w) (padd (smul K v) d) < 0)) →
      lam (h.sc K) (P.sc K) k (nearA K v u) = lam (h.sc K) (P.sc K) (k + 1) (nearA K v w) := by
    intro d K hK hn h1 h2 hs
    subst hu hv hw
    exact corner_at hP hh hk hK d hn h1 h2 hs
  by_cases ht : turnZ u v w = 0
  · -- straight on
    have hd : 0 < dotZ u v w := hb.1.2.resolve_left (fun e => e ht)
    have hvw : v ≠ w := fun e => hb.2.1 e.symm
    have hsq := sq_pos hvw
    have hsu := sq_pos hb.1.1
    refine ((near (rotP (psub w v))).and (Late.ge 2)).imp fun K hK ⟨hn, h2⟩ => fin _ K h2 hn ?_ ?_ ?_
    · have ev : Aff.ev (Aff.lc (-2) (Aff.dot (smul K w) (smul K v)) (-2) (Aff.turn (smul K v) (smul K w)) 1) (smul K v) = 1 := by rw [ev_lc, ev_dot, ev_turn]; unfold dotZ turnZ; grind
      have ew : Aff.ev (Aff.lc (-2) (Aff.dot (smul K w) (smul K v)) (-2) (Aff.turn (smul K v) (smul K w)) 1) (smul K w) = 2 * (K * (K * ((w.1 - v.1) * (w.1 - v.1) + (w.2 - v.2) * (w.2 - v.2)))) + 1 := by rw [ev_lc, ev_dot, ev_turn]; unfold dotZ turnZ smul; grind
      have ep : Aff.ev (Aff.lc (-2) (Aff.dot (smul K w) (smul K v)) (-2) (Aff.turn (smul K v) (smul K w)) 1) (padd (smul K v) (rotP (psub w v))) = -2 * (K * ((w.1 - v.1) * (w.1 - v.1) + (w.2 - v.2) * (w.2 - v.2))) + 1 := by rw [ev_lc, ev_dot, ev_turn]; unfold dotZ turnZ smul padd psub rotP; grind
      have ex : Aff.ev (Aff.lc (-2) (Aff.dot (smul K w) (smul K v)) (-2) (Aff.turn (smul K v) (smul K w)) 1) (nearA K v u) = -2 * (K * dotZ u v w) + (-2) * (K * turnZ u v w) + 1 := by rw [ev_lc, ev_dot, ev_turn]; unfold nearA dotZ turnZ smul padd psub; grind
      refine ⟨_, by rw [ev]; omega, by rw [ew]; have := pp hK (pp hK hsq); omega, by rw [ep]; have := pp hK hsq; omega, by rw [ex, ht]; have := pp hK hd; omega⟩
    · have ev : Aff.ev (Aff.lc (-2) (Aff.dot (smul K u) (smul K v)) (-2) (Aff.turn (smul K u) (smul K v)) 1) (smul K v) = 1 := by rw [ev_lc, ev_dot, ev_turn]; unfold dotZ turnZ; grind
      have eu : Aff.ev (Aff.lc (-2) (Aff.dot (smul K u) (smul K v)) (-2) (Aff.turn (smul K u) (smul K v)) 1) (smul K u) = 2 * (K * (K * ((v.1 - u.1) * (v.1 - u.1) + (v.2 - u.2) * (v.2 - u.2)))) + 1 := by rw [ev_lc, ev_dot, ev_turn]; unfold dotZ turnZ smul; grind
      have ep : Aff.ev (Aff.lc (-2) (Aff.dot (smul K u) (smul K v)) (-2) (Aff.turn (smul K u) (smul K v)) 1) (padd (smul K v) (rotP (psub w v))) = 2 * (K * turnZ u v w) - 2 * (K * dotZ u v w) + 1 := by rw [ev_lc, ev_dot, ev_turn]; unfold dotZ turnZ smul padd psub rotP; grind
      have ey : Aff.ev (Aff.lc (-2) (Aff.dot (smul K u) (smul K v)) (-2) (Aff.turn (smul K u) (smul K v)) 1) (nearA K v w) = -2 * (K * dotZ u v w) + (-2) * (K * turnZ u v w) + 1 := by rw [ev_lc, ev_dot, ev_turn]; unfold nearA dotZ turnZ smul padd psub; grind
      refine ⟨_, by rw [eu]; have := pp hK (pp hK hsu); omega, by rw [ev]; omega, by rw [ep, ht]; have := pp hK hd; omega, by rw [ey, ht]; have := pp hK hd; omega⟩
    · refine .inl ⟨?_, ?_⟩
      · have e : turnZ (smul K u) (smul K v) (padd (smul K v) (rotP (psub w v))) = K * dotZ u v w := by unfold dotZ turnZ smul padd psub rotP; grind
        rw [e]; exact pp hK hd
      · have e : turnZ (smul K v) (smul K w) (padd (smul K v) (rotP (psub w v))) = K * ((w.1 - v.1) * (w.1 - v.1) + (w.2 - v.2) * (w.2 - v.2)) := by unfold turnZ smul padd psub rotP; grind
        rw [e]; exact pp hK hsq
  · -- a bend
    have e1 : ∀ K, turnZ (smul K u) (smul K v) (padd (smul K v) (padd (psub u v) (psub w v))) = K * turnZ u v w := fun K => by unfold turnZ smul padd psub; grind
    have e2 : ∀ K, turnZ (smul K v) (smul K w) (padd (smul K v) (padd (psub u v) (psub w v))) = K * turnZ u v w := fun K => by unfold turnZ smul padd psub; grind
    have e3 : ∀ K, turnZ (smul K v) (smul K w) (nearA K v u) = K * turnZ u v w := fun K => by unfold nearA turnZ smul padd psub; grind
    have e4 : ∀ K, turnZ (smul K u) (smul K v) (nearA K v w) = K * turnZ u v w := fun K => by unfold nearA turnZ smul padd psub; grind
    refine ((near (padd (psub u v) (psub w v))).and (Late.ge 2)).imp fun K hK ⟨hn, h2⟩ => ?_
    rcases (show 0 < turnZ u v w ∨ turnZ u v w < 0 by omega) with hp | hp
    · have := pp hK hp
      refine fin _ K h2 hn (part_turn (m := 1) (.inl rfl) ?_ ?_) (part_turn (m := 1) (.inl rfl) ?_ ?_) (.inl ⟨?_, ?_⟩)
      · rw [e2]; omega
      · rw [e3]; omega
      · rw [e1]; omega
      · rw [e4]; omega
      · rw [e1]; omega
      · rw [e2]; omega
    · have := pm hK hp
      refine fin _ K h2 hn (part_turn (m := -1) (.inr rfl) ?_ ?_) (part_turn (m := -1) (.inr rfl) ?_ ?_) (.inr ⟨?_, ?_⟩)
      · rw [e2]; omega
      · rw [e3]; omega
      · rw [e1]; omega
      · rw [e4]; omega
      · rw [e1]; omega
      · rw [e2]; omega
theorem Simple.left {P : Way} (hP : Simple P) {h : Aff} (hh : Sloped h P) : ∃ l : Int, ∀ (K : Int) (k : Nat) (x : Pt), 0 < K → k < P.n → OnI x (smul K (P.v k)) (smul K (P.v (k + 1))) → lam (h.sc K) (P.sc K) k x = l := by
  have hc : Late fun K => ∀ k, k < P.n → k + 1 < P.n → lam (h.sc K) (P.sc K) k (nearA K (P.v (k + 1)) (P.v k)) = lam (h.sc K) (P.sc K) (k + 1) (nearA K (P.v (k + 1)) (P.v (k + 2))) := by
    refine Late.all fun k _ => ?_
    by_cases hk : k + 1 < P.n
    · exact (hP.corner hh hk).imp fun K _ h _ => h
    · exact Late.of fun K _ h => absurd h hk
  obtain ⟨K, hK, hc, h2⟩ := (hc.and (Late.ge 2)).get
  have alg : ∀ {k : Nat} {x y : Pt}, k < P.n → OnI x (smul K (P.v k)) (smul K (P.v (k + 1))) → OnI y (smul K (P.v k)) (smul K (P.v (k + 1))) → lam (h.sc K) (P.sc K) k x = lam (h.sc K) (P.sc K) k y := fun {k x y} hk hx hy => by
    unfold lam
    rw [(hP.sc hK).along (h.sc K) (k := k) hk hx hy]
  have all : ∀ k, k < P.n → lam (h.sc K) (P.sc K) k (nearA K (P.v k) (P.v (k + 1))) = lam (h.sc K) (P.sc K) 0 (nearA K (P.v 0) (P.v 1)) := by
    intro k
    induction k with
    | zero => intro _; rfl
    | succ k ih =>
      intro hk
      rw [← ih (by omega), ← hc k (by omega) hk]
      exact alg (by omega) (nearA_on h2 _ _).swap (nearA_on h2 _ _)
  refine ⟨lam (h.sc K) (P.sc K) 0 (nearA K (P.v 0) (P.v 1)), fun K' k x hK' hk hx => ?_⟩
  rw [← all k hk]
  have up : ∀ {L : Int}, 0 < L → ∀ x, lam ((h.sc L)) (P.sc L) k x = wndO (h.sc L) (P.sc L) k x + if h.ev (P.v k) < h.ev (P.v (k + 1)) then 1 else 0 := fun {L} hL x => by
    unfold lam
    have e : ((h.sc L).ev ((P.sc L).v k) < (h.sc L).ev ((P.sc L).v (k + 1))) = (h.ev (P.v k) < h.ev (P.v (k + 1))) := by
      show ((h.sc L).ev (smul L (P.v k)) < (h.sc L).ev (smul L (P.v (k + 1)))) = _
      rw [ev_sc0, ev_sc0]
      exact propext (mul_lt_iff hL).1
    simp only [e]
  rw [up hK', up hK]
  congr 1
  have sc2 : ∀ {L M : Int} (p : Pt), smul L (smul M p) = smul (L * M) p := fun {L M} p => by unfold smul; simp [Int.mul_assoc]
  have scP : ∀ {L M : Int}, (P.sc M).sc L = P.sc (L * M) := fun {L M} => by
    unfold Way.sc
    simp only [sc2]
  have scH : ∀ {L M : Int}, (h.sc M).sc L = h.sc (L * M) := fun {L M} => by unfold Aff.sc; simp [Int.mul_assoc]
  rw [← wndO_sc (h.sc K') (P.sc K') hK k x, ← wndO_sc (h.sc K) (P.sc K) hK' k, scP, scP, scH, scH, Int.mul_comm K' K]
  have hKK : 0 < K * K' := pp hK hK'
  refine (hP.sc hKK).along _ (k := k) hk ?_ ?_
  · have := smul_on hK hx
    rw [sc2, sc2] at this
    exact this
  · have := smul_on hK' (nearA_on h2 (P.v k) (P.v (k + 1)))
    rw [sc2, sc2, Int.mul_comm K' K] at this
    exact this
theorem least {S : Nat → Prop} {a b : Nat → Int} : ∀ (n : Nat), (∀ k, k < n → S k → 0 < b k) → (∃ k, k < n ∧ S k) → ∃ k, k < n ∧ S k ∧ ∀ j, j < n → S j → a k * b j ≤ a j * b k
  | 0, _, ⟨k, hk, _⟩ => by omega
  | n + 1, hb, ⟨k, hk, hS⟩ => by
    by_cases h : ∃ k, k < n ∧ S k
    · obtain ⟨k, hk, hSk, hm⟩ := least n (fun k h1 => hb k (by omega)) h
      by_cases hn : S n
      · have hbn := hb n (by omega) hn
        have hbk := hb k (by omega) hSk
        rcases (show a k * b n ≤ a n * b k ∨ a n * b k ≤ a k * b n by omega) with hc | hc
        · refine ⟨k, by omega, hSk, fun j hj hSj => ?_⟩
          rcases (show j < n ∨ j = n by omega) with h1 | h1
          · exact hm j h1 hSj
          · subst h1; exact hc
        · refine ⟨n, by omega, hn, fun j hj hSj => ?_⟩
          rcases (show j < n ∨ j = n by omega) with h1 | h1
          · have hbj := hb j (by omega) hSj
            have e1 := hm j h1 hSj
            have e2 : a n * b k * b j ≤ a k * b n * b j := Int.mul_le_mul_of_nonneg_right hc (by omega)
            have e3 : a k * b j * b n ≤ a j * b k * b n := Int.mul_le_mul_of_nonneg_right e1 (by omega)
            have e4 : b k * (a n * b j) ≤ b k * (a j * b n) := by
              have e5 : a k * b n * b j = a k * b j * b n := by rw [Int.mul_right_comm]
              have e6 : a n * b k * b j = b k * (a n * b j) := by grind
              have e7 : a j * b k * b n = b k * (a j * b n) := by grind
              omega
            exact (mul_lt_iff hbk).2.1 e4
          · subst h1; exact Int.le_refl _
      · refine ⟨k, by omega, hSk, fun j hj hSj => ?_⟩
        rcases (show j < n ∨ j = n by omega) with h1 | h1
        · exact hm j h1 hSj
        · subst h1; exact absurd hSj hn
    · have hkn : k = n := by
        rcases (show k < n ∨ k = n by omega) with h1 | h1
        · exact absurd ⟨k, h1, hS⟩ h
        · exact h1
      subst hkn
      refine ⟨k, by omega, hS, fun j hj hSj => ?_⟩
      rcases (show j < k ∨ j = k by omega) with h1 | h1
      · exact absurd ⟨j, h1, hSj⟩ h
      · subst h1; exact Int.le_refl _
theorem cram (h : Aff) (a b p : Pt) : (h.ev b - h.ev a) * p.1 + turnZ a b p * h.v = (h.ev b - h.ev p) * a.1 + (h.ev p - h.ev a) * b.1 ∧ (h.ev b - h.ev a) * p.2 + turnZ a b p * (-h.u) = (h.ev b - h.ev p) * a.2 + (h.ev p - h.ev a) * b.2 := by
  unfold Aff.ev turnZ; constructor <;> grind
def Clear (h : Aff) (P : Way) (p : Pt) : Prop := ∀ k, k < P.n → h.ev (P.v k) ≠ h.ev p ∧ h.ev (P.v (k + 1)) ≠ h.ev p ∧ (turnZ (P.v k) (P.v (k + 1)) p = 0 → (h.ev (P.v k) < h.ev p ↔ h.ev (P.v (k + 1)) < h.ev p))
def Hit (h : Aff) (p a b : Pt) : Prop := (h.ev a < h.ev p ∧ h.ev p < h.ev b ∧ 0 < turnZ a b p) ∨ (h.ev b < h.ev p ∧ h.ev p < h.ev a ∧ turnZ a b p < 0)
theorem crN_hit {h : Aff} {p a b : Pt} (h1 : h.ev a ≠ h.ev p) (h2 : h.ev b ≠ h.ev p) : crN h p a b ≠ 0 ↔ Hit h p a b := by
  unfold crN Hit
  repeat' split
  all_goals omega
theorem Hit.sgn {h : Aff} {p a b : Pt} (hh : Hit h p a b) : ∃ m : Int, (m = 1 ∨ m = -1) ∧ 0 < m * turnZ a b p ∧ 0 < m * (h.ev b - h.ev a) ∧ 0 < m * (h.ev p - h.ev a) ∧ 0 < m * (h.ev b - h.ev p) := by
  rcases hh with ⟨h1, h2, h3⟩ | ⟨h1, h2, h3⟩
  · exact ⟨1, .inl rfl, by omega, by omega, by omega, by omega⟩
  · exact ⟨-1, .inr rfl, by omega, by omega, by omega, by omega⟩
def ray (h : Aff) (D T : Int) (p : Pt) : Pt := (D * p.1 + T * h.v, D * p.2 + T * (-h.u))
theorem ray_lev (h : Aff) (D T : Int) (p : Pt) : (h.sc D).ev (ray h D T p) = D * h.ev p := by unfold Aff.ev Aff.sc ray; grind
theorem ray_turn (h : Aff) (D T : Int) (a b p : Pt) : turnZ (smul D a) (smul D b) (ray h D T p) = D * (D * turnZ a b p - T * (h.ev b - h.ev a)) := by unfold Aff.ev turnZ smul ray; grind
theorem Simple.cases {P : Way} (hP : Simple P) {h : Aff} (hh : Sloped h P) {l : Int} (hl : ∀ (K : Int) (k : Nat) (x : Pt), 0 < K → k < P.n → OnI x (smul K (P.v k)) (smul K (P.v (k + 1))) → lam (h.sc K) (P.sc K) k x = l)
    {p : Pt} (hp : Clear h P p) : ((∀ k, k < P.n → ¬ Hit h p (P.v k) (P.v (k + 1))) ∧ wnd h P p = 0) ∨ wnd h P p = l ∨ wnd h P p = l - 1 := by
  by_cases hC : ∃ k, k < P.n ∧ Hit h p (P.v k) (P.v (k + 1))
  · refine .inr ?_
    have hb : ∀ k, k < P.n → Hit h p (P.v k) (P.v (k + 1)) → 0 < ((h.ev (P.v (k + 1)) - h.ev (P.v k)).natAbs : Int) := fun k _ hk => by
      rcases hk with hk | hk <;> omega
    obtain ⟨k, hk, hS, hmin⟩ := least (S := fun k => Hit h p (P.v k) (P.v (k + 1))) (a := fun k => ((turnZ (P.v k) (P.v (k + 1)) p).natAbs : Int)) (b := fun k => ((h.ev (P.v (k + 1)) - h.ev (P.v k)).natAbs : Int)) P.n hb hC
    obtain ⟨m, hm, m1, m2, m3, m4⟩ := hS.sgn
    obtain ⟨D, hD⟩ : ∃ D : Int, D = m * (h.ev (P.v (k + 1)) - h.ev (P.v k)) := ⟨_, rfl⟩
    obtain ⟨T, hT⟩ : ∃ T : Int, T = m * turnZ (P.v k) (P.v (k + 1)) p := ⟨_, rfl⟩
    have hD0 : 0 < D := by omega
    have hT0 : 0 < T := by omega
    have aD : ((h.ev (P.v (k + 1)) - h.ev (P.v k)).natAbs : Int) = D := by rcases hm with rfl | rfl <;> omega
    have aT : ((turnZ (P.v k) (P.v (k + 1)) p).natAbs : Int) = T := by rcases hm with rfl | rfl <;> omega
    rw [aD, aT] at hmin
    have hx : OnI (ray h D T p) (smul D (P.v k)) (smul D (P.v (k + 1))) := by
      obtain ⟨c1, c2⟩ := cram h (P.v k) (P.v (k + 1)) p
      refine ⟨m * (h.ev (P.v (k + 1)) - h.ev p), m * (h.ev p - h.ev (P.v k)), m4, m3, ?_, ?_⟩
      · have e : m * (h.ev (P.v (k + 1)) - h.ev p) + m * (h.ev p - h.ev (P.v k)) = D := by rw [hD]; grind
        rw [e]
        unfold ray smul
        simp only
        rw [hT, hD]
        have c3 := congrArg (fun z => m * (h.ev (P.v (k + 1)) - h.ev (P.v k)) * (m * z)) c1
        grind
      · have e : m * (h.ev (P.v (k + 1)) - h.ev p) + m * (h.ev p - h.ev (P.v k)) = D := by rw [hD]; grind
        rw [e]
        unfold ray smul
        simp only
        rw [hT, hD]
        have c3 := congrArg (fun z => m * (h.ev (P.v (k + 1)) - h.ev (P.v k)) * (m * z)) c2
        grind
    have hs : ∀ j, j < (P.sc D).n → j ≠ k → Part ((P.sc D).v j) ((P.sc D).v (j + 1)) (smul D p) (ray h D T p) := by
      intro j hj hjk
      have hj : j < P.n := hj
      show Part (smul D (P.v j)) (smul D (P.v (j + 1))) _ _
      obtain ⟨q1, q2, q3⟩ := hp j hj
      have ep : turnZ (smul D (P.v j)) (smul D (P.v (j + 1))) (smul D p) = D * (D * turnZ (P.v j) (P.v (j + 1)) p) := turn_sc0 _ _ _ _
      have er := ray_turn h D T (P.v j) (P.v (j + 1)) p
      by_cases hb1 : h.ev p < h.ev (P.v j) ∧ h.ev p < h.ev (P.v (j + 1))
      · refine ⟨Aff.lc 1 (h.sc D) 0 (h.sc D) (-(D * h.ev p)), ?_, ?_, ?_, ?_⟩ <;> rw [ev_lc]
        · rw [ev_sc0]; have := (mul_lt_iff hD0).1.2 hb1.1; omega
        · rw [ev_sc0]; have := (mul_lt_iff hD0).1.2 hb1.2; omega
        · rw [ev_sc0]; omega
        · rw [ray_lev]; omega
      by_cases hb2 : h.ev (P.v j) < h.ev p ∧ h.ev (P.v (j + 1)) < h.ev p
      · refine ⟨Aff.lc (-1) (h.sc D) 0 (h.sc D) (D * h.ev p), ?_, ?_, ?_, ?_⟩ <;> rw [ev_lc]
        · rw [ev_sc0]; have := (mul_lt_iff hD0).1.2 hb2.1; omega
        · rw [ev_sc0]; have := (mul_lt_iff hD0).1.2 hb2.2; omega
        · rw [ev_sc0]; omega
        · rw [ray_lev]; omega
      have hne : turnZ (P.v j) (P.v (j + 1)) p ≠ 0 := fun e => by have := q3 e; omega
      by_cases hj1 : Hit h p (P.v j) (P.v (j + 1))
      · -- a wall that is met later
        have hmj := hmin j hj hj1
        obtain ⟨n, hn, n1, n2, n3, n4⟩ := hj1.sgn
        have bD : ((h.ev (P.v (j + 1)) - h.ev (P.v j)).natAbs : Int) = n * (h.ev (P.v (j + 1)) - h.ev (P.v j)) := by rcases hn with rfl | rfl <;> omega
        have bT : ((turnZ (P.v j) (P.v (j + 1)) p).natAbs : Int) = n * turnZ (P.v j) (P.v (j + 1)) p := by rcases hn with rfl | rfl <;> omega
        rw [bD, bT] at hmj
        have e1 : n * (D * turnZ (P.v j) (P.v (j + 1)) p - T * (h.ev (P.v (j + 1)) - h.ev (P.v j))) = n * turnZ (P.v j) (P.v (j + 1)) p * D - T * (n * (h.ev (P.v (j + 1)) - h.ev (P.v j))) := by grind
        rcases (show T * (n * (h.ev (P.v (j + 1)) - h.ev (P.v j))) < n * turnZ (P.v j) (P.v (j + 1)) p * D ∨ T * (n * (h.ev (P.v (j + 1)) - h.ev (P.v j))) = n * turnZ (P.v j) (P.v (j + 1)) p * D by omega) with hlt | heq
        · refine part_turn hn ?_ ?_
          · rw [ep, show n * (D * (D * turnZ (P.v j) (P.v (j + 1)) p)) = D * (D * (n * turnZ (P.v j) (P.v (j + 1)) p)) by grind]
            exact pp hD0 (pp hD0 n1)
          · rw [er, show ∀ z, n * (D * z) = D * (n * z) from fun z => by grind, e1]
            exact pp hD0 (by omega)
        · exfalso
          have hxj : OnI (ray h D T p) (smul D (P.v j)) (smul D (P.v (j + 1))) := by
            have hfl : turnZ (smul D (P.v j)) (smul D (P.v (j + 1))) (ray h D T p) = 0 := by
              rw [er]
              have : n * (D * turnZ (P.v j) (P.v (j + 1)) p - T * (h.ev (P.v (j + 1)) - h.ev (P.v j))) = 0 := by omega
              rcases Int.mul_eq_zero.1 this with e | e
              · omega
              · rw [e, Int.mul_zero]
            obtain ⟨c1, c2⟩ := cram (h.sc D) (smul D (P.v j)) (smul D (P.v (j + 1))) (ray h D T p)
            rw [hfl, ev_sc0, ev_sc0, ray_lev] at c1 c2
            refine ⟨n * (D * (h.ev (P.v (j + 1)) - h.ev p)), n * (D * (h.ev p - h.ev (P.v j))), ?_, ?_, ?_, ?_⟩
            · rw [show n * (D * (h.ev (P.v (j + 1)) - h.ev p)) = D * (n * (h.ev (P.v (j + 1)) - h.ev p)) by grind]; exact pp hD0 n4
            · rw [show n * (D * (h.ev p - h.ev (P.v j))) = D * (n * (h.ev p - h.ev (P.v j))) by grind]; exact pp hD0 n3
            · have c3 := congrArg (fun z => n * z) c1
              grind
            · have c3 := congrArg (fun z => n * z) c2
              grind
          obtain ⟨f, fa, fb, fx, _⟩ := (hP.sc hD0).inn (k := k) hk hx hx (j := j) hj hjk
          have g := hxj.neg (f := Aff.lc (-1) f 0 f 0) (by rw [ev_lc]; have : 0 < f.ev (smul D (P.v j)) := fa; omega) (by rw [ev_lc]; have : 0 < f.ev (smul D (P.v (j + 1))) := fb; omega)
          rw [ev_lc] at g
          omega
      · -- a wall on the other side
        rcases (show (h.ev (P.v j) < h.ev p ∧ h.ev p < h.ev (P.v (j + 1))) ∨ (h.ev (P.v (j + 1)) < h.ev p ∧ h.ev p < h.ev (P.v j)) by omega) with hc | hc
        · have ht : turnZ (P.v j) (P.v (j + 1)) p < 0 := by
            rcases (show turnZ (P.v j) (P.v (j + 1)) p < 0 ∨ 0 < turnZ (P.v j) (P.v (j + 1)) p by omega) with h | h
            · exact h
            · exact absurd (.inl ⟨hc.1, hc.2, h⟩) hj1
          have g1 := pm hD0 ht
          have g2 := pp hT0 (show 0 < h.ev (P.v (j + 1)) - h.ev (P.v j) by omega)
          refine part_turn (m := -1) (.inr rfl) ?_ ?_
          · rw [ep]; have := pm hD0 g1; omega
          · rw [er]; have := pm hD0 (show D * turnZ (P.v j) (P.v (j + 1)) p - T * (h.ev (P.v (j + 1)) - h.ev (P.v j)) < 0 by omega); omega
        · have ht : 0 < turnZ (P.v j) (P.v (j + 1)) p := by
            rcases (show turnZ (P.v j) (P.v (j + 1)) p < 0 ∨ 0 < turnZ (P.v j) (P.v (j + 1)) p by omega) with h | h
            · exact absurd (.inr ⟨hc.1, hc.2, h⟩) hj1
            · exact h
          have g1 := pp hD0 ht
          have g2 := pm hT0 (show h.ev (P.v (j + 1)) - h.ev (P.v j) < 0 by omega)
          refine part_turn (m := 1) (.inl rfl) ?_ ?_
          · rw [ep]; have := pp hD0 g1; omega
          · rw [er]; have := pp hD0 (show 0 < D * turnZ (P.v j) (P.v (j + 1)) p - T * (h.ev (P.v (j + 1)) - h.ev (P.v j)) by omega); omega
    rw [← wnd_sc h P hD0 p]
    have hhD : Sloped (h.sc D) (P.sc D) := fun j hj e => hh j hj (by
      have e : (h.sc D).ev (smul D (P.v j)) = (h.sc D).ev (smul D (P.v (j + 1))) := e
      rw [ev_sc0, ev_sc0] at e
      exact Int.eq_of_mul_eq_mul_left (by omega) e)
    have et : turnZ ((P.sc D).v k) ((P.sc D).v (k + 1)) (smul D p) = D * (D * turnZ (P.v k) (P.v (k + 1)) p) := turn_sc0 _ _ _ _
    rcases (show 0 < turnZ (P.v k) (P.v (k + 1)) p ∨ turnZ (P.v k) (P.v (k + 1)) p < 0 by rcases hm with rfl | rfl <;> omega) with h1 | h1
    · refine .inl ?_
      rw [wnd_left hhD (k := k) hk hx hs (by rw [et]; exact pp hD0 (pp hD0 h1)), hl D k _ hD0 hk hx]
    · refine .inr ?_
      rw [wnd_right hhD (k := k) hk hx hs (by rw [et]; exact pm hD0 (pm hD0 h1)), hl D k _ hD0 hk hx]
  · refine .inl ⟨fun k hk hS => hC ⟨k, hk, hS⟩, ?_⟩
    have : wnd h P p = sumN (fun _ => 0) P.n := sumN_congr fun k hk => by
      obtain ⟨q1, q2, -⟩ := hp k hk
      have := crN_hit q1 q2
      by_cases e : crN h p (P.v k) (P.v (k + 1)) = 0
      · exact e
      · exact absurd ⟨k, hk, this.1 e⟩ hC
    rw [this]
    have z : ∀ n, sumN (fun _ => 0) n = 0 := fun n => by
      induction n with
      | zero => rfl
      | succ n ih => simp only [sumN, ih]; rfl
    exact z _
theorem sloped_sc {h : Aff} {P : Way} (hh : Sloped h P) {K : Int} (hK : 0 < K) : Sloped (h.sc K) (P.sc K) := fun j hj e => hh j hj (by
  have e : (h.sc K).ev (smul K (P.v j)) = (h.sc K).ev (smul K (P.v (j + 1))) := e
  rw [ev_sc0, ev_sc0] at e
  exact Int.eq_of_mul_eq_mul_left (by omega) e)
theorem smul_one (p : Pt) : smul 1 p = p := by unfold smul; simp
theorem Simple.zero_one {P : Way} (hP : Simple P) {h : Aff} (hh : Sloped h P) : ∃ l : Int, (l = 0 ∨ l = 1) ∧
    (∀ (K : Int) (k : Nat) (x : Pt), 0 < K → k < P.n → OnI x (smul K (P.v k)) (smul K (P.v (k + 1))) → lam (h.sc K) (P.sc K) k x = l) ∧ ∀ (K : Int) (p : Pt), 0 < K → Clear (h.sc K) (P.sc K) p → wnd (h.sc K) (P.sc K) p = l ∨ wnd (h.sc K) (P.sc K) p = l - 1 := by
  obtain ⟨l, hl⟩ := hP.left hh
  have h3 := hP.n3
  have hl' : ∀ {L : Int}, 0 < L → ∀ (K : Int) (k : Nat) (x : Pt), 0 < K → k < (P.sc L).n → OnI x (smul K ((P.sc L).v k)) (smul K ((P.sc L).v (k + 1))) → lam ((h.sc L).sc K) ((P.sc L).sc K) k x = l := by
    intro L hL K k x hK hk hx
    have sc2 : ∀ {L M : Int} (p : Pt), smul L (smul M p) = smul (L * M) p := fun {L M} p => by unfold smul; simp [Int.mul_assoc]
    have scP : ∀ {L M : Int}, (P.sc M).sc L = P.sc (L * M) := fun {L M} => by unfold Way.sc; simp only [sc2]
    have scH : ∀ {L M : Int}, (h.sc M).sc L = h.sc (L * M) := fun {L M} => by unfold Aff.sc; simp [Int.mul_assoc]
    rw [scP, scH]
    have hx : OnI x (smul K (smul L (P.v k))) (smul K (smul L (P.v (k + 1)))) := hx
    rw [sc2, sc2] at hx
    exact hl _ k x (pp hK hL) hk hx
  have h01 : l = 0 ∨ l = 1 := by
    have hD : h.ev (P.v 0) ≠ h.ev (P.v 1) := hh 0 (by omega)
    obtain ⟨D, hDe⟩ : ∃ D, D = h.ev (P.v 1) - h.ev (P.v 0) := ⟨_, rfl⟩
    have hD0 : D ≠ 0 := by omega
    obtain ⟨K, hKe⟩ : ∃ K : Int, K = D.natAbs + 2 := ⟨_, rfl⟩
    have hK : 0 < K := by omega
    obtain ⟨X, hX⟩ : ∃ X, X = nearA K (P.v 0) (P.v 1) := ⟨_, rfl⟩
    have lX : (h.sc K).ev X = K * h.ev (P.v 0) + D := by rw [hX, hDe]; unfold nearA; rw [ev_sc]; unfold Aff.lin psub Aff.ev; grind
    have hlev : ∀ j, (h.sc K).ev ((P.sc K).v j) ≠ (h.sc K).ev X := by
      intro j e
      have e : (h.sc K).ev (smul K (P.v j)) = (h.sc K).ev X := e
      rw [ev_sc0, lX] at e
      have e1 : K * (h.ev (P.v j) - h.ev (P.v 0)) = D := by rw [Int.mul_sub]; omega
      rcases (show h.ev (P.v j) - h.ev (P.v 0) = 0 ∨ 1 ≤ h.ev (P.v j) - h.ev (P.v 0) ∨ h.ev (P.v j) - h.ev (P.v 0) ≤ -1 by omega) with g | g | g
      · rw [g] at e1; omega
      · have := (mul_lt_iff (m := 1) (n := h.ev (P.v j) - h.ev (P.v 0)) hK).2.2 g
        omega
      · have := (mul_lt_iff (m := h.ev (P.v j) - h.ev (P.v 0)) (n := -1) hK).2.2 g
        omega
    have hM : Late fun M => ∀ j, j < P.n → (0 < (h.sc K).ev ((P.sc K).v (j + 1)) - (h.sc K).ev ((P.sc K).v j) → 0 < turnZ ((P.sc K).v j) ((P.sc K).v (j + 1)) X + M * ((h.sc K).ev ((P.sc K).v (j + 1)) - (h.sc K).ev ((P.sc K).v j))) ∧
        ((h.sc K).ev ((P.sc K).v (j + 1)) - (h.sc K).ev ((P.sc K).v j) < 0 → turnZ ((P.sc K).v j) ((P.sc K).v (j + 1)) X + M * ((h.sc K).ev ((P.sc K).v (j + 1)) - (h.sc K).ev ((P.sc K).v j)) < 0) := by
      refine Late.all fun j _ => ⟨(turnZ ((P.sc K).v j) ((P.sc K).v (j + 1)) X).natAbs + 1, fun M h1 h0 => ⟨fun hp => ?_, fun hp => ?_⟩⟩
      · have := (mul_lt_iff (m := 1) (n := (h.sc K).ev ((P.sc K).v (j + 1)) - (h.sc K).ev ((P.sc K).v j)) h0).2.2 (by omega)
        omega
      · have := (mul_lt_iff (m := (h.sc K).ev ((P.sc K).v (j + 1)) - (h.sc K).ev ((P.sc K).v j)) (n := -1) h0).2.2 (by omega)
        omega
    obtain ⟨M, hM0, hM⟩ := hM.get
    obtain ⟨p, hp⟩ : ∃ p, p = ray (h.sc K) 1 (-M) X := ⟨_, rfl⟩
    have lp : (h.sc K).ev p = (h.sc K).ev X := by
      have := ray_lev (h.sc K) 1 (-M) X
      rw [← hp] at this
      have e : (h.sc K).sc 1 = h.sc K := by unfold Aff.sc; simp
      rw [e] at this; omega
    have tp : ∀ j, turnZ ((P.sc K).v j) ((P.sc K).v (j + 1)) p = turnZ ((P.sc K).v j) ((P.sc K).v (j + 1)) X + M * ((h.sc K).ev ((P.sc K).v (j + 1)) - (h.sc K).ev ((P.sc K).v j)) := fun j => by
      have := ray_turn (h.sc K) 1 (-M) ((P.sc K).v j) ((P.sc K).v (j + 1)) X
      rw [← hp, smul_one, smul_one] at this
      rw [this, Int.neg_mul]; omega
    have hhK := sloped_sc hh hK
    have hc : Clear (h.sc K) (P.sc K) p := fun j hj => by
      have hj : j < P.n := hj
      refine ⟨by rw [lp]; exact hlev j, by rw [lp]; exact hlev (j + 1), fun e => ?_⟩
      rw [tp] at e
      have := hM j hj
      have := hhK j hj
      omega
    have w0 : wnd (h.sc K) (P.sc K) p = 0 := by
      have e : ∀ j, j < P.n → crN (h.sc K) p ((P.sc K).v j) ((P.sc K).v (j + 1)) = (if (h.sc K).ev p < (h.sc K).ev ((P.sc K).v (j + 1)) then 1 else 0) - (if (h.sc K).ev p < (h.sc K).ev ((P.sc K).v j) then 1 else 0) := fun j hj => by
        have q1 := hM j hj
        have q2 := hhK j hj
        have q3 := hlev j
        have q4 := hlev (j + 1)
        have q5 := tp j
        unfold crN
        repeat' split
        all_goals omega
      have e2 := sumN_tel (fun j => (if (h.sc K).ev p < (h.sc K).ev ((P.sc K).v j) then (1 : Int) else 0)) P.n
      rw [show wnd (h.sc K) (P.sc K) p = sumN (fun j => (if (h.sc K).ev p < (h.sc K).ev ((P.sc K).v (j + 1)) then (1 : Int) else 0) - (if (h.sc K).ev p < (h.sc K).ev ((P.sc K).v j) then 1 else 0)) P.n from sumN_congr e, e2]
      have : (P.sc K).v P.n = (P.sc K).v 0 := (P.sc K).cyc
      simp only [this]
      omega
    have hit : Hit (h.sc K) p ((P.sc K).v 0) ((P.sc K).v 1) := by
      have q1 := hM 0 (by omega)
      have q5 := tp 0
      have l0 : (h.sc K).ev ((P.sc K).v 0) = K * h.ev (P.v 0) := ev_sc0 _ _ _
      have l1 : (h.sc K).ev ((P.sc K).v 1) = K * h.ev (P.v 0) + K * D := by rw [← Int.mul_add, hDe]; show (h.sc K).ev (smul K (P.v 1)) = _; rw [ev_sc0]; congr 1; omega
      unfold Hit
      rw [lp, lX, l0, l1]
      rw [l0] at q1 q5
      rw [show (P.sc K).v (0 + 1) = (P.sc K).v 1 from rfl, l1] at q1 q5
      rcases (show 0 < D ∨ D < 0 by omega) with hd | hd
      · have : D * 1 < K * D := by rw [Int.mul_comm K D]; exact (mul_lt_iff hd).1.2 (by omega)
        exact .inl ⟨by omega, by omega, by omega⟩
      · have : K * D < D * 1 := by
          have := (mul_lt_iff (m := 1) (n := K) (show 0 < -D by omega)).1.2 (by omega)
          rw [Int.neg_mul, Int.neg_mul, Int.mul_comm D K] at this
          omega
        exact .inr ⟨by omega, by omega, by omega⟩
    rcases (hP.sc hK).cases hhK (hl' hK) hc with ⟨g, _⟩ | g | g
    · exact absurd hit (g 0 (show 0 < P.n by omega))
    · omega
    · omega
  refine ⟨l, h01, hl, fun K p hK hp => ?_⟩
  rcases (hP.sc hK).cases (sloped_sc hh hK) (hl' hK) hp with ⟨_, g⟩ | g | g <;> omega
def quad (h1 h2 : Aff) (p x : Pt) : Int := if h1.ev p < h1.ev x ∧ h2.ev x ≤ h2.ev p then 1 else 0
theorem two_id (h1 h2 : Aff) (p a b : Pt) : (h1.ev a - h1.ev p) * (h2.ev b - h2.ev p) - (h1.ev b - h1.ev p) * (h2.ev a - h2.ev p) = (h1.u * h2.v - h1.v * h2.u) * turnZ a b p := by unfold Aff.ev turnZ; grind
theorem two_f (h1 f : Aff) (p a b : Pt) : (h1.ev b - h1.ev p) * f.ev a - (h1.ev a - h1.ev p) * f.ev b = (h1.ev b - h1.ev a) * f.ev p + (f.u * h1.v - f.v * h1.u) * turnZ a b p := by unfold Aff.ev turnZ; grind
section
variable {α1 α2 β1 β2 D U fa fb fp κ κ2 : Int}
theorem two_ne (h1 : α1 ≤ 0) (h2 : 0 < β1) (F : β1 * fa - α1 * fb = (β1 - α1) * fp + κ * U) (ha : 0 < fa) (hb : 0 < fb) (hp : fp < 0) : U ≠ 0 := by
  rintro rfl
  have g1 := pp h2 ha
  have g2 := mp0 h1 (show 0 ≤ fb by omega)
  have g3 := pm (show 0 < β1 - α1 by omega) hp
  omega
end
theorem crN_two' {h1 h2 : Aff} (hD : 0 < h1.u * h2.v - h1.v * h2.u) {p a b : Pt} (ho : Off p a b) (hab : h1.ev a ≤ h1.ev b) : crN h1 p a b - crN h2 p a b = quad h1 h2 p b - quad h1 h2 p a := by
  obtain ⟨f, fa, fb, fp⟩ := ho
  have I := two_id h1 h2 p a b
  have F1 := two_f h1 f p a b
  have F2 := two_f h2 f p a b
  rw [show h1.ev b - h1.ev a = (h1.ev b - h1.ev p) - (h1.ev a - h1.ev p) by omega] at F1
  rw [show h2.ev b - h2.ev a = (h2.ev b - h2.ev p) - (h2.ev a - h2.ev p) by omega] at F2
  generalize f.u * h1.v - f.v * h1.u = κ at F1
  generalize f.u * h2.v - f.v * h2.u = κ2 at F2
  unfold crN quad
  obtain ⟨α1, hα1⟩ : ∃ x, x = h1.ev a - h1.ev p := ⟨_, rfl⟩
  obtain ⟨β1, hβ1⟩ : ∃ x, x = h1.ev b - h1.ev p := ⟨_, rfl⟩
  obtain ⟨α2, hα2⟩ : ∃ x, x = h2.ev a - h2.ev p := ⟨_, rfl⟩
  obtain ⟨β2, hβ2⟩ : ∃ x, x = h2.ev b - h2.ev p := ⟨_, rfl⟩
  rw [← hα1, ← hβ1, ← hα2, ← hβ2] at I
  rw [← hα1, ← hβ1] at F1
  rw [← hα2, ← hβ2] at F2
  generalize turnZ a b p = U at *
  have sU : (0 < (h1.u * h2.v - h1.v * h2.u) * U ↔ 0 < U) ∧ ((h1.u * h2.v - h1.v * h2.u) * U < 0 ↔ U < 0) := mul_sgn hD
  rw [← I] at sU
  rcases (show α1 ≤ 0 ∧ β1 ≤ 0 ∨ α1 ≤ 0 ∧ 0 < β1 ∨ 0 < α1 ∧ 0 < β1 by omega) with ⟨c1, c2⟩ | ⟨c1, c2⟩ | ⟨c1, c2⟩
  · -- both below
    rcases (show (α2 ≤ 0 ∧ β2 ≤ 0) ∨ (0 < α2 ∧ 0 < β2) ∨ (α2 ≤ 0 ∧ 0 < β2) ∨ (0 < α2 ∧ β2 ≤ 0) by omega) with d | d | ⟨d1, d2⟩ | ⟨d1, d2⟩
    · repeat' split
      all_goals omega
    · repeat' split
      all_goals omega
    · have g1 := mp0 c1 (show 0 ≤ β2 by omega)
      have g2 := mm0 c2 d1
      repeat' split
      all_goals omega
    · have g1 := mm0 c1 d2
      have g2 := mp0 c2 (show 0 ≤ α2 by omega)
      repeat' split
      all_goals omega
  · have hU := two_ne c1 c2 F1 fa fb fp
    rcases (show (α2 ≤ 0 ∧ β2 ≤ 0) ∨ (0 < α2 ∧ 0 < β2) ∨ (α2 ≤ 0 ∧ 0 < β2) ∨ (0 < α2 ∧ β2 ≤ 0) by omega) with ⟨d1, d2⟩ | ⟨d1, d2⟩ | ⟨d1, d2⟩ | ⟨d1, d2⟩
    · have g1 := mm0 c1 d2
      have g2 := pm0 (show 0 ≤ β1 by omega) d1
      repeat' split
      all_goals omega
    · have g1 := mp0 c1 (show 0 ≤ β2 by omega)
      have g2 := pp c2 d1
      repeat' split
      all_goals omega
    · repeat' split
      all_goals omega
    · repeat' split
      all_goals omega
  · rcases (show (α2 ≤ 0 ∧ β2 ≤ 0) ∨ (0 < α2 ∧ 0 < β2) ∨ (α2 ≤ 0 ∧ 0 < β2) ∨ (0 < α2 ∧ β2 ≤ 0) by omega) with d | d | ⟨d1, d2⟩ | ⟨d1, d2⟩
    · repeat' split
      all_goals omega
    · repeat' split
      all_goals omega
    · have g1 := pp c1 d2
      have g2 := pm0 (show 0 ≤ β1 by omega) d1
      repeat' split
      all_goals omega
    · have g1 := pm0 (show 0 ≤ α1 by omega) d2
      have g2 := pp c2 d1
      repeat' split
      all_goals omega
theorem crN_two {h1 h2 : Aff} (hD : 0 < h1.u * h2.v - h1.v * h2.u) {p a b : Pt} (ho : Off p a b) : crN h1 p a b - crN h2 p a b = quad h1 h2 p b - quad h1 h2 p a := by
  rcases (show h1.ev a ≤ h1.ev b ∨ h1.ev b ≤ h1.ev a by omega) with h | h
  · exact crN_two' hD ho h
  · have := crN_two' hD (let ⟨f, fa, fb, fp⟩ := ho; ⟨f, fb, fa, fp⟩ : Off p b a) h
    rw [crN_swap h1 p a b, crN_swap h2 p a b] at this
    omega
theorem wnd_two {h1 h2 : Aff} (hD : h1.u * h2.v - h1.v * h2.u ≠ 0) {P : Way} {p : Pt} (ho : ∀ k, k < P.n → Off p (P.v k) (P.v (k + 1))) : wnd h1 P p = wnd h2 P p := by
  have key : ∀ {h1 h2 : Aff}, 0 < h1.u * h2.v - h1.v * h2.u → wnd h1 P p = wnd h2 P p := by
    intro h1 h2 hD
    have e : sumN (fun k => crN h1 p (P.v k) (P.v (k + 1)) - crN h2 p (P.v k) (P.v (k + 1))) P.n = sumN (fun k => quad h1 h2 p (P.v (k + 1)) - quad h1 h2 p (P.v k)) P.n := sumN_congr fun k hk => crN_two hD (ho k hk)
    rw [sumN_sub, sumN_tel (fun k => quad h1 h2 p (P.v k)), P.cyc] at e
    unfold wnd
    omega
  have e : h2.u * h1.v - h2.v * h1.u = - (h1.u * h2.v - h1.v * h2.u) := by grind
  rcases (show 0 < h1.u * h2.v - h1.v * h2.u ∨ 0 < h2.u * h1.v - h2.v * h1.u by omega) with h | h
  · exact key h
  · exact (key h).symm
theorem Off.not_on {p a b : Pt} (h : Off p a b) : ¬ OnI p a b := by
  rintro hx
  obtain ⟨f, fa, fb, fp⟩ := h
  have g := hx.neg (f := Aff.lc (-1) f 0 f 0) (by rw [ev_lc]; omega) (by rw [ev_lc]; omega)
  rw [ev_lc] at g
  omega
theorem on_of_lev {h : Aff} {p a b : Pt} (ht : turnZ a b p = 0) (hl : (h.ev a < h.ev p ∧ h.ev p < h.ev b) ∨ (h.ev b < h.ev p ∧ h.ev p < h.ev a)) : OnI p a b := by
  obtain ⟨c1, c2⟩ := cram h a b p
  rw [ht] at c1 c2
  rcases hl with ⟨h1, h2⟩ | ⟨h1, h2⟩
  · refine ⟨h.ev b - h.ev p, h.ev p - h.ev a, by omega, by omega, ?_, ?_⟩
    · rw [show h.ev b - h.ev p + (h.ev p - h.ev a) = h.ev b - h.ev a by omega]; omega
    · rw [show h.ev b - h.ev p + (h.ev p - h.ev a) = h.ev b - h.ev a by omega]; omega
  · refine ⟨h.ev p - h.ev b, h.ev a - h.ev p, by omega, by omega, ?_, ?_⟩
    · have := congrArg (fun z => -z) c1
      grind
    · have := congrArg (fun z => -z) c2
      grind
theorem Off.clear {h : Aff} {P : Way} {p : Pt} (ho : ∀ k, k < P.n → Off p (P.v k) (P.v (k + 1))) (hl : ∀ k, k < P.n → h.ev (P.v k) ≠ h.ev p) : Clear h P p := fun k hk => by
  have h2 : h.ev (P.v (k + 1)) ≠ h.ev p := by
    rcases (show k + 1 < P.n ∨ k + 1 = P.n by omega) with e | e
    · exact hl _ e
    · rw [e, P.cyc]; exact hl 0 (by omega)
  refine ⟨hl k hk, h2, fun ht => ?_⟩
  have h1 := hl k hk
  by_cases hc : h.ev (P.v k) < h.ev p ↔ h.ev (P.v (k + 1)) < h.ev p
  · exact hc
  · exact absurd (on_of_lev (h := h) ht (by omega)) (ho k hk).not_on
end Go.Proofs.Ytnepfcnlngpchaa.Geo
