/- Diagonals of a room and greedy cuts: the functions and the law. -/
import Derived.Test.YtdikfihafebfdaaJa
import Derived.Test.YtdikfihafebfdaaGg
namespace Go.Proofs.Ytdikfihafebfdaa
open Go.RowKit Go.Proofs.Ytdikfihafebfdaa.Nm
set_option maxRecDepth 10000
set_option maxHeartbeats 2000000
set_option linter.unusedSimpArgs false
set_option linter.unusedVariables false
def dgAt (xs : List Pt) (i k : Nat) : Bool := decide (i < k) && diagM xs i k
def diagL (xs : List Pt) (i m : Nat) : List (List Int) := ((List.range m).filter (dgAt xs i)).map fun k : Nat => [(i : Int), (k : Int)]
theorem diagL_succ (xs : List Pt) (i m : Nat) : diagL xs i (m + 1) = diagL xs i m ++ (if dgAt xs i m then [[(i : Int), (m : Int)]] else []) := by
  unfold diagL
  rw [List.range_succ, List.filter_append, List.map_append]
  congr 1
  rw [List.filter_cons]
  by_cases h : dgAt xs i m = true
  · rw [if_pos h, if_pos h]; rfl
  · rw [if_neg h, if_neg h]; rfl
theorem diagL_yes {xs : List Pt} {i m : Nat} (h : i < m) (hd : diagM xs i m = true) : diagL xs i m ++ [[(i : Int), (m : Int)]] = diagL xs i (m + 1) := by
  rw [diagL_succ, if_pos (by unfold dgAt; rw [decide_eq_true h, hd]; rfl)]
theorem diagL_no {xs : List Pt} {i m : Nat} (hd : diagM xs i m = false) : diagL xs i m = diagL xs i (m + 1) := by
  rw [diagL_succ, if_neg (by unfold dgAt; rw [hd, Bool.and_false]; decide), List.append_nil]
theorem diagL_low (xs : List Pt) (i : Nat) : ∀ m, m ≤ i + 1 → diagL xs i m = []
  | 0, _ => rfl
  | m + 1, h => by rw [diagL_succ, diagL_low xs i m (by omega), if_neg (by unfold dgAt; rw [decide_eq_false (by omega), Bool.false_and]; decide)]; rfl
theorem diagL_len (xs : List Pt) (i m : Nat) : (diagL xs i m).length ≤ m := by
  unfold diagL
  rw [List.length_map]
  exact Nat.le_trans (List.length_filter_le _ _) (by simp)
def diagTo (xs : List Pt) (i : Nat) : List (List Int) := (List.range i).flatMap fun j => diagL xs j xs.length
theorem diagTo_succ (xs : List Pt) (i : Nat) : diagTo xs (i + 1) = diagTo xs i ++ diagL xs i xs.length := by unfold diagTo; rw [List.range_succ, List.flatMap_append]; simp
theorem diagTo_len (xs : List Pt) : ∀ i, (diagTo xs i).length ≤ i * xs.length
  | 0 => by simp [diagTo]
  | i + 1 => by
    rw [diagTo_succ, List.length_append, Nat.add_mul]
    have h1 := diagTo_len xs i
    have h2 := diagL_len xs i xs.length
    omega
def diagsM (xs : List Pt) : List (List Int) := if roomOk xs then diagTo xs xs.length else []
/-- Two corners of a room, the first one first. -/
def Dg (n : Nat) (y : List Int) : Prop := ∃ i k : Nat, y = [(i : Int), (k : Int)] ∧ i < k ∧ k < n
theorem Dg.at {n : Nat} {y : List Int} (h : Dg n y) : y.length = 2 ∧ (0 ≤ y.getD 0 0 ∧ y.getD 0 0 < n) ∧ 0 ≤ y.getD 1 0 ∧ y.getD 1 0 < n := by
  obtain ⟨i, k, rfl, h1, h2⟩ := h
  refine ⟨rfl, ⟨?_, ?_⟩, ?_, ?_⟩ <;> simp <;> omega
theorem diagTo_dg {xs : List Pt} {i : Nat} (hi : i ≤ xs.length) : ∀ y ∈ diagTo xs i, Dg xs.length y := by
  intro y hy
  obtain ⟨j, hj, hy⟩ := List.mem_flatMap.1 hy
  unfold diagL at hy
  obtain ⟨k, hk, rfl⟩ := List.mem_map.1 hy
  rw [List.mem_filter] at hk
  obtain ⟨hk, hd⟩ := hk
  unfold dgAt at hd
  rw [Bool.and_eq_true, decide_eq_true_eq] at hd
  exact ⟨j, k, rfl, hd.1, List.mem_range.1 hk⟩
theorem diags_dg (xs : List Pt) : ∀ y ∈ diagsM xs, Dg xs.length y := by
  unfold diagsM
  split
  · exact diagTo_dg (Nat.le_refl _)
  · intro y hy; simp at hy
theorem diags_len (xs : List Pt) : (diagsM xs).length ≤ 100 := by
  unfold diagsM
  split
  · rename_i hr
    have h := room_len hr
    have h1 := diagTo_len xs xs.length
    have h2 := Nat.mul_le_mul h.2 h.2
    omega
  · simp
theorem diags_ok (xs : List Pt) : okSS (diagsM xs) := ⟨Nat.le_trans (diags_len xs) (by decide), fun y hy => by rw [(diags_dg xs y hy).at.1]; decide⟩
def diagsC : Con := mkConD [.room] (fun x => x.1.length ≤ 1048576) (fun x => ⟨.one (.own 0 0), some ⟨t_sl_int, none, .s .int, diagsM x.1⟩⟩) t_int
def sDiagsC : Con := mkCon [.room] (fun x => x.1.length ≤ 1048576) fun x => ⟨.one (.own 0 0), some ⟨t_sl_int, none, .s .int, diagsM x.1⟩⟩
/-- Whether two cuts cross, by their corners. -/
def cutX (xs : List Pt) (d e : List Int) : Bool := crs (pAt xs (d.getD 0 0).toNat) (pAt xs (d.getD 1 0).toNat) (pAt xs (e.getD 0 0).toNat) (pAt xs (e.getD 1 0).toNat)
def freeX (xs : List Pt) (d : List Int) (out : List (List Int)) (j : Nat) : Bool := (List.range j).all fun i => !cutX xs d (out.getD i [])
theorem freeX_succ (xs : List Pt) (d : List Int) (out : List (List Int)) (j : Nat) : freeX xs d out (j + 1) = (freeX xs d out j && !cutX xs d (out.getD j [])) := by
  unfold freeX; rw [List.range_succ, List.all_append]; simp
def greedyF (xs : List Pt) (ds : List (List Int)) : Nat → List (List Int)
  | 0 => []
  | j + 1 => if freeX xs (ds.getD j []) (greedyF xs ds j) (greedyF xs ds j).length then greedyF xs ds j ++ [ds.getD j []] else greedyF xs ds j
theorem greedyF_mem {xs : List Pt} {ds : List (List Int)} : ∀ {j : Nat}, j ≤ ds.length → ∀ y ∈ greedyF xs ds j, y ∈ ds
  | 0, _, y, hy => by simp [greedyF] at hy
  | j + 1, h, y, hy => by
    unfold greedyF at hy
    split at hy
    · rcases List.mem_append.1 hy with hy | hy
      · exact greedyF_mem (by omega) y hy
      · rw [List.mem_singleton.1 hy]; exact mem_getD (by omega)
    · exact greedyF_mem (by omega) y hy
theorem greedyF_len (xs : List Pt) (ds : List (List Int)) : ∀ j, (greedyF xs ds j).length ≤ j
  | 0 => by simp [greedyF]
  | j + 1 => by
    have := greedyF_len xs ds j
    unfold greedyF
    split
    · simp; omega
    · omega
/-- Which of the diagonals have been taken. -/
def goneF (xs : List Pt) (ds : List (List Int)) : Nat → Nat → Bool
  | 0 => noG
  | j + 1 => if freeX xs (ds.getD j []) (greedyF xs ds j) (greedyF xs ds j).length then upd (goneF xs ds j) j true else goneF xs ds j
theorem goneF_succ (xs : List Pt) (ds : List (List Int)) (j : Nat) : goneF xs ds (j + 1) = if freeX xs (ds.getD j []) (greedyF xs ds j) (greedyF xs ds j).length then upd (goneF xs ds j) j true else goneF xs ds j := rfl
theorem goneF_low {xs : List Pt} {ds : List (List Int)} : ∀ {j i : Nat}, j ≤ i → goneF xs ds j i = false
  | 0, _, _ => rfl
  | j + 1, i, h => by
    unfold goneF
    split
    · rw [upd_ne _ _ (by omega)]; exact goneF_low (by omega)
    · exact goneF_low (by omega)
def greedyM (xs : List Pt) : List (List Int) := greedyF xs (diagsM xs) (diagsM xs).length
theorem greedy_ok (xs : List Pt) : okSS (greedyM xs) := by
  refine ⟨Nat.le_trans (greedyF_len _ _ _) (Nat.le_trans (diags_len xs) (by decide)), fun y hy => ?_⟩
  rw [(diags_dg xs y (greedyF_mem (Nat.le_refl _) y hy)).at.1]; decide
def greedyC : Con := mkConD [.room] (fun x => x.1.length ≤ 1048576) (fun x => ⟨.one (.own 0 0), some ⟨t_sl_int, none, .s .int, greedyM x.1⟩⟩) t_int
def sGreedyC : Con := mkCon [.room] (fun x => x.1.length ≤ 1048576) fun x => ⟨.one (.own 0 0), some ⟨t_sl_int, none, .s .int, greedyM x.1⟩⟩
theorem iDiagonalsOf_ok : Good1 Try.prog n_impl_DiagonalsOf diagsC := by
  refine good_ofD (tys := tyL) (env := [(n_impl_RoomOk, roomOkC), (n_impl_diagonal, diagonalC)]) (envw := []) (envd := []) [9, 32, 33, 34] [] [] [] [9, 33, 34] mixed tys ⟨iRoomOk_ok, diagonal_ok, trivial⟩ trivial trivial Try.func18 rfl (by kernel_rfl) (by decide) (by kernel_rfl) ?_
  have hG_ := kpz [(0, [1]), (1, [1, 8]), (2, [2]), (3, [1, 3]), (4, [1, 3, 12, 13]), (5, [1, 3, 12, 13, 14]), (6, [1, 3, 4, 12, 13]), (7, [1, 3, 4, 5, 12, 13]), (8, [1, 3, 4, 5, 12, 13, 22]), (9, [1, 3, 4, 5, 12, 13]), (10, [1, 3, 4, 5, 12, 13, 28]), (11, [1, 3, 4, 5, 12, 13]), (12, [1, 3, 12, 13]), (13, [2])] [(3, [9]), (4, [9]), (5, [9]), (6, [9]), (7, [9]), (8, [9]), (9, [9]), (10, [9]), (11, [9, 32, 33, 34]), (12, [9]), (13, [9])] [] []
  rintro ⟨(xs : List Pt), ⟨⟩⟩ (h1 : xs.length ≤ _)
  (repeat' (first | with_reducible exact True.intro | with_reducible refine st_seq ?_ | (with_reducible refine st_regionG hG_ ?_; intro K_ hK_) | (with_reducible refine st_region ?_; intro K_ hK_) | (with_reducible refine hK_ _ _ ?_; try clear hK_ K_) | ((with_reducible refine st_cond (b := ?b_) ?hb_ ?_ ?_); case hb_ => rfl) | with_reducible refine sq_n ?_ | with_reducible refine sq_r ?_ | with_reducible refine sq_e ?_ | with_reducible refine bq_n ?_ | with_reducible refine bq_r ?_ | with_reducible refine bq_q ?_ | with_reducible refine st_block ?_ | with_reducible refine st_exit ?_ | with_reducible refine st_ret ?_ | with_reducible refine st_skip ?_ | with_reducible refine gq_n ?_ | with_reducible refine gq_r ?_ | with_reducible refine gq_e ?_ | with_reducible refine lq_n ?_ | with_reducible refine lq_r ?_ | with_reducible refine lq_e ?_ | with_reducible refine bq_e (by decide) ?_ | ((conv => whnf); first | (with_reducible refine hK_ _ _ ?_; try clear hK_ K_) | (with_reducible refine fun (g_ : Sl) (o_ : Ow) => ?_) | with_reducible exact True.intro | with_reducible refine And.intro trivial ?_ | with_reducible refine And.intro ?_ ?_ | exact Nat.le_of_ble_eq_true rfl | exact Or.inl rfl | (intro h_; cases h_) | (intro h_; (try simp only [cond_true, cond_false, decide_eq_true_eq, decide_eq_false_iff_not, Bool.not_eq_true', Bool.not_eq_false', Int.toNat_natCast, prodEta] at h_)) | rfl))) <;> (try (conv => whnf)) <;> (try first | change (_ : Int) ≤ _ | change (_ : Nat) ≤ _) <;> (try ((fail_if_success (with_reducible apply Exists.intro)); (try dsimp only); (try simp only [cond_true, cond_false, decide_eq_true_eq, decide_eq_false_iff_not, Bool.not_eq_true', Bool.not_eq_false', Int.toNat_natCast, prodEta]))) <;> (try simp (disch := omega) only [ptEq2, cond_true, cond_false, decide_eq_true_eq, decide_eq_false_iff_not, List.length_drop, List.take_length, Int.toNat_zero, List.drop_zero, Nat.zero_add, List.nil_append, mod_nat1, mod_nat2, tm1, tm2, tmj, W_in, Int.add_sub_cancel, tn1, tnp, tnc, List.length_append, List.length_take, List.length_replicate, List.length_set, List.length_map, List.length_cons, List.length_nil, prodEta, Int.toNat_natCast, beq_iff_eq, beq_eq_false_iff_ne, bne_iff_ne, bne_eq_false_iff_eq, ne_eq, Int.natCast_inj, Int.ofNat_lt, Int.ofNat_le] at *)
  all_goals (try (fail_if_success (with_reducible apply Exists.intro)); first | with_reducible assumption | omega | exact mdl (by omega) | exact ilo1 (by omega) | exact ilo2 (by omega) | exact ihi1 (by omega) (by omega) | exact ihi2 (by omega) (by omega))
  · unfold diagsM; rw [if_neg (by rw [‹roomOk xs = false›]; decide)]
  have hr : roomOk xs = true := by assumption
  have hn := room_len hr
  refine awp'_loopG (α := Nat) (fun i ver_ => [(13, vInt i)]) (fun i ver_ => [(3, 9, false, .deep t_sl_int t_int .int (diagTo xs i) noG)]) (fun i ver_ => []) (fun i => i ≤ xs.length) (fun i => xs.length - i) [1, 12] [] (0) ?_
  conv => whnf
  refine ⟨⟨?inv1_, ?vals1_, ?own1_, ?fix1_⟩, ?body1_⟩
  case' vals1_ => (repeat' (first | with_reducible exact True.intro | with_reducible refine And.intro ?_ ?_ | with_reducible refine Head.mk ?_ ?_ ?_ ?_ | ((conv => lhs; whnf); first | with_reducible rfl | with_reducible exact vInt_s (by omega) | exact rfl) | ((conv => whnf); first | with_reducible exact True.intro | with_reducible refine And.intro ?_ ?_))) <;> (try (conv => lhs; whnf))
  case' own1_ => (repeat' (first | with_reducible exact True.intro | with_reducible refine And.intro ?_ ?_ | with_reducible refine Head.mk ?_ ?_ ?_ ?_ | ((conv => lhs; whnf); first | with_reducible rfl | with_reducible exact vInt_s (by omega) | exact rfl) | ((conv => whnf); first | with_reducible exact True.intro | with_reducible refine And.intro ?_ ?_))) <;> (try (conv => lhs; whnf))
  case' fix1_ => (repeat' (first | with_reducible exact True.intro | with_reducible refine And.intro ?_ ?_ | with_reducible refine Head.mk ?_ ?_ ?_ ?_ | ((conv => lhs; whnf); first | with_reducible rfl | with_reducible exact vInt_s (by omega) | exact rfl) | ((conv => whnf); first | with_reducible exact True.intro | with_reducible refine And.intro ?_ ?_))) <;> (try (conv => lhs; whnf))
  · exact Nat.zero_le _
  rintro i g_ o_ v_ hi
  have hel := diagTo_len xs i
  have hmul : i * xs.length ≤ 10 * 10 := Nat.mul_le_mul (by omega) hn.2
  (repeat' (first | with_reducible exact True.intro | with_reducible refine st_seq ?_ | (with_reducible refine st_regionG hG_ ?_; intro K_ hK_) | (with_reducible refine st_region ?_; intro K_ hK_) | (with_reducible refine hK_ _ _ ?_; try clear hK_ K_) | ((with_reducible refine st_cond (b := ?b_) ?hb_ ?_ ?_); case hb_ => rfl) | with_reducible refine sq_n ?_ | with_reducible refine sq_r ?_ | with_reducible refine sq_e ?_ | with_reducible refine bq_n ?_ | with_reducible refine bq_r ?_ | with_reducible refine bq_q ?_ | with_reducible refine st_block ?_ | with_reducible refine st_exit ?_ | with_reducible refine st_ret ?_ | with_reducible refine st_skip ?_ | with_reducible refine gq_n ?_ | with_reducible refine gq_r ?_ | with_reducible refine gq_e ?_ | with_reducible refine lq_n ?_ | with_reducible refine lq_r ?_ | with_reducible refine lq_e ?_ | with_reducible refine bq_e (by decide) ?_ | ((conv => whnf); first | (with_reducible refine hK_ _ _ ?_; try clear hK_ K_) | (with_reducible refine fun (g_ : Sl) (o_ : Ow) => ?_) | with_reducible exact True.intro | with_reducible refine And.intro trivial ?_ | with_reducible refine And.intro ?_ ?_ | exact Nat.le_of_ble_eq_true rfl | exact Or.inl rfl | (intro h_; cases h_) | (intro h_; (try simp only [cond_true, cond_false, decide_eq_true_eq, decide_eq_false_iff_not, Bool.not_eq_true', Bool.not_eq_false', Int.toNat_natCast, prodEta] at h_)) | rfl))) <;> (try (conv => whnf)) <;> (try first | change (_ : Int) ≤ _ | change (_ : Nat) ≤ _) <;> (try ((fail_if_success (with_reducible apply Exists.intro)); (try dsimp only); (try simp only [cond_true, cond_false, decide_eq_true_eq, decide_eq_false_iff_not, Bool.not_eq_true', Bool.not_eq_false', Int.toNat_natCast, prodEta]))) <;> (try simp (disch := omega) only [ptEq2, cond_true, cond_false, decide_eq_true_eq, decide_eq_false_iff_not, List.length_drop, List.take_length, Int.toNat_zero, List.drop_zero, Nat.zero_add, List.nil_append, mod_nat1, mod_nat2, tm1, tm2, tmj, W_in, Int.add_sub_cancel, tn1, tnp, tnc, List.length_append, List.length_take, List.length_replicate, List.length_set, List.length_map, List.length_cons, List.length_nil, prodEta, Int.toNat_natCast, beq_iff_eq, beq_eq_false_iff_ne, bne_iff_ne, bne_eq_false_iff_eq, ne_eq, Int.natCast_inj, Int.ofNat_lt, Int.ofNat_le] at *)
  all_goals (try (fail_if_success (with_reducible apply Exists.intro)); first | with_reducible assumption | omega | exact mdl (by omega) | exact ilo1 (by omega) | exact ilo2 (by omega) | exact ihi1 (by omega) (by omega) | exact ihi2 (by omega) (by omega))
  · skip
    refine awp'_loopG (α := Nat) (fun k ver_ => [(5, vInt k)]) (fun k ver_ => [(3, 9, false, .deep t_sl_int t_int .int (diagTo xs i ++ diagL xs i k) noG)]) (fun k ver_ => []) (fun k => i < k ∧ k ≤ xs.length) (fun k => xs.length - k) [1, 4, 12, 13] [] (i + 1) ?_
    conv => whnf
    refine ⟨⟨?inv2_, ?vals2_, ?own2_, ?fix2_⟩, ?body2_⟩
    case' vals2_ => (repeat' (first | with_reducible exact True.intro | with_reducible refine And.intro ?_ ?_ | with_reducible refine Head.mk ?_ ?_ ?_ ?_ | ((conv => lhs; whnf); first | with_reducible rfl | with_reducible exact vInt_s (by omega) | exact rfl) | ((conv => whnf); first | with_reducible exact True.intro | with_reducible refine And.intro ?_ ?_))) <;> (try (conv => lhs; whnf))
    case' own2_ => (repeat' (first | with_reducible exact True.intro | with_reducible refine And.intro ?_ ?_ | with_reducible refine Head.mk ?_ ?_ ?_ ?_ | ((conv => lhs; whnf); first | with_reducible rfl | with_reducible exact vInt_s (by omega) | exact rfl) | ((conv => whnf); first | with_reducible exact True.intro | with_reducible refine And.intro ?_ ?_))) <;> (try (conv => lhs; whnf))
    case' fix2_ => (repeat' (first | with_reducible exact True.intro | with_reducible refine And.intro ?_ ?_ | with_reducible refine Head.mk ?_ ?_ ?_ ?_ | ((conv => lhs; whnf); first | with_reducible rfl | with_reducible exact vInt_s (by omega) | exact rfl) | ((conv => whnf); first | with_reducible exact True.intro | with_reducible refine And.intro ?_ ?_))) <;> (try (conv => lhs; whnf))
    · refine congrArg (fun l => Own.deep t_sl_int t_int .int l noG) ?_
      rw [diagL_low _ _ _ (Nat.le_refl _), List.append_nil]
    · exact ⟨by omega, by omega⟩
    rintro k g_ o_ v_ ⟨hik, hk⟩
    have hl2 := diagL_len xs i k
    have hl3 : (diagTo xs i ++ diagL xs i k).length ≤ 200 := by rw [List.length_append]; omega
    (repeat' (first | with_reducible exact True.intro | with_reducible refine st_seq ?_ | (with_reducible refine st_regionG hG_ ?_; intro K_ hK_) | (with_reducible refine st_region ?_; intro K_ hK_) | (with_reducible refine hK_ _ _ ?_; try clear hK_ K_) | ((with_reducible refine st_cond (b := ?b_) ?hb_ ?_ ?_); case hb_ => rfl) | with_reducible refine sq_n ?_ | with_reducible refine sq_r ?_ | with_reducible refine sq_e ?_ | with_reducible refine bq_n ?_ | with_reducible refine bq_r ?_ | with_reducible refine bq_q ?_ | with_reducible refine st_block ?_ | with_reducible refine st_exit ?_ | with_reducible refine st_ret ?_ | with_reducible refine st_skip ?_ | with_reducible refine gq_n ?_ | with_reducible refine gq_r ?_ | with_reducible refine gq_e ?_ | with_reducible refine lq_n ?_ | with_reducible refine lq_r ?_ | with_reducible refine lq_e ?_ | with_reducible refine bq_e (by decide) ?_ | ((conv => whnf); first | (with_reducible refine hK_ _ _ ?_; try clear hK_ K_) | (with_reducible refine fun (g_ : Sl) (o_ : Ow) => ?_) | with_reducible exact True.intro | with_reducible refine And.intro trivial ?_ | with_reducible refine And.intro ?_ ?_ | exact Nat.le_of_ble_eq_true rfl | exact Or.inl rfl | (intro h_; cases h_) | (intro h_; (try simp only [cond_true, cond_false, decide_eq_true_eq, decide_eq_false_iff_not, Bool.not_eq_true', Bool.not_eq_false', Int.toNat_natCast, prodEta] at h_)) | rfl))) <;> (try (conv => whnf)) <;> (try first | change (_ : Int) ≤ _ | change (_ : Nat) ≤ _) <;> (try ((fail_if_success (with_reducible apply Exists.intro)); (try dsimp only); (try simp only [cond_true, cond_false, decide_eq_true_eq, decide_eq_false_iff_not, Bool.not_eq_true', Bool.not_eq_false', Int.toNat_natCast, prodEta]))) <;> (try simp (disch := omega) only [ptEq2, cond_true, cond_false, decide_eq_true_eq, decide_eq_false_iff_not, List.length_drop, List.take_length, Int.toNat_zero, List.drop_zero, Nat.zero_add, List.nil_append, mod_nat1, mod_nat2, tm1, tm2, tmj, W_in, Int.add_sub_cancel, tn1, tnp, tnc, List.length_append, List.length_take, List.length_replicate, List.length_set, List.length_map, List.length_cons, List.length_nil, prodEta, Int.toNat_natCast, beq_iff_eq, beq_eq_false_iff_ne, bne_iff_ne, bne_eq_false_iff_eq, ne_eq, Int.natCast_inj, Int.ofNat_lt, Int.ofNat_le] at *)
    all_goals (try (fail_if_success (with_reducible apply Exists.intro)); first | with_reducible assumption | omega | exact mdl (by omega) | exact ilo1 (by omega) | exact ilo2 (by omega) | exact ihi1 (by omega) (by omega) | exact ihi2 (by omega) (by omega))
    · refine ⟨k + 1, by omega, ⟨by omega, by omega⟩, ?_⟩
      (repeat' (first | with_reducible exact True.intro | with_reducible refine And.intro ?_ ?_ | with_reducible refine Head.mk ?_ ?_ ?_ ?_ | ((conv => lhs; whnf); first | with_reducible rfl | with_reducible exact vInt_s (by omega) | exact rfl) | ((conv => whnf); first | with_reducible exact True.intro | with_reducible refine And.intro ?_ ?_))) <;> (try (conv => lhs; whnf))
      refine congrArg (fun l => Own.deep t_sl_int t_int .int l noG) ?_
      rw [← diagL_yes hik (by assumption), List.append_assoc]
    · refine ⟨k + 1, by omega, ⟨by omega, by omega⟩, ?_⟩
      (repeat' (first | with_reducible exact True.intro | with_reducible refine And.intro ?_ ?_ | with_reducible refine Head.mk ?_ ?_ ?_ ?_ | ((conv => lhs; whnf); first | with_reducible rfl | with_reducible exact vInt_s (by omega) | exact rfl) | ((conv => whnf); first | with_reducible exact True.intro | with_reducible refine And.intro ?_ ?_))) <;> (try (conv => lhs; whnf))
      refine congrArg (fun l => Own.deep t_sl_int t_int .int l noG) ?_
      rw [← diagL_no (by assumption)]
    · refine ⟨i + 1, by omega, by omega, ?_⟩
      (repeat' (first | with_reducible exact True.intro | with_reducible refine And.intro ?_ ?_ | with_reducible refine Head.mk ?_ ?_ ?_ ?_ | ((conv => lhs; whnf); first | with_reducible rfl | with_reducible exact vInt_s (by omega) | exact rfl) | ((conv => whnf); first | with_reducible exact True.intro | with_reducible refine And.intro ?_ ?_))) <;> (try (conv => lhs; whnf))
      refine congrArg (fun l => Own.deep t_sl_int t_int .int l noG) ?_
      rw [diagTo_succ, show k = xs.length by omega]
  · exact congrArg some (by unfold diagsM; rw [if_pos hr, show i = xs.length by omega])
theorem sDiagonalsOf_ok : Good1 Try.prog n_spec_DiagonalsOf sDiagsC := by
  refine good_ofG (tys := tyL) (env := [(n_spec_RoomOk, roomOkC), (n_spec_l09Diagonal, l09C)]) (envw := []) (envd := []) [6] [] [] [] [] mixed tys ⟨sRoomOk_ok, l09Diagonal_ok, trivial⟩ trivial trivial Try.func14 rfl (by kernel_rfl) (by decide) (by kernel_rfl) ?_
  have hG_ := kpz [(0, [1]), (1, [1, 3]), (2, [1, 3, 4]), (3, [1, 3, 4, 15]), (4, [1, 3, 4]), (5, [1, 3, 4, 5]), (6, [1, 3, 4, 5, 24]), (7, [1, 3, 4, 5]), (8, [1, 3, 4, 5, 31]), (9, [1, 3, 4, 5]), (10, [2])] [(1, [6]), (2, [6]), (3, [6]), (4, [6]), (5, [6]), (6, [6]), (7, [6]), (8, [6]), (9, [6]), (10, [6])] [] []
  rintro ⟨(xs : List Pt), ⟨⟩⟩ (h1 : xs.length ≤ _)
  (repeat' (first | with_reducible exact True.intro | with_reducible refine st_seq ?_ | (with_reducible refine st_regionG hG_ ?_; intro K_ hK_) | (with_reducible refine st_region ?_; intro K_ hK_) | (with_reducible refine hK_ _ _ ?_; try clear hK_ K_) | ((with_reducible refine st_cond (b := ?b_) ?hb_ ?_ ?_); case hb_ => rfl) | with_reducible refine sq_n ?_ | with_reducible refine sq_r ?_ | with_reducible refine sq_e ?_ | with_reducible refine bq_n ?_ | with_reducible refine bq_r ?_ | with_reducible refine bq_q ?_ | with_reducible refine st_block ?_ | with_reducible refine st_exit ?_ | with_reducible refine st_ret ?_ | with_reducible refine st_skip ?_ | with_reducible refine gq_n ?_ | with_reducible refine gq_r ?_ | with_reducible refine gq_e ?_ | with_reducible refine lq_n ?_ | with_reducible refine lq_r ?_ | with_reducible refine lq_e ?_ | with_reducible refine bq_e (by decide) ?_ | ((conv => whnf); first | (with_reducible refine hK_ _ _ ?_; try clear hK_ K_) | (with_reducible refine fun (g_ : Sl) (o_ : Ow) => ?_) | with_reducible exact True.intro | with_reducible refine And.intro trivial ?_ | with_reducible refine And.intro ?_ ?_ | exact Nat.le_of_ble_eq_true rfl | exact Or.inl rfl | (intro h_; cases h_) | (intro h_; (try simp only [cond_true, cond_false, decide_eq_true_eq, decide_eq_false_iff_not, Bool.not_eq_true', Bool.not_eq_false', Int.toNat_natCast, prodEta] at h_)) | rfl))) <;> (try (conv => whnf)) <;> (try first | change (_ : Int) ≤ _ | change (_ : Nat) ≤ _) <;> (try ((fail_if_success (with_reducible apply Exists.intro)); (try dsimp only); (try simp only [cond_true, cond_false, decide_eq_true_eq, decide_eq_false_iff_not, Bool.not_eq_true', Bool.not_eq_false', Int.toNat_natCast, prodEta]))) <;> (try simp (disch := omega) only [ptEq2, cond_true, cond_false, decide_eq_true_eq, decide_eq_false_iff_not, List.length_drop, List.take_length, Int.toNat_zero, List.drop_zero, Nat.zero_add, List.nil_append, mod_nat1, mod_nat2, tm1, tm2, tmj, W_in, Int.add_sub_cancel, tn1, tnp, tnc, List.length_append, List.length_take, List.length_replicate, List.length_set, List.length_map, List.length_cons, List.length_nil, prodEta, Int.toNat_natCast, beq_iff_eq, beq_eq_false_iff_ne, bne_iff_ne, bne_eq_false_iff_eq, ne_eq, Int.natCast_inj, Int.ofNat_lt, Int.ofNat_le] at *)
  all_goals (try (fail_if_success (with_reducible apply Exists.intro)); first | with_reducible assumption | omega | exact mdl (by omega) | exact ilo1 (by omega) | exact ilo2 (by omega) | exact ihi1 (by omega) (by omega) | exact ihi2 (by omega) (by omega))
  refine awp'_loopG (α := Nat) (fun i ver_ => [(4, vInt i)]) (fun i ver_ => [(3, 6, false, .row t_sl_int (.s .int) (diagTo xs i))]) (fun i ver_ => []) (fun i => i ≤ xs.length ∧ (0 < i → roomOk xs = true)) (fun i => xs.length - i) [1] [] (0) ?_
  conv => whnf
  refine ⟨⟨?inv3_, ?vals3_, ?own3_, ?fix3_⟩, ?body3_⟩
  case' vals3_ => (repeat' (first | with_reducible exact True.intro | with_reducible refine And.intro ?_ ?_ | with_reducible refine Head.mk ?_ ?_ ?_ ?_ | ((conv => lhs; whnf); first | with_reducible rfl | with_reducible exact vInt_s (by omega) | exact rfl) | ((conv => whnf); first | with_reducible exact True.intro | with_reducible refine And.intro ?_ ?_))) <;> (try (conv => lhs; whnf))
  case' own3_ => (repeat' (first | with_reducible exact True.intro | with_reducible refine And.intro ?_ ?_ | with_reducible refine Head.mk ?_ ?_ ?_ ?_ | ((conv => lhs; whnf); first | with_reducible rfl | with_reducible exact vInt_s (by omega) | exact rfl) | ((conv => whnf); first | with_reducible exact True.intro | with_reducible refine And.intro ?_ ?_))) <;> (try (conv => lhs; whnf))
  case' fix3_ => (repeat' (first | with_reducible exact True.intro | with_reducible refine And.intro ?_ ?_ | with_reducible refine Head.mk ?_ ?_ ?_ ?_ | ((conv => lhs; whnf); first | with_reducible rfl | with_reducible exact vInt_s (by omega) | exact rfl) | ((conv => whnf); first | with_reducible exact True.intro | with_reducible refine And.intro ?_ ?_))) <;> (try (conv => lhs; whnf))
  · exact ⟨Nat.zero_le _, fun h => absurd h (by omega)⟩
  rintro i g_ o_ v_ ⟨hi, hr0⟩
  have hel := diagTo_len xs i
  (repeat' (first | with_reducible exact True.intro | with_reducible refine st_seq ?_ | (with_reducible refine st_regionG hG_ ?_; intro K_ hK_) | (with_reducible refine st_region ?_; intro K_ hK_) | (with_reducible refine hK_ _ _ ?_; try clear hK_ K_) | ((with_reducible refine st_cond (b := ?b_) ?hb_ ?_ ?_); case hb_ => rfl) | with_reducible refine sq_n ?_ | with_reducible refine sq_r ?_ | with_reducible refine sq_e ?_ | with_reducible refine bq_n ?_ | with_reducible refine bq_r ?_ | with_reducible refine bq_q ?_ | with_reducible refine st_block ?_ | with_reducible refine st_exit ?_ | with_reducible refine st_ret ?_ | with_reducible refine st_skip ?_ | with_reducible refine gq_n ?_ | with_reducible refine gq_r ?_ | with_reducible refine gq_e ?_ | with_reducible refine lq_n ?_ | with_reducible refine lq_r ?_ | with_reducible refine lq_e ?_ | with_reducible refine bq_e (by decide) ?_ | ((conv => whnf); first | (with_reducible refine hK_ _ _ ?_; try clear hK_ K_) | (with_reducible refine fun (g_ : Sl) (o_ : Ow) => ?_) | with_reducible exact True.intro | with_reducible refine And.intro trivial ?_ | with_reducible refine And.intro ?_ ?_ | exact Nat.le_of_ble_eq_true rfl | exact Or.inl rfl | (intro h_; cases h_) | (intro h_; (try simp only [cond_true, cond_false, decide_eq_true_eq, decide_eq_false_iff_not, Bool.not_eq_true', Bool.not_eq_false', Int.toNat_natCast, prodEta] at h_)) | rfl))) <;> (try (conv => whnf)) <;> (try first | change (_ : Int) ≤ _ | change (_ : Nat) ≤ _) <;> (try ((fail_if_success (with_reducible apply Exists.intro)); (try dsimp only); (try simp only [cond_true, cond_false, decide_eq_true_eq, decide_eq_false_iff_not, Bool.not_eq_true', Bool.not_eq_false', Int.toNat_natCast, prodEta]))) <;> (try simp (disch := omega) only [ptEq2, cond_true, cond_false, decide_eq_true_eq, decide_eq_false_iff_not, List.length_drop, List.take_length, Int.toNat_zero, List.drop_zero, Nat.zero_add, List.nil_append, mod_nat1, mod_nat2, tm1, tm2, tmj, W_in, Int.add_sub_cancel, tn1, tnp, tnc, List.length_append, List.length_take, List.length_replicate, List.length_set, List.length_map, List.length_cons, List.length_nil, prodEta, Int.toNat_natCast, beq_iff_eq, beq_eq_false_iff_ne, bne_iff_ne, bne_eq_false_iff_eq, ne_eq, Int.natCast_inj, Int.ofNat_lt, Int.ofNat_le] at *)
  all_goals (try (fail_if_success (with_reducible apply Exists.intro)); first | with_reducible assumption | omega | exact mdl (by omega) | exact ilo1 (by omega) | exact ilo2 (by omega) | exact ihi1 (by omega) (by omega) | exact ihi2 (by omega) (by omega))
  · skip
    have hr : roomOk xs = true := by assumption
    have hn := room_len hr
    have hmul : i * xs.length ≤ 10 * 10 := Nat.mul_le_mul (by omega) hn.2
    refine awp'_loopG (α := Nat) (fun k ver_ => [(5, vInt k)]) (fun k ver_ => [(3, 6, false, .row t_sl_int (.s .int) (diagTo xs i ++ diagL xs i k))]) (fun k ver_ => []) (fun k => i < k ∧ k ≤ xs.length) (fun k => xs.length - k) [1, 4] [] (i + 1) ?_
    conv => whnf
    refine ⟨⟨?inv4_, ?vals4_, ?own4_, ?fix4_⟩, ?body4_⟩
    case' vals4_ => (repeat' (first | with_reducible exact True.intro | with_reducible refine And.intro ?_ ?_ | with_reducible refine Head.mk ?_ ?_ ?_ ?_ | ((conv => lhs; whnf); first | with_reducible rfl | with_reducible exact vInt_s (by omega) | exact rfl) | ((conv => whnf); first | with_reducible exact True.intro | with_reducible refine And.intro ?_ ?_))) <;> (try (conv => lhs; whnf))
    case' own4_ => (repeat' (first | with_reducible exact True.intro | with_reducible refine And.intro ?_ ?_ | with_reducible refine Head.mk ?_ ?_ ?_ ?_ | ((conv => lhs; whnf); first | with_reducible rfl | with_reducible exact vInt_s (by omega) | exact rfl) | ((conv => whnf); first | with_reducible exact True.intro | with_reducible refine And.intro ?_ ?_))) <;> (try (conv => lhs; whnf))
    case' fix4_ => (repeat' (first | with_reducible exact True.intro | with_reducible refine And.intro ?_ ?_ | with_reducible refine Head.mk ?_ ?_ ?_ ?_ | ((conv => lhs; whnf); first | with_reducible rfl | with_reducible exact vInt_s (by omega) | exact rfl) | ((conv => whnf); first | with_reducible exact True.intro | with_reducible refine And.intro ?_ ?_))) <;> (try (conv => lhs; whnf))
    · refine congrArg (Own.row _ _) ?_
      rw [diagL_low _ _ _ (Nat.le_refl _), List.append_nil]
    · exact ⟨by omega, by omega⟩
    rintro k g_ o_ v_ ⟨hik, hk⟩
    have hl2 := diagL_len xs i k
    have hl3 : (diagTo xs i ++ diagL xs i k).length ≤ 200 := by rw [List.length_append]; omega
    (repeat' (first | with_reducible exact True.intro | with_reducible refine st_seq ?_ | (with_reducible refine st_regionG hG_ ?_; intro K_ hK_) | (with_reducible refine st_region ?_; intro K_ hK_) | (with_reducible refine hK_ _ _ ?_; try clear hK_ K_) | ((with_reducible refine st_cond (b := ?b_) ?hb_ ?_ ?_); case hb_ => rfl) | with_reducible refine sq_n ?_ | with_reducible refine sq_r ?_ | with_reducible refine sq_e ?_ | with_reducible refine bq_n ?_ | with_reducible refine bq_r ?_ | with_reducible refine bq_q ?_ | with_reducible refine st_block ?_ | with_reducible refine st_exit ?_ | with_reducible refine st_ret ?_ | with_reducible refine st_skip ?_ | with_reducible refine gq_n ?_ | with_reducible refine gq_r ?_ | with_reducible refine gq_e ?_ | with_reducible refine lq_n ?_ | with_reducible refine lq_r ?_ | with_reducible refine lq_e ?_ | with_reducible refine bq_e (by decide) ?_ | ((conv => whnf); first | (with_reducible refine hK_ _ _ ?_; try clear hK_ K_) | (with_reducible refine fun (g_ : Sl) (o_ : Ow) => ?_) | with_reducible exact True.intro | with_reducible refine And.intro trivial ?_ | with_reducible refine And.intro ?_ ?_ | exact Nat.le_of_ble_eq_true rfl | exact Or.inl rfl | (intro h_; cases h_) | (intro h_; (try simp only [cond_true, cond_false, decide_eq_true_eq, decide_eq_false_iff_not, Bool.not_eq_true', Bool.not_eq_false', Int.toNat_natCast, prodEta] at h_)) | rfl))) <;> (try (conv => whnf)) <;> (try first | change (_ : Int) ≤ _ | change (_ : Nat) ≤ _) <;> (try ((fail_if_success (with_reducible apply Exists.intro)); (try dsimp only); (try simp only [cond_true, cond_false, decide_eq_true_eq, decide_eq_false_iff_not, Bool.not_eq_true', Bool.not_eq_false', Int.toNat_natCast, prodEta]))) <;> (try simp (disch := omega) only [ptEq2, cond_true, cond_false, decide_eq_true_eq, decide_eq_false_iff_not, List.length_drop, List.take_length, Int.toNat_zero, List.drop_zero, Nat.zero_add, List.nil_append, mod_nat1, mod_nat2, tm1, tm2, tmj, W_in, Int.add_sub_cancel, tn1, tnp, tnc, List.length_append, List.length_take, List.length_replicate, List.length_set, List.length_map, List.length_cons, List.length_nil, prodEta, Int.toNat_natCast, beq_iff_eq, beq_eq_false_iff_ne, bne_iff_ne, bne_eq_false_iff_eq, ne_eq, Int.natCast_inj, Int.ofNat_lt, Int.ofNat_le] at *)
    all_goals (try (fail_if_success (with_reducible apply Exists.intro)); first | with_reducible assumption | omega | exact mdl (by omega) | exact ilo1 (by omega) | exact ilo2 (by omega) | exact ihi1 (by omega) (by omega) | exact ihi2 (by omega) (by omega))
    · refine ⟨k + 1, by omega, ⟨by omega, by omega⟩, ?_⟩
      (repeat' (first | with_reducible exact True.intro | with_reducible refine And.intro ?_ ?_ | with_reducible refine Head.mk ?_ ?_ ?_ ?_ | ((conv => lhs; whnf); first | with_reducible rfl | with_reducible exact vInt_s (by omega) | exact rfl) | ((conv => whnf); first | with_reducible exact True.intro | with_reducible refine And.intro ?_ ?_))) <;> (try (conv => lhs; whnf))
      refine congrArg (Own.row _ _) ?_
      rw [← diagL_yes hik (by assumption), List.append_assoc]
    · refine ⟨k + 1, by omega, ⟨by omega, by omega⟩, ?_⟩
      (repeat' (first | with_reducible exact True.intro | with_reducible refine And.intro ?_ ?_ | with_reducible refine Head.mk ?_ ?_ ?_ ?_ | ((conv => lhs; whnf); first | with_reducible rfl | with_reducible exact vInt_s (by omega) | exact rfl) | ((conv => whnf); first | with_reducible exact True.intro | with_reducible refine And.intro ?_ ?_))) <;> (try (conv => lhs; whnf))
      refine congrArg (Own.row _ _) ?_
      rw [← diagL_no (by assumption)]
    · refine ⟨i + 1, by omega, ⟨by omega, fun _ => hr⟩, ?_⟩
      (repeat' (first | with_reducible exact True.intro | with_reducible refine And.intro ?_ ?_ | with_reducible refine Head.mk ?_ ?_ ?_ ?_ | ((conv => lhs; whnf); first | with_reducible rfl | with_reducible exact vInt_s (by omega) | exact rfl) | ((conv => whnf); first | with_reducible exact True.intro | with_reducible refine And.intro ?_ ?_))) <;> (try (conv => lhs; whnf))
      refine congrArg (Own.row _ _) ?_
      rw [diagTo_succ, show k = xs.length by omega]
  · have hf : roomOk xs = false := by assumption
    have h0 : i = 0 := by
      rcases Nat.eq_zero_or_pos i with e | e
      · exact e
      · exact absurd ((hr0 e).symm.trans hf) (by decide)
    subst h0
    exact congrArg some (by unfold diagsM; rw [if_neg (by rw [hf]; decide)]; rfl)
  · have hil : i = xs.length := by omega
    refine congrArg some ?_
    unfold diagsM
    split
    · rw [hil]
    · rename_i hf
      rcases Nat.eq_zero_or_pos i with e | e
      · subst e; rfl
      · exact absurd (hr0 e) hf
theorem iGreedyCuts_ok : Good1 Try.prog n_impl_GreedyCuts greedyC := by
  refine good_ofD (tys := tyL) (env := [(n_impl_RoomOk, roomOkC), (n_impl_DiagonalsOf, diagsC), (n_impl_crosses, crossesC)]) (envw := []) (envd := []) [12, 14, 65, 66] [] [] [] [12, 14, 65, 66] mixed tys ⟨iRoomOk_ok, iDiagonalsOf_ok, crosses_ok, trivial⟩ trivial trivial Try.func7 rfl (by kernel_rfl) (by decide) (by kernel_rfl) ?_
  have hG_ := kpz [(0, [1]), (1, [1, 11]), (2, [2]), (3, [1, 3]), (4, [1, 3, 14, 15, 16]), (5, [1, 3, 14, 15, 16, 17]), (6, [1, 3, 5, 14, 15, 16]), (7, [1, 3, 5, 6, 14, 15, 16]), (8, [1, 3, 5, 6, 14, 15, 16, 20, 21, 22]), (9, [1, 3, 5, 6, 14, 15, 16, 20, 21, 22, 23]), (10, [1, 3, 5, 6, 8, 14, 15, 16, 20, 21, 22]), (11, [1, 3, 5, 6, 14, 15, 16, 20, 21, 22]), (12, [1, 3, 5, 6, 14, 15, 16, 20, 21, 22]), (13, [1, 3, 5, 14, 15, 16, 62]), (14, [1, 3, 14, 15, 16]), (15, [1, 3, 14, 15, 16]), (16, [2])] [(3, [12]), (4, [12, 14]), (5, [12, 14]), (6, [12, 14]), (7, [12, 14]), (8, [12, 14]), (9, [12, 14]), (10, [12, 14]), (11, [12, 14]), (12, [12, 14]), (13, [12, 14]), (14, [12, 14, 65, 66]), (15, [12, 14]), (16, [12, 14])] [] []
  rintro ⟨(xs : List Pt), ⟨⟩⟩ (h1 : xs.length ≤ _)
  have hdl := diags_len xs
  have hdd := diags_dg xs
  (repeat' (first | with_reducible exact True.intro | with_reducible refine st_seq ?_ | (with_reducible refine st_regionG hG_ ?_; intro K_ hK_) | (with_reducible refine st_region ?_; intro K_ hK_) | (with_reducible refine hK_ _ _ ?_; try clear hK_ K_) | ((with_reducible refine st_cond (b := ?b_) ?hb_ ?_ ?_); case hb_ => rfl) | with_reducible refine sq_n ?_ | with_reducible refine sq_r ?_ | with_reducible refine sq_e ?_ | with_reducible refine bq_n ?_ | with_reducible refine bq_r ?_ | with_reducible refine bq_q ?_ | with_reducible refine st_block ?_ | with_reducible refine st_exit ?_ | with_reducible refine st_ret ?_ | with_reducible refine st_skip ?_ | with_reducible refine gq_n ?_ | with_reducible refine gq_r ?_ | with_reducible refine gq_e ?_ | with_reducible refine lq_n ?_ | with_reducible refine lq_r ?_ | with_reducible refine lq_e ?_ | with_reducible refine bq_e (by decide) ?_ | ((conv => whnf); first | (with_reducible refine hK_ _ _ ?_; try clear hK_ K_) | (with_reducible refine fun (g_ : Sl) (o_ : Ow) => ?_) | with_reducible exact True.intro | with_reducible refine And.intro trivial ?_ | with_reducible refine And.intro ?_ ?_ | exact Nat.le_of_ble_eq_true rfl | exact Or.inl rfl | (intro h_; cases h_) | (intro h_; (try simp only [cond_true, cond_false, decide_eq_true_eq, decide_eq_false_iff_not, Bool.not_eq_true', Bool.not_eq_false', Int.toNat_natCast, prodEta] at h_)) | rfl))) <;> (try (conv => whnf)) <;> (try first | change (_ : Int) ≤ _ | change (_ : Nat) ≤ _) <;> (try ((fail_if_success (with_reducible apply Exists.intro)); (try dsimp only); (try simp only [cond_true, cond_false, decide_eq_true_eq, decide_eq_false_iff_not, Bool.not_eq_true', Bool.not_eq_false', Int.toNat_natCast, prodEta]))) <;> (try simp (disch := omega) only [ptEq2, cond_true, cond_false, decide_eq_true_eq, decide_eq_false_iff_not, List.length_drop, List.take_length, Int.toNat_zero, List.drop_zero, Nat.zero_add, List.nil_append, mod_nat1, mod_nat2, tm1, tm2, tmj, W_in, Int.add_sub_cancel, tn1, tnp, tnc, List.length_append, List.length_take, List.length_replicate, List.length_set, List.length_map, List.length_cons, List.length_nil, prodEta, Int.toNat_natCast, beq_iff_eq, beq_eq_false_iff_ne, bne_iff_ne, bne_eq_false_iff_eq, ne_eq, Int.natCast_inj, Int.ofNat_lt, Int.ofNat_le] at *)
  all_goals (try (fail_if_success (with_reducible apply Exists.intro)); first | with_reducible assumption | omega | exact mdl (by omega) | exact ilo1 (by omega) | exact ilo2 (by omega) | exact ihi1 (by omega) (by omega) | exact ihi2 (by omega) (by omega))
  · unfold greedyM diagsM; rw [if_neg (by rw [‹roomOk xs = false›]; decide)]; rfl
  have hr : roomOk xs = true := by assumption
  have hn := room_len hr
  refine awp'_loopG (α := Nat) (fun j ver_ => [(16, vInt j)]) (fun j ver_ => [(3, 12, false, .deep t_sl_int t_int .int (greedyF xs (diagsM xs) j) noG), (14, 14, false, .deep t_sl_int t_int .int (diagsM xs) (goneF xs (diagsM xs) j))]) (fun j ver_ => []) (fun j => j ≤ (diagsM xs).length) (fun j => (diagsM xs).length - j) [1, 15] [] (0) ?_
  conv => whnf
  refine ⟨⟨?inv5_, ?vals5_, ?own5_, ?fix5_⟩, ?body5_⟩
  case' vals5_ => (repeat' (first | with_reducible exact True.intro | with_reducible refine And.intro ?_ ?_ | with_reducible refine Head.mk ?_ ?_ ?_ ?_ | ((conv => lhs; whnf); first | with_reducible rfl | with_reducible exact vInt_s (by omega) | exact rfl) | ((conv => whnf); first | with_reducible exact True.intro | with_reducible refine And.intro ?_ ?_))) <;> (try (conv => lhs; whnf))
  case' own5_ => (repeat' (first | with_reducible exact True.intro | with_reducible refine And.intro ?_ ?_ | with_reducible refine Head.mk ?_ ?_ ?_ ?_ | ((conv => lhs; whnf); first | with_reducible rfl | with_reducible exact vInt_s (by omega) | exact rfl) | ((conv => whnf); first | with_reducible exact True.intro | with_reducible refine And.intro ?_ ?_))) <;> (try (conv => lhs; whnf))
  case' fix5_ => (repeat' (first | with_reducible exact True.intro | with_reducible refine And.intro ?_ ?_ | with_reducible refine Head.mk ?_ ?_ ?_ ?_ | ((conv => lhs; whnf); first | with_reducible rfl | with_reducible exact vInt_s (by omega) | exact rfl) | ((conv => whnf); first | with_reducible exact True.intro | with_reducible refine And.intro ?_ ?_))) <;> (try (conv => lhs; whnf))
  · exact Nat.zero_le _
  rintro j g_ o_ v_ hj
  have hgl := greedyF_len xs (diagsM xs) j
  have hgm := greedyF_mem (xs := xs) hj
  have hgo := goneF_low (xs := xs) (ds := diagsM xs) (Nat.le_refl j)
  (repeat' (first | with_reducible exact True.intro | with_reducible refine st_seq ?_ | (with_reducible refine st_regionG hG_ ?_; intro K_ hK_) | (with_reducible refine st_region ?_; intro K_ hK_) | (with_reducible refine hK_ _ _ ?_; try clear hK_ K_) | ((with_reducible refine st_cond (b := ?b_) ?hb_ ?_ ?_); case hb_ => rfl) | with_reducible refine sq_n ?_ | with_reducible refine sq_r ?_ | with_reducible refine sq_e ?_ | with_reducible refine bq_n ?_ | with_reducible refine bq_r ?_ | with_reducible refine bq_q ?_ | with_reducible refine st_block ?_ | with_reducible refine st_exit ?_ | with_reducible refine st_ret ?_ | with_reducible refine st_skip ?_ | with_reducible refine gq_n ?_ | with_reducible refine gq_r ?_ | with_reducible refine gq_e ?_ | with_reducible refine lq_n ?_ | with_reducible refine lq_r ?_ | with_reducible refine lq_e ?_ | with_reducible refine bq_e (by decide) ?_ | ((conv => whnf); first | (with_reducible refine hK_ _ _ ?_; try clear hK_ K_) | (with_reducible refine fun (g_ : Sl) (o_ : Ow) => ?_) | with_reducible exact True.intro | with_reducible refine And.intro trivial ?_ | with_reducible refine And.intro ?_ ?_ | exact Nat.le_of_ble_eq_true rfl | exact Or.inl rfl | (intro h_; cases h_) | (intro h_; (try simp only [cond_true, cond_false, decide_eq_true_eq, decide_eq_false_iff_not, Bool.not_eq_true', Bool.not_eq_false', Int.toNat_natCast, prodEta] at h_)) | rfl))) <;> (try (conv => whnf)) <;> (try first | change (_ : Int) ≤ _ | change (_ : Nat) ≤ _) <;> (try ((fail_if_success (with_reducible apply Exists.intro)); (try dsimp only); (try simp only [cond_true, cond_false, decide_eq_true_eq, decide_eq_false_iff_not, Bool.not_eq_true', Bool.not_eq_false', Int.toNat_natCast, prodEta]))) <;> (try simp (disch := omega) only [ptEq2, cond_true, cond_false, decide_eq_true_eq, decide_eq_false_iff_not, List.length_drop, List.take_length, Int.toNat_zero, List.drop_zero, Nat.zero_add, List.nil_append, mod_nat1, mod_nat2, tm1, tm2, tmj, W_in, Int.add_sub_cancel, tn1, tnp, tnc, List.length_append, List.length_take, List.length_replicate, List.length_set, List.length_map, List.length_cons, List.length_nil, prodEta, Int.toNat_natCast, beq_iff_eq, beq_eq_false_iff_ne, bne_iff_ne, bne_eq_false_iff_eq, ne_eq, Int.natCast_inj, Int.ofNat_lt, Int.ofNat_le] at *)
  all_goals (try (fail_if_success (with_reducible apply Exists.intro)); first | with_reducible assumption | omega | exact mdl (by omega) | exact ilo1 (by omega) | exact ilo2 (by omega) | exact ihi1 (by omega) (by omega) | exact ihi2 (by omega) (by omega))
  · skip
    have hjl : j < (diagsM xs).length := by assumption
    have hd := (hdd _ (mem_getD (d := []) hjl)).at
    obtain ⟨o, ho⟩ : ∃ o, greedyF xs (diagsM xs) j = o := ⟨_, rfl⟩
    simp only [ho] at hgl hgm ⊢
    refine awp'_loopG (α := Nat) (fun i ver_ => [(22, vInt i), (6, vBool (freeX xs ((diagsM xs).getD j []) o i))]) (fun i ver_ => []) (fun i ver_ => []) (fun i => i ≤ o.length) (fun i => o.length - i) [1, 3, 5, 14, 15, 16, 20, 21] [12, 14] (0) ?_
    conv => whnf
    refine ⟨⟨?inv6_, ?vals6_, ?own6_, ?fix6_⟩, ?body6_⟩
    case' vals6_ => (repeat' (first | with_reducible exact True.intro | with_reducible refine And.intro ?_ ?_ | with_reducible refine Head.mk ?_ ?_ ?_ ?_ | ((conv => lhs; whnf); first | with_reducible rfl | with_reducible exact vInt_s (by omega) | exact rfl) | ((conv => whnf); first | with_reducible exact True.intro | with_reducible refine And.intro ?_ ?_))) <;> (try (conv => lhs; whnf))
    case' own6_ => (repeat' (first | with_reducible exact True.intro | with_reducible refine And.intro ?_ ?_ | with_reducible refine Head.mk ?_ ?_ ?_ ?_ | ((conv => lhs; whnf); first | with_reducible rfl | with_reducible exact vInt_s (by omega) | exact rfl) | ((conv => whnf); first | with_reducible exact True.intro | with_reducible refine And.intro ?_ ?_))) <;> (try (conv => lhs; whnf))
    case' fix6_ => (repeat' (first | with_reducible exact True.intro | with_reducible refine And.intro ?_ ?_ | with_reducible refine Head.mk ?_ ?_ ?_ ?_ | ((conv => lhs; whnf); first | with_reducible rfl | with_reducible exact vInt_s (by omega) | exact rfl) | ((conv => whnf); first | with_reducible exact True.intro | with_reducible refine And.intro ?_ ?_))) <;> (try (conv => lhs; whnf))
    · exact Nat.zero_le _
    rintro i g_ o_ v_ hi
    have he : ∀ h : i < o.length, _ := fun h => (hdd _ (hgm _ (mem_getD (d := []) h))).at
    (repeat' (first | with_reducible exact True.intro | with_reducible refine st_seq ?_ | (with_reducible refine st_regionG hG_ ?_; intro K_ hK_) | (with_reducible refine st_region ?_; intro K_ hK_) | (with_reducible refine hK_ _ _ ?_; try clear hK_ K_) | ((with_reducible refine st_cond (b := ?b_) ?hb_ ?_ ?_); case hb_ => rfl) | with_reducible refine sq_n ?_ | with_reducible refine sq_r ?_ | with_reducible refine sq_e ?_ | with_reducible refine bq_n ?_ | with_reducible refine bq_r ?_ | with_reducible refine bq_q ?_ | with_reducible refine st_block ?_ | with_reducible refine st_exit ?_ | with_reducible refine st_ret ?_ | with_reducible refine st_skip ?_ | with_reducible refine gq_n ?_ | with_reducible refine gq_r ?_ | with_reducible refine gq_e ?_ | with_reducible refine lq_n ?_ | with_reducible refine lq_r ?_ | with_reducible refine lq_e ?_ | with_reducible refine bq_e (by decide) ?_ | ((conv => whnf); first | (with_reducible refine hK_ _ _ ?_; try clear hK_ K_) | (with_reducible refine fun (g_ : Sl) (o_ : Ow) => ?_) | with_reducible exact True.intro | with_reducible refine And.intro trivial ?_ | with_reducible refine And.intro ?_ ?_ | exact Nat.le_of_ble_eq_true rfl | exact Or.inl rfl | (intro h_; cases h_) | (intro h_; (try simp only [cond_true, cond_false, decide_eq_true_eq, decide_eq_false_iff_not, Bool.not_eq_true', Bool.not_eq_false', Int.toNat_natCast, prodEta] at h_)) | rfl))) <;> (try (conv => whnf)) <;> (try first | change (_ : Int) ≤ _ | change (_ : Nat) ≤ _) <;> (try ((fail_if_success (with_reducible apply Exists.intro)); (try dsimp only); (try simp only [cond_true, cond_false, decide_eq_true_eq, decide_eq_false_iff_not, Bool.not_eq_true', Bool.not_eq_false', Int.toNat_natCast, prodEta]))) <;> (try simp (disch := omega) only [ptEq2, cond_true, cond_false, decide_eq_true_eq, decide_eq_false_iff_not, List.length_drop, List.take_length, Int.toNat_zero, List.drop_zero, Nat.zero_add, List.nil_append, mod_nat1, mod_nat2, tm1, tm2, tmj, W_in, Int.add_sub_cancel, tn1, tnp, tnc, List.length_append, List.length_take, List.length_replicate, List.length_set, List.length_map, List.length_cons, List.length_nil, prodEta, Int.toNat_natCast, beq_iff_eq, beq_eq_false_iff_ne, bne_iff_ne, bne_eq_false_iff_eq, ne_eq, Int.natCast_inj, Int.ofNat_lt, Int.ofNat_le] at *)
    all_goals (try (fail_if_success (with_reducible apply Exists.intro)); first | with_reducible assumption | omega | exact mdl (by omega) | exact ilo1 (by omega) | exact ilo2 (by omega) | exact ihi1 (by omega) (by omega) | exact ihi2 (by omega) (by omega))
    · have hf : freeX xs ((diagsM xs).getD j []) o i = true := by assumption
      refine ⟨i + 1, by omega, by omega, ?_⟩
      (repeat' (first | with_reducible exact True.intro | with_reducible refine And.intro ?_ ?_ | with_reducible refine Head.mk ?_ ?_ ?_ ?_ | ((conv => lhs; whnf); first | with_reducible rfl | with_reducible exact vInt_s (by omega) | exact rfl) | ((conv => whnf); first | with_reducible exact True.intro | with_reducible refine And.intro ?_ ?_))) <;> (try (conv => lhs; whnf))
      refine congrArg vBool ?_
      rw [freeX_succ, hf, Bool.true_and]
      exact congrArg (! ·) (crs_comm _ _ _ _)
    · have hf : freeX xs ((diagsM xs).getD j []) o i = false := by assumption
      refine ⟨i + 1, by omega, by omega, ?_⟩
      (repeat' (first | with_reducible exact True.intro | with_reducible refine And.intro ?_ ?_ | with_reducible refine Head.mk ?_ ?_ ?_ ?_ | ((conv => lhs; whnf); first | with_reducible rfl | with_reducible exact vInt_s (by omega) | exact rfl) | ((conv => whnf); first | with_reducible exact True.intro | with_reducible refine And.intro ?_ ?_))) <;> (try (conv => lhs; whnf))
      refine congrArg vBool ?_
      rw [freeX_succ, hf, Bool.false_and]
    · have hf : freeX xs ((diagsM xs).getD j []) o o.length = true := by rw [← show i = o.length by omega]; assumption
      refine ⟨j + 1, by omega, by omega, ?_⟩
      (repeat' (first | with_reducible exact True.intro | with_reducible refine And.intro ?_ ?_ | with_reducible refine Head.mk ?_ ?_ ?_ ?_ | ((conv => lhs; whnf); first | with_reducible rfl | with_reducible exact vInt_s (by omega) | exact rfl) | ((conv => whnf); first | with_reducible exact True.intro | with_reducible refine And.intro ?_ ?_))) <;> (try (conv => lhs; whnf))
      · refine congrArg (fun l => Own.deep t_sl_int t_int .int l noG) ?_
        unfold greedyF; rw [ho, if_pos hf]
      · refine congrArg (fun g => Own.deep t_sl_int t_int .int (diagsM xs) g) ?_
        rw [goneF_succ, ho, if_pos hf]
    · have hf : freeX xs ((diagsM xs).getD j []) o o.length = false := by rw [← show i = o.length by omega]; assumption
      refine ⟨j + 1, by omega, by omega, ?_⟩
      (repeat' (first | with_reducible exact True.intro | with_reducible refine And.intro ?_ ?_ | with_reducible refine Head.mk ?_ ?_ ?_ ?_ | ((conv => lhs; whnf); first | with_reducible rfl | with_reducible exact vInt_s (by omega) | exact rfl) | ((conv => whnf); first | with_reducible exact True.intro | with_reducible refine And.intro ?_ ?_))) <;> (try (conv => lhs; whnf))
      · refine congrArg (fun l => Own.deep t_sl_int t_int .int l noG) ?_
        unfold greedyF; rw [ho, hf]; rfl
      · refine congrArg (fun g => Own.deep t_sl_int t_int .int (diagsM xs) g) ?_
        rw [goneF_succ, ho, hf]; rfl
  · exact congrArg some (by unfold greedyM; rw [show j = (diagsM xs).length by omega])
theorem sGreedyCuts_ok : Good1 Try.prog n_spec_GreedyCuts sGreedyC := by
  refine good_ofG (tys := tyL) (env := [(n_spec_DiagonalsOf, sDiagsC), (n_spec_l03Cross, l03CrossC)]) (envw := []) (envd := []) [8] [] [] [] [] mixed tys ⟨sDiagonalsOf_ok, l03Cross_ok, trivial⟩ trivial trivial Try.func5 rfl (by kernel_rfl) (by decide) (by kernel_rfl) ?_
  have hG_ := kpz [(0, [1]), (1, [1, 3]), (2, [1, 3, 4]), (3, [1, 3, 4, 5]), (4, [1, 3, 4, 5, 14]), (5, [1, 3, 4, 5]), (6, [1, 3, 4, 5, 6]), (7, [1, 3, 4, 5, 6, 7]), (8, [1, 3, 4, 5, 6, 7, 20]), (9, [1, 3, 4, 5, 6, 7]), (10, [1, 3, 4, 5, 6, 7]), (11, [1, 3, 4, 5, 68]), (12, [1, 3, 4, 5]), (13, [2])] [(1, [8]), (2, [8]), (3, [8]), (4, [8]), (5, [8]), (6, [8]), (7, [8]), (8, [8]), (9, [8]), (10, [8]), (11, [8]), (12, [8]), (13, [8])] [] []
  rintro ⟨(xs : List Pt), ⟨⟩⟩ (h1 : xs.length ≤ _)
  have hdl := diags_len xs
  have hdd := diags_dg xs
  (repeat' (first | with_reducible exact True.intro | with_reducible refine st_seq ?_ | (with_reducible refine st_regionG hG_ ?_; intro K_ hK_) | (with_reducible refine st_region ?_; intro K_ hK_) | (with_reducible refine hK_ _ _ ?_; try clear hK_ K_) | ((with_reducible refine st_cond (b := ?b_) ?hb_ ?_ ?_); case hb_ => rfl) | with_reducible refine sq_n ?_ | with_reducible refine sq_r ?_ | with_reducible refine sq_e ?_ | with_reducible refine bq_n ?_ | with_reducible refine bq_r ?_ | with_reducible refine bq_q ?_ | with_reducible refine st_block ?_ | with_reducible refine st_exit ?_ | with_reducible refine st_ret ?_ | with_reducible refine st_skip ?_ | with_reducible refine gq_n ?_ | with_reducible refine gq_r ?_ | with_reducible refine gq_e ?_ | with_reducible refine lq_n ?_ | with_reducible refine lq_r ?_ | with_reducible refine lq_e ?_ | with_reducible refine bq_e (by decide) ?_ | ((conv => whnf); first | (with_reducible refine hK_ _ _ ?_; try clear hK_ K_) | (with_reducible refine fun (g_ : Sl) (o_ : Ow) => ?_) | with_reducible exact True.intro | with_reducible refine And.intro trivial ?_ | with_reducible refine And.intro ?_ ?_ | exact Nat.le_of_ble_eq_true rfl | exact Or.inl rfl | (intro h_; cases h_) | (intro h_; (try simp only [cond_true, cond_false, decide_eq_true_eq, decide_eq_false_iff_not, Bool.not_eq_true', Bool.not_eq_false', Int.toNat_natCast, prodEta] at h_)) | rfl))) <;> (try (conv => whnf)) <;> (try first | change (_ : Int) ≤ _ | change (_ : Nat) ≤ _) <;> (try ((fail_if_success (with_reducible apply Exists.intro)); (try dsimp only); (try simp only [cond_true, cond_false, decide_eq_true_eq, decide_eq_false_iff_not, Bool.not_eq_true', Bool.not_eq_false', Int.toNat_natCast, prodEta]))) <;> (try simp (disch := omega) only [ptEq2, cond_true, cond_false, decide_eq_true_eq, decide_eq_false_iff_not, List.length_drop, List.take_length, Int.toNat_zero, List.drop_zero, Nat.zero_add, List.nil_append, mod_nat1, mod_nat2, tm1, tm2, tmj, W_in, Int.add_sub_cancel, tn1, tnp, tnc, List.length_append, List.length_take, List.length_replicate, List.length_set, List.length_map, List.length_cons, List.length_nil, prodEta, Int.toNat_natCast, beq_iff_eq, beq_eq_false_iff_ne, bne_iff_ne, bne_eq_false_iff_eq, ne_eq, Int.natCast_inj, Int.ofNat_lt, Int.ofNat_le] at *)
  all_goals (try (fail_if_success (with_reducible apply Exists.intro)); first | with_reducible assumption | omega | exact mdl (by omega) | exact ilo1 (by omega) | exact ilo2 (by omega) | exact ihi1 (by omega) (by omega) | exact ihi2 (by omega) (by omega))
  refine awp'_loopG (α := Nat) (fun j ver_ => [(5, vInt j)]) (fun j ver_ => [(3, 8, false, .row t_sl_int (.s .int) (greedyF xs (diagsM xs) j))]) (fun j ver_ => []) (fun j => j ≤ (diagsM xs).length) (fun j => (diagsM xs).length - j) [1, 4] [] (0) ?_
  conv => whnf
  refine ⟨⟨?inv7_, ?vals7_, ?own7_, ?fix7_⟩, ?body7_⟩
  case' vals7_ => (repeat' (first | with_reducible exact True.intro | with_reducible refine And.intro ?_ ?_ | with_reducible refine Head.mk ?_ ?_ ?_ ?_ | ((conv => lhs; whnf); first | with_reducible rfl | with_reducible exact vInt_s (by omega) | exact rfl) | ((conv => whnf); first | with_reducible exact True.intro | with_reducible refine And.intro ?_ ?_))) <;> (try (conv => lhs; whnf))
  case' own7_ => (repeat' (first | with_reducible exact True.intro | with_reducible refine And.intro ?_ ?_ | with_reducible refine Head.mk ?_ ?_ ?_ ?_ | ((conv => lhs; whnf); first | with_reducible rfl | with_reducible exact vInt_s (by omega) | exact rfl) | ((conv => whnf); first | with_reducible exact True.intro | with_reducible refine And.intro ?_ ?_))) <;> (try (conv => lhs; whnf))
  case' fix7_ => (repeat' (first | with_reducible exact True.intro | with_reducible refine And.intro ?_ ?_ | with_reducible refine Head.mk ?_ ?_ ?_ ?_ | ((conv => lhs; whnf); first | with_reducible rfl | with_reducible exact vInt_s (by omega) | exact rfl) | ((conv => whnf); first | with_reducible exact True.intro | with_reducible refine And.intro ?_ ?_))) <;> (try (conv => lhs; whnf))
  · exact Nat.zero_le _
  rintro j g_ o_ v_ hj
  have hgl := greedyF_len xs (diagsM xs) j
  have hgm := greedyF_mem (xs := xs) hj
  (repeat' (first | with_reducible exact True.intro | with_reducible refine st_seq ?_ | (with_reducible refine st_regionG hG_ ?_; intro K_ hK_) | (with_reducible refine st_region ?_; intro K_ hK_) | (with_reducible refine hK_ _ _ ?_; try clear hK_ K_) | ((with_reducible refine st_cond (b := ?b_) ?hb_ ?_ ?_); case hb_ => rfl) | with_reducible refine sq_n ?_ | with_reducible refine sq_r ?_ | with_reducible refine sq_e ?_ | with_reducible refine bq_n ?_ | with_reducible refine bq_r ?_ | with_reducible refine bq_q ?_ | with_reducible refine st_block ?_ | with_reducible refine st_exit ?_ | with_reducible refine st_ret ?_ | with_reducible refine st_skip ?_ | with_reducible refine gq_n ?_ | with_reducible refine gq_r ?_ | with_reducible refine gq_e ?_ | with_reducible refine lq_n ?_ | with_reducible refine lq_r ?_ | with_reducible refine lq_e ?_ | with_reducible refine bq_e (by decide) ?_ | ((conv => whnf); first | (with_reducible refine hK_ _ _ ?_; try clear hK_ K_) | (with_reducible refine fun (g_ : Sl) (o_ : Ow) => ?_) | with_reducible exact True.intro | with_reducible refine And.intro trivial ?_ | with_reducible refine And.intro ?_ ?_ | exact Nat.le_of_ble_eq_true rfl | exact Or.inl rfl | (intro h_; cases h_) | (intro h_; (try simp only [cond_true, cond_false, decide_eq_true_eq, decide_eq_false_iff_not, Bool.not_eq_true', Bool.not_eq_false', Int.toNat_natCast, prodEta] at h_)) | rfl))) <;> (try (conv => whnf)) <;> (try first | change (_ : Int) ≤ _ | change (_ : Nat) ≤ _) <;> (try ((fail_if_success (with_reducible apply Exists.intro)); (try dsimp only); (try simp only [cond_true, cond_false, decide_eq_true_eq, decide_eq_false_iff_not, Bool.not_eq_true', Bool.not_eq_false', Int.toNat_natCast, prodEta]))) <;> (try simp (disch := omega) only [ptEq2, cond_true, cond_false, decide_eq_true_eq, decide_eq_false_iff_not, List.length_drop, List.take_length, Int.toNat_zero, List.drop_zero, Nat.zero_add, List.nil_append, mod_nat1, mod_nat2, tm1, tm2, tmj, W_in, Int.add_sub_cancel, tn1, tnp, tnc, List.length_append, List.length_take, List.length_replicate, List.length_set, List.length_map, List.length_cons, List.length_nil, prodEta, Int.toNat_natCast, beq_iff_eq, beq_eq_false_iff_ne, bne_iff_ne, bne_eq_false_iff_eq, ne_eq, Int.natCast_inj, Int.ofNat_lt, Int.ofNat_le] at *)
  all_goals (try (fail_if_success (with_reducible apply Exists.intro)); first | with_reducible assumption | omega | exact mdl (by omega) | exact ilo1 (by omega) | exact ilo2 (by omega) | exact ihi1 (by omega) (by omega) | exact ihi2 (by omega) (by omega))
  · skip
    have hjl : j < (diagsM xs).length := by assumption
    have hd := (hdd _ (mem_getD (d := []) hjl)).at
    obtain ⟨o, ho⟩ : ∃ o, greedyF xs (diagsM xs) j = o := ⟨_, rfl⟩
    simp only [ho] at hgl hgm ⊢
    refine awp'_loopG (α := Nat) (fun i ver_ => [(7, vInt i), (6, vBool (freeX xs ((diagsM xs).getD j []) o i))]) (fun i ver_ => []) (fun i ver_ => []) (fun i => i ≤ o.length) (fun i => o.length - i) [1, 3, 4, 5] [8] (0) ?_
    conv => whnf
    refine ⟨⟨?inv8_, ?vals8_, ?own8_, ?fix8_⟩, ?body8_⟩
    case' vals8_ => (repeat' (first | with_reducible exact True.intro | with_reducible refine And.intro ?_ ?_ | with_reducible refine Head.mk ?_ ?_ ?_ ?_ | ((conv => lhs; whnf); first | with_reducible rfl | with_reducible exact vInt_s (by omega) | exact rfl) | ((conv => whnf); first | with_reducible exact True.intro | with_reducible refine And.intro ?_ ?_))) <;> (try (conv => lhs; whnf))
    case' own8_ => (repeat' (first | with_reducible exact True.intro | with_reducible refine And.intro ?_ ?_ | with_reducible refine Head.mk ?_ ?_ ?_ ?_ | ((conv => lhs; whnf); first | with_reducible rfl | with_reducible exact vInt_s (by omega) | exact rfl) | ((conv => whnf); first | with_reducible exact True.intro | with_reducible refine And.intro ?_ ?_))) <;> (try (conv => lhs; whnf))
    case' fix8_ => (repeat' (first | with_reducible exact True.intro | with_reducible refine And.intro ?_ ?_ | with_reducible refine Head.mk ?_ ?_ ?_ ?_ | ((conv => lhs; whnf); first | with_reducible rfl | with_reducible exact vInt_s (by omega) | exact rfl) | ((conv => whnf); first | with_reducible exact True.intro | with_reducible refine And.intro ?_ ?_))) <;> (try (conv => lhs; whnf))
    · exact Nat.zero_le _
    rintro i g_ o_ v_ hi
    have he : ∀ h : i < o.length, _ := fun h => (hdd _ (hgm _ (mem_getD (d := []) h))).at
    have f0 : (0 : Int) + 1 ≤ (((diagsM xs).getD j []).length : Int) := by omega
    have f1 : (1 : Int) + 1 ≤ (((diagsM xs).getD j []).length : Int) := by omega
    have f2 : ((diagsM xs).getD j []).getD 0 0 + 1 ≤ (xs.length : Int) := by omega
    have f3 : ((diagsM xs).getD j []).getD 1 0 + 1 ≤ (xs.length : Int) := by omega
    have g0 : i < o.length → (0 : Int) + 1 ≤ ((o.getD i []).length : Int) := fun h => by have := he h; omega
    have g1 : i < o.length → (1 : Int) + 1 ≤ ((o.getD i []).length : Int) := fun h => by have := he h; omega
    have g2 : i < o.length → (o.getD i []).getD 0 0 + 1 ≤ (xs.length : Int) := fun h => by have := he h; omega
    have g3 : i < o.length → (o.getD i []).getD 1 0 + 1 ≤ (xs.length : Int) := fun h => by have := he h; omega
    (repeat' (first | with_reducible exact True.intro | with_reducible refine st_seq ?_ | (with_reducible refine st_regionG hG_ ?_; intro K_ hK_) | (with_reducible refine st_region ?_; intro K_ hK_) | (with_reducible refine hK_ _ _ ?_; try clear hK_ K_) | ((with_reducible refine st_cond (b := ?b_) ?hb_ ?_ ?_); case hb_ => rfl) | with_reducible refine sq_n ?_ | with_reducible refine sq_r ?_ | with_reducible refine sq_e ?_ | with_reducible refine bq_n ?_ | with_reducible refine bq_r ?_ | with_reducible refine bq_q ?_ | with_reducible refine st_block ?_ | with_reducible refine st_exit ?_ | with_reducible refine st_ret ?_ | with_reducible refine st_skip ?_ | with_reducible refine gq_n ?_ | with_reducible refine gq_r ?_ | with_reducible refine gq_e ?_ | with_reducible refine lq_n ?_ | with_reducible refine lq_r ?_ | with_reducible refine lq_e ?_ | with_reducible refine bq_e (by decide) ?_ | ((conv => whnf); first | (with_reducible refine hK_ _ _ ?_; try clear hK_ K_) | (with_reducible refine fun (g_ : Sl) (o_ : Ow) => ?_) | with_reducible exact True.intro | with_reducible refine And.intro trivial ?_ | with_reducible refine And.intro ?_ ?_ | exact Nat.le_of_ble_eq_true rfl | exact Or.inl rfl | (intro h_; cases h_) | (intro h_; (try simp only [cond_true, cond_false, decide_eq_true_eq, decide_eq_false_iff_not, Bool.not_eq_true', Bool.not_eq_false', Int.toNat_natCast, prodEta] at h_)) | rfl))) <;> (try (conv => whnf)) <;> (try first | change (_ : Int) ≤ _ | change (_ : Nat) ≤ _) <;> (try ((fail_if_success (with_reducible apply Exists.intro)); (try dsimp only); (try simp only [cond_true, cond_false, decide_eq_true_eq, decide_eq_false_iff_not, Bool.not_eq_true', Bool.not_eq_false', Int.toNat_natCast, prodEta]))) <;> (try simp (disch := omega) only [ptEq2, cond_true, cond_false, decide_eq_true_eq, decide_eq_false_iff_not, List.length_drop, List.take_length, Int.toNat_zero, List.drop_zero, Nat.zero_add, List.nil_append, mod_nat1, mod_nat2, tm1, tm2, tmj, W_in, Int.add_sub_cancel, tn1, tnp, tnc, List.length_append, List.length_take, List.length_replicate, List.length_set, List.length_map, List.length_cons, List.length_nil, prodEta, Int.toNat_natCast, beq_iff_eq, beq_eq_false_iff_ne, bne_iff_ne, bne_eq_false_iff_eq, ne_eq, Int.natCast_inj, Int.ofNat_lt, Int.ofNat_le] at *)
    all_goals (try (fail_if_success (with_reducible apply Exists.intro)); first | with_reducible assumption | omega | exact mdl (by omega) | exact ilo1 (by omega) | exact ilo2 (by omega) | exact ihi1 (by omega) (by omega) | exact ihi2 (by omega) (by omega))
    all_goals first | exact f0 | exact f1 | exact f2 | exact f3 | exact hd.2.1.1 | exact hd.2.2.1 | exact g0 (by assumption) | exact g1 (by assumption) | exact g2 (by assumption) | exact g3 (by assumption) | exact (he (by assumption)).2.1.1 | exact (he (by assumption)).2.2.1 | skip
    · have hf : freeX xs ((diagsM xs).getD j []) o i = true := by assumption
      refine ⟨i + 1, by omega, by omega, ?_⟩
      (repeat' (first | with_reducible exact True.intro | with_reducible refine And.intro ?_ ?_ | with_reducible refine Head.mk ?_ ?_ ?_ ?_ | ((conv => lhs; whnf); first | with_reducible rfl | with_reducible exact vInt_s (by omega) | exact rfl) | ((conv => whnf); first | with_reducible exact True.intro | with_reducible refine And.intro ?_ ?_))) <;> (try (conv => lhs; whnf))
      refine congrArg vBool ?_
      rw [freeX_succ, hf, Bool.true_and]
      rfl
    · have hf : freeX xs ((diagsM xs).getD j []) o i = false := by assumption
      refine ⟨i + 1, by omega, by omega, ?_⟩
      (repeat' (first | with_reducible exact True.intro | with_reducible refine And.intro ?_ ?_ | with_reducible refine Head.mk ?_ ?_ ?_ ?_ | ((conv => lhs; whnf); first | with_reducible rfl | with_reducible exact vInt_s (by omega) | exact rfl) | ((conv => whnf); first | with_reducible exact True.intro | with_reducible refine And.intro ?_ ?_))) <;> (try (conv => lhs; whnf))
      refine congrArg vBool ?_
      rw [freeX_succ, hf, Bool.false_and]
    · have hf : freeX xs ((diagsM xs).getD j []) o o.length = true := by rw [← show i = o.length by omega]; assumption
      refine ⟨j + 1, by omega, by omega, ?_⟩
      (repeat' (first | with_reducible exact True.intro | with_reducible refine And.intro ?_ ?_ | with_reducible refine Head.mk ?_ ?_ ?_ ?_ | ((conv => lhs; whnf); first | with_reducible rfl | with_reducible exact vInt_s (by omega) | exact rfl) | ((conv => whnf); first | with_reducible exact True.intro | with_reducible refine And.intro ?_ ?_))) <;> (try (conv => lhs; whnf))
      refine congrArg (Own.row _ _) ?_
      unfold greedyF; rw [ho, if_pos hf]
    · have hf : freeX xs ((diagsM xs).getD j []) o o.length = false := by rw [← show i = o.length by omega]; assumption
      refine ⟨j + 1, by omega, by omega, ?_⟩
      (repeat' (first | with_reducible exact True.intro | with_reducible refine And.intro ?_ ?_ | with_reducible refine Head.mk ?_ ?_ ?_ ?_ | ((conv => lhs; whnf); first | with_reducible rfl | with_reducible exact vInt_s (by omega) | exact rfl) | ((conv => whnf); first | with_reducible exact True.intro | with_reducible refine And.intro ?_ ?_))) <;> (try (conv => lhs; whnf))
      refine congrArg (Own.row _ _) ?_
      unfold greedyF; rw [ho, hf]; rfl
  · exact congrArg some (by unfold greedyM; rw [show j = (diagsM xs).length by omega])
theorem fnExactGreedyCuts_ok : Good1 Try.prog n_laws_FnExactGreedyCuts (lawCon [.room]) := by
  refine good_ofG (tys := tyL) (env := [(n_laws_szRoom, szRC), (n_laws_toRoom, toRoomC), (n_spec_GreedyCuts, sGreedyC), (n_impl_GreedyCuts, greedyC), (n_laws_eqIntSS, eqSSC), (n_laws_eqRoom, eqRC), (n_laws_heldIntSS, heldSSC)]) (envw := [(n_laws_markRoom, markRC)]) (envd := [(n_laws_markIntSS, markSSC)]) [20, 22, 34, 45] [] [] [] [22, 45] mixed tys ⟨szRoom_ok, toRoom_ok, sGreedyCuts_ok, iGreedyCuts_ok, eqIntSS_ok, eqRoom_ok, heldIntSS_ok, trivial⟩ ⟨markRoom_ok, trivial⟩ ⟨markIntSS_ok, trivial⟩ Try.func3 rfl (by kernel_rfl) (by decide) (by kernel_rfl) ?_
  have hG_ := kpz [(0, [1]), (1, [1, 3]), (2, [1, 3]), (3, [1, 15]), (4, [2]), (5, [1, 4]), (6, [1, 4, 5]), (7, [1, 4, 5, 6]), (8, [1, 4, 5, 6, 26]), (9, [2]), (10, [1, 4, 5, 6, 31]), (11, [2]), (12, [1, 4, 5, 6, 7]), (13, [1, 4, 6, 7]), (14, [1, 4, 6, 42]), (15, [2]), (16, [1, 4, 6, 8]), (17, [1, 4, 6, 8]), (18, [1, 4, 6, 8, 9]), (19, [1, 4, 6, 8, 9]), (20, [1, 4, 6, 8, 9, 50]), (21, [2]), (22, [1, 4, 6, 8, 53]), (23, [2]), (24, [4, 6, 8, 10]), (25, [6, 8, 60]), (26, [2]), (27, [6, 8, 9]), (28, [8, 9]), (29, [8, 9, 65]), (30, [2]), (31, [68]), (32, [2]), (33, [2])] [(6, [5, 20]), (7, [5, 20, 22]), (8, [5, 20, 22]), (9, [20, 22]), (10, [5, 20, 22]), (11, [20, 22]), (12, [5, 20, 22]), (13, [20, 22]), (14, [20, 22]), (15, [20, 22]), (16, [20, 22]), (17, [20, 22, 45]), (18, [20, 22, 45]), (19, [20, 22, 45]), (20, [20, 22, 45]), (21, [20, 22, 45]), (22, [20, 22, 45]), (23, [20, 22, 45]), (24, [20, 22, 45]), (25, [20, 22, 45]), (26, [20, 22, 45]), (27, [20, 22, 45]), (28, [20, 22, 45]), (29, [20, 22, 45]), (30, [20, 22, 45]), (31, [20, 22, 45]), (32, [20, 22, 45]), (33, [20, 22, 45])] [] []
  rintro ⟨(xs : List Pt), ⟨⟩⟩ ⟨(h1 : xs.length ≤ _), -⟩
  have ht := greedy_ok xs
  have ht1 := ht.1
  (repeat' (first | with_reducible exact True.intro | with_reducible refine st_seq ?_ | (with_reducible refine st_regionG hG_ ?_; intro K_ hK_) | (with_reducible refine st_region ?_; intro K_ hK_) | (with_reducible refine hK_ _ _ ?_; try clear hK_ K_) | ((with_reducible refine st_cond (b := ?b_) ?hb_ ?_ ?_); case hb_ => rfl) | with_reducible refine sq_n ?_ | with_reducible refine sq_r ?_ | with_reducible refine sq_e ?_ | with_reducible refine bq_n ?_ | with_reducible refine bq_r ?_ | with_reducible refine bq_q ?_ | with_reducible refine st_block ?_ | with_reducible refine st_exit ?_ | with_reducible refine st_ret ?_ | with_reducible refine st_skip ?_ | with_reducible refine gq_n ?_ | with_reducible refine gq_r ?_ | with_reducible refine gq_e ?_ | with_reducible refine lq_n ?_ | with_reducible refine lq_r ?_ | with_reducible refine lq_e ?_ | with_reducible refine bq_e (by decide) ?_ | ((conv => whnf); first | (with_reducible refine hK_ _ _ ?_; try clear hK_ K_) | (with_reducible refine fun (g_ : Sl) (o_ : Ow) => ?_) | with_reducible exact True.intro | with_reducible refine And.intro trivial ?_ | with_reducible refine And.intro ?_ ?_ | exact Nat.le_of_ble_eq_true rfl | exact Or.inl rfl | (intro h_; cases h_) | (intro h_; (try simp only [cond_true, cond_false, decide_eq_true_eq, decide_eq_false_iff_not, Bool.not_eq_true', Bool.not_eq_false', Int.toNat_natCast, prodEta] at h_)) | rfl))) <;> (try (conv => whnf)) <;> (try first | change (_ : Int) ≤ _ | change (_ : Nat) ≤ _) <;> (try ((fail_if_success (with_reducible apply Exists.intro)); (try dsimp only); (try simp only [cond_true, cond_false, decide_eq_true_eq, decide_eq_false_iff_not, Bool.not_eq_true', Bool.not_eq_false', Int.toNat_natCast, prodEta])))
  all_goals (try (fail_if_success (with_reducible apply Exists.intro)); first | with_reducible assumption | omega | exact mdl (by omega) | exact ilo1 (by omega) | exact ilo2 (by omega) | exact ihi1 (by omega) (by omega) | exact ihi2 (by omega) (by omega))
  all_goals ((try simp only [szF_neg1, szF_neg2, szF_nn, szF_hi1, bne_self_eq_false, beq_self_eq_true, Bool.true_eq_false, markRC, markPsC, markIsC, markBsC, markSSC, heldSSC, mkConW, mkConDW, marksSS_len, heldF_marks, heldI_marks, heldB_marks, heldSS_marks1, marks_len, marksI_len, marksB_len, decide_true, Bool.not_true, List.length_map, not_true_eq_false, Bool.false_eq_true, reduceCtorEq, not_false_eq_true] at *); (try omega))
  all_goals first | exact ht.2 _ (by assumption) | exact marksSS_le ht.2 _ (by assumption)
end Go.Proofs.Ytdikfihafebfdaa
