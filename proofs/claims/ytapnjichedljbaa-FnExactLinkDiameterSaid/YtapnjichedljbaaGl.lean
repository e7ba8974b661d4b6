/- Contracts and laws: numbers of straight pieces. -/
import Derived.Test.YtapnjichedljbaaGm
namespace Go.Proofs.Ytapnjichedljbaa
open Go.RowKit Go.Proofs.Ytapnjichedljbaa.Nm
set_option maxRecDepth 10000
set_option maxHeartbeats 4000000
set_option linter.unusedSimpArgs false
set_option linter.unusedVariables false
/-- The first numbers, put in one by one. -/
def pfA (q : Pt) (N : List Pt) (k : Nat) : List Int := (N.take k).map (f0 q) ++ List.replicate (N.length - k) (-1)
theorem pfA_len {q : Pt} {N : List Pt} {k : Nat} (h : k ≤ N.length) : (pfA q N k).length = N.length := by unfold pfA; simp; omega
theorem pfA_zero (q : Pt) (N : List Pt) : pfA q N 0 = List.replicate N.length (-1) := by unfold pfA; simp
theorem pfA_full (q : Pt) (N : List Pt) : pfA q N N.length = N.map (f0 q) := by unfold pfA; simp
theorem pfA_yes {q : Pt} {N : List Pt} {k : Nat} (h : k < N.length) (e : nd N k = q) : (pfA q N k).set k 0 = pfA q N (k + 1) := by
  have e' : N[k] = q := by rw [← e]; exact (getD_lt _ h).symm
  unfold pfA
  rw [show N.length - k = (N.length - (k + 1)) + 1 by omega, List.replicate_succ, List.set_append_right _ _ (by simp; omega), List.length_map, List.length_take, show k - min k N.length = 0 by omega, List.set_cons_zero, List.take_succ_eq_append_getElem h, List.map_append, e']
  simp [f0]
theorem pfA_no {q : Pt} {N : List Pt} {k : Nat} (h : k < N.length) (e : ¬ nd N k = q) : pfA q N k = pfA q N (k + 1) := by
  have e' : ¬ N[k] = q := by rw [show N[k] = nd N k from (getD_lt _ h).symm]; exact e
  unfold pfA
  rw [show N.length - k = (N.length - (k + 1)) + 1 by omega, List.replicate_succ, List.take_succ_eq_append_getElem h, List.map_append]
  simp [f0, e']
theorem ptOk_mem {xs : List Pt} (hr : roomOk xs = true) {x : Pt} (h : x ∈ xs) : ptOk x = true := by
  obtain ⟨j, hj, rfl⟩ := List.getElem_of_mem h
  rw [← show pAt xs j = xs[j] from getD_lt _ hj]
  exact room_pt hr hj
abbrev QL := List (Pt × Int)
theorem pq_yes {p : Pt} {a b : Int} (h : (p.1 == a && p.2 == b) = true) : p = (a, b) := by
  rw [Bool.and_eq_true, beq_iff_eq, beq_iff_eq] at h
  exact Prod.ext h.1 h.2
theorem pq_no {p : Pt} {a b : Int} (h : (p.1 == a && p.2 == b) = false) : ¬ p = (a, b) := fun e => by
  rw [e] at h
  simp at h
abbrev sS (xs : List Pt) : Pt → Pt → Bool := seesS xs
def piecesC : Con := mkCon [.room, .pt, .pt] (fun x => roomOk x.1 = true ∧ ptOk x.2.1 = true ∧ ptOk x.2.2.1 = true) fun x =>
  .val (.tup [.inl (.d (.sl none (.b .int) (x.1.map (dstM (sS x.1) (x.1 ++ [x.2.1]) x.2.2.1)))), .inl (.d (.int .i64 (dstM (sS x.1) x.1 x.2.2.1 x.2.1)))])
theorem pieces_ok : Good1 Try.prog n_impl_piecesTo piecesC := by
  refine good_ofG (tys := tyL) (env := [(n_impl_copyPoints, copyC), (n_slices_Repeat_int, repC), (n_impl_sees, sees2C)]) (envw := []) [19, 22, 26, 28, 29, 48, 50, 81, 88] [13, 15, 17, 18, 20, 1049180, 1051229] [] [] mixed tys ⟨copyPoints_ok, repeat_ok, sees2_ok, trivial⟩ trivial Try.func64 rfl (by kernel_rfl) (by decide) (by kernel_rfl) ?_
  have hG_ := kpz [(0, [3, 4, 5]), (1, [3, 5, 8]), (2, [3, 5, 8, 9]), (3, [3, 5, 8, 9, 10]), (4, [3, 5, 8, 9, 10, 11]), (5, [3, 5, 8, 9, 10, 11, 30, 31, 32]), (6, [3, 5, 8, 9, 10, 11, 30, 31, 32, 33]), (7, [3, 5, 8, 9, 10, 11, 12, 13, 30, 31, 32]), (8, [3, 5, 8, 9, 10, 11, 12, 30, 31, 32, 39]), (9, [3, 5, 8, 9, 10, 11, 30, 31, 32]), (10, [3, 5, 8, 9, 10, 11, 30, 31, 32]), (11, [3, 8, 9, 10, 11, 46]), (12, [3, 8, 9, 10, 11]), (13, [3, 8, 9, 10, 11, 51, 52, 53]), (14, [3, 8, 9, 10, 11, 51, 52, 53, 54]), (15, [3, 8, 9, 10, 11, 14, 15, 51, 52, 53]), (16, [3, 8, 9, 10, 11, 14, 15, 51, 52, 53, 70]), (17, [3, 8, 9, 10, 11, 14, 15, 51, 52, 53]), (18, [3, 8, 9, 10, 11, 14, 51, 52, 53]), (19, [3, 8, 9, 10, 11, 51, 52, 53]), (20, [3, 8, 9, 10, 11, 51, 52, 53]), (21, [9, 16]), (22, [6, 7]), (100022, [9, 16])] [(1, [19]), (2, [19, 26]), (3, [19, 26, 28]), (4, [19, 26, 28, 29]), (5, [19, 26, 28, 29]), (6, [19, 26, 28, 29]), (7, [13, 19, 26, 28, 29]), (8, [19, 26, 28, 29]), (9, [19, 26, 28, 29]), (10, [19, 26, 28, 29]), (11, [19, 26, 28, 29]), (12, [19, 26, 28, 29]), (13, [19, 26, 28, 29]), (14, [19, 26, 28, 29]), (15, [15, 19, 26, 28, 29]), (16, [15, 19, 26, 28, 29]), (17, [15, 19, 26, 28, 29]), (18, [19, 26, 28, 29]), (19, [19, 26, 28, 29]), (20, [19, 26, 28, 29]), (21, [19, 26, 28, 29]), (22, [19, 26, 28, 29]), (100022, [13, 15, 19, 26, 28, 29])] [(100022, [26])] []
  rintro ⟨(xs : List Pt), ⟨(px : Int), (py : Int)⟩, ⟨(qx : Int), (qy : Int)⟩, ⟨⟩⟩ ⟨(hr : roomOk xs = true), (hp : ptOk (px, py) = true), (hq : ptOk (qx, qy) = true)⟩
  have hxl := room_len hr
  have hNok : ∀ x ∈ xs ++ [(px, py)], ptOk x = true := fun x hx => by
    rcases List.mem_append.1 hx with h | h
    · exact ptOk_mem hr h
    · rw [List.mem_singleton.1 h]; exact hp
  have hNl : (xs ++ [(px, py)]).length = xs.length + 1 := by simp
  have hNlp : PLift ((xs ++ [(px, py)]).length = xs.length + 1) := ⟨hNl⟩
  have hfin : ∀ d, Bp (sS xs) (xs ++ [(px, py)]) (qx, qy) d [] → d.take xs.length = xs.map (dstM (sS xs) (xs ++ [(px, py)]) (qx, qy)) ∧ d.getD xs.length 0 = dstM (sS xs) xs (qx, qy) (px, py) := fun d hd => by
    rw [hd.all, List.map_append, List.take_left' (by simp)]
    refine ⟨rfl, ?_⟩
    rw [List.getD_eq_getElem?_getD, List.getElem?_append_right (by simp)]
    simp [dst_without]
  show awp' _ _ (Fin' _ _ (.val (.tup [.inl (.d (.sl none (.b .int) (xs.map (dstM (sS xs) (xs ++ [(px, py)]) (qx, qy))))), .inl (.d (.int .i64 (dstM (sS xs) xs (qx, qy) (px, py))))]))) _ _
  generalize xs.map (dstM (sS xs) (xs ++ [(px, py)]) (qx, qy)) = R1 at hfin ⊢
  generalize dstM (sS xs) xs (qx, qy) (px, py) = R2 at hfin ⊢
  (repeat' (first | with_reducible exact True.intro | with_reducible refine st_seq ?_ | (with_reducible refine st_regionG hG_ ?_; intro K_ hK_) | (with_reducible refine st_region ?_; intro K_ hK_) | (with_reducible refine hK_ _ _ ?_; try clear hK_ K_) | ((with_reducible refine st_cond (b := ?b_) ?hb_ ?_ ?_); case hb_ => rfl) | with_reducible refine sq_n ?_ | with_reducible refine sq_r ?_ | with_reducible refine sq_e ?_ | with_reducible refine bq_n ?_ | with_reducible refine bq_r ?_ | with_reducible refine bq_q ?_ | with_reducible refine st_block ?_ | with_reducible refine st_exit ?_ | with_reducible refine st_ret ?_ | with_reducible refine st_skip ?_ | with_reducible refine gq_n ?_ | with_reducible refine gq_r ?_ | with_reducible refine gq_e ?_ | with_reducible refine lq_n ?_ | with_reducible refine lq_r ?_ | with_reducible refine lq_e ?_ | with_reducible refine bq_e (by decide) ?_ | ((conv => whnf); first | (with_reducible refine hK_ _ _ ?_; try clear hK_ K_) | (with_reducible refine fun (g_ : Sl) (o_ : Ow) => ?_) | with_reducible exact True.intro | with_reducible refine And.intro trivial ?_ | with_reducible refine And.intro ?_ ?_ | exact Nat.le_of_ble_eq_true rfl | exact Or.inl rfl | (intro h_; cases h_) | (intro h_; (try simp only [cond_true, cond_false, decide_eq_true_eq, decide_eq_false_iff_not, Bool.not_eq_true', Bool.not_eq_false', Int.toNat_natCast, prodEta] at h_)) | rfl))) <;> (try (conv => whnf)) <;> (try first | change (_ : Int) ≤ _ | change (_ : Nat) ≤ _) <;> (try ((fail_if_success (with_reducible apply Exists.intro)); (try dsimp only); (try simp only [cond_true, cond_false, decide_eq_true_eq, decide_eq_false_iff_not, Bool.not_eq_true', Bool.not_eq_false', Int.toNat_natCast, prodEta]))) <;> (try simp (disch := omega) only [ptEq2, cond_true, cond_false, decide_eq_true_eq, decide_eq_false_iff_not, List.length_drop, List.take_length, Int.toNat_zero, List.drop_zero, Nat.zero_add, List.nil_append, mod_nat1, mod_nat2, tm1, tm2, tmj, W_in, Int.add_sub_cancel, tn1, tnp, tnc, List.length_append, List.length_take, List.length_replicate, List.length_set, List.length_map, List.length_cons, List.length_nil, prodEta, Int.toNat_natCast, beq_iff_eq, beq_eq_false_iff_ne, bne_iff_ne, bne_eq_false_iff_eq, ne_eq, Int.natCast_inj, Int.ofNat_lt, Int.ofNat_le] at *)
  all_goals (try (fail_if_success (with_reducible apply Exists.intro)); first | with_reducible assumption | omega | exact mdl (by omega) | exact ilo1 (by omega) | exact ilo2 (by omega) | exact ihi1 (by omega) (by omega) | exact ihi2 (by omega) (by omega))
  generalize xs ++ [(px, py)] = N at *
  refine awp'_loopG (α := Nat) (fun k ver_ => [(32, vInt k)]) (fun k ver_ => [(9, 26, false, .row t_int (.b .int) (pfA (qx, qy) N k))]) (fun k ver_ => [(13, ⟨ver_ 13, .dead⟩), (15, ⟨ver_ 15, .dead⟩)]) (fun k => k ≤ N.length) (fun k => N.length - k) [3, 5, 8, 10, 11, 30, 31] [19, 28, 29] (0) ?_
  conv => whnf
  refine ⟨⟨?inv1_, ?vals1_, ?own1_, ?fix1_⟩, ?body1_⟩
  case' vals1_ => (repeat' (first | with_reducible exact True.intro | with_reducible refine And.intro ?_ ?_ | with_reducible refine Head.mk ?_ ?_ ?_ ?_ | ((conv => lhs; whnf); first | with_reducible rfl | with_reducible exact vInt_s (by omega) | exact rfl) | ((conv => whnf); first | with_reducible exact True.intro | with_reducible refine And.intro ?_ ?_))) <;> (try (conv => lhs; whnf))
  case' own1_ => (repeat' (first | with_reducible exact True.intro | with_reducible refine And.intro ?_ ?_ | with_reducible refine Head.mk ?_ ?_ ?_ ?_ | ((conv => lhs; whnf); first | with_reducible rfl | with_reducible exact vInt_s (by omega) | exact rfl) | ((conv => whnf); first | with_reducible exact True.intro | with_reducible refine And.intro ?_ ?_))) <;> (try (conv => lhs; whnf))
  case' fix1_ => (repeat' (first | with_reducible exact True.intro | with_reducible refine And.intro ?_ ?_ | with_reducible refine Head.mk ?_ ?_ ?_ ?_ | ((conv => lhs; whnf); first | with_reducible rfl | with_reducible exact vInt_s (by omega) | exact rfl) | ((conv => whnf); first | with_reducible exact True.intro | with_reducible refine And.intro ?_ ?_))) <;> (try (conv => lhs; whnf))
  · exact congrArg (Own.row t_int (.b .int)) (by rw [pfA_zero, hNlp.down]; rfl)
  · exact Nat.zero_le _
  rintro k g_ o_ v_ hk
  have hfl := pfA_len (q := (qx, qy)) hk
  have hNl2 := hNlp.down
  (repeat' (first | with_reducible exact True.intro | with_reducible refine st_seq ?_ | (with_reducible refine st_regionG hG_ ?_; intro K_ hK_) | (with_reducible refine st_region ?_; intro K_ hK_) | (with_reducible refine hK_ _ _ ?_; try clear hK_ K_) | ((with_reducible refine st_cond (b := ?b_) ?hb_ ?_ ?_); case hb_ => rfl) | with_reducible refine sq_n ?_ | with_reducible refine sq_r ?_ | with_reducible refine sq_e ?_ | with_reducible refine bq_n ?_ | with_reducible refine bq_r ?_ | with_reducible refine bq_q ?_ | with_reducible refine st_block ?_ | with_reducible refine st_exit ?_ | with_reducible refine st_ret ?_ | with_reducible refine st_skip ?_ | with_reducible refine gq_n ?_ | with_reducible refine gq_r ?_ | with_reducible refine gq_e ?_ | with_reducible refine lq_n ?_ | with_reducible refine lq_r ?_ | with_reducible refine lq_e ?_ | with_reducible refine bq_e (by decide) ?_ | ((conv => whnf); first | (with_reducible refine hK_ _ _ ?_; try clear hK_ K_) | (with_reducible refine fun (g_ : Sl) (o_ : Ow) => ?_) | with_reducible exact True.intro | with_reducible refine And.intro trivial ?_ | with_reducible refine And.intro ?_ ?_ | exact Nat.le_of_ble_eq_true rfl | exact Or.inl rfl | (intro h_; cases h_) | (intro h_; (try simp only [cond_true, cond_false, decide_eq_true_eq, decide_eq_false_iff_not, Bool.not_eq_true', Bool.not_eq_false', Int.toNat_natCast, prodEta] at h_)) | rfl))) <;> (try (conv => whnf)) <;> (try first | change (_ : Int) ≤ _ | change (_ : Nat) ≤ _) <;> (try ((fail_if_success (with_reducible apply Exists.intro)); (try dsimp only); (try simp only [cond_true, cond_false, decide_eq_true_eq, decide_eq_false_iff_not, Bool.not_eq_true', Bool.not_eq_false', Int.toNat_natCast, prodEta]))) <;> (try simp (disch := omega) only [ptEq2, cond_true, cond_false, decide_eq_true_eq, decide_eq_false_iff_not, List.length_drop, List.take_length, Int.toNat_zero, List.drop_zero, Nat.zero_add, List.nil_append, mod_nat1, mod_nat2, tm1, tm2, tmj, W_in, Int.add_sub_cancel, tn1, tnp, tnc, List.length_append, List.length_take, List.length_replicate, List.length_set, List.length_map, List.length_cons, List.length_nil, prodEta, Int.toNat_natCast, beq_iff_eq, beq_eq_false_iff_ne, bne_iff_ne, bne_eq_false_iff_eq, ne_eq, Int.natCast_inj, Int.ofNat_lt, Int.ofNat_le] at *)
  all_goals (try (fail_if_success (with_reducible apply Exists.intro)); first | with_reducible assumption | omega | exact mdl (by omega) | exact ilo1 (by omega) | exact ilo2 (by omega) | exact ihi1 (by omega) (by omega) | exact ihi2 (by omega) (by omega))
  · refine ⟨k + 1, by omega, by omega, ?_⟩
    (repeat' (first | with_reducible exact True.intro | with_reducible refine And.intro ?_ ?_ | with_reducible refine Head.mk ?_ ?_ ?_ ?_ | ((conv => lhs; whnf); first | with_reducible rfl | with_reducible exact vInt_s (by omega) | exact rfl) | ((conv => whnf); first | with_reducible exact True.intro | with_reducible refine And.intro ?_ ?_))) <;> (try (conv => lhs; whnf))
    exact congrArg (Own.row t_int (.b .int)) (pfA_yes (by omega) (pq_yes (by assumption)))
  · refine ⟨k + 1, by omega, by omega, ?_⟩
    (repeat' (first | with_reducible exact True.intro | with_reducible refine And.intro ?_ ?_ | with_reducible refine Head.mk ?_ ?_ ?_ ?_ | ((conv => lhs; whnf); first | with_reducible rfl | with_reducible exact vInt_s (by omega) | exact rfl) | ((conv => whnf); first | with_reducible exact True.intro | with_reducible refine And.intro ?_ ?_))) <;> (try (conv => lhs; whnf))
    exact congrArg (Own.row t_int (.b .int)) (pfA_no (by omega) (pq_no (by assumption)))
  obtain rfl : k = N.length := by omega
  refine st_tl 28 ?_
  conv => whnf
  refine ⟨by simp, ?_⟩
  refine st_tl 29 ?_
  conv => whnf
  refine ⟨by simp, ?_⟩
  refine awp'_loopG (α := List Int × QL) (fun s ver_ => []) (fun s ver_ => [(9, 26, false, .row t_int (.b .int) s.1), (10, 28, false, .tail t_impl_Point (.b .pt) (s.2.map Prod.fst)), (11, 29, false, .tail t_int (.b .int) (s.2.map Prod.snd))]) (fun s ver_ => [(13, ⟨ver_ 13, .dead⟩), (15, ⟨ver_ 15, .dead⟩)]) (fun s => Bp (sS xs) N (qx, qy) s.1 s.2 ∧ s.2.length ≤ fnd s.1 + 1) (fun s => (N.length - fnd s.1) * 2 + s.2.length) [3, 8] [19] ((N.map (f0 (qx, qy)), [((qx, qy), 0)])) ?_
  conv => whnf
  refine ⟨⟨?inv2_, ?vals2_, ?own2_, ?fix2_⟩, ?body2_⟩
  case' vals2_ => (repeat' (first | with_reducible exact True.intro | with_reducible refine And.intro ?_ ?_ | with_reducible refine Head.mk ?_ ?_ ?_ ?_ | ((conv => lhs; whnf); first | with_reducible rfl | with_reducible exact vInt_s (by omega) | exact rfl) | ((conv => whnf); first | with_reducible exact True.intro | with_reducible refine And.intro ?_ ?_))) <;> (try (conv => lhs; whnf))
  case' own2_ => (repeat' (first | with_reducible exact True.intro | with_reducible refine And.intro ?_ ?_ | with_reducible refine Head.mk ?_ ?_ ?_ ?_ | ((conv => lhs; whnf); first | with_reducible rfl | with_reducible exact vInt_s (by omega) | exact rfl) | ((conv => whnf); first | with_reducible exact True.intro | with_reducible refine And.intro ?_ ?_))) <;> (try (conv => lhs; whnf))
  case' fix2_ => (repeat' (first | with_reducible exact True.intro | with_reducible refine And.intro ?_ ?_ | with_reducible refine Head.mk ?_ ?_ ?_ ?_ | ((conv => lhs; whnf); first | with_reducible rfl | with_reducible exact vInt_s (by omega) | exact rfl) | ((conv => whnf); first | with_reducible exact True.intro | with_reducible refine And.intro ?_ ?_))) <;> (try (conv => lhs; whnf))
  · exact congrArg (Own.row t_int (.b .int)) (pfA_full _ _)
  · exact ⟨bp_start (Z := []) (fun e he => by cases he), by show 1 ≤ _; omega⟩
  rintro ⟨d, Q⟩ g_ o_ v_ ⟨(hB : Bp _ _ _ d Q), (hQl : Q.length ≤ _)⟩
  have hdl := hB.len
  rcases Q with _ | ⟨⟨y, l⟩, Q⟩
  · obtain ⟨hf1, hf2⟩ := hfin d hB
    have hxN : xs.length < N.length := by have := hNlp.down; omega
    (repeat' (first | with_reducible exact True.intro | with_reducible refine st_seq ?_ | (with_reducible refine st_regionG hG_ ?_; intro K_ hK_) | (with_reducible refine st_region ?_; intro K_ hK_) | (with_reducible refine hK_ _ _ ?_; try clear hK_ K_) | ((with_reducible refine st_cond (b := ?b_) ?hb_ ?_ ?_); case hb_ => rfl) | with_reducible refine sq_n ?_ | with_reducible refine sq_r ?_ | with_reducible refine sq_e ?_ | with_reducible refine bq_n ?_ | with_reducible refine bq_r ?_ | with_reducible refine bq_q ?_ | with_reducible refine st_block ?_ | with_reducible refine st_exit ?_ | with_reducible refine st_ret ?_ | with_reducible refine st_skip ?_ | with_reducible refine gq_n ?_ | with_reducible refine gq_r ?_ | with_reducible refine gq_e ?_ | with_reducible refine lq_n ?_ | with_reducible refine lq_r ?_ | with_reducible refine lq_e ?_ | with_reducible refine bq_e (by decide) ?_ | ((conv => whnf); first | (with_reducible refine hK_ _ _ ?_; try clear hK_ K_) | (with_reducible refine fun (g_ : Sl) (o_ : Ow) => ?_) | with_reducible exact True.intro | with_reducible refine And.intro trivial ?_ | with_reducible refine And.intro ?_ ?_ | exact Nat.le_of_ble_eq_true rfl | exact Or.inl rfl | (intro h_; cases h_) | (intro h_; (try simp only [cond_true, cond_false, decide_eq_true_eq, decide_eq_false_iff_not, Bool.not_eq_true', Bool.not_eq_false', Int.toNat_natCast, prodEta] at h_)) | rfl))) <;> (try (conv => whnf)) <;> (try first | change (_ : Int) ≤ _ | change (_ : Nat) ≤ _) <;> (try ((fail_if_success (with_reducible apply Exists.intro)); (try dsimp only); (try simp only [cond_true, cond_false, decide_eq_true_eq, decide_eq_false_iff_not, Bool.not_eq_true', Bool.not_eq_false', Int.toNat_natCast, prodEta]))) <;> (try simp (disch := omega) only [ptEq2, cond_true, cond_false, decide_eq_true_eq, decide_eq_false_iff_not, List.length_drop, List.take_length, Int.toNat_zero, List.drop_zero, Nat.zero_add, List.nil_append, mod_nat1, mod_nat2, tm1, tm2, tmj, W_in, Int.add_sub_cancel, tn1, tnp, tnc, List.length_append, List.length_take, List.length_replicate, List.length_set, List.length_map, List.length_cons, List.length_nil, prodEta, Int.toNat_natCast, beq_iff_eq, beq_eq_false_iff_ne, bne_iff_ne, bne_eq_false_iff_eq, ne_eq, Int.natCast_inj, Int.ofNat_lt, Int.ofNat_le] at *)
    all_goals (try (fail_if_success (with_reducible apply Exists.intro)); first | with_reducible assumption | omega | exact mdl (by omega) | exact ilo1 (by omega) | exact ilo2 (by omega) | exact ihi1 (by omega) (by omega) | exact ihi2 (by omega) (by omega))
    exact congrArg some hf1
  · obtain ⟨hl0, -, hyN⟩ := hB.qs (y, l) List.mem_cons_self
    have hl0 : 0 ≤ l := hl0
    have hy : ptOk y = true := hyN.elim (fun e => by rw [show y = (qx, qy) from e]; exact hq) (hNok y)
    have hlb : l ≤ fnd d := hB.cq _ List.mem_cons_self
    have hfd := fnd_le d
    have hQl : Q.length + 1 ≤ fnd d + 1 := hQl
    (repeat' (first | with_reducible exact True.intro | with_reducible refine st_seq ?_ | (with_reducible refine st_regionG hG_ ?_; intro K_ hK_) | (with_reducible refine st_region ?_; intro K_ hK_) | (with_reducible refine hK_ _ _ ?_; try clear hK_ K_) | ((with_reducible refine st_cond (b := ?b_) ?hb_ ?_ ?_); case hb_ => rfl) | with_reducible refine sq_n ?_ | with_reducible refine sq_r ?_ | with_reducible refine sq_e ?_ | with_reducible refine bq_n ?_ | with_reducible refine bq_r ?_ | with_reducible refine bq_q ?_ | with_reducible refine st_block ?_ | with_reducible refine st_exit ?_ | with_reducible refine st_ret ?_ | with_reducible refine st_skip ?_ | with_reducible refine gq_n ?_ | with_reducible refine gq_r ?_ | with_reducible refine gq_e ?_ | with_reducible refine lq_n ?_ | with_reducible refine lq_r ?_ | with_reducible refine lq_e ?_ | with_reducible refine bq_e (by decide) ?_ | ((conv => whnf); first | (with_reducible refine hK_ _ _ ?_; try clear hK_ K_) | (with_reducible refine fun (g_ : Sl) (o_ : Ow) => ?_) | with_reducible exact True.intro | with_reducible refine And.intro trivial ?_ | with_reducible refine And.intro ?_ ?_ | exact Nat.le_of_ble_eq_true rfl | exact Or.inl rfl | (intro h_; cases h_) | (intro h_; (try simp only [cond_true, cond_false, decide_eq_true_eq, decide_eq_false_iff_not, Bool.not_eq_true', Bool.not_eq_false', Int.toNat_natCast, prodEta] at h_)) | rfl))) <;> (try (conv => whnf)) <;> (try first | change (_ : Int) ≤ _ | change (_ : Nat) ≤ _) <;> (try ((fail_if_success (with_reducible apply Exists.intro)); (try dsimp only); (try simp only [cond_true, cond_false, decide_eq_true_eq, decide_eq_false_iff_not, Bool.not_eq_true', Bool.not_eq_false', Int.toNat_natCast, prodEta]))) <;> (try simp (disch := omega) only [ptEq2, cond_true, cond_false, decide_eq_true_eq, decide_eq_false_iff_not, List.length_drop, List.take_length, Int.toNat_zero, List.drop_zero, Nat.zero_add, List.nil_append, mod_nat1, mod_nat2, tm1, tm2, tmj, W_in, Int.add_sub_cancel, tn1, tnp, tnc, List.length_append, List.length_take, List.length_replicate, List.length_set, List.length_map, List.length_cons, List.length_nil, prodEta, Int.toNat_natCast, beq_iff_eq, beq_eq_false_iff_ne, bne_iff_ne, bne_eq_false_iff_eq, ne_eq, Int.natCast_inj, Int.ofNat_lt, Int.ofNat_le] at *)
    all_goals (try (fail_if_success (with_reducible apply Exists.intro)); first | with_reducible assumption | omega | exact mdl (by omega) | exact ilo1 (by omega) | exact ilo2 (by omega) | exact ihi1 (by omega) (by omega) | exact ihi2 (by omega) (by omega))
    ·
     refine awp'_loopG (α := Nat × List Int × QL) (fun s ver_ => [(53, vInt s.1)]) (fun s ver_ => [(9, 26, false, .row t_int (.b .int) s.2.1), (10, 28, false, .tail t_impl_Point (.b .pt) (y :: s.2.2.map Prod.fst)), (11, 29, false, .tail t_int (.b .int) (l :: s.2.2.map Prod.snd))]) (fun s ver_ => [(13, ⟨ver_ 13, .dead⟩), (15, ⟨ver_ 15, .dead⟩)]) (fun s => s.1 ≤ N.length ∧ Bp (sS xs) N (qx, qy) s.2.1 ((y, l) :: s.2.2) ∧ (∀ j, j < s.1 → sS xs y (nd N j) = true → 0 ≤ gD s.2.1 j) ∧ (N.length - fnd s.2.1) * 2 + s.2.2.length ≤ (N.length - fnd d) * 2 + Q.length ∧ s.2.2.length + 1 ≤ fnd s.2.1 + 1) (fun s => N.length - s.1) [3, 8, 51, 52] [19] ((0, d, Q)) ?_
     conv => whnf
     refine ⟨⟨?inv3_, ?vals3_, ?own3_, ?fix3_⟩, ?body3_⟩
     case' vals3_ => (repeat' (first | with_reducible exact True.intro | with_reducible refine And.intro ?_ ?_ | with_reducible refine Head.mk ?_ ?_ ?_ ?_ | ((conv => lhs; whnf); first | with_reducible rfl | with_reducible exact vInt_s (by omega) | exact rfl) | ((conv => whnf); first | with_reducible exact True.intro | with_reducible refine And.intro ?_ ?_))) <;> (try (conv => lhs; whnf))
     case' own3_ => (repeat' (first | with_reducible exact True.intro | with_reducible refine And.intro ?_ ?_ | with_reducible refine Head.mk ?_ ?_ ?_ ?_ | ((conv => lhs; whnf); first | with_reducible rfl | with_reducible exact vInt_s (by omega) | exact rfl) | ((conv => whnf); first | with_reducible exact True.intro | with_reducible refine And.intro ?_ ?_))) <;> (try (conv => lhs; whnf))
     case' fix3_ => (repeat' (first | with_reducible exact True.intro | with_reducible refine And.intro ?_ ?_ | with_reducible refine Head.mk ?_ ?_ ?_ ?_ | ((conv => lhs; whnf); first | with_reducible rfl | with_reducible exact vInt_s (by omega) | exact rfl) | ((conv => whnf); first | with_reducible exact True.intro | with_reducible refine And.intro ?_ ?_))) <;> (try (conv => lhs; whnf))
     · exact ⟨Nat.zero_le _, hB, fun j hj => absurd hj (by omega), Nat.le_refl _, hQl⟩
     rintro ⟨i, d', Q'⟩ g_ o_ v_ ⟨(hi : i ≤ _), (hB' : Bp _ _ _ d' _), hdone, (hms : (N.length - fnd d') * 2 + Q'.length ≤ _), (hQl' : Q'.length + 1 ≤ fnd d' + 1)⟩
     have hdl' := hB'.len
     have hlb' : l ≤ fnd d' := hB'.cq _ List.mem_cons_self
     have hfd' := fnd_le d'
     have hy0 : (y :: Q'.map Prod.fst).getD 0 (ElK.b ElB.pt).dflt = y := rfl
     have hz0 : (l :: Q'.map Prod.snd).getD 0 (ElK.b ElB.int).dflt = l := rfl
     rcases Nat.lt_or_ge i N.length with hil | hil
     · have hnok : ptOk (nd N i) = true := hNok _ (by rw [show nd N i = N[i] from getD_lt _ hil]; exact List.getElem_mem _)
       (repeat' (first | with_reducible exact True.intro | with_reducible refine st_seq ?_ | (with_reducible refine st_regionG hG_ ?_; intro K_ hK_) | (with_reducible refine st_region ?_; intro K_ hK_) | (with_reducible refine hK_ _ _ ?_; try clear hK_ K_) | ((with_reducible refine st_cond (b := ?b_) ?hb_ ?_ ?_); case hb_ => rfl) | with_reducible refine sq_n ?_ | with_reducible refine sq_r ?_ | with_reducible refine sq_e ?_ | with_reducible refine bq_n ?_ | with_reducible refine bq_r ?_ | with_reducible refine bq_q ?_ | with_reducible refine st_block ?_ | with_reducible refine st_exit ?_ | with_reducible refine st_ret ?_ | with_reducible refine st_skip ?_ | with_reducible refine gq_n ?_ | with_reducible refine gq_r ?_ | with_reducible refine gq_e ?_ | with_reducible refine lq_n ?_ | with_reducible refine lq_r ?_ | with_reducible refine lq_e ?_ | with_reducible refine bq_e (by decide) ?_ | ((conv => whnf); first | (with_reducible refine hK_ _ _ ?_; try clear hK_ K_) | (with_reducible refine fun (g_ : Sl) (o_ : Ow) => ?_) | with_reducible exact True.intro | with_reducible refine And.intro trivial ?_ | with_reducible refine And.intro ?_ ?_ | exact Nat.le_of_ble_eq_true rfl | exact Or.inl rfl | (intro h_; cases h_) | (intro h_; (try simp only [cond_true, cond_false, decide_eq_true_eq, decide_eq_false_iff_not, Bool.not_eq_true', Bool.not_eq_false', Int.toNat_natCast, prodEta] at h_)) | rfl))) <;> (try (conv => whnf)) <;> (try first | change (_ : Int) ≤ _ | change (_ : Nat) ≤ _) <;> (try ((fail_if_success (with_reducible apply Exists.intro)); (try dsimp only); (try simp only [cond_true, cond_false, decide_eq_true_eq, decide_eq_false_iff_not, Bool.not_eq_true', Bool.not_eq_false', Int.toNat_natCast, prodEta]))) <;> (try simp (disch := omega) only [ptEq2, cond_true, cond_false, decide_eq_true_eq, decide_eq_false_iff_not, List.length_drop, List.take_length, Int.toNat_zero, List.drop_zero, Nat.zero_add, List.nil_append, mod_nat1, mod_nat2, tm1, tm2, tmj, W_in, Int.add_sub_cancel, tn1, tnp, tnc, List.length_append, List.length_take, List.length_replicate, List.length_set, List.length_map, List.length_cons, List.length_nil, prodEta, Int.toNat_natCast, beq_iff_eq, beq_eq_false_iff_ne, bne_iff_ne, bne_eq_false_iff_eq, ne_eq, Int.natCast_inj, Int.ofNat_lt, Int.ofNat_le] at *) <;> (try simp only [hy0, hz0] at *)
       all_goals (try (fail_if_success (with_reducible apply Exists.intro)); first | with_reducible assumption | omega | exact mdl (by omega) | exact ilo1 (by omega) | exact ilo2 (by omega) | exact ihi1 (by omega) (by omega) | exact ihi2 (by omega) (by omega))
       · have hdi : gD d' i < 0 := ‹d'.getD i _ < 0›
         have hf : fnd (d'.set i (l + 1)) = fnd d' + 1 := fnd_set (by omega) (by omega) hdi
         have hfd2 := fnd_le (d'.set i (l + 1))
         rw [List.length_set] at hfd2
         refine ⟨(i + 1, d'.set i (l + 1), Q' ++ [(nd N i, l + 1)]), by show _ - (i + 1) < _; omega, ⟨by show i + 1 ≤ _; omega, hB'.step hil hdi h_, fun j hj hs => ?_, ?_, ?_⟩, ?_⟩
         · have hj : j < i + 1 := hj
           show 0 ≤ gD (d'.set i (l + 1)) j
           rw [gD_set (by omega)]
           split
           · omega
           · exact hdone j (by omega) hs
         · show (N.length - fnd (d'.set i (l + 1))) * 2 + (Q' ++ [(nd N i, l + 1)]).length ≤ _
           rw [hf, List.length_append, List.length_singleton]
           omega
         · show (Q' ++ [(nd N i, l + 1)]).length + 1 ≤ fnd (d'.set i (l + 1)) + 1
           rw [hf, List.length_append, List.length_singleton]
           omega
         · (repeat' (first | with_reducible exact True.intro | with_reducible refine And.intro ?_ ?_ | with_reducible refine Head.mk ?_ ?_ ?_ ?_ | ((conv => lhs; whnf); first | with_reducible rfl | with_reducible exact vInt_s (by omega) | exact rfl) | ((conv => whnf); first | with_reducible exact True.intro | with_reducible refine And.intro ?_ ?_))) <;> (try (conv => lhs; whnf))
           · exact congrArg (Own.tail t_impl_Point (.b .pt)) (by simp)
           · refine congrArg (Own.tail t_int (.b .int)) ?_
             show l :: Q'.map Prod.snd ++ [gD (d'.set i (l + 1)) i] = l :: (Q' ++ [(nd N i, l + 1)]).map Prod.snd
             rw [gD_set (by omega), if_pos rfl]
             simp
       · refine ⟨(i + 1, d', Q'), by show _ - (i + 1) < _; omega, ⟨by show i + 1 ≤ _; omega, hB', fun j hj hs => ?_, hms, hQl'⟩, by (repeat' (first | with_reducible exact True.intro | with_reducible refine And.intro ?_ ?_ | with_reducible refine Head.mk ?_ ?_ ?_ ?_ | ((conv => lhs; whnf); first | with_reducible rfl | with_reducible exact vInt_s (by omega) | exact rfl) | ((conv => whnf); first | with_reducible exact True.intro | with_reducible refine And.intro ?_ ?_))) <;> (try (conv => lhs; whnf))⟩
         have hj : j < i + 1 := hj
         rcases Nat.lt_or_ge j i with h5 | h5
         · exact hdone j h5 hs
         · obtain rfl : j = i := by omega
           rw [show sS xs y (nd N j) = false from h_] at hs; cases hs
       · refine ⟨(i + 1, d', Q'), by show _ - (i + 1) < _; omega, ⟨by show i + 1 ≤ _; omega, hB', fun j hj hs => ?_, hms, hQl'⟩, by (repeat' (first | with_reducible exact True.intro | with_reducible refine And.intro ?_ ?_ | with_reducible refine Head.mk ?_ ?_ ?_ ?_ | ((conv => lhs; whnf); first | with_reducible rfl | with_reducible exact vInt_s (by omega) | exact rfl) | ((conv => whnf); first | with_reducible exact True.intro | with_reducible refine And.intro ?_ ?_))) <;> (try (conv => lhs; whnf))⟩
         have hj : j < i + 1 := hj
         rcases Nat.lt_or_ge j i with h5 | h5
         · exact hdone j h5 hs
         · obtain rfl : j = i := by omega
           exact Int.not_lt.1 ‹¬ d'.getD j _ < 0›
       · exfalso; omega
     · (repeat' (first | with_reducible exact True.intro | with_reducible refine st_seq ?_ | (with_reducible refine st_regionG hG_ ?_; intro K_ hK_) | (with_reducible refine st_region ?_; intro K_ hK_) | (with_reducible refine hK_ _ _ ?_; try clear hK_ K_) | ((with_reducible refine st_cond (b := ?b_) ?hb_ ?_ ?_); case hb_ => rfl) | with_reducible refine sq_n ?_ | with_reducible refine sq_r ?_ | with_reducible refine sq_e ?_ | with_reducible refine bq_n ?_ | with_reducible refine bq_r ?_ | with_reducible refine bq_q ?_ | with_reducible refine st_block ?_ | with_reducible refine st_exit ?_ | with_reducible refine st_ret ?_ | with_reducible refine st_skip ?_ | with_reducible refine gq_n ?_ | with_reducible refine gq_r ?_ | with_reducible refine gq_e ?_ | with_reducible refine lq_n ?_ | with_reducible refine lq_r ?_ | with_reducible refine lq_e ?_ | with_reducible refine bq_e (by decide) ?_ | ((conv => whnf); first | (with_reducible refine hK_ _ _ ?_; try clear hK_ K_) | (with_reducible refine fun (g_ : Sl) (o_ : Ow) => ?_) | with_reducible exact True.intro | with_reducible refine And.intro trivial ?_ | with_reducible refine And.intro ?_ ?_ | exact Nat.le_of_ble_eq_true rfl | exact Or.inl rfl | (intro h_; cases h_) | (intro h_; (try simp only [cond_true, cond_false, decide_eq_true_eq, decide_eq_false_iff_not, Bool.not_eq_true', Bool.not_eq_false', Int.toNat_natCast, prodEta] at h_)) | rfl))) <;> (try (conv => whnf)) <;> (try first | change (_ : Int) ≤ _ | change (_ : Nat) ≤ _) <;> (try ((fail_if_success (with_reducible apply Exists.intro)); (try dsimp only); (try simp only [cond_true, cond_false, decide_eq_true_eq, decide_eq_false_iff_not, Bool.not_eq_true', Bool.not_eq_false', Int.toNat_natCast, prodEta]))) <;> (try simp (disch := omega) only [ptEq2, cond_true, cond_false, decide_eq_true_eq, decide_eq_false_iff_not, List.length_drop, List.take_length, Int.toNat_zero, List.drop_zero, Nat.zero_add, List.nil_append, mod_nat1, mod_nat2, tm1, tm2, tmj, W_in, Int.add_sub_cancel, tn1, tnp, tnc, List.length_append, List.length_take, List.length_replicate, List.length_set, List.length_map, List.length_cons, List.length_nil, prodEta, Int.toNat_natCast, beq_iff_eq, beq_eq_false_iff_ne, bne_iff_ne, bne_eq_false_iff_eq, ne_eq, Int.natCast_inj, Int.ofNat_lt, Int.ofNat_le] at *)
       all_goals (try (fail_if_success (with_reducible apply Exists.intro)); first | with_reducible assumption | omega | exact mdl (by omega) | exact ilo1 (by omega) | exact ilo2 (by omega) | exact ihi1 (by omega) (by omega) | exact ihi2 (by omega) (by omega))
       · exfalso; omega
       · exfalso; omega
       · exfalso; omega
       · refine ⟨(d', Q'), by show (N.length - fnd d') * 2 + Q'.length < _; omega, ⟨hB'.pop fun j hj hs => hdone j (by show j < i; omega) hs, by show Q'.length ≤ fnd d' + 1; omega⟩, by (repeat' (first | with_reducible exact True.intro | with_reducible refine And.intro ?_ ?_ | with_reducible refine Head.mk ?_ ?_ ?_ ?_ | ((conv => lhs; whnf); first | with_reducible rfl | with_reducible exact vInt_s (by omega) | exact rfl) | ((conv => whnf); first | with_reducible exact True.intro | with_reducible refine And.intro ?_ ?_))) <;> (try (conv => lhs; whnf))⟩
    all_goals (try (exfalso; omega))
/-! ### Both points inside -/
def pbM (xs : List Pt) (p q : Pt) : Int := if allInM xs [p, q] then dstM (sS xs) xs q p else -1
def pbC : Con := mkCon [.room, .pt, .pt] (fun x => x.1.length ≤ 1048576) fun x => vI (pbM x.1 x.2.1 x.2.2.1)
theorem in_two {xs : List Pt} {p q : Pt} : allInM xs [p, q] = true ↔ isIn xs p = true ∧ isIn xs q = true := by
  rw [isIn_iff, isIn_iff]
  unfold allInM
  simp only [Bool.and_eq_true, List.all_cons, List.all_nil, and_true]
  constructor
  · rintro ⟨h1, h2, h3⟩; exact ⟨⟨h1, h2⟩, h1, h3⟩
  · rintro ⟨⟨h1, h2⟩, -, h3⟩; exact ⟨h1, h2, h3⟩
theorem in_ok {xs : List Pt} {p q : Pt} (h : allInM xs [p, q] = true) : roomOk xs = true ∧ ptOk p = true ∧ ptOk q = true := by
  obtain ⟨h1, h2⟩ := in_two.1 h
  exact ⟨isIn_room h1, isIn_pt h1, isIn_pt h2⟩
theorem pb_no {xs : List Pt} {p q : Pt} (h : allInM xs [p, q] = false) : pbM xs p q = -1 := by unfold pbM; rw [h]; rfl
theorem pb_yes {xs : List Pt} {p q : Pt} (h : allInM xs [p, q] = true) : pbM xs p q = dstM (sS xs) xs q p := by unfold pbM; rw [h]; rfl
theorem iPiecesBetween_ok : Good1 Try.prog n_impl_PiecesBetween pbC := by
  refine good_ofG (tys := tyL) (env := [(n_impl_allIn, allInC), (n_impl_piecesTo, piecesC)]) (envw := []) [] [] [] [] mixed tys ⟨allIn_ok, pieces_ok, trivial⟩ trivial Try.func29 rfl (by kernel_rfl) (by decide) (by kernel_rfl) ?_
  have hG_ := kpz [(0, [3, 4, 5]), (1, [3, 4, 5, 14]), (2, [6]), (3, [8]), (4, [6])] [] [] []
  rintro ⟨(xs : List Pt), ⟨(px : Int), (py : Int)⟩, ⟨(qx : Int), (qy : Int)⟩, ⟨⟩⟩ (h1 : xs.length ≤ _)
  (repeat' (first | with_reducible exact True.intro | with_reducible refine st_seq ?_ | (with_reducible refine st_regionG hG_ ?_; intro K_ hK_) | (with_reducible refine st_region ?_; intro K_ hK_) | (with_reducible refine hK_ _ _ ?_; try clear hK_ K_) | ((with_reducible refine st_cond (b := ?b_) ?hb_ ?_ ?_); case hb_ => rfl) | with_reducible refine sq_n ?_ | with_reducible refine sq_r ?_ | with_reducible refine sq_e ?_ | with_reducible refine bq_n ?_ | with_reducible refine bq_r ?_ | with_reducible refine bq_q ?_ | with_reducible refine st_block ?_ | with_reducible refine st_exit ?_ | with_reducible refine st_ret ?_ | with_reducible refine st_skip ?_ | with_reducible refine gq_n ?_ | with_reducible refine gq_r ?_ | with_reducible refine gq_e ?_ | with_reducible refine lq_n ?_ | with_reducible refine lq_r ?_ | with_reducible refine lq_e ?_ | with_reducible refine bq_e (by decide) ?_ | ((conv => whnf); first | (with_reducible refine hK_ _ _ ?_; try clear hK_ K_) | (with_reducible refine fun (g_ : Sl) (o_ : Ow) => ?_) | with_reducible exact True.intro | with_reducible refine And.intro trivial ?_ | with_reducible refine And.intro ?_ ?_ | exact Nat.le_of_ble_eq_true rfl | exact Or.inl rfl | (intro h_; cases h_) | (intro h_; (try simp only [cond_true, cond_false, decide_eq_true_eq, decide_eq_false_iff_not, Bool.not_eq_true', Bool.not_eq_false', Int.toNat_natCast, prodEta] at h_)) | rfl))) <;> (try (conv => whnf)) <;> (try first | change (_ : Int) ≤ _ | change (_ : Nat) ≤ _) <;> (try ((fail_if_success (with_reducible apply Exists.intro)); (try dsimp only); (try simp only [cond_true, cond_false, decide_eq_true_eq, decide_eq_false_iff_not, Bool.not_eq_true', Bool.not_eq_false', Int.toNat_natCast, prodEta])))
  all_goals (try (fail_if_success (with_reducible apply Exists.intro)); first | with_reducible assumption | omega | exact mdl (by omega) | exact ilo1 (by omega) | exact ilo2 (by omega) | exact ihi1 (by omega) (by omega) | exact ihi2 (by omega) (by omega))
  · exact (pb_no h_).symm
  · exact (in_ok h_).1
  · exact (in_ok h_).2.1
  · exact (in_ok h_).2.2
  · exact (pb_yes h_).symm
/-! ### The reference's search -/
def pfZ (q : Pt) (N : List Pt) (k : Nat) : List Int := (N.take k).map (f0 q) ++ List.replicate (N.length - k) 0
theorem pfZ_len {q : Pt} {N : List Pt} {k : Nat} (h : k ≤ N.length) : (pfZ q N k).length = N.length := by unfold pfZ; simp; omega
theorem pfZ_zero (q : Pt) (N : List Pt) : pfZ q N 0 = List.replicate N.length 0 := by unfold pfZ; simp
theorem pfZ_full (q : Pt) (N : List Pt) : pfZ q N N.length = N.map (f0 q) := by unfold pfZ; simp
theorem pfZ_step {q : Pt} {N : List Pt} {k : Nat} (h : k < N.length) : (pfZ q N k).set k (f0 q (nd N k)) = pfZ q N (k + 1) := by
  have e' : nd N k = N[k] := getD_lt _ h
  unfold pfZ
  rw [show N.length - k = (N.length - (k + 1)) + 1 by omega, List.replicate_succ, List.set_append_right _ _ (by simp; omega), List.length_map, List.length_take, show k - min k N.length = 0 by omega, List.set_cons_zero, List.take_succ_eq_append_getElem h, List.map_append, e']
  simp
theorem pfZ_yes {q : Pt} {N : List Pt} {k : Nat} (h : k < N.length) (e : nd N k = q) : ((pfZ q N k).set k (-1)).set k 0 = pfZ q N (k + 1) := by
  rw [List.set_set, ← pfZ_step h]
  congr 1
  unfold f0; rw [if_pos e]
theorem pfZ_no {q : Pt} {N : List Pt} {k : Nat} (h : k < N.length) (e : ¬ nd N k = q) : (pfZ q N k).set k (-1) = pfZ q N (k + 1) := by
  rw [← pfZ_step h]
  congr 1
  unfold f0; rw [if_neg e]
def zsel (N : List Pt) (q : Pt) (k : Nat) : List Int := ((List.range k).filter fun j => decide (nd N j = q)).map fun j : Nat => (j : Int)
theorem zsel_succ (N : List Pt) (q : Pt) (k : Nat) : zsel N q (k + 1) = zsel N q k ++ (if nd N k = q then [(k : Int)] else []) := by
  unfold zsel
  rw [List.range_succ, List.filter_append, List.map_append]
  congr 1
  rw [List.filter_cons]
  by_cases h : nd N k = q
  · rw [if_pos (decide_eq_true h), if_pos h]; rfl
  · rw [if_neg (by simpa using h), if_neg h]; rfl
theorem zsel_yes {N : List Pt} {q : Pt} {k : Nat} (h : nd N k = q) : zsel N q k ++ [(k : Int)] = zsel N q (k + 1) := by rw [zsel_succ, if_pos h]
theorem zsel_no {N : List Pt} {q : Pt} {k : Nat} (h : ¬ nd N k = q) : zsel N q k = zsel N q (k + 1) := by rw [zsel_succ, if_neg h, List.append_nil]
theorem zsel_le (N : List Pt) (q : Pt) (k : Nat) : (zsel N q k).length ≤ k := by
  unfold zsel
  rw [List.length_map]
  exact Nat.le_trans (List.length_filter_le _ _) (by simp)
theorem zsel_mem {N : List Pt} {q : Pt} {k : Nat} {x : Int} (h : x ∈ zsel N q k) : ∃ v : Nat, x = v ∧ v < k ∧ nd N v = q := by
  unfold zsel at h
  obtain ⟨j, hj, rfl⟩ := List.mem_map.1 h
  obtain ⟨h1, h2⟩ := List.mem_filter.1 hj
  exact ⟨j, rfl, List.mem_range.1 h1, of_decide_eq_true h2⟩
theorem zsel_fnd (N : List Pt) (q : Pt) : ∀ k, k ≤ N.length → (zsel N q k).length = fnd ((N.take k).map (f0 q))
  | 0, _ => rfl
  | k + 1, h => by
    have ih := zsel_fnd N q k (by omega)
    have e : nd N k = N[k] := getD_lt _ (by omega)
    rw [zsel_succ, List.length_append, ih, List.take_succ_eq_append_getElem (by omega), List.map_append]
    unfold fnd
    rw [List.countP_append]
    congr 1
    rw [e]
    by_cases h2 : N[k] = q
    · rw [if_pos h2]; simp [f0, h2]
    · rw [if_neg h2]; simp [f0, h2]
/-- The places on the list with their points and numbers. -/
def prL (N : List Pt) (d : List Int) (x : Int) : Pt × Int := (nd N x.toNat, gD d x.toNat)
def InL (n : Nat) (d : List Int) (L : List Int) : Prop := ∀ x ∈ L, ∃ v : Nat, x = v ∧ v < n ∧ 0 ≤ gD d v
theorem prL_set {N : List Pt} {d : List Int} {L : List Int} {i : Nat} {u : Int} (hL : InL N.length d L) (hi : i < d.length) (hd : gD d i < 0) : L.map (prL N (d.set i u)) = L.map (prL N d) := by
  refine List.map_congr_left fun x hx => ?_
  obtain ⟨v, rfl, h1, h2⟩ := hL x hx
  unfold prL
  rw [Int.toNat_natCast, gD_set hi, if_neg (fun e => by subst e; omega)]
theorem prL_new {N : List Pt} {d : List Int} {i : Nat} {u : Int} (hi : i < d.length) : prL N (d.set i u) (i : Int) = (nd N i, u) := by
  unfold prL
  rw [Int.toNat_natCast, gD_set hi, if_pos rfl]
theorem InL.step {n : Nat} {d : List Int} {L : List Int} {i : Nat} {u : Int} (h : InL n d L) (hu : 0 ≤ u) (hi : i < n) (hl : d.length = n) : InL n (d.set i u) (L ++ [(i : Int)]) := fun x hx => by
  rcases List.mem_append.1 hx with hx | hx
  · obtain ⟨v, e, h1, h2⟩ := h x hx
    refine ⟨v, e, h1, ?_⟩
    rw [gD_set (by omega)]
    split
    · exact hu
    · exact h2
  · refine ⟨i, List.mem_singleton.1 hx, hi, ?_⟩
    rw [gD_set (by omega), if_pos rfl]
    exact hu
def lpC : Con := mkCon [.sl (.b .pt), .pt] (fun x => roomOk x.1 = true ∧ ptOk x.2.1 = true) fun x => rowI (x.1.map (dstM (sS x.1) x.1 x.2.1))
theorem l21Pieces_ok : Good1 Try.prog n_spec_l21Pieces lpC := by
  refine good_ofG (tys := tyL) (env := [(n_spec_l08Sees, l08SeesC)]) (envw := []) [15, 16, 37, 63, 109] [] [] [] mixed tys ⟨l08Sees_ok, trivial⟩ trivial Try.func84 rfl (by kernel_rfl) (by decide) (by kernel_rfl) ?_
  have hG_ := kpz [(0, [0, 3]), (1, [0, 3, 5]), (2, [0, 3, 5, 6]), (3, [0, 3, 5, 6, 7]), (4, [0, 3, 5, 6, 7, 8]), (5, [0, 3, 5, 6, 7, 8, 19]), (6, [0, 3, 5, 6, 7, 8]), (7, [0, 3, 5, 6, 7, 8]), (8, [0, 3, 5, 6, 7, 8, 30]), (9, [0, 3, 5, 6, 7, 8]), (10, [0, 3, 5, 6, 7, 8]), (11, [0, 3, 5, 6, 7, 9]), (12, [0, 3, 5, 6, 7, 9, 40]), (13, [0, 3, 5, 6, 7, 9]), (14, [0, 3, 5, 6, 7, 9, 56]), (15, [0, 3, 5, 6, 7, 9]), (16, [0, 3, 5, 6, 7, 9]), (17, [0, 5, 6, 7, 10]), (18, [0, 5, 6, 7, 10, 67]), (19, [0, 5, 6, 7, 10]), (20, [0, 5, 6, 7, 10, 11]), (21, [0, 5, 6, 7, 10, 11, 72]), (22, [0, 5, 6, 7, 10, 11]), (23, [0, 5, 6, 7, 10, 11, 94]), (24, [0, 5, 6, 7, 10, 11]), (25, [0, 5, 6, 7, 10, 11]), (26, [4])] [(2, [15]), (3, [15, 16]), (4, [15, 16]), (5, [15, 16]), (6, [15, 16]), (7, [15, 16]), (8, [15, 16]), (9, [15, 16]), (10, [15, 16]), (11, [15, 16]), (12, [15, 16]), (13, [15, 16]), (14, [15, 16]), (15, [15, 16]), (16, [15, 16]), (17, [15, 16]), (18, [15, 16]), (19, [15, 16]), (20, [15, 16]), (21, [15, 16]), (22, [15, 16]), (23, [15, 16]), (24, [15, 16]), (25, [15, 16]), (26, [15, 16])] [] []
  rintro ⟨(N : List Pt), ⟨(qx : Int), (qy : Int)⟩, ⟨⟩⟩ ⟨(hr : roomOk N = true), (hq : ptOk (qx, qy) = true)⟩
  have hxl := room_len hr
  have hsq : ∀ j, j < N.length → seesS N (nd N j) (qx, qy) = sS N (qx, qy) (nd N j) := fun j hj => seesS_comm hr (room_pt hr hj) hq
  have hss : ∀ i j, i < N.length → j < N.length → seesS N (nd N i) (nd N j) = sS N (nd N j) (nd N i) := fun i j hi hj => seesS_comm hr (room_pt hr hi) (room_pt hr hj)
  have hfin : ∀ d, Bp (sS N) N (qx, qy) d [] → d = N.map (dstM (sS N) N (qx, qy)) := fun d hd => hd.all
  show awp' _ _ (Fin' _ _ (rowI (N.map (dstM (sS N) N (qx, qy))))) _ _
  generalize N.map (dstM (sS N) N (qx, qy)) = R at hfin ⊢
  (repeat' (first | with_reducible exact True.intro | with_reducible refine st_seq ?_ | (with_reducible refine st_regionG hG_ ?_; intro K_ hK_) | (with_reducible refine st_region ?_; intro K_ hK_) | (with_reducible refine hK_ _ _ ?_; try clear hK_ K_) | ((with_reducible refine st_cond (b := ?b_) ?hb_ ?_ ?_); case hb_ => rfl) | with_reducible refine sq_n ?_ | with_reducible refine sq_r ?_ | with_reducible refine sq_e ?_ | with_reducible refine bq_n ?_ | with_reducible refine bq_r ?_ | with_reducible refine bq_q ?_ | with_reducible refine st_block ?_ | with_reducible refine st_exit ?_ | with_reducible refine st_ret ?_ | with_reducible refine st_skip ?_ | with_reducible refine gq_n ?_ | with_reducible refine gq_r ?_ | with_reducible refine gq_e ?_ | with_reducible refine lq_n ?_ | with_reducible refine lq_r ?_ | with_reducible refine lq_e ?_ | with_reducible refine bq_e (by decide) ?_ | ((conv => whnf); first | (with_reducible refine hK_ _ _ ?_; try clear hK_ K_) | (with_reducible refine fun (g_ : Sl) (o_ : Ow) => ?_) | with_reducible exact True.intro | with_reducible refine And.intro trivial ?_ | with_reducible refine And.intro ?_ ?_ | exact Nat.le_of_ble_eq_true rfl | exact Or.inl rfl | (intro h_; cases h_) | (intro h_; (try simp only [cond_true, cond_false, decide_eq_true_eq, decide_eq_false_iff_not, Bool.not_eq_true', Bool.not_eq_false', Int.toNat_natCast, prodEta] at h_)) | rfl))) <;> (try (conv => whnf)) <;> (try first | change (_ : Int) ≤ _ | change (_ : Nat) ≤ _) <;> (try ((fail_if_success (with_reducible apply Exists.intro)); (try dsimp only); (try simp only [cond_true, cond_false, decide_eq_true_eq, decide_eq_false_iff_not, Bool.not_eq_true', Bool.not_eq_false', Int.toNat_natCast, prodEta]))) <;> (try simp (disch := omega) only [ptEq2, cond_true, cond_false, decide_eq_true_eq, decide_eq_false_iff_not, List.length_drop, List.take_length, Int.toNat_zero, List.drop_zero, Nat.zero_add, List.nil_append, mod_nat1, mod_nat2, tm1, tm2, tmj, W_in, Int.add_sub_cancel, tn1, tnp, tnc, List.length_append, List.length_take, List.length_replicate, List.length_set, List.length_map, List.length_cons, List.length_nil, prodEta, Int.toNat_natCast, beq_iff_eq, beq_eq_false_iff_ne, bne_iff_ne, bne_eq_false_iff_eq, ne_eq, Int.natCast_inj, Int.ofNat_lt, Int.ofNat_le] at *)
  all_goals (try (fail_if_success (with_reducible apply Exists.intro)); first | with_reducible assumption | omega | exact mdl (by omega) | exact ilo1 (by omega) | exact ilo2 (by omega) | exact ihi1 (by omega) (by omega) | exact ihi2 (by omega) (by omega))
  refine awp'_loopG (α := Nat) (fun k ver_ => [(8, vInt k)]) (fun k ver_ => [(6, 15, false, .row t_int (.b .int) (pfZ (qx, qy) N k)), (7, 16, false, .row t_int (.b .int) (zsel N (qx, qy) k))]) (fun k ver_ => []) (fun k => k ≤ N.length) (fun k => N.length - k) [0, 3, 5] [] (0) ?_
  conv => whnf
  refine ⟨⟨?inv4_, ?vals4_, ?own4_, ?fix4_⟩, ?body4_⟩
  case' vals4_ => (repeat' (first | with_reducible exact True.intro | with_reducible refine And.intro ?_ ?_ | with_reducible refine Head.mk ?_ ?_ ?_ ?_ | ((conv => lhs; whnf); first | with_reducible rfl | with_reducible exact vInt_s (by omega) | exact rfl) | ((conv => whnf); first | with_reducible exact True.intro | with_reducible refine And.intro ?_ ?_))) <;> (try (conv => lhs; whnf))
  case' own4_ => (repeat' (first | with_reducible exact True.intro | with_reducible refine And.intro ?_ ?_ | with_reducible refine Head.mk ?_ ?_ ?_ ?_ | ((conv => lhs; whnf); first | with_reducible rfl | with_reducible exact vInt_s (by omega) | exact rfl) | ((conv => whnf); first | with_reducible exact True.intro | with_reducible refine And.intro ?_ ?_))) <;> (try (conv => lhs; whnf))
  case' fix4_ => (repeat' (first | with_reducible exact True.intro | with_reducible refine And.intro ?_ ?_ | with_reducible refine Head.mk ?_ ?_ ?_ ?_ | ((conv => lhs; whnf); first | with_reducible rfl | with_reducible exact vInt_s (by omega) | exact rfl) | ((conv => whnf); first | with_reducible exact True.intro | with_reducible refine And.intro ?_ ?_))) <;> (try (conv => lhs; whnf))
  · exact Nat.zero_le _
  rintro k g_ o_ v_ hk
  have hzl := pfZ_len (q := (qx, qy)) hk
  have hsl := zsel_le N (qx, qy) k
  (repeat' (first | with_reducible exact True.intro | with_reducible refine st_seq ?_ | (with_reducible refine st_regionG hG_ ?_; intro K_ hK_) | (with_reducible refine st_region ?_; intro K_ hK_) | (with_reducible refine hK_ _ _ ?_; try clear hK_ K_) | ((with_reducible refine st_cond (b := ?b_) ?hb_ ?_ ?_); case hb_ => rfl) | with_reducible refine sq_n ?_ | with_reducible refine sq_r ?_ | with_reducible refine sq_e ?_ | with_reducible refine bq_n ?_ | with_reducible refine bq_r ?_ | with_reducible refine bq_q ?_ | with_reducible refine st_block ?_ | with_reducible refine st_exit ?_ | with_reducible refine st_ret ?_ | with_reducible refine st_skip ?_ | with_reducible refine gq_n ?_ | with_reducible refine gq_r ?_ | with_reducible refine gq_e ?_ | with_reducible refine lq_n ?_ | with_reducible refine lq_r ?_ | with_reducible refine lq_e ?_ | with_reducible refine bq_e (by decide) ?_ | ((conv => whnf); first | (with_reducible refine hK_ _ _ ?_; try clear hK_ K_) | (with_reducible refine fun (g_ : Sl) (o_ : Ow) => ?_) | with_reducible exact True.intro | with_reducible refine And.intro trivial ?_ | with_reducible refine And.intro ?_ ?_ | exact Nat.le_of_ble_eq_true rfl | exact Or.inl rfl | (intro h_; cases h_) | (intro h_; (try simp only [cond_true, cond_false, decide_eq_true_eq, decide_eq_false_iff_not, Bool.not_eq_true', Bool.not_eq_false', Int.toNat_natCast, prodEta] at h_)) | rfl))) <;> (try (conv => whnf)) <;> (try first | change (_ : Int) ≤ _ | change (_ : Nat) ≤ _) <;> (try ((fail_if_success (with_reducible apply Exists.intro)); (try dsimp only); (try simp only [cond_true, cond_false, decide_eq_true_eq, decide_eq_false_iff_not, Bool.not_eq_true', Bool.not_eq_false', Int.toNat_natCast, prodEta]))) <;> (try simp (disch := omega) only [ptEq2, cond_true, cond_false, decide_eq_true_eq, decide_eq_false_iff_not, List.length_drop, List.take_length, Int.toNat_zero, List.drop_zero, Nat.zero_add, List.nil_append, mod_nat1, mod_nat2, tm1, tm2, tmj, W_in, Int.add_sub_cancel, tn1, tnp, tnc, List.length_append, List.length_take, List.length_replicate, List.length_set, List.length_map, List.length_cons, List.length_nil, prodEta, Int.toNat_natCast, beq_iff_eq, beq_eq_false_iff_ne, bne_iff_ne, bne_eq_false_iff_eq, ne_eq, Int.natCast_inj, Int.ofNat_lt, Int.ofNat_le] at *)
  all_goals (try (fail_if_success (with_reducible apply Exists.intro)); first | with_reducible assumption | omega | exact mdl (by omega) | exact ilo1 (by omega) | exact ilo2 (by omega) | exact ihi1 (by omega) (by omega) | exact ihi2 (by omega) (by omega))
  · refine ⟨k + 1, by omega, by omega, ?_⟩
    (repeat' (first | with_reducible exact True.intro | with_reducible refine And.intro ?_ ?_ | with_reducible refine Head.mk ?_ ?_ ?_ ?_ | ((conv => lhs; whnf); first | with_reducible rfl | with_reducible exact vInt_s (by omega) | exact rfl) | ((conv => whnf); first | with_reducible exact True.intro | with_reducible refine And.intro ?_ ?_))) <;> (try (conv => lhs; whnf))
    · exact congrArg (Own.row t_int (.b .int)) (pfZ_yes (by omega) (pq_yes (by assumption)))
    · exact congrArg (Own.row t_int (.b .int)) (zsel_yes (pq_yes (by assumption)))
  · refine ⟨k + 1, by omega, by omega, ?_⟩
    (repeat' (first | with_reducible exact True.intro | with_reducible refine And.intro ?_ ?_ | with_reducible refine Head.mk ?_ ?_ ?_ ?_ | ((conv => lhs; whnf); first | with_reducible rfl | with_reducible exact vInt_s (by omega) | exact rfl) | ((conv => whnf); first | with_reducible exact True.intro | with_reducible refine And.intro ?_ ?_))) <;> (try (conv => lhs; whnf))
    · exact congrArg (Own.row t_int (.b .int)) (pfZ_no (by omega) (pq_no (by assumption)))
    · exact congrArg (Own.row t_int (.b .int)) (zsel_no (pq_no (by assumption)))
  obtain rfl : k = N.length := by omega
  have hz1 := zsel_fnd N (qx, qy) N.length (Nat.le_refl _)
  rw [List.take_length] at hz1
  refine awp'_loopG (α := Nat × List Int × List Int) (fun s ver_ => [(9, vInt s.1)]) (fun s ver_ => [(6, 15, false, .row t_int (.b .int) s.2.1), (7, 16, false, .row t_int (.b .int) s.2.2)]) (fun s ver_ => []) (fun s => s.1 ≤ N.length ∧ Bp (sS N) N (qx, qy) s.2.1 (((qx, qy), 0) :: s.2.2.map (prL N s.2.1)) ∧ InL N.length s.2.1 s.2.2 ∧ (∀ j, j < s.1 → sS N (qx, qy) (nd N j) = true → 0 ≤ gD s.2.1 j) ∧ s.2.2.length = fnd s.2.1) (fun s => N.length - s.1) [0, 3, 5] [] ((0, N.map (f0 (qx, qy)), zsel N (qx, qy) N.length)) ?_
  conv => whnf
  refine ⟨⟨?inv5_, ?vals5_, ?own5_, ?fix5_⟩, ?body5_⟩
  case' vals5_ => (repeat' (first | with_reducible exact True.intro | with_reducible refine And.intro ?_ ?_ | with_reducible refine Head.mk ?_ ?_ ?_ ?_ | ((conv => lhs; whnf); first | with_reducible rfl | with_reducible exact vInt_s (by omega) | exact rfl) | ((conv => whnf); first | with_reducible exact True.intro | with_reducible refine And.intro ?_ ?_))) <;> (try (conv => lhs; whnf))
  case' own5_ => (repeat' (first | with_reducible exact True.intro | with_reducible refine And.intro ?_ ?_ | with_reducible refine Head.mk ?_ ?_ ?_ ?_ | ((conv => lhs; whnf); first | with_reducible rfl | with_reducible exact vInt_s (by omega) | exact rfl) | ((conv => whnf); first | with_reducible exact True.intro | with_reducible refine And.intro ?_ ?_))) <;> (try (conv => lhs; whnf))
  case' fix5_ => (repeat' (first | with_reducible exact True.intro | with_reducible refine And.intro ?_ ?_ | with_reducible refine Head.mk ?_ ?_ ?_ ?_ | ((conv => lhs; whnf); first | with_reducible rfl | with_reducible exact vInt_s (by omega) | exact rfl) | ((conv => whnf); first | with_reducible exact True.intro | with_reducible refine And.intro ?_ ?_))) <;> (try (conv => lhs; whnf))
  · exact congrArg (Own.row t_int (.b .int)) (pfZ_full _ _)
  · have hzz : ∀ x ∈ zsel N (qx, qy) N.length, ∃ v : Nat, x = v ∧ v < N.length ∧ gD (N.map (f0 (qx, qy))) v = 0 ∧ nd N v = (qx, qy) := fun x hx => by
      obtain ⟨v, e, h1, h2⟩ := zsel_mem hx
      refine ⟨v, e, h1, ?_, h2⟩
      unfold gD
      rw [getD_lt _ (by simpa using h1), List.getElem_map, ← show nd N v = N[v] from getD_lt _ h1, h2]
      simp [f0]
    refine ⟨Nat.zero_le _, bp_start fun e he => ?_, fun x hx => ?_, fun j hj => absurd hj (by omega), hz1⟩
    · obtain ⟨x, hx, rfl⟩ := List.mem_map.1 he
      obtain ⟨v, rfl, h1, h2, h3⟩ := hzz x hx
      show (nd N (Int.toNat v), gD (N.map (f0 (qx, qy))) (Int.toNat v)) = _
      rw [Int.toNat_natCast, h2, h3]
    · obtain ⟨v, e, h1, h2, h3⟩ := hzz x hx
      exact ⟨v, e, h1, by show 0 ≤ gD (N.map (f0 (qx, qy))) v; omega⟩
  rintro ⟨k, d, L⟩ g_ o_ v_ ⟨(hk : k ≤ _), (hB : Bp _ _ _ d _), (hL : InL _ d L), hdone, (hLf : L.length = fnd d)⟩
  have hdl := hB.len
  have hfd := fnd_le d
  (repeat' (first | with_reducible exact True.intro | with_reducible refine st_seq ?_ | (with_reducible refine st_regionG hG_ ?_; intro K_ hK_) | (with_reducible refine st_region ?_; intro K_ hK_) | (with_reducible refine hK_ _ _ ?_; try clear hK_ K_) | ((with_reducible refine st_cond (b := ?b_) ?hb_ ?_ ?_); case hb_ => rfl) | with_reducible refine sq_n ?_ | with_reducible refine sq_r ?_ | with_reducible refine sq_e ?_ | with_reducible refine bq_n ?_ | with_reducible refine bq_r ?_ | with_reducible refine bq_q ?_ | with_reducible refine st_block ?_ | with_reducible refine st_exit ?_ | with_reducible refine st_ret ?_ | with_reducible refine st_skip ?_ | with_reducible refine gq_n ?_ | with_reducible refine gq_r ?_ | with_reducible refine gq_e ?_ | with_reducible refine lq_n ?_ | with_reducible refine lq_r ?_ | with_reducible refine lq_e ?_ | with_reducible refine bq_e (by decide) ?_ | ((conv => whnf); first | (with_reducible refine hK_ _ _ ?_; try clear hK_ K_) | (with_reducible refine fun (g_ : Sl) (o_ : Ow) => ?_) | with_reducible exact True.intro | with_reducible refine And.intro trivial ?_ | with_reducible refine And.intro ?_ ?_ | exact Nat.le_of_ble_eq_true rfl | exact Or.inl rfl | (intro h_; cases h_) | (intro h_; (try simp only [cond_true, cond_false, decide_eq_true_eq, decide_eq_false_iff_not, Bool.not_eq_true', Bool.not_eq_false', Int.toNat_natCast, prodEta] at h_)) | rfl))) <;> (try (conv => whnf)) <;> (try first | change (_ : Int) ≤ _ | change (_ : Nat) ≤ _) <;> (try ((fail_if_success (with_reducible apply Exists.intro)); (try dsimp only); (try simp only [cond_true, cond_false, decide_eq_true_eq, decide_eq_false_iff_not, Bool.not_eq_true', Bool.not_eq_false', Int.toNat_natCast, prodEta]))) <;> (try simp (disch := omega) only [ptEq2, cond_true, cond_false, decide_eq_true_eq, decide_eq_false_iff_not, List.length_drop, List.take_length, Int.toNat_zero, List.drop_zero, Nat.zero_add, List.nil_append, mod_nat1, mod_nat2, tm1, tm2, tmj, W_in, Int.add_sub_cancel, tn1, tnp, tnc, List.length_append, List.length_take, List.length_replicate, List.length_set, List.length_map, List.length_cons, List.length_nil, prodEta, Int.toNat_natCast, beq_iff_eq, beq_eq_false_iff_ne, bne_iff_ne, bne_eq_false_iff_eq, ne_eq, Int.natCast_inj, Int.ofNat_lt, Int.ofNat_le] at *)
  all_goals (try (fail_if_success (with_reducible apply Exists.intro)); first | with_reducible assumption | omega | exact mdl (by omega) | exact ilo1 (by omega) | exact ilo2 (by omega) | exact ihi1 (by omega) (by omega) | exact ihi2 (by omega) (by omega))
  · have hkl : k < N.length := h_
    have hdi : gD d k < 0 := ‹d.getD k _ < 0›
    have hs : sS N (qx, qy) (nd N k) = true := by rw [← hsq k hkl]; exact ‹seesS N _ _ = true›
    have hst := hB.step hkl hdi hs
    have hf : fnd (d.set k 1) = fnd d + 1 := fnd_set (by omega) (by omega) hdi
    refine ⟨(k + 1, d.set k 1, L ++ [(k : Int)]), by show _ - (k + 1) < _; omega, ⟨by show k + 1 ≤ _; omega, ?_, hL.step (by omega) hkl hdl, fun j hj hsj => ?_, ?_⟩, ?_⟩
    · show Bp _ _ _ (d.set k 1) (((qx, qy), 0) :: (L ++ [(k : Int)]).map (prL N (d.set k 1)))
      rw [List.map_append, prL_set hL (by omega) hdi, List.map_singleton, prL_new (by omega)]
      exact hst
    · have hj : j < k + 1 := hj
      show 0 ≤ gD (d.set k 1) j
      rw [gD_set (by omega)]
      split
      · omega
      · exact hdone j (by omega) hsj
    · show (L ++ [(k : Int)]).length = fnd (d.set k 1)
      rw [hf, List.length_append, List.length_singleton, hLf]
    · (repeat' (first | with_reducible exact True.intro | with_reducible refine And.intro ?_ ?_ | with_reducible refine Head.mk ?_ ?_ ?_ ?_ | ((conv => lhs; whnf); first | with_reducible rfl | with_reducible exact vInt_s (by omega) | exact rfl) | ((conv => whnf); first | with_reducible exact True.intro | with_reducible refine And.intro ?_ ?_))) <;> (try (conv => lhs; whnf))
  · have hkl : k < N.length := h_
    refine ⟨(k + 1, d, L), by show _ - (k + 1) < _; omega, ⟨by show k + 1 ≤ _; omega, hB, hL, fun j hj hsj => ?_, hLf⟩, by (repeat' (first | with_reducible exact True.intro | with_reducible refine And.intro ?_ ?_ | with_reducible refine Head.mk ?_ ?_ ?_ ?_ | ((conv => lhs; whnf); first | with_reducible rfl | with_reducible exact vInt_s (by omega) | exact rfl) | ((conv => whnf); first | with_reducible exact True.intro | with_reducible refine And.intro ?_ ?_))) <;> (try (conv => lhs; whnf))⟩
    have hj : j < k + 1 := hj
    rcases Nat.lt_or_ge j k with h5 | h5
    · exact hdone j h5 hsj
    · obtain rfl : j = k := by omega
      rw [← hsq j hkl, show seesS N (nd N j) (qx, qy) = false from ‹_›] at hsj; cases hsj
  · have hkl : k < N.length := h_
    refine ⟨(k + 1, d, L), by show _ - (k + 1) < _; omega, ⟨by show k + 1 ≤ _; omega, hB, hL, fun j hj hsj => ?_, hLf⟩, by (repeat' (first | with_reducible exact True.intro | with_reducible refine And.intro ?_ ?_ | with_reducible refine Head.mk ?_ ?_ ?_ ?_ | ((conv => lhs; whnf); first | with_reducible rfl | with_reducible exact vInt_s (by omega) | exact rfl) | ((conv => whnf); first | with_reducible exact True.intro | with_reducible refine And.intro ?_ ?_))) <;> (try (conv => lhs; whnf))⟩
    have hj : j < k + 1 := hj
    rcases Nat.lt_or_ge j k with h5 | h5
    · exact hdone j h5 hsj
    · obtain rfl : j = k := by omega
      exact Int.not_lt.1 ‹¬ d.getD j _ < 0›
  have hB0 : Bp (sS N) N (qx, qy) d (L.map (prL N d)) := hB.pop fun j hj hs => hdone j (by show j < k; omega) hs
  refine awp'_loopG (α := Nat × List Int × List Int) (fun s ver_ => [(10, vInt s.1)]) (fun s ver_ => [(6, 15, false, .row t_int (.b .int) s.2.1), (7, 16, false, .row t_int (.b .int) s.2.2)]) (fun s ver_ => []) (fun s => s.1 ≤ s.2.2.length ∧ Bp (sS N) N (qx, qy) s.2.1 ((s.2.2.drop s.1).map (prL N s.2.1)) ∧ InL N.length s.2.1 s.2.2 ∧ s.2.2.length = fnd s.2.1) (fun s => N.length - s.1) [0, 5] [] ((0, d, L)) ?_
  conv => whnf
  refine ⟨⟨?inv6_, ?vals6_, ?own6_, ?fix6_⟩, ?body6_⟩
  case' vals6_ => (repeat' (first | with_reducible exact True.intro | with_reducible refine And.intro ?_ ?_ | with_reducible refine Head.mk ?_ ?_ ?_ ?_ | ((conv => lhs; whnf); first | with_reducible rfl | with_reducible exact vInt_s (by omega) | exact rfl) | ((conv => whnf); first | with_reducible exact True.intro | with_reducible refine And.intro ?_ ?_))) <;> (try (conv => lhs; whnf))
  case' own6_ => (repeat' (first | with_reducible exact True.intro | with_reducible refine And.intro ?_ ?_ | with_reducible refine Head.mk ?_ ?_ ?_ ?_ | ((conv => lhs; whnf); first | with_reducible rfl | with_reducible exact vInt_s (by omega) | exact rfl) | ((conv => whnf); first | with_reducible exact True.intro | with_reducible refine And.intro ?_ ?_))) <;> (try (conv => lhs; whnf))
  case' fix6_ => (repeat' (first | with_reducible exact True.intro | with_reducible refine And.intro ?_ ?_ | with_reducible refine Head.mk ?_ ?_ ?_ ?_ | ((conv => lhs; whnf); first | with_reducible rfl | with_reducible exact vInt_s (by omega) | exact rfl) | ((conv => whnf); first | with_reducible exact True.intro | with_reducible refine And.intro ?_ ?_))) <;> (try (conv => lhs; whnf))
  · exact ⟨Nat.zero_le _, hB0, hL, hLf⟩
  clear hB0 hB hL hLf hdone hdl hfd
  rintro ⟨k, d, L⟩ g_ o_ v_ ⟨(hk : k ≤ L.length), (hB : Bp _ _ _ d _), (hL : InL _ d L), (hLf : L.length = fnd d)⟩
  have hdl := hB.len
  have hfd := fnd_le d
  rcases Nat.lt_or_ge k L.length with hkl | hkl
  · obtain ⟨u, hqu, hu, huv⟩ := hL (L.getD k 0) (by rw [getD_lt _ hkl]; exact List.getElem_mem _)
    have hdrop : (L.drop k).map (prL N d) = (nd N u, gD d u) :: (L.drop (k + 1)).map (prL N d) := by
      rw [List.drop_eq_getElem_cons hkl, List.map_cons]
      congr 1
      rw [getD_lt _ hkl] at hqu
      rw [hqu]; rfl
    rw [hdrop] at hB
    (repeat' (first | with_reducible exact True.intro | with_reducible refine st_seq ?_ | (with_reducible refine st_regionG hG_ ?_; intro K_ hK_) | (with_reducible refine st_region ?_; intro K_ hK_) | (with_reducible refine hK_ _ _ ?_; try clear hK_ K_) | ((with_reducible refine st_cond (b := ?b_) ?hb_ ?_ ?_); case hb_ => rfl) | with_reducible refine sq_n ?_ | with_reducible refine sq_r ?_ | with_reducible refine sq_e ?_ | with_reducible refine bq_n ?_ | with_reducible refine bq_r ?_ | with_reducible refine bq_q ?_ | with_reducible refine st_block ?_ | with_reducible refine st_exit ?_ | with_reducible refine st_ret ?_ | with_reducible refine st_skip ?_ | with_reducible refine gq_n ?_ | with_reducible refine gq_r ?_ | with_reducible refine gq_e ?_ | with_reducible refine lq_n ?_ | with_reducible refine lq_r ?_ | with_reducible refine lq_e ?_ | with_reducible refine bq_e (by decide) ?_ | ((conv => whnf); first | (with_reducible refine hK_ _ _ ?_; try clear hK_ K_) | (with_reducible refine fun (g_ : Sl) (o_ : Ow) => ?_) | with_reducible exact True.intro | with_reducible refine And.intro trivial ?_ | with_reducible refine And.intro ?_ ?_ | exact Nat.le_of_ble_eq_true rfl | exact Or.inl rfl | (intro h_; cases h_) | (intro h_; (try simp only [cond_true, cond_false, decide_eq_true_eq, decide_eq_false_iff_not, Bool.not_eq_true', Bool.not_eq_false', Int.toNat_natCast, prodEta] at h_)) | rfl))) <;> (try (conv => whnf)) <;> (try first | change (_ : Int) ≤ _ | change (_ : Nat) ≤ _) <;> (try ((fail_if_success (with_reducible apply Exists.intro)); (try dsimp only); (try simp only [cond_true, cond_false, decide_eq_true_eq, decide_eq_false_iff_not, Bool.not_eq_true', Bool.not_eq_false', Int.toNat_natCast, prodEta]))) <;> (try simp (disch := omega) only [ptEq2, cond_true, cond_false, decide_eq_true_eq, decide_eq_false_iff_not, List.length_drop, List.take_length, Int.toNat_zero, List.drop_zero, Nat.zero_add, List.nil_append, mod_nat1, mod_nat2, tm1, tm2, tmj, W_in, Int.add_sub_cancel, tn1, tnp, tnc, List.length_append, List.length_take, List.length_replicate, List.length_set, List.length_map, List.length_cons, List.length_nil, prodEta, Int.toNat_natCast, beq_iff_eq, beq_eq_false_iff_ne, bne_iff_ne, bne_eq_false_iff_eq, ne_eq, Int.natCast_inj, Int.ofNat_lt, Int.ofNat_le] at *)
    all_goals (try (fail_if_success (with_reducible apply Exists.intro)); first | with_reducible assumption | omega | exact mdl (by omega) | exact ilo1 (by omega) | exact ilo2 (by omega) | exact ihi1 (by omega) (by omega) | exact ihi2 (by omega) (by omega))
    ·
     refine awp'_loopG (α := Nat × List Int × List Int) (fun s ver_ => [(11, vInt s.1)]) (fun s ver_ => [(6, 15, false, .row t_int (.b .int) s.2.1), (7, 16, false, .row t_int (.b .int) s.2.2)]) (fun s ver_ => []) (fun s => s.1 ≤ N.length ∧ Bp (sS N) N (qx, qy) s.2.1 ((nd N u, gD d u) :: (s.2.2.drop (k + 1)).map (prL N s.2.1)) ∧ InL N.length s.2.1 s.2.2 ∧ (k < s.2.2.length ∧ s.2.2.getD k 0 = (u : Int)) ∧ gD s.2.1 u = gD d u ∧ (∀ j, j < s.1 → sS N (nd N u) (nd N j) = true → 0 ≤ gD s.2.1 j) ∧ s.2.2.length = fnd s.2.1) (fun s => N.length - s.1) [0, 5, 10] [] ((0, d, L)) ?_
     conv => whnf
     refine ⟨⟨?inv7_, ?vals7_, ?own7_, ?fix7_⟩, ?body7_⟩
     case' vals7_ => (repeat' (first | with_reducible exact True.intro | with_reducible refine And.intro ?_ ?_ | with_reducible refine Head.mk ?_ ?_ ?_ ?_ | ((conv => lhs; whnf); first | with_reducible rfl | with_reducible exact vInt_s (by omega) | exact rfl) | ((conv => whnf); first | with_reducible exact True.intro | with_reducible refine And.intro ?_ ?_))) <;> (try (conv => lhs; whnf))
     case' own7_ => (repeat' (first | with_reducible exact True.intro | with_reducible refine And.intro ?_ ?_ | with_reducible refine Head.mk ?_ ?_ ?_ ?_ | ((conv => lhs; whnf); first | with_reducible rfl | with_reducible exact vInt_s (by omega) | exact rfl) | ((conv => whnf); first | with_reducible exact True.intro | with_reducible refine And.intro ?_ ?_))) <;> (try (conv => lhs; whnf))
     case' fix7_ => (repeat' (first | with_reducible exact True.intro | with_reducible refine And.intro ?_ ?_ | with_reducible refine Head.mk ?_ ?_ ?_ ?_ | ((conv => lhs; whnf); first | with_reducible rfl | with_reducible exact vInt_s (by omega) | exact rfl) | ((conv => whnf); first | with_reducible exact True.intro | with_reducible refine And.intro ?_ ?_))) <;> (try (conv => lhs; whnf))
     · exact ⟨Nat.zero_le _, hB, hL, ⟨hkl, hqu⟩, rfl, fun j hj => absurd hj (by omega), hLf⟩
     rintro ⟨i, d', L'⟩ g_ o_ v_ ⟨(hi : i ≤ _), (hB' : Bp _ _ _ d' _), (hL' : InL _ d' L'), ⟨(hkL : k < L'.length), (hqk : L'.getD k (ElK.b ElB.int).dflt = (u : Int))⟩, (hdu : d'.getD u (ElK.b ElB.int).dflt = gD d u), hdone, (hLf' : L'.length = fnd d')⟩
     have hdl' := hB'.len
     have hfd' := fnd_le d'
     have hqkp : PLift (L'.getD k 0 = (u : Int)) := ⟨hqk⟩
     have hdup : PLift (gD d' u = gD d u) := ⟨hdu⟩
     have hub : gD d u ≤ fnd d := hB.cq _ List.mem_cons_self
     (repeat' (first | with_reducible exact True.intro | with_reducible refine st_seq ?_ | (with_reducible refine st_regionG hG_ ?_; intro K_ hK_) | (with_reducible refine st_region ?_; intro K_ hK_) | (with_reducible refine hK_ _ _ ?_; try clear hK_ K_) | ((with_reducible refine st_cond (b := ?b_) ?hb_ ?_ ?_); case hb_ => rfl) | with_reducible refine sq_n ?_ | with_reducible refine sq_r ?_ | with_reducible refine sq_e ?_ | with_reducible refine bq_n ?_ | with_reducible refine bq_r ?_ | with_reducible refine bq_q ?_ | with_reducible refine st_block ?_ | with_reducible refine st_exit ?_ | with_reducible refine st_ret ?_ | with_reducible refine st_skip ?_ | with_reducible refine gq_n ?_ | with_reducible refine gq_r ?_ | with_reducible refine gq_e ?_ | with_reducible refine lq_n ?_ | with_reducible refine lq_r ?_ | with_reducible refine lq_e ?_ | with_reducible refine bq_e (by decide) ?_ | ((conv => whnf); first | (with_reducible refine hK_ _ _ ?_; try clear hK_ K_) | (with_reducible refine fun (g_ : Sl) (o_ : Ow) => ?_) | with_reducible exact True.intro | with_reducible refine And.intro trivial ?_ | with_reducible refine And.intro ?_ ?_ | exact Nat.le_of_ble_eq_true rfl | exact Or.inl rfl | (intro h_; cases h_) | (intro h_; (try simp only [cond_true, cond_false, decide_eq_true_eq, decide_eq_false_iff_not, Bool.not_eq_true', Bool.not_eq_false', Int.toNat_natCast, prodEta] at h_)) | rfl))) <;> (try (conv => whnf)) <;> (try first | change (_ : Int) ≤ _ | change (_ : Nat) ≤ _) <;> (try ((fail_if_success (with_reducible apply Exists.intro)); (try dsimp only); (try simp only [cond_true, cond_false, decide_eq_true_eq, decide_eq_false_iff_not, Bool.not_eq_true', Bool.not_eq_false', Int.toNat_natCast, prodEta]))) <;> (try simp (disch := omega) only [ptEq2, cond_true, cond_false, decide_eq_true_eq, decide_eq_false_iff_not, List.length_drop, List.take_length, Int.toNat_zero, List.drop_zero, Nat.zero_add, List.nil_append, mod_nat1, mod_nat2, tm1, tm2, tmj, W_in, Int.add_sub_cancel, tn1, tnp, tnc, List.length_append, List.length_take, List.length_replicate, List.length_set, List.length_map, List.length_cons, List.length_nil, prodEta, Int.toNat_natCast, beq_iff_eq, beq_eq_false_iff_ne, bne_iff_ne, bne_eq_false_iff_eq, ne_eq, Int.natCast_inj, Int.ofNat_lt, Int.ofNat_le] at *) <;> (try simp only [hqk, hdu, Int.toNat_natCast] at *)
     all_goals (try (fail_if_success (with_reducible apply Exists.intro)); first | with_reducible assumption | omega | exact mdl (by omega) | exact ilo1 (by omega) | exact ilo2 (by omega) | exact ihi1 (by omega) (by omega) | exact ihi2 (by omega) (by omega))
     · have hil : i < N.length := ‹i < N.length›
       have hdi : gD d' i < 0 := ‹d'.getD i _ < 0›
       have hs : sS N (nd N u) (nd N i) = true := by rw [← hss i u hil hu]; exact h_
       have hst := hB'.step hil hdi hs
       have hd0 : 0 ≤ gD d u := huv
       have hf : fnd (d'.set i (gD d u + 1)) = fnd d' + 1 := fnd_set (by omega) (by omega) hdi
       have hui : u ≠ i := fun e => by subst e; rw [hdup.down] at hdi; omega
       have hLd : InL N.length d' (L'.drop (k + 1)) := fun x hx => hL' x (List.mem_of_mem_drop hx)
       refine ⟨(i + 1, d'.set i (gD d u + 1), L' ++ [(i : Int)]), by show _ - (i + 1) < _; omega, ⟨by show i + 1 ≤ _; omega, ?_, hL'.step (by omega) hil hdl', ⟨by show k < (L' ++ [(i : Int)]).length; rw [List.length_append]; omega, ?_⟩, ?_, fun j hj hsj => ?_, ?_⟩, ?_⟩
       · show Bp _ _ _ (d'.set i (gD d u + 1)) ((nd N u, gD d u) :: ((L' ++ [(i : Int)]).drop (k + 1)).map (prL N (d'.set i (gD d u + 1))))
         rw [List.drop_append_of_le_length (by omega), List.map_append, prL_set hLd (by omega) hdi, List.map_singleton, prL_new (by omega)]
         exact hst
       · show (L' ++ [(i : Int)]).getD k 0 = _
         rw [List.getD_eq_getElem?_getD, List.getElem?_append_left hkL, ← List.getD_eq_getElem?_getD]
         exact hqkp.down
       · show gD (d'.set i (gD d u + 1)) u = _
         rw [gD_set (by omega), if_neg hui]
         exact hdup.down
       · have hj : j < i + 1 := hj
         show 0 ≤ gD (d'.set i (gD d u + 1)) j
         rw [gD_set (by omega)]
         split
         · omega
         · exact hdone j (by omega) hsj
       · show (L' ++ [(i : Int)]).length = fnd (d'.set i (gD d u + 1))
         rw [hf, List.length_append, List.length_singleton, hLf']
       · (repeat' (first | with_reducible exact True.intro | with_reducible refine And.intro ?_ ?_ | with_reducible refine Head.mk ?_ ?_ ?_ ?_ | ((conv => lhs; whnf); first | with_reducible rfl | with_reducible exact vInt_s (by omega) | exact rfl) | ((conv => whnf); first | with_reducible exact True.intro | with_reducible refine And.intro ?_ ?_))) <;> (try (conv => lhs; whnf))
         exact congrArg (Own.row t_int (.b .int)) (congrArg (fun z => d'.set i z) (W_in (by omega) (by omega)))
     · have hil : i < N.length := ‹i < N.length›
       refine ⟨(i + 1, d', L'), by show _ - (i + 1) < _; omega, ⟨by show i + 1 ≤ _; omega, hB', hL', ⟨hkL, hqkp.down⟩, hdup.down, fun j hj hsj => ?_, hLf'⟩, by (repeat' (first | with_reducible exact True.intro | with_reducible refine And.intro ?_ ?_ | with_reducible refine Head.mk ?_ ?_ ?_ ?_ | ((conv => lhs; whnf); first | with_reducible rfl | with_reducible exact vInt_s (by omega) | exact rfl) | ((conv => whnf); first | with_reducible exact True.intro | with_reducible refine And.intro ?_ ?_))) <;> (try (conv => lhs; whnf))⟩
       have hj : j < i + 1 := hj
       rcases Nat.lt_or_ge j i with h5 | h5
       · exact hdone j h5 hsj
       · obtain rfl : j = i := by omega
         rw [← hss j u hil hu, show seesS N (nd N j) (nd N u) = false from h_] at hsj; cases hsj
     · have hil : i < N.length := ‹i < N.length›
       refine ⟨(i + 1, d', L'), by show _ - (i + 1) < _; omega, ⟨by show i + 1 ≤ _; omega, hB', hL', ⟨hkL, hqkp.down⟩, hdup.down, fun j hj hsj => ?_, hLf'⟩, by (repeat' (first | with_reducible exact True.intro | with_reducible refine And.intro ?_ ?_ | with_reducible refine Head.mk ?_ ?_ ?_ ?_ | ((conv => lhs; whnf); first | with_reducible rfl | with_reducible exact vInt_s (by omega) | exact rfl) | ((conv => whnf); first | with_reducible exact True.intro | with_reducible refine And.intro ?_ ?_))) <;> (try (conv => lhs; whnf))⟩
       have hj : j < i + 1 := hj
       rcases Nat.lt_or_ge j i with h5 | h5
       · exact hdone j h5 hsj
       · obtain rfl : j = i := by omega
         exact Int.not_lt.1 ‹¬ d'.getD j _ < 0›
     · refine ⟨(k + 1, d', L'), by show _ - (k + 1) < _; omega, ⟨by show k + 1 ≤ L'.length; omega, hB'.pop fun j hj hs => hdone j (by show j < i; omega) hs, hL', hLf'⟩, by (repeat' (first | with_reducible exact True.intro | with_reducible refine And.intro ?_ ?_ | with_reducible refine Head.mk ?_ ?_ ?_ ?_ | ((conv => lhs; whnf); first | with_reducible rfl | with_reducible exact vInt_s (by omega) | exact rfl) | ((conv => whnf); first | with_reducible exact True.intro | with_reducible refine And.intro ?_ ?_))) <;> (try (conv => lhs; whnf))⟩
  · rw [List.drop_of_length_le (by omega)] at hB
    have hres := hfin d hB
    (repeat' (first | with_reducible exact True.intro | with_reducible refine st_seq ?_ | (with_reducible refine st_regionG hG_ ?_; intro K_ hK_) | (with_reducible refine st_region ?_; intro K_ hK_) | (with_reducible refine hK_ _ _ ?_; try clear hK_ K_) | ((with_reducible refine st_cond (b := ?b_) ?hb_ ?_ ?_); case hb_ => rfl) | with_reducible refine sq_n ?_ | with_reducible refine sq_r ?_ | with_reducible refine sq_e ?_ | with_reducible refine bq_n ?_ | with_reducible refine bq_r ?_ | with_reducible refine bq_q ?_ | with_reducible refine st_block ?_ | with_reducible refine st_exit ?_ | with_reducible refine st_ret ?_ | with_reducible refine st_skip ?_ | with_reducible refine gq_n ?_ | with_reducible refine gq_r ?_ | with_reducible refine gq_e ?_ | with_reducible refine lq_n ?_ | with_reducible refine lq_r ?_ | with_reducible refine lq_e ?_ | with_reducible refine bq_e (by decide) ?_ | ((conv => whnf); first | (with_reducible refine hK_ _ _ ?_; try clear hK_ K_) | (with_reducible refine fun (g_ : Sl) (o_ : Ow) => ?_) | with_reducible exact True.intro | with_reducible refine And.intro trivial ?_ | with_reducible refine And.intro ?_ ?_ | exact Nat.le_of_ble_eq_true rfl | exact Or.inl rfl | (intro h_; cases h_) | (intro h_; (try simp only [cond_true, cond_false, decide_eq_true_eq, decide_eq_false_iff_not, Bool.not_eq_true', Bool.not_eq_false', Int.toNat_natCast, prodEta] at h_)) | rfl))) <;> (try (conv => whnf)) <;> (try first | change (_ : Int) ≤ _ | change (_ : Nat) ≤ _) <;> (try ((fail_if_success (with_reducible apply Exists.intro)); (try dsimp only); (try simp only [cond_true, cond_false, decide_eq_true_eq, decide_eq_false_iff_not, Bool.not_eq_true', Bool.not_eq_false', Int.toNat_natCast, prodEta]))) <;> (try simp (disch := omega) only [ptEq2, cond_true, cond_false, decide_eq_true_eq, decide_eq_false_iff_not, List.length_drop, List.take_length, Int.toNat_zero, List.drop_zero, Nat.zero_add, List.nil_append, mod_nat1, mod_nat2, tm1, tm2, tmj, W_in, Int.add_sub_cancel, tn1, tnp, tnc, List.length_append, List.length_take, List.length_replicate, List.length_set, List.length_map, List.length_cons, List.length_nil, prodEta, Int.toNat_natCast, beq_iff_eq, beq_eq_false_iff_ne, bne_iff_ne, bne_eq_false_iff_eq, ne_eq, Int.natCast_inj, Int.ofNat_lt, Int.ofNat_le] at *)
    all_goals (try (fail_if_success (with_reducible apply Exists.intro)); first | with_reducible assumption | omega | exact mdl (by omega) | exact ilo1 (by omega) | exact ilo2 (by omega) | exact ihi1 (by omega) (by omega) | exact ihi2 (by omega) (by omega))
    · exfalso; omega
    · exact congrArg some hres
def lbC : Con := mkCon [.sl (.b .pt), .pt, .pt] (fun x => roomOk x.1 = true ∧ ptOk x.2.1 = true ∧ ptOk x.2.2.1 = true) fun x => vI (dstM (sS x.1) x.1 x.2.2.1 x.2.1)
theorem best_y {S : Pt → Pt → Bool} {N : List Pt} {q p : Pt} {k : Nat} (h1 : 0 ≤ dstM S N q (nd N k)) (h2 : S (nd N k) p = true) (h3 : bestTo S N q p k < 0 ∨ dstM S N q (nd N k) + 1 < bestTo S N q p k) : dstM S N q (nd N k) + 1 = bestTo S N q p (k + 1) := by rw [bestTo, if_pos ⟨⟨h1, h2⟩, h3⟩]
theorem best_n {S : Pt → Pt → Bool} {N : List Pt} {q p : Pt} {k : Nat} (h : ¬ ((0 ≤ dstM S N q (nd N k) ∧ S (nd N k) p = true) ∧ (bestTo S N q p k < 0 ∨ dstM S N q (nd N k) + 1 < bestTo S N q p k))) : bestTo S N q p k = bestTo S N q p (k + 1) := by rw [bestTo, if_neg h]
theorem best_bd (S : Pt → Pt → Bool) (N : List Pt) (q p : Pt) : ∀ k, -1 ≤ bestTo S N q p k ∧ bestTo S N q p k ≤ N.length + 2
  | 0 => by simp [bestTo]; omega
  | k + 1 => by
    have h1 := best_bd S N q p k
    have h2 := dst_bd S N q (nd N k)
    rw [bestTo]
    split <;> omega
theorem l21Best_ok : Good1 Try.prog n_spec_l21Best lbC := by
  refine good_ofG (tys := tyL) (env := [(n_spec_l08Sees, l08SeesC), (n_spec_l21Pieces, lpC)]) (envw := []) [] [] [] [] mixed tys ⟨l08Sees_ok, l21Pieces_ok, trivial⟩ trivial Try.func62 rfl (by kernel_rfl) (by decide) (by kernel_rfl) ?_
  have hG_ := kpz [(0, [0, 4, 5]), (1, [0, 4, 5, 12]), (2, [6]), (3, [0, 4, 5, 16]), (4, [6]), (5, [0, 4, 7]), (6, [0, 4, 7, 8]), (7, [0, 4, 7, 8, 9]), (8, [0, 4, 7, 8, 9, 23]), (9, [0, 4, 7, 8, 9]), (10, [0, 4, 7, 8, 9, 52]), (11, [0, 4, 7, 8, 9]), (12, [6])] [] [] []
  rintro ⟨(N : List Pt), ⟨(px : Int), (py : Int)⟩, ⟨(qx : Int), (qy : Int)⟩, ⟨⟩⟩ ⟨(hr : roomOk N = true), (hp : ptOk (px, py) = true), (hq : ptOk (qx, qy) = true)⟩
  have hxl := room_len hr
  have hpq : seesS N (px, py) (qx, qy) = sS N (qx, qy) (px, py) := seesS_comm hr hp hq
  have hpk : ∀ k, k < N.length → seesS N (px, py) (nd N k) = sS N (nd N k) (px, py) := fun k hk => seesS_comm hr hp (room_pt hr hk)
  (repeat' (first | with_reducible exact True.intro | with_reducible refine st_seq ?_ | (with_reducible refine st_regionG hG_ ?_; intro K_ hK_) | (with_reducible refine st_region ?_; intro K_ hK_) | (with_reducible refine hK_ _ _ ?_; try clear hK_ K_) | ((with_reducible refine st_cond (b := ?b_) ?hb_ ?_ ?_); case hb_ => rfl) | with_reducible refine sq_n ?_ | with_reducible refine sq_r ?_ | with_reducible refine sq_e ?_ | with_reducible refine bq_n ?_ | with_reducible refine bq_r ?_ | with_reducible refine bq_q ?_ | with_reducible refine st_block ?_ | with_reducible refine st_exit ?_ | with_reducible refine st_ret ?_ | with_reducible refine st_skip ?_ | with_reducible refine gq_n ?_ | with_reducible refine gq_r ?_ | with_reducible refine gq_e ?_ | with_reducible refine lq_n ?_ | with_reducible refine lq_r ?_ | with_reducible refine lq_e ?_ | with_reducible refine bq_e (by decide) ?_ | ((conv => whnf); first | (with_reducible refine hK_ _ _ ?_; try clear hK_ K_) | (with_reducible refine fun (g_ : Sl) (o_ : Ow) => ?_) | with_reducible exact True.intro | with_reducible refine And.intro trivial ?_ | with_reducible refine And.intro ?_ ?_ | exact Nat.le_of_ble_eq_true rfl | exact Or.inl rfl | (intro h_; cases h_) | (intro h_; (try simp only [cond_true, cond_false, decide_eq_true_eq, decide_eq_false_iff_not, Bool.not_eq_true', Bool.not_eq_false', Int.toNat_natCast, prodEta] at h_)) | rfl))) <;> (try (conv => whnf)) <;> (try first | change (_ : Int) ≤ _ | change (_ : Nat) ≤ _) <;> (try ((fail_if_success (with_reducible apply Exists.intro)); (try dsimp only); (try simp only [cond_true, cond_false, decide_eq_true_eq, decide_eq_false_iff_not, Bool.not_eq_true', Bool.not_eq_false', Int.toNat_natCast, prodEta]))) <;> (try simp (disch := omega) only [ptEq2, cond_true, cond_false, decide_eq_true_eq, decide_eq_false_iff_not, List.length_drop, List.take_length, Int.toNat_zero, List.drop_zero, Nat.zero_add, List.nil_append, mod_nat1, mod_nat2, tm1, tm2, tmj, W_in, Int.add_sub_cancel, tn1, tnp, tnc, List.length_append, List.length_take, List.length_replicate, List.length_set, List.length_map, List.length_cons, List.length_nil, prodEta, Int.toNat_natCast, beq_iff_eq, beq_eq_false_iff_ne, bne_iff_ne, bne_eq_false_iff_eq, ne_eq, Int.natCast_inj, Int.ofNat_lt, Int.ofNat_le] at *)
  all_goals (try (fail_if_success (with_reducible apply Exists.intro)); first | with_reducible assumption | omega | exact mdl (by omega) | exact ilo1 (by omega) | exact ilo2 (by omega) | exact ihi1 (by omega) (by omega) | exact ihi2 (by omega) (by omega))
  · rw [pq_yes (p := (px, py)) h_, dst_self]
  · exact (dst_one (pq_no (p := (px, py)) (by assumption)) (by rw [← hpq]; exact h_)).symm
  have hne : ¬ (px, py) = (qx, qy) := pq_no (p := (px, py)) (by assumption)
  have hsf : sS N (qx, qy) (px, py) = false := by rw [← hpq]; exact h_
  refine awp'_loopG (α := Nat) (fun k ver_ => [(9, vInt k), (8, vInt (bestTo (sS N) N (qx, qy) (px, py) k))]) (fun k ver_ => []) (fun k ver_ => []) (fun k => k ≤ N.length) (fun k => N.length - k) [0, 4, 7] [] (0) ?_
  conv => whnf
  refine ⟨⟨?inv8_, ?vals8_, ?own8_, ?fix8_⟩, ?body8_⟩
  case' vals8_ => (repeat' (first | with_reducible exact True.intro | with_reducible refine And.intro ?_ ?_ | with_reducible refine Head.mk ?_ ?_ ?_ ?_ | ((conv => lhs; whnf); first | with_reducible rfl | with_reducible exact vInt_s (by omega) | exact rfl) | ((conv => whnf); first | with_reducible exact True.intro | with_reducible refine And.intro ?_ ?_))) <;> (try (conv => lhs; whnf))
  case' own8_ => (repeat' (first | with_reducible exact True.intro | with_reducible refine And.intro ?_ ?_ | with_reducible refine Head.mk ?_ ?_ ?_ ?_ | ((conv => lhs; whnf); first | with_reducible rfl | with_reducible exact vInt_s (by omega) | exact rfl) | ((conv => whnf); first | with_reducible exact True.intro | with_reducible refine And.intro ?_ ?_))) <;> (try (conv => lhs; whnf))
  case' fix8_ => (repeat' (first | with_reducible exact True.intro | with_reducible refine And.intro ?_ ?_ | with_reducible refine Head.mk ?_ ?_ ?_ ?_ | ((conv => lhs; whnf); first | with_reducible rfl | with_reducible exact vInt_s (by omega) | exact rfl) | ((conv => whnf); first | with_reducible exact True.intro | with_reducible refine And.intro ?_ ?_))) <;> (try (conv => lhs; whnf))
  · exact Nat.zero_le _
  rintro k g_ o_ v_ hk
  have hbb := best_bd (sS N) N (qx, qy) (px, py) k
  have hdb := dst_bd (sS N) N (qx, qy) (nd N k)
  have hml : (N.map (dstM (sS N) N (qx, qy))).length = N.length := List.length_map _
  rcases Nat.lt_or_ge k N.length with hkl | hkl
  · have hdk : (N.map (dstM (sS N) N (qx, qy))).getD k (ElK.b ElB.int).dflt = dstM (sS N) N (qx, qy) (nd N k) := by
      rw [getD_lt _ (by rw [hml]; exact hkl), List.getElem_map, ← show nd N k = N[k] from getD_lt _ hkl]
    generalize N.map (dstM (sS N) N (qx, qy)) = dl at *
    (repeat' (first | with_reducible exact True.intro | with_reducible refine st_seq ?_ | (with_reducible refine st_regionG hG_ ?_; intro K_ hK_) | (with_reducible refine st_region ?_; intro K_ hK_) | (with_reducible refine hK_ _ _ ?_; try clear hK_ K_) | ((with_reducible refine st_cond (b := ?b_) ?hb_ ?_ ?_); case hb_ => rfl) | with_reducible refine sq_n ?_ | with_reducible refine sq_r ?_ | with_reducible refine sq_e ?_ | with_reducible refine bq_n ?_ | with_reducible refine bq_r ?_ | with_reducible refine bq_q ?_ | with_reducible refine st_block ?_ | with_reducible refine st_exit ?_ | with_reducible refine st_ret ?_ | with_reducible refine st_skip ?_ | with_reducible refine gq_n ?_ | with_reducible refine gq_r ?_ | with_reducible refine gq_e ?_ | with_reducible refine lq_n ?_ | with_reducible refine lq_r ?_ | with_reducible refine lq_e ?_ | with_reducible refine bq_e (by decide) ?_ | ((conv => whnf); first | (with_reducible refine hK_ _ _ ?_; try clear hK_ K_) | (with_reducible refine fun (g_ : Sl) (o_ : Ow) => ?_) | with_reducible exact True.intro | with_reducible refine And.intro trivial ?_ | with_reducible refine And.intro ?_ ?_ | exact Nat.le_of_ble_eq_true rfl | exact Or.inl rfl | (intro h_; cases h_) | (intro h_; (try simp only [cond_true, cond_false, decide_eq_true_eq, decide_eq_false_iff_not, Bool.not_eq_true', Bool.not_eq_false', Int.toNat_natCast, prodEta] at h_)) | rfl))) <;> (try (conv => whnf)) <;> (try first | change (_ : Int) ≤ _ | change (_ : Nat) ≤ _) <;> (try ((fail_if_success (with_reducible apply Exists.intro)); (try dsimp only); (try simp only [cond_true, cond_false, decide_eq_true_eq, decide_eq_false_iff_not, Bool.not_eq_true', Bool.not_eq_false', Int.toNat_natCast, prodEta]))) <;> (try simp (disch := omega) only [ptEq2, cond_true, cond_false, decide_eq_true_eq, decide_eq_false_iff_not, List.length_drop, List.take_length, Int.toNat_zero, List.drop_zero, Nat.zero_add, List.nil_append, mod_nat1, mod_nat2, tm1, tm2, tmj, W_in, Int.add_sub_cancel, tn1, tnp, tnc, List.length_append, List.length_take, List.length_replicate, List.length_set, List.length_map, List.length_cons, List.length_nil, prodEta, Int.toNat_natCast, beq_iff_eq, beq_eq_false_iff_ne, bne_iff_ne, bne_eq_false_iff_eq, ne_eq, Int.natCast_inj, Int.ofNat_lt, Int.ofNat_le] at *) <;> (try simp only [hdk] at *)
    all_goals (try (fail_if_success (with_reducible apply Exists.intro)); first | with_reducible assumption | omega | exact mdl (by omega) | exact ilo1 (by omega) | exact ilo2 (by omega) | exact ihi1 (by omega) (by omega) | exact ihi2 (by omega) (by omega))
    · refine ⟨k + 1, by omega, by omega, ?_⟩
      (repeat' (first | with_reducible exact True.intro | with_reducible refine And.intro ?_ ?_ | with_reducible refine Head.mk ?_ ?_ ?_ ?_ | ((conv => lhs; whnf); first | with_reducible rfl | with_reducible exact vInt_s (by omega) | exact rfl) | ((conv => whnf); first | with_reducible exact True.intro | with_reducible refine And.intro ?_ ?_))) <;> (try (conv => lhs; whnf))
      all_goals first
        | exact congrArg vInt (best_y h_ (by rw [← hpk k hkl]; assumption) (.inl (by assumption)))
        | exact congrArg vInt ((W_in (by omega) (by omega)).trans (best_y h_ (by rw [← hpk k hkl]; assumption) (.inl (by assumption))))
        | skip
    · refine ⟨k + 1, by omega, by omega, ?_⟩
      (repeat' (first | with_reducible exact True.intro | with_reducible refine And.intro ?_ ?_ | with_reducible refine Head.mk ?_ ?_ ?_ ?_ | ((conv => lhs; whnf); first | with_reducible rfl | with_reducible exact vInt_s (by omega) | exact rfl) | ((conv => whnf); first | with_reducible exact True.intro | with_reducible refine And.intro ?_ ?_))) <;> (try (conv => lhs; whnf))
      all_goals first
        | exact congrArg vInt (best_y (by assumption) (by rw [← hpk k hkl]; assumption) (.inr h_))
        | exact congrArg vInt ((W_in (by omega) (by omega)).trans (best_y (by assumption) (by rw [← hpk k hkl]; assumption) (.inr h_)))
        | skip
    · refine ⟨k + 1, by omega, by omega, ?_⟩
      (repeat' (first | with_reducible exact True.intro | with_reducible refine And.intro ?_ ?_ | with_reducible refine Head.mk ?_ ?_ ?_ ?_ | ((conv => lhs; whnf); first | with_reducible rfl | with_reducible exact vInt_s (by omega) | exact rfl) | ((conv => whnf); first | with_reducible exact True.intro | with_reducible refine And.intro ?_ ?_))) <;> (try (conv => lhs; whnf))
      exact congrArg vInt (best_n fun hc => hc.2.elim (fun h => absurd h (by assumption)) fun h => absurd h h_)
    · refine ⟨k + 1, by omega, by omega, ?_⟩
      (repeat' (first | with_reducible exact True.intro | with_reducible refine And.intro ?_ ?_ | with_reducible refine Head.mk ?_ ?_ ?_ ?_ | ((conv => lhs; whnf); first | with_reducible rfl | with_reducible exact vInt_s (by omega) | exact rfl) | ((conv => whnf); first | with_reducible exact True.intro | with_reducible refine And.intro ?_ ?_))) <;> (try (conv => lhs; whnf))
      exact congrArg vInt (best_n fun hc => by
        have h5 := hc.1.2
        rw [← hpk k hkl, show seesS N (px, py) (nd N k) = false from by assumption] at h5
        cases h5)
    · refine ⟨k + 1, by omega, by omega, ?_⟩
      (repeat' (first | with_reducible exact True.intro | with_reducible refine And.intro ?_ ?_ | with_reducible refine Head.mk ?_ ?_ ?_ ?_ | ((conv => lhs; whnf); first | with_reducible rfl | with_reducible exact vInt_s (by omega) | exact rfl) | ((conv => whnf); first | with_reducible exact True.intro | with_reducible refine And.intro ?_ ?_))) <;> (try (conv => lhs; whnf))
      exact congrArg vInt (best_n fun hc => absurd hc.1.1 h_)
  · generalize N.map (dstM (sS N) N (qx, qy)) = dl at *
    (repeat' (first | with_reducible exact True.intro | with_reducible refine st_seq ?_ | (with_reducible refine st_regionG hG_ ?_; intro K_ hK_) | (with_reducible refine st_region ?_; intro K_ hK_) | (with_reducible refine hK_ _ _ ?_; try clear hK_ K_) | ((with_reducible refine st_cond (b := ?b_) ?hb_ ?_ ?_); case hb_ => rfl) | with_reducible refine sq_n ?_ | with_reducible refine sq_r ?_ | with_reducible refine sq_e ?_ | with_reducible refine bq_n ?_ | with_reducible refine bq_r ?_ | with_reducible refine bq_q ?_ | with_reducible refine st_block ?_ | with_reducible refine st_exit ?_ | with_reducible refine st_ret ?_ | with_reducible refine st_skip ?_ | with_reducible refine gq_n ?_ | with_reducible refine gq_r ?_ | with_reducible refine gq_e ?_ | with_reducible refine lq_n ?_ | with_reducible refine lq_r ?_ | with_reducible refine lq_e ?_ | with_reducible refine bq_e (by decide) ?_ | ((conv => whnf); first | (with_reducible refine hK_ _ _ ?_; try clear hK_ K_) | (with_reducible refine fun (g_ : Sl) (o_ : Ow) => ?_) | with_reducible exact True.intro | with_reducible refine And.intro trivial ?_ | with_reducible refine And.intro ?_ ?_ | exact Nat.le_of_ble_eq_true rfl | exact Or.inl rfl | (intro h_; cases h_) | (intro h_; (try simp only [cond_true, cond_false, decide_eq_true_eq, decide_eq_false_iff_not, Bool.not_eq_true', Bool.not_eq_false', Int.toNat_natCast, prodEta] at h_)) | rfl))) <;> (try (conv => whnf)) <;> (try first | change (_ : Int) ≤ _ | change (_ : Nat) ≤ _) <;> (try ((fail_if_success (with_reducible apply Exists.intro)); (try dsimp only); (try simp only [cond_true, cond_false, decide_eq_true_eq, decide_eq_false_iff_not, Bool.not_eq_true', Bool.not_eq_false', Int.toNat_natCast, prodEta]))) <;> (try simp (disch := omega) only [ptEq2, cond_true, cond_false, decide_eq_true_eq, decide_eq_false_iff_not, List.length_drop, List.take_length, Int.toNat_zero, List.drop_zero, Nat.zero_add, List.nil_append, mod_nat1, mod_nat2, tm1, tm2, tmj, W_in, Int.add_sub_cancel, tn1, tnp, tnc, List.length_append, List.length_take, List.length_replicate, List.length_set, List.length_map, List.length_cons, List.length_nil, prodEta, Int.toNat_natCast, beq_iff_eq, beq_eq_false_iff_ne, bne_iff_ne, bne_eq_false_iff_eq, ne_eq, Int.natCast_inj, Int.ofNat_lt, Int.ofNat_le] at *)
    all_goals (try (fail_if_success (with_reducible apply Exists.intro)); first | with_reducible assumption | omega | exact mdl (by omega) | exact ilo1 (by omega) | exact ilo2 (by omega) | exact ihi1 (by omega) (by omega) | exact ihi2 (by omega) (by omega))
    · exfalso; omega
    · exfalso; omega
    · exfalso; omega
    · exfalso; omega
    · exfalso; omega
    · rw [show k = N.length by omega]; exact best_all hne hsf
theorem sPiecesBetween_ok : Good1 Try.prog n_spec_PiecesBetween pbC := by
  refine good_ofG (tys := tyL) (env := [(n_spec_IsIn, isInC), (n_spec_l21Best, lbC)]) (envw := []) [] [] [] [] mixed tys ⟨sIsIn_ok, l21Best_ok, trivial⟩ trivial Try.func27 rfl (by kernel_rfl) (by decide) (by kernel_rfl) ?_
  have hG_ := kpz [(0, [3, 4, 5]), (1, [3, 4, 5, 16]), (2, [6]), (3, [6])] [] [] []
  rintro ⟨(xs : List Pt), ⟨(px : Int), (py : Int)⟩, ⟨(qx : Int), (qy : Int)⟩, ⟨⟩⟩ (h1 : xs.length ≤ _)
  (repeat' (first | with_reducible exact True.intro | with_reducible refine st_seq ?_ | (with_reducible refine st_regionG hG_ ?_; intro K_ hK_) | (with_reducible refine st_region ?_; intro K_ hK_) | (with_reducible refine hK_ _ _ ?_; try clear hK_ K_) | ((with_reducible refine st_cond (b := ?b_) ?hb_ ?_ ?_); case hb_ => rfl) | with_reducible refine sq_n ?_ | with_reducible refine sq_r ?_ | with_reducible refine sq_e ?_ | with_reducible refine bq_n ?_ | with_reducible refine bq_r ?_ | with_reducible refine bq_q ?_ | with_reducible refine st_block ?_ | with_reducible refine st_exit ?_ | with_reducible refine st_ret ?_ | with_reducible refine st_skip ?_ | with_reducible refine gq_n ?_ | with_reducible refine gq_r ?_ | with_reducible refine gq_e ?_ | with_reducible refine lq_n ?_ | with_reducible refine lq_r ?_ | with_reducible refine lq_e ?_ | with_reducible refine bq_e (by decide) ?_ | ((conv => whnf); first | (with_reducible refine hK_ _ _ ?_; try clear hK_ K_) | (with_reducible refine fun (g_ : Sl) (o_ : Ow) => ?_) | with_reducible exact True.intro | with_reducible refine And.intro trivial ?_ | with_reducible refine And.intro ?_ ?_ | exact Nat.le_of_ble_eq_true rfl | exact Or.inl rfl | (intro h_; cases h_) | (intro h_; (try simp only [cond_true, cond_false, decide_eq_true_eq, decide_eq_false_iff_not, Bool.not_eq_true', Bool.not_eq_false', Int.toNat_natCast, prodEta] at h_)) | rfl))) <;> (try (conv => whnf)) <;> (try first | change (_ : Int) ≤ _ | change (_ : Nat) ≤ _) <;> (try ((fail_if_success (with_reducible apply Exists.intro)); (try dsimp only); (try simp only [cond_true, cond_false, decide_eq_true_eq, decide_eq_false_iff_not, Bool.not_eq_true', Bool.not_eq_false', Int.toNat_natCast, prodEta])))
  all_goals (try (fail_if_success (with_reducible apply Exists.intro)); first | with_reducible assumption | omega | exact mdl (by omega) | exact ilo1 (by omega) | exact ilo2 (by omega) | exact ihi1 (by omega) (by omega) | exact ihi2 (by omega) (by omega))
  · exact (pb_no (Bool.eq_false_iff.2 fun h => by have := (in_two.1 h).1; rw [h_] at this; cases this)).symm
  · exact (pb_no (Bool.eq_false_iff.2 fun h => by have := (in_two.1 h).2; rw [h_] at this; cases this)).symm
  · exact isIn_room h_
  · exact isIn_pt (by assumption)
  · exact isIn_pt h_
  · exact (pb_yes (in_two.2 ⟨by assumption, h_⟩)).symm
def maxTo (l : List Int) : Nat → Int
  | 0 => l.getD 0 0
  | k + 1 => max (maxTo l k) (l.getD (k + 1) 0)
def maxC : Con := mkCon [.sl (.b .int)] (fun x => 0 < x.1.length ∧ x.1.length ≤ 1048576) fun x => vI (maxTo x.1 (x.1.length - 1))
theorem slMax_ok : Good1 Try.prog n_slices_Max_int maxC := by
  refine good_ofG (tys := tyL) (env := []) (envw := []) [] [] [] [] mixed tys trivial trivial Try.func65 rfl (by kernel_rfl) (by decide) (by kernel_rfl) ?_
  have hG_ := kpz [(0, [0]), (1, [0, 7]), (2, [0]), (3, [0, 3]), (4, [0, 3, 4]), (5, [0, 3, 4, 15]), (6, [0, 3, 4]), (7, [0, 3, 4]), (8, [2])] [] [] []
  rintro ⟨(l : List Int), ⟨⟩⟩ ⟨(h0 : 0 < l.length), (h1 : l.length ≤ _)⟩
  (repeat' (first | with_reducible exact True.intro | with_reducible refine st_seq ?_ | (with_reducible refine st_regionG hG_ ?_; intro K_ hK_) | (with_reducible refine st_region ?_; intro K_ hK_) | (with_reducible refine hK_ _ _ ?_; try clear hK_ K_) | ((with_reducible refine st_cond (b := ?b_) ?hb_ ?_ ?_); case hb_ => rfl) | with_reducible refine sq_n ?_ | with_reducible refine sq_r ?_ | with_reducible refine sq_e ?_ | with_reducible refine bq_n ?_ | with_reducible refine bq_r ?_ | with_reducible refine bq_q ?_ | with_reducible refine st_block ?_ | with_reducible refine st_exit ?_ | with_reducible refine st_ret ?_ | with_reducible refine st_skip ?_ | with_reducible refine gq_n ?_ | with_reducible refine gq_r ?_ | with_reducible refine gq_e ?_ | with_reducible refine lq_n ?_ | with_reducible refine lq_r ?_ | with_reducible refine lq_e ?_ | with_reducible refine bq_e (by decide) ?_ | ((conv => whnf); first | (with_reducible refine hK_ _ _ ?_; try clear hK_ K_) | (with_reducible refine fun (g_ : Sl) (o_ : Ow) => ?_) | with_reducible exact True.intro | with_reducible refine And.intro trivial ?_ | with_reducible refine And.intro ?_ ?_ | exact Nat.le_of_ble_eq_true rfl | exact Or.inl rfl | (intro h_; cases h_) | (intro h_; (try simp only [cond_true, cond_false, decide_eq_true_eq, decide_eq_false_iff_not, Bool.not_eq_true', Bool.not_eq_false', Int.toNat_natCast, prodEta] at h_)) | rfl))) <;> (try (conv => whnf)) <;> (try first | change (_ : Int) ≤ _ | change (_ : Nat) ≤ _) <;> (try ((fail_if_success (with_reducible apply Exists.intro)); (try dsimp only); (try simp only [cond_true, cond_false, decide_eq_true_eq, decide_eq_false_iff_not, Bool.not_eq_true', Bool.not_eq_false', Int.toNat_natCast, prodEta]))) <;> (try simp (disch := omega) only [ptEq2, cond_true, cond_false, decide_eq_true_eq, decide_eq_false_iff_not, List.length_drop, List.take_length, Int.toNat_zero, List.drop_zero, Nat.zero_add, List.nil_append, mod_nat1, mod_nat2, tm1, tm2, tmj, W_in, Int.add_sub_cancel, tn1, tnp, tnc, List.length_append, List.length_take, List.length_replicate, List.length_set, List.length_map, List.length_cons, List.length_nil, prodEta, Int.toNat_natCast, beq_iff_eq, beq_eq_false_iff_ne, bne_iff_ne, bne_eq_false_iff_eq, ne_eq, Int.natCast_inj, Int.ofNat_lt, Int.ofNat_le] at *)
  all_goals (try (fail_if_success (with_reducible apply Exists.intro)); first | with_reducible assumption | omega | exact mdl (by omega) | exact ilo1 (by omega) | exact ilo2 (by omega) | exact ihi1 (by omega) (by omega) | exact ihi2 (by omega) (by omega))
  refine awp'_loopG (α := Nat) (fun k ver_ => [(3, vInt (maxTo l k)), (4, vInt (k + 1))]) (fun k ver_ => []) (fun k ver_ => []) (fun k => k < l.length) (fun k => l.length - k) [0] [] (0) ?_
  conv => whnf
  refine ⟨⟨?inv9_, ?vals9_, ?own9_, ?fix9_⟩, ?body9_⟩
  case' vals9_ => (repeat' (first | with_reducible exact True.intro | with_reducible refine And.intro ?_ ?_ | with_reducible refine Head.mk ?_ ?_ ?_ ?_ | ((conv => lhs; whnf); first | with_reducible rfl | with_reducible exact vInt_s (by omega) | exact rfl) | ((conv => whnf); first | with_reducible exact True.intro | with_reducible refine And.intro ?_ ?_))) <;> (try (conv => lhs; whnf))
  case' own9_ => (repeat' (first | with_reducible exact True.intro | with_reducible refine And.intro ?_ ?_ | with_reducible refine Head.mk ?_ ?_ ?_ ?_ | ((conv => lhs; whnf); first | with_reducible rfl | with_reducible exact vInt_s (by omega) | exact rfl) | ((conv => whnf); first | with_reducible exact True.intro | with_reducible refine And.intro ?_ ?_))) <;> (try (conv => lhs; whnf))
  case' fix9_ => (repeat' (first | with_reducible exact True.intro | with_reducible refine And.intro ?_ ?_ | with_reducible refine Head.mk ?_ ?_ ?_ ?_ | ((conv => lhs; whnf); first | with_reducible rfl | with_reducible exact vInt_s (by omega) | exact rfl) | ((conv => whnf); first | with_reducible exact True.intro | with_reducible refine And.intro ?_ ?_))) <;> (try (conv => lhs; whnf))
  · omega
  rintro k g_ o_ v_ hk
  (repeat' (first | with_reducible exact True.intro | with_reducible refine st_seq ?_ | (with_reducible refine st_regionG hG_ ?_; intro K_ hK_) | (with_reducible refine st_region ?_; intro K_ hK_) | (with_reducible refine hK_ _ _ ?_; try clear hK_ K_) | ((with_reducible refine st_cond (b := ?b_) ?hb_ ?_ ?_); case hb_ => rfl) | with_reducible refine sq_n ?_ | with_reducible refine sq_r ?_ | with_reducible refine sq_e ?_ | with_reducible refine bq_n ?_ | with_reducible refine bq_r ?_ | with_reducible refine bq_q ?_ | with_reducible refine st_block ?_ | with_reducible refine st_exit ?_ | with_reducible refine st_ret ?_ | with_reducible refine st_skip ?_ | with_reducible refine gq_n ?_ | with_reducible refine gq_r ?_ | with_reducible refine gq_e ?_ | with_reducible refine lq_n ?_ | with_reducible refine lq_r ?_ | with_reducible refine lq_e ?_ | with_reducible refine bq_e (by decide) ?_ | ((conv => whnf); first | (with_reducible refine hK_ _ _ ?_; try clear hK_ K_) | (with_reducible refine fun (g_ : Sl) (o_ : Ow) => ?_) | with_reducible exact True.intro | with_reducible refine And.intro trivial ?_ | with_reducible refine And.intro ?_ ?_ | exact Nat.le_of_ble_eq_true rfl | exact Or.inl rfl | (intro h_; cases h_) | (intro h_; (try simp only [cond_true, cond_false, decide_eq_true_eq, decide_eq_false_iff_not, Bool.not_eq_true', Bool.not_eq_false', Int.toNat_natCast, prodEta] at h_)) | rfl))) <;> (try (conv => whnf)) <;> (try first | change (_ : Int) ≤ _ | change (_ : Nat) ≤ _) <;> (try ((fail_if_success (with_reducible apply Exists.intro)); (try dsimp only); (try simp only [cond_true, cond_false, decide_eq_true_eq, decide_eq_false_iff_not, Bool.not_eq_true', Bool.not_eq_false', Int.toNat_natCast, prodEta]))) <;> (try simp (disch := omega) only [ptEq2, cond_true, cond_false, decide_eq_true_eq, decide_eq_false_iff_not, List.length_drop, List.take_length, Int.toNat_zero, List.drop_zero, Nat.zero_add, List.nil_append, mod_nat1, mod_nat2, tm1, tm2, tmj, W_in, Int.add_sub_cancel, tn1, tnp, tnc, List.length_append, List.length_take, List.length_replicate, List.length_set, List.length_map, List.length_cons, List.length_nil, prodEta, Int.toNat_natCast, beq_iff_eq, beq_eq_false_iff_ne, bne_iff_ne, bne_eq_false_iff_eq, ne_eq, Int.natCast_inj, Int.ofNat_lt, Int.ofNat_le] at *)
  all_goals (try (fail_if_success (with_reducible apply Exists.intro)); first | with_reducible assumption | omega | exact mdl (by omega) | exact ilo1 (by omega) | exact ilo2 (by omega) | exact ihi1 (by omega) (by omega) | exact ihi2 (by omega) (by omega))
  all_goals first
    | omega
    | exact ⟨k + 1, by omega, by omega, by (repeat' (first | with_reducible exact True.intro | with_reducible refine And.intro ?_ ?_ | with_reducible refine Head.mk ?_ ?_ ?_ ?_ | ((conv => lhs; whnf); first | with_reducible rfl | with_reducible exact vInt_s (by omega) | exact rfl) | ((conv => whnf); first | with_reducible exact True.intro | with_reducible refine And.intro ?_ ?_))) <;> (try (conv => lhs; whnf))⟩
    | (rw [show l.length - 1 = k by omega])
    | skip
/-! ### The widest pair -/
theorem maxTo_le {l : List Int} {m : Int} : ∀ k, (maxTo l k ≤ m ↔ ∀ j, j ≤ k → l.getD j 0 ≤ m)
  | 0 => by
    rw [maxTo]
    exact ⟨fun h j hj => by rw [show j = 0 by omega]; exact h, fun h => h 0 (by omega)⟩
  | k + 1 => by
    rw [maxTo, Int.max_le, maxTo_le k]
    exact ⟨fun ⟨h1, h2⟩ j hj => by
      rcases Nat.lt_or_ge j (k + 1) with h3 | h3
      · exact h1 j (by omega)
      · rw [show j = k + 1 by omega]; exact h2, fun h => ⟨fun j hj => h j (by omega), h (k + 1) (by omega)⟩⟩
abbrev dK (xs : List Pt) (i k : Nat) : Int := dstM (sS xs) xs (nd xs k) (nd xs i)
/-- The greatest number among the pairs k < i. -/
def ldJ (xs : List Pt) (i : Nat) (n : Int) : Nat → Int
  | 0 => n
  | k + 1 => max (ldJ xs i n k) (dK xs i k)
def ldI (xs : List Pt) : Nat → Int
  | 0 => 0
  | i + 1 => ldJ xs i (ldI xs i) i
theorem ldJ_le {xs : List Pt} {i : Nat} {n m : Int} : ∀ k, (ldJ xs i n k ≤ m ↔ n ≤ m ∧ ∀ j, j < k → dK xs i j ≤ m)
  | 0 => by rw [ldJ]; exact ⟨fun h => ⟨h, fun j hj => absurd hj (by omega)⟩, fun h => h.1⟩
  | k + 1 => by
    rw [ldJ, Int.max_le, ldJ_le k]
    exact ⟨fun ⟨⟨h1, h2⟩, h3⟩ => ⟨h1, fun j hj => by
      rcases Nat.lt_or_ge j k with h4 | h4
      · exact h2 j h4
      · rw [show j = k by omega]; exact h3⟩, fun ⟨h1, h2⟩ => ⟨⟨h1, fun j hj => h2 j (by omega)⟩, h2 k (by omega)⟩⟩
theorem ldI_le {xs : List Pt} {m : Int} : ∀ i, (ldI xs i ≤ m ↔ 0 ≤ m ∧ ∀ a, a < i → ∀ b, b < a → dK xs a b ≤ m)
  | 0 => by rw [ldI]; exact ⟨fun h => ⟨h, fun a ha => absurd ha (by omega)⟩, fun h => h.1⟩
  | i + 1 => by
    rw [ldI, ldJ_le, ldI_le i]
    exact ⟨fun ⟨⟨h1, h2⟩, h3⟩ => ⟨h1, fun a ha b hb => by
      rcases Nat.lt_or_ge a i with h4 | h4
      · exact h2 a h4 b hb
      · obtain rfl : a = i := by omega
        exact h3 b hb⟩, fun ⟨h1, h2⟩ => ⟨⟨h1, fun a ha => h2 a (by omega)⟩, fun b hb => h2 i (by omega) b hb⟩⟩
def rowD (xs : List Pt) (c : Nat) : List Int := xs.map (dstM (sS xs) (xs ++ [nd xs c]) (nd xs c))
def ldM (xs : List Pt) : Nat → Int
  | 0 => 0
  | c + 1 => max (ldM xs c) (maxTo (rowD xs c) (xs.length - 1))
theorem rowD_get {xs : List Pt} {c i : Nat} (hc : c < xs.length) (hi : i < xs.length) : (rowD xs c).getD i 0 = dK xs i c := by
  unfold rowD
  rw [getD_lt _ (by simpa using hi), List.getElem_map, dst_same (by rw [show nd xs c = xs[c] from getD_lt _ hc]; exact List.getElem_mem _), ← show nd xs i = xs[i] from getD_lt _ hi]
theorem ldM_le {xs : List Pt} {m : Int} (hx : 0 < xs.length) : ∀ c, c ≤ xs.length → (ldM xs c ≤ m ↔ 0 ≤ m ∧ ∀ a, a < c → ∀ i, i < xs.length → dK xs i a ≤ m)
  | 0, _ => by rw [ldM]; exact ⟨fun h => ⟨h, fun a ha => absurd ha (by omega)⟩, fun h => h.1⟩
  | c + 1, hc => by
    rw [ldM, Int.max_le, ldM_le hx c (by omega), maxTo_le]
    exact ⟨fun ⟨⟨h1, h2⟩, h3⟩ => ⟨h1, fun a ha i hi => by
      rcases Nat.lt_or_ge a c with h4 | h4
      · exact h2 a h4 i hi
      · obtain rfl : a = c := by omega
        have := h3 i (by omega)
        rwa [rowD_get (by omega) hi] at this⟩, fun ⟨h1, h2⟩ => ⟨⟨h1, fun a ha => h2 a (by omega)⟩, fun j hj => by rw [rowD_get (by omega) (by omega)]; exact h2 c (by omega) j (by omega)⟩⟩
theorem ld_same {xs : List Pt} (hr : roomOk xs = true) : ldM xs xs.length = ldI xs xs.length := by
  have hx : 0 < xs.length := by have := room_len hr; omega
  have hm : ∀ i, i < xs.length → nd xs i ∈ xs := fun i hi => by rw [show nd xs i = xs[i] from getD_lt _ hi]; exact List.getElem_mem _
  have hc : ∀ a b, a < xs.length → b < xs.length → dK xs a b = dK xs b a := fun a b ha hb => dst_comm (hm a ha) (hm b hb) fun x h1 y h2 => seesS_comm hr (ptOk_mem hr h1) (ptOk_mem hr h2)
  have key : ∀ m, ldM xs xs.length ≤ m ↔ ldI xs xs.length ≤ m := fun m => by
    rw [ldM_le hx _ (Nat.le_refl _), ldI_le]
    refine and_congr_right fun h0 => ⟨fun h a ha b hb => h b (by omega) a ha, fun h a ha i hi => ?_⟩
    rcases Nat.lt_trichotomy a i with e | e | e
    · exact h i hi a e
    · subst e; show dstM _ _ _ _ ≤ m; rw [dst_self]; exact h0
    · rw [hc i a hi ha]; exact h a ha i e
  exact Int.le_antisymm ((key _).2 (Int.le_refl _)) ((key _).1 (Int.le_refl _))
def linkM (xs : List Pt) : Int := if roomOk xs then ldI xs xs.length else -1
def linkC : Con := mkCon [.room] (fun x => x.1.length ≤ 1048576) fun x => vI (linkM x.1)
theorem iLinkDiameter_ok : Good1 Try.prog n_impl_LinkDiameter linkC := by
  refine good_ofG (tys := tyL) (env := [(n_impl_RoomOk, roomOkC), (n_impl_piecesTo, piecesC), (n_slices_Max_int, maxC)]) (envw := []) [] [5] [] [] mixed tys ⟨iRoomOk_ok, pieces_ok, slMax_ok, trivial⟩ trivial Try.func33 rfl (by kernel_rfl) (by decide) (by kernel_rfl) ?_
  have hG_ := kpz [(0, [1]), (1, [1, 10]), (2, [2]), (3, [1, 3]), (4, [1, 3, 12, 13, 14]), (5, [1, 3, 12, 13, 14, 15]), (6, [1, 3, 5, 12, 13, 14]), (7, [1, 3, 6, 12, 13, 14]), (8, [1, 3, 12, 13, 14]), (9, [1, 3, 12, 13, 14]), (10, [2])] [(6, [5])] [] []
  rintro ⟨(xs : List Pt), ⟨⟩⟩ (h1 : xs.length ≤ _)
  (repeat' (first | with_reducible exact True.intro | with_reducible refine st_seq ?_ | (with_reducible refine st_regionG hG_ ?_; intro K_ hK_) | (with_reducible refine st_region ?_; intro K_ hK_) | (with_reducible refine hK_ _ _ ?_; try clear hK_ K_) | ((with_reducible refine st_cond (b := ?b_) ?hb_ ?_ ?_); case hb_ => rfl) | with_reducible refine sq_n ?_ | with_reducible refine sq_r ?_ | with_reducible refine sq_e ?_ | with_reducible refine bq_n ?_ | with_reducible refine bq_r ?_ | with_reducible refine bq_q ?_ | with_reducible refine st_block ?_ | with_reducible refine st_exit ?_ | with_reducible refine st_ret ?_ | with_reducible refine st_skip ?_ | with_reducible refine gq_n ?_ | with_reducible refine gq_r ?_ | with_reducible refine gq_e ?_ | with_reducible refine lq_n ?_ | with_reducible refine lq_r ?_ | with_reducible refine lq_e ?_ | with_reducible refine bq_e (by decide) ?_ | ((conv => whnf); first | (with_reducible refine hK_ _ _ ?_; try clear hK_ K_) | (with_reducible refine fun (g_ : Sl) (o_ : Ow) => ?_) | with_reducible exact True.intro | with_reducible refine And.intro trivial ?_ | with_reducible refine And.intro ?_ ?_ | exact Nat.le_of_ble_eq_true rfl | exact Or.inl rfl | (intro h_; cases h_) | (intro h_; (try simp only [cond_true, cond_false, decide_eq_true_eq, decide_eq_false_iff_not, Bool.not_eq_true', Bool.not_eq_false', Int.toNat_natCast, prodEta] at h_)) | rfl))) <;> (try (conv => whnf)) <;> (try first | change (_ : Int) ≤ _ | change (_ : Nat) ≤ _) <;> (try ((fail_if_success (with_reducible apply Exists.intro)); (try dsimp only); (try simp only [cond_true, cond_false, decide_eq_true_eq, decide_eq_false_iff_not, Bool.not_eq_true', Bool.not_eq_false', Int.toNat_natCast, prodEta]))) <;> (try simp (disch := omega) only [ptEq2, cond_true, cond_false, decide_eq_true_eq, decide_eq_false_iff_not, List.length_drop, List.take_length, Int.toNat_zero, List.drop_zero, Nat.zero_add, List.nil_append, mod_nat1, mod_nat2, tm1, tm2, tmj, W_in, Int.add_sub_cancel, tn1, tnp, tnc, List.length_append, List.length_take, List.length_replicate, List.length_set, List.length_map, List.length_cons, List.length_nil, prodEta, Int.toNat_natCast, beq_iff_eq, beq_eq_false_iff_ne, bne_iff_ne, bne_eq_false_iff_eq, ne_eq, Int.natCast_inj, Int.ofNat_lt, Int.ofNat_le] at *)
  all_goals (try (fail_if_success (with_reducible apply Exists.intro)); first | with_reducible assumption | omega | exact mdl (by omega) | exact ilo1 (by omega) | exact ilo2 (by omega) | exact ihi1 (by omega) (by omega) | exact ihi2 (by omega) (by omega))
  · unfold linkM; rw [h_]; rfl
  have hr : roomOk xs = true := h_
  have hxl := room_len hr
  refine awp'_loopG (α := Nat) (fun c ver_ => [(14, vInt c), (3, vInt (ldM xs c))]) (fun c ver_ => []) (fun c ver_ => [(5, ⟨ver_ 5, .dead⟩)]) (fun c => c ≤ xs.length) (fun c => xs.length - c) [1, 12, 13] [] (0) ?_
  conv => whnf
  refine ⟨⟨?inv10_, ?vals10_, ?own10_, ?fix10_⟩, ?body10_⟩
  case' vals10_ => (repeat' (first | with_reducible exact True.intro | with_reducible refine And.intro ?_ ?_ | with_reducible refine Head.mk ?_ ?_ ?_ ?_ | ((conv => lhs; whnf); first | with_reducible rfl | with_reducible exact vInt_s (by omega) | exact rfl) | ((conv => whnf); first | with_reducible exact True.intro | with_reducible refine And.intro ?_ ?_))) <;> (try (conv => lhs; whnf))
  case' own10_ => (repeat' (first | with_reducible exact True.intro | with_reducible refine And.intro ?_ ?_ | with_reducible refine Head.mk ?_ ?_ ?_ ?_ | ((conv => lhs; whnf); first | with_reducible rfl | with_reducible exact vInt_s (by omega) | exact rfl) | ((conv => whnf); first | with_reducible exact True.intro | with_reducible refine And.intro ?_ ?_))) <;> (try (conv => lhs; whnf))
  case' fix10_ => (repeat' (first | with_reducible exact True.intro | with_reducible refine And.intro ?_ ?_ | with_reducible refine Head.mk ?_ ?_ ?_ ?_ | ((conv => lhs; whnf); first | with_reducible rfl | with_reducible exact vInt_s (by omega) | exact rfl) | ((conv => whnf); first | with_reducible exact True.intro | with_reducible refine And.intro ?_ ?_))) <;> (try (conv => lhs; whnf))
  · exact Nat.zero_le _
  rintro c g_ o_ v_ hc
  (repeat' (first | with_reducible exact True.intro | with_reducible refine st_seq ?_ | (with_reducible refine st_regionG hG_ ?_; intro K_ hK_) | (with_reducible refine st_region ?_; intro K_ hK_) | (with_reducible refine hK_ _ _ ?_; try clear hK_ K_) | ((with_reducible refine st_cond (b := ?b_) ?hb_ ?_ ?_); case hb_ => rfl) | with_reducible refine sq_n ?_ | with_reducible refine sq_r ?_ | with_reducible refine sq_e ?_ | with_reducible refine bq_n ?_ | with_reducible refine bq_r ?_ | with_reducible refine bq_q ?_ | with_reducible refine st_block ?_ | with_reducible refine st_exit ?_ | with_reducible refine st_ret ?_ | with_reducible refine st_skip ?_ | with_reducible refine gq_n ?_ | with_reducible refine gq_r ?_ | with_reducible refine gq_e ?_ | with_reducible refine lq_n ?_ | with_reducible refine lq_r ?_ | with_reducible refine lq_e ?_ | with_reducible refine bq_e (by decide) ?_ | ((conv => whnf); first | (with_reducible refine hK_ _ _ ?_; try clear hK_ K_) | (with_reducible refine fun (g_ : Sl) (o_ : Ow) => ?_) | with_reducible exact True.intro | with_reducible refine And.intro trivial ?_ | with_reducible refine And.intro ?_ ?_ | exact Nat.le_of_ble_eq_true rfl | exact Or.inl rfl | (intro h_; cases h_) | (intro h_; (try simp only [cond_true, cond_false, decide_eq_true_eq, decide_eq_false_iff_not, Bool.not_eq_true', Bool.not_eq_false', Int.toNat_natCast, prodEta] at h_)) | rfl))) <;> (try (conv => whnf)) <;> (try first | change (_ : Int) ≤ _ | change (_ : Nat) ≤ _) <;> (try ((fail_if_success (with_reducible apply Exists.intro)); (try dsimp only); (try simp only [cond_true, cond_false, decide_eq_true_eq, decide_eq_false_iff_not, Bool.not_eq_true', Bool.not_eq_false', Int.toNat_natCast, prodEta]))) <;> (try simp (disch := omega) only [ptEq2, cond_true, cond_false, decide_eq_true_eq, decide_eq_false_iff_not, List.length_drop, List.take_length, Int.toNat_zero, List.drop_zero, Nat.zero_add, List.nil_append, mod_nat1, mod_nat2, tm1, tm2, tmj, W_in, Int.add_sub_cancel, tn1, tnp, tnc, List.length_append, List.length_take, List.length_replicate, List.length_set, List.length_map, List.length_cons, List.length_nil, prodEta, Int.toNat_natCast, beq_iff_eq, beq_eq_false_iff_ne, bne_iff_ne, bne_eq_false_iff_eq, ne_eq, Int.natCast_inj, Int.ofNat_lt, Int.ofNat_le] at *)
  all_goals (try (fail_if_success (with_reducible apply Exists.intro)); first | with_reducible assumption | omega | exact mdl (by omega) | exact ilo1 (by omega) | exact ilo2 (by omega) | exact ihi1 (by omega) (by omega) | exact ihi2 (by omega) (by omega))
  · exact room_pt hr h_
  · exact room_pt hr h_
  · refine ⟨c + 1, by omega, by omega, ?_⟩
    (repeat' (first | with_reducible exact True.intro | with_reducible refine And.intro ?_ ?_ | with_reducible refine Head.mk ?_ ?_ ?_ ?_ | ((conv => lhs; whnf); first | with_reducible rfl | with_reducible exact vInt_s (by omega) | exact rfl) | ((conv => whnf); first | with_reducible exact True.intro | with_reducible refine And.intro ?_ ?_))) <;> (try (conv => lhs; whnf))
    all_goals first
      | rfl
      | skip
  · rw [show c = xs.length by omega, ld_same hr]
    unfold linkM
    rw [if_pos hr]
theorem sLinkDiameter_ok : Good1 Try.prog n_spec_LinkDiameter linkC := by
  refine good_ofG (tys := tyL) (env := [(n_spec_RoomOk, roomOkC), (n_spec_l21Best, lbC)]) (envw := []) [] [] [] [] mixed tys ⟨sRoomOk_ok, l21Best_ok, trivial⟩ trivial Try.func32 rfl (by kernel_rfl) (by decide) (by kernel_rfl) ?_
  have hG_ := kpz [(0, [1]), (1, [1, 8]), (2, [2]), (3, [1, 3]), (4, [1, 3, 4]), (5, [1, 3, 4, 13]), (6, [1, 3, 4]), (7, [1, 3, 4, 5]), (8, [1, 3, 4, 5, 18]), (9, [1, 3, 4, 5]), (10, [1, 3, 4, 5]), (11, [2])] [] [] []
  rintro ⟨(xs : List Pt), ⟨⟩⟩ (h1 : xs.length ≤ _)
  (repeat' (first | with_reducible exact True.intro | with_reducible refine st_seq ?_ | (with_reducible refine st_regionG hG_ ?_; intro K_ hK_) | (with_reducible refine st_region ?_; intro K_ hK_) | (with_reducible refine hK_ _ _ ?_; try clear hK_ K_) | ((with_reducible refine st_cond (b := ?b_) ?hb_ ?_ ?_); case hb_ => rfl) | with_reducible refine sq_n ?_ | with_reducible refine sq_r ?_ | with_reducible refine sq_e ?_ | with_reducible refine bq_n ?_ | with_reducible refine bq_r ?_ | with_reducible refine bq_q ?_ | with_reducible refine st_block ?_ | with_reducible refine st_exit ?_ | with_reducible refine st_ret ?_ | with_reducible refine st_skip ?_ | with_reducible refine gq_n ?_ | with_reducible refine gq_r ?_ | with_reducible refine gq_e ?_ | with_reducible refine lq_n ?_ | with_reducible refine lq_r ?_ | with_reducible refine lq_e ?_ | with_reducible refine bq_e (by decide) ?_ | ((conv => whnf); first | (with_reducible refine hK_ _ _ ?_; try clear hK_ K_) | (with_reducible refine fun (g_ : Sl) (o_ : Ow) => ?_) | with_reducible exact True.intro | with_reducible refine And.intro trivial ?_ | with_reducible refine And.intro ?_ ?_ | exact Nat.le_of_ble_eq_true rfl | exact Or.inl rfl | (intro h_; cases h_) | (intro h_; (try simp only [cond_true, cond_false, decide_eq_true_eq, decide_eq_false_iff_not, Bool.not_eq_true', Bool.not_eq_false', Int.toNat_natCast, prodEta] at h_)) | rfl))) <;> (try (conv => whnf)) <;> (try first | change (_ : Int) ≤ _ | change (_ : Nat) ≤ _) <;> (try ((fail_if_success (with_reducible apply Exists.intro)); (try dsimp only); (try simp only [cond_true, cond_false, decide_eq_true_eq, decide_eq_false_iff_not, Bool.not_eq_true', Bool.not_eq_false', Int.toNat_natCast, prodEta]))) <;> (try simp (disch := omega) only [ptEq2, cond_true, cond_false, decide_eq_true_eq, decide_eq_false_iff_not, List.length_drop, List.take_length, Int.toNat_zero, List.drop_zero, Nat.zero_add, List.nil_append, mod_nat1, mod_nat2, tm1, tm2, tmj, W_in, Int.add_sub_cancel, tn1, tnp, tnc, List.length_append, List.length_take, List.length_replicate, List.length_set, List.length_map, List.length_cons, List.length_nil, prodEta, Int.toNat_natCast, beq_iff_eq, beq_eq_false_iff_ne, bne_iff_ne, bne_eq_false_iff_eq, ne_eq, Int.natCast_inj, Int.ofNat_lt, Int.ofNat_le] at *)
  all_goals (try (fail_if_success (with_reducible apply Exists.intro)); first | with_reducible assumption | omega | exact mdl (by omega) | exact ilo1 (by omega) | exact ilo2 (by omega) | exact ihi1 (by omega) (by omega) | exact ihi2 (by omega) (by omega))
  · unfold linkM; rw [h_]; rfl
  have hr : roomOk xs = true := h_
  have hxl := room_len hr
  refine awp'_loopG (α := Nat) (fun i ver_ => [(4, vInt i), (3, vInt (ldI xs i))]) (fun i ver_ => []) (fun i ver_ => []) (fun i => i ≤ xs.length) (fun i => xs.length - i) [1] [] (0) ?_
  conv => whnf
  refine ⟨⟨?inv11_, ?vals11_, ?own11_, ?fix11_⟩, ?body11_⟩
  case' vals11_ => (repeat' (first | with_reducible exact True.intro | with_reducible refine And.intro ?_ ?_ | with_reducible refine Head.mk ?_ ?_ ?_ ?_ | ((conv => lhs; whnf); first | with_reducible rfl | with_reducible exact vInt_s (by omega) | exact rfl) | ((conv => whnf); first | with_reducible exact True.intro | with_reducible refine And.intro ?_ ?_))) <;> (try (conv => lhs; whnf))
  case' own11_ => (repeat' (first | with_reducible exact True.intro | with_reducible refine And.intro ?_ ?_ | with_reducible refine Head.mk ?_ ?_ ?_ ?_ | ((conv => lhs; whnf); first | with_reducible rfl | with_reducible exact vInt_s (by omega) | exact rfl) | ((conv => whnf); first | with_reducible exact True.intro | with_reducible refine And.intro ?_ ?_))) <;> (try (conv => lhs; whnf))
  case' fix11_ => (repeat' (first | with_reducible exact True.intro | with_reducible refine And.intro ?_ ?_ | with_reducible refine Head.mk ?_ ?_ ?_ ?_ | ((conv => lhs; whnf); first | with_reducible rfl | with_reducible exact vInt_s (by omega) | exact rfl) | ((conv => whnf); first | with_reducible exact True.intro | with_reducible refine And.intro ?_ ?_))) <;> (try (conv => lhs; whnf))
  · exact Nat.zero_le _
  rintro i g_ o_ v_ hi
  (repeat' (first | with_reducible exact True.intro | with_reducible refine st_seq ?_ | (with_reducible refine st_regionG hG_ ?_; intro K_ hK_) | (with_reducible refine st_region ?_; intro K_ hK_) | (with_reducible refine hK_ _ _ ?_; try clear hK_ K_) | ((with_reducible refine st_cond (b := ?b_) ?hb_ ?_ ?_); case hb_ => rfl) | with_reducible refine sq_n ?_ | with_reducible refine sq_r ?_ | with_reducible refine sq_e ?_ | with_reducible refine bq_n ?_ | with_reducible refine bq_r ?_ | with_reducible refine bq_q ?_ | with_reducible refine st_block ?_ | with_reducible refine st_exit ?_ | with_reducible refine st_ret ?_ | with_reducible refine st_skip ?_ | with_reducible refine gq_n ?_ | with_reducible refine gq_r ?_ | with_reducible refine gq_e ?_ | with_reducible refine lq_n ?_ | with_reducible refine lq_r ?_ | with_reducible refine lq_e ?_ | with_reducible refine bq_e (by decide) ?_ | ((conv => whnf); first | (with_reducible refine hK_ _ _ ?_; try clear hK_ K_) | (with_reducible refine fun (g_ : Sl) (o_ : Ow) => ?_) | with_reducible exact True.intro | with_reducible refine And.intro trivial ?_ | with_reducible refine And.intro ?_ ?_ | exact Nat.le_of_ble_eq_true rfl | exact Or.inl rfl | (intro h_; cases h_) | (intro h_; (try simp only [cond_true, cond_false, decide_eq_true_eq, decide_eq_false_iff_not, Bool.not_eq_true', Bool.not_eq_false', Int.toNat_natCast, prodEta] at h_)) | rfl))) <;> (try (conv => whnf)) <;> (try first | change (_ : Int) ≤ _ | change (_ : Nat) ≤ _) <;> (try ((fail_if_success (with_reducible apply Exists.intro)); (try dsimp only); (try simp only [cond_true, cond_false, decide_eq_true_eq, decide_eq_false_iff_not, Bool.not_eq_true', Bool.not_eq_false', Int.toNat_natCast, prodEta]))) <;> (try simp (disch := omega) only [ptEq2, cond_true, cond_false, decide_eq_true_eq, decide_eq_false_iff_not, List.length_drop, List.take_length, Int.toNat_zero, List.drop_zero, Nat.zero_add, List.nil_append, mod_nat1, mod_nat2, tm1, tm2, tmj, W_in, Int.add_sub_cancel, tn1, tnp, tnc, List.length_append, List.length_take, List.length_replicate, List.length_set, List.length_map, List.length_cons, List.length_nil, prodEta, Int.toNat_natCast, beq_iff_eq, beq_eq_false_iff_ne, bne_iff_ne, bne_eq_false_iff_eq, ne_eq, Int.natCast_inj, Int.ofNat_lt, Int.ofNat_le] at *)
  all_goals (try (fail_if_success (with_reducible apply Exists.intro)); first | with_reducible assumption | omega | exact mdl (by omega) | exact ilo1 (by omega) | exact ilo2 (by omega) | exact ihi1 (by omega) (by omega) | exact ihi2 (by omega) (by omega))
  ·
   refine awp'_loopG (α := Nat) (fun k ver_ => [(5, vInt k), (3, vInt (ldJ xs i (ldI xs i) k))]) (fun k ver_ => []) (fun k ver_ => []) (fun k => k ≤ i) (fun k => i - k) [1, 4] [] (0) ?_
   conv => whnf
   refine ⟨⟨?inv12_, ?vals12_, ?own12_, ?fix12_⟩, ?body12_⟩
   case' vals12_ => (repeat' (first | with_reducible exact True.intro | with_reducible refine And.intro ?_ ?_ | with_reducible refine Head.mk ?_ ?_ ?_ ?_ | ((conv => lhs; whnf); first | with_reducible rfl | with_reducible exact vInt_s (by omega) | exact rfl) | ((conv => whnf); first | with_reducible exact True.intro | with_reducible refine And.intro ?_ ?_))) <;> (try (conv => lhs; whnf))
   case' own12_ => (repeat' (first | with_reducible exact True.intro | with_reducible refine And.intro ?_ ?_ | with_reducible refine Head.mk ?_ ?_ ?_ ?_ | ((conv => lhs; whnf); first | with_reducible rfl | with_reducible exact vInt_s (by omega) | exact rfl) | ((conv => whnf); first | with_reducible exact True.intro | with_reducible refine And.intro ?_ ?_))) <;> (try (conv => lhs; whnf))
   case' fix12_ => (repeat' (first | with_reducible exact True.intro | with_reducible refine And.intro ?_ ?_ | with_reducible refine Head.mk ?_ ?_ ?_ ?_ | ((conv => lhs; whnf); first | with_reducible rfl | with_reducible exact vInt_s (by omega) | exact rfl) | ((conv => whnf); first | with_reducible exact True.intro | with_reducible refine And.intro ?_ ?_))) <;> (try (conv => lhs; whnf))
   · exact Nat.zero_le _
   rintro k g_ o_ v_ hk
   (repeat' (first | with_reducible exact True.intro | with_reducible refine st_seq ?_ | (with_reducible refine st_regionG hG_ ?_; intro K_ hK_) | (with_reducible refine st_region ?_; intro K_ hK_) | (with_reducible refine hK_ _ _ ?_; try clear hK_ K_) | ((with_reducible refine st_cond (b := ?b_) ?hb_ ?_ ?_); case hb_ => rfl) | with_reducible refine sq_n ?_ | with_reducible refine sq_r ?_ | with_reducible refine sq_e ?_ | with_reducible refine bq_n ?_ | with_reducible refine bq_r ?_ | with_reducible refine bq_q ?_ | with_reducible refine st_block ?_ | with_reducible refine st_exit ?_ | with_reducible refine st_ret ?_ | with_reducible refine st_skip ?_ | with_reducible refine gq_n ?_ | with_reducible refine gq_r ?_ | with_reducible refine gq_e ?_ | with_reducible refine lq_n ?_ | with_reducible refine lq_r ?_ | with_reducible refine lq_e ?_ | with_reducible refine bq_e (by decide) ?_ | ((conv => whnf); first | (with_reducible refine hK_ _ _ ?_; try clear hK_ K_) | (with_reducible refine fun (g_ : Sl) (o_ : Ow) => ?_) | with_reducible exact True.intro | with_reducible refine And.intro trivial ?_ | with_reducible refine And.intro ?_ ?_ | exact Nat.le_of_ble_eq_true rfl | exact Or.inl rfl | (intro h_; cases h_) | (intro h_; (try simp only [cond_true, cond_false, decide_eq_true_eq, decide_eq_false_iff_not, Bool.not_eq_true', Bool.not_eq_false', Int.toNat_natCast, prodEta] at h_)) | rfl))) <;> (try (conv => whnf)) <;> (try first | change (_ : Int) ≤ _ | change (_ : Nat) ≤ _) <;> (try ((fail_if_success (with_reducible apply Exists.intro)); (try dsimp only); (try simp only [cond_true, cond_false, decide_eq_true_eq, decide_eq_false_iff_not, Bool.not_eq_true', Bool.not_eq_false', Int.toNat_natCast, prodEta]))) <;> (try simp (disch := omega) only [ptEq2, cond_true, cond_false, decide_eq_true_eq, decide_eq_false_iff_not, List.length_drop, List.take_length, Int.toNat_zero, List.drop_zero, Nat.zero_add, List.nil_append, mod_nat1, mod_nat2, tm1, tm2, tmj, W_in, Int.add_sub_cancel, tn1, tnp, tnc, List.length_append, List.length_take, List.length_replicate, List.length_set, List.length_map, List.length_cons, List.length_nil, prodEta, Int.toNat_natCast, beq_iff_eq, beq_eq_false_iff_ne, bne_iff_ne, bne_eq_false_iff_eq, ne_eq, Int.natCast_inj, Int.ofNat_lt, Int.ofNat_le] at *)
   all_goals (try (fail_if_success (with_reducible apply Exists.intro)); first | with_reducible assumption | omega | exact mdl (by omega) | exact ilo1 (by omega) | exact ilo2 (by omega) | exact ihi1 (by omega) (by omega) | exact ihi2 (by omega) (by omega))
   · exact room_pt hr (by assumption)
   · exact room_pt hr (by omega)
   · refine ⟨k + 1, by omega, by omega, ?_⟩
     (repeat' (first | with_reducible exact True.intro | with_reducible refine And.intro ?_ ?_ | with_reducible refine Head.mk ?_ ?_ ?_ ?_ | ((conv => lhs; whnf); first | with_reducible rfl | with_reducible exact vInt_s (by omega) | exact rfl) | ((conv => whnf); first | with_reducible exact True.intro | with_reducible refine And.intro ?_ ?_))) <;> (try (conv => lhs; whnf))
     all_goals first
       | rfl
       | skip
   · refine ⟨i + 1, by omega, by omega, ?_⟩
     (repeat' (first | with_reducible exact True.intro | with_reducible refine And.intro ?_ ?_ | with_reducible refine Head.mk ?_ ?_ ?_ ?_ | ((conv => lhs; whnf); first | with_reducible rfl | with_reducible exact vInt_s (by omega) | exact rfl) | ((conv => whnf); first | with_reducible exact True.intro | with_reducible refine And.intro ?_ ?_))) <;> (try (conv => lhs; whnf))
     all_goals first
       | (rw [show k = i by omega]; rfl)
       | skip
  · rw [show i = xs.length by omega]
    unfold linkM
    rw [if_pos hr]
theorem fnExactPiecesBetween_ok : Good1 Try.prog n_laws_FnExactPiecesBetween (lawCon [.room, .pt, .pt]) := by
  refine good_ofG (tys := tyL) (env := [(n_laws_szRoom, szRC), (n_laws_toRoom, toRoomC), (n_laws_toPoint, toPtC), (n_spec_PiecesBetween, pbC), (n_impl_PiecesBetween, pbC), (n_laws_eqRoom, eqRC)]) (envw := []) [] [] [] [] mixed tys ⟨szRoom_ok, toRoom_ok, toPoint_ok, sPiecesBetween_ok, iPiecesBetween_ok, eqRoom_ok, trivial⟩ trivial Try.func6 rfl (by kernel_rfl) (by decide) (by kernel_rfl) ?_
  have hG_ := kpz [(0, [3, 4, 5]), (1, [3, 4, 5, 7]), (2, [3, 4, 5, 7]), (3, [3, 4, 5, 15]), (4, [6]), (5, [3, 4, 5, 8]), (6, [3, 4, 5, 8, 9]), (7, [3, 8, 9, 10]), (8, [3, 9, 33]), (9, [6]), (10, [38]), (11, [6]), (12, [6])] [(6, [9]), (7, [9]), (8, [9])] [] []
  rintro ⟨(xs : List Pt), ⟨(px : Int), (py : Int)⟩, ⟨(qx : Int), (qy : Int)⟩, ⟨⟩⟩ ⟨(h1 : xs.length ≤ _), -⟩
  (repeat' (first | with_reducible exact True.intro | with_reducible refine st_seq ?_ | (with_reducible refine st_regionG hG_ ?_; intro K_ hK_) | (with_reducible refine st_region ?_; intro K_ hK_) | (with_reducible refine hK_ _ _ ?_; try clear hK_ K_) | ((with_reducible refine st_cond (b := ?b_) ?hb_ ?_ ?_); case hb_ => rfl) | with_reducible refine sq_n ?_ | with_reducible refine sq_r ?_ | with_reducible refine sq_e ?_ | with_reducible refine bq_n ?_ | with_reducible refine bq_r ?_ | with_reducible refine bq_q ?_ | with_reducible refine st_block ?_ | with_reducible refine st_exit ?_ | with_reducible refine st_ret ?_ | with_reducible refine st_skip ?_ | with_reducible refine gq_n ?_ | with_reducible refine gq_r ?_ | with_reducible refine gq_e ?_ | with_reducible refine lq_n ?_ | with_reducible refine lq_r ?_ | with_reducible refine lq_e ?_ | with_reducible refine bq_e (by decide) ?_ | ((conv => whnf); first | (with_reducible refine hK_ _ _ ?_; try clear hK_ K_) | (with_reducible refine fun (g_ : Sl) (o_ : Ow) => ?_) | with_reducible exact True.intro | with_reducible refine And.intro trivial ?_ | with_reducible refine And.intro ?_ ?_ | exact Nat.le_of_ble_eq_true rfl | exact Or.inl rfl | (intro h_; cases h_) | (intro h_; (try simp only [cond_true, cond_false, decide_eq_true_eq, decide_eq_false_iff_not, Bool.not_eq_true', Bool.not_eq_false', Int.toNat_natCast, prodEta] at h_)) | rfl))) <;> (try (conv => whnf)) <;> (try first | change (_ : Int) ≤ _ | change (_ : Nat) ≤ _) <;> (try ((fail_if_success (with_reducible apply Exists.intro)); (try dsimp only); (try simp only [cond_true, cond_false, decide_eq_true_eq, decide_eq_false_iff_not, Bool.not_eq_true', Bool.not_eq_false', Int.toNat_natCast, prodEta])))
  all_goals (try (fail_if_success (with_reducible apply Exists.intro)); first | with_reducible assumption | omega | exact mdl (by omega) | exact ilo1 (by omega) | exact ilo2 (by omega) | exact ihi1 (by omega) (by omega) | exact ihi2 (by omega) (by omega))
  all_goals ((try simp only [szF_neg1, szF_neg2, szF_nn, szF_hi1, bne_self_eq_false, beq_self_eq_true, Bool.true_eq_false, decide_true, Bool.not_true, List.length_map, not_true_eq_false, Bool.false_eq_true, reduceCtorEq, not_false_eq_true] at *); (try omega))
theorem fnExactLinkDiameter_ok : Good1 Try.prog n_laws_FnExactLinkDiameter (lawCon [.room]) := by
  refine good_ofG (tys := tyL) (env := [(n_laws_szRoom, szRC), (n_laws_toRoom, toRoomC), (n_spec_LinkDiameter, linkC), (n_impl_LinkDiameter, linkC), (n_laws_eqRoom, eqRC)]) (envw := []) [] [] [] [] mixed tys ⟨szRoom_ok, toRoom_ok, sLinkDiameter_ok, iLinkDiameter_ok, eqRoom_ok, trivial⟩ trivial Try.func8 rfl (by kernel_rfl) (by decide) (by kernel_rfl) ?_
  have hG_ := kpz [(0, [1]), (1, [1, 3]), (2, [1, 3]), (3, [1, 11]), (4, [2]), (5, [1, 4]), (6, [1, 4, 5]), (7, [1, 4, 5, 6]), (8, [1, 5, 21]), (9, [2]), (10, [26]), (11, [2]), (12, [2])] [(6, [5]), (7, [5]), (8, [5])] [] []
  rintro ⟨(xs : List Pt), ⟨⟩⟩ ⟨(h1 : xs.length ≤ _), -⟩
  (repeat' (first | with_reducible exact True.intro | with_reducible refine st_seq ?_ | (with_reducible refine st_regionG hG_ ?_; intro K_ hK_) | (with_reducible refine st_region ?_; intro K_ hK_) | (with_reducible refine hK_ _ _ ?_; try clear hK_ K_) | ((with_reducible refine st_cond (b := ?b_) ?hb_ ?_ ?_); case hb_ => rfl) | with_reducible refine sq_n ?_ | with_reducible refine sq_r ?_ | with_reducible refine sq_e ?_ | with_reducible refine bq_n ?_ | with_reducible refine bq_r ?_ | with_reducible refine bq_q ?_ | with_reducible refine st_block ?_ | with_reducible refine st_exit ?_ | with_reducible refine st_ret ?_ | with_reducible refine st_skip ?_ | with_reducible refine gq_n ?_ | with_reducible refine gq_r ?_ | with_reducible refine gq_e ?_ | with_reducible refine lq_n ?_ | with_reducible refine lq_r ?_ | with_reducible refine lq_e ?_ | with_reducible refine bq_e (by decide) ?_ | ((conv => whnf); first | (with_reducible refine hK_ _ _ ?_; try clear hK_ K_) | (with_reducible refine fun (g_ : Sl) (o_ : Ow) => ?_) | with_reducible exact True.intro | with_reducible refine And.intro trivial ?_ | with_reducible refine And.intro ?_ ?_ | exact Nat.le_of_ble_eq_true rfl | exact Or.inl rfl | (intro h_; cases h_) | (intro h_; (try simp only [cond_true, cond_false, decide_eq_true_eq, decide_eq_false_iff_not, Bool.not_eq_true', Bool.not_eq_false', Int.toNat_natCast, prodEta] at h_)) | rfl))) <;> (try (conv => whnf)) <;> (try first | change (_ : Int) ≤ _ | change (_ : Nat) ≤ _) <;> (try ((fail_if_success (with_reducible apply Exists.intro)); (try dsimp only); (try simp only [cond_true, cond_false, decide_eq_true_eq, decide_eq_false_iff_not, Bool.not_eq_true', Bool.not_eq_false', Int.toNat_natCast, prodEta])))
  all_goals (try (fail_if_success (with_reducible apply Exists.intro)); first | with_reducible assumption | omega | exact mdl (by omega) | exact ilo1 (by omega) | exact ilo2 (by omega) | exact ihi1 (by omega) (by omega) | exact ihi2 (by omega) (by omega))
  all_goals ((try simp only [szF_neg1, szF_neg2, szF_nn, szF_hi1, bne_self_eq_false, beq_self_eq_true, Bool.true_eq_false, decide_true, Bool.not_true, List.length_map, not_true_eq_false, Bool.false_eq_true, reduceCtorEq, not_false_eq_true] at *); (try omega))
end Go.Proofs.Ytapnjichedljbaa
