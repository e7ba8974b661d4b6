/- Contracts: witnesses, hidden corners, ears' areas, ears. -/
import Derived.Test.YtpeaannkmokhpaaGh
namespace Go.Proofs.Ytpeaannkmokhpaa
open Go.RowKit Go.Proofs.Ytpeaannkmokhpaa.Nm
set_option maxRecDepth 10000
set_option maxHeartbeats 2000000
set_option linter.unusedSimpArgs false
set_option linter.unusedVariables false
/-! ### The corners that see a point -/
def sightM (xs : List Pt) (p : Pt) : List Bool := xs.map fun c => seesS xs c p
theorem sightM_len (xs : List Pt) (p : Pt) : (sightM xs p).length = xs.length := List.length_map _
theorem sightM_get {xs : List Pt} {p : Pt} {k : Nat} (h : k < xs.length) : (sightM xs p).getD k false = seesS xs (pAt xs k) p := by
  unfold sightM
  rw [getD_lt _ (by simpa using h), List.getElem_map, show pAt xs k = xs[k] from getD_lt _ h]
def sightC : Con := mkCon [.room, .pt] (fun x => roomOk x.1 = true ∧ ptOk x.2.1 = true) fun x => rowB (sightM x.1 x.2.1)
theorem sightOf_ok : Good1 Try.prog n_impl_sightOf sightC := by
  refine good_ofG (tys := tyL) (env := [(n_impl_sees, sees2C)]) (envw := []) [8] [] [] mixed tys ⟨sees2_ok, trivial⟩ trivial Try.func52 rfl (by kernel_rfl) (by decide) (by kernel_rfl) ?_
  have hG_ := kpz [(0, [2, 3]), (1, [2, 3, 5]), (2, [2, 3, 5, 10, 11, 12]), (3, [2, 3, 5, 10, 11, 12, 13]), (4, [2, 3, 5, 7, 10, 11, 12]), (5, [2, 3, 5, 10, 11, 12]), (6, [2, 3, 5, 10, 11, 12]), (7, [4])] [(1, [8]), (2, [8]), (3, [8]), (4, [7, 8]), (5, [8]), (6, [8]), (7, [8])] [] []
  rintro ⟨(xs : List Pt), ⟨(p : Int), (q : Int)⟩, ⟨⟩⟩ ⟨(hr : roomOk xs = true), (hp : ptOk (p, q) = true)⟩
  have hl := (room_len hr).2
  (repeat' (first | with_reducible exact True.intro | with_reducible refine st_seq ?_ | (with_reducible refine st_regionG hG_ ?_; intro K_ hK_) | (with_reducible refine st_region ?_; intro K_ hK_) | (with_reducible refine hK_ _ _ ?_; try clear hK_ K_) | ((with_reducible refine st_cond (b := ?b_) ?hb_ ?_ ?_); case hb_ => rfl) | with_reducible refine sq_n ?_ | with_reducible refine sq_r ?_ | with_reducible refine sq_e ?_ | with_reducible refine bq_n ?_ | with_reducible refine bq_r ?_ | with_reducible refine bq_q ?_ | with_reducible refine st_block ?_ | with_reducible refine st_exit ?_ | with_reducible refine st_ret ?_ | with_reducible refine st_skip ?_ | with_reducible refine gq_n ?_ | with_reducible refine gq_r ?_ | with_reducible refine gq_e ?_ | with_reducible refine lq_n ?_ | with_reducible refine lq_r ?_ | with_reducible refine lq_e ?_ | with_reducible refine bq_e (by decide) ?_ | ((conv => whnf); first | (with_reducible refine hK_ _ _ ?_; try clear hK_ K_) | (with_reducible refine fun (g_ : Sl) (o_ : Ow) => ?_) | with_reducible exact True.intro | with_reducible refine And.intro trivial ?_ | with_reducible refine And.intro ?_ ?_ | exact Nat.le_of_ble_eq_true rfl | exact Or.inl rfl | (intro h_; cases h_) | (intro h_; (try simp only [cond_true, cond_false, decide_eq_true_eq, decide_eq_false_iff_not, Bool.not_eq_true', Bool.not_eq_false', Int.toNat_natCast, prodEta] at h_)) | rfl))) <;> (try (conv => whnf)) <;> (try first | change (_ : Int) ≤ _ | change (_ : Nat) ≤ _) <;> (try ((fail_if_success (with_reducible apply Exists.intro)); (try dsimp only); (try simp only [cond_true, cond_false, decide_eq_true_eq, decide_eq_false_iff_not, Bool.not_eq_true', Bool.not_eq_false', Int.toNat_natCast, prodEta]))) <;> (try simp (disch := omega) only [ptEq2, cond_true, cond_false, decide_eq_true_eq, decide_eq_false_iff_not, List.length_drop, List.take_length, Int.toNat_zero, List.drop_zero, Nat.zero_add, List.nil_append, mod_nat1, mod_nat2, tm1, tm2, tmj, W_in, Int.add_sub_cancel, tn1, tnp, tnc, List.length_append, List.length_take, List.length_replicate, List.length_set, List.length_map, List.length_cons, List.length_nil, prodEta, Int.toNat_natCast, beq_iff_eq, beq_eq_false_iff_ne, bne_iff_ne, bne_eq_false_iff_eq, ne_eq, Int.natCast_inj, Int.ofNat_lt, Int.ofNat_le] at *)
  all_goals (try (fail_if_success (with_reducible apply Exists.intro)); first | with_reducible assumption | omega | exact mdl (by omega) | exact ilo1 (by omega) | exact ilo2 (by omega) | exact ihi1 (by omega) (by omega) | exact ihi2 (by omega) (by omega))
  refine awp'_loopG (α := Nat) (fun k ver_ => [(12, vInt k)]) (fun k ver_ => [(5, 8, false, .row t_bool (.b .bool) ((xs.take k).map fun c => seesS xs c (p, q)))]) (fun k ver_ => []) (fun k => k ≤ xs.length) (fun k => xs.length - k) [2, 3, 10, 11] [] (0) ?_
  conv => whnf
  refine ⟨⟨?inv1_, ?vals1_, ?own1_, ?fix1_⟩, ?body1_⟩
  case' vals1_ => (repeat' (first | with_reducible exact True.intro | with_reducible refine And.intro ?_ ?_ | with_reducible refine Head.mk ?_ ?_ ?_ ?_ | ((conv => lhs; whnf); first | with_reducible rfl | with_reducible exact vInt_s (by omega) | exact rfl) | ((conv => whnf); first | with_reducible exact True.intro | with_reducible refine And.intro ?_ ?_))) <;> (try (conv => lhs; whnf))
  case' own1_ => (repeat' (first | with_reducible exact True.intro | with_reducible refine And.intro ?_ ?_ | with_reducible refine Head.mk ?_ ?_ ?_ ?_ | ((conv => lhs; whnf); first | with_reducible rfl | with_reducible exact vInt_s (by omega) | exact rfl) | ((conv => whnf); first | with_reducible exact True.intro | with_reducible refine And.intro ?_ ?_))) <;> (try (conv => lhs; whnf))
  case' fix1_ => (repeat' (first | with_reducible exact True.intro | with_reducible refine And.intro ?_ ?_ | with_reducible refine Head.mk ?_ ?_ ?_ ?_ | ((conv => lhs; whnf); first | with_reducible rfl | with_reducible exact vInt_s (by omega) | exact rfl) | ((conv => whnf); first | with_reducible exact True.intro | with_reducible refine And.intro ?_ ?_))) <;> (try (conv => lhs; whnf))
  · exact Nat.zero_le _
  rintro k g_ o_ v_ hk
  (repeat' (first | with_reducible exact True.intro | with_reducible refine st_seq ?_ | (with_reducible refine st_regionG hG_ ?_; intro K_ hK_) | (with_reducible refine st_region ?_; intro K_ hK_) | (with_reducible refine hK_ _ _ ?_; try clear hK_ K_) | ((with_reducible refine st_cond (b := ?b_) ?hb_ ?_ ?_); case hb_ => rfl) | with_reducible refine sq_n ?_ | with_reducible refine sq_r ?_ | with_reducible refine sq_e ?_ | with_reducible refine bq_n ?_ | with_reducible refine bq_r ?_ | with_reducible refine bq_q ?_ | with_reducible refine st_block ?_ | with_reducible refine st_exit ?_ | with_reducible refine st_ret ?_ | with_reducible refine st_skip ?_ | with_reducible refine gq_n ?_ | with_reducible refine gq_r ?_ | with_reducible refine gq_e ?_ | with_reducible refine lq_n ?_ | with_reducible refine lq_r ?_ | with_reducible refine lq_e ?_ | with_reducible refine bq_e (by decide) ?_ | ((conv => whnf); first | (with_reducible refine hK_ _ _ ?_; try clear hK_ K_) | (with_reducible refine fun (g_ : Sl) (o_ : Ow) => ?_) | with_reducible exact True.intro | with_reducible refine And.intro trivial ?_ | with_reducible refine And.intro ?_ ?_ | exact Nat.le_of_ble_eq_true rfl | exact Or.inl rfl | (intro h_; cases h_) | (intro h_; (try simp only [cond_true, cond_false, decide_eq_true_eq, decide_eq_false_iff_not, Bool.not_eq_true', Bool.not_eq_false', Int.toNat_natCast, prodEta] at h_)) | rfl))) <;> (try (conv => whnf)) <;> (try first | change (_ : Int) ≤ _ | change (_ : Nat) ≤ _) <;> (try ((fail_if_success (with_reducible apply Exists.intro)); (try dsimp only); (try simp only [cond_true, cond_false, decide_eq_true_eq, decide_eq_false_iff_not, Bool.not_eq_true', Bool.not_eq_false', Int.toNat_natCast, prodEta]))) <;> (try simp (disch := omega) only [ptEq2, cond_true, cond_false, decide_eq_true_eq, decide_eq_false_iff_not, List.length_drop, List.take_length, Int.toNat_zero, List.drop_zero, Nat.zero_add, List.nil_append, mod_nat1, mod_nat2, tm1, tm2, tmj, W_in, Int.add_sub_cancel, tn1, tnp, tnc, List.length_append, List.length_take, List.length_replicate, List.length_set, List.length_map, List.length_cons, List.length_nil, prodEta, Int.toNat_natCast, beq_iff_eq, beq_eq_false_iff_ne, bne_iff_ne, bne_eq_false_iff_eq, ne_eq, Int.natCast_inj, Int.ofNat_lt, Int.ofNat_le] at *)
  all_goals (try (fail_if_success (with_reducible apply Exists.intro)); first | with_reducible assumption | omega | exact mdl (by omega) | exact ilo1 (by omega) | exact ilo2 (by omega) | exact ihi1 (by omega) (by omega) | exact ihi2 (by omega) (by omega))
  · exact room_pt hr (by omega)
  · refine ⟨k + 1, by omega, by omega, ?_⟩
    (repeat' (first | with_reducible exact True.intro | with_reducible refine And.intro ?_ ?_ | with_reducible refine Head.mk ?_ ?_ ?_ ?_ | ((conv => lhs; whnf); first | with_reducible rfl | with_reducible exact vInt_s (by omega) | exact rfl) | ((conv => whnf); first | with_reducible exact True.intro | with_reducible refine And.intro ?_ ?_))) <;> (try (conv => lhs; whnf))
    exact congrArg (Own.row _ _) (map_take_succ' (fun c => seesS xs c (p, q)) (0, 0) (by assumption)).symm
  · rw [List.take_of_length_le (by omega)]; rfl
/-! ### Witnesses -/
def witM (xs l : List Pt) : Bool := decide (l.length ≤ 10) && (allInM xs l && (List.range xs.length).all fun k => (List.range l.length).all fun i => (List.range i).all fun j => !(seesS xs (pAt xs k) (pAt l i) && seesS xs (pAt xs k) (pAt l j)))
theorem witM_iff {xs l : List Pt} : witM xs l = true ↔ l.length ≤ 10 ∧ allInM xs l = true ∧ ∀ k, k < xs.length → ∀ i, i < l.length → ∀ j, j < i → ¬ (seesS xs (pAt xs k) (pAt l i) = true ∧ seesS xs (pAt xs k) (pAt l j) = true) := by
  unfold witM
  simp only [Bool.and_eq_true, decide_eq_true_eq, List.all_eq_true, List.mem_range, Bool.not_eq_true']
  refine and_congr_right fun _ => and_congr_right fun _ => forall_congr' fun k => forall_congr' fun _ => forall_congr' fun i => forall_congr' fun _ => forall_congr' fun j => forall_congr' fun _ => ?_
  rw [← Bool.not_eq_true, Bool.and_eq_true]
def witC : Con := mkCon [.room, .sl (.b .pt)] (fun x => x.1.length ≤ 1048576 ∧ x.2.1.length ≤ 1048576) fun x => vB (witM x.1 x.2.1)
/-- The corners that see one of the first i points. -/
def seenBef (xs l : List Pt) (i : Nat) : List Bool := xs.map fun c => (l.take i).any fun p => seesS xs c p
theorem seenBef_len (xs l : List Pt) (i : Nat) : (seenBef xs l i).length = xs.length := List.length_map _
theorem seenBef_get {xs l : List Pt} {i k : Nat} (h : k < xs.length) : (seenBef xs l i).getD k false = (l.take i).any fun p => seesS xs (pAt xs k) p := by
  unfold seenBef
  rw [getD_lt _ (by simpa using h), List.getElem_map, show pAt xs k = xs[k] from getD_lt _ h]
theorem seenBef_zero (xs l : List Pt) : seenBef xs l 0 = List.replicate xs.length false := by
  unfold seenBef
  exact List.ext_getElem (by simp) fun j h1 h2 => by simp
theorem seenBef_succ {xs l : List Pt} {i k : Nat} (h : k < xs.length) (hi : i < l.length) : (seenBef xs l (i + 1)).getD k false = ((seenBef xs l i).getD k false || seesS xs (pAt xs k) (pAt l i)) := by
  rw [seenBef_get h, seenBef_get h, any_succ (0, 0) hi]
theorem take_any_ex {l : List Pt} {f : Pt → Bool} {i : Nat} (hi : i ≤ l.length) : (l.take i).any f = true ↔ ∃ j, j < i ∧ f (pAt l j) = true := by
  rw [List.any_eq_true]
  constructor
  · rintro ⟨x, hx, hf⟩
    obtain ⟨j, hj, rfl⟩ := List.getElem_of_mem hx
    rw [List.length_take] at hj
    rw [List.getElem_take] at hf
    exact ⟨j, by omega, by rw [show pAt l j = l[j] from getD_lt _ (by omega)]; exact hf⟩
  · rintro ⟨j, hj, hf⟩
    refine ⟨pAt l j, ?_, hf⟩
    rw [show pAt l j = l[j] from getD_lt _ (by omega), List.mem_iff_getElem]
    exact ⟨j, by rw [List.length_take]; omega, List.getElem_take⟩
/-- Part of a row is already the next one. -/
theorem mix_getD {α : Type} {A B : List α} {k j : Nat} {d : α} (hA : k ≤ A.length) (hB : B.length = A.length) : (A.take k ++ B.drop k).getD j d = if j < k then A.getD j d else B.getD j d := by
  rw [List.getD_eq_getElem?_getD, List.getD_eq_getElem?_getD, List.getD_eq_getElem?_getD]
  split
  · rename_i h
    rw [List.getElem?_append_left (by simp; omega), List.getElem?_take, if_pos h]
  · rename_i h
    rw [List.getElem?_append_right (by simp; omega), List.length_take, Nat.min_eq_left hA, List.getElem?_drop, show k + (j - k) = j by omega]
theorem mix_put {α : Type} {xs ys : List α} {k : Nat} (h : k < xs.length) (hl : xs.length = ys.length) (d : α) : (ys.take k ++ xs.drop k).set k (ys.getD k d) = ys.take (k + 1) ++ xs.drop (k + 1) := by
  rw [List.set_append_right _ _ (by simp; omega), List.take_succ_eq_append_getElem (by omega), getD_lt _ (by omega), List.append_assoc]
  congr 1
  rw [List.length_take, Nat.min_eq_left (by omega), Nat.sub_self, List.drop_eq_getElem_cons h]
  rfl
theorem wit_get {xs l : List Pt} {i k : Nat} (h1 : k ≤ xs.length) (h2 : True) (hk : k < xs.length) : ((seenBef xs l (i + 1)).take k ++ (seenBef xs l i).drop k).getD k false = (seenBef xs l i).getD k false := by
  rw [mix_getD (by rw [seenBef_len]; omega) (by rw [seenBef_len, seenBef_len]), if_neg (by omega)]
theorem wit_set {xs l : List Pt} {i k : Nat} {b : Bool} (h1 : True) (hk : k < xs.length) (hi : i < l.length) (e : b = ((seenBef xs l i).getD k false || seesS xs (pAt xs k) (pAt l i))) : ((seenBef xs l (i + 1)).take k ++ (seenBef xs l i).drop k).set k b = (seenBef xs l (i + 1)).take (k + 1) ++ (seenBef xs l i).drop (k + 1) := by
  rw [e, ← seenBef_succ hk hi, mix_put (by rw [seenBef_len]; exact hk) (by rw [seenBef_len, seenBef_len])]
theorem mix_len {α : Type} {A B : List α} {k : Nat} (hA : k ≤ A.length) (hB : B.length = A.length) : (A.take k ++ B.drop k).length = A.length := by simp; omega
theorem iAreWitnesses_ok : Good1 Try.prog n_impl_AreWitnesses witC := by
  refine good_ofG (tys := tyL) (env := [(n_impl_allIn, allInC), (n_impl_sightOf, sightC)]) (envw := []) [] [] [] mixed tys ⟨allIn_ok, sightOf_ok, trivial⟩ trivial Try.func18 rfl (by kernel_rfl) (by decide) (by kernel_rfl) ?_
  have hG_ := kpz [(0, [1, 2]), (1, [1, 2, 18]), (2, [4]), (3, [1, 2, 5]), (4, [2, 5, 23, 24, 25]), (5, [2, 5, 23, 24, 25, 26]), (6, [2, 5, 7, 23, 24, 25]), (7, [2, 5, 23, 24, 25, 31, 32, 33]), (8, [2, 5, 23, 24, 25, 31, 32, 33, 34]), (9, [2, 5, 8, 9, 23, 24, 25, 31, 32, 33]), (10, [2, 5, 8, 9, 23, 24, 25, 31, 32, 33, 44]), (11, [4]), (12, [2, 5, 23, 24, 25, 31, 32, 33]), (13, [2, 5, 23, 24, 25, 31, 32, 33]), (14, [2, 5, 23, 24, 25]), (15, [4])] [(3, [22]), (4, [22]), (5, [22]), (6, [7, 22]), (7, [22]), (8, [22]), (9, [22]), (10, [22]), (11, [22]), (12, [22]), (13, [22]), (14, [22]), (15, [22])] [] []
  rintro ⟨(xs : List Pt), (l : List Pt), ⟨⟩⟩ ⟨(h1 : xs.length ≤ _), (h2 : l.length ≤ _)⟩
  (repeat' (first | with_reducible exact True.intro | with_reducible refine st_seq ?_ | (with_reducible refine st_regionG hG_ ?_; intro K_ hK_) | (with_reducible refine st_region ?_; intro K_ hK_) | (with_reducible refine hK_ _ _ ?_; try clear hK_ K_) | ((with_reducible refine st_cond (b := ?b_) ?hb_ ?_ ?_); case hb_ => rfl) | with_reducible refine sq_n ?_ | with_reducible refine sq_r ?_ | with_reducible refine sq_e ?_ | with_reducible refine bq_n ?_ | with_reducible refine bq_r ?_ | with_reducible refine bq_q ?_ | with_reducible refine st_block ?_ | with_reducible refine st_exit ?_ | with_reducible refine st_ret ?_ | with_reducible refine st_skip ?_ | with_reducible refine gq_n ?_ | with_reducible refine gq_r ?_ | with_reducible refine gq_e ?_ | with_reducible refine lq_n ?_ | with_reducible refine lq_r ?_ | with_reducible refine lq_e ?_ | with_reducible refine bq_e (by decide) ?_ | ((conv => whnf); first | (with_reducible refine hK_ _ _ ?_; try clear hK_ K_) | (with_reducible refine fun (g_ : Sl) (o_ : Ow) => ?_) | with_reducible exact True.intro | with_reducible refine And.intro trivial ?_ | with_reducible refine And.intro ?_ ?_ | exact Nat.le_of_ble_eq_true rfl | exact Or.inl rfl | (intro h_; cases h_) | (intro h_; (try simp only [cond_true, cond_false, decide_eq_true_eq, decide_eq_false_iff_not, Bool.not_eq_true', Bool.not_eq_false', Int.toNat_natCast, prodEta] at h_)) | rfl))) <;> (try (conv => whnf)) <;> (try first | change (_ : Int) ≤ _ | change (_ : Nat) ≤ _) <;> (try ((fail_if_success (with_reducible apply Exists.intro)); (try dsimp only); (try simp only [cond_true, cond_false, decide_eq_true_eq, decide_eq_false_iff_not, Bool.not_eq_true', Bool.not_eq_false', Int.toNat_natCast, prodEta]))) <;> (try simp (disch := omega) only [ptEq2, cond_true, cond_false, decide_eq_true_eq, decide_eq_false_iff_not, List.length_drop, List.take_length, Int.toNat_zero, List.drop_zero, Nat.zero_add, List.nil_append, mod_nat1, mod_nat2, tm1, tm2, tmj, W_in, Int.add_sub_cancel, tn1, tnp, tnc, List.length_append, List.length_take, List.length_replicate, List.length_set, List.length_map, List.length_cons, List.length_nil, prodEta, Int.toNat_natCast, beq_iff_eq, beq_eq_false_iff_ne, bne_iff_ne, bne_eq_false_iff_eq, ne_eq, Int.natCast_inj, Int.ofNat_lt, Int.ofNat_le] at *)
  all_goals (try (fail_if_success (with_reducible apply Exists.intro)); first | with_reducible assumption | omega | exact mdl (by omega) | exact ilo1 (by omega) | exact ilo2 (by omega) | exact ihi1 (by omega) (by omega) | exact ihi2 (by omega) (by omega))
  · exact eq_false_of fun hc => by have := (witM_iff.1 hc).1; omega
  · exact eq_false_of fun hc => by have h := (witM_iff.1 hc).2.1; rw [‹allInM xs l = false›] at h; cases h
  have hin : allInM xs l = true := by assumption
  have hr := (allIn_iff.1 hin).1
  have h10 : l.length ≤ 10 := by omega
  have hlr := (room_len hr).2
  refine awp'_loopG (α := Nat) (fun i ver_ => [(25, vInt i)]) (fun i ver_ => [(5, 22, false, .row t_bool (.b .bool) (seenBef xs l i))]) (fun i ver_ => []) (fun i => i ≤ l.length ∧ ∀ k, k < xs.length → ∀ i', i' < i → ∀ j, j < i' → ¬ (seesS xs (pAt xs k) (pAt l i') = true ∧ seesS xs (pAt xs k) (pAt l j) = true)) (fun i => l.length - i) [2, 23, 24] [] (0) ?_
  conv => whnf
  refine ⟨⟨?inv2_, ?vals2_, ?own2_, ?fix2_⟩, ?body2_⟩
  case' vals2_ => (repeat' (first | with_reducible exact True.intro | with_reducible refine And.intro ?_ ?_ | with_reducible refine Head.mk ?_ ?_ ?_ ?_ | ((conv => lhs; whnf); first | with_reducible rfl | with_reducible exact vInt_s (by omega) | exact rfl) | ((conv => whnf); first | with_reducible exact True.intro | with_reducible refine And.intro ?_ ?_))) <;> (try (conv => lhs; whnf))
  case' own2_ => (repeat' (first | with_reducible exact True.intro | with_reducible refine And.intro ?_ ?_ | with_reducible refine Head.mk ?_ ?_ ?_ ?_ | ((conv => lhs; whnf); first | with_reducible rfl | with_reducible exact vInt_s (by omega) | exact rfl) | ((conv => whnf); first | with_reducible exact True.intro | with_reducible refine And.intro ?_ ?_))) <;> (try (conv => lhs; whnf))
  case' fix2_ => (repeat' (first | with_reducible exact True.intro | with_reducible refine And.intro ?_ ?_ | with_reducible refine Head.mk ?_ ?_ ?_ ?_ | ((conv => lhs; whnf); first | with_reducible rfl | with_reducible exact vInt_s (by omega) | exact rfl) | ((conv => whnf); first | with_reducible exact True.intro | with_reducible refine And.intro ?_ ?_))) <;> (try (conv => lhs; whnf))
  · exact congrArg (Own.row _ _) (seenBef_zero xs l).symm
  · exact ⟨Nat.zero_le _, fun k hk i' hi => absurd hi (by omega)⟩
  rintro i g_ o_ v_ ⟨hi, hall⟩
  have hsl := seenBef_len xs l i
  (repeat' (first | with_reducible exact True.intro | with_reducible refine st_seq ?_ | (with_reducible refine st_regionG hG_ ?_; intro K_ hK_) | (with_reducible refine st_region ?_; intro K_ hK_) | (with_reducible refine hK_ _ _ ?_; try clear hK_ K_) | ((with_reducible refine st_cond (b := ?b_) ?hb_ ?_ ?_); case hb_ => rfl) | with_reducible refine sq_n ?_ | with_reducible refine sq_r ?_ | with_reducible refine sq_e ?_ | with_reducible refine bq_n ?_ | with_reducible refine bq_r ?_ | with_reducible refine bq_q ?_ | with_reducible refine st_block ?_ | with_reducible refine st_exit ?_ | with_reducible refine st_ret ?_ | with_reducible refine st_skip ?_ | with_reducible refine gq_n ?_ | with_reducible refine gq_r ?_ | with_reducible refine gq_e ?_ | with_reducible refine lq_n ?_ | with_reducible refine lq_r ?_ | with_reducible refine lq_e ?_ | with_reducible refine bq_e (by decide) ?_ | ((conv => whnf); first | (with_reducible refine hK_ _ _ ?_; try clear hK_ K_) | (with_reducible refine fun (g_ : Sl) (o_ : Ow) => ?_) | with_reducible exact True.intro | with_reducible refine And.intro trivial ?_ | with_reducible refine And.intro ?_ ?_ | exact Nat.le_of_ble_eq_true rfl | exact Or.inl rfl | (intro h_; cases h_) | (intro h_; (try simp only [cond_true, cond_false, decide_eq_true_eq, decide_eq_false_iff_not, Bool.not_eq_true', Bool.not_eq_false', Int.toNat_natCast, prodEta] at h_)) | rfl))) <;> (try (conv => whnf)) <;> (try first | change (_ : Int) ≤ _ | change (_ : Nat) ≤ _) <;> (try ((fail_if_success (with_reducible apply Exists.intro)); (try dsimp only); (try simp only [cond_true, cond_false, decide_eq_true_eq, decide_eq_false_iff_not, Bool.not_eq_true', Bool.not_eq_false', Int.toNat_natCast, prodEta]))) <;> (try simp (disch := omega) only [ptEq2, cond_true, cond_false, decide_eq_true_eq, decide_eq_false_iff_not, List.length_drop, List.take_length, Int.toNat_zero, List.drop_zero, Nat.zero_add, List.nil_append, mod_nat1, mod_nat2, tm1, tm2, tmj, W_in, Int.add_sub_cancel, tn1, tnp, tnc, List.length_append, List.length_take, List.length_replicate, List.length_set, List.length_map, List.length_cons, List.length_nil, prodEta, Int.toNat_natCast, beq_iff_eq, beq_eq_false_iff_ne, bne_iff_ne, bne_eq_false_iff_eq, ne_eq, Int.natCast_inj, Int.ofNat_lt, Int.ofNat_le] at *)
  all_goals (try (fail_if_success (with_reducible apply Exists.intro)); first | with_reducible assumption | omega | exact mdl (by omega) | exact ilo1 (by omega) | exact ilo2 (by omega) | exact ihi1 (by omega) (by omega) | exact ihi2 (by omega) (by omega))
  · exact allIn_pt hin (by omega)
  have hgl := sightM_len xs (pAt l i)
  have hsl2 := seenBef_len xs l (i + 1)
  refine awp'_loopG (α := Nat) (fun k ver_ => [(33, vInt k)]) (fun k ver_ => [(5, 22, false, .row t_bool (.b .bool) ((seenBef xs l (i + 1)).take k ++ (seenBef xs l i).drop k))]) (fun k ver_ => []) (fun k => k ≤ xs.length ∧ ∀ k', k' < k → ∀ j, j < i → ¬ (seesS xs (pAt xs k') (pAt l i) = true ∧ seesS xs (pAt xs k') (pAt l j) = true)) (fun k => xs.length - k) [2, 23, 24, 25, 31, 32] [] (0) ?_
  conv => whnf
  refine ⟨⟨?inv3_, ?vals3_, ?own3_, ?fix3_⟩, ?body3_⟩
  case' vals3_ => (repeat' (first | with_reducible exact True.intro | with_reducible refine And.intro ?_ ?_ | with_reducible refine Head.mk ?_ ?_ ?_ ?_ | ((conv => lhs; whnf); first | with_reducible rfl | with_reducible exact vInt_s (by omega) | exact rfl) | ((conv => whnf); first | with_reducible exact True.intro | with_reducible refine And.intro ?_ ?_))) <;> (try (conv => lhs; whnf))
  case' own3_ => (repeat' (first | with_reducible exact True.intro | with_reducible refine And.intro ?_ ?_ | with_reducible refine Head.mk ?_ ?_ ?_ ?_ | ((conv => lhs; whnf); first | with_reducible rfl | with_reducible exact vInt_s (by omega) | exact rfl) | ((conv => whnf); first | with_reducible exact True.intro | with_reducible refine And.intro ?_ ?_))) <;> (try (conv => lhs; whnf))
  case' fix3_ => (repeat' (first | with_reducible exact True.intro | with_reducible refine And.intro ?_ ?_ | with_reducible refine Head.mk ?_ ?_ ?_ ?_ | ((conv => lhs; whnf); first | with_reducible rfl | with_reducible exact vInt_s (by omega) | exact rfl) | ((conv => whnf); first | with_reducible exact True.intro | with_reducible refine And.intro ?_ ?_))) <;> (try (conv => lhs; whnf))
  · exact ⟨Nat.zero_le _, fun k hk => absurd hk (by omega)⟩
  rintro k g_ o_ v_ ⟨hk, hallk⟩
  (repeat' (first | with_reducible exact True.intro | with_reducible refine st_seq ?_ | (with_reducible refine st_regionG hG_ ?_; intro K_ hK_) | (with_reducible refine st_region ?_; intro K_ hK_) | (with_reducible refine hK_ _ _ ?_; try clear hK_ K_) | ((with_reducible refine st_cond (b := ?b_) ?hb_ ?_ ?_); case hb_ => rfl) | with_reducible refine sq_n ?_ | with_reducible refine sq_r ?_ | with_reducible refine sq_e ?_ | with_reducible refine bq_n ?_ | with_reducible refine bq_r ?_ | with_reducible refine bq_q ?_ | with_reducible refine st_block ?_ | with_reducible refine st_exit ?_ | with_reducible refine st_ret ?_ | with_reducible refine st_skip ?_ | with_reducible refine gq_n ?_ | with_reducible refine gq_r ?_ | with_reducible refine gq_e ?_ | with_reducible refine lq_n ?_ | with_reducible refine lq_r ?_ | with_reducible refine lq_e ?_ | with_reducible refine bq_e (by decide) ?_ | ((conv => whnf); first | (with_reducible refine hK_ _ _ ?_; try clear hK_ K_) | (with_reducible refine fun (g_ : Sl) (o_ : Ow) => ?_) | with_reducible exact True.intro | with_reducible refine And.intro trivial ?_ | with_reducible refine And.intro ?_ ?_ | exact Nat.le_of_ble_eq_true rfl | exact Or.inl rfl | (intro h_; cases h_) | (intro h_; (try simp only [cond_true, cond_false, decide_eq_true_eq, decide_eq_false_iff_not, Bool.not_eq_true', Bool.not_eq_false', Int.toNat_natCast, prodEta] at h_)) | rfl))) <;> (try (conv => whnf)) <;> (try first | change (_ : Int) ≤ _ | change (_ : Nat) ≤ _) <;> (try ((fail_if_success (with_reducible apply Exists.intro)); (try dsimp only); (try simp only [cond_true, cond_false, decide_eq_true_eq, decide_eq_false_iff_not, Bool.not_eq_true', Bool.not_eq_false', Int.toNat_natCast, prodEta]))) <;> (try simp (disch := omega) only [ptEq2, cond_true, cond_false, decide_eq_true_eq, decide_eq_false_iff_not, List.length_drop, List.take_length, Int.toNat_zero, List.drop_zero, Nat.zero_add, List.nil_append, mod_nat1, mod_nat2, tm1, tm2, tmj, W_in, Int.add_sub_cancel, tn1, tnp, tnc, List.length_append, List.length_take, List.length_replicate, List.length_set, List.length_map, List.length_cons, List.length_nil, prodEta, Int.toNat_natCast, beq_iff_eq, beq_eq_false_iff_ne, bne_iff_ne, bne_eq_false_iff_eq, ne_eq, Int.natCast_inj, Int.ofNat_lt, Int.ofNat_le] at *) <;> (try simp only [sightM_len, seenBef_len] at *)
  all_goals (try (fail_if_success (with_reducible apply Exists.intro)); first | with_reducible assumption | omega | exact mdl (by omega) | exact ilo1 (by omega) | exact ilo2 (by omega) | exact ihi1 (by omega) (by omega) | exact ihi2 (by omega) (by omega))
  all_goals (try (have hkn : k < xs.length := by omega))
  all_goals (try (have hS : ∀ b, (sightM xs (l.getD i (ElK.b ElB.pt).dflt)).getD k (ElK.b ElB.bool).dflt = b → seesS xs (pAt xs k) (pAt l i) = b := fun b h => (sightM_get hkn).symm.trans h))
  all_goals (try (have hM : ∀ b, ((seenBef xs l (i + 1)).take k ++ (seenBef xs l i).drop k).getD k (ElK.b ElB.bool).dflt = b → (seenBef xs l i).getD k false = b := fun b h => (wit_get (by omega) trivial hkn).symm.trans h))
  · refine eq_false_of fun hc => ?_
    have h2 := hM _ ‹(List.take k _ ++ _).getD k _ = true›
    rw [seenBef_get hkn] at h2
    obtain ⟨j, hj, hs⟩ := (take_any_ex (by omega)).1 h2
    exact (witM_iff.1 hc).2.2 k hkn i (by omega) j hj ⟨hS _ (by assumption), hs⟩
  · exact absurd ((‹(List.take k _ ++ _).getD k _ = true›).symm.trans ‹(List.take k _ ++ _).getD k _ = false›) (by decide)
  · refine ⟨k + 1, by omega, ⟨by omega, lt_succ_all hallk fun j hj hc => ?_⟩, ?_⟩
    · have h2 := hM _ ‹(List.take k _ ++ _).getD k _ = false›
      rw [seenBef_get hkn, ← Bool.not_eq_true] at h2
      exact h2 ((take_any_ex (by omega)).2 ⟨j, hj, hc.2⟩)
    · (repeat' (first | with_reducible exact True.intro | with_reducible refine And.intro ?_ ?_ | with_reducible refine Head.mk ?_ ?_ ?_ ?_ | ((conv => lhs; whnf); first | with_reducible rfl | with_reducible exact vInt_s (by omega) | exact rfl) | ((conv => whnf); first | with_reducible exact True.intro | with_reducible refine And.intro ?_ ?_))) <;> (try (conv => lhs; whnf))
      exact congrArg (Own.row _ _) (wit_set trivial hkn (by omega) (by rw [hS true (by assumption), Bool.or_true]; assumption))
  · refine ⟨k + 1, by omega, ⟨by omega, lt_succ_all hallk fun j hj hc => ?_⟩, ?_⟩
    · have := hS _ (by assumption); rw [this] at hc; exact absurd hc.1 (by decide)
    · (repeat' (first | with_reducible exact True.intro | with_reducible refine And.intro ?_ ?_ | with_reducible refine Head.mk ?_ ?_ ?_ ?_ | ((conv => lhs; whnf); first | with_reducible rfl | with_reducible exact vInt_s (by omega) | exact rfl) | ((conv => whnf); first | with_reducible exact True.intro | with_reducible refine And.intro ?_ ?_))) <;> (try (conv => lhs; whnf))
      exact congrArg (Own.row _ _) (wit_set trivial hkn (by omega) (by rw [hM _ (by assumption), Bool.true_or]))
  · refine ⟨k + 1, by omega, ⟨by omega, lt_succ_all hallk fun j hj hc => ?_⟩, ?_⟩
    · have := hS _ (by assumption); rw [this] at hc; exact absurd hc.1 (by decide)
    · (repeat' (first | with_reducible exact True.intro | with_reducible refine And.intro ?_ ?_ | with_reducible refine Head.mk ?_ ?_ ?_ ?_ | ((conv => lhs; whnf); first | with_reducible rfl | with_reducible exact vInt_s (by omega) | exact rfl) | ((conv => whnf); first | with_reducible exact True.intro | with_reducible refine And.intro ?_ ?_))) <;> (try (conv => lhs; whnf))
      exact congrArg (Own.row _ _) (wit_set trivial hkn (by omega) (by rw [hM _ ‹(List.take k _ ++ _).getD k _ = false›, Bool.false_or]; first | exact (hS _ rfl).symm | exact (hS _ (by assumption)).symm))
  · refine ⟨i + 1, by omega, ⟨by omega, fun k' hk' => lt_succ_all (hall k' hk') (hallk k' (by omega))⟩, ?_⟩
    (repeat' (first | with_reducible exact True.intro | with_reducible refine And.intro ?_ ?_ | with_reducible refine Head.mk ?_ ?_ ?_ ?_ | ((conv => lhs; whnf); first | with_reducible rfl | with_reducible exact vInt_s (by omega) | exact rfl) | ((conv => whnf); first | with_reducible exact True.intro | with_reducible refine And.intro ?_ ?_))) <;> (try (conv => lhs; whnf))
    exact congrArg (Own.row _ _) (by rw [List.take_of_length_le (by rw [seenBef_len]; omega), List.drop_eq_nil_of_le (by rw [seenBef_len]; omega), List.append_nil])
  · exact eq_true_of (witM_iff.2 ⟨h10, hin, fun k hk i' hi' => hall k hk i' (by omega)⟩)
def cntTo (xs l : List Pt) (k : Nat) : Nat → Int
  | 0 => 0
  | i + 1 => if seesS xs (pAt xs k) (pAt l i) then cntTo xs l k i + 1 else cntTo xs l k i
theorem cntTo_bd (xs l : List Pt) (k : Nat) : ∀ i, 0 ≤ cntTo xs l k i ∧ cntTo xs l k i ≤ i
  | 0 => by simp [cntTo]
  | i + 1 => by
    have := cntTo_bd xs l k i
    unfold cntTo
    split <;> omega
theorem cntTo_zero {xs l : List Pt} {k : Nat} : ∀ {i : Nat}, cntTo xs l k i = 0 ↔ ∀ j, j < i → ¬ seesS xs (pAt xs k) (pAt l j) = true
  | 0 => by simp [cntTo]
  | i + 1 => by
    have h := cntTo_zero (xs := xs) (l := l) (k := k) (i := i)
    have hb := cntTo_bd xs l k i
    unfold cntTo
    split
    · rename_i hs
      constructor
      · intro h; omega
      · intro h; exact absurd hs (h i (by omega))
    · rename_i hs
      rw [h]
      exact ⟨fun h => lt_succ_all h hs, fun h j hj => h j (by omega)⟩
theorem cntTo_one {xs l : List Pt} {k : Nat} : ∀ {i : Nat}, cntTo xs l k i ≤ 1 ↔ ∀ i', i' < i → ∀ j, j < i' → ¬ (seesS xs (pAt xs k) (pAt l i') = true ∧ seesS xs (pAt xs k) (pAt l j) = true)
  | 0 => by simp [cntTo]
  | i + 1 => by
    have h := cntTo_one (xs := xs) (l := l) (k := k) (i := i)
    have h0 := cntTo_zero (xs := xs) (l := l) (k := k) (i := i)
    have hb := cntTo_bd xs l k i
    unfold cntTo
    split
    · rename_i hs
      constructor
      · intro h1
        exact lt_succ_all (h.1 (by omega)) fun j hj hc => h0.1 (by omega) j hj hc.2
      · intro h1
        have := h0.2 fun j hj hc => h1 i (by omega) j hj ⟨hs, hc⟩
        omega
    · rename_i hs
      constructor
      · intro h1
        exact lt_succ_all (h.1 h1) fun j hj hc => hs hc.1
      · intro h1
        exact h.2 fun i' hi' => h1 i' (by omega)
theorem sAreWitnesses_ok : Good1 Try.prog n_spec_AreWitnesses witC := by
  refine good_ofG (tys := tyL) (env := [(n_spec_l13In, allInC), (n_spec_l08Sees, l08SeesC)]) (envw := []) [] [] [] mixed tys ⟨l13In_ok, l08Sees_ok, trivial⟩ trivial Try.func15 rfl (by kernel_rfl) (by decide) (by kernel_rfl) ?_
  have hG_ := kpz [(0, [1, 2]), (1, [1, 2, 16]), (2, [4]), (3, [1, 2, 5]), (4, [1, 2, 5, 21]), (5, [1, 2, 5]), (6, [1, 2, 5, 6]), (7, [1, 2, 5, 6, 7]), (8, [1, 2, 5, 6, 7, 27]), (9, [1, 2, 5, 6, 7]), (10, [1, 2, 5, 6, 7, 41]), (11, [1, 2, 5, 6, 7]), (12, [1, 2, 5, 45]), (13, [4]), (14, [4])] [] [] []
  rintro ⟨(xs : List Pt), (l : List Pt), ⟨⟩⟩ ⟨(h1 : xs.length ≤ _), (h2 : l.length ≤ _)⟩
  (repeat' (first | with_reducible exact True.intro | with_reducible refine st_seq ?_ | (with_reducible refine st_regionG hG_ ?_; intro K_ hK_) | (with_reducible refine st_region ?_; intro K_ hK_) | (with_reducible refine hK_ _ _ ?_; try clear hK_ K_) | ((with_reducible refine st_cond (b := ?b_) ?hb_ ?_ ?_); case hb_ => rfl) | with_reducible refine sq_n ?_ | with_reducible refine sq_r ?_ | with_reducible refine sq_e ?_ | with_reducible refine bq_n ?_ | with_reducible refine bq_r ?_ | with_reducible refine bq_q ?_ | with_reducible refine st_block ?_ | with_reducible refine st_exit ?_ | with_reducible refine st_ret ?_ | with_reducible refine st_skip ?_ | with_reducible refine gq_n ?_ | with_reducible refine gq_r ?_ | with_reducible refine gq_e ?_ | with_reducible refine lq_n ?_ | with_reducible refine lq_r ?_ | with_reducible refine lq_e ?_ | with_reducible refine bq_e (by decide) ?_ | ((conv => whnf); first | (with_reducible refine hK_ _ _ ?_; try clear hK_ K_) | (with_reducible refine fun (g_ : Sl) (o_ : Ow) => ?_) | with_reducible exact True.intro | with_reducible refine And.intro trivial ?_ | with_reducible refine And.intro ?_ ?_ | exact Nat.le_of_ble_eq_true rfl | exact Or.inl rfl | (intro h_; cases h_) | (intro h_; (try simp only [cond_true, cond_false, decide_eq_true_eq, decide_eq_false_iff_not, Bool.not_eq_true', Bool.not_eq_false', Int.toNat_natCast, prodEta] at h_)) | rfl))) <;> (try (conv => whnf)) <;> (try first | change (_ : Int) ≤ _ | change (_ : Nat) ≤ _) <;> (try ((fail_if_success (with_reducible apply Exists.intro)); (try dsimp only); (try simp only [cond_true, cond_false, decide_eq_true_eq, decide_eq_false_iff_not, Bool.not_eq_true', Bool.not_eq_false', Int.toNat_natCast, prodEta]))) <;> (try simp (disch := omega) only [ptEq2, cond_true, cond_false, decide_eq_true_eq, decide_eq_false_iff_not, List.length_drop, List.take_length, Int.toNat_zero, List.drop_zero, Nat.zero_add, List.nil_append, mod_nat1, mod_nat2, tm1, tm2, tmj, W_in, Int.add_sub_cancel, tn1, tnp, tnc, List.length_append, List.length_take, List.length_replicate, List.length_set, List.length_map, List.length_cons, List.length_nil, prodEta, Int.toNat_natCast, beq_iff_eq, beq_eq_false_iff_ne, bne_iff_ne, bne_eq_false_iff_eq, ne_eq, Int.natCast_inj, Int.ofNat_lt, Int.ofNat_le] at *)
  all_goals (try (fail_if_success (with_reducible apply Exists.intro)); first | with_reducible assumption | omega | exact mdl (by omega) | exact ilo1 (by omega) | exact ilo2 (by omega) | exact ihi1 (by omega) (by omega) | exact ihi2 (by omega) (by omega))
  · exact eq_false_of fun hc => by have h := (witM_iff.1 hc).2.1; rw [‹allInM xs l = false›] at h; cases h
  · exact eq_false_of fun hc => by have := (witM_iff.1 hc).1; omega
  have hin : allInM xs l = true := by assumption
  have hr := (allIn_iff.1 hin).1
  have h10 : l.length ≤ 10 := by omega
  have hlr := (room_len hr).2
  refine awp'_loopG (α := Nat) (fun k ver_ => [(5, vInt k)]) (fun k ver_ => []) (fun k ver_ => []) (fun k => k ≤ xs.length ∧ ∀ k', k' < k → cntTo xs l k' l.length ≤ 1) (fun k => xs.length - k) [1, 2] [] (0) ?_
  conv => whnf
  refine ⟨⟨?inv4_, ?vals4_, ?own4_, ?fix4_⟩, ?body4_⟩
  case' vals4_ => (repeat' (first | with_reducible exact True.intro | with_reducible refine And.intro ?_ ?_ | with_reducible refine Head.mk ?_ ?_ ?_ ?_ | ((conv => lhs; whnf); first | with_reducible rfl | with_reducible exact vInt_s (by omega) | exact rfl) | ((conv => whnf); first | with_reducible exact True.intro | with_reducible refine And.intro ?_ ?_))) <;> (try (conv => lhs; whnf))
  case' own4_ => (repeat' (first | with_reducible exact True.intro | with_reducible refine And.intro ?_ ?_ | with_reducible refine Head.mk ?_ ?_ ?_ ?_ | ((conv => lhs; whnf); first | with_reducible rfl | with_reducible exact vInt_s (by omega) | exact rfl) | ((conv => whnf); first | with_reducible exact True.intro | with_reducible refine And.intro ?_ ?_))) <;> (try (conv => lhs; whnf))
  case' fix4_ => (repeat' (first | with_reducible exact True.intro | with_reducible refine And.intro ?_ ?_ | with_reducible refine Head.mk ?_ ?_ ?_ ?_ | ((conv => lhs; whnf); first | with_reducible rfl | with_reducible exact vInt_s (by omega) | exact rfl) | ((conv => whnf); first | with_reducible exact True.intro | with_reducible refine And.intro ?_ ?_))) <;> (try (conv => lhs; whnf))
  · exact ⟨Nat.zero_le _, fun k hk => absurd hk (by omega)⟩
  rintro k g_ o_ v_ ⟨hk, hall⟩
  (repeat' (first | with_reducible exact True.intro | with_reducible refine st_seq ?_ | (with_reducible refine st_regionG hG_ ?_; intro K_ hK_) | (with_reducible refine st_region ?_; intro K_ hK_) | (with_reducible refine hK_ _ _ ?_; try clear hK_ K_) | ((with_reducible refine st_cond (b := ?b_) ?hb_ ?_ ?_); case hb_ => rfl) | with_reducible refine sq_n ?_ | with_reducible refine sq_r ?_ | with_reducible refine sq_e ?_ | with_reducible refine bq_n ?_ | with_reducible refine bq_r ?_ | with_reducible refine bq_q ?_ | with_reducible refine st_block ?_ | with_reducible refine st_exit ?_ | with_reducible refine st_ret ?_ | with_reducible refine st_skip ?_ | with_reducible refine gq_n ?_ | with_reducible refine gq_r ?_ | with_reducible refine gq_e ?_ | with_reducible refine lq_n ?_ | with_reducible refine lq_r ?_ | with_reducible refine lq_e ?_ | with_reducible refine bq_e (by decide) ?_ | ((conv => whnf); first | (with_reducible refine hK_ _ _ ?_; try clear hK_ K_) | (with_reducible refine fun (g_ : Sl) (o_ : Ow) => ?_) | with_reducible exact True.intro | with_reducible refine And.intro trivial ?_ | with_reducible refine And.intro ?_ ?_ | exact Nat.le_of_ble_eq_true rfl | exact Or.inl rfl | (intro h_; cases h_) | (intro h_; (try simp only [cond_true, cond_false, decide_eq_true_eq, decide_eq_false_iff_not, Bool.not_eq_true', Bool.not_eq_false', Int.toNat_natCast, prodEta] at h_)) | rfl))) <;> (try (conv => whnf)) <;> (try first | change (_ : Int) ≤ _ | change (_ : Nat) ≤ _) <;> (try ((fail_if_success (with_reducible apply Exists.intro)); (try dsimp only); (try simp only [cond_true, cond_false, decide_eq_true_eq, decide_eq_false_iff_not, Bool.not_eq_true', Bool.not_eq_false', Int.toNat_natCast, prodEta]))) <;> (try simp (disch := omega) only [ptEq2, cond_true, cond_false, decide_eq_true_eq, decide_eq_false_iff_not, List.length_drop, List.take_length, Int.toNat_zero, List.drop_zero, Nat.zero_add, List.nil_append, mod_nat1, mod_nat2, tm1, tm2, tmj, W_in, Int.add_sub_cancel, tn1, tnp, tnc, List.length_append, List.length_take, List.length_replicate, List.length_set, List.length_map, List.length_cons, List.length_nil, prodEta, Int.toNat_natCast, beq_iff_eq, beq_eq_false_iff_ne, bne_iff_ne, bne_eq_false_iff_eq, ne_eq, Int.natCast_inj, Int.ofNat_lt, Int.ofNat_le] at *)
  all_goals (try (fail_if_success (with_reducible apply Exists.intro)); first | with_reducible assumption | omega | exact mdl (by omega) | exact ilo1 (by omega) | exact ilo2 (by omega) | exact ihi1 (by omega) (by omega) | exact ihi2 (by omega) (by omega))
  refine awp'_loopG (α := Nat) (fun i ver_ => [(7, vInt i), (6, vInt (cntTo xs l k i))]) (fun i ver_ => []) (fun i ver_ => []) (fun i => i ≤ l.length) (fun i => l.length - i) [1, 2, 5] [] (0) ?_
  conv => whnf
  refine ⟨⟨?inv5_, ?vals5_, ?own5_, ?fix5_⟩, ?body5_⟩
  case' vals5_ => (repeat' (first | with_reducible exact True.intro | with_reducible refine And.intro ?_ ?_ | with_reducible refine Head.mk ?_ ?_ ?_ ?_ | ((conv => lhs; whnf); first | with_reducible rfl | with_reducible exact vInt_s (by omega) | exact rfl) | ((conv => whnf); first | with_reducible exact True.intro | with_reducible refine And.intro ?_ ?_))) <;> (try (conv => lhs; whnf))
  case' own5_ => (repeat' (first | with_reducible exact True.intro | with_reducible refine And.intro ?_ ?_ | with_reducible refine Head.mk ?_ ?_ ?_ ?_ | ((conv => lhs; whnf); first | with_reducible rfl | with_reducible exact vInt_s (by omega) | exact rfl) | ((conv => whnf); first | with_reducible exact True.intro | with_reducible refine And.intro ?_ ?_))) <;> (try (conv => lhs; whnf))
  case' fix5_ => (repeat' (first | with_reducible exact True.intro | with_reducible refine And.intro ?_ ?_ | with_reducible refine Head.mk ?_ ?_ ?_ ?_ | ((conv => lhs; whnf); first | with_reducible rfl | with_reducible exact vInt_s (by omega) | exact rfl) | ((conv => whnf); first | with_reducible exact True.intro | with_reducible refine And.intro ?_ ?_))) <;> (try (conv => lhs; whnf))
  · exact Nat.zero_le _
  rintro i g_ o_ v_ hi
  have hb := cntTo_bd xs l k i
  (repeat' (first | with_reducible exact True.intro | with_reducible refine st_seq ?_ | (with_reducible refine st_regionG hG_ ?_; intro K_ hK_) | (with_reducible refine st_region ?_; intro K_ hK_) | (with_reducible refine hK_ _ _ ?_; try clear hK_ K_) | ((with_reducible refine st_cond (b := ?b_) ?hb_ ?_ ?_); case hb_ => rfl) | with_reducible refine sq_n ?_ | with_reducible refine sq_r ?_ | with_reducible refine sq_e ?_ | with_reducible refine bq_n ?_ | with_reducible refine bq_r ?_ | with_reducible refine bq_q ?_ | with_reducible refine st_block ?_ | with_reducible refine st_exit ?_ | with_reducible refine st_ret ?_ | with_reducible refine st_skip ?_ | with_reducible refine gq_n ?_ | with_reducible refine gq_r ?_ | with_reducible refine gq_e ?_ | with_reducible refine lq_n ?_ | with_reducible refine lq_r ?_ | with_reducible refine lq_e ?_ | with_reducible refine bq_e (by decide) ?_ | ((conv => whnf); first | (with_reducible refine hK_ _ _ ?_; try clear hK_ K_) | (with_reducible refine fun (g_ : Sl) (o_ : Ow) => ?_) | with_reducible exact True.intro | with_reducible refine And.intro trivial ?_ | with_reducible refine And.intro ?_ ?_ | exact Nat.le_of_ble_eq_true rfl | exact Or.inl rfl | (intro h_; cases h_) | (intro h_; (try simp only [cond_true, cond_false, decide_eq_true_eq, decide_eq_false_iff_not, Bool.not_eq_true', Bool.not_eq_false', Int.toNat_natCast, prodEta] at h_)) | rfl))) <;> (try (conv => whnf)) <;> (try first | change (_ : Int) ≤ _ | change (_ : Nat) ≤ _) <;> (try ((fail_if_success (with_reducible apply Exists.intro)); (try dsimp only); (try simp only [cond_true, cond_false, decide_eq_true_eq, decide_eq_false_iff_not, Bool.not_eq_true', Bool.not_eq_false', Int.toNat_natCast, prodEta]))) <;> (try simp (disch := omega) only [ptEq2, cond_true, cond_false, decide_eq_true_eq, decide_eq_false_iff_not, List.length_drop, List.take_length, Int.toNat_zero, List.drop_zero, Nat.zero_add, List.nil_append, mod_nat1, mod_nat2, tm1, tm2, tmj, W_in, Int.add_sub_cancel, tn1, tnp, tnc, List.length_append, List.length_take, List.length_replicate, List.length_set, List.length_map, List.length_cons, List.length_nil, prodEta, Int.toNat_natCast, beq_iff_eq, beq_eq_false_iff_ne, bne_iff_ne, bne_eq_false_iff_eq, ne_eq, Int.natCast_inj, Int.ofNat_lt, Int.ofNat_le] at *)
  all_goals (try (fail_if_success (with_reducible apply Exists.intro)); first | with_reducible assumption | omega | exact mdl (by omega) | exact ilo1 (by omega) | exact ilo2 (by omega) | exact ihi1 (by omega) (by omega) | exact ihi2 (by omega) (by omega))
  · refine ⟨i + 1, by omega, by omega, ?_⟩
    (repeat' (first | with_reducible exact True.intro | with_reducible refine And.intro ?_ ?_ | with_reducible refine Head.mk ?_ ?_ ?_ ?_ | ((conv => lhs; whnf); first | with_reducible rfl | with_reducible exact vInt_s (by omega) | exact rfl) | ((conv => whnf); first | with_reducible exact True.intro | with_reducible refine And.intro ?_ ?_))) <;> (try (conv => lhs; whnf))
    exact congrArg vInt (if_pos (by assumption)).symm
  · refine ⟨i + 1, by omega, by omega, ?_⟩
    (repeat' (first | with_reducible exact True.intro | with_reducible refine And.intro ?_ ?_ | with_reducible refine Head.mk ?_ ?_ ?_ ?_ | ((conv => lhs; whnf); first | with_reducible rfl | with_reducible exact vInt_s (by omega) | exact rfl) | ((conv => whnf); first | with_reducible exact True.intro | with_reducible refine And.intro ?_ ?_))) <;> (try (conv => lhs; whnf))
    exact congrArg vInt (if_neg (by rw [Bool.not_eq_true]; assumption)).symm
  · refine eq_false_of fun hc => ?_
    have h1 : cntTo xs l k i ≤ 1 := cntTo_one.2 fun i' hi' => (witM_iff.1 hc).2.2 k (by omega) i' (by omega)
    have h2 : cntTo xs l k i > 1 := by assumption
    omega
  · refine ⟨k + 1, by omega, ⟨by omega, lt_succ_all hall ?_⟩, by (repeat' (first | with_reducible exact True.intro | with_reducible refine And.intro ?_ ?_ | with_reducible refine Head.mk ?_ ?_ ?_ ?_ | ((conv => lhs; whnf); first | with_reducible rfl | with_reducible exact vInt_s (by omega) | exact rfl) | ((conv => whnf); first | with_reducible exact True.intro | with_reducible refine And.intro ?_ ?_))) <;> (try (conv => lhs; whnf))⟩
    rw [show l.length = i by omega]
    omega
  · exact eq_true_of (witM_iff.2 ⟨h10, hin, fun k hk => cntTo_one.1 (hall k (by omega))⟩)
end Go.Proofs.Ytpeaannkmokhpaa
