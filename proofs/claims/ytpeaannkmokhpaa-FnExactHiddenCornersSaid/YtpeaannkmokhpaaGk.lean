/- Contracts: hidden corners, greedy witnesses. -/
import Derived.Test.YtpeaannkmokhpaaGi
import Derived.Test.YtpeaannkmokhpaaGj
namespace Go.Proofs.Ytpeaannkmokhpaa
open Go.RowKit Go.Proofs.Ytpeaannkmokhpaa.Nm
set_option maxRecDepth 10000
set_option maxHeartbeats 2000000
set_option linter.unusedSimpArgs false
set_option linter.unusedVariables false
/-! ### Copies of lists of points -/
def copyC : Con := mkCon [.sl (.b .pt)] (fun x => x.1.length ≤ 1048576) fun x => ptRow x.1
theorem copyPoints_ok : Good1 Try.prog n_impl_copyPoints copyC := by
  refine good_ofG (tys := tyL) (env := []) (envw := []) [3] [] [] mixed tys trivial trivial Try.func67 rfl (by kernel_rfl) (by decide) (by kernel_rfl) ?_
  have hG_ := kpz [(0, [0]), (1, [2])] [(1, [3])] [] []
  rintro ⟨(xs : List Pt), ⟨⟩⟩ (h1 : xs.length ≤ _)
  (repeat' (first | with_reducible exact True.intro | with_reducible refine st_seq ?_ | (with_reducible refine st_regionG hG_ ?_; intro K_ hK_) | (with_reducible refine st_region ?_; intro K_ hK_) | (with_reducible refine hK_ _ _ ?_; try clear hK_ K_) | ((with_reducible refine st_cond (b := ?b_) ?hb_ ?_ ?_); case hb_ => rfl) | with_reducible refine sq_n ?_ | with_reducible refine sq_r ?_ | with_reducible refine sq_e ?_ | with_reducible refine bq_n ?_ | with_reducible refine bq_r ?_ | with_reducible refine bq_q ?_ | with_reducible refine st_block ?_ | with_reducible refine st_exit ?_ | with_reducible refine st_ret ?_ | with_reducible refine st_skip ?_ | with_reducible refine gq_n ?_ | with_reducible refine gq_r ?_ | with_reducible refine gq_e ?_ | with_reducible refine lq_n ?_ | with_reducible refine lq_r ?_ | with_reducible refine lq_e ?_ | with_reducible refine bq_e (by decide) ?_ | ((conv => whnf); first | (with_reducible refine hK_ _ _ ?_; try clear hK_ K_) | (with_reducible refine fun (g_ : Sl) (o_ : Ow) => ?_) | with_reducible exact True.intro | with_reducible refine And.intro trivial ?_ | with_reducible refine And.intro ?_ ?_ | exact Nat.le_of_ble_eq_true rfl | exact Or.inl rfl | (intro h_; cases h_) | (intro h_; (try simp only [cond_true, cond_false, decide_eq_true_eq, decide_eq_false_iff_not, Bool.not_eq_true', Bool.not_eq_false', Int.toNat_natCast, prodEta] at h_)) | rfl))) <;> (try (conv => whnf)) <;> (try first | change (_ : Int) ≤ _ | change (_ : Nat) ≤ _) <;> (try ((fail_if_success (with_reducible apply Exists.intro)); (try dsimp only); (try simp only [cond_true, cond_false, decide_eq_true_eq, decide_eq_false_iff_not, Bool.not_eq_true', Bool.not_eq_false', Int.toNat_natCast, prodEta]))) <;> (try simp (disch := omega) only [ptEq2, cond_true, cond_false, decide_eq_true_eq, decide_eq_false_iff_not, List.length_drop, List.take_length, Int.toNat_zero, List.drop_zero, Nat.zero_add, List.nil_append, mod_nat1, mod_nat2, tm1, tm2, tmj, W_in, Int.add_sub_cancel, tn1, tnp, tnc, List.length_append, List.length_take, List.length_replicate, List.length_set, List.length_map, List.length_cons, List.length_nil, prodEta, Int.toNat_natCast, beq_iff_eq, beq_eq_false_iff_ne, bne_iff_ne, bne_eq_false_iff_eq, ne_eq, Int.natCast_inj, Int.ofNat_lt, Int.ofNat_le] at *)
  all_goals (try (fail_if_success (with_reducible apply Exists.intro)); first | with_reducible assumption | omega | exact mdl (by omega) | exact ilo1 (by omega) | exact ilo2 (by omega) | exact ihi1 (by omega) (by omega) | exact ihi2 (by omega) (by omega))
/-! ### Hidden corners -/
theorem corner_in {xs : List Pt} (hr : roomOk xs = true) {k : Nat} (hk : k < xs.length) : inP xs (pAt xs k) = true := by
  refine inP_iff.2 ⟨room_pt hr hk, ?_⟩
  rw [placeM_on hk (onS_self (a := pAt xs k) (b := pCy xs (k + 1)))]
  decide
def hidTo (xs : List Pt) : Nat → List Nat
  | 0 => []
  | k + 1 => if (hidTo xs k).all (fun j => !seesS xs (pAt xs j) (pAt xs k)) then hidTo xs k ++ [k] else hidTo xs k
theorem hidTo_lt {xs : List Pt} : ∀ {k j : Nat}, j ∈ hidTo xs k → j < k
  | 0, j, h => by simp [hidTo] at h
  | k + 1, j, h => by
    unfold hidTo at h
    split at h
    · rcases List.mem_append.1 h with h | h
      · have := hidTo_lt h; omega
      · have : j = k := by simpa using h
        omega
    · have := hidTo_lt h; omega
theorem hidTo_len (xs : List Pt) : ∀ k, (hidTo xs k).length ≤ k
  | 0 => by simp [hidTo]
  | k + 1 => by
    have := hidTo_len xs k
    unfold hidTo
    split <;> simp <;> omega
/-- None of those taken sees an earlier one. -/
theorem hidTo_pair {xs : List Pt} (hr : roomOk xs = true) : ∀ {k : Nat}, k ≤ xs.length → (hidTo xs k).Pairwise fun j i => seesS xs (pAt xs i) (pAt xs j) = false
  | 0, _ => by simp [hidTo]
  | k + 1, hk => by
    have ih := hidTo_pair hr (k := k) (by omega)
    unfold hidTo
    split
    · rename_i h
      refine List.pairwise_append.2 ⟨ih, by simp, fun j hj i hi => ?_⟩
      have : i = k := by simpa using hi
      subst this
      have h1 := List.all_eq_true.1 h j hj
      have := hidTo_lt hj
      rw [seesS_comm hr (room_pt hr (by omega)) (room_pt hr (by omega))]
      simpa using h1
    · exact ih
theorem hid_step {xs : List Pt} (hr : roomOk xs = true) {k : Nat} (hk : k < xs.length) : hidM xs ((hidTo xs k).map (pAt xs) ++ [pAt xs k]) = (hidTo xs k).all (fun j => !seesS xs (pAt xs j) (pAt xs k)) := by
  have hl := hidTo_len xs k
  have hlr := (room_len hr).2
  have hp := hidTo_pair hr (k := k) (by omega)
  have hml : ((hidTo xs k).map (pAt xs)).length = (hidTo xs k).length := List.length_map _
  have hget : ∀ i, (h : i < (hidTo xs k).length) → pAt ((hidTo xs k).map (pAt xs) ++ [pAt xs k]) i = pAt xs (hidTo xs k)[i] := fun i h => by
    rw [pAt, List.getD_eq_getElem?_getD, List.getElem?_append_left (by omega), List.getElem?_map, List.getElem?_eq_getElem h]; rfl
  have hlast : pAt ((hidTo xs k).map (pAt xs) ++ [pAt xs k]) (hidTo xs k).length = pAt xs k := by
    rw [pAt, List.getD_eq_getElem?_getD, List.getElem?_append_right (by omega), hml, Nat.sub_self]; rfl
  have hmem : ∀ i, (h : i < (hidTo xs k).length) → (hidTo xs k)[i] < k := fun i h => hidTo_lt (List.getElem_mem h)
  rw [Bool.eq_iff_iff, hidM_iff, List.all_eq_true, allIn_iff]
  simp only [List.length_append, hml, List.length_cons, List.length_nil]
  constructor
  · rintro ⟨-, -, h⟩ j hj
    obtain ⟨i, hi, rfl⟩ := List.getElem_of_mem hj
    have h1 := h (hidTo xs k).length (by omega) i hi
    rw [hlast, hget i hi, seesS_comm hr (room_pt hr hk) (room_pt hr (by have := hmem i hi; omega))] at h1
    rw [h1]; rfl
  · intro h
    refine ⟨by omega, ⟨hr, fun i hi => ?_⟩, fun i hi j hj => ?_⟩
    · by_cases hil : i < (hidTo xs k).length
      · rw [hget i hil]; exact corner_in hr (by have := hmem i hil; omega)
      · rw [show i = (hidTo xs k).length by omega, hlast]; exact corner_in hr hk
    · by_cases hil : i < (hidTo xs k).length
      · rw [hget i hil, hget j (by omega)]
        exact List.pairwise_iff_getElem.1 hp j i (by omega) hil hj
      · rw [show i = (hidTo xs k).length by omega, hlast, hget j (by omega), seesS_comm hr (room_pt hr hk) (room_pt hr (by have := hmem j (by omega); omega))]
        have := h _ (List.getElem_mem (show j < (hidTo xs k).length by omega))
        simpa using this
def hidI (xs : List Pt) (k : Nat) : List Int := (hidTo xs k).map fun j : Nat => (j : Int)
theorem hidI_len (xs : List Pt) (k : Nat) : (hidI xs k).length ≤ k := by unfold hidI; rw [List.length_map]; exact hidTo_len xs k
theorem hidI_get {xs : List Pt} {k i : Nat} (h : i < (hidI xs k).length) : ∃ j, j ∈ hidTo xs k ∧ (hidI xs k).getD i 0 = (j : Int) := by
  unfold hidI at h ⊢
  rw [List.length_map] at h
  refine ⟨(hidTo xs k)[i], List.getElem_mem h, ?_⟩
  rw [getD_lt _ (by simpa using h), List.getElem_map]
theorem hidI_succ (xs : List Pt) (k : Nat) (b : Bool) (h : (hidTo xs k).all (fun j => !seesS xs (pAt xs j) (pAt xs k)) = b) : hidTo xs (k + 1) = hidTo xs k ++ (if b then [k] else []) ∧ hidI xs (k + 1) = hidI xs k ++ (if b then [(k : Int)] else []) := by
  have e : hidTo xs (k + 1) = hidTo xs k ++ (if b then [k] else []) := by
    rw [hidTo]
    cases b with
    | true => rw [if_pos h]; rfl
    | false => rw [if_neg (by rw [h]; decide), if_neg (by decide), List.append_nil]
  refine ⟨e, ?_⟩
  unfold hidI
  rw [e, List.map_append]
  cases b <;> rfl
theorem hid_seen {xs : List Pt} {k i : Nat} (h : i < (hidI xs k).length) : ((hidTo xs k).take (i + 1)).all (fun j => !seesS xs (pAt xs j) (pAt xs k)) = (((hidTo xs k).take i).all (fun j => !seesS xs (pAt xs j) (pAt xs k)) && !seesS xs (pAt xs ((hidI xs k).getD i 0).toNat) (pAt xs k)) := by
  have hl : i < (hidTo xs k).length := by unfold hidI at h; simpa using h
  have e : ((hidI xs k).getD i 0).toNat = (hidTo xs k).getD i 0 := by
    unfold hidI
    rw [getD_lt _ (by simpa using hl), getD_lt _ hl, List.getElem_map]
    simp
  rw [e, all_succ 0 hl]
theorem hidI_bd {xs : List Pt} {k i : Nat} (h : i < (hidI xs k).length) : 0 ≤ (hidI xs k).getD i 0 ∧ (hidI xs k).getD i 0 < k := by
  obtain ⟨j, hj, e⟩ := hidI_get h
  have := hidTo_lt hj
  omega
theorem hidI_full {xs : List Pt} {k i : Nat} (h : ¬ i < (hidI xs k).length) : (hidTo xs k).take i = hidTo xs k := List.take_of_length_le (by unfold hidI at h; simpa using h)
def hiddenM (xs : List Pt) : List Int := if roomOk xs then hidI xs xs.length else []
def hiddenC : Con := mkCon [.room] (fun x => x.1.length ≤ 1048576) fun x => rowI (hiddenM x.1)
theorem iHiddenCorners_ok : Good1 Try.prog n_impl_HiddenCorners hiddenC := by
  refine good_ofG (tys := tyL) (env := [(n_impl_RoomOk, roomOkC), (n_impl_copyPoints, copyC), (n_impl_AreHidden, hidC)]) (envw := []) [10, 11, 22] [20, 22] [23] mixed tys ⟨iRoomOk_ok, copyPoints_ok, iAreHidden_ok, trivial⟩ trivial Try.func27 rfl (by kernel_rfl) (by decide) (by kernel_rfl) ?_
  have hG_ := kpz [(0, [1]), (1, [1, 9]), (2, [2]), (3, [1, 3]), (4, [1, 3, 4]), (5, [1, 3, 4, 13, 14, 15]), (6, [1, 3, 4, 13, 14, 15, 16]), (7, [1, 3, 4, 5, 6, 13, 14, 15]), (8, [1, 3, 4, 5, 6, 13, 14, 15, 26]), (9, [1, 3, 4, 6, 13, 14, 15]), (10, [1, 3, 4, 13, 14, 15]), (11, [1, 3, 4, 13, 14, 15]), (12, [2])] [(3, [10]), (4, [10, 11]), (5, [10, 11]), (6, [10, 11]), (7, [6, 10, 11]), (8, [6, 10, 11, 22]), (9, [6, 10, 11, 22]), (10, [10, 11, 22]), (11, [10, 11, 22]), (12, [10, 11])] [] []
  rintro ⟨(xs : List Pt), ⟨⟩⟩ (h1 : xs.length ≤ _)
  (repeat' (first | with_reducible exact True.intro | with_reducible refine st_seq ?_ | (with_reducible refine st_regionG hG_ ?_; intro K_ hK_) | (with_reducible refine st_region ?_; intro K_ hK_) | (with_reducible refine hK_ _ _ ?_; try clear hK_ K_) | ((with_reducible refine st_cond (b := ?b_) ?hb_ ?_ ?_); case hb_ => rfl) | with_reducible refine sq_n ?_ | with_reducible refine sq_r ?_ | with_reducible refine sq_e ?_ | with_reducible refine bq_n ?_ | with_reducible refine bq_r ?_ | with_reducible refine bq_q ?_ | with_reducible refine st_block ?_ | with_reducible refine st_exit ?_ | with_reducible refine st_ret ?_ | with_reducible refine st_skip ?_ | with_reducible refine gq_n ?_ | with_reducible refine gq_r ?_ | with_reducible refine gq_e ?_ | with_reducible refine lq_n ?_ | with_reducible refine lq_r ?_ | with_reducible refine lq_e ?_ | with_reducible refine bq_e (by decide) ?_ | ((conv => whnf); first | (with_reducible refine hK_ _ _ ?_; try clear hK_ K_) | (with_reducible refine fun (g_ : Sl) (o_ : Ow) => ?_) | with_reducible exact True.intro | with_reducible refine And.intro trivial ?_ | with_reducible refine And.intro ?_ ?_ | exact Nat.le_of_ble_eq_true rfl | exact Or.inl rfl | (intro h_; cases h_) | (intro h_; (try simp only [cond_true, cond_false, decide_eq_true_eq, decide_eq_false_iff_not, Bool.not_eq_true', Bool.not_eq_false', Int.toNat_natCast, prodEta] at h_)) | rfl))) <;> (try (conv => whnf)) <;> (try first | change (_ : Int) ≤ _ | change (_ : Nat) ≤ _) <;> (try ((fail_if_success (with_reducible apply Exists.intro)); (try dsimp only); (try simp only [cond_true, cond_false, decide_eq_true_eq, decide_eq_false_iff_not, Bool.not_eq_true', Bool.not_eq_false', Int.toNat_natCast, prodEta]))) <;> (try simp (disch := omega) only [ptEq2, cond_true, cond_false, decide_eq_true_eq, decide_eq_false_iff_not, List.length_drop, List.take_length, Int.toNat_zero, List.drop_zero, Nat.zero_add, List.nil_append, mod_nat1, mod_nat2, tm1, tm2, tmj, W_in, Int.add_sub_cancel, tn1, tnp, tnc, List.length_append, List.length_take, List.length_replicate, List.length_set, List.length_map, List.length_cons, List.length_nil, prodEta, Int.toNat_natCast, beq_iff_eq, beq_eq_false_iff_ne, bne_iff_ne, bne_eq_false_iff_eq, ne_eq, Int.natCast_inj, Int.ofNat_lt, Int.ofNat_le] at *)
  all_goals (try (fail_if_success (with_reducible apply Exists.intro)); first | with_reducible assumption | omega | exact mdl (by omega) | exact ilo1 (by omega) | exact ilo2 (by omega) | exact ihi1 (by omega) (by omega) | exact ihi2 (by omega) (by omega))
  · unfold hiddenM; rw [h_]; rfl
  have hr : roomOk xs = true := by assumption
  have hlr := (room_len hr).2
  refine awp'_loopG (α := Nat) (fun k ver_ => [(15, vInt k)]) (fun k ver_ => [(3, 10, false, .row t_int (.b .int) (hidI xs k)), (4, 11, false, .row t_impl_Point (.b .pt) ((hidTo xs k).map (pAt xs)))]) (fun k ver_ => []) (fun k => k ≤ xs.length) (fun k => xs.length - k) [1, 13, 14] [] (0) ?_
  conv => whnf
  refine ⟨⟨?inv1_, ?vals1_, ?own1_, ?fix1_⟩, ?body1_⟩
  case' vals1_ => (repeat' (first | with_reducible exact True.intro | with_reducible refine And.intro ?_ ?_ | with_reducible refine Head.mk ?_ ?_ ?_ ?_ | ((conv => lhs; whnf); first | with_reducible rfl | with_reducible exact vInt_s (by omega) | exact rfl) | ((conv => whnf); first | with_reducible exact True.intro | with_reducible refine And.intro ?_ ?_))) <;> (try (conv => lhs; whnf))
  case' own1_ => (repeat' (first | with_reducible exact True.intro | with_reducible refine And.intro ?_ ?_ | with_reducible refine Head.mk ?_ ?_ ?_ ?_ | ((conv => lhs; whnf); first | with_reducible rfl | with_reducible exact vInt_s (by omega) | exact rfl) | ((conv => whnf); first | with_reducible exact True.intro | with_reducible refine And.intro ?_ ?_))) <;> (try (conv => lhs; whnf))
  case' fix1_ => (repeat' (first | with_reducible exact True.intro | with_reducible refine And.intro ?_ ?_ | with_reducible refine Head.mk ?_ ?_ ?_ ?_ | ((conv => lhs; whnf); first | with_reducible rfl | with_reducible exact vInt_s (by omega) | exact rfl) | ((conv => whnf); first | with_reducible exact True.intro | with_reducible refine And.intro ?_ ?_))) <;> (try (conv => lhs; whnf))
  · exact Nat.zero_le _
  rintro k g_ o_ v_ hk
  have hl := hidTo_len xs k
  have hl2 := hidI_len xs k
  (repeat' (first | with_reducible exact True.intro | with_reducible refine st_seq ?_ | (with_reducible refine st_regionG hG_ ?_; intro K_ hK_) | (with_reducible refine st_region ?_; intro K_ hK_) | (with_reducible refine hK_ _ _ ?_; try clear hK_ K_) | ((with_reducible refine st_cond (b := ?b_) ?hb_ ?_ ?_); case hb_ => rfl) | with_reducible refine sq_n ?_ | with_reducible refine sq_r ?_ | with_reducible refine sq_e ?_ | with_reducible refine bq_n ?_ | with_reducible refine bq_r ?_ | with_reducible refine bq_q ?_ | with_reducible refine st_block ?_ | with_reducible refine st_exit ?_ | with_reducible refine st_ret ?_ | with_reducible refine st_skip ?_ | with_reducible refine gq_n ?_ | with_reducible refine gq_r ?_ | with_reducible refine gq_e ?_ | with_reducible refine lq_n ?_ | with_reducible refine lq_r ?_ | with_reducible refine lq_e ?_ | with_reducible refine bq_e (by decide) ?_ | ((conv => whnf); first | (with_reducible refine hK_ _ _ ?_; try clear hK_ K_) | (with_reducible refine fun (g_ : Sl) (o_ : Ow) => ?_) | with_reducible exact True.intro | with_reducible refine And.intro trivial ?_ | with_reducible refine And.intro ?_ ?_ | exact Nat.le_of_ble_eq_true rfl | exact Or.inl rfl | (intro h_; cases h_) | (intro h_; (try simp only [cond_true, cond_false, decide_eq_true_eq, decide_eq_false_iff_not, Bool.not_eq_true', Bool.not_eq_false', Int.toNat_natCast, prodEta] at h_)) | rfl))) <;> (try (conv => whnf)) <;> (try first | change (_ : Int) ≤ _ | change (_ : Nat) ≤ _) <;> (try ((fail_if_success (with_reducible apply Exists.intro)); (try dsimp only); (try simp only [cond_true, cond_false, decide_eq_true_eq, decide_eq_false_iff_not, Bool.not_eq_true', Bool.not_eq_false', Int.toNat_natCast, prodEta]))) <;> (try simp (disch := omega) only [ptEq2, cond_true, cond_false, decide_eq_true_eq, decide_eq_false_iff_not, List.length_drop, List.take_length, Int.toNat_zero, List.drop_zero, Nat.zero_add, List.nil_append, mod_nat1, mod_nat2, tm1, tm2, tmj, W_in, Int.add_sub_cancel, tn1, tnp, tnc, List.length_append, List.length_take, List.length_replicate, List.length_set, List.length_map, List.length_cons, List.length_nil, prodEta, Int.toNat_natCast, beq_iff_eq, beq_eq_false_iff_ne, bne_iff_ne, bne_eq_false_iff_eq, ne_eq, Int.natCast_inj, Int.ofNat_lt, Int.ofNat_le] at *)
  all_goals (try (fail_if_success (with_reducible apply Exists.intro)); first | with_reducible assumption | omega | exact mdl (by omega) | exact ilo1 (by omega) | exact ilo2 (by omega) | exact ihi1 (by omega) (by omega) | exact ihi2 (by omega) (by omega))
  · rw [hid_step hr ‹k < xs.length›] at *
    obtain ⟨e1, e2⟩ := hidI_succ xs k true (by assumption)
    refine ⟨k + 1, by omega, by omega, ?_⟩
    (repeat' (first | with_reducible exact True.intro | with_reducible refine And.intro ?_ ?_ | with_reducible refine Head.mk ?_ ?_ ?_ ?_ | ((conv => lhs; whnf); first | with_reducible rfl | with_reducible exact vInt_s (by omega) | exact rfl) | ((conv => whnf); first | with_reducible exact True.intro | with_reducible refine And.intro ?_ ?_))) <;> (try (conv => lhs; whnf))
    · exact congrArg (Own.row _ _) e2.symm
    · exact congrArg (Own.row _ _) (by rw [e1, List.map_append]; rfl)
  · rw [hid_step hr ‹k < xs.length›] at *
    obtain ⟨e1, e2⟩ := hidI_succ xs k false (by assumption)
    refine ⟨k + 1, by omega, by omega, ?_⟩
    (repeat' (first | with_reducible exact True.intro | with_reducible refine And.intro ?_ ?_ | with_reducible refine Head.mk ?_ ?_ ?_ ?_ | ((conv => lhs; whnf); first | with_reducible rfl | with_reducible exact vInt_s (by omega) | exact rfl) | ((conv => whnf); first | with_reducible exact True.intro | with_reducible refine And.intro ?_ ?_))) <;> (try (conv => lhs; whnf))
    · exact congrArg (Own.row _ _) (by rw [e2]; simp)
    · exact congrArg (Own.row _ _) (by rw [e1]; simp)
  · exact congrArg some (by unfold hiddenM; rw [if_pos hr, show k = xs.length by omega])
theorem sHiddenCorners_ok : Good1 Try.prog n_spec_HiddenCorners hiddenC := by
  refine good_ofG (tys := tyL) (env := [(n_spec_RoomOk, roomOkC), (n_spec_l08Sees, l08SeesC)]) (envw := []) [7] [] [] mixed tys ⟨sRoomOk_ok, l08Sees_ok, trivial⟩ trivial Try.func26 rfl (by kernel_rfl) (by decide) (by kernel_rfl) ?_
  have hG_ := kpz [(0, [1]), (1, [1, 3]), (2, [1, 3, 4]), (3, [1, 3, 4, 16]), (4, [1, 3, 4]), (5, [1, 3, 4, 5]), (6, [1, 3, 4, 5, 6]), (7, [1, 3, 4, 5, 6, 22]), (8, [1, 3, 4, 5, 6]), (9, [1, 3, 4, 5, 6]), (10, [1, 3, 4, 45]), (11, [1, 3, 4]), (12, [2])] [(1, [7]), (2, [7]), (3, [7]), (4, [7]), (5, [7]), (6, [7]), (7, [7]), (8, [7]), (9, [7]), (10, [7]), (11, [7]), (12, [7])] [] []
  rintro ⟨(xs : List Pt), ⟨⟩⟩ (h1 : xs.length ≤ _)
  (repeat' (first | with_reducible exact True.intro | with_reducible refine st_seq ?_ | (with_reducible refine st_regionG hG_ ?_; intro K_ hK_) | (with_reducible refine st_region ?_; intro K_ hK_) | (with_reducible refine hK_ _ _ ?_; try clear hK_ K_) | ((with_reducible refine st_cond (b := ?b_) ?hb_ ?_ ?_); case hb_ => rfl) | with_reducible refine sq_n ?_ | with_reducible refine sq_r ?_ | with_reducible refine sq_e ?_ | with_reducible refine bq_n ?_ | with_reducible refine bq_r ?_ | with_reducible refine bq_q ?_ | with_reducible refine st_block ?_ | with_reducible refine st_exit ?_ | with_reducible refine st_ret ?_ | with_reducible refine st_skip ?_ | with_reducible refine gq_n ?_ | with_reducible refine gq_r ?_ | with_reducible refine gq_e ?_ | with_reducible refine lq_n ?_ | with_reducible refine lq_r ?_ | with_reducible refine lq_e ?_ | with_reducible refine bq_e (by decide) ?_ | ((conv => whnf); first | (with_reducible refine hK_ _ _ ?_; try clear hK_ K_) | (with_reducible refine fun (g_ : Sl) (o_ : Ow) => ?_) | with_reducible exact True.intro | with_reducible refine And.intro trivial ?_ | with_reducible refine And.intro ?_ ?_ | exact Nat.le_of_ble_eq_true rfl | exact Or.inl rfl | (intro h_; cases h_) | (intro h_; (try simp only [cond_true, cond_false, decide_eq_true_eq, decide_eq_false_iff_not, Bool.not_eq_true', Bool.not_eq_false', Int.toNat_natCast, prodEta] at h_)) | rfl))) <;> (try (conv => whnf)) <;> (try first | change (_ : Int) ≤ _ | change (_ : Nat) ≤ _) <;> (try ((fail_if_success (with_reducible apply Exists.intro)); (try dsimp only); (try simp only [cond_true, cond_false, decide_eq_true_eq, decide_eq_false_iff_not, Bool.not_eq_true', Bool.not_eq_false', Int.toNat_natCast, prodEta]))) <;> (try simp (disch := omega) only [ptEq2, cond_true, cond_false, decide_eq_true_eq, decide_eq_false_iff_not, List.length_drop, List.take_length, Int.toNat_zero, List.drop_zero, Nat.zero_add, List.nil_append, mod_nat1, mod_nat2, tm1, tm2, tmj, W_in, Int.add_sub_cancel, tn1, tnp, tnc, List.length_append, List.length_take, List.length_replicate, List.length_set, List.length_map, List.length_cons, List.length_nil, prodEta, Int.toNat_natCast, beq_iff_eq, beq_eq_false_iff_ne, bne_iff_ne, bne_eq_false_iff_eq, ne_eq, Int.natCast_inj, Int.ofNat_lt, Int.ofNat_le] at *)
  all_goals (try (fail_if_success (with_reducible apply Exists.intro)); first | with_reducible assumption | omega | exact mdl (by omega) | exact ilo1 (by omega) | exact ilo2 (by omega) | exact ihi1 (by omega) (by omega) | exact ihi2 (by omega) (by omega))
  refine awp'_loopG (α := Nat) (fun k ver_ => [(4, vInt k)]) (fun k ver_ => [(3, 7, false, .row t_int (.b .int) (hidI xs k))]) (fun k ver_ => []) (fun k => k ≤ xs.length ∧ (k = 0 ∨ roomOk xs = true)) (fun k => xs.length - k) [1] [] (0) ?_
  conv => whnf
  refine ⟨⟨?inv2_, ?vals2_, ?own2_, ?fix2_⟩, ?body2_⟩
  case' vals2_ => (repeat' (first | with_reducible exact True.intro | with_reducible refine And.intro ?_ ?_ | with_reducible refine Head.mk ?_ ?_ ?_ ?_ | ((conv => lhs; whnf); first | with_reducible rfl | with_reducible exact vInt_s (by omega) | exact rfl) | ((conv => whnf); first | with_reducible exact True.intro | with_reducible refine And.intro ?_ ?_))) <;> (try (conv => lhs; whnf))
  case' own2_ => (repeat' (first | with_reducible exact True.intro | with_reducible refine And.intro ?_ ?_ | with_reducible refine Head.mk ?_ ?_ ?_ ?_ | ((conv => lhs; whnf); first | with_reducible rfl | with_reducible exact vInt_s (by omega) | exact rfl) | ((conv => whnf); first | with_reducible exact True.intro | with_reducible refine And.intro ?_ ?_))) <;> (try (conv => lhs; whnf))
  case' fix2_ => (repeat' (first | with_reducible exact True.intro | with_reducible refine And.intro ?_ ?_ | with_reducible refine Head.mk ?_ ?_ ?_ ?_ | ((conv => lhs; whnf); first | with_reducible rfl | with_reducible exact vInt_s (by omega) | exact rfl) | ((conv => whnf); first | with_reducible exact True.intro | with_reducible refine And.intro ?_ ?_))) <;> (try (conv => lhs; whnf))
  · exact ⟨Nat.zero_le _, .inl rfl⟩
  rintro k g_ o_ v_ ⟨hk, hin⟩
  have hl2 := hidI_len xs k
  (repeat' (first | with_reducible exact True.intro | with_reducible refine st_seq ?_ | (with_reducible refine st_regionG hG_ ?_; intro K_ hK_) | (with_reducible refine st_region ?_; intro K_ hK_) | (with_reducible refine hK_ _ _ ?_; try clear hK_ K_) | ((with_reducible refine st_cond (b := ?b_) ?hb_ ?_ ?_); case hb_ => rfl) | with_reducible refine sq_n ?_ | with_reducible refine sq_r ?_ | with_reducible refine sq_e ?_ | with_reducible refine bq_n ?_ | with_reducible refine bq_r ?_ | with_reducible refine bq_q ?_ | with_reducible refine st_block ?_ | with_reducible refine st_exit ?_ | with_reducible refine st_ret ?_ | with_reducible refine st_skip ?_ | with_reducible refine gq_n ?_ | with_reducible refine gq_r ?_ | with_reducible refine gq_e ?_ | with_reducible refine lq_n ?_ | with_reducible refine lq_r ?_ | with_reducible refine lq_e ?_ | with_reducible refine bq_e (by decide) ?_ | ((conv => whnf); first | (with_reducible refine hK_ _ _ ?_; try clear hK_ K_) | (with_reducible refine fun (g_ : Sl) (o_ : Ow) => ?_) | with_reducible exact True.intro | with_reducible refine And.intro trivial ?_ | with_reducible refine And.intro ?_ ?_ | exact Nat.le_of_ble_eq_true rfl | exact Or.inl rfl | (intro h_; cases h_) | (intro h_; (try simp only [cond_true, cond_false, decide_eq_true_eq, decide_eq_false_iff_not, Bool.not_eq_true', Bool.not_eq_false', Int.toNat_natCast, prodEta] at h_)) | rfl))) <;> (try (conv => whnf)) <;> (try first | change (_ : Int) ≤ _ | change (_ : Nat) ≤ _) <;> (try ((fail_if_success (with_reducible apply Exists.intro)); (try dsimp only); (try simp only [cond_true, cond_false, decide_eq_true_eq, decide_eq_false_iff_not, Bool.not_eq_true', Bool.not_eq_false', Int.toNat_natCast, prodEta]))) <;> (try simp (disch := omega) only [ptEq2, cond_true, cond_false, decide_eq_true_eq, decide_eq_false_iff_not, List.length_drop, List.take_length, Int.toNat_zero, List.drop_zero, Nat.zero_add, List.nil_append, mod_nat1, mod_nat2, tm1, tm2, tmj, W_in, Int.add_sub_cancel, tn1, tnp, tnc, List.length_append, List.length_take, List.length_replicate, List.length_set, List.length_map, List.length_cons, List.length_nil, prodEta, Int.toNat_natCast, beq_iff_eq, beq_eq_false_iff_ne, bne_iff_ne, bne_eq_false_iff_eq, ne_eq, Int.natCast_inj, Int.ofNat_lt, Int.ofNat_le] at *)
  all_goals (try (fail_if_success (with_reducible apply Exists.intro)); first | with_reducible assumption | omega | exact mdl (by omega) | exact ilo1 (by omega) | exact ilo2 (by omega) | exact ihi1 (by omega) (by omega) | exact ihi2 (by omega) (by omega))
  have hr : roomOk xs = true := by assumption
  have hlr := (room_len hr).2
  refine awp'_loopG (α := Nat) (fun i ver_ => [(6, vInt i), (5, vBool (((hidTo xs k).take i).all (fun j => !seesS xs (pAt xs j) (pAt xs k))))]) (fun i ver_ => []) (fun i ver_ => []) (fun i => i ≤ (hidI xs k).length) (fun i => (hidI xs k).length - i) [1, 3, 4] [7] (0) ?_
  conv => whnf
  refine ⟨⟨?inv3_, ?vals3_, ?own3_, ?fix3_⟩, ?body3_⟩
  case' vals3_ => (repeat' (first | with_reducible exact True.intro | with_reducible refine And.intro ?_ ?_ | with_reducible refine Head.mk ?_ ?_ ?_ ?_ | ((conv => lhs; whnf); first | with_reducible rfl | with_reducible exact vInt_s (by omega) | exact rfl) | ((conv => whnf); first | with_reducible exact True.intro | with_reducible refine And.intro ?_ ?_))) <;> (try (conv => lhs; whnf))
  case' own3_ => (repeat' (first | with_reducible exact True.intro | with_reducible refine And.intro ?_ ?_ | with_reducible refine Head.mk ?_ ?_ ?_ ?_ | ((conv => lhs; whnf); first | with_reducible rfl | with_reducible exact vInt_s (by omega) | exact rfl) | ((conv => whnf); first | with_reducible exact True.intro | with_reducible refine And.intro ?_ ?_))) <;> (try (conv => lhs; whnf))
  case' fix3_ => (repeat' (first | with_reducible exact True.intro | with_reducible refine And.intro ?_ ?_ | with_reducible refine Head.mk ?_ ?_ ?_ ?_ | ((conv => lhs; whnf); first | with_reducible rfl | with_reducible exact vInt_s (by omega) | exact rfl) | ((conv => whnf); first | with_reducible exact True.intro | with_reducible refine And.intro ?_ ?_))) <;> (try (conv => lhs; whnf))
  · exact Nat.zero_le _
  rintro i g_ o_ v_ hi
  (repeat' (first | with_reducible exact True.intro | with_reducible refine st_seq ?_ | (with_reducible refine st_regionG hG_ ?_; intro K_ hK_) | (with_reducible refine st_region ?_; intro K_ hK_) | (with_reducible refine hK_ _ _ ?_; try clear hK_ K_) | ((with_reducible refine st_cond (b := ?b_) ?hb_ ?_ ?_); case hb_ => rfl) | with_reducible refine sq_n ?_ | with_reducible refine sq_r ?_ | with_reducible refine sq_e ?_ | with_reducible refine bq_n ?_ | with_reducible refine bq_r ?_ | with_reducible refine bq_q ?_ | with_reducible refine st_block ?_ | with_reducible refine st_exit ?_ | with_reducible refine st_ret ?_ | with_reducible refine st_skip ?_ | with_reducible refine gq_n ?_ | with_reducible refine gq_r ?_ | with_reducible refine gq_e ?_ | with_reducible refine lq_n ?_ | with_reducible refine lq_r ?_ | with_reducible refine lq_e ?_ | with_reducible refine bq_e (by decide) ?_ | ((conv => whnf); first | (with_reducible refine hK_ _ _ ?_; try clear hK_ K_) | (with_reducible refine fun (g_ : Sl) (o_ : Ow) => ?_) | with_reducible exact True.intro | with_reducible refine And.intro trivial ?_ | with_reducible refine And.intro ?_ ?_ | exact Nat.le_of_ble_eq_true rfl | exact Or.inl rfl | (intro h_; cases h_) | (intro h_; (try simp only [cond_true, cond_false, decide_eq_true_eq, decide_eq_false_iff_not, Bool.not_eq_true', Bool.not_eq_false', Int.toNat_natCast, prodEta] at h_)) | rfl))) <;> (try (conv => whnf)) <;> (try first | change (_ : Int) ≤ _ | change (_ : Nat) ≤ _) <;> (try ((fail_if_success (with_reducible apply Exists.intro)); (try dsimp only); (try simp only [cond_true, cond_false, decide_eq_true_eq, decide_eq_false_iff_not, Bool.not_eq_true', Bool.not_eq_false', Int.toNat_natCast, prodEta]))) <;> (try simp (disch := omega) only [ptEq2, cond_true, cond_false, decide_eq_true_eq, decide_eq_false_iff_not, List.length_drop, List.take_length, Int.toNat_zero, List.drop_zero, Nat.zero_add, List.nil_append, mod_nat1, mod_nat2, tm1, tm2, tmj, W_in, Int.add_sub_cancel, tn1, tnp, tnc, List.length_append, List.length_take, List.length_replicate, List.length_set, List.length_map, List.length_cons, List.length_nil, prodEta, Int.toNat_natCast, beq_iff_eq, beq_eq_false_iff_ne, bne_iff_ne, bne_eq_false_iff_eq, ne_eq, Int.natCast_inj, Int.ofNat_lt, Int.ofNat_le] at *)
  all_goals (try (fail_if_success (with_reducible apply Exists.intro)); first | with_reducible assumption | omega | exact mdl (by omega) | exact ilo1 (by omega) | exact ilo2 (by omega) | exact ihi1 (by omega) (by omega) | exact ihi2 (by omega) (by omega))
  · exact (hidI_bd ‹i < (hidI xs k).length›).1
  · have h5 := (hidI_bd ‹i < (hidI xs k).length›).2
    have h6 : (hidI xs k).getD i (ElK.b ElB.int).dflt < k := h5
    omega
  · refine ⟨i + 1, by omega, by omega, ?_⟩
    (repeat' (first | with_reducible exact True.intro | with_reducible refine And.intro ?_ ?_ | with_reducible refine Head.mk ?_ ?_ ?_ ?_ | ((conv => lhs; whnf); first | with_reducible rfl | with_reducible exact vInt_s (by omega) | exact rfl) | ((conv => whnf); first | with_reducible exact True.intro | with_reducible refine And.intro ?_ ?_))) <;> (try (conv => lhs; whnf))
    refine congrArg vBool ?_
    rw [hid_seen (by assumption), ‹List.all _ _ = true›, Bool.true_and]
  · refine ⟨i + 1, by omega, by omega, ?_⟩
    (repeat' (first | with_reducible exact True.intro | with_reducible refine And.intro ?_ ?_ | with_reducible refine Head.mk ?_ ?_ ?_ ?_ | ((conv => lhs; whnf); first | with_reducible rfl | with_reducible exact vInt_s (by omega) | exact rfl) | ((conv => whnf); first | with_reducible exact True.intro | with_reducible refine And.intro ?_ ?_))) <;> (try (conv => lhs; whnf))
    refine congrArg vBool ?_
    rw [hid_seen (by assumption), ‹List.all _ _ = false›, Bool.false_and]
  · rw [hidI_full (by assumption)] at *
    obtain ⟨e1, e2⟩ := hidI_succ xs k true (by assumption)
    refine ⟨k + 1, by omega, ⟨by omega, .inr hr⟩, ?_⟩
    (repeat' (first | with_reducible exact True.intro | with_reducible refine And.intro ?_ ?_ | with_reducible refine Head.mk ?_ ?_ ?_ ?_ | ((conv => lhs; whnf); first | with_reducible rfl | with_reducible exact vInt_s (by omega) | exact rfl) | ((conv => whnf); first | with_reducible exact True.intro | with_reducible refine And.intro ?_ ?_))) <;> (try (conv => lhs; whnf))
    exact congrArg (Own.row _ _) e2.symm
  · rw [hidI_full (by assumption)] at *
    obtain ⟨e1, e2⟩ := hidI_succ xs k false (by assumption)
    refine ⟨k + 1, by omega, ⟨by omega, .inr hr⟩, ?_⟩
    (repeat' (first | with_reducible exact True.intro | with_reducible refine And.intro ?_ ?_ | with_reducible refine Head.mk ?_ ?_ ?_ ?_ | ((conv => lhs; whnf); first | with_reducible rfl | with_reducible exact vInt_s (by omega) | exact rfl) | ((conv => whnf); first | with_reducible exact True.intro | with_reducible refine And.intro ?_ ?_))) <;> (try (conv => lhs; whnf))
    exact congrArg (Own.row _ _) (by rw [e2]; simp)
  · rcases hin with rfl | hin
    · exact congrArg some (by unfold hiddenM; rw [if_neg (by rw [‹roomOk xs = false›]; decide)]; rfl)
    · exact absurd (hin.symm.trans ‹roomOk xs = false›) (by decide)
  · exact congrArg some (by
      unfold hiddenM
      rcases hin with rfl | hin
      · rw [List.eq_nil_of_length_eq_zero (by omega : xs.length = 0)]; rfl
      · rw [if_pos hin, show k = xs.length by omega])
/-! ### Greedy witnesses -/
def gFree (xs : List Pt) (seen : List Bool) (p : Pt) (k : Nat) : Bool := (List.range k).all fun j => !(seesS xs (pAt xs j) p && seen.getD j false)
theorem gFree_succ (xs : List Pt) (seen : List Bool) (p : Pt) (k : Nat) : gFree xs seen p (k + 1) = (gFree xs seen p k && !(seesS xs (pAt xs k) p && seen.getD k false)) := by
  unfold gFree
  rw [List.range_succ, List.all_append]
  simp
def gOr (xs : List Pt) (seen : List Bool) (p : Pt) : List Bool := (List.range xs.length).map fun j => seen.getD j false || seesS xs (pAt xs j) p
theorem gOr_len (xs : List Pt) (seen : List Bool) (p : Pt) : (gOr xs seen p).length = xs.length := by simp [gOr]
theorem gOr_get {xs : List Pt} {seen : List Bool} {p : Pt} {k : Nat} (h : k < xs.length) : (gOr xs seen p).getD k false = (seen.getD k false || seesS xs (pAt xs k) p) := by simp [gOr, List.getD, h]
def gdTo (xs : List Pt) : Nat → List Pt × List Bool
  | 0 => ([], List.replicate xs.length false)
  | i + 1 => if (gdTo xs i).1.length = 10 then gdTo xs i else if gFree xs (gdTo xs i).2 (pAt (floorPts xs) i) xs.length then ((gdTo xs i).1 ++ [pAt (floorPts xs) i], gOr xs (gdTo xs i).2 (pAt (floorPts xs) i)) else gdTo xs i
theorem gd_len (xs : List Pt) : ∀ i, (gdTo xs i).1.length ≤ 10 ∧ (gdTo xs i).2.length = xs.length
  | 0 => by simp [gdTo]
  | i + 1 => by
    have h := gd_len xs i
    unfold gdTo
    split
    · exact h
    · split
      · refine ⟨?_, gOr_len _ _ _⟩
        simp only [List.length_append, List.length_cons, List.length_nil]
        omega
      · exact h
theorem gd_stop {xs : List Pt} {i : Nat} (h : (gdTo xs i).1.length = 10) : ∀ {j : Nat}, i ≤ j → gdTo xs j = gdTo xs i
  | 0, hj => by rw [show i = 0 by omega]
  | j + 1, hj => by
    rcases Nat.eq_or_lt_of_le hj with e | e
    · rw [e]
    · have := gd_stop h (j := j) (by omega)
      rw [gdTo, this, if_pos h]
theorem gd_no {xs : List Pt} {i : Nat} (h : gFree xs (gdTo xs i).2 (pAt (floorPts xs) i) xs.length = false) : gdTo xs (i + 1) = gdTo xs i := by
  rw [gdTo]
  split
  · rfl
  · rw [if_neg (by rw [h]; decide)]
theorem gd_yes {xs : List Pt} {i : Nat} (h0 : (gdTo xs i).1.length ≠ 10) (h : gFree xs (gdTo xs i).2 (pAt (floorPts xs) i) xs.length = true) : gdTo xs (i + 1) = ((gdTo xs i).1 ++ [pAt (floorPts xs) i], gOr xs (gdTo xs i).2 (pAt (floorPts xs) i)) := by
  rw [gdTo, if_neg h0, if_pos h]
def greedyM (xs : List Pt) : List Pt := if roomOk xs then (gdTo xs (floorPts xs).length).1 else []
def greedyC : Con := mkCon [.room] (fun x => x.1.length ≤ 1048576) fun x => ptRow (greedyM x.1)
theorem greedy_end {xs : List Pt} (hr : roomOk xs = true) {i : Nat} (h : (floorPts xs).length ≤ i) (h2 : i ≤ (floorPts xs).length) : (gdTo xs i).1 = greedyM xs := by
  unfold greedyM
  rw [if_pos hr, show i = (floorPts xs).length by omega]
theorem greedy_stop {xs : List Pt} (hr : roomOk xs = true) {i : Nat} (h2 : i ≤ (floorPts xs).length) (h : (gdTo xs i).1.length = 10) : (gdTo xs i).1 = greedyM xs := by
  unfold greedyM
  rw [if_pos hr, gd_stop h h2]
theorem floor_room {xs : List Pt} {i : Nat} (h : i < (floorPts xs).length) : roomOk xs = true := (floor_mem (pAt_mem h)).1
theorem greedy_end' {xs : List Pt} {i : Nat} (h : (floorPts xs).length ≤ i) (h2 : i ≤ (floorPts xs).length) : (gdTo xs i).1 = greedyM xs := by
  by_cases hr : roomOk xs = true
  · exact greedy_end hr h h2
  · have : i = 0 := by
      rcases Nat.eq_zero_or_pos i with e | e
      · exact e
      · exact absurd (floor_room (i := 0) (by omega)) hr
    subst this
    unfold greedyM
    rw [if_neg hr]; rfl
theorem greedy_stop' {xs : List Pt} {i : Nat} (h : (gdTo xs i).1.length = 10) (h2 : i ≤ (floorPts xs).length) : (gdTo xs i).1 = greedyM xs := by
  by_cases hr : roomOk xs = true
  · exact greedy_stop hr h2 h
  · have : i = 0 := by
      rcases Nat.eq_zero_or_pos i with e | e
      · exact e
      · exact absurd (floor_room (i := 0) (by omega)) hr
    subst this
    simp [gdTo] at h
/-- The corners that see a point, by number. -/
def seesTo (xs : List Pt) (p : Pt) (k : Nat) : List Int := ((List.range k).filter fun j : Nat => seesS xs (pAt xs j) p).map fun j : Nat => (j : Int)
theorem seesTo_succ (xs : List Pt) (p : Pt) (k : Nat) : seesTo xs p (k + 1) = seesTo xs p k ++ (if seesS xs (pAt xs k) p then [(k : Int)] else []) := by
  unfold seesTo
  rw [List.range_succ, List.filter_append, List.map_append]
  congr 1
  rw [List.filter_cons]
  by_cases h : seesS xs (pAt xs k) p = true
  · rw [if_pos h, if_pos h]; rfl
  · rw [if_neg h, if_neg h]; rfl
theorem seesTo_len (xs : List Pt) (p : Pt) (k : Nat) : (seesTo xs p k).length ≤ k := by
  unfold seesTo
  rw [List.length_map]
  exact Nat.le_trans (List.length_filter_le _ _) (by simp)
theorem seesTo_mem {xs : List Pt} {p : Pt} {k : Nat} {x : Int} : x ∈ seesTo xs p k ↔ ∃ j : Nat, x = j ∧ j < k ∧ seesS xs (pAt xs j) p = true := by
  unfold seesTo
  simp only [List.mem_map, List.mem_filter, List.mem_range]
  constructor
  · rintro ⟨j, ⟨h1, h2⟩, rfl⟩; exact ⟨j, rfl, h1, h2⟩
  · rintro ⟨j, rfl, h1, h2⟩; exact ⟨j, ⟨h1, h2⟩, rfl⟩
theorem seesTo_bd {xs : List Pt} {p : Pt} {k j : Nat} (h : j < (seesTo xs p k).length) : 0 ≤ (seesTo xs p k).getD j 0 ∧ (seesTo xs p k).getD j 0 < k := by
  have : (seesTo xs p k).getD j 0 ∈ seesTo xs p k := by rw [getD_lt _ h]; exact List.getElem_mem _
  obtain ⟨i, e, h1, h2⟩ := seesTo_mem.1 this
  omega
/-- Marks at listed places. -/
def setAll (ks : List Int) (seen : List Bool) : List Bool := (List.range seen.length).map fun j => seen.getD j false || ks.contains (j : Int)
theorem setAll_len (ks : List Int) (seen : List Bool) : (setAll ks seen).length = seen.length := by simp [setAll]
theorem setAll_nil (seen : List Bool) : setAll [] seen = seen := by
  refine List.ext_getElem (setAll_len _ _) fun j h1 h2 => ?_
  simp [setAll, List.getD, h2]
theorem setAll_snoc (ks : List Int) (seen : List Bool) {k : Int} (h0 : 0 ≤ k) : (setAll ks seen).set k.toNat true = setAll (ks ++ [k]) seen := by
  refine List.ext_getElem (by simp [setAll]) fun j h1 h2 => ?_
  have hj : j < seen.length := by simpa [setAll] using h2
  simp only [setAll, List.getElem_set, List.getElem_map, List.getElem_range, List.contains_append]
  by_cases e : k.toNat = j
  · have e' : (j : Int) = k := by omega
    simp [e, e']
  · have e' : ¬ (j : Int) = k := by omega
    simp [e, e']
theorem setAll_gOr {xs : List Pt} {seen : List Bool} {p : Pt} (hl : seen.length = xs.length) : setAll (seesTo xs p xs.length) seen = gOr xs seen p := by
  unfold setAll gOr
  rw [hl]
  refine List.map_congr_left fun j hj => ?_
  have hj := List.mem_range.1 hj
  congr 1
  rw [Bool.eq_iff_iff, List.contains_iff_mem, seesTo_mem]
  constructor
  · rintro ⟨i, e, -, h⟩
    have : j = i := by omega
    subst this; exact h
  · exact fun h => ⟨j, rfl, hj, h⟩
theorem iGreedyWitnesses_ok : Good1 Try.prog n_impl_GreedyWitnesses greedyC := by
  refine good_ofG (tys := tyL) (env := [(n_impl_RoomOk, roomOkC), (n_impl_floor, floorC), (n_impl_sightOf, sightC)]) (envw := []) [14] [] [] mixed tys ⟨iRoomOk_ok, floor_ok, sightOf_ok, trivial⟩ trivial Try.func44 rfl (by kernel_rfl) (by decide) (by kernel_rfl) ?_
  have hG_ := kpz [(0, [1]), (1, [1, 13]), (2, [2]), (3, [1, 3]), (4, [1, 3, 4]), (5, [1, 3, 4, 20, 21, 22]), (6, [1, 3, 4, 20, 21, 22, 23]), (7, [1, 3, 4, 6, 20, 21, 22]), (8, [1, 3, 4, 6, 20, 21, 22, 28]), (9, [1, 3, 4, 6, 7, 20, 21, 22]), (10, [1, 3, 4, 6, 7, 8, 20, 21, 22]), (11, [1, 3, 4, 6, 7, 8, 20, 21, 22, 33, 34]), (12, [1, 3, 4, 6, 7, 8, 20, 21, 22, 33, 34, 35]), (13, [1, 3, 4, 6, 7, 8, 9, 20, 21, 22, 33, 34]), (14, [1, 3, 4, 6, 7, 8, 20, 21, 22, 33, 34]), (15, [1, 3, 4, 6, 7, 8, 20, 21, 22, 33, 34]), (16, [1, 3, 4, 6, 7, 20, 21, 22, 53]), (17, [1, 3, 4, 7, 20, 21, 22]), (18, [1, 3, 4, 7, 20, 21, 22, 59, 60]), (19, [1, 3, 4, 7, 20, 21, 22, 59, 60, 61]), (20, [1, 3, 4, 7, 10, 20, 21, 22, 59, 60]), (21, [1, 3, 4, 7, 20, 21, 22, 59, 60]), (22, [1, 3, 4, 7, 20, 21, 22, 59, 60]), (23, [1, 3, 4, 20, 21, 22]), (24, [2])] [(3, [14]), (4, [14, 18]), (5, [14, 18]), (6, [14, 18]), (7, [6, 14, 18]), (8, [6, 14, 18]), (9, [6, 14, 18]), (10, [6, 14, 18]), (11, [6, 14, 18]), (12, [6, 14, 18]), (13, [6, 14, 18]), (14, [6, 14, 18]), (15, [6, 14, 18]), (16, [6, 14, 18]), (17, [14, 18]), (18, [14, 18]), (19, [14, 18]), (20, [14, 18]), (21, [14, 18]), (22, [14, 18]), (23, [14, 18]), (24, [14, 18])] [] []
  rintro ⟨(xs : List Pt), ⟨⟩⟩ (h1 : xs.length ≤ _)
  (repeat' (first | with_reducible exact True.intro | with_reducible refine st_seq ?_ | (with_reducible refine st_regionG hG_ ?_; intro K_ hK_) | (with_reducible refine st_region ?_; intro K_ hK_) | (with_reducible refine hK_ _ _ ?_; try clear hK_ K_) | ((with_reducible refine st_cond (b := ?b_) ?hb_ ?_ ?_); case hb_ => rfl) | with_reducible refine sq_n ?_ | with_reducible refine sq_r ?_ | with_reducible refine sq_e ?_ | with_reducible refine bq_n ?_ | with_reducible refine bq_r ?_ | with_reducible refine bq_q ?_ | with_reducible refine st_block ?_ | with_reducible refine st_exit ?_ | with_reducible refine st_ret ?_ | with_reducible refine st_skip ?_ | with_reducible refine gq_n ?_ | with_reducible refine gq_r ?_ | with_reducible refine gq_e ?_ | with_reducible refine lq_n ?_ | with_reducible refine lq_r ?_ | with_reducible refine lq_e ?_ | with_reducible refine bq_e (by decide) ?_ | ((conv => whnf); first | (with_reducible refine hK_ _ _ ?_; try clear hK_ K_) | (with_reducible refine fun (g_ : Sl) (o_ : Ow) => ?_) | with_reducible exact True.intro | with_reducible refine And.intro trivial ?_ | with_reducible refine And.intro ?_ ?_ | exact Nat.le_of_ble_eq_true rfl | exact Or.inl rfl | (intro h_; cases h_) | (intro h_; (try simp only [cond_true, cond_false, decide_eq_true_eq, decide_eq_false_iff_not, Bool.not_eq_true', Bool.not_eq_false', Int.toNat_natCast, prodEta] at h_)) | rfl))) <;> (try (conv => whnf)) <;> (try first | change (_ : Int) ≤ _ | change (_ : Nat) ≤ _) <;> (try ((fail_if_success (with_reducible apply Exists.intro)); (try dsimp only); (try simp only [cond_true, cond_false, decide_eq_true_eq, decide_eq_false_iff_not, Bool.not_eq_true', Bool.not_eq_false', Int.toNat_natCast, prodEta]))) <;> (try simp (disch := omega) only [ptEq2, cond_true, cond_false, decide_eq_true_eq, decide_eq_false_iff_not, List.length_drop, List.take_length, Int.toNat_zero, List.drop_zero, Nat.zero_add, List.nil_append, mod_nat1, mod_nat2, tm1, tm2, tmj, W_in, Int.add_sub_cancel, tn1, tnp, tnc, List.length_append, List.length_take, List.length_replicate, List.length_set, List.length_map, List.length_cons, List.length_nil, prodEta, Int.toNat_natCast, beq_iff_eq, beq_eq_false_iff_ne, bne_iff_ne, bne_eq_false_iff_eq, ne_eq, Int.natCast_inj, Int.ofNat_lt, Int.ofNat_le] at *)
  all_goals (try (fail_if_success (with_reducible apply Exists.intro)); first | with_reducible assumption | omega | exact mdl (by omega) | exact ilo1 (by omega) | exact ilo2 (by omega) | exact ihi1 (by omega) (by omega) | exact ihi2 (by omega) (by omega))
  · unfold greedyM; rw [h_]; rfl
  have hr : roomOk xs = true := by assumption
  have hlr := (room_len hr).2
  have hfl := floor_len xs
  refine awp'_loopG (α := Nat) (fun i ver_ => [(22, vInt i)]) (fun i ver_ => [(3, 14, false, .row t_impl_Point (.b .pt) (gdTo xs i).1), (4, 18, false, .row t_bool (.b .bool) (gdTo xs i).2)]) (fun i ver_ => []) (fun i => i ≤ (floorPts xs).length) (fun i => (floorPts xs).length - i) [1, 20, 21] [] (0) ?_
  conv => whnf
  refine ⟨⟨?inv4_, ?vals4_, ?own4_, ?fix4_⟩, ?body4_⟩
  case' vals4_ => (repeat' (first | with_reducible exact True.intro | with_reducible refine And.intro ?_ ?_ | with_reducible refine Head.mk ?_ ?_ ?_ ?_ | ((conv => lhs; whnf); first | with_reducible rfl | with_reducible exact vInt_s (by omega) | exact rfl) | ((conv => whnf); first | with_reducible exact True.intro | with_reducible refine And.intro ?_ ?_))) <;> (try (conv => lhs; whnf))
  case' own4_ => (repeat' (first | with_reducible exact True.intro | with_reducible refine And.intro ?_ ?_ | with_reducible refine Head.mk ?_ ?_ ?_ ?_ | ((conv => lhs; whnf); first | with_reducible rfl | with_reducible exact vInt_s (by omega) | exact rfl) | ((conv => whnf); first | with_reducible exact True.intro | with_reducible refine And.intro ?_ ?_))) <;> (try (conv => lhs; whnf))
  case' fix4_ => (repeat' (first | with_reducible exact True.intro | with_reducible refine And.intro ?_ ?_ | with_reducible refine Head.mk ?_ ?_ ?_ ?_ | ((conv => lhs; whnf); first | with_reducible rfl | with_reducible exact vInt_s (by omega) | exact rfl) | ((conv => whnf); first | with_reducible exact True.intro | with_reducible refine And.intro ?_ ?_))) <;> (try (conv => lhs; whnf))
  · exact Nat.zero_le _
  rintro i g_ o_ v_ hi
  obtain ⟨hl1, hl2⟩ := gd_len xs i
  (repeat' (first | with_reducible exact True.intro | with_reducible refine st_seq ?_ | (with_reducible refine st_regionG hG_ ?_; intro K_ hK_) | (with_reducible refine st_region ?_; intro K_ hK_) | (with_reducible refine hK_ _ _ ?_; try clear hK_ K_) | ((with_reducible refine st_cond (b := ?b_) ?hb_ ?_ ?_); case hb_ => rfl) | with_reducible refine sq_n ?_ | with_reducible refine sq_r ?_ | with_reducible refine sq_e ?_ | with_reducible refine bq_n ?_ | with_reducible refine bq_r ?_ | with_reducible refine bq_q ?_ | with_reducible refine st_block ?_ | with_reducible refine st_exit ?_ | with_reducible refine st_ret ?_ | with_reducible refine st_skip ?_ | with_reducible refine gq_n ?_ | with_reducible refine gq_r ?_ | with_reducible refine gq_e ?_ | with_reducible refine lq_n ?_ | with_reducible refine lq_r ?_ | with_reducible refine lq_e ?_ | with_reducible refine bq_e (by decide) ?_ | ((conv => whnf); first | (with_reducible refine hK_ _ _ ?_; try clear hK_ K_) | (with_reducible refine fun (g_ : Sl) (o_ : Ow) => ?_) | with_reducible exact True.intro | with_reducible refine And.intro trivial ?_ | with_reducible refine And.intro ?_ ?_ | exact Nat.le_of_ble_eq_true rfl | exact Or.inl rfl | (intro h_; cases h_) | (intro h_; (try simp only [cond_true, cond_false, decide_eq_true_eq, decide_eq_false_iff_not, Bool.not_eq_true', Bool.not_eq_false', Int.toNat_natCast, prodEta] at h_)) | rfl))) <;> (try (conv => whnf)) <;> (try first | change (_ : Int) ≤ _ | change (_ : Nat) ≤ _) <;> (try ((fail_if_success (with_reducible apply Exists.intro)); (try dsimp only); (try simp only [cond_true, cond_false, decide_eq_true_eq, decide_eq_false_iff_not, Bool.not_eq_true', Bool.not_eq_false', Int.toNat_natCast, prodEta]))) <;> (try simp (disch := omega) only [ptEq2, cond_true, cond_false, decide_eq_true_eq, decide_eq_false_iff_not, List.length_drop, List.take_length, Int.toNat_zero, List.drop_zero, Nat.zero_add, List.nil_append, mod_nat1, mod_nat2, tm1, tm2, tmj, W_in, Int.add_sub_cancel, tn1, tnp, tnc, List.length_append, List.length_take, List.length_replicate, List.length_set, List.length_map, List.length_cons, List.length_nil, prodEta, Int.toNat_natCast, beq_iff_eq, beq_eq_false_iff_ne, bne_iff_ne, bne_eq_false_iff_eq, ne_eq, Int.natCast_inj, Int.ofNat_lt, Int.ofNat_le] at *)
  all_goals (try (fail_if_success (with_reducible apply Exists.intro)); first | with_reducible assumption | omega | exact mdl (by omega) | exact ilo1 (by omega) | exact ilo2 (by omega) | exact ihi1 (by omega) (by omega) | exact ihi2 (by omega) (by omega))
  · exact congrArg some (greedy_stop hr hi (by omega))
  · exact floor_pt (by assumption)
  have hif : i < (floorPts xs).length := by assumption
  have h10 : (gdTo xs i).1.length ≠ 10 := by omega
  have hgl := sightM_len xs (pAt (floorPts xs) i)
  have hol := gOr_len xs (gdTo xs i).2 (pAt (floorPts xs) i)
  refine awp'_loopG (α := Nat) (fun k ver_ => [(34, vInt k), (8, vBool (gFree xs (gdTo xs i).2 (pAt (floorPts xs) i) k))]) (fun k ver_ => []) (fun k ver_ => []) (fun k => k ≤ xs.length) (fun k => xs.length - k) [1, 3, 4, 6, 7, 20, 21, 22, 33] [6, 14, 18] (0) ?_
  conv => whnf
  refine ⟨⟨?inv5_, ?vals5_, ?own5_, ?fix5_⟩, ?body5_⟩
  case' vals5_ => (repeat' (first | with_reducible exact True.intro | with_reducible refine And.intro ?_ ?_ | with_reducible refine Head.mk ?_ ?_ ?_ ?_ | ((conv => lhs; whnf); first | with_reducible rfl | with_reducible exact vInt_s (by omega) | exact rfl) | ((conv => whnf); first | with_reducible exact True.intro | with_reducible refine And.intro ?_ ?_))) <;> (try (conv => lhs; whnf))
  case' own5_ => (repeat' (first | with_reducible exact True.intro | with_reducible refine And.intro ?_ ?_ | with_reducible refine Head.mk ?_ ?_ ?_ ?_ | ((conv => lhs; whnf); first | with_reducible rfl | with_reducible exact vInt_s (by omega) | exact rfl) | ((conv => whnf); first | with_reducible exact True.intro | with_reducible refine And.intro ?_ ?_))) <;> (try (conv => lhs; whnf))
  case' fix5_ => (repeat' (first | with_reducible exact True.intro | with_reducible refine And.intro ?_ ?_ | with_reducible refine Head.mk ?_ ?_ ?_ ?_ | ((conv => lhs; whnf); first | with_reducible rfl | with_reducible exact vInt_s (by omega) | exact rfl) | ((conv => whnf); first | with_reducible exact True.intro | with_reducible refine And.intro ?_ ?_))) <;> (try (conv => lhs; whnf))
  · exact Nat.zero_le _
  rintro k g_ o_ v_ hk
  (repeat' (first | with_reducible exact True.intro | with_reducible refine st_seq ?_ | (with_reducible refine st_regionG hG_ ?_; intro K_ hK_) | (with_reducible refine st_region ?_; intro K_ hK_) | (with_reducible refine hK_ _ _ ?_; try clear hK_ K_) | ((with_reducible refine st_cond (b := ?b_) ?hb_ ?_ ?_); case hb_ => rfl) | with_reducible refine sq_n ?_ | with_reducible refine sq_r ?_ | with_reducible refine sq_e ?_ | with_reducible refine bq_n ?_ | with_reducible refine bq_r ?_ | with_reducible refine bq_q ?_ | with_reducible refine st_block ?_ | with_reducible refine st_exit ?_ | with_reducible refine st_ret ?_ | with_reducible refine st_skip ?_ | with_reducible refine gq_n ?_ | with_reducible refine gq_r ?_ | with_reducible refine gq_e ?_ | with_reducible refine lq_n ?_ | with_reducible refine lq_r ?_ | with_reducible refine lq_e ?_ | with_reducible refine bq_e (by decide) ?_ | ((conv => whnf); first | (with_reducible refine hK_ _ _ ?_; try clear hK_ K_) | (with_reducible refine fun (g_ : Sl) (o_ : Ow) => ?_) | with_reducible exact True.intro | with_reducible refine And.intro trivial ?_ | with_reducible refine And.intro ?_ ?_ | exact Nat.le_of_ble_eq_true rfl | exact Or.inl rfl | (intro h_; cases h_) | (intro h_; (try simp only [cond_true, cond_false, decide_eq_true_eq, decide_eq_false_iff_not, Bool.not_eq_true', Bool.not_eq_false', Int.toNat_natCast, prodEta] at h_)) | rfl))) <;> (try (conv => whnf)) <;> (try first | change (_ : Int) ≤ _ | change (_ : Nat) ≤ _) <;> (try ((fail_if_success (with_reducible apply Exists.intro)); (try dsimp only); (try simp only [cond_true, cond_false, decide_eq_true_eq, decide_eq_false_iff_not, Bool.not_eq_true', Bool.not_eq_false', Int.toNat_natCast, prodEta]))) <;> (try simp (disch := omega) only [ptEq2, cond_true, cond_false, decide_eq_true_eq, decide_eq_false_iff_not, List.length_drop, List.take_length, Int.toNat_zero, List.drop_zero, Nat.zero_add, List.nil_append, mod_nat1, mod_nat2, tm1, tm2, tmj, W_in, Int.add_sub_cancel, tn1, tnp, tnc, List.length_append, List.length_take, List.length_replicate, List.length_set, List.length_map, List.length_cons, List.length_nil, prodEta, Int.toNat_natCast, beq_iff_eq, beq_eq_false_iff_ne, bne_iff_ne, bne_eq_false_iff_eq, ne_eq, Int.natCast_inj, Int.ofNat_lt, Int.ofNat_le] at *) <;> (try simp only [sightM_len] at *)
  all_goals (try (fail_if_success (with_reducible apply Exists.intro)); first | with_reducible assumption | omega | exact mdl (by omega) | exact ilo1 (by omega) | exact ilo2 (by omega) | exact ihi1 (by omega) (by omega) | exact ihi2 (by omega) (by omega))
  · refine ⟨k + 1, by omega, by omega, ?_⟩
    (repeat' (first | with_reducible exact True.intro | with_reducible refine And.intro ?_ ?_ | with_reducible refine Head.mk ?_ ?_ ?_ ?_ | ((conv => lhs; whnf); first | with_reducible rfl | with_reducible exact vInt_s (by omega) | exact rfl) | ((conv => whnf); first | with_reducible exact True.intro | with_reducible refine And.intro ?_ ?_))) <;> (try (conv => lhs; whnf))
    refine congrArg vBool ?_
    have h5 : seesS xs (pAt xs k) (pAt (floorPts xs) i) = true := (sightM_get (by assumption)).symm.trans (by assumption)
    rw [gFree_succ, ‹gFree _ _ _ _ = true›, h5, Bool.true_and, Bool.true_and]
  · refine ⟨k + 1, by omega, by omega, ?_⟩
    (repeat' (first | with_reducible exact True.intro | with_reducible refine And.intro ?_ ?_ | with_reducible refine Head.mk ?_ ?_ ?_ ?_ | ((conv => lhs; whnf); first | with_reducible rfl | with_reducible exact vInt_s (by omega) | exact rfl) | ((conv => whnf); first | with_reducible exact True.intro | with_reducible refine And.intro ?_ ?_))) <;> (try (conv => lhs; whnf))
    refine congrArg vBool ?_
    have h5 : seesS xs (pAt xs k) (pAt (floorPts xs) i) = false := (sightM_get (by assumption)).symm.trans (by assumption)
    rw [gFree_succ, ‹gFree _ _ _ _ = true›, h5]
    rfl
  · refine ⟨k + 1, by omega, by omega, ?_⟩
    (repeat' (first | with_reducible exact True.intro | with_reducible refine And.intro ?_ ?_ | with_reducible refine Head.mk ?_ ?_ ?_ ?_ | ((conv => lhs; whnf); first | with_reducible rfl | with_reducible exact vInt_s (by omega) | exact rfl) | ((conv => whnf); first | with_reducible exact True.intro | with_reducible refine And.intro ?_ ?_))) <;> (try (conv => lhs; whnf))
    refine congrArg vBool ?_
    rw [gFree_succ, ‹gFree _ _ _ _ = false›, Bool.false_and]
  · have hkn : k = xs.length := by omega
    refine ⟨i + 1, by omega, by omega, ?_⟩
    (repeat' (first | with_reducible exact True.intro | with_reducible refine And.intro ?_ ?_ | with_reducible refine Head.mk ?_ ?_ ?_ ?_ | ((conv => lhs; whnf); first | with_reducible rfl | with_reducible exact vInt_s (by omega) | exact rfl) | ((conv => whnf); first | with_reducible exact True.intro | with_reducible refine And.intro ?_ ?_))) <;> (try (conv => lhs; whnf))
    · exact congrArg (Own.row _ _) (by rw [gd_no (by rw [← hkn]; assumption)])
    · exact congrArg (Own.row _ _) (by rw [gd_no (by rw [← hkn]; assumption)])
  · have hkn : k = xs.length := by omega
    have hy := gd_yes h10 (by rw [← hkn]; assumption)
    refine awp'_loopG (α := Nat) (fun j ver_ => [(60, vInt j)]) (fun j ver_ => [(4, 18, false, .row t_bool (.b .bool) ((gOr xs (gdTo xs i).2 (pAt (floorPts xs) i)).take j ++ (gdTo xs i).2.drop j))]) (fun j ver_ => []) (fun j => j ≤ xs.length) (fun j => xs.length - j) [1, 3, 7, 20, 21, 22, 59] [14] (0) ?_
    conv => whnf
    refine ⟨⟨?inv6_, ?vals6_, ?own6_, ?fix6_⟩, ?body6_⟩
    case' vals6_ => (repeat' (first | with_reducible exact True.intro | with_reducible refine And.intro ?_ ?_ | with_reducible refine Head.mk ?_ ?_ ?_ ?_ | ((conv => lhs; whnf); first | with_reducible rfl | with_reducible exact vInt_s (by omega) | exact rfl) | ((conv => whnf); first | with_reducible exact True.intro | with_reducible refine And.intro ?_ ?_))) <;> (try (conv => lhs; whnf))
    case' own6_ => (repeat' (first | with_reducible exact True.intro | with_reducible refine And.intro ?_ ?_ | with_reducible refine Head.mk ?_ ?_ ?_ ?_ | ((conv => lhs; whnf); first | with_reducible rfl | with_reducible exact vInt_s (by omega) | exact rfl) | ((conv => whnf); first | with_reducible exact True.intro | with_reducible refine And.intro ?_ ?_))) <;> (try (conv => lhs; whnf))
    case' fix6_ => (repeat' (first | with_reducible exact True.intro | with_reducible refine And.intro ?_ ?_ | with_reducible refine Head.mk ?_ ?_ ?_ ?_ | ((conv => lhs; whnf); first | with_reducible rfl | with_reducible exact vInt_s (by omega) | exact rfl) | ((conv => whnf); first | with_reducible exact True.intro | with_reducible refine And.intro ?_ ?_))) <;> (try (conv => lhs; whnf))
    · exact Nat.zero_le _
    rintro j g_ o_ v_ hj
    have hmx := mix_len (A := gOr xs (gdTo xs i).2 (pAt (floorPts xs) i)) (B := (gdTo xs i).2) (k := j) (by rw [hol]; exact hj) (by rw [hol, hl2])
    (repeat' (first | with_reducible exact True.intro | with_reducible refine st_seq ?_ | (with_reducible refine st_regionG hG_ ?_; intro K_ hK_) | (with_reducible refine st_region ?_; intro K_ hK_) | (with_reducible refine hK_ _ _ ?_; try clear hK_ K_) | ((with_reducible refine st_cond (b := ?b_) ?hb_ ?_ ?_); case hb_ => rfl) | with_reducible refine sq_n ?_ | with_reducible refine sq_r ?_ | with_reducible refine sq_e ?_ | with_reducible refine bq_n ?_ | with_reducible refine bq_r ?_ | with_reducible refine bq_q ?_ | with_reducible refine st_block ?_ | with_reducible refine st_exit ?_ | with_reducible refine st_ret ?_ | with_reducible refine st_skip ?_ | with_reducible refine gq_n ?_ | with_reducible refine gq_r ?_ | with_reducible refine gq_e ?_ | with_reducible refine lq_n ?_ | with_reducible refine lq_r ?_ | with_reducible refine lq_e ?_ | with_reducible refine bq_e (by decide) ?_ | ((conv => whnf); first | (with_reducible refine hK_ _ _ ?_; try clear hK_ K_) | (with_reducible refine fun (g_ : Sl) (o_ : Ow) => ?_) | with_reducible exact True.intro | with_reducible refine And.intro trivial ?_ | with_reducible refine And.intro ?_ ?_ | exact Nat.le_of_ble_eq_true rfl | exact Or.inl rfl | (intro h_; cases h_) | (intro h_; (try simp only [cond_true, cond_false, decide_eq_true_eq, decide_eq_false_iff_not, Bool.not_eq_true', Bool.not_eq_false', Int.toNat_natCast, prodEta] at h_)) | rfl))) <;> (try (conv => whnf)) <;> (try first | change (_ : Int) ≤ _ | change (_ : Nat) ≤ _) <;> (try ((fail_if_success (with_reducible apply Exists.intro)); (try dsimp only); (try simp only [cond_true, cond_false, decide_eq_true_eq, decide_eq_false_iff_not, Bool.not_eq_true', Bool.not_eq_false', Int.toNat_natCast, prodEta]))) <;> (try simp (disch := omega) only [ptEq2, cond_true, cond_false, decide_eq_true_eq, decide_eq_false_iff_not, List.length_drop, List.take_length, Int.toNat_zero, List.drop_zero, Nat.zero_add, List.nil_append, mod_nat1, mod_nat2, tm1, tm2, tmj, W_in, Int.add_sub_cancel, tn1, tnp, tnc, List.length_append, List.length_take, List.length_replicate, List.length_set, List.length_map, List.length_cons, List.length_nil, prodEta, Int.toNat_natCast, beq_iff_eq, beq_eq_false_iff_ne, bne_iff_ne, bne_eq_false_iff_eq, ne_eq, Int.natCast_inj, Int.ofNat_lt, Int.ofNat_le] at *) <;> (try simp only [sightM_len] at *)
    all_goals (try (fail_if_success (with_reducible apply Exists.intro)); first | with_reducible assumption | omega | exact mdl (by omega) | exact ilo1 (by omega) | exact ilo2 (by omega) | exact ihi1 (by omega) (by omega) | exact ihi2 (by omega) (by omega))
    · refine ⟨j + 1, by omega, by omega, ?_⟩
      (repeat' (first | with_reducible exact True.intro | with_reducible refine And.intro ?_ ?_ | with_reducible refine Head.mk ?_ ?_ ?_ ?_ | ((conv => lhs; whnf); first | with_reducible rfl | with_reducible exact vInt_s (by omega) | exact rfl) | ((conv => whnf); first | with_reducible exact True.intro | with_reducible refine And.intro ?_ ?_))) <;> (try (conv => lhs; whnf))
      refine congrArg (Own.row _ _) ?_
      have h5 : (gdTo xs i).2.getD j false = true := by
        have h6 := ‹(List.take j _ ++ _).getD j _ = true›
        rw [mix_getD (by rw [hol]; omega) (by rw [hol, hl2]), if_neg (by omega)] at h6
        exact h6
      rw [show true = (gOr xs (gdTo xs i).2 (pAt (floorPts xs) i)).getD j false by rw [gOr_get (by assumption), h5, Bool.true_or], mix_put (by rw [hl2]; assumption) (by rw [hl2, hol])]
    · refine ⟨j + 1, by omega, by omega, ?_⟩
      (repeat' (first | with_reducible exact True.intro | with_reducible refine And.intro ?_ ?_ | with_reducible refine Head.mk ?_ ?_ ?_ ?_ | ((conv => lhs; whnf); first | with_reducible rfl | with_reducible exact vInt_s (by omega) | exact rfl) | ((conv => whnf); first | with_reducible exact True.intro | with_reducible refine And.intro ?_ ?_))) <;> (try (conv => lhs; whnf))
      refine congrArg (Own.row _ _) ?_
      have h5 : (gdTo xs i).2.getD j false = false := by
        have h6 := ‹(List.take j _ ++ _).getD j _ = false›
        rw [mix_getD (by rw [hol]; omega) (by rw [hol, hl2]), if_neg (by omega)] at h6
        exact h6
      have h7 : (sightM xs (pAt (floorPts xs) i)).getD j false = (gOr xs (gdTo xs i).2 (pAt (floorPts xs) i)).getD j false := by rw [gOr_get (by assumption), h5, Bool.false_or, sightM_get (by assumption)]
      refine (congrArg _ h7).trans ?_
      rw [mix_put (by rw [hl2]; assumption) (by rw [hl2, hol])]
    · refine ⟨i + 1, by omega, by omega, ?_⟩
      (repeat' (first | with_reducible exact True.intro | with_reducible refine And.intro ?_ ?_ | with_reducible refine Head.mk ?_ ?_ ?_ ?_ | ((conv => lhs; whnf); first | with_reducible rfl | with_reducible exact vInt_s (by omega) | exact rfl) | ((conv => whnf); first | with_reducible exact True.intro | with_reducible refine And.intro ?_ ?_))) <;> (try (conv => lhs; whnf))
      · exact congrArg (Own.row _ _) (by rw [hy])
      · exact congrArg (Own.row _ _) (by rw [hy, List.take_of_length_le (by rw [hol]; omega), List.drop_eq_nil_of_le (by rw [hl2]; omega), List.append_nil])
  · exact congrArg some (greedy_end hr (by omega) hi)
theorem sGreedyWitnesses_ok : Good1 Try.prog n_spec_GreedyWitnesses greedyC := by
  refine good_ofG (tys := tyL) (env := [(n_spec_FloorPoints, floorTC), (n_spec_l08Sees, l08SeesC)]) (envw := []) [11, 29] [] [] mixed tys ⟨floorPoints_ok, l08Sees_ok, trivial⟩ trivial Try.func43 rfl (by kernel_rfl) (by decide) (by kernel_rfl) ?_
  have hG_ := kpz [(0, [1]), (1, [1, 3]), (2, [1, 3, 4]), (3, [1, 3, 4, 5]), (4, [1, 3, 4, 5, 6]), (5, [1, 3, 4, 5, 6, 26]), (6, [1, 3, 4, 5, 6]), (7, [1, 3, 4, 5, 6, 7]), (8, [1, 3, 4, 5, 6, 7, 8]), (9, [1, 3, 4, 5, 6, 7, 8, 9]), (10, [1, 3, 4, 5, 6, 7, 8, 9, 34]), (11, [1, 3, 4, 5, 6, 7, 8, 9]), (12, [1, 3, 4, 5, 6, 7, 8, 9, 48]), (13, [1, 3, 4, 5, 6, 7, 8, 9]), (14, [1, 3, 4, 5, 6, 7, 8, 9]), (15, [1, 3, 4, 5, 6, 7, 8, 10]), (16, [1, 3, 4, 5, 6, 7, 8, 10, 67]), (17, [1, 3, 4, 5, 6, 7, 8, 10]), (18, [1, 3, 4, 5, 6, 7, 8, 10]), (19, [1, 3, 4, 5, 6, 76]), (20, [1, 3, 4, 5, 6]), (21, [2])] [(1, [11]), (2, [11]), (3, [11, 17]), (4, [11, 17]), (5, [11, 17]), (6, [11, 17, 29]), (7, [11, 17]), (8, [11, 17, 29]), (9, [11, 17, 29]), (10, [11, 17, 29]), (11, [11, 17, 29]), (12, [11, 17, 29]), (13, [11, 17, 29]), (14, [11, 17, 29]), (15, [11, 17, 29]), (16, [11, 17, 29]), (17, [11, 17, 29]), (18, [11, 17, 29]), (19, [11, 17, 29]), (20, [11, 17, 29]), (21, [11, 17])] [] []
  rintro ⟨(xs : List Pt), ⟨⟩⟩ (h1 : xs.length ≤ _)
  have hfl := floor_len xs
  (repeat' (first | with_reducible exact True.intro | with_reducible refine st_seq ?_ | (with_reducible refine st_regionG hG_ ?_; intro K_ hK_) | (with_reducible refine st_region ?_; intro K_ hK_) | (with_reducible refine hK_ _ _ ?_; try clear hK_ K_) | ((with_reducible refine st_cond (b := ?b_) ?hb_ ?_ ?_); case hb_ => rfl) | with_reducible refine sq_n ?_ | with_reducible refine sq_r ?_ | with_reducible refine sq_e ?_ | with_reducible refine bq_n ?_ | with_reducible refine bq_r ?_ | with_reducible refine bq_q ?_ | with_reducible refine st_block ?_ | with_reducible refine st_exit ?_ | with_reducible refine st_ret ?_ | with_reducible refine st_skip ?_ | with_reducible refine gq_n ?_ | with_reducible refine gq_r ?_ | with_reducible refine gq_e ?_ | with_reducible refine lq_n ?_ | with_reducible refine lq_r ?_ | with_reducible refine lq_e ?_ | with_reducible refine bq_e (by decide) ?_ | ((conv => whnf); first | (with_reducible refine hK_ _ _ ?_; try clear hK_ K_) | (with_reducible refine fun (g_ : Sl) (o_ : Ow) => ?_) | with_reducible exact True.intro | with_reducible refine And.intro trivial ?_ | with_reducible refine And.intro ?_ ?_ | exact Nat.le_of_ble_eq_true rfl | exact Or.inl rfl | (intro h_; cases h_) | (intro h_; (try simp only [cond_true, cond_false, decide_eq_true_eq, decide_eq_false_iff_not, Bool.not_eq_true', Bool.not_eq_false', Int.toNat_natCast, prodEta] at h_)) | rfl))) <;> (try (conv => whnf)) <;> (try first | change (_ : Int) ≤ _ | change (_ : Nat) ≤ _) <;> (try ((fail_if_success (with_reducible apply Exists.intro)); (try dsimp only); (try simp only [cond_true, cond_false, decide_eq_true_eq, decide_eq_false_iff_not, Bool.not_eq_true', Bool.not_eq_false', Int.toNat_natCast, prodEta]))) <;> (try simp (disch := omega) only [ptEq2, cond_true, cond_false, decide_eq_true_eq, decide_eq_false_iff_not, List.length_drop, List.take_length, Int.toNat_zero, List.drop_zero, Nat.zero_add, List.nil_append, mod_nat1, mod_nat2, tm1, tm2, tmj, W_in, Int.add_sub_cancel, tn1, tnp, tnc, List.length_append, List.length_take, List.length_replicate, List.length_set, List.length_map, List.length_cons, List.length_nil, prodEta, Int.toNat_natCast, beq_iff_eq, beq_eq_false_iff_ne, bne_iff_ne, bne_eq_false_iff_eq, ne_eq, Int.natCast_inj, Int.ofNat_lt, Int.ofNat_le] at *)
  all_goals (try (fail_if_success (with_reducible apply Exists.intro)); first | with_reducible assumption | omega | exact mdl (by omega) | exact ilo1 (by omega) | exact ilo2 (by omega) | exact ihi1 (by omega) (by omega) | exact ihi2 (by omega) (by omega))
  refine awp'_loopG (α := Nat) (fun i ver_ => [(6, vInt i)]) (fun i ver_ => [(3, 11, false, .row t_impl_Point (.b .pt) (gdTo xs i).1), (5, 17, false, .row t_bool (.b .bool) (gdTo xs i).2)]) (fun i ver_ => []) (fun i => i ≤ (floorPts xs).length) (fun i => (floorPts xs).length - i) [1, 4] [] (0) ?_
  conv => whnf
  refine ⟨⟨?inv7_, ?vals7_, ?own7_, ?fix7_⟩, ?body7_⟩
  case' vals7_ => (repeat' (first | with_reducible exact True.intro | with_reducible refine And.intro ?_ ?_ | with_reducible refine Head.mk ?_ ?_ ?_ ?_ | ((conv => lhs; whnf); first | with_reducible rfl | with_reducible exact vInt_s (by omega) | exact rfl) | ((conv => whnf); first | with_reducible exact True.intro | with_reducible refine And.intro ?_ ?_))) <;> (try (conv => lhs; whnf))
  case' own7_ => (repeat' (first | with_reducible exact True.intro | with_reducible refine And.intro ?_ ?_ | with_reducible refine Head.mk ?_ ?_ ?_ ?_ | ((conv => lhs; whnf); first | with_reducible rfl | with_reducible exact vInt_s (by omega) | exact rfl) | ((conv => whnf); first | with_reducible exact True.intro | with_reducible refine And.intro ?_ ?_))) <;> (try (conv => lhs; whnf))
  case' fix7_ => (repeat' (first | with_reducible exact True.intro | with_reducible refine And.intro ?_ ?_ | with_reducible refine Head.mk ?_ ?_ ?_ ?_ | ((conv => lhs; whnf); first | with_reducible rfl | with_reducible exact vInt_s (by omega) | exact rfl) | ((conv => whnf); first | with_reducible exact True.intro | with_reducible refine And.intro ?_ ?_))) <;> (try (conv => lhs; whnf))
  · exact Nat.zero_le _
  rintro i g_ o_ v_ hi
  obtain ⟨hl1, hl2⟩ := gd_len xs i
  (repeat' (first | with_reducible exact True.intro | with_reducible refine st_seq ?_ | (with_reducible refine st_regionG hG_ ?_; intro K_ hK_) | (with_reducible refine st_region ?_; intro K_ hK_) | (with_reducible refine hK_ _ _ ?_; try clear hK_ K_) | ((with_reducible refine st_cond (b := ?b_) ?hb_ ?_ ?_); case hb_ => rfl) | with_reducible refine sq_n ?_ | with_reducible refine sq_r ?_ | with_reducible refine sq_e ?_ | with_reducible refine bq_n ?_ | with_reducible refine bq_r ?_ | with_reducible refine bq_q ?_ | with_reducible refine st_block ?_ | with_reducible refine st_exit ?_ | with_reducible refine st_ret ?_ | with_reducible refine st_skip ?_ | with_reducible refine gq_n ?_ | with_reducible refine gq_r ?_ | with_reducible refine gq_e ?_ | with_reducible refine lq_n ?_ | with_reducible refine lq_r ?_ | with_reducible refine lq_e ?_ | with_reducible refine bq_e (by decide) ?_ | ((conv => whnf); first | (with_reducible refine hK_ _ _ ?_; try clear hK_ K_) | (with_reducible refine fun (g_ : Sl) (o_ : Ow) => ?_) | with_reducible exact True.intro | with_reducible refine And.intro trivial ?_ | with_reducible refine And.intro ?_ ?_ | exact Nat.le_of_ble_eq_true rfl | exact Or.inl rfl | (intro h_; cases h_) | (intro h_; (try simp only [cond_true, cond_false, decide_eq_true_eq, decide_eq_false_iff_not, Bool.not_eq_true', Bool.not_eq_false', Int.toNat_natCast, prodEta] at h_)) | rfl))) <;> (try (conv => whnf)) <;> (try first | change (_ : Int) ≤ _ | change (_ : Nat) ≤ _) <;> (try ((fail_if_success (with_reducible apply Exists.intro)); (try dsimp only); (try simp only [cond_true, cond_false, decide_eq_true_eq, decide_eq_false_iff_not, Bool.not_eq_true', Bool.not_eq_false', Int.toNat_natCast, prodEta]))) <;> (try simp (disch := omega) only [ptEq2, cond_true, cond_false, decide_eq_true_eq, decide_eq_false_iff_not, List.length_drop, List.take_length, Int.toNat_zero, List.drop_zero, Nat.zero_add, List.nil_append, mod_nat1, mod_nat2, tm1, tm2, tmj, W_in, Int.add_sub_cancel, tn1, tnp, tnc, List.length_append, List.length_take, List.length_replicate, List.length_set, List.length_map, List.length_cons, List.length_nil, prodEta, Int.toNat_natCast, beq_iff_eq, beq_eq_false_iff_ne, bne_iff_ne, bne_eq_false_iff_eq, ne_eq, Int.natCast_inj, Int.ofNat_lt, Int.ofNat_le] at *)
  all_goals (try (fail_if_success (with_reducible apply Exists.intro)); first | with_reducible assumption | omega | exact mdl (by omega) | exact ilo1 (by omega) | exact ilo2 (by omega) | exact ihi1 (by omega) (by omega) | exact ihi2 (by omega) (by omega))
  · have hif : i < (floorPts xs).length := by assumption
    have h10 : (gdTo xs i).1.length ≠ 10 := by omega
    have hr : roomOk xs = true := floor_room hif
    have hlr := (room_len hr).2
    have hol := gOr_len xs (gdTo xs i).2 (pAt (floorPts xs) i)
    have hpp := floor_pt hif
    refine awp'_loopG (α := Nat) (fun k ver_ => [(9, vInt k), (7, vBool (gFree xs (gdTo xs i).2 (pAt (floorPts xs) i) k))]) (fun k ver_ => [(8, 29, false, .row t_int (.b .int) (seesTo xs (pAt (floorPts xs) i) k))]) (fun k ver_ => []) (fun k => k ≤ xs.length) (fun k => xs.length - k) [1, 3, 4, 5, 6] [11, 17] (0) ?_
    conv => whnf
    refine ⟨⟨?inv8_, ?vals8_, ?own8_, ?fix8_⟩, ?body8_⟩
    case' vals8_ => (repeat' (first | with_reducible exact True.intro | with_reducible refine And.intro ?_ ?_ | with_reducible refine Head.mk ?_ ?_ ?_ ?_ | ((conv => lhs; whnf); first | with_reducible rfl | with_reducible exact vInt_s (by omega) | exact rfl) | ((conv => whnf); first | with_reducible exact True.intro | with_reducible refine And.intro ?_ ?_))) <;> (try (conv => lhs; whnf))
    case' own8_ => (repeat' (first | with_reducible exact True.intro | with_reducible refine And.intro ?_ ?_ | with_reducible refine Head.mk ?_ ?_ ?_ ?_ | ((conv => lhs; whnf); first | with_reducible rfl | with_reducible exact vInt_s (by omega) | exact rfl) | ((conv => whnf); first | with_reducible exact True.intro | with_reducible refine And.intro ?_ ?_))) <;> (try (conv => lhs; whnf))
    case' fix8_ => (repeat' (first | with_reducible exact True.intro | with_reducible refine And.intro ?_ ?_ | with_reducible refine Head.mk ?_ ?_ ?_ ?_ | ((conv => lhs; whnf); first | with_reducible rfl | with_reducible exact vInt_s (by omega) | exact rfl) | ((conv => whnf); first | with_reducible exact True.intro | with_reducible refine And.intro ?_ ?_))) <;> (try (conv => lhs; whnf))
    · exact Nat.zero_le _
    rintro k g_ o_ v_ hk
    have hsl := seesTo_len xs (pAt (floorPts xs) i) k
    (repeat' (first | with_reducible exact True.intro | with_reducible refine st_seq ?_ | (with_reducible refine st_regionG hG_ ?_; intro K_ hK_) | (with_reducible refine st_region ?_; intro K_ hK_) | (with_reducible refine hK_ _ _ ?_; try clear hK_ K_) | ((with_reducible refine st_cond (b := ?b_) ?hb_ ?_ ?_); case hb_ => rfl) | with_reducible refine sq_n ?_ | with_reducible refine sq_r ?_ | with_reducible refine sq_e ?_ | with_reducible refine bq_n ?_ | with_reducible refine bq_r ?_ | with_reducible refine bq_q ?_ | with_reducible refine st_block ?_ | with_reducible refine st_exit ?_ | with_reducible refine st_ret ?_ | with_reducible refine st_skip ?_ | with_reducible refine gq_n ?_ | with_reducible refine gq_r ?_ | with_reducible refine gq_e ?_ | with_reducible refine lq_n ?_ | with_reducible refine lq_r ?_ | with_reducible refine lq_e ?_ | with_reducible refine bq_e (by decide) ?_ | ((conv => whnf); first | (with_reducible refine hK_ _ _ ?_; try clear hK_ K_) | (with_reducible refine fun (g_ : Sl) (o_ : Ow) => ?_) | with_reducible exact True.intro | with_reducible refine And.intro trivial ?_ | with_reducible refine And.intro ?_ ?_ | exact Nat.le_of_ble_eq_true rfl | exact Or.inl rfl | (intro h_; cases h_) | (intro h_; (try simp only [cond_true, cond_false, decide_eq_true_eq, decide_eq_false_iff_not, Bool.not_eq_true', Bool.not_eq_false', Int.toNat_natCast, prodEta] at h_)) | rfl))) <;> (try (conv => whnf)) <;> (try first | change (_ : Int) ≤ _ | change (_ : Nat) ≤ _) <;> (try ((fail_if_success (with_reducible apply Exists.intro)); (try dsimp only); (try simp only [cond_true, cond_false, decide_eq_true_eq, decide_eq_false_iff_not, Bool.not_eq_true', Bool.not_eq_false', Int.toNat_natCast, prodEta]))) <;> (try simp (disch := omega) only [ptEq2, cond_true, cond_false, decide_eq_true_eq, decide_eq_false_iff_not, List.length_drop, List.take_length, Int.toNat_zero, List.drop_zero, Nat.zero_add, List.nil_append, mod_nat1, mod_nat2, tm1, tm2, tmj, W_in, Int.add_sub_cancel, tn1, tnp, tnc, List.length_append, List.length_take, List.length_replicate, List.length_set, List.length_map, List.length_cons, List.length_nil, prodEta, Int.toNat_natCast, beq_iff_eq, beq_eq_false_iff_ne, bne_iff_ne, bne_eq_false_iff_eq, ne_eq, Int.natCast_inj, Int.ofNat_lt, Int.ofNat_le] at *)
    all_goals (try (fail_if_success (with_reducible apply Exists.intro)); first | with_reducible assumption | omega | exact mdl (by omega) | exact ilo1 (by omega) | exact ilo2 (by omega) | exact ihi1 (by omega) (by omega) | exact ihi2 (by omega) (by omega))
    · refine ⟨k + 1, by omega, by omega, ?_⟩
      (repeat' (first | with_reducible exact True.intro | with_reducible refine And.intro ?_ ?_ | with_reducible refine Head.mk ?_ ?_ ?_ ?_ | ((conv => lhs; whnf); first | with_reducible rfl | with_reducible exact vInt_s (by omega) | exact rfl) | ((conv => whnf); first | with_reducible exact True.intro | with_reducible refine And.intro ?_ ?_))) <;> (try (conv => lhs; whnf))
      · refine congrArg vBool ?_
        have h5 : seesS xs (pAt xs k) (pAt (floorPts xs) i) = true := by assumption
        rw [gFree_succ, ‹gFree _ _ _ _ = true›, h5, Bool.true_and, Bool.true_and]
      · exact congrArg (Own.row _ _) (by rw [seesTo_succ, if_pos (by assumption)])
    · refine ⟨k + 1, by omega, by omega, ?_⟩
      (repeat' (first | with_reducible exact True.intro | with_reducible refine And.intro ?_ ?_ | with_reducible refine Head.mk ?_ ?_ ?_ ?_ | ((conv => lhs; whnf); first | with_reducible rfl | with_reducible exact vInt_s (by omega) | exact rfl) | ((conv => whnf); first | with_reducible exact True.intro | with_reducible refine And.intro ?_ ?_))) <;> (try (conv => lhs; whnf))
      · refine congrArg vBool ?_
        rw [gFree_succ, ‹gFree _ _ _ _ = false›, Bool.false_and]
      · exact congrArg (Own.row _ _) (by rw [seesTo_succ, if_pos (by assumption)])
    · refine ⟨k + 1, by omega, by omega, ?_⟩
      have h5 : seesS xs (pAt xs k) (pAt (floorPts xs) i) = false := by assumption
      (repeat' (first | with_reducible exact True.intro | with_reducible refine And.intro ?_ ?_ | with_reducible refine Head.mk ?_ ?_ ?_ ?_ | ((conv => lhs; whnf); first | with_reducible rfl | with_reducible exact vInt_s (by omega) | exact rfl) | ((conv => whnf); first | with_reducible exact True.intro | with_reducible refine And.intro ?_ ?_))) <;> (try (conv => lhs; whnf))
      · refine congrArg vBool ?_
        rw [gFree_succ, h5]
        simp
      · exact congrArg (Own.row _ _) (by rw [seesTo_succ, if_neg (by rw [h5]; decide), List.append_nil])
    · have hkn : k = xs.length := by omega
      subst hkn
      refine awp'_loopG (α := Nat) (fun j ver_ => [(10, vInt j)]) (fun j ver_ => [(5, 17, false, .row t_bool (.b .bool) (setAll ((seesTo xs (pAt (floorPts xs) i) xs.length).take j) (gdTo xs i).2))]) (fun j ver_ => []) (fun j => j ≤ (seesTo xs (pAt (floorPts xs) i) xs.length).length ∧ (gFree xs (gdTo xs i).2 (pAt (floorPts xs) i) xs.length = false → j = 0)) (fun j => (seesTo xs (pAt (floorPts xs) i) xs.length).length - j) [1, 3, 4, 6, 7, 8] [11, 29] (0) ?_
      conv => whnf
      refine ⟨⟨?inv9_, ?vals9_, ?own9_, ?fix9_⟩, ?body9_⟩
      case' vals9_ => (repeat' (first | with_reducible exact True.intro | with_reducible refine And.intro ?_ ?_ | with_reducible refine Head.mk ?_ ?_ ?_ ?_ | ((conv => lhs; whnf); first | with_reducible rfl | with_reducible exact vInt_s (by omega) | exact rfl) | ((conv => whnf); first | with_reducible exact True.intro | with_reducible refine And.intro ?_ ?_))) <;> (try (conv => lhs; whnf))
      case' own9_ => (repeat' (first | with_reducible exact True.intro | with_reducible refine And.intro ?_ ?_ | with_reducible refine Head.mk ?_ ?_ ?_ ?_ | ((conv => lhs; whnf); first | with_reducible rfl | with_reducible exact vInt_s (by omega) | exact rfl) | ((conv => whnf); first | with_reducible exact True.intro | with_reducible refine And.intro ?_ ?_))) <;> (try (conv => lhs; whnf))
      case' fix9_ => (repeat' (first | with_reducible exact True.intro | with_reducible refine And.intro ?_ ?_ | with_reducible refine Head.mk ?_ ?_ ?_ ?_ | ((conv => lhs; whnf); first | with_reducible rfl | with_reducible exact vInt_s (by omega) | exact rfl) | ((conv => whnf); first | with_reducible exact True.intro | with_reducible refine And.intro ?_ ?_))) <;> (try (conv => lhs; whnf))
      · exact congrArg (Own.row _ _) (setAll_nil _).symm
      · exact ⟨Nat.zero_le _, fun _ => rfl⟩
      rintro j g_ o_ v_ ⟨hj, hj0⟩
      have hal := setAll_len ((seesTo xs (pAt (floorPts xs) i) xs.length).take j) (gdTo xs i).2
      have hbd : j < (seesTo xs (pAt (floorPts xs) i) xs.length).length → 0 ≤ (seesTo xs (pAt (floorPts xs) i) xs.length).getD j (ElK.b ElB.int).dflt ∧ (seesTo xs (pAt (floorPts xs) i) xs.length).getD j (ElK.b ElB.int).dflt < xs.length := fun h => seesTo_bd h
      (repeat' (first | with_reducible exact True.intro | with_reducible refine st_seq ?_ | (with_reducible refine st_regionG hG_ ?_; intro K_ hK_) | (with_reducible refine st_region ?_; intro K_ hK_) | (with_reducible refine hK_ _ _ ?_; try clear hK_ K_) | ((with_reducible refine st_cond (b := ?b_) ?hb_ ?_ ?_); case hb_ => rfl) | with_reducible refine sq_n ?_ | with_reducible refine sq_r ?_ | with_reducible refine sq_e ?_ | with_reducible refine bq_n ?_ | with_reducible refine bq_r ?_ | with_reducible refine bq_q ?_ | with_reducible refine st_block ?_ | with_reducible refine st_exit ?_ | with_reducible refine st_ret ?_ | with_reducible refine st_skip ?_ | with_reducible refine gq_n ?_ | with_reducible refine gq_r ?_ | with_reducible refine gq_e ?_ | with_reducible refine lq_n ?_ | with_reducible refine lq_r ?_ | with_reducible refine lq_e ?_ | with_reducible refine bq_e (by decide) ?_ | ((conv => whnf); first | (with_reducible refine hK_ _ _ ?_; try clear hK_ K_) | (with_reducible refine fun (g_ : Sl) (o_ : Ow) => ?_) | with_reducible exact True.intro | with_reducible refine And.intro trivial ?_ | with_reducible refine And.intro ?_ ?_ | exact Nat.le_of_ble_eq_true rfl | exact Or.inl rfl | (intro h_; cases h_) | (intro h_; (try simp only [cond_true, cond_false, decide_eq_true_eq, decide_eq_false_iff_not, Bool.not_eq_true', Bool.not_eq_false', Int.toNat_natCast, prodEta] at h_)) | rfl))) <;> (try (conv => whnf)) <;> (try first | change (_ : Int) ≤ _ | change (_ : Nat) ≤ _) <;> (try ((fail_if_success (with_reducible apply Exists.intro)); (try dsimp only); (try simp only [cond_true, cond_false, decide_eq_true_eq, decide_eq_false_iff_not, Bool.not_eq_true', Bool.not_eq_false', Int.toNat_natCast, prodEta]))) <;> (try simp (disch := omega) only [ptEq2, cond_true, cond_false, decide_eq_true_eq, decide_eq_false_iff_not, List.length_drop, List.take_length, Int.toNat_zero, List.drop_zero, Nat.zero_add, List.nil_append, mod_nat1, mod_nat2, tm1, tm2, tmj, W_in, Int.add_sub_cancel, tn1, tnp, tnc, List.length_append, List.length_take, List.length_replicate, List.length_set, List.length_map, List.length_cons, List.length_nil, prodEta, Int.toNat_natCast, beq_iff_eq, beq_eq_false_iff_ne, bne_iff_ne, bne_eq_false_iff_eq, ne_eq, Int.natCast_inj, Int.ofNat_lt, Int.ofNat_le] at *)
      all_goals (try (fail_if_success (with_reducible apply Exists.intro)); first | with_reducible assumption | omega | exact mdl (by omega) | exact ilo1 (by omega) | exact ilo2 (by omega) | exact ihi1 (by omega) (by omega) | exact ihi2 (by omega) (by omega))
      · refine ⟨j + 1, by omega, ⟨by omega, fun h => absurd (h.symm.trans ‹gFree _ _ _ _ = true›) (by decide)⟩, ?_⟩
        (repeat' (first | with_reducible exact True.intro | with_reducible refine And.intro ?_ ?_ | with_reducible refine Head.mk ?_ ?_ ?_ ?_ | ((conv => lhs; whnf); first | with_reducible rfl | with_reducible exact vInt_s (by omega) | exact rfl) | ((conv => whnf); first | with_reducible exact True.intro | with_reducible refine And.intro ?_ ?_))) <;> (try (conv => lhs; whnf))
        refine congrArg (Own.row _ _) ?_
        have hjj : j < (seesTo xs (pAt (floorPts xs) i) xs.length).length := by assumption
        refine (setAll_snoc _ _ (hbd hjj).1).trans ?_
        rw [List.take_succ_eq_append_getElem hjj]
        exact congrArg (fun q => setAll (List.take j _ ++ [q]) _) (getD_lt _ hjj)
      · exact absurd (‹gFree _ _ _ _ = true›.symm.trans ‹gFree _ _ _ _ = false›) (by decide)
      · have := hj0 (by assumption)
        subst this
        have hn := gd_no (xs := xs) (i := i) (by assumption)
        refine ⟨i + 1, by omega, by omega, ?_⟩
        (repeat' (first | with_reducible exact True.intro | with_reducible refine And.intro ?_ ?_ | with_reducible refine Head.mk ?_ ?_ ?_ ?_ | ((conv => lhs; whnf); first | with_reducible rfl | with_reducible exact vInt_s (by omega) | exact rfl) | ((conv => whnf); first | with_reducible exact True.intro | with_reducible refine And.intro ?_ ?_))) <;> (try (conv => lhs; whnf))
        · exact congrArg (Own.row _ _) (by rw [hn])
        · exact congrArg (Own.row _ _) (by rw [hn, List.take_zero, setAll_nil])
      · have hy := gd_yes h10 (by assumption)
        refine ⟨i + 1, by omega, by omega, ?_⟩
        (repeat' (first | with_reducible exact True.intro | with_reducible refine And.intro ?_ ?_ | with_reducible refine Head.mk ?_ ?_ ?_ ?_ | ((conv => lhs; whnf); first | with_reducible rfl | with_reducible exact vInt_s (by omega) | exact rfl) | ((conv => whnf); first | with_reducible exact True.intro | with_reducible refine And.intro ?_ ?_))) <;> (try (conv => lhs; whnf))
        · exact congrArg (Own.row _ _) (by rw [hy])
        · exact congrArg (Own.row _ _) (by rw [hy, List.take_of_length_le (by omega), setAll_gOr hl2])
      · have := hj0 (by assumption)
        subst this
        have hn := gd_no (xs := xs) (i := i) (by assumption)
        refine ⟨i + 1, by omega, by omega, ?_⟩
        (repeat' (first | with_reducible exact True.intro | with_reducible refine And.intro ?_ ?_ | with_reducible refine Head.mk ?_ ?_ ?_ ?_ | ((conv => lhs; whnf); first | with_reducible rfl | with_reducible exact vInt_s (by omega) | exact rfl) | ((conv => whnf); first | with_reducible exact True.intro | with_reducible refine And.intro ?_ ?_))) <;> (try (conv => lhs; whnf))
        · exact congrArg (Own.row _ _) (by rw [hn])
        · exact congrArg (Own.row _ _) (by rw [hn, List.take_zero, setAll_nil])
  · exact congrArg some (greedy_stop' (by omega) hi)
  · exact congrArg some (greedy_end' (by omega) hi)
theorem greedy_len (xs : List Pt) : (greedyM xs).length ≤ 10 := by
  unfold greedyM
  split
  · exact (gd_len xs _).1
  · simp
def witBoundC : Con := mkCon [.room] (fun x => x.1.length ≤ 1048576) fun x => vI (greedyM x.1).length
theorem iWitnessBound_ok : Good1 Try.prog n_impl_WitnessBound witBoundC := by
  refine good_ofG (tys := tyL) (env := [(n_impl_GreedyWitnesses, greedyC)]) (envw := []) [] [] [] mixed tys ⟨iGreedyWitnesses_ok, trivial⟩ trivial Try.func33 rfl (by kernel_rfl) (by decide) (by kernel_rfl) ?_
  have hG_ := kpz [(0, [1]), (1, [2])] [] [] []
  rintro ⟨(xs : List Pt), ⟨⟩⟩ (h1 : xs.length ≤ _)
  (repeat' (first | with_reducible exact True.intro | with_reducible refine st_seq ?_ | (with_reducible refine st_regionG hG_ ?_; intro K_ hK_) | (with_reducible refine st_region ?_; intro K_ hK_) | (with_reducible refine hK_ _ _ ?_; try clear hK_ K_) | ((with_reducible refine st_cond (b := ?b_) ?hb_ ?_ ?_); case hb_ => rfl) | with_reducible refine sq_n ?_ | with_reducible refine sq_r ?_ | with_reducible refine sq_e ?_ | with_reducible refine bq_n ?_ | with_reducible refine bq_r ?_ | with_reducible refine bq_q ?_ | with_reducible refine st_block ?_ | with_reducible refine st_exit ?_ | with_reducible refine st_ret ?_ | with_reducible refine st_skip ?_ | with_reducible refine gq_n ?_ | with_reducible refine gq_r ?_ | with_reducible refine gq_e ?_ | with_reducible refine lq_n ?_ | with_reducible refine lq_r ?_ | with_reducible refine lq_e ?_ | with_reducible refine bq_e (by decide) ?_ | ((conv => whnf); first | (with_reducible refine hK_ _ _ ?_; try clear hK_ K_) | (with_reducible refine fun (g_ : Sl) (o_ : Ow) => ?_) | with_reducible exact True.intro | with_reducible refine And.intro trivial ?_ | with_reducible refine And.intro ?_ ?_ | exact Nat.le_of_ble_eq_true rfl | exact Or.inl rfl | (intro h_; cases h_) | (intro h_; (try simp only [cond_true, cond_false, decide_eq_true_eq, decide_eq_false_iff_not, Bool.not_eq_true', Bool.not_eq_false', Int.toNat_natCast, prodEta] at h_)) | rfl))) <;> (try (conv => whnf)) <;> (try first | change (_ : Int) ≤ _ | change (_ : Nat) ≤ _) <;> (try ((fail_if_success (with_reducible apply Exists.intro)); (try dsimp only); (try simp only [cond_true, cond_false, decide_eq_true_eq, decide_eq_false_iff_not, Bool.not_eq_true', Bool.not_eq_false', Int.toNat_natCast, prodEta]))) <;> (try simp (disch := omega) only [ptEq2, cond_true, cond_false, decide_eq_true_eq, decide_eq_false_iff_not, List.length_drop, List.take_length, Int.toNat_zero, List.drop_zero, Nat.zero_add, List.nil_append, mod_nat1, mod_nat2, tm1, tm2, tmj, W_in, Int.add_sub_cancel, tn1, tnp, tnc, List.length_append, List.length_take, List.length_replicate, List.length_set, List.length_map, List.length_cons, List.length_nil, prodEta, Int.toNat_natCast, beq_iff_eq, beq_eq_false_iff_ne, bne_iff_ne, bne_eq_false_iff_eq, ne_eq, Int.natCast_inj, Int.ofNat_lt, Int.ofNat_le] at *)
  all_goals (try (fail_if_success (with_reducible apply Exists.intro)); first | with_reducible assumption | omega | exact mdl (by omega) | exact ilo1 (by omega) | exact ilo2 (by omega) | exact ihi1 (by omega) (by omega) | exact ihi2 (by omega) (by omega))
theorem sWitnessBound_ok : Good1 Try.prog n_spec_WitnessBound witBoundC := by
  refine good_ofG (tys := tyL) (env := [(n_spec_GreedyWitnesses, greedyC)]) (envw := []) [] [] [] mixed tys ⟨sGreedyWitnesses_ok, trivial⟩ trivial Try.func32 rfl (by kernel_rfl) (by decide) (by kernel_rfl) ?_
  have hG_ := kpz [(0, [1]), (1, [2])] [] [] []
  rintro ⟨(xs : List Pt), ⟨⟩⟩ (h1 : xs.length ≤ _)
  (repeat' (first | with_reducible exact True.intro | with_reducible refine st_seq ?_ | (with_reducible refine st_regionG hG_ ?_; intro K_ hK_) | (with_reducible refine st_region ?_; intro K_ hK_) | (with_reducible refine hK_ _ _ ?_; try clear hK_ K_) | ((with_reducible refine st_cond (b := ?b_) ?hb_ ?_ ?_); case hb_ => rfl) | with_reducible refine sq_n ?_ | with_reducible refine sq_r ?_ | with_reducible refine sq_e ?_ | with_reducible refine bq_n ?_ | with_reducible refine bq_r ?_ | with_reducible refine bq_q ?_ | with_reducible refine st_block ?_ | with_reducible refine st_exit ?_ | with_reducible refine st_ret ?_ | with_reducible refine st_skip ?_ | with_reducible refine gq_n ?_ | with_reducible refine gq_r ?_ | with_reducible refine gq_e ?_ | with_reducible refine lq_n ?_ | with_reducible refine lq_r ?_ | with_reducible refine lq_e ?_ | with_reducible refine bq_e (by decide) ?_ | ((conv => whnf); first | (with_reducible refine hK_ _ _ ?_; try clear hK_ K_) | (with_reducible refine fun (g_ : Sl) (o_ : Ow) => ?_) | with_reducible exact True.intro | with_reducible refine And.intro trivial ?_ | with_reducible refine And.intro ?_ ?_ | exact Nat.le_of_ble_eq_true rfl | exact Or.inl rfl | (intro h_; cases h_) | (intro h_; (try simp only [cond_true, cond_false, decide_eq_true_eq, decide_eq_false_iff_not, Bool.not_eq_true', Bool.not_eq_false', Int.toNat_natCast, prodEta] at h_)) | rfl))) <;> (try (conv => whnf)) <;> (try first | change (_ : Int) ≤ _ | change (_ : Nat) ≤ _) <;> (try ((fail_if_success (with_reducible apply Exists.intro)); (try dsimp only); (try simp only [cond_true, cond_false, decide_eq_true_eq, decide_eq_false_iff_not, Bool.not_eq_true', Bool.not_eq_false', Int.toNat_natCast, prodEta]))) <;> (try simp (disch := omega) only [ptEq2, cond_true, cond_false, decide_eq_true_eq, decide_eq_false_iff_not, List.length_drop, List.take_length, Int.toNat_zero, List.drop_zero, Nat.zero_add, List.nil_append, mod_nat1, mod_nat2, tm1, tm2, tmj, W_in, Int.add_sub_cancel, tn1, tnp, tnc, List.length_append, List.length_take, List.length_replicate, List.length_set, List.length_map, List.length_cons, List.length_nil, prodEta, Int.toNat_natCast, beq_iff_eq, beq_eq_false_iff_ne, bne_iff_ne, bne_eq_false_iff_eq, ne_eq, Int.natCast_inj, Int.ofNat_lt, Int.ofNat_le] at *)
  all_goals (try (fail_if_success (with_reducible apply Exists.intro)); first | with_reducible assumption | omega | exact mdl (by omega) | exact ilo1 (by omega) | exact ilo2 (by omega) | exact ihi1 (by omega) (by omega) | exact ihi2 (by omega) (by omega))
end Go.Proofs.Ytpeaannkmokhpaa
