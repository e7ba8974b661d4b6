/- Contracts: rooms, the reference's. -/
import Derived.Test.YtgfhoidmeaollaaCc
namespace Go.Proofs.Ytgfhoidmeaollaa
open Go.RowKit Nm
set_option maxRecDepth 10000
set_option linter.unusedSimpArgs false
set_option linter.unusedVariables false
set_option maxHeartbeats 4000000 in
theorem sRoomOk_ok : Good1 Try.prog n_spec_RoomOk roomOkC := by
  refine good_ofG (tys := tyL) (env := [(n_spec_l01In, btwC), (n_spec_PointOk, ptOkC), (n_spec_l02Turn, turnC), (n_spec_DoMeet, meetC), (n_spec_l04Double, areaC)]) (envw := []) [] [37, 38, 43, 44] mixed tys ⟨l01In_ok, sPointOk_ok, l02Turn_ok, sDoMeet_ok, l04Double_ok, trivial⟩ trivial Try.func45 rfl (by kernel_rfl) (by decide) (by kernel_rfl) ?_
  have hG_ := kp [(0, [1]), (1, [1, 3]), (2, [1, 3, 14]), (3, [2]), (4, [1, 3, 4]), (5, [1, 3, 4, 17]), (6, [1, 3, 4]), (7, [1, 3, 4, 26]), (8, [2]), (9, [1, 3, 5]), (10, [1, 3, 5, 29]), (11, [1, 3, 5]), (12, [1, 3, 5, 6]), (13, [1, 3, 5, 6, 7]), (14, [1, 3, 5, 6, 7, 56]), (15, [2]), (16, [1, 3, 5, 6, 7, 8]), (17, [1, 3, 5, 6, 7, 8, 59]), (18, [1, 3, 5, 6, 7, 8]), (19, [1, 3, 5, 6, 7, 8, 80]), (20, [1, 3, 5, 6, 7, 8, 98]), (21, [2]), (22, [2])] [(12, [6]), (13, [6, 7]), (14, [6, 7]), (16, [6, 7]), (17, [6, 7]), (18, [6, 7]), (19, [6, 7]), (20, [6, 7])]
  rintro ⟨xs, ⟨⟩⟩ hlen
  change xs.length ≤ _ at hlen
  (repeat' (first | with_reducible exact True.intro | with_reducible refine st_seq ?_ | (with_reducible refine st_regionG hG_ ?_; intro K_ hK_) | (with_reducible refine st_region ?_; intro K_ hK_) | (with_reducible refine hK_ _ _ ?_; try clear hK_ K_) | ((with_reducible refine st_cond (b := ?b_) ?hb_ ?_ ?_); case hb_ => rfl) | with_reducible refine sq_n ?_ | with_reducible refine sq_r ?_ | with_reducible refine sq_e ?_ | with_reducible refine bq_n ?_ | with_reducible refine bq_r ?_ | with_reducible refine bq_q ?_ | with_reducible refine st_block ?_ | with_reducible refine st_exit ?_ | with_reducible refine st_ret ?_ | with_reducible refine st_skip ?_ | with_reducible refine gq_n ?_ | with_reducible refine gq_r ?_ | with_reducible refine gq_e ?_ | with_reducible refine lq_n ?_ | with_reducible refine lq_r ?_ | with_reducible refine lq_e ?_ | with_reducible refine bq_e (by decide) ?_ | ((conv => whnf); first | (with_reducible refine hK_ _ _ ?_; try clear hK_ K_) | (with_reducible refine fun (g_ : Sl) (o_ : Ow) => ?_) | with_reducible exact True.intro | with_reducible refine And.intro trivial ?_ | with_reducible refine And.intro ?_ ?_ | exact Nat.le_of_ble_eq_true rfl | exact Or.inl rfl | (intro h_; cases h_) | (intro h_; (try simp only [cond_true, cond_false, decide_eq_true_eq, decide_eq_false_iff_not, Bool.not_eq_true', Bool.not_eq_false', Int.toNat_natCast, prodEta] at h_)) | rfl))) <;> (try (conv => whnf)) <;> (try first | change (_ : Int) ≤ _ | change (_ : Nat) ≤ _) <;> (try ((fail_if_success (with_reducible apply Exists.intro)); (try dsimp only); (try simp only [cond_true, cond_false, decide_eq_true_eq, decide_eq_false_iff_not, Bool.not_eq_true', Bool.not_eq_false', Int.toNat_natCast, prodEta])))
  all_goals (try (fail_if_success (with_reducible apply Exists.intro)); first | with_reducible assumption | omega | exact mdl (by omega) | exact ilo1 (by omega) | exact ilo2 (by omega) | exact ihi1 (by omega) (by omega) | exact ihi2 (by omega) (by omega))
  · symm; rw [← Bool.not_eq_true, roomOk_iff]; simp [btw] at *; omega
  have hb := btw_iff.1 ‹btw _ _ _ = true›
  refine awp'_loopG (α := Nat) (fun k => [(4, vInt k)]) (fun k => []) (fun k => k ≤ xs.length ∧ (xs.take k).all ptOk = true) (fun k => xs.length - k) [1, 3] [] (0) ?_
  conv => whnf
  refine ⟨⟨?inv1_, ?vals1_, ?own1_⟩, ?body1_⟩
  case' vals1_ => (repeat' (first | with_reducible exact True.intro | with_reducible refine And.intro ?_ ?_ | with_reducible refine Head.mk ?_ ?_ ?_ ?_ | ((conv => lhs; whnf); first | with_reducible rfl | with_reducible exact vInt_s (by omega) | exact rfl) | ((conv => whnf); first | with_reducible exact True.intro | with_reducible refine And.intro ?_ ?_))) <;> (try (conv => lhs; whnf))
  case' own1_ => (repeat' (first | with_reducible exact True.intro | with_reducible refine And.intro ?_ ?_ | with_reducible refine Head.mk ?_ ?_ ?_ ?_ | ((conv => lhs; whnf); first | with_reducible rfl | with_reducible exact vInt_s (by omega) | exact rfl) | ((conv => whnf); first | with_reducible exact True.intro | with_reducible refine And.intro ?_ ?_))) <;> (try (conv => lhs; whnf))
  · exact ⟨Nat.zero_le _, by simp⟩
  rintro k g_ o_ v_ ⟨hk, hall⟩
  (repeat' (first | with_reducible exact True.intro | with_reducible refine st_seq ?_ | (with_reducible refine st_regionG hG_ ?_; intro K_ hK_) | (with_reducible refine st_region ?_; intro K_ hK_) | (with_reducible refine hK_ _ _ ?_; try clear hK_ K_) | ((with_reducible refine st_cond (b := ?b_) ?hb_ ?_ ?_); case hb_ => rfl) | with_reducible refine sq_n ?_ | with_reducible refine sq_r ?_ | with_reducible refine sq_e ?_ | with_reducible refine bq_n ?_ | with_reducible refine bq_r ?_ | with_reducible refine bq_q ?_ | with_reducible refine st_block ?_ | with_reducible refine st_exit ?_ | with_reducible refine st_ret ?_ | with_reducible refine st_skip ?_ | with_reducible refine gq_n ?_ | with_reducible refine gq_r ?_ | with_reducible refine gq_e ?_ | with_reducible refine lq_n ?_ | with_reducible refine lq_r ?_ | with_reducible refine lq_e ?_ | with_reducible refine bq_e (by decide) ?_ | ((conv => whnf); first | (with_reducible refine hK_ _ _ ?_; try clear hK_ K_) | (with_reducible refine fun (g_ : Sl) (o_ : Ow) => ?_) | with_reducible exact True.intro | with_reducible refine And.intro trivial ?_ | with_reducible refine And.intro ?_ ?_ | exact Nat.le_of_ble_eq_true rfl | exact Or.inl rfl | (intro h_; cases h_) | (intro h_; (try simp only [cond_true, cond_false, decide_eq_true_eq, decide_eq_false_iff_not, Bool.not_eq_true', Bool.not_eq_false', Int.toNat_natCast, prodEta] at h_)) | rfl))) <;> (try (conv => whnf)) <;> (try first | change (_ : Int) ≤ _ | change (_ : Nat) ≤ _) <;> (try ((fail_if_success (with_reducible apply Exists.intro)); (try dsimp only); (try simp only [cond_true, cond_false, decide_eq_true_eq, decide_eq_false_iff_not, Bool.not_eq_true', Bool.not_eq_false', Int.toNat_natCast, prodEta])))
  all_goals (try (fail_if_success (with_reducible apply Exists.intro)); first | with_reducible assumption | omega | exact mdl (by omega) | exact ilo1 (by omega) | exact ilo2 (by omega) | exact ihi1 (by omega) (by omega) | exact ihi2 (by omega) (by omega))
  · symm; rw [← Bool.not_eq_true, roomOk_iff, all_no (k := k) _ (by omega) h_]; simp
  · refine ⟨k + 1, by omega, ⟨by omega, ?_⟩, ?_⟩
    · rw [all_succ (0, 0) (by omega), hall]; simpa using h_
    · (repeat' (first | with_reducible exact True.intro | with_reducible refine And.intro ?_ ?_ | with_reducible refine Head.mk ?_ ?_ ?_ ?_ | ((conv => lhs; whnf); first | with_reducible rfl | with_reducible exact vInt_s (by omega) | exact rfl) | ((conv => whnf); first | with_reducible exact True.intro | with_reducible refine And.intro ?_ ?_))) <;> (try (conv => lhs; whnf))
  have hpts := take_all (by omega) hall
  clear hall
  refine awp'_loopG (α := Nat) (fun i => [(5, vInt i)]) (fun i => []) (fun i => i ≤ xs.length ∧ ∀ j, j < i → okAt xs j = true) (fun i => xs.length - i) [1, 3] [] (0) ?_
  conv => whnf
  refine ⟨⟨?inv2_, ?vals2_, ?own2_⟩, ?body2_⟩
  case' vals2_ => (repeat' (first | with_reducible exact True.intro | with_reducible refine And.intro ?_ ?_ | with_reducible refine Head.mk ?_ ?_ ?_ ?_ | ((conv => lhs; whnf); first | with_reducible rfl | with_reducible exact vInt_s (by omega) | exact rfl) | ((conv => whnf); first | with_reducible exact True.intro | with_reducible refine And.intro ?_ ?_))) <;> (try (conv => lhs; whnf))
  case' own2_ => (repeat' (first | with_reducible exact True.intro | with_reducible refine And.intro ?_ ?_ | with_reducible refine Head.mk ?_ ?_ ?_ ?_ | ((conv => lhs; whnf); first | with_reducible rfl | with_reducible exact vInt_s (by omega) | exact rfl) | ((conv => whnf); first | with_reducible exact True.intro | with_reducible refine And.intro ?_ ?_))) <;> (try (conv => lhs; whnf))
  · exact ⟨Nat.zero_le _, fun i hi => absurd hi (by omega)⟩
  rintro i g_ o_ v_ ⟨hi, hall⟩
  (repeat' (first | with_reducible exact True.intro | with_reducible refine st_seq ?_ | (with_reducible refine st_regionG hG_ ?_; intro K_ hK_) | (with_reducible refine st_region ?_; intro K_ hK_) | (with_reducible refine hK_ _ _ ?_; try clear hK_ K_) | ((with_reducible refine st_cond (b := ?b_) ?hb_ ?_ ?_); case hb_ => rfl) | with_reducible refine sq_n ?_ | with_reducible refine sq_r ?_ | with_reducible refine sq_e ?_ | with_reducible refine bq_n ?_ | with_reducible refine bq_r ?_ | with_reducible refine bq_q ?_ | with_reducible refine st_block ?_ | with_reducible refine st_exit ?_ | with_reducible refine st_ret ?_ | with_reducible refine st_skip ?_ | with_reducible refine gq_n ?_ | with_reducible refine gq_r ?_ | with_reducible refine gq_e ?_ | with_reducible refine lq_n ?_ | with_reducible refine lq_r ?_ | with_reducible refine lq_e ?_ | with_reducible refine bq_e (by decide) ?_ | ((conv => whnf); first | (with_reducible refine hK_ _ _ ?_; try clear hK_ K_) | (with_reducible refine fun (g_ : Sl) (o_ : Ow) => ?_) | with_reducible exact True.intro | with_reducible refine And.intro trivial ?_ | with_reducible refine And.intro ?_ ?_ | exact Nat.le_of_ble_eq_true rfl | exact Or.inl rfl | (intro h_; cases h_) | (intro h_; (try simp only [cond_true, cond_false, decide_eq_true_eq, decide_eq_false_iff_not, Bool.not_eq_true', Bool.not_eq_false', Int.toNat_natCast, prodEta] at h_)) | rfl))) <;> (try (conv => whnf)) <;> (try first | change (_ : Int) ≤ _ | change (_ : Nat) ≤ _) <;> (try ((fail_if_success (with_reducible apply Exists.intro)); (try dsimp only); (try simp only [cond_true, cond_false, decide_eq_true_eq, decide_eq_false_iff_not, Bool.not_eq_true', Bool.not_eq_false', Int.toNat_natCast, prodEta])))
  all_goals (try (fail_if_success (with_reducible apply Exists.intro)); first | with_reducible assumption | omega | exact mdl (by omega) | exact ilo1 (by omega) | exact ilo2 (by omega) | exact ihi1 (by omega) (by omega) | exact ihi2 (by omega) (by omega))
  · symm; rw [← Bool.not_eq_true, roomOk_iff]
    rintro ⟨-, -, h, -⟩
    have h1 := (okAt_iff.1 (h i (by omega))).1
    rw [mod_nat1 (by omega), mod_nat2 (by omega), Int.toNat_natCast, Int.toNat_natCast] at h_
    exact h1 (eq_of_beq h_)
  · have ht : turn (pAt xs i) (pCy xs (i + 1)) (pCy xs (i + 2)) ≠ 0 := by
      have := h_
      rw [mod_nat1 (by omega), mod_nat2 (by omega), Int.toNat_natCast, Int.toNat_natCast] at this
      exact fun e => (beq_eq_false_iff_ne.1 this) e
    have hin : (i : Int) < xs.length := by omega
    have hi3 : (IntKind.i64.wrap ((i : Int) + 1)).tmod xs.length = (((i + 1) % xs.length : Nat) : Int) := mod_nat1 (by omega)
    clear h_
    refine awp'_loopG (α := Nat) (fun k => [(8, vInt k)]) (fun k => []) (fun k => k ≤ xs.length ∧ ∀ j, j < k → j ≠ i → (j + 1) % xs.length ≠ i → (i + 1) % xs.length ≠ j → meet (wl xs i) (wl xs j) = false) (fun k => xs.length - k) [1, 3, 5, 6, 7] [6, 7] (0) ?_
    conv => whnf
    refine ⟨⟨?inv3_, ?vals3_, ?own3_⟩, ?body3_⟩
    case' vals3_ => (repeat' (first | with_reducible exact True.intro | with_reducible refine And.intro ?_ ?_ | with_reducible refine Head.mk ?_ ?_ ?_ ?_ | ((conv => lhs; whnf); first | with_reducible rfl | with_reducible exact vInt_s (by omega) | exact rfl) | ((conv => whnf); first | with_reducible exact True.intro | with_reducible refine And.intro ?_ ?_))) <;> (try (conv => lhs; whnf))
    case' own3_ => (repeat' (first | with_reducible exact True.intro | with_reducible refine And.intro ?_ ?_ | with_reducible refine Head.mk ?_ ?_ ?_ ?_ | ((conv => lhs; whnf); first | with_reducible rfl | with_reducible exact vInt_s (by omega) | exact rfl) | ((conv => whnf); first | with_reducible exact True.intro | with_reducible refine And.intro ?_ ?_))) <;> (try (conv => lhs; whnf))
    · exact ⟨Nat.zero_le _, fun j h1 => absurd h1 (by omega)⟩
    rintro k g_ o_ v_ ⟨hk, hin2⟩
    (repeat' (first | with_reducible exact True.intro | with_reducible refine st_seq ?_ | (with_reducible refine st_regionG hG_ ?_; intro K_ hK_) | (with_reducible refine st_region ?_; intro K_ hK_) | (with_reducible refine hK_ _ _ ?_; try clear hK_ K_) | ((with_reducible refine st_cond (b := ?b_) ?hb_ ?_ ?_); case hb_ => rfl) | with_reducible refine sq_n ?_ | with_reducible refine sq_r ?_ | with_reducible refine sq_e ?_ | with_reducible refine bq_n ?_ | with_reducible refine bq_r ?_ | with_reducible refine bq_q ?_ | with_reducible refine st_block ?_ | with_reducible refine st_exit ?_ | with_reducible refine st_ret ?_ | with_reducible refine st_skip ?_ | with_reducible refine gq_n ?_ | with_reducible refine gq_r ?_ | with_reducible refine gq_e ?_ | with_reducible refine lq_n ?_ | with_reducible refine lq_r ?_ | with_reducible refine lq_e ?_ | with_reducible refine bq_e (by decide) ?_ | ((conv => whnf); first | (with_reducible refine hK_ _ _ ?_; try clear hK_ K_) | (with_reducible refine fun (g_ : Sl) (o_ : Ow) => ?_) | with_reducible exact True.intro | with_reducible refine And.intro trivial ?_ | with_reducible refine And.intro ?_ ?_ | exact Nat.le_of_ble_eq_true rfl | exact Or.inl rfl | (intro h_; cases h_) | (intro h_; (try simp only [cond_true, cond_false, decide_eq_true_eq, decide_eq_false_iff_not, Bool.not_eq_true', Bool.not_eq_false', Int.toNat_natCast, prodEta] at h_)) | rfl))) <;> (try (conv => whnf)) <;> (try first | change (_ : Int) ≤ _ | change (_ : Nat) ≤ _) <;> (try ((fail_if_success (with_reducible apply Exists.intro)); (try dsimp only); (try simp only [cond_true, cond_false, decide_eq_true_eq, decide_eq_false_iff_not, Bool.not_eq_true', Bool.not_eq_false', Int.toNat_natCast, prodEta])))
    all_goals (try (fail_if_success (with_reducible apply Exists.intro)); first | with_reducible assumption | omega | exact mdl (by omega) | exact ilo1 (by omega) | exact ilo2 (by omega) | exact ihi1 (by omega) (by omega) | exact ihi2 (by omega) (by omega))
    all_goals (try simp (disch := omega) only [ptEq2, cond_true, cond_false, decide_eq_true_eq, decide_eq_false_iff_not, List.length_drop, List.take_length, Int.toNat_zero, List.drop_zero, Nat.zero_add, List.nil_append, mod_nat1, mod_nat2, tm1, tm2, tmj, W_in, List.length_append, List.length_take, List.length_replicate, List.length_set, List.length_map, List.length_cons, List.length_nil, prodEta, Int.toNat_natCast, beq_iff_eq, beq_eq_false_iff_ne, bne_iff_ne, bne_eq_false_iff_eq, ne_eq, Int.natCast_inj, Int.ofNat_lt, Int.ofNat_le] at *)
    · refine ⟨k + 1, by omega, ⟨by omega, fun j h1 h2 h3 h4 => ?_⟩, by (repeat' (first | with_reducible exact True.intro | with_reducible refine And.intro ?_ ?_ | with_reducible refine Head.mk ?_ ?_ ?_ ?_ | ((conv => lhs; whnf); first | with_reducible rfl | with_reducible exact vInt_s (by omega) | exact rfl) | ((conv => whnf); first | with_reducible exact True.intro | with_reducible refine And.intro ?_ ?_))) <;> (try (conv => lhs; whnf))⟩
      rcases Nat.lt_or_ge j k with h5 | h5
      · exact hin2 j h5 h2 h3 h4
      · exact absurd (by omega) h2
    · refine ⟨k + 1, by omega, ⟨by omega, fun j h1 h2 h3 h4 => ?_⟩, by (repeat' (first | with_reducible exact True.intro | with_reducible refine And.intro ?_ ?_ | with_reducible refine Head.mk ?_ ?_ ?_ ?_ | ((conv => lhs; whnf); first | with_reducible rfl | with_reducible exact vInt_s (by omega) | exact rfl) | ((conv => whnf); first | with_reducible exact True.intro | with_reducible refine And.intro ?_ ?_))) <;> (try (conv => lhs; whnf))⟩
      rcases Nat.lt_or_ge j k with h5 | h5
      · exact hin2 j h5 h2 h3 h4
      · rw [show j = k by omega] at h3; exact absurd (by assumption) h3
    · refine ⟨k + 1, by omega, ⟨by omega, fun j h1 h2 h3 h4 => ?_⟩, by (repeat' (first | with_reducible exact True.intro | with_reducible refine And.intro ?_ ?_ | with_reducible refine Head.mk ?_ ?_ ?_ ?_ | ((conv => lhs; whnf); first | with_reducible rfl | with_reducible exact vInt_s (by omega) | exact rfl) | ((conv => whnf); first | with_reducible exact True.intro | with_reducible refine And.intro ?_ ?_))) <;> (try (conv => lhs; whnf))⟩
      rcases Nat.lt_or_ge j k with h5 | h5
      · exact hin2 j h5 h2 h3 h4
      · rw [show j = k by omega] at h4; exact absurd (by assumption) h4
    · symm; rw [← Bool.not_eq_true, roomOk_iff]
      rintro ⟨-, -, h, -⟩
      have h2 := (okAt_iff.1 (h i (by omega))).2 k (by omega) ‹_› ‹_› ‹_›
      exact absurd (show meet (wl xs i) (wl xs k) = true by assumption) (by rw [h2]; decide)
    · refine ⟨k + 1, by omega, ⟨by omega, fun j h1 h2 h3 h4 => ?_⟩, by (repeat' (first | with_reducible exact True.intro | with_reducible refine And.intro ?_ ?_ | with_reducible refine Head.mk ?_ ?_ ?_ ?_ | ((conv => lhs; whnf); first | with_reducible rfl | with_reducible exact vInt_s (by omega) | exact rfl) | ((conv => whnf); first | with_reducible exact True.intro | with_reducible refine And.intro ?_ ?_))) <;> (try (conv => lhs; whnf))⟩
      rcases Nat.lt_or_ge j k with h5 | h5
      · exact hin2 j h5 h2 h3 h4
      · rw [show j = k by omega]; assumption
    · refine ⟨i + 1, by omega, ⟨by omega, fun j hj => ?_⟩, by (repeat' (first | with_reducible exact True.intro | with_reducible refine And.intro ?_ ?_ | with_reducible refine Head.mk ?_ ?_ ?_ ?_ | ((conv => lhs; whnf); first | with_reducible rfl | with_reducible exact vInt_s (by omega) | exact rfl) | ((conv => whnf); first | with_reducible exact True.intro | with_reducible refine And.intro ?_ ?_))) <;> (try (conv => lhs; whnf))⟩
      rcases Nat.lt_or_ge j i with h5 | h5
      · exact hall j h5
      · rw [show j = i by omega]
        exact okAt_iff.2 ⟨ht, fun m h1 h2 h3 h4 => hin2 m (by omega) h2 h3 h4⟩
  · rw [Bool.eq_iff_iff, roomOk_iff]
    simp only [decide_eq_true_eq]
    exact ⟨fun h => ⟨by omega, hpts, fun k hk => hall k (by omega), h⟩, fun h => h.2.2.2⟩
end Go.Proofs.Ytgfhoidmeaollaa
