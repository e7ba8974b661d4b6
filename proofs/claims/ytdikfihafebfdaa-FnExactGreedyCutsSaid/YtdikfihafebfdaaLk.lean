/- Marks in lists of numbers and of truth values. -/
import Derived.Test.YtdikfihafebfdaaLg
import Derived.Test.YtdikfihafebfdaaLi
namespace Go.Proofs.Ytdikfihafebfdaa
open Go.RowKit Go.Proofs.Ytdikfihafebfdaa.Nm
set_option maxRecDepth 10000
set_option maxHeartbeats 2000000
set_option linter.unusedSimpArgs false
set_option linter.unusedVariables false
def heldI (k : Int) (xs : List Int) : Int := if xs = marksI k xs.length then k + xs.length else -1
theorem heldI_marks (k : Int) (n : Nat) : heldI k (marksI k n) = k + n := by unfold heldI; rw [marksI_len, if_pos rfl]
def heldIsC : Con := mkCon [.sl (.b .int), .int] (fun x => x.1.length ≤ 1048576 ∧ 0 ≤ x.2.1 ∧ x.2.1 ≤ 1073741824) fun x => vI (heldI x.2.1 x.1)
theorem heldI_no {n : Int} {xs : List Int} {k : Nat} (hk : k < xs.length) (h : xs.getD k 0 ≠ n + k) : heldI n xs = -1 := by
  unfold heldI
  rw [if_neg]
  intro e
  rw [← marksI_get n hk, ← e] at h
  exact h rfl
theorem heldI_yes {n : Int} {xs : List Int} (h : ∀ k, k < xs.length → xs.getD k 0 = n + k) : heldI n xs = n + xs.length := by
  unfold heldI
  rw [if_pos]
  refine List.ext_getElem (marksI_len _ _).symm fun j h1 h2 => ?_
  have := h j h1
  rw [← marksI_get n h1, getD_lt _ h1, getD_lt _ h2] at this
  exact this
theorem heldIntS_ok : Good1 Try.prog n_laws_heldIntS heldIsC := by
  refine good_ofG (tys := tyL) (env := []) (envw := []) (envd := []) [] [] [] [] [] mixed tys trivial trivial trivial Try.func24 rfl (by kernel_rfl) (by decide) (by kernel_rfl) ?_
  have hG_ := kpz [(0, [0, 1]), (1, [0, 1, 5]), (2, [0, 1, 5, 9]), (3, [0, 1, 5]), (4, [0, 1, 5, 17]), (5, [4]), (6, [0, 1, 5]), (7, [4])] [] [] []
  rintro ⟨(xs : List Int), (n : Int), ⟨⟩⟩ ⟨(h1 : xs.length ≤ _), (h2 : 0 ≤ n), (h3 : n ≤ _)⟩
  (repeat' (first | with_reducible exact True.intro | with_reducible refine st_seq ?_ | (with_reducible refine st_regionG hG_ ?_; intro K_ hK_) | (with_reducible refine st_region ?_; intro K_ hK_) | (with_reducible refine hK_ _ _ ?_; try clear hK_ K_) | ((with_reducible refine st_cond (b := ?b_) ?hb_ ?_ ?_); case hb_ => rfl) | with_reducible refine sq_n ?_ | with_reducible refine sq_r ?_ | with_reducible refine sq_e ?_ | with_reducible refine bq_n ?_ | with_reducible refine bq_r ?_ | with_reducible refine bq_q ?_ | with_reducible refine st_block ?_ | with_reducible refine st_exit ?_ | with_reducible refine st_ret ?_ | with_reducible refine st_skip ?_ | with_reducible refine gq_n ?_ | with_reducible refine gq_r ?_ | with_reducible refine gq_e ?_ | with_reducible refine lq_n ?_ | with_reducible refine lq_r ?_ | with_reducible refine lq_e ?_ | with_reducible refine bq_e (by decide) ?_ | ((conv => whnf); first | (with_reducible refine hK_ _ _ ?_; try clear hK_ K_) | (with_reducible refine fun (g_ : Sl) (o_ : Ow) => ?_) | with_reducible exact True.intro | with_reducible refine And.intro trivial ?_ | with_reducible refine And.intro ?_ ?_ | exact Nat.le_of_ble_eq_true rfl | exact Or.inl rfl | (intro h_; cases h_) | (intro h_; (try simp only [cond_true, cond_false, decide_eq_true_eq, decide_eq_false_iff_not, Bool.not_eq_true', Bool.not_eq_false', Int.toNat_natCast, prodEta] at h_)) | rfl))) <;> (try (conv => whnf)) <;> (try first | change (_ : Int) ≤ _ | change (_ : Nat) ≤ _) <;> (try ((fail_if_success (with_reducible apply Exists.intro)); (try dsimp only); (try simp only [cond_true, cond_false, decide_eq_true_eq, decide_eq_false_iff_not, Bool.not_eq_true', Bool.not_eq_false', Int.toNat_natCast, prodEta]))) <;> (try simp (disch := omega) only [ptEq2, cond_true, cond_false, decide_eq_true_eq, decide_eq_false_iff_not, List.length_drop, List.take_length, Int.toNat_zero, List.drop_zero, Nat.zero_add, List.nil_append, mod_nat1, mod_nat2, tm1, tm2, tmj, W_in, List.length_append, List.length_take, List.length_replicate, List.length_set, List.length_map, List.length_cons, List.length_nil, prodEta, Int.toNat_natCast, beq_iff_eq, beq_eq_false_iff_ne, bne_iff_ne, bne_eq_false_iff_eq, ne_eq, Int.natCast_inj, Int.ofNat_lt, Int.ofNat_le] at *)
  refine awp'_loopG (α := Nat) (fun k ver_ => [(5, vInt k), (1, vInt (n + k))]) (fun k ver_ => []) (fun k ver_ => []) (fun k => k ≤ xs.length ∧ ∀ j, j < k → xs.getD j 0 = n + j) (fun k => xs.length - k) [0] [] (0) ?_
  conv => whnf
  refine ⟨⟨?inv1_, ?vals1_, ?own1_, ?fix1_⟩, ?body1_⟩
  case' vals1_ => (repeat' (first | with_reducible exact True.intro | with_reducible refine And.intro ?_ ?_ | with_reducible refine Head.mk ?_ ?_ ?_ ?_ | ((conv => lhs; whnf); first | with_reducible rfl | with_reducible exact vInt_s (by omega) | exact rfl) | ((conv => whnf); first | with_reducible exact True.intro | with_reducible refine And.intro ?_ ?_))) <;> (try (conv => lhs; whnf))
  case' own1_ => (repeat' (first | with_reducible exact True.intro | with_reducible refine And.intro ?_ ?_ | with_reducible refine Head.mk ?_ ?_ ?_ ?_ | ((conv => lhs; whnf); first | with_reducible rfl | with_reducible exact vInt_s (by omega) | exact rfl) | ((conv => whnf); first | with_reducible exact True.intro | with_reducible refine And.intro ?_ ?_))) <;> (try (conv => lhs; whnf))
  case' fix1_ => (repeat' (first | with_reducible exact True.intro | with_reducible refine And.intro ?_ ?_ | with_reducible refine Head.mk ?_ ?_ ?_ ?_ | ((conv => lhs; whnf); first | with_reducible rfl | with_reducible exact vInt_s (by omega) | exact rfl) | ((conv => whnf); first | with_reducible exact True.intro | with_reducible refine And.intro ?_ ?_))) <;> (try (conv => lhs; whnf))
  · exact congrArg vInt (by simp)
  · exact ⟨Nat.zero_le _, fun j hj => absurd hj (by omega)⟩
  rintro k g_ o_ v_ ⟨hk, hall⟩
  (repeat' (first | with_reducible exact True.intro | with_reducible refine st_seq ?_ | (with_reducible refine st_regionG hG_ ?_; intro K_ hK_) | (with_reducible refine st_region ?_; intro K_ hK_) | (with_reducible refine hK_ _ _ ?_; try clear hK_ K_) | ((with_reducible refine st_cond (b := ?b_) ?hb_ ?_ ?_); case hb_ => rfl) | with_reducible refine sq_n ?_ | with_reducible refine sq_r ?_ | with_reducible refine sq_e ?_ | with_reducible refine bq_n ?_ | with_reducible refine bq_r ?_ | with_reducible refine bq_q ?_ | with_reducible refine st_block ?_ | with_reducible refine st_exit ?_ | with_reducible refine st_ret ?_ | with_reducible refine st_skip ?_ | with_reducible refine gq_n ?_ | with_reducible refine gq_r ?_ | with_reducible refine gq_e ?_ | with_reducible refine lq_n ?_ | with_reducible refine lq_r ?_ | with_reducible refine lq_e ?_ | with_reducible refine bq_e (by decide) ?_ | ((conv => whnf); first | (with_reducible refine hK_ _ _ ?_; try clear hK_ K_) | (with_reducible refine fun (g_ : Sl) (o_ : Ow) => ?_) | with_reducible exact True.intro | with_reducible refine And.intro trivial ?_ | with_reducible refine And.intro ?_ ?_ | exact Nat.le_of_ble_eq_true rfl | exact Or.inl rfl | (intro h_; cases h_) | (intro h_; (try simp only [cond_true, cond_false, decide_eq_true_eq, decide_eq_false_iff_not, Bool.not_eq_true', Bool.not_eq_false', Int.toNat_natCast, prodEta] at h_)) | rfl))) <;> (try (conv => whnf)) <;> (try first | change (_ : Int) ≤ _ | change (_ : Nat) ≤ _) <;> (try ((fail_if_success (with_reducible apply Exists.intro)); (try dsimp only); (try simp only [cond_true, cond_false, decide_eq_true_eq, decide_eq_false_iff_not, Bool.not_eq_true', Bool.not_eq_false', Int.toNat_natCast, prodEta]))) <;> (try simp (disch := omega) only [ptEq2, cond_true, cond_false, decide_eq_true_eq, decide_eq_false_iff_not, List.length_drop, List.take_length, Int.toNat_zero, List.drop_zero, Nat.zero_add, List.nil_append, mod_nat1, mod_nat2, tm1, tm2, tmj, W_in, List.length_append, List.length_take, List.length_replicate, List.length_set, List.length_map, List.length_cons, List.length_nil, prodEta, Int.toNat_natCast, beq_iff_eq, beq_eq_false_iff_ne, bne_iff_ne, bne_eq_false_iff_eq, ne_eq, Int.natCast_inj, Int.ofNat_lt, Int.ofNat_le] at *)
  all_goals (try (fail_if_success (with_reducible apply Exists.intro)); first | with_reducible assumption | omega | exact mdl (by omega) | exact ilo1 (by omega) | exact ilo2 (by omega) | exact ihi1 (by omega) (by omega) | exact ihi2 (by omega) (by omega))
  · exact (heldI_no ‹k < xs.length› (by assumption)).symm
  · refine ⟨k + 1, by omega, ⟨by omega, fun j hj => ?_⟩, ?_⟩
    · rcases Nat.lt_or_ge j k with h5 | h5
      · exact hall j h5
      · rw [show j = k by omega]; assumption
    · (repeat' (first | with_reducible exact True.intro | with_reducible refine And.intro ?_ ?_ | with_reducible refine Head.mk ?_ ?_ ?_ ?_ | ((conv => lhs; whnf); first | with_reducible rfl | with_reducible exact vInt_s (by omega) | exact rfl) | ((conv => whnf); first | with_reducible exact True.intro | with_reducible refine And.intro ?_ ?_))) <;> (try (conv => lhs; whnf))
      exact congrArg vInt (by omega)
  · rw [heldI_yes fun j hj => hall j (by omega)]; omega
/-- What a marked list of truth values holds. -/
def marksB (k : Int) : Nat → List Bool
  | 0 => []
  | n + 1 => (Int.tmod k 3 == 0) :: marksB (k + 1) n
theorem marksB_len : ∀ (n : Nat) (k : Int), (marksB k n).length = n
  | 0, _ => rfl
  | n + 1, k => by simp [marksB, marksB_len n]
theorem marksB_get : ∀ {n j : Nat} (k : Int), j < n → (marksB k n).getD j false = (Int.tmod (k + j) 3 == 0)
  | n + 1, 0, k, _ => by simp [marksB]
  | n + 1, j + 1, k, h => by
    have := marksB_get (n := n) (j := j) (k + 1) (by omega)
    simp only [marksB, List.getD_cons_succ, this]
    rw [show k + 1 + (j : Int) = k + ((j + 1 : Nat) : Int) by omega]
def heldB (k : Int) (xs : List Bool) : Int := if xs = marksB k xs.length then k + xs.length else -1
theorem heldB_marks (k : Int) (n : Nat) : heldB k (marksB k n) = k + n := by unfold heldB; rw [marksB_len, if_pos rfl]
def heldBsC : Con := mkCon [.sl (.b .bool), .int] (fun x => x.1.length ≤ 1048576 ∧ 0 ≤ x.2.1 ∧ x.2.1 ≤ 1073741824) fun x => vI (heldB x.2.1 x.1)
theorem heldB_no {n : Int} {xs : List Bool} {k : Nat} (hk : k < xs.length) (h : xs.getD k false ≠ (Int.tmod (n + k) 3 == 0)) : heldB n xs = -1 := by
  unfold heldB
  rw [if_neg]
  intro e
  rw [← marksB_get n hk, ← e] at h
  exact h rfl
theorem heldB_yes {n : Int} {xs : List Bool} (h : ∀ k, k < xs.length → xs.getD k false = (Int.tmod (n + k) 3 == 0)) : heldB n xs = n + xs.length := by
  unfold heldB
  rw [if_pos]
  refine List.ext_getElem (marksB_len _ _).symm fun j h1 h2 => ?_
  have := h j h1
  rw [← marksB_get n h1, getD_lt _ h1, getD_lt _ h2] at this
  exact this
def markBsC : ConW := mkConW [.sl (.b .bool), .int] 0 t_bool (fun x => x.1.length ≤ 1048576 ∧ 0 ≤ x.2.1 ∧ x.2.1 ≤ 1073741824) (fun x => vInt (x.2.1 + x.1.length)) fun x => ⟨.b .bool, marksB x.2.1 x.1.length, false⟩
end Go.Proofs.Ytdikfihafebfdaa
