/- Pockets of a room: contracts and law. -/
import Derived.Test.YtfjmlaciogmndaaLi
import Derived.Test.YtfjmlaciogmndaaGx
import Derived.Test.YtfjmlaciogmndaaPm
namespace Go.Proofs.Ytfjmlaciogmndaa
open Go.RowKit Go.Proofs.Ytfjmlaciogmndaa.Nm
set_option maxRecDepth 10000
set_option maxHeartbeats 2000000
set_option linter.unusedSimpArgs false
set_option linter.unusedVariables false
/-! ### The number of a corner -/
def cixTo (xs : List Pt) (p : Pt) : Nat → Int
  | 0 => -1
  | k + 1 => if cixTo xs p k < 0 then (if pAt xs k = p then k else -1) else cixTo xs p k
def cix (xs : List Pt) (p : Pt) : Int := cixTo xs p xs.length
theorem cix_bd (xs : List Pt) (p : Pt) (k : Nat) : -1 ≤ cixTo xs p k ∧ cixTo xs p k < k ∨ (k = 0 ∧ cixTo xs p k = -1) := by
  induction k with
  | zero => exact .inr ⟨rfl, rfl⟩
  | succ k ih =>
    refine .inl ?_
    unfold cixTo
    split
    · split <;> omega
    · omega
theorem cix_none {xs : List Pt} {p : Pt} {k : Nat} (h : ∀ j, j < k → pAt xs j ≠ p) : cixTo xs p k = -1 := by
  induction k with
  | zero => rfl
  | succ k ih => unfold cixTo; rw [ih fun j hj => h j (by omega), if_pos (by omega), if_neg (h k (by omega))]
theorem cix_at {xs : List Pt} {p : Pt} {i k : Nat} (h : ∀ j, j < i → pAt xs j ≠ p) (he : pAt xs i = p) (hk : i < k) : cixTo xs p k = i := by
  induction k with
  | zero => omega
  | succ k ih =>
    unfold cixTo
    rcases (show i = k ∨ i < k by omega) with e | e
    · subst e; rw [cix_none h, if_pos (by omega), if_pos he]
    · rw [ih e, if_neg (by omega)]
theorem cix_mem {xs : List Pt} {p : Pt} (h : p ∈ xs) : ∃ i, i < xs.length ∧ cix xs p = i ∧ pAt xs i = p := by
  obtain ⟨n, hn, e⟩ := List.getElem_of_mem h
  have ex : ∃ i, i < xs.length ∧ pAt xs i = p := ⟨n, hn, by rw [show pAt xs n = xs[n] from getD_lt _ hn]; exact e⟩
  have key : ∀ m, (∃ i, i < m ∧ pAt xs i = p) → ∃ i, i < m ∧ pAt xs i = p ∧ ∀ j, j < i → pAt xs j ≠ p := by
    intro m
    induction m with
    | zero => rintro ⟨i, hi, _⟩; omega
    | succ m ih =>
      rintro ⟨i, hi, he⟩
      by_cases h2 : ∃ i, i < m ∧ pAt xs i = p
      · obtain ⟨i, h1, h3, h4⟩ := ih h2
        exact ⟨i, by omega, h3, h4⟩
      · have : i = m := by
          rcases (show i = m ∨ i < m by omega) with g | g
          · exact g
          · exact absurd ⟨i, g, he⟩ h2
        subst this
        exact ⟨i, hi, he, fun j hj e => h2 ⟨j, hj, e⟩⟩
  obtain ⟨i, h1, h2, h3⟩ := key _ ex
  exact ⟨i, h1, cix_at h3 h2 h1, h2⟩
def isCornerC : Con := mkCon [.room, .pt] (fun x => x.1.length ≤ 1048576) fun x => vI (cix x.1 x.2.1)
theorem iIsCorner_ok : Good1 Try.prog n_impl_IsCorner isCornerC := by
  refine good_ofG (tys := tyL) (env := []) (envw := []) (envd := []) [] [] [] [] [] mixed tys trivial trivial trivial Try.func24 rfl (by kernel_rfl) (by decide) (by kernel_rfl) ?_
  have hG_ := kpz [(0, [2, 3]), (1, [3, 8, 9, 10]), (2, [3, 8, 9, 10, 11]), (3, [3, 5, 6, 8, 9, 10]), (4, [3, 5, 8, 9, 10, 17]), (5, [4]), (6, [3, 8, 9, 10]), (7, [4])] [(3, [6])] [] []
  rintro ⟨(xs : List Pt), (p : Pt), ⟨⟩⟩ (h1 : xs.length ≤ _)
  (repeat' (first | with_reducible exact True.intro | with_reducible refine st_seq ?_ | (with_reducible refine st_regionG hG_ ?_; intro K_ hK_) | (with_reducible refine st_region ?_; intro K_ hK_) | (with_reducible refine hK_ _ _ ?_; try clear hK_ K_) | ((with_reducible refine st_cond (b := ?b_) ?hb_ ?_ ?_); case hb_ => rfl) | with_reducible refine sq_n ?_ | with_reducible refine sq_r ?_ | with_reducible refine sq_e ?_ | with_reducible refine bq_n ?_ | with_reducible refine bq_r ?_ | with_reducible refine bq_q ?_ | with_reducible refine st_block ?_ | with_reducible refine st_exit ?_ | with_reducible refine st_ret ?_ | with_reducible refine st_skip ?_ | with_reducible refine gq_n ?_ | with_reducible refine gq_r ?_ | with_reducible refine gq_e ?_ | with_reducible refine lq_n ?_ | with_reducible refine lq_r ?_ | with_reducible refine lq_e ?_ | with_reducible refine bq_e (by decide) ?_ | ((conv => whnf); first | (with_reducible refine hK_ _ _ ?_; try clear hK_ K_) | (with_reducible refine fun (g_ : Sl) (o_ : Ow) => ?_) | with_reducible exact True.intro | with_reducible refine And.intro trivial ?_ | with_reducible refine And.intro ?_ ?_ | exact Nat.le_of_ble_eq_true rfl | exact Or.inl rfl | (intro h_; cases h_) | (intro h_; (try simp only [cond_true, cond_false, decide_eq_true_eq, decide_eq_false_iff_not, Bool.not_eq_true', Bool.not_eq_false', Int.toNat_natCast, prodEta] at h_)) | rfl))) <;> (try (conv => whnf)) <;> (try first | change (_ : Int) ≤ _ | change (_ : Nat) ≤ _) <;> (try ((fail_if_success (with_reducible apply Exists.intro)); (try dsimp only); (try simp only [cond_true, cond_false, decide_eq_true_eq, decide_eq_false_iff_not, Bool.not_eq_true', Bool.not_eq_false', Int.toNat_natCast, prodEta]))) <;> (try simp (disch := omega) only [ptEq2, cond_true, cond_false, decide_eq_true_eq, decide_eq_false_iff_not, List.length_drop, List.take_length, Int.toNat_zero, List.drop_zero, Nat.zero_add, List.nil_append, mod_nat1, mod_nat2, tm1, tm2, tmj, W_in, Int.add_sub_cancel, tn1, tnp, tnc, List.length_append, List.length_take, List.length_replicate, List.length_set, List.length_map, List.length_cons, List.length_nil, prodEta, Int.toNat_natCast, beq_iff_eq, beq_eq_false_iff_ne, bne_iff_ne, bne_eq_false_iff_eq, ne_eq, Int.natCast_inj, Int.ofNat_lt, Int.ofNat_le] at *)
  all_goals (try (fail_if_success (with_reducible apply Exists.intro)); first | with_reducible assumption | omega | exact mdl (by omega) | exact ilo1 (by omega) | exact ilo2 (by omega) | exact ihi1 (by omega) (by omega) | exact ihi2 (by omega) (by omega))
  refine awp'_loopG (α := Nat) (fun k ver_ => [(10, vInt k)]) (fun k ver_ => []) (fun k ver_ => []) (fun k => k ≤ xs.length ∧ ∀ j, j < k → pAt xs j ≠ p) (fun k => xs.length - k) [3, 8, 9] [] (0) ?_
  conv => whnf
  refine ⟨⟨?inv1_, ?vals1_, ?own1_, ?fix1_⟩, ?body1_⟩
  case' vals1_ => (repeat' (first | with_reducible exact True.intro | with_reducible refine And.intro ?_ ?_ | with_reducible refine Head.mk ?_ ?_ ?_ ?_ | ((conv => lhs; whnf); first | with_reducible rfl | with_reducible exact vInt_s (by omega) | exact rfl) | ((conv => whnf); first | with_reducible exact True.intro | with_reducible refine And.intro ?_ ?_))) <;> (try (conv => lhs; whnf))
  case' own1_ => (repeat' (first | with_reducible exact True.intro | with_reducible refine And.intro ?_ ?_ | with_reducible refine Head.mk ?_ ?_ ?_ ?_ | ((conv => lhs; whnf); first | with_reducible rfl | with_reducible exact vInt_s (by omega) | exact rfl) | ((conv => whnf); first | with_reducible exact True.intro | with_reducible refine And.intro ?_ ?_))) <;> (try (conv => lhs; whnf))
  case' fix1_ => (repeat' (first | with_reducible exact True.intro | with_reducible refine And.intro ?_ ?_ | with_reducible refine Head.mk ?_ ?_ ?_ ?_ | ((conv => lhs; whnf); first | with_reducible rfl | with_reducible exact vInt_s (by omega) | exact rfl) | ((conv => whnf); first | with_reducible exact True.intro | with_reducible refine And.intro ?_ ?_))) <;> (try (conv => lhs; whnf))
  · exact ⟨Nat.zero_le _, fun j hj => absurd hj (by omega)⟩
  rintro k g_ o_ v_ ⟨hk, hall⟩
  (repeat' (first | with_reducible exact True.intro | with_reducible refine st_seq ?_ | (with_reducible refine st_regionG hG_ ?_; intro K_ hK_) | (with_reducible refine st_region ?_; intro K_ hK_) | (with_reducible refine hK_ _ _ ?_; try clear hK_ K_) | ((with_reducible refine st_cond (b := ?b_) ?hb_ ?_ ?_); case hb_ => rfl) | with_reducible refine sq_n ?_ | with_reducible refine sq_r ?_ | with_reducible refine sq_e ?_ | with_reducible refine bq_n ?_ | with_reducible refine bq_r ?_ | with_reducible refine bq_q ?_ | with_reducible refine st_block ?_ | with_reducible refine st_exit ?_ | with_reducible refine st_ret ?_ | with_reducible refine st_skip ?_ | with_reducible refine gq_n ?_ | with_reducible refine gq_r ?_ | with_reducible refine gq_e ?_ | with_reducible refine lq_n ?_ | with_reducible refine lq_r ?_ | with_reducible refine lq_e ?_ | with_reducible refine bq_e (by decide) ?_ | ((conv => whnf); first | (with_reducible refine hK_ _ _ ?_; try clear hK_ K_) | (with_reducible refine fun (g_ : Sl) (o_ : Ow) => ?_) | with_reducible exact True.intro | with_reducible refine And.intro trivial ?_ | with_reducible refine And.intro ?_ ?_ | exact Nat.le_of_ble_eq_true rfl | exact Or.inl rfl | (intro h_; cases h_) | (intro h_; (try simp only [cond_true, cond_false, decide_eq_true_eq, decide_eq_false_iff_not, Bool.not_eq_true', Bool.not_eq_false', Int.toNat_natCast, prodEta] at h_)) | rfl))) <;> (try (conv => whnf)) <;> (try first | change (_ : Int) ≤ _ | change (_ : Nat) ≤ _) <;> (try ((fail_if_success (with_reducible apply Exists.intro)); (try dsimp only); (try simp only [cond_true, cond_false, decide_eq_true_eq, decide_eq_false_iff_not, Bool.not_eq_true', Bool.not_eq_false', Int.toNat_natCast, prodEta]))) <;> (try simp (disch := omega) only [ptEq2, cond_true, cond_false, decide_eq_true_eq, decide_eq_false_iff_not, List.length_drop, List.take_length, Int.toNat_zero, List.drop_zero, Nat.zero_add, List.nil_append, mod_nat1, mod_nat2, tm1, tm2, tmj, W_in, Int.add_sub_cancel, tn1, tnp, tnc, List.length_append, List.length_take, List.length_replicate, List.length_set, List.length_map, List.length_cons, List.length_nil, prodEta, Int.toNat_natCast, beq_iff_eq, beq_eq_false_iff_ne, bne_iff_ne, bne_eq_false_iff_eq, ne_eq, Int.natCast_inj, Int.ofNat_lt, Int.ofNat_le] at *)
  all_goals (try (fail_if_success (with_reducible apply Exists.intro)); first | with_reducible assumption | omega | exact mdl (by omega) | exact ilo1 (by omega) | exact ilo2 (by omega) | exact ihi1 (by omega) (by omega) | exact ihi2 (by omega) (by omega))
  · exact (cix_at hall h_ (by assumption)).symm
  · refine ⟨k + 1, by omega, ⟨by omega, fun j hj => ?_⟩, ?_⟩
    · rcases (show j < k ∨ j = k by omega) with g | rfl
      · exact hall j g
      · exact h_
    · (repeat' (first | with_reducible exact True.intro | with_reducible refine And.intro ?_ ?_ | with_reducible refine Head.mk ?_ ?_ ?_ ?_ | ((conv => lhs; whnf); first | with_reducible rfl | with_reducible exact vInt_s (by omega) | exact rfl) | ((conv => whnf); first | with_reducible exact True.intro | with_reducible refine And.intro ?_ ?_))) <;> (try (conv => lhs; whnf))
  · exact (cix_none fun j hj => hall j (by omega)).symm
theorem sIsCorner_ok : Good1 Try.prog n_spec_IsCorner isCornerC := by
  refine good_ofG (tys := tyL) (env := []) (envw := []) (envd := []) [] [] [] [] [] mixed tys trivial trivial trivial Try.func18 rfl (by kernel_rfl) (by decide) (by kernel_rfl) ?_
  have hG_ := kpz [(0, [2, 3]), (1, [2, 3, 5]), (2, [2, 3, 5, 10]), (3, [2, 3, 5]), (4, [2, 3, 5, 19]), (5, [4]), (6, [4])] [] [] []
  rintro ⟨(xs : List Pt), (p : Pt), ⟨⟩⟩ (h1 : xs.length ≤ _)
  (repeat' (first | with_reducible exact True.intro | with_reducible refine st_seq ?_ | (with_reducible refine st_regionG hG_ ?_; intro K_ hK_) | (with_reducible refine st_region ?_; intro K_ hK_) | (with_reducible refine hK_ _ _ ?_; try clear hK_ K_) | ((with_reducible refine st_cond (b := ?b_) ?hb_ ?_ ?_); case hb_ => rfl) | with_reducible refine sq_n ?_ | with_reducible refine sq_r ?_ | with_reducible refine sq_e ?_ | with_reducible refine bq_n ?_ | with_reducible refine bq_r ?_ | with_reducible refine bq_q ?_ | with_reducible refine st_block ?_ | with_reducible refine st_exit ?_ | with_reducible refine st_ret ?_ | with_reducible refine st_skip ?_ | with_reducible refine gq_n ?_ | with_reducible refine gq_r ?_ | with_reducible refine gq_e ?_ | with_reducible refine lq_n ?_ | with_reducible refine lq_r ?_ | with_reducible refine lq_e ?_ | with_reducible refine bq_e (by decide) ?_ | ((conv => whnf); first | (with_reducible refine hK_ _ _ ?_; try clear hK_ K_) | (with_reducible refine fun (g_ : Sl) (o_ : Ow) => ?_) | with_reducible exact True.intro | with_reducible refine And.intro trivial ?_ | with_reducible refine And.intro ?_ ?_ | exact Nat.le_of_ble_eq_true rfl | exact Or.inl rfl | (intro h_; cases h_) | (intro h_; (try simp only [cond_true, cond_false, decide_eq_true_eq, decide_eq_false_iff_not, Bool.not_eq_true', Bool.not_eq_false', Int.toNat_natCast, prodEta] at h_)) | rfl))) <;> (try (conv => whnf)) <;> (try first | change (_ : Int) ≤ _ | change (_ : Nat) ≤ _) <;> (try ((fail_if_success (with_reducible apply Exists.intro)); (try dsimp only); (try simp only [cond_true, cond_false, decide_eq_true_eq, decide_eq_false_iff_not, Bool.not_eq_true', Bool.not_eq_false', Int.toNat_natCast, prodEta]))) <;> (try simp (disch := omega) only [ptEq2, cond_true, cond_false, decide_eq_true_eq, decide_eq_false_iff_not, List.length_drop, List.take_length, Int.toNat_zero, List.drop_zero, Nat.zero_add, List.nil_append, mod_nat1, mod_nat2, tm1, tm2, tmj, W_in, Int.add_sub_cancel, tn1, tnp, tnc, List.length_append, List.length_take, List.length_replicate, List.length_set, List.length_map, List.length_cons, List.length_nil, prodEta, Int.toNat_natCast, beq_iff_eq, beq_eq_false_iff_ne, bne_iff_ne, bne_eq_false_iff_eq, ne_eq, Int.natCast_inj, Int.ofNat_lt, Int.ofNat_le] at *)
  all_goals (try (fail_if_success (with_reducible apply Exists.intro)); first | with_reducible assumption | omega | exact mdl (by omega) | exact ilo1 (by omega) | exact ilo2 (by omega) | exact ihi1 (by omega) (by omega) | exact ihi2 (by omega) (by omega))
  refine awp'_loopG (α := Nat) (fun k ver_ => [(5, vInt k)]) (fun k ver_ => []) (fun k ver_ => []) (fun k => k ≤ xs.length ∧ ∀ j, j < k → pAt xs j ≠ p) (fun k => xs.length - k) [2, 3] [] (0) ?_
  conv => whnf
  refine ⟨⟨?inv2_, ?vals2_, ?own2_, ?fix2_⟩, ?body2_⟩
  case' vals2_ => (repeat' (first | with_reducible exact True.intro | with_reducible refine And.intro ?_ ?_ | with_reducible refine Head.mk ?_ ?_ ?_ ?_ | ((conv => lhs; whnf); first | with_reducible rfl | with_reducible exact vInt_s (by omega) | exact rfl) | ((conv => whnf); first | with_reducible exact True.intro | with_reducible refine And.intro ?_ ?_))) <;> (try (conv => lhs; whnf))
  case' own2_ => (repeat' (first | with_reducible exact True.intro | with_reducible refine And.intro ?_ ?_ | with_reducible refine Head.mk ?_ ?_ ?_ ?_ | ((conv => lhs; whnf); first | with_reducible rfl | with_reducible exact vInt_s (by omega) | exact rfl) | ((conv => whnf); first | with_reducible exact True.intro | with_reducible refine And.intro ?_ ?_))) <;> (try (conv => lhs; whnf))
  case' fix2_ => (repeat' (first | with_reducible exact True.intro | with_reducible refine And.intro ?_ ?_ | with_reducible refine Head.mk ?_ ?_ ?_ ?_ | ((conv => lhs; whnf); first | with_reducible rfl | with_reducible exact vInt_s (by omega) | exact rfl) | ((conv => whnf); first | with_reducible exact True.intro | with_reducible refine And.intro ?_ ?_))) <;> (try (conv => lhs; whnf))
  · exact ⟨Nat.zero_le _, fun j hj => absurd hj (by omega)⟩
  rintro k g_ o_ v_ ⟨hk, hall⟩
  (repeat' (first | with_reducible exact True.intro | with_reducible refine st_seq ?_ | (with_reducible refine st_regionG hG_ ?_; intro K_ hK_) | (with_reducible refine st_region ?_; intro K_ hK_) | (with_reducible refine hK_ _ _ ?_; try clear hK_ K_) | ((with_reducible refine st_cond (b := ?b_) ?hb_ ?_ ?_); case hb_ => rfl) | with_reducible refine sq_n ?_ | with_reducible refine sq_r ?_ | with_reducible refine sq_e ?_ | with_reducible refine bq_n ?_ | with_reducible refine bq_r ?_ | with_reducible refine bq_q ?_ | with_reducible refine st_block ?_ | with_reducible refine st_exit ?_ | with_reducible refine st_ret ?_ | with_reducible refine st_skip ?_ | with_reducible refine gq_n ?_ | with_reducible refine gq_r ?_ | with_reducible refine gq_e ?_ | with_reducible refine lq_n ?_ | with_reducible refine lq_r ?_ | with_reducible refine lq_e ?_ | with_reducible refine bq_e (by decide) ?_ | ((conv => whnf); first | (with_reducible refine hK_ _ _ ?_; try clear hK_ K_) | (with_reducible refine fun (g_ : Sl) (o_ : Ow) => ?_) | with_reducible exact True.intro | with_reducible refine And.intro trivial ?_ | with_reducible refine And.intro ?_ ?_ | exact Nat.le_of_ble_eq_true rfl | exact Or.inl rfl | (intro h_; cases h_) | (intro h_; (try simp only [cond_true, cond_false, decide_eq_true_eq, decide_eq_false_iff_not, Bool.not_eq_true', Bool.not_eq_false', Int.toNat_natCast, prodEta] at h_)) | rfl))) <;> (try (conv => whnf)) <;> (try first | change (_ : Int) ≤ _ | change (_ : Nat) ≤ _) <;> (try ((fail_if_success (with_reducible apply Exists.intro)); (try dsimp only); (try simp only [cond_true, cond_false, decide_eq_true_eq, decide_eq_false_iff_not, Bool.not_eq_true', Bool.not_eq_false', Int.toNat_natCast, prodEta]))) <;> (try simp (disch := omega) only [ptEq2, cond_true, cond_false, decide_eq_true_eq, decide_eq_false_iff_not, List.length_drop, List.take_length, Int.toNat_zero, List.drop_zero, Nat.zero_add, List.nil_append, mod_nat1, mod_nat2, tm1, tm2, tmj, W_in, Int.add_sub_cancel, tn1, tnp, tnc, List.length_append, List.length_take, List.length_replicate, List.length_set, List.length_map, List.length_cons, List.length_nil, prodEta, Int.toNat_natCast, beq_iff_eq, beq_eq_false_iff_ne, bne_iff_ne, bne_eq_false_iff_eq, ne_eq, Int.natCast_inj, Int.ofNat_lt, Int.ofNat_le] at *)
  all_goals (try (fail_if_success (with_reducible apply Exists.intro)); first | with_reducible assumption | omega | exact mdl (by omega) | exact ilo1 (by omega) | exact ilo2 (by omega) | exact ihi1 (by omega) (by omega) | exact ihi2 (by omega) (by omega))
  · exact (cix_at hall h_ (by assumption)).symm
  · refine ⟨k + 1, by omega, ⟨by omega, fun j hj => ?_⟩, ?_⟩
    · rcases (show j < k ∨ j = k by omega) with g | rfl
      · exact hall j g
      · exact h_
    · (repeat' (first | with_reducible exact True.intro | with_reducible refine And.intro ?_ ?_ | with_reducible refine Head.mk ?_ ?_ ?_ ?_ | ((conv => lhs; whnf); first | with_reducible rfl | with_reducible exact vInt_s (by omega) | exact rfl) | ((conv => whnf); first | with_reducible exact True.intro | with_reducible refine And.intro ?_ ?_))) <;> (try (conv => lhs; whnf))
  · exact (cix_none fun j hj => hall j (by omega)).symm
/-! ### Walls of the hull -/
theorem hull_edge {xs : List Pt} (h : 0 < xs.length) (hok : xs.all ptOk = true) {k : Nat} (hk : k < (hullM xs).length) :
    pAt (hullM xs) k ∈ xs ∧ pCy (hullM xs) (k + 1) ∈ xs ∧ pAt (hullM xs) k ≠ pCy (hullM xs) (k + 1) ∧ ∀ q ∈ xs, 0 ≤ turnZ (pAt (hullM xs) k) (pCy (hullM xs) (k + 1)) q ∧ (turnZ (pAt (hullM xs) k) (pCy (hullM xs) (k + 1)) q = 0 → OnZ q (pAt (hullM xs) k) (pCy (hullM xs) (k + 1))) := by
  have hbd := bd_all hok
  have hne : ordP xs ≠ [] := fun e => by
    have := ord_low h
    rw [e] at this; cases this
  have hbo : ∀ q ∈ ordP xs, Bd q := fun q hq => hbd q (ordP_mem.1 hq)
  obtain ⟨⟨r1, r2, r3⟩, r4, r5⟩ := round_of hne (ordP_sorted xs) hbo
  have hm : hullM xs = rawHull (ordP xs) := by
    unfold hullM at hk ⊢
    split
    · rfl
    · rename_i e; rw [if_neg e] at hk; exact absurd hk (by simp)
  rw [hm] at hk ⊢
  generalize rawHull (ordP xs) = R at *
  generalize wayR (ordP xs) = P at *
  subst r5
  have hk := hk
  have hl : P.dropLast.length = P.length - 1 := List.length_dropLast
  rw [hl] at hk
  have hget : ∀ j, j < P.length - 1 → P.dropLast.getD j (0, 0) = P.getD j (0, 0) := fun j hj => by
    rw [getD_lt _ (by omega), getD_lt _ (by omega), List.getElem_dropLast]
  have h0 : P.head? = some (P.getD 0 (0, 0)) := by
    cases P with
    | nil => simp at hk
    | cons a l => rfl
  have hlast : P.getD (P.length - 1) (0, 0) = P.getD 0 (0, 0) := by
    have := r2 _ h0
    rw [List.getLast?_eq_getElem?, List.getElem?_eq_getElem (by omega)] at this
    rw [getD_lt _ (by omega)]
    exact Option.some.inj this
  have e1 : pAt P.dropLast k = P.getD k (0, 0) := hget k hk
  have e2 : pCy P.dropLast (k + 1) = P.getD (k + 1) (0, 0) := by
    show P.dropLast.getD ((k + 1) % P.dropLast.length) _ = _
    rw [hl]
    rcases (show k + 1 < P.length - 1 ∨ k + 1 = P.length - 1 by omega) with g | g
    · rw [Nat.mod_eq_of_lt g, hget _ g]
    · rw [g, Nat.mod_self, hget 0 (by omega), hlast]
  rw [e1, e2]
  have he : Edge (· ∈ ordP xs) (P.getD k (0, 0)) (P.getD (k + 1) (0, 0)) := by
    refine r1 (P.take k) _ _ (P.drop (k + 2)) ?_
    rw [show P.getD k (0, 0) = P[k] from getD_lt _ (by omega), show P.getD (k + 1) (0, 0) = P[k + 1] from getD_lt _ (by omega)]
    rw [← List.drop_eq_getElem_cons (show k + 1 < P.length by omega), ← List.drop_eq_getElem_cons (show k < P.length by omega), List.take_append_drop]
  exact ⟨ordP_mem.1 he.1, ordP_mem.1 he.2.1, he.2.2.1, fun q hq => he.2.2.2 q (ordP_mem.2 hq)⟩
open Geo in
theorem between_dot {a b q : Pt} (h : OnZ q a b) : dotZ b a q ≤ 0 := by
  obtain ⟨_, ⟨h1, h2⟩, h3, h4⟩ := h
  unfold dotZ
  have g1 : (a.1 - b.1) * (q.1 - a.1) ≤ 0 := by
    rcases (show a.1 ≤ b.1 ∨ b.1 ≤ a.1 by omega) with g | g
    · exact mp0 (by omega) (by omega)
    · exact pm0 (by omega) (by omega)
  have g2 : (a.2 - b.2) * (q.2 - a.2) ≤ 0 := by
    rcases (show a.2 ≤ b.2 ∨ b.2 ≤ a.2 by omega) with g | g
    · exact mp0 (by omega) (by omega)
    · exact pm0 (by omega) (by omega)
  omega
/-- No wall of the room runs along a wall of its hull the other way. -/
theorem hull_forth {xs : List Pt} (hr : roomOk xs = true) {k : Nat} (hk : k < (hullM xs).length) :
    neighZ xs.length (cix xs (pAt (hullM xs) k)) (cix xs (pCy (hullM xs) (k + 1))) = decide (Int.tmod (cix xs (pAt (hullM xs) k) + 1) xs.length = cix xs (pCy (hullM xs) (k + 1))) := by
  obtain ⟨ha, hb, hne, hq⟩ := hull_edge (room_pos hr) (roomOk_iff.1 hr).2.1 hk
  generalize pAt (hullM xs) k = a at *
  generalize pCy (hullM xs) (k + 1) = b at *
  obtain ⟨i, hi, ei, pa⟩ := cix_mem ha
  obtain ⟨j, hj, ej, pb⟩ := cix_mem hb
  unfold neighZ
  rw [ei, ej]
  have : decide (Int.tmod ((j : Int) + 1) xs.length = i) = false := by
    rw [decide_eq_false_iff_not, tm1]
    intro e
    have e : (j + 1) % xs.length = i := by omega
    refine Geo.no_back (Geo.room_simple hr) (Geo.room_area hr).2.1 (j := j) fun m hm => ?_
    have e1 : (Geo.roomP xs).v j = b := by rw [← pb]; exact pCy_lt hj
    have e2 : (Geo.roomP xs).v (j + 1) = a := by rw [← pa, ← e]; rfl
    have em : (Geo.roomP xs).v m ∈ xs := by
      have hm : m < xs.length := hm
      rw [show (Geo.roomP xs).v m = pAt xs m from pCy_lt hm, show pAt xs m = xs[m] from getD_lt _ hm]; exact List.getElem_mem hm
    rw [e1, e2]
    exact ⟨(hq _ em).1, fun h0 => between_dot ((hq _ em).2 h0)⟩
  rw [this, Bool.or_false]
def pockTo (xs hs : List Pt) : Nat → Int
  | 0 => 0
  | k + 1 => if neighZ xs.length (cix xs (pAt hs k)) (cix xs (pCy hs (k + 1))) = true then pockTo xs hs k else pockTo xs hs k + 1
theorem pock_bd (xs hs : List Pt) (k : Nat) : 0 ≤ pockTo xs hs k ∧ pockTo xs hs k ≤ k := by
  induction k with
  | zero => exact ⟨Int.le_refl _, Int.le_refl _⟩
  | succ k ih => unfold pockTo; split <;> omega
def pockM (xs : List Pt) : Int := if roomOk xs then pockTo xs (hullM xs) (hullM xs).length else 0
theorem pock_no {xs : List Pt} (h : roomOk xs = false) : pockM xs = 0 := by unfold pockM; rw [h]; rfl
theorem pock_yes {xs : List Pt} (h : roomOk xs = true) : pockM xs = pockTo xs (hullM xs) (hullM xs).length := by unfold pockM; rw [h]; rfl
def pockC : Con := mkCon [.room] (fun x => x.1.length ≤ 1048576) fun x => vI (pockM x.1)
theorem cix_len (xs : List Pt) (p : Pt) : -1 ≤ cix xs p ∧ cix xs p ≤ xs.length := by have := cix_bd xs p xs.length; unfold cix; omega
theorem iCountPockets_ok : Good1 Try.prog n_impl_CountPockets pockC := by
  refine good_ofG (tys := tyL) (env := [(n_impl_RoomOk, roomOkC), (n_impl_HullOf, hullC), (n_impl_wallsOf, wallsOfC), (n_impl_IsCorner, isCornerC), (n_impl_neighbors, neighC)]) (envw := []) (envd := []) [] [] [] [] [] mixed tys ⟨iRoomOk_ok, iHullOf_ok, wallsOf_ok, iIsCorner_ok, neighbors_ok, trivial⟩ trivial trivial Try.func8 rfl (by kernel_rfl) (by decide) (by kernel_rfl) ?_
  have hG_ := kpz [(0, [1]), (1, [1, 8]), (2, [2]), (3, [1, 3]), (4, [1, 3, 12, 13, 14]), (5, [1, 3, 12, 13, 14, 15]), (6, [1, 3, 5, 12, 13, 14]), (7, [1, 3, 12, 13, 14, 28]), (8, [1, 3, 12, 13, 14]), (9, [1, 3, 12, 13, 14]), (10, [2])] [(6, [5])] [] []
  rintro ⟨(xs : List Pt), ⟨⟩⟩ (h1 : xs.length ≤ _)
  have hcl := cix_len xs
  have hhl := hull_len xs
  (repeat' (first | with_reducible exact True.intro | with_reducible refine st_seq ?_ | (with_reducible refine st_regionG hG_ ?_; intro K_ hK_) | (with_reducible refine st_region ?_; intro K_ hK_) | (with_reducible refine hK_ _ _ ?_; try clear hK_ K_) | ((with_reducible refine st_cond (b := ?b_) ?hb_ ?_ ?_); case hb_ => rfl) | with_reducible refine sq_n ?_ | with_reducible refine sq_r ?_ | with_reducible refine sq_e ?_ | with_reducible refine bq_n ?_ | with_reducible refine bq_r ?_ | with_reducible refine bq_q ?_ | with_reducible refine st_block ?_ | with_reducible refine st_exit ?_ | with_reducible refine st_ret ?_ | with_reducible refine st_skip ?_ | with_reducible refine gq_n ?_ | with_reducible refine gq_r ?_ | with_reducible refine gq_e ?_ | with_reducible refine lq_n ?_ | with_reducible refine lq_r ?_ | with_reducible refine lq_e ?_ | with_reducible refine bq_e (by decide) ?_ | ((conv => whnf); first | (with_reducible refine hK_ _ _ ?_; try clear hK_ K_) | (with_reducible refine fun (g_ : Sl) (o_ : Ow) => ?_) | with_reducible exact True.intro | with_reducible refine And.intro trivial ?_ | with_reducible refine And.intro ?_ ?_ | exact Nat.le_of_ble_eq_true rfl | exact Or.inl rfl | (intro h_; cases h_) | (intro h_; (try simp only [cond_true, cond_false, decide_eq_true_eq, decide_eq_false_iff_not, Bool.not_eq_true', Bool.not_eq_false', Int.toNat_natCast, prodEta] at h_)) | rfl))) <;> (try (conv => whnf)) <;> (try first | change (_ : Int) ≤ _ | change (_ : Nat) ≤ _) <;> (try ((fail_if_success (with_reducible apply Exists.intro)); (try dsimp only); (try simp only [cond_true, cond_false, decide_eq_true_eq, decide_eq_false_iff_not, Bool.not_eq_true', Bool.not_eq_false', Int.toNat_natCast, prodEta]))) <;> (try simp (disch := omega) only [ptEq2, cond_true, cond_false, decide_eq_true_eq, decide_eq_false_iff_not, List.length_drop, List.take_length, Int.toNat_zero, List.drop_zero, Nat.zero_add, List.nil_append, mod_nat1, mod_nat2, tm1, tm2, tmj, W_in, Int.add_sub_cancel, tn1, tnp, tnc, List.length_append, List.length_take, List.length_replicate, List.length_set, List.length_map, List.length_cons, List.length_nil, prodEta, Int.toNat_natCast, beq_iff_eq, beq_eq_false_iff_ne, bne_iff_ne, bne_eq_false_iff_eq, ne_eq, Int.natCast_inj, Int.ofNat_lt, Int.ofNat_le] at *)
  all_goals (try (fail_if_success (with_reducible apply Exists.intro)); first | with_reducible assumption | omega | exact mdl (by omega) | exact ilo1 (by omega) | exact ilo2 (by omega) | exact ihi1 (by omega) (by omega) | exact ihi2 (by omega) (by omega))
  · exact (pock_no h_).symm
  have hr := h_
  have hln := room_len hr
  have hwl := walls_len (hullM xs)
  refine awp'_loopG (α := Nat) (fun k ver_ => [(3, vInt (pockTo xs (hullM xs) k)), (14, vInt k)]) (fun k ver_ => []) (fun k ver_ => []) (fun k => k ≤ (hullM xs).length) (fun k => (hullM xs).length - k) [1, 12, 13] [] (0) ?_
  conv => whnf
  refine ⟨⟨?inv3_, ?vals3_, ?own3_, ?fix3_⟩, ?body3_⟩
  case' vals3_ => (repeat' (first | with_reducible exact True.intro | with_reducible refine And.intro ?_ ?_ | with_reducible refine Head.mk ?_ ?_ ?_ ?_ | ((conv => lhs; whnf); first | with_reducible rfl | with_reducible exact vInt_s (by omega) | exact rfl) | ((conv => whnf); first | with_reducible exact True.intro | with_reducible refine And.intro ?_ ?_))) <;> (try (conv => lhs; whnf))
  case' own3_ => (repeat' (first | with_reducible exact True.intro | with_reducible refine And.intro ?_ ?_ | with_reducible refine Head.mk ?_ ?_ ?_ ?_ | ((conv => lhs; whnf); first | with_reducible rfl | with_reducible exact vInt_s (by omega) | exact rfl) | ((conv => whnf); first | with_reducible exact True.intro | with_reducible refine And.intro ?_ ?_))) <;> (try (conv => lhs; whnf))
  case' fix3_ => (repeat' (first | with_reducible exact True.intro | with_reducible refine And.intro ?_ ?_ | with_reducible refine Head.mk ?_ ?_ ?_ ?_ | ((conv => lhs; whnf); first | with_reducible rfl | with_reducible exact vInt_s (by omega) | exact rfl) | ((conv => whnf); first | with_reducible exact True.intro | with_reducible refine And.intro ?_ ?_))) <;> (try (conv => lhs; whnf))
  · exact Nat.zero_le _
  rintro k g_ o_ v_ hk
  have hpb := pock_bd xs (hullM xs) k
  (repeat' (first | with_reducible exact True.intro | with_reducible refine st_seq ?_ | (with_reducible refine st_regionG hG_ ?_; intro K_ hK_) | (with_reducible refine st_region ?_; intro K_ hK_) | (with_reducible refine hK_ _ _ ?_; try clear hK_ K_) | ((with_reducible refine st_cond (b := ?b_) ?hb_ ?_ ?_); case hb_ => rfl) | with_reducible refine sq_n ?_ | with_reducible refine sq_r ?_ | with_reducible refine sq_e ?_ | with_reducible refine bq_n ?_ | with_reducible refine bq_r ?_ | with_reducible refine bq_q ?_ | with_reducible refine st_block ?_ | with_reducible refine st_exit ?_ | with_reducible refine st_ret ?_ | with_reducible refine st_skip ?_ | with_reducible refine gq_n ?_ | with_reducible refine gq_r ?_ | with_reducible refine gq_e ?_ | with_reducible refine lq_n ?_ | with_reducible refine lq_r ?_ | with_reducible refine lq_e ?_ | with_reducible refine bq_e (by decide) ?_ | ((conv => whnf); first | (with_reducible refine hK_ _ _ ?_; try clear hK_ K_) | (with_reducible refine fun (g_ : Sl) (o_ : Ow) => ?_) | with_reducible exact True.intro | with_reducible refine And.intro trivial ?_ | with_reducible refine And.intro ?_ ?_ | exact Nat.le_of_ble_eq_true rfl | exact Or.inl rfl | (intro h_; cases h_) | (intro h_; (try simp only [cond_true, cond_false, decide_eq_true_eq, decide_eq_false_iff_not, Bool.not_eq_true', Bool.not_eq_false', Int.toNat_natCast, prodEta] at h_)) | rfl))) <;> (try (conv => whnf)) <;> (try first | change (_ : Int) ≤ _ | change (_ : Nat) ≤ _) <;> (try ((fail_if_success (with_reducible apply Exists.intro)); (try dsimp only); (try simp only [cond_true, cond_false, decide_eq_true_eq, decide_eq_false_iff_not, Bool.not_eq_true', Bool.not_eq_false', Int.toNat_natCast, prodEta]))) <;> (try simp (disch := omega) only [ptEq2, cond_true, cond_false, decide_eq_true_eq, decide_eq_false_iff_not, List.length_drop, List.take_length, Int.toNat_zero, List.drop_zero, Nat.zero_add, List.nil_append, mod_nat1, mod_nat2, tm1, tm2, tmj, W_in, Int.add_sub_cancel, tn1, tnp, tnc, List.length_append, List.length_take, List.length_replicate, List.length_set, List.length_map, List.length_cons, List.length_nil, prodEta, Int.toNat_natCast, beq_iff_eq, beq_eq_false_iff_ne, bne_iff_ne, bne_eq_false_iff_eq, ne_eq, Int.natCast_inj, Int.ofNat_lt, Int.ofNat_le] at *)
  all_goals (try (fail_if_success (with_reducible apply Exists.intro)); first | with_reducible assumption | omega | exact mdl (by omega) | exact ilo1 (by omega) | exact ilo2 (by omega) | exact ihi1 (by omega) (by omega) | exact ihi2 (by omega) (by omega))
  · exact Int.le_trans (by omega) (hcl _).1
  · exact Int.le_trans (hcl _).2 (by omega)
  · exact Int.le_trans (by omega) (hcl _).1
  · exact Int.le_trans (hcl _).2 (by omega)
  · rw [walls_get (by omega)] at *
    refine ⟨k + 1, by omega, by omega, ?_⟩
    (repeat' (first | with_reducible exact True.intro | with_reducible refine And.intro ?_ ?_ | with_reducible refine Head.mk ?_ ?_ ?_ ?_ | ((conv => lhs; whnf); first | with_reducible rfl | with_reducible exact vInt_s (by omega) | exact rfl) | ((conv => whnf); first | with_reducible exact True.intro | with_reducible refine And.intro ?_ ?_))) <;> (try (conv => lhs; whnf))
    exact congrArg vInt (by show _ = ite _ _ _; rw [if_neg (by rw [Bool.not_eq_true]; assumption)])
  · rw [walls_get (by omega)] at *
    refine ⟨k + 1, by omega, by omega, ?_⟩
    (repeat' (first | with_reducible exact True.intro | with_reducible refine And.intro ?_ ?_ | with_reducible refine Head.mk ?_ ?_ ?_ ?_ | ((conv => lhs; whnf); first | with_reducible rfl | with_reducible exact vInt_s (by omega) | exact rfl) | ((conv => whnf); first | with_reducible exact True.intro | with_reducible refine And.intro ?_ ?_))) <;> (try (conv => lhs; whnf))
    exact congrArg vInt (by show _ = ite _ _ _; rw [if_pos (by assumption)])
  · rw [pock_yes hr, show k = (hullM xs).length by omega]
theorem sCountPockets_ok : Good1 Try.prog n_spec_CountPockets pockC := by
  refine good_ofG (tys := tyL) (env := [(n_spec_HullRoom, hullRoomC), (n_spec_IsCorner, isCornerC)]) (envw := []) (envd := []) [] [] [] [] [] mixed tys ⟨sHullRoom_ok, sIsCorner_ok, trivial⟩ trivial trivial Try.func6 rfl (by kernel_rfl) (by decide) (by kernel_rfl) ?_
  have hG_ := kpz [(0, [1]), (1, [1, 3]), (2, [1, 3, 4]), (3, [1, 3, 4, 5]), (4, [1, 3, 4, 5, 14]), (5, [1, 3, 4, 5]), (6, [1, 3, 4, 5, 6]), (7, [1, 3, 4, 5, 6, 7]), (8, [1, 3, 4, 5, 43]), (9, [1, 3, 4, 5]), (10, [2])] [(1, [3]), (2, [3]), (3, [3]), (4, [3]), (5, [3]), (6, [3]), (7, [3]), (8, [3]), (9, [3])] [] []
  rintro ⟨(xs : List Pt), ⟨⟩⟩ (h1 : xs.length ≤ _)
  have hcl := cix_len xs
  have hhl : (hullRoomM xs).length ≤ 60 := by
    unfold hullRoomM
    split
    · exact hull_len xs
    · simp
  (repeat' (first | with_reducible exact True.intro | with_reducible refine st_seq ?_ | (with_reducible refine st_regionG hG_ ?_; intro K_ hK_) | (with_reducible refine st_region ?_; intro K_ hK_) | (with_reducible refine hK_ _ _ ?_; try clear hK_ K_) | ((with_reducible refine st_cond (b := ?b_) ?hb_ ?_ ?_); case hb_ => rfl) | with_reducible refine sq_n ?_ | with_reducible refine sq_r ?_ | with_reducible refine sq_e ?_ | with_reducible refine bq_n ?_ | with_reducible refine bq_r ?_ | with_reducible refine bq_q ?_ | with_reducible refine st_block ?_ | with_reducible refine st_exit ?_ | with_reducible refine st_ret ?_ | with_reducible refine st_skip ?_ | with_reducible refine gq_n ?_ | with_reducible refine gq_r ?_ | with_reducible refine gq_e ?_ | with_reducible refine lq_n ?_ | with_reducible refine lq_r ?_ | with_reducible refine lq_e ?_ | with_reducible refine bq_e (by decide) ?_ | ((conv => whnf); first | (with_reducible refine hK_ _ _ ?_; try clear hK_ K_) | (with_reducible refine fun (g_ : Sl) (o_ : Ow) => ?_) | with_reducible exact True.intro | with_reducible refine And.intro trivial ?_ | with_reducible refine And.intro ?_ ?_ | exact Nat.le_of_ble_eq_true rfl | exact Or.inl rfl | (intro h_; cases h_) | (intro h_; (try simp only [cond_true, cond_false, decide_eq_true_eq, decide_eq_false_iff_not, Bool.not_eq_true', Bool.not_eq_false', Int.toNat_natCast, prodEta] at h_)) | rfl))) <;> (try (conv => whnf)) <;> (try first | change (_ : Int) ≤ _ | change (_ : Nat) ≤ _) <;> (try ((fail_if_success (with_reducible apply Exists.intro)); (try dsimp only); (try simp only [cond_true, cond_false, decide_eq_true_eq, decide_eq_false_iff_not, Bool.not_eq_true', Bool.not_eq_false', Int.toNat_natCast, prodEta]))) <;> (try simp (disch := omega) only [ptEq2, cond_true, cond_false, decide_eq_true_eq, decide_eq_false_iff_not, List.length_drop, List.take_length, Int.toNat_zero, List.drop_zero, Nat.zero_add, List.nil_append, mod_nat1, mod_nat2, tm1, tm2, tmj, W_in, Int.add_sub_cancel, tn1, tnp, tnc, List.length_append, List.length_take, List.length_replicate, List.length_set, List.length_map, List.length_cons, List.length_nil, prodEta, Int.toNat_natCast, beq_iff_eq, beq_eq_false_iff_ne, bne_iff_ne, bne_eq_false_iff_eq, ne_eq, Int.natCast_inj, Int.ofNat_lt, Int.ofNat_le] at *)
  all_goals (try (fail_if_success (with_reducible apply Exists.intro)); first | with_reducible assumption | omega | exact mdl (by omega) | exact ilo1 (by omega) | exact ilo2 (by omega) | exact ihi1 (by omega) (by omega) | exact ihi2 (by omega) (by omega))
  refine awp'_loopG (α := Nat) (fun k ver_ => [(4, vInt (pockTo xs (hullRoomM xs) k)), (5, vInt k)]) (fun k ver_ => []) (fun k ver_ => []) (fun k => k ≤ (hullRoomM xs).length) (fun k => (hullRoomM xs).length - k) [1, 3] [3] (0) ?_
  conv => whnf
  refine ⟨⟨?inv4_, ?vals4_, ?own4_, ?fix4_⟩, ?body4_⟩
  case' vals4_ => (repeat' (first | with_reducible exact True.intro | with_reducible refine And.intro ?_ ?_ | with_reducible refine Head.mk ?_ ?_ ?_ ?_ | ((conv => lhs; whnf); first | with_reducible rfl | with_reducible exact vInt_s (by omega) | exact rfl) | ((conv => whnf); first | with_reducible exact True.intro | with_reducible refine And.intro ?_ ?_))) <;> (try (conv => lhs; whnf))
  case' own4_ => (repeat' (first | with_reducible exact True.intro | with_reducible refine And.intro ?_ ?_ | with_reducible refine Head.mk ?_ ?_ ?_ ?_ | ((conv => lhs; whnf); first | with_reducible rfl | with_reducible exact vInt_s (by omega) | exact rfl) | ((conv => whnf); first | with_reducible exact True.intro | with_reducible refine And.intro ?_ ?_))) <;> (try (conv => lhs; whnf))
  case' fix4_ => (repeat' (first | with_reducible exact True.intro | with_reducible refine And.intro ?_ ?_ | with_reducible refine Head.mk ?_ ?_ ?_ ?_ | ((conv => lhs; whnf); first | with_reducible rfl | with_reducible exact vInt_s (by omega) | exact rfl) | ((conv => whnf); first | with_reducible exact True.intro | with_reducible refine And.intro ?_ ?_))) <;> (try (conv => lhs; whnf))
  · exact Nat.zero_le _
  rintro k g_ o_ v_ hk
  have hpb := pock_bd xs (hullRoomM xs) k
  have hgood : k < (hullRoomM xs).length → roomOk xs = true ∧ hullRoomM xs = hullM xs ∧ 3 ≤ xs.length ∧ xs.length ≤ 10 := fun hk => by
    cases hr : roomOk xs with
    | false => rw [hr_no hr] at hk; exact absurd hk (by simp)
    | true => exact ⟨rfl, hr_yes hr, room_len hr⟩
  (repeat' (first | with_reducible exact True.intro | with_reducible refine st_seq ?_ | (with_reducible refine st_regionG hG_ ?_; intro K_ hK_) | (with_reducible refine st_region ?_; intro K_ hK_) | (with_reducible refine hK_ _ _ ?_; try clear hK_ K_) | ((with_reducible refine st_cond (b := ?b_) ?hb_ ?_ ?_); case hb_ => rfl) | with_reducible refine sq_n ?_ | with_reducible refine sq_r ?_ | with_reducible refine sq_e ?_ | with_reducible refine bq_n ?_ | with_reducible refine bq_r ?_ | with_reducible refine bq_q ?_ | with_reducible refine st_block ?_ | with_reducible refine st_exit ?_ | with_reducible refine st_ret ?_ | with_reducible refine st_skip ?_ | with_reducible refine gq_n ?_ | with_reducible refine gq_r ?_ | with_reducible refine gq_e ?_ | with_reducible refine lq_n ?_ | with_reducible refine lq_r ?_ | with_reducible refine lq_e ?_ | with_reducible refine bq_e (by decide) ?_ | ((conv => whnf); first | (with_reducible refine hK_ _ _ ?_; try clear hK_ K_) | (with_reducible refine fun (g_ : Sl) (o_ : Ow) => ?_) | with_reducible exact True.intro | with_reducible refine And.intro trivial ?_ | with_reducible refine And.intro ?_ ?_ | exact Nat.le_of_ble_eq_true rfl | exact Or.inl rfl | (intro h_; cases h_) | (intro h_; (try simp only [cond_true, cond_false, decide_eq_true_eq, decide_eq_false_iff_not, Bool.not_eq_true', Bool.not_eq_false', Int.toNat_natCast, prodEta] at h_)) | rfl))) <;> (try (conv => whnf)) <;> (try first | change (_ : Int) ≤ _ | change (_ : Nat) ≤ _) <;> (try ((fail_if_success (with_reducible apply Exists.intro)); (try dsimp only); (try simp only [cond_true, cond_false, decide_eq_true_eq, decide_eq_false_iff_not, Bool.not_eq_true', Bool.not_eq_false', Int.toNat_natCast, prodEta]))) <;> (try simp (disch := omega) only [ptEq2, cond_true, cond_false, decide_eq_true_eq, decide_eq_false_iff_not, List.length_drop, List.take_length, Int.toNat_zero, List.drop_zero, Nat.zero_add, List.nil_append, mod_nat1, mod_nat2, tm1, tm2, tmj, W_in, Int.add_sub_cancel, tn1, tnp, tnc, List.length_append, List.length_take, List.length_replicate, List.length_set, List.length_map, List.length_cons, List.length_nil, prodEta, Int.toNat_natCast, beq_iff_eq, beq_eq_false_iff_ne, bne_iff_ne, bne_eq_false_iff_eq, ne_eq, Int.natCast_inj, Int.ofNat_lt, Int.ofNat_le] at *)
  all_goals (try (fail_if_success (with_reducible apply Exists.intro)); first | with_reducible assumption | omega | exact mdl (by omega) | exact ilo1 (by omega) | exact ilo2 (by omega) | exact ihi1 (by omega) (by omega) | exact ihi2 (by omega) (by omega))
  · obtain ⟨hr, he, h3, h10⟩ := hgood (by assumption)
    refine ⟨k + 1, by omega, by omega, ?_⟩
    (repeat' (first | with_reducible exact True.intro | with_reducible refine And.intro ?_ ?_ | with_reducible refine Head.mk ?_ ?_ ?_ ?_ | ((conv => lhs; whnf); first | with_reducible rfl | with_reducible exact vInt_s (by omega) | exact rfl) | ((conv => whnf); first | with_reducible exact True.intro | with_reducible refine And.intro ?_ ?_))) <;> (try (conv => lhs; whnf))
    have hf := hull_forth hr (k := k) (by rw [← he]; assumption)
    rw [← he] at hf
    have hc := hcl ((hullRoomM xs).getD k (ElK.b ElB.pt).dflt)
    rw [W_in (by omega) (by omega)] at h_
    exact congrArg vInt (by
      show _ = ite _ _ _
      rw [if_neg (by rw [Bool.not_eq_true]; exact hf.trans (decide_eq_false h_))])
  · obtain ⟨hr, he, h3, h10⟩ := hgood (by assumption)
    refine ⟨k + 1, by omega, by omega, ?_⟩
    (repeat' (first | with_reducible exact True.intro | with_reducible refine And.intro ?_ ?_ | with_reducible refine Head.mk ?_ ?_ ?_ ?_ | ((conv => lhs; whnf); first | with_reducible rfl | with_reducible exact vInt_s (by omega) | exact rfl) | ((conv => whnf); first | with_reducible exact True.intro | with_reducible refine And.intro ?_ ?_))) <;> (try (conv => lhs; whnf))
    have hf := hull_forth hr (k := k) (by rw [← he]; assumption)
    rw [← he] at hf
    have hc := hcl ((hullRoomM xs).getD k (ElK.b ElB.pt).dflt)
    rw [W_in (by omega) (by omega)] at h_
    exact congrArg vInt (by
      show _ = ite _ _ _
      rw [if_pos (hf.trans (decide_eq_true h_))])
  · cases hr : roomOk xs with
    | false =>
      rw [pock_no hr]
      have : (hullRoomM xs).length = 0 := by rw [hr_no hr]; rfl
      rw [show k = 0 by omega]; rfl
    | true => rw [pock_yes hr, ← hr_yes hr, show k = (hullRoomM xs).length by omega]
theorem fnExactCountPockets_ok : Good1 Try.prog n_laws_FnExactCountPockets (lawCon [.room]) := by
  refine good_ofG (tys := tyL) (env := [(n_laws_szRoom, szRC), (n_laws_toRoom, toRoomC), (n_spec_CountPockets, pockC), (n_impl_CountPockets, pockC), (n_laws_eqRoom, eqRC)]) (envw := []) (envd := []) [] [] [] [] [] mixed tys ⟨szRoom_ok, toRoom_ok, sCountPockets_ok, iCountPockets_ok, eqRoom_ok, trivial⟩ trivial trivial Try.func3 rfl (by kernel_rfl) (by decide) (by kernel_rfl) ?_
  have hG_ := kpz [(0, [1]), (1, [1, 3]), (2, [1, 3]), (3, [1, 11]), (4, [2]), (5, [1, 4]), (6, [1, 4, 5]), (7, [1, 4, 5, 6]), (8, [1, 5, 21]), (9, [2]), (10, [26]), (11, [2]), (12, [2])] [(6, [5]), (7, [5]), (8, [5])] [] []
  rintro ⟨(xs : List Pt), ⟨⟩⟩ ⟨(h1 : xs.length ≤ _), -⟩
  (repeat' (first | with_reducible exact True.intro | with_reducible refine st_seq ?_ | (with_reducible refine st_regionG hG_ ?_; intro K_ hK_) | (with_reducible refine st_region ?_; intro K_ hK_) | (with_reducible refine hK_ _ _ ?_; try clear hK_ K_) | ((with_reducible refine st_cond (b := ?b_) ?hb_ ?_ ?_); case hb_ => rfl) | with_reducible refine sq_n ?_ | with_reducible refine sq_r ?_ | with_reducible refine sq_e ?_ | with_reducible refine bq_n ?_ | with_reducible refine bq_r ?_ | with_reducible refine bq_q ?_ | with_reducible refine st_block ?_ | with_reducible refine st_exit ?_ | with_reducible refine st_ret ?_ | with_reducible refine st_skip ?_ | with_reducible refine gq_n ?_ | with_reducible refine gq_r ?_ | with_reducible refine gq_e ?_ | with_reducible refine lq_n ?_ | with_reducible refine lq_r ?_ | with_reducible refine lq_e ?_ | with_reducible refine bq_e (by decide) ?_ | ((conv => whnf); first | (with_reducible refine hK_ _ _ ?_; try clear hK_ K_) | (with_reducible refine fun (g_ : Sl) (o_ : Ow) => ?_) | with_reducible exact True.intro | with_reducible refine And.intro trivial ?_ | with_reducible refine And.intro ?_ ?_ | exact Nat.le_of_ble_eq_true rfl | exact Or.inl rfl | (intro h_; cases h_) | (intro h_; (try simp only [cond_true, cond_false, decide_eq_true_eq, decide_eq_false_iff_not, Bool.not_eq_true', Bool.not_eq_false', Int.toNat_natCast, prodEta] at h_)) | rfl))) <;> (try (conv => whnf)) <;> (try first | change (_ : Int) ≤ _ | change (_ : Nat) ≤ _) <;> (try ((fail_if_success (with_reducible apply Exists.intro)); (try dsimp only); (try simp only [cond_true, cond_false, decide_eq_true_eq, decide_eq_false_iff_not, Bool.not_eq_true', Bool.not_eq_false', Int.toNat_natCast, prodEta])))
  all_goals (try (fail_if_success (with_reducible apply Exists.intro)); first | with_reducible assumption | omega | exact mdl (by omega) | exact ilo1 (by omega) | exact ilo2 (by omega) | exact ihi1 (by omega) (by omega) | exact ihi2 (by omega) (by omega))
  all_goals ((try simp only [szF_neg1, szF_neg2, szF_nn, szF_hi1, bne_self_eq_false, beq_self_eq_true, Bool.true_eq_false, decide_true, Bool.not_true, List.length_map, not_true_eq_false, Bool.false_eq_true, reduceCtorEq, not_false_eq_true] at *); (try omega))
end Go.Proofs.Ytfjmlaciogmndaa
