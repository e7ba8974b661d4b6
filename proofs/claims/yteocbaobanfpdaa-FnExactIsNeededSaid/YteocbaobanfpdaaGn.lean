/- Contracts: corners left out, straight corners taken away, ears cut off, guards that are needed. -/
import Derived.Test.YteocbaobanfpdaaGk
import Derived.Test.YteocbaobanfpdaaMt
import Derived.Test.YteocbaobanfpdaaLh
namespace Go.Proofs.Yteocbaobanfpdaa
open Go.RowKit Go.Proofs.Yteocbaobanfpdaa.Nm
set_option maxRecDepth 10000
set_option maxHeartbeats 2000000
set_option linter.unusedSimpArgs false
set_option linter.unusedVariables false
/-! ### A list without one place -/
theorem erase_eq {α : Type} (l : List α) (k : Nat) : l.eraseIdx k = l.take k ++ l.drop (k + 1) := List.eraseIdx_eq_take_drop_succ l k
def withoutC : Con := mkCon [.sl (.b .pt), .int] (fun x => x.1.length ≤ 1048576 ∧ 0 ≤ x.2.1 ∧ x.2.1 < x.1.length) fun x => ptRow (x.1.eraseIdx x.2.1.toNat)
theorem without_ok : Good1 Try.prog n_impl_without withoutC := by
  refine good_ofG (tys := tyL) (env := [(n_impl_copyPoints, copyC)]) (envw := []) [8] [7, 12] [] mixed tys ⟨copyPoints_ok, trivial⟩ trivial Try.func48 rfl (by kernel_rfl) (by decide) (by kernel_rfl) ?_
  have hG_ := kpz [(0, [0, 1]), (1, [4])] [(1, [8])] [] []
  rintro ⟨(xs : List Pt), (k : Int), ⟨⟩⟩ ⟨(h1 : xs.length ≤ _), (h2 : 0 ≤ k), (h3 : k < _)⟩
  (repeat' (first | with_reducible exact True.intro | with_reducible refine st_seq ?_ | (with_reducible refine st_regionG hG_ ?_; intro K_ hK_) | (with_reducible refine st_region ?_; intro K_ hK_) | (with_reducible refine hK_ _ _ ?_; try clear hK_ K_) | ((with_reducible refine st_cond (b := ?b_) ?hb_ ?_ ?_); case hb_ => rfl) | with_reducible refine sq_n ?_ | with_reducible refine sq_r ?_ | with_reducible refine sq_e ?_ | with_reducible refine bq_n ?_ | with_reducible refine bq_r ?_ | with_reducible refine bq_q ?_ | with_reducible refine st_block ?_ | with_reducible refine st_exit ?_ | with_reducible refine st_ret ?_ | with_reducible refine st_skip ?_ | with_reducible refine gq_n ?_ | with_reducible refine gq_r ?_ | with_reducible refine gq_e ?_ | with_reducible refine lq_n ?_ | with_reducible refine lq_r ?_ | with_reducible refine lq_e ?_ | with_reducible refine bq_e (by decide) ?_ | ((conv => whnf); first | (with_reducible refine hK_ _ _ ?_; try clear hK_ K_) | (with_reducible refine fun (g_ : Sl) (o_ : Ow) => ?_) | with_reducible exact True.intro | with_reducible refine And.intro trivial ?_ | with_reducible refine And.intro ?_ ?_ | exact Nat.le_of_ble_eq_true rfl | exact Or.inl rfl | (intro h_; cases h_) | (intro h_; (try simp only [cond_true, cond_false, decide_eq_true_eq, decide_eq_false_iff_not, Bool.not_eq_true', Bool.not_eq_false', Int.toNat_natCast, prodEta] at h_)) | rfl))) <;> (try (conv => whnf)) <;> (try first | change (_ : Int) ≤ _ | change (_ : Nat) ≤ _) <;> (try ((fail_if_success (with_reducible apply Exists.intro)); (try dsimp only); (try simp only [cond_true, cond_false, decide_eq_true_eq, decide_eq_false_iff_not, Bool.not_eq_true', Bool.not_eq_false', Int.toNat_natCast, prodEta]))) <;> (try simp (disch := omega) only [ptEq2, cond_true, cond_false, decide_eq_true_eq, decide_eq_false_iff_not, List.length_drop, List.take_length, Int.toNat_zero, List.drop_zero, Nat.zero_add, List.nil_append, mod_nat1, mod_nat2, tm1, tm2, tmj, W_in, Int.add_sub_cancel, tn1, tnp, tnc, List.length_append, List.length_take, List.length_replicate, List.length_set, List.length_map, List.length_cons, List.length_nil, prodEta, Int.toNat_natCast, beq_iff_eq, beq_eq_false_iff_ne, bne_iff_ne, bne_eq_false_iff_eq, ne_eq, Int.natCast_inj, Int.ofNat_lt, Int.ofNat_le] at *)
  all_goals (try (fail_if_success (with_reducible apply Exists.intro)); first | with_reducible assumption | omega | exact mdl (by omega) | exact ilo1 (by omega) | exact ilo2 (by omega) | exact ihi1 (by omega) (by omega) | exact ihi2 (by omega) (by omega))
  · exact congrArg some (by rw [erase_eq, show (k + 1).toNat = k.toNat + 1 by omega])
/-! ### The first place where something holds -/
def FirstFrom (f : Nat → Bool) (n k : Nat) (a : Int) : Prop := (a = -1 ∧ ∀ j, k ≤ j → j < n → f j = false) ∨ ∃ i : Nat, a = i ∧ k ≤ i ∧ i < n ∧ f i = true ∧ ∀ j, k ≤ j → j < i → f j = false
theorem ff_start (f : Nat → Bool) (n : Nat) : FirstFrom f n n (-1) := .inl ⟨rfl, fun j h1 h2 => absurd h2 (by omega)⟩
theorem ff_yes {f : Nat → Bool} {n k : Nat} {a : Int} (hk : k < n) (h : f k = true) : FirstFrom f n k k := .inr ⟨k, rfl, Nat.le_refl _, hk, h, fun j h1 h2 => absurd h2 (by omega)⟩
theorem ff_no {f : Nat → Bool} {n k : Nat} {a : Int} (h : f k = false) (hf : FirstFrom f n (k + 1) a) : FirstFrom f n k a := by
  rcases hf with ⟨rfl, h1⟩ | ⟨i, rfl, h1, h2, h3, h4⟩
  · exact .inl ⟨rfl, fun j h5 h6 => by
      rcases Nat.eq_or_lt_of_le h5 with e | e
      · rw [← e]; exact h
      · exact h1 j e h6⟩
  · exact .inr ⟨i, rfl, by omega, h2, h3, fun j h5 h6 => by
      rcases Nat.eq_or_lt_of_le h5 with e | e
      · rw [← e]; exact h
      · exact h4 j e h6⟩
theorem ff_bd {f : Nat → Bool} {n k : Nat} {a : Int} (hf : FirstFrom f n k a) : -1 ≤ a ∧ a < n := by
  rcases hf with ⟨rfl, h1⟩ | ⟨i, rfl, h1, h2, h3, h4⟩ <;> omega
theorem ff_find {f : Nat → Bool} {n : Nat} {a : Int} (hf : FirstFrom f n 0 a) : (a = -1 ∧ (List.range n).find? f = none) ∨ (0 ≤ a ∧ a < n ∧ (List.range n).find? f = some a.toNat) := by
  rcases hf with ⟨rfl, h1⟩ | ⟨i, rfl, h1, h2, h3, h4⟩
  · exact .inl ⟨rfl, List.find?_eq_none.2 fun j hj => by rw [h1 j (Nat.zero_le _) (List.mem_range.1 hj)]; decide⟩
  · exact .inr ⟨by omega, by omega, List.find?_range_eq_some.2 ⟨h3, List.mem_range.2 h2, fun j hj => by rw [h4 j (Nat.zero_le _) hj]; rfl⟩⟩
def dnV : Nat → AV
  | 0 => vInt (-1)
  | i + 1 => vInt i
theorem dnV_eq (n : Nat) : vInt ((n : Int) - 1) = dnV n := by
  cases n with
  | zero => rfl
  | succ i => exact congrArg vInt (by omega)
/-! ### Straight corners -/
def strAt (l : List Pt) (i : Nat) : Bool := decide (turn (pAt l (prvN l.length i)) (pAt l i) (pAt l (nxtN l.length i)) = 0)
def firstStr (l : List Pt) : Option Nat := if 2 < l.length then (List.range l.length).find? (strAt l) else none
def strRun : Nat → List Pt → List Pt
  | 0, l => l
  | f + 1, l => match firstStr l with
    | none => l
    | some i => strRun f (l.eraseIdx i)
def straightM (l : List Pt) : List Pt := strRun l.length l
structure StrSt (xs l : List Pt) : Prop where
  run : strRun l.length l = straightM xs
  len : l.length ≤ xs.length
theorem strSt_start (xs : List Pt) : StrSt xs xs := ⟨rfl, Nat.le_refl _⟩
theorem StrSt.step {xs l : List Pt} (h : StrSt xs l) {i : Nat} (hi : i < l.length) (hf : firstStr l = some i) : StrSt xs (l.eraseIdx i) := by
  have hl := List.length_eraseIdx_of_lt hi
  have hr := h.run
  have := h.len
  refine ⟨?_, by omega⟩
  rw [hl]
  rw [show l.length = (l.length - 1) + 1 by omega] at hr
  unfold strRun at hr
  rw [hf] at hr
  exact hr
theorem StrSt.done {xs l : List Pt} (h : StrSt xs l) (hf : firstStr l = none) : straightM xs = l := by
  rw [← h.run]
  cases hn : l.length with
  | zero => rfl
  | succ n => unfold strRun; rw [hf]
theorem strRun_len : ∀ (f : Nat) (l : List Pt), (strRun f l).length ≤ l.length
  | 0, l => Nat.le_refl _
  | f + 1, l => by
    unfold strRun
    split
    · exact Nat.le_refl _
    · exact Nat.le_trans (strRun_len f _) (List.length_eraseIdx_le _ _)
theorem straight_len (l : List Pt) : (straightM l).length ≤ l.length := strRun_len _ l
theorem befZ_nat {n i : Nat} (hi : i < n) : befZ n i = (prvN n i : Nat) := by
  unfold befZ prvN
  rw [show ((i : Int) + n - 1) = ((i + n - 1 : Nat) : Int) by omega, ← Int.ofNat_tmod]
theorem aftZ_nat {n i : Nat} : aftZ n i = (nxtN n i : Nat) := by
  unfold aftZ nxtN
  rw [tm1]
theorem str_none {l : List Pt} {a : Int} (h : FirstFrom (strAt l) l.length 0 a) (ha : a < 0) : firstStr l = none := by
  unfold firstStr
  split
  · rcases ff_find h with h | h
    · exact h.2
    · omega
  · rfl
theorem str_some {l : List Pt} {a : Int} (h : FirstFrom (strAt l) l.length 0 a) (ha : ¬ a < 0) (hl : 2 < l.length) : firstStr l = some a.toNat ∧ a.toNat < l.length := by
  unfold firstStr
  rw [if_pos hl]
  rcases ff_find h with h | h
  · omega
  · exact ⟨h.2.2, by omega⟩
theorem str_small {l : List Pt} (hl : ¬ 2 < l.length) : firstStr l = none := by unfold firstStr; rw [if_neg hl]
theorem ff_full {f : Nat → Bool} {n : Nat} {a : Int} (hf : FirstFrom f n n a) : a = -1 := by
  rcases hf with ⟨rfl, h1⟩ | ⟨i, rfl, h1, h2, h3, h4⟩ <;> omega
theorem prv_int {n i : Nat} (hi : i < n) : Int.tmod ((i : Int) + n - 1) n = (prvN n i : Nat) := befZ_nat hi
def straightC : Con := mkCon [.sl (.b .pt)] (fun x => x.1.length ≤ 1048576) fun x => .val (vPts (straightM x.1))
theorem straight_ok : Good1 Try.prog n_spec_l10Straight straightC := by
  refine good_ofG (tys := tyL) (env := [(n_spec_l02Turn, turnC)]) (envw := []) [44] [47, 52] [] mixed tys ⟨l02Turn_ok, trivial⟩ trivial Try.func44 rfl (by kernel_rfl) (by decide) (by kernel_rfl) ?_
  have hG_ := kpz [(0, [0]), (1, [0, 3]), (2, [0, 3, 4]), (3, [0, 3, 4, 5]), (4, [0, 3, 4, 5, 15]), (5, [0, 3, 4, 5]), (6, [0, 3, 4, 5, 39]), (7, [0, 3, 4, 5]), (8, [0, 4, 42]), (9, [2]), (10, [0])] [(10, [44])] [(10, [44])] []
  rintro ⟨(xs : List Pt), ⟨⟩⟩ (h1 : xs.length ≤ _)
  (repeat' (first | with_reducible exact True.intro | with_reducible refine st_seq ?_ | (with_reducible refine st_regionG hG_ ?_; intro K_ hK_) | (with_reducible refine st_region ?_; intro K_ hK_) | (with_reducible refine hK_ _ _ ?_; try clear hK_ K_) | ((with_reducible refine st_cond (b := ?b_) ?hb_ ?_ ?_); case hb_ => rfl) | with_reducible refine sq_n ?_ | with_reducible refine sq_r ?_ | with_reducible refine sq_e ?_ | with_reducible refine bq_n ?_ | with_reducible refine bq_r ?_ | with_reducible refine bq_q ?_ | with_reducible refine st_block ?_ | with_reducible refine st_exit ?_ | with_reducible refine st_ret ?_ | with_reducible refine st_skip ?_ | with_reducible refine gq_n ?_ | with_reducible refine gq_r ?_ | with_reducible refine gq_e ?_ | with_reducible refine lq_n ?_ | with_reducible refine lq_r ?_ | with_reducible refine lq_e ?_ | with_reducible refine bq_e (by decide) ?_ | ((conv => whnf); first | (with_reducible refine hK_ _ _ ?_; try clear hK_ K_) | (with_reducible refine fun (g_ : Sl) (o_ : Ow) => ?_) | with_reducible exact True.intro | with_reducible refine And.intro trivial ?_ | with_reducible refine And.intro ?_ ?_ | exact Nat.le_of_ble_eq_true rfl | exact Or.inl rfl | (intro h_; cases h_) | (intro h_; (try simp only [cond_true, cond_false, decide_eq_true_eq, decide_eq_false_iff_not, Bool.not_eq_true', Bool.not_eq_false', Int.toNat_natCast, prodEta] at h_)) | rfl))) <;> (try (conv => whnf)) <;> (try first | change (_ : Int) ≤ _ | change (_ : Nat) ≤ _) <;> (try ((fail_if_success (with_reducible apply Exists.intro)); (try dsimp only); (try simp only [cond_true, cond_false, decide_eq_true_eq, decide_eq_false_iff_not, Bool.not_eq_true', Bool.not_eq_false', Int.toNat_natCast, prodEta]))) <;> (try simp (disch := omega) only [ptEq2, cond_true, cond_false, decide_eq_true_eq, decide_eq_false_iff_not, List.length_drop, List.take_length, Int.toNat_zero, List.drop_zero, Nat.zero_add, List.nil_append, mod_nat1, mod_nat2, tm1, tm2, tmj, W_in, Int.add_sub_cancel, tn1, tnp, tnc, List.length_append, List.length_take, List.length_replicate, List.length_set, List.length_map, List.length_cons, List.length_nil, prodEta, Int.toNat_natCast, beq_iff_eq, beq_eq_false_iff_ne, bne_iff_ne, bne_eq_false_iff_eq, ne_eq, Int.natCast_inj, Int.ofNat_lt, Int.ofNat_le] at *)
  refine awp'_loopG (α := List Pt) (fun l ver_ => [(0, vPts l)]) (fun l ver_ => []) (fun l ver_ => []) (fun l => StrSt xs l) (fun l => l.length) [] [] (xs) ?_
  conv => whnf
  refine ⟨⟨?inv1_, ?vals1_, ?own1_, ?fix1_⟩, ?body1_⟩
  case' vals1_ => (repeat' (first | with_reducible exact True.intro | with_reducible refine And.intro ?_ ?_ | with_reducible refine Head.mk ?_ ?_ ?_ ?_ | ((conv => lhs; whnf); first | with_reducible rfl | with_reducible exact vInt_s (by omega) | exact rfl) | ((conv => whnf); first | with_reducible exact True.intro | with_reducible refine And.intro ?_ ?_))) <;> (try (conv => lhs; whnf))
  case' own1_ => (repeat' (first | with_reducible exact True.intro | with_reducible refine And.intro ?_ ?_ | with_reducible refine Head.mk ?_ ?_ ?_ ?_ | ((conv => lhs; whnf); first | with_reducible rfl | with_reducible exact vInt_s (by omega) | exact rfl) | ((conv => whnf); first | with_reducible exact True.intro | with_reducible refine And.intro ?_ ?_))) <;> (try (conv => lhs; whnf))
  case' fix1_ => (repeat' (first | with_reducible exact True.intro | with_reducible refine And.intro ?_ ?_ | with_reducible refine Head.mk ?_ ?_ ?_ ?_ | ((conv => lhs; whnf); first | with_reducible rfl | with_reducible exact vInt_s (by omega) | exact rfl) | ((conv => whnf); first | with_reducible exact True.intro | with_reducible refine And.intro ?_ ?_))) <;> (try (conv => lhs; whnf))
  · exact strSt_start xs
  rintro l g_ o_ v_ hS
  have hll := hS.len
  (repeat' (first | with_reducible exact True.intro | with_reducible refine st_seq ?_ | (with_reducible refine st_regionG hG_ ?_; intro K_ hK_) | (with_reducible refine st_region ?_; intro K_ hK_) | (with_reducible refine hK_ _ _ ?_; try clear hK_ K_) | ((with_reducible refine st_cond (b := ?b_) ?hb_ ?_ ?_); case hb_ => rfl) | with_reducible refine sq_n ?_ | with_reducible refine sq_r ?_ | with_reducible refine sq_e ?_ | with_reducible refine bq_n ?_ | with_reducible refine bq_r ?_ | with_reducible refine bq_q ?_ | with_reducible refine st_block ?_ | with_reducible refine st_exit ?_ | with_reducible refine st_ret ?_ | with_reducible refine st_skip ?_ | with_reducible refine gq_n ?_ | with_reducible refine gq_r ?_ | with_reducible refine gq_e ?_ | with_reducible refine lq_n ?_ | with_reducible refine lq_r ?_ | with_reducible refine lq_e ?_ | with_reducible refine bq_e (by decide) ?_ | ((conv => whnf); first | (with_reducible refine hK_ _ _ ?_; try clear hK_ K_) | (with_reducible refine fun (g_ : Sl) (o_ : Ow) => ?_) | with_reducible exact True.intro | with_reducible refine And.intro trivial ?_ | with_reducible refine And.intro ?_ ?_ | exact Nat.le_of_ble_eq_true rfl | exact Or.inl rfl | (intro h_; cases h_) | (intro h_; (try simp only [cond_true, cond_false, decide_eq_true_eq, decide_eq_false_iff_not, Bool.not_eq_true', Bool.not_eq_false', Int.toNat_natCast, prodEta] at h_)) | rfl))) <;> (try (conv => whnf)) <;> (try first | change (_ : Int) ≤ _ | change (_ : Nat) ≤ _) <;> (try ((fail_if_success (with_reducible apply Exists.intro)); (try dsimp only); (try simp only [cond_true, cond_false, decide_eq_true_eq, decide_eq_false_iff_not, Bool.not_eq_true', Bool.not_eq_false', Int.toNat_natCast, prodEta]))) <;> (try simp (disch := omega) only [ptEq2, cond_true, cond_false, decide_eq_true_eq, decide_eq_false_iff_not, List.length_drop, List.take_length, Int.toNat_zero, List.drop_zero, Nat.zero_add, List.nil_append, mod_nat1, mod_nat2, tm1, tm2, tmj, W_in, Int.add_sub_cancel, tn1, tnp, tnc, List.length_append, List.length_take, List.length_replicate, List.length_set, List.length_map, List.length_cons, List.length_nil, prodEta, Int.toNat_natCast, beq_iff_eq, beq_eq_false_iff_ne, bne_iff_ne, bne_eq_false_iff_eq, ne_eq, Int.natCast_inj, Int.ofNat_lt, Int.ofNat_le] at *)
  all_goals (try (fail_if_success (with_reducible apply Exists.intro)); first | with_reducible assumption | omega | exact mdl (by omega) | exact ilo1 (by omega) | exact ilo2 (by omega) | exact ihi1 (by omega) (by omega) | exact ihi2 (by omega) (by omega))
  refine awp'_loopG (α := Nat × Int) (fun k ver_ => [(4, vInt k.2), (5, dnV k.1)]) (fun k ver_ => []) (fun k ver_ => []) (fun k => k.1 ≤ l.length ∧ FirstFrom (strAt l) l.length k.1 k.2 ∧ (l.length ≤ 2 → k.1 = l.length)) (fun k => k.1) [0, 3] [] ((l.length, -1)) ?_
  conv => whnf
  refine ⟨⟨?inv2_, ?vals2_, ?own2_, ?fix2_⟩, ?body2_⟩
  case' vals2_ => (repeat' (first | with_reducible exact True.intro | with_reducible refine And.intro ?_ ?_ | with_reducible refine Head.mk ?_ ?_ ?_ ?_ | ((conv => lhs; whnf); first | with_reducible rfl | with_reducible exact vInt_s (by omega) | exact rfl) | ((conv => whnf); first | with_reducible exact True.intro | with_reducible refine And.intro ?_ ?_))) <;> (try (conv => lhs; whnf))
  case' own2_ => (repeat' (first | with_reducible exact True.intro | with_reducible refine And.intro ?_ ?_ | with_reducible refine Head.mk ?_ ?_ ?_ ?_ | ((conv => lhs; whnf); first | with_reducible rfl | with_reducible exact vInt_s (by omega) | exact rfl) | ((conv => whnf); first | with_reducible exact True.intro | with_reducible refine And.intro ?_ ?_))) <;> (try (conv => lhs; whnf))
  case' fix2_ => (repeat' (first | with_reducible exact True.intro | with_reducible refine And.intro ?_ ?_ | with_reducible refine Head.mk ?_ ?_ ?_ ?_ | ((conv => lhs; whnf); first | with_reducible rfl | with_reducible exact vInt_s (by omega) | exact rfl) | ((conv => whnf); first | with_reducible exact True.intro | with_reducible refine And.intro ?_ ?_))) <;> (try (conv => lhs; whnf))
  · exact dnV_eq _
  · exact ⟨Nat.le_refl _, ff_start _ _, fun _ => rfl⟩
  rintro ⟨_ | i, a⟩ g_ o_ v_ ⟨(hk : _ ≤ l.length), (hff : FirstFrom (strAt l) l.length _ a), (h2 : _ → _)⟩
  · have hbd := ff_bd hff
    (repeat' (first | with_reducible exact True.intro | with_reducible refine st_seq ?_ | (with_reducible refine st_regionG hG_ ?_; intro K_ hK_) | (with_reducible refine st_region ?_; intro K_ hK_) | (with_reducible refine hK_ _ _ ?_; try clear hK_ K_) | ((with_reducible refine st_cond (b := ?b_) ?hb_ ?_ ?_); case hb_ => rfl) | with_reducible refine sq_n ?_ | with_reducible refine sq_r ?_ | with_reducible refine sq_e ?_ | with_reducible refine bq_n ?_ | with_reducible refine bq_r ?_ | with_reducible refine bq_q ?_ | with_reducible refine st_block ?_ | with_reducible refine st_exit ?_ | with_reducible refine st_ret ?_ | with_reducible refine st_skip ?_ | with_reducible refine gq_n ?_ | with_reducible refine gq_r ?_ | with_reducible refine gq_e ?_ | with_reducible refine lq_n ?_ | with_reducible refine lq_r ?_ | with_reducible refine lq_e ?_ | with_reducible refine bq_e (by decide) ?_ | ((conv => whnf); first | (with_reducible refine hK_ _ _ ?_; try clear hK_ K_) | (with_reducible refine fun (g_ : Sl) (o_ : Ow) => ?_) | with_reducible exact True.intro | with_reducible refine And.intro trivial ?_ | with_reducible refine And.intro ?_ ?_ | exact Nat.le_of_ble_eq_true rfl | exact Or.inl rfl | (intro h_; cases h_) | (intro h_; (try simp only [cond_true, cond_false, decide_eq_true_eq, decide_eq_false_iff_not, Bool.not_eq_true', Bool.not_eq_false', Int.toNat_natCast, prodEta] at h_)) | rfl))) <;> (try (conv => whnf)) <;> (try first | change (_ : Int) ≤ _ | change (_ : Nat) ≤ _) <;> (try ((fail_if_success (with_reducible apply Exists.intro)); (try dsimp only); (try simp only [cond_true, cond_false, decide_eq_true_eq, decide_eq_false_iff_not, Bool.not_eq_true', Bool.not_eq_false', Int.toNat_natCast, prodEta]))) <;> (try simp (disch := omega) only [ptEq2, cond_true, cond_false, decide_eq_true_eq, decide_eq_false_iff_not, List.length_drop, List.take_length, Int.toNat_zero, List.drop_zero, Nat.zero_add, List.nil_append, mod_nat1, mod_nat2, tm1, tm2, tmj, W_in, Int.add_sub_cancel, tn1, tnp, tnc, List.length_append, List.length_take, List.length_replicate, List.length_set, List.length_map, List.length_cons, List.length_nil, prodEta, Int.toNat_natCast, beq_iff_eq, beq_eq_false_iff_ne, bne_iff_ne, bne_eq_false_iff_eq, ne_eq, Int.natCast_inj, Int.ofNat_lt, Int.ofNat_le] at *)
    all_goals (try (fail_if_success (with_reducible apply Exists.intro)); first | with_reducible assumption | omega | exact mdl (by omega) | exact ilo1 (by omega) | exact ilo2 (by omega) | exact ihi1 (by omega) (by omega) | exact ihi2 (by omega) (by omega))
    · exact congrArg some (hS.done (str_none hff (by assumption))).symm
    · have hs := str_some hff (by assumption) (by omega)
      have hlen := List.length_eraseIdx_of_lt hs.2
      refine ⟨l.eraseIdx a.toNat, by omega, hS.step hs.2 hs.1, ?_⟩
      (repeat' (first | with_reducible exact True.intro | with_reducible refine And.intro ?_ ?_ | with_reducible refine Head.mk ?_ ?_ ?_ ?_ | ((conv => lhs; whnf); first | with_reducible rfl | with_reducible exact vInt_s (by omega) | exact rfl) | ((conv => whnf); first | with_reducible exact True.intro | with_reducible refine And.intro ?_ ?_))) <;> (try (conv => lhs; whnf))
      exact congrArg vPts (by rw [erase_eq, show (a + 1).toNat = a.toNat + 1 by omega])
  · have hbd := ff_bd hff
    (repeat' (first | with_reducible exact True.intro | with_reducible refine st_seq ?_ | (with_reducible refine st_regionG hG_ ?_; intro K_ hK_) | (with_reducible refine st_region ?_; intro K_ hK_) | (with_reducible refine hK_ _ _ ?_; try clear hK_ K_) | ((with_reducible refine st_cond (b := ?b_) ?hb_ ?_ ?_); case hb_ => rfl) | with_reducible refine sq_n ?_ | with_reducible refine sq_r ?_ | with_reducible refine sq_e ?_ | with_reducible refine bq_n ?_ | with_reducible refine bq_r ?_ | with_reducible refine bq_q ?_ | with_reducible refine st_block ?_ | with_reducible refine st_exit ?_ | with_reducible refine st_ret ?_ | with_reducible refine st_skip ?_ | with_reducible refine gq_n ?_ | with_reducible refine gq_r ?_ | with_reducible refine gq_e ?_ | with_reducible refine lq_n ?_ | with_reducible refine lq_r ?_ | with_reducible refine lq_e ?_ | with_reducible refine bq_e (by decide) ?_ | ((conv => whnf); first | (with_reducible refine hK_ _ _ ?_; try clear hK_ K_) | (with_reducible refine fun (g_ : Sl) (o_ : Ow) => ?_) | with_reducible exact True.intro | with_reducible refine And.intro trivial ?_ | with_reducible refine And.intro ?_ ?_ | exact Nat.le_of_ble_eq_true rfl | exact Or.inl rfl | (intro h_; cases h_) | (intro h_; (try simp only [cond_true, cond_false, decide_eq_true_eq, decide_eq_false_iff_not, Bool.not_eq_true', Bool.not_eq_false', Int.toNat_natCast, prodEta] at h_)) | rfl))) <;> (try (conv => whnf)) <;> (try first | change (_ : Int) ≤ _ | change (_ : Nat) ≤ _) <;> (try ((fail_if_success (with_reducible apply Exists.intro)); (try dsimp only); (try simp only [cond_true, cond_false, decide_eq_true_eq, decide_eq_false_iff_not, Bool.not_eq_true', Bool.not_eq_false', Int.toNat_natCast, prodEta]))) <;> (try simp (disch := omega) only [ptEq2, cond_true, cond_false, decide_eq_true_eq, decide_eq_false_iff_not, List.length_drop, List.take_length, Int.toNat_zero, List.drop_zero, Nat.zero_add, List.nil_append, mod_nat1, mod_nat2, tm1, tm2, tmj, W_in, Int.add_sub_cancel, tn1, tnp, tnc, List.length_append, List.length_take, List.length_replicate, List.length_set, List.length_map, List.length_cons, List.length_nil, prodEta, Int.toNat_natCast, beq_iff_eq, beq_eq_false_iff_ne, bne_iff_ne, bne_eq_false_iff_eq, ne_eq, Int.natCast_inj, Int.ofNat_lt, Int.ofNat_le] at *)
    all_goals (try (fail_if_success (with_reducible apply Exists.intro)); first | with_reducible assumption | omega | exact mdl (by omega) | exact ilo1 (by omega) | exact ilo2 (by omega) | exact ihi1 (by omega) (by omega) | exact ihi2 (by omega) (by omega))
    · rw [prv_int (by omega)]; omega
    · rw [prv_int (by omega)]; have := prv_lt (n := l.length) (i := i) (by omega); omega
    · refine ⟨(i, i), by simp, ⟨by simp only; omega, ff_yes (a := a) (by omega) ?_, by omega⟩, ?_⟩
      · rw [prv_int (by omega)] at h_
        exact decide_eq_true h_
      · (repeat' (first | with_reducible exact True.intro | with_reducible refine And.intro ?_ ?_ | with_reducible refine Head.mk ?_ ?_ ?_ ?_ | ((conv => lhs; whnf); first | with_reducible rfl | with_reducible exact vInt_s (by omega) | exact rfl) | ((conv => whnf); first | with_reducible exact True.intro | with_reducible refine And.intro ?_ ?_))) <;> (try (conv => lhs; whnf))
        exact dnV_eq _
    · refine ⟨(i, a), by simp, ⟨by simp only; omega, ff_no ?_ hff, by omega⟩, ?_⟩
      · rw [prv_int (by omega)] at h_
        exact decide_eq_false h_
      · (repeat' (first | with_reducible exact True.intro | with_reducible refine And.intro ?_ ?_ | with_reducible refine Head.mk ?_ ?_ ?_ ?_ | ((conv => lhs; whnf); first | with_reducible rfl | with_reducible exact vInt_s (by omega) | exact rfl) | ((conv => whnf); first | with_reducible exact True.intro | with_reducible refine And.intro ?_ ?_))) <;> (try (conv => lhs; whnf))
        exact dnV_eq _
    · exact congrArg some (hS.done (str_small (by omega))).symm
    · have := ff_full (by rw [h2 (by omega)] at hff; exact hff : FirstFrom (strAt l) l.length l.length a)
      omega
/-! ### Ears cut off -/
def cutEarM (xs : List Pt) (k : Int) : List Pt × Bool := if (earM xs k && !decide ((xs.length : Int) = 3)) && roomOk (straightM (xs.eraseIdx k.toNat)) then (straightM (xs.eraseIdx k.toNat), true) else ([], false)
theorem cutEar_no1 {xs : List Pt} {k : Int} (h : earM xs k = false) : cutEarM xs k = ([], false) := by unfold cutEarM; rw [h]; rfl
theorem cutEar_no2 {xs : List Pt} {k : Int} (h : (xs.length : Int) = 3) : cutEarM xs k = ([], false) := by unfold cutEarM; rw [if_neg]; simp [h]
theorem cutEar_no3 {xs : List Pt} {k : Int} (h : roomOk (straightM (xs.eraseIdx k.toNat)) = false) : cutEarM xs k = ([], false) := by unfold cutEarM; rw [h, Bool.and_false]; rfl
theorem cutEar_yes {xs : List Pt} {k : Int} (h1 : earM xs k = true) (h2 : ¬ (xs.length : Int) = 3) (h3 : roomOk (straightM (xs.eraseIdx k.toNat)) = true) : cutEarM xs k = (straightM (xs.eraseIdx k.toNat), true) := by unfold cutEarM; rw [if_pos]; simp [h1, h2, h3]
theorem cutEar_len (xs : List Pt) (k : Int) : (cutEarM xs k).1.length ≤ xs.length := by
  unfold cutEarM
  split
  · exact Nat.le_trans (straight_len _) (List.length_eraseIdx_le _ _)
  · simp
def cutEarC : Con := mkCon [.room, .int] (fun x => x.1.length ≤ 1048576) fun x => rRoomB (cutEarM x.1 x.2.1)
theorem ear_bd {xs : List Pt} {k : Int} (h : earM xs k = true) : 0 ≤ k ∧ k < xs.length ∧ 3 ≤ xs.length ∧ xs.length ≤ 10 := by
  have hc := earM_iff.1 h
  have hb := btw_iff.1 hc.2.1
  have hl := room_len hc.1
  omega
/-! ### Guards that are needed -/
theorem pts_len (xs : List Pt) (gs : List Int) : (ptsOf xs gs).length ≤ gs.length := by
  unfold ptsOf
  split <;> simp
def needM (xs : List Pt) (gs : List Int) (k : Int) : Bool := btw k 0 ((ptsOf xs gs).length - 1) && (seesAllM xs (ptsOf xs gs) && !seesAllM xs ((ptsOf xs gs).eraseIdx k.toNat))
def needC : Con := mkCon [.room, .sl (.b .int), .int] (fun x => x.1.length ≤ 1048576 ∧ x.2.1.length ≤ 1048576) fun x => vB (needM x.1 x.2.1 x.2.2.1)
theorem iIsNeeded_ok : Good1 Try.prog n_impl_IsNeeded needC := by
  refine good_ofG (tys := tyL) (env := [(n_impl_PointsOf, ptsOfC), (n_impl_between, btwC), (n_impl_SeesAll, seesAllC), (n_impl_without, withoutC)]) (envw := []) [] [] [] mixed tys ⟨iPointsOf_ok, between_ok, iSeesAll_ok, without_ok, trivial⟩ trivial Try.func36 rfl (by kernel_rfl) (by decide) (by kernel_rfl) ?_
  have hG_ := kpz [(0, [1, 2, 3]), (1, [2, 3, 7]), (2, [6])] [] [] []
  rintro ⟨(xs : List Pt), (gs : List Int), (k : Int), ⟨⟩⟩ ⟨(h1 : xs.length ≤ _), (h2 : gs.length ≤ _)⟩
  have hl := pts_len xs gs
  have hw : IntKind.i64.wrap ((ptsOf xs gs).length - 1 : Int) = (ptsOf xs gs).length - 1 := W_in (by omega) (by omega)
  have hel : ((ptsOf xs gs).eraseIdx k.toNat).length ≤ (ptsOf xs gs).length := List.length_eraseIdx_le _ _
  (repeat' (first | with_reducible exact True.intro | with_reducible refine st_seq ?_ | (with_reducible refine st_regionG hG_ ?_; intro K_ hK_) | (with_reducible refine st_region ?_; intro K_ hK_) | (with_reducible refine hK_ _ _ ?_; try clear hK_ K_) | ((with_reducible refine st_cond (b := ?b_) ?hb_ ?_ ?_); case hb_ => rfl) | with_reducible refine sq_n ?_ | with_reducible refine sq_r ?_ | with_reducible refine sq_e ?_ | with_reducible refine bq_n ?_ | with_reducible refine bq_r ?_ | with_reducible refine bq_q ?_ | with_reducible refine st_block ?_ | with_reducible refine st_exit ?_ | with_reducible refine st_ret ?_ | with_reducible refine st_skip ?_ | with_reducible refine gq_n ?_ | with_reducible refine gq_r ?_ | with_reducible refine gq_e ?_ | with_reducible refine lq_n ?_ | with_reducible refine lq_r ?_ | with_reducible refine lq_e ?_ | with_reducible refine bq_e (by decide) ?_ | ((conv => whnf); first | (with_reducible refine hK_ _ _ ?_; try clear hK_ K_) | (with_reducible refine fun (g_ : Sl) (o_ : Ow) => ?_) | with_reducible exact True.intro | with_reducible refine And.intro trivial ?_ | with_reducible refine And.intro ?_ ?_ | exact Nat.le_of_ble_eq_true rfl | exact Or.inl rfl | (intro h_; cases h_) | (intro h_; (try simp only [cond_true, cond_false, decide_eq_true_eq, decide_eq_false_iff_not, Bool.not_eq_true', Bool.not_eq_false', Int.toNat_natCast, prodEta] at h_)) | rfl))) <;> (try (conv => whnf)) <;> (try first | change (_ : Int) ≤ _ | change (_ : Nat) ≤ _) <;> (try ((fail_if_success (with_reducible apply Exists.intro)); (try dsimp only); (try simp only [cond_true, cond_false, decide_eq_true_eq, decide_eq_false_iff_not, Bool.not_eq_true', Bool.not_eq_false', Int.toNat_natCast, prodEta]))) <;> (try simp (disch := omega) only [ptEq2, cond_true, cond_false, decide_eq_true_eq, decide_eq_false_iff_not, List.length_drop, List.take_length, Int.toNat_zero, List.drop_zero, Nat.zero_add, List.nil_append, mod_nat1, mod_nat2, tm1, tm2, tmj, W_in, Int.add_sub_cancel, tn1, tnp, tnc, List.length_append, List.length_take, List.length_replicate, List.length_set, List.length_map, List.length_cons, List.length_nil, prodEta, Int.toNat_natCast, beq_iff_eq, beq_eq_false_iff_ne, bne_iff_ne, bne_eq_false_iff_eq, ne_eq, Int.natCast_inj, Int.ofNat_lt, Int.ofNat_le] at *) <;> (try rw [hw] at *)
  all_goals (try (fail_if_success (with_reducible apply Exists.intro)); first | with_reducible assumption | omega | exact mdl (by omega) | exact ilo1 (by omega) | exact ilo2 (by omega) | exact ihi1 (by omega) (by omega) | exact ihi2 (by omega) (by omega))
  all_goals (try (have hb := btw_iff.1 ‹btw k 0 ((ptsOf xs gs).length - 1 : Int) = true›))
  all_goals first
    | omega
    | (unfold needM; rw [‹btw k 0 ((ptsOf xs gs).length - 1 : Int) = true›, ‹seesAllM xs (ptsOf xs gs) = true›]; rfl)
    | (unfold needM; rw [‹seesAllM xs (ptsOf xs gs) = false›, Bool.false_and, Bool.and_false])
    | (unfold needM; rw [‹btw k 0 ((ptsOf xs gs).length - 1 : Int) = false›, Bool.false_and])
    | skip
theorem sIsNeeded_ok : Good1 Try.prog n_spec_IsNeeded needC := by
  refine good_ofG (tys := tyL) (env := [(n_spec_PointsOf, ptsOfC), (n_spec_l01In, btwC), (n_spec_SeesAll, seesAllC)]) (envw := []) [24] [23, 27, 32] [] mixed tys ⟨sPointsOf_ok, l01In_ok, sSeesAll_ok, trivial⟩ trivial Try.func34 rfl (by kernel_rfl) (by decide) (by kernel_rfl) ?_
  have hG_ := kpz [(0, [1, 2, 3]), (1, [2, 3, 7]), (2, [2, 3, 7, 22]), (3, [6]), (4, [6])] [(4, [24])] [] []
  rintro ⟨(xs : List Pt), (gs : List Int), (k : Int), ⟨⟩⟩ ⟨(h1 : xs.length ≤ _), (h2 : gs.length ≤ _)⟩
  have hl := pts_len xs gs
  have hw : IntKind.i64.wrap ((ptsOf xs gs).length - 1 : Int) = (ptsOf xs gs).length - 1 := W_in (by omega) (by omega)
  have hel : ((ptsOf xs gs).eraseIdx k.toNat).length ≤ (ptsOf xs gs).length := List.length_eraseIdx_le _ _
  by_cases hk : btw k 0 ((ptsOf xs gs).length - 1 : Int) = true
  · have hb := btw_iff.1 hk
    have he : (ptsOf xs gs).take k.toNat ++ (ptsOf xs gs).drop (k + 1).toNat = (ptsOf xs gs).eraseIdx k.toNat := by rw [erase_eq, show (k + 1).toNat = k.toNat + 1 by omega]
    (repeat' (first | with_reducible exact True.intro | with_reducible refine st_seq ?_ | (with_reducible refine st_regionG hG_ ?_; intro K_ hK_) | (with_reducible refine st_region ?_; intro K_ hK_) | (with_reducible refine hK_ _ _ ?_; try clear hK_ K_) | ((with_reducible refine st_cond (b := ?b_) ?hb_ ?_ ?_); case hb_ => rfl) | with_reducible refine sq_n ?_ | with_reducible refine sq_r ?_ | with_reducible refine sq_e ?_ | with_reducible refine bq_n ?_ | with_reducible refine bq_r ?_ | with_reducible refine bq_q ?_ | with_reducible refine st_block ?_ | with_reducible refine st_exit ?_ | with_reducible refine st_ret ?_ | with_reducible refine st_skip ?_ | with_reducible refine gq_n ?_ | with_reducible refine gq_r ?_ | with_reducible refine gq_e ?_ | with_reducible refine lq_n ?_ | with_reducible refine lq_r ?_ | with_reducible refine lq_e ?_ | with_reducible refine bq_e (by decide) ?_ | ((conv => whnf); first | (with_reducible refine hK_ _ _ ?_; try clear hK_ K_) | (with_reducible refine fun (g_ : Sl) (o_ : Ow) => ?_) | with_reducible exact True.intro | with_reducible refine And.intro trivial ?_ | with_reducible refine And.intro ?_ ?_ | exact Nat.le_of_ble_eq_true rfl | exact Or.inl rfl | (intro h_; cases h_) | (intro h_; (try simp only [cond_true, cond_false, decide_eq_true_eq, decide_eq_false_iff_not, Bool.not_eq_true', Bool.not_eq_false', Int.toNat_natCast, prodEta] at h_)) | rfl))) <;> (try (conv => whnf)) <;> (try first | change (_ : Int) ≤ _ | change (_ : Nat) ≤ _) <;> (try ((fail_if_success (with_reducible apply Exists.intro)); (try dsimp only); (try simp only [cond_true, cond_false, decide_eq_true_eq, decide_eq_false_iff_not, Bool.not_eq_true', Bool.not_eq_false', Int.toNat_natCast, prodEta]))) <;> (try simp (disch := omega) only [ptEq2, cond_true, cond_false, decide_eq_true_eq, decide_eq_false_iff_not, List.length_drop, List.take_length, Int.toNat_zero, List.drop_zero, Nat.zero_add, List.nil_append, mod_nat1, mod_nat2, tm1, tm2, tmj, W_in, Int.add_sub_cancel, tn1, tnp, tnc, List.length_append, List.length_take, List.length_replicate, List.length_set, List.length_map, List.length_cons, List.length_nil, prodEta, Int.toNat_natCast, beq_iff_eq, beq_eq_false_iff_ne, bne_iff_ne, bne_eq_false_iff_eq, ne_eq, Int.natCast_inj, Int.ofNat_lt, Int.ofNat_le] at *) <;> (try rw [hw] at *)
    all_goals (try (fail_if_success (with_reducible apply Exists.intro)); first | with_reducible assumption | omega | exact mdl (by omega) | exact ilo1 (by omega) | exact ilo2 (by omega) | exact ihi1 (by omega) (by omega) | exact ihi2 (by omega) (by omega))
    all_goals (try rw [he] at *)
    all_goals first
      | omega
      | exact absurd (hk.symm.trans ‹btw k 0 ((ptsOf xs gs).length - 1 : Int) = false›) (by decide)
      | (unfold needM; rw [hk, ‹seesAllM xs (ptsOf xs gs) = true›]; rfl)
      | (unfold needM; rw [‹seesAllM xs (ptsOf xs gs) = false›, Bool.false_and, Bool.and_false])
      | skip
  · rw [Bool.not_eq_true] at hk
    (repeat' (first | with_reducible exact True.intro | with_reducible refine st_seq ?_ | (with_reducible refine st_regionG hG_ ?_; intro K_ hK_) | (with_reducible refine st_region ?_; intro K_ hK_) | (with_reducible refine hK_ _ _ ?_; try clear hK_ K_) | ((with_reducible refine st_cond (b := ?b_) ?hb_ ?_ ?_); case hb_ => rfl) | with_reducible refine sq_n ?_ | with_reducible refine sq_r ?_ | with_reducible refine sq_e ?_ | with_reducible refine bq_n ?_ | with_reducible refine bq_r ?_ | with_reducible refine bq_q ?_ | with_reducible refine st_block ?_ | with_reducible refine st_exit ?_ | with_reducible refine st_ret ?_ | with_reducible refine st_skip ?_ | with_reducible refine gq_n ?_ | with_reducible refine gq_r ?_ | with_reducible refine gq_e ?_ | with_reducible refine lq_n ?_ | with_reducible refine lq_r ?_ | with_reducible refine lq_e ?_ | with_reducible refine bq_e (by decide) ?_ | ((conv => whnf); first | (with_reducible refine hK_ _ _ ?_; try clear hK_ K_) | (with_reducible refine fun (g_ : Sl) (o_ : Ow) => ?_) | with_reducible exact True.intro | with_reducible refine And.intro trivial ?_ | with_reducible refine And.intro ?_ ?_ | exact Nat.le_of_ble_eq_true rfl | exact Or.inl rfl | (intro h_; cases h_) | (intro h_; (try simp only [cond_true, cond_false, decide_eq_true_eq, decide_eq_false_iff_not, Bool.not_eq_true', Bool.not_eq_false', Int.toNat_natCast, prodEta] at h_)) | rfl))) <;> (try (conv => whnf)) <;> (try first | change (_ : Int) ≤ _ | change (_ : Nat) ≤ _) <;> (try ((fail_if_success (with_reducible apply Exists.intro)); (try dsimp only); (try simp only [cond_true, cond_false, decide_eq_true_eq, decide_eq_false_iff_not, Bool.not_eq_true', Bool.not_eq_false', Int.toNat_natCast, prodEta]))) <;> (try simp (disch := omega) only [ptEq2, cond_true, cond_false, decide_eq_true_eq, decide_eq_false_iff_not, List.length_drop, List.take_length, Int.toNat_zero, List.drop_zero, Nat.zero_add, List.nil_append, mod_nat1, mod_nat2, tm1, tm2, tmj, W_in, Int.add_sub_cancel, tn1, tnp, tnc, List.length_append, List.length_take, List.length_replicate, List.length_set, List.length_map, List.length_cons, List.length_nil, prodEta, Int.toNat_natCast, beq_iff_eq, beq_eq_false_iff_ne, bne_iff_ne, bne_eq_false_iff_eq, ne_eq, Int.natCast_inj, Int.ofNat_lt, Int.ofNat_le] at *) <;> (try rw [hw] at *)
    all_goals (try (fail_if_success (with_reducible apply Exists.intro)); first | with_reducible assumption | omega | exact mdl (by omega) | exact ilo1 (by omega) | exact ilo2 (by omega) | exact ihi1 (by omega) (by omega) | exact ihi2 (by omega) (by omega))
    all_goals first
      | exact absurd (hk.symm.trans ‹btw k 0 ((ptsOf xs gs).length - 1 : Int) = true›) (by decide)
      | (unfold needM; rw [hk, Bool.false_and])
      | skip
end Go.Proofs.Yteocbaobanfpdaa
