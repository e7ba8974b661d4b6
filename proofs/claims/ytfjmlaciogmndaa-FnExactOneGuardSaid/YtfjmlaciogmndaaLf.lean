/- Contracts: turned, mirrored and moved rooms; the laws on them. -/
import Derived.Test.YtfjmlaciogmndaaLe
namespace Go.Proofs.Ytfjmlaciogmndaa
open Go.RowKit Nm
set_option maxRecDepth 10000
set_option linter.unusedSimpArgs false
set_option linter.unusedVariables false
theorem locRow_eq {v : Nat} {t : TypeId} {k : ElK} {xs ys : List k.T} (h : xs = ys) : (⟨v, .row t k xs⟩ : Loc) = ⟨v, .row t k ys⟩ := by rw [h]
theorem map_take1 {α β : Type} (f : α → β) {xs : List α} (d : α) (h : 0 < xs.length) : [f (xs.getD 0 d)] = (xs.take 1).map f := by
  cases xs with
  | nil => simp at h
  | cons a l => rfl
/-- What 'slices.Reverse' has done after i rounds. -/
def revTo {α : Type} (d : α) (xs : List α) (i : Nat) : List α := (List.range xs.length).map fun p => if p < i ∨ xs.length - i ≤ p then xs.getD (xs.length - 1 - p) d else xs.getD p d
theorem revTo_len {α : Type} (d : α) (xs : List α) (i : Nat) : (revTo d xs i).length = xs.length := by simp [revTo]
theorem revTo_get {α : Type} (d : α) {xs : List α} {i p : Nat} (hp : p < xs.length) : (revTo d xs i).getD p d = if p < i ∨ xs.length - i ≤ p then xs.getD (xs.length - 1 - p) d else xs.getD p d := by simp [revTo, List.getD, hp]
theorem ext_getD {α : Type} (d : α) {xs ys : List α} (hl : xs.length = ys.length) (h : ∀ p, p < xs.length → xs.getD p d = ys.getD p d) : xs = ys := by
  refine List.ext_getElem hl fun p h1 h2 => ?_
  have := h p h1
  rwa [getD_lt _ h1, getD_lt _ h2] at this
theorem revTo_zero {α : Type} (d : α) (xs : List α) : revTo d xs 0 = xs := ext_getD d (revTo_len d xs 0) fun p hp => by
  rw [revTo_len] at hp
  rw [revTo_get d hp, if_neg (by omega)]
theorem revTo_end {α : Type} (d : α) {xs : List α} {i : Nat} (h : xs.length ≤ 2 * i + 1) : revTo d xs i = xs.reverse := ext_getD d (by rw [revTo_len, List.length_reverse]) fun p hp => by
  rw [revTo_len] at hp
  rw [revTo_get d hp, List.getD_eq_getElem?_getD (l := xs.reverse), List.getElem?_reverse hp, ← List.getD_eq_getElem?_getD]
  split
  · rfl
  · rw [show xs.length - 1 - p = p by omega]
theorem getD_set {α : Type} {xs : List α} {i p : Nat} {x d : α} (hi : i < xs.length) : (xs.set i x).getD p d = if p = i then x else xs.getD p d := by
  rw [List.getD_eq_getElem?_getD, List.getElem?_set]
  by_cases h : i = p
  · subst h; simp [hi]
  · rw [if_neg h, if_neg (Ne.symm h)]; rfl
theorem revTo_step {α : Type} (d : α) {xs : List α} {i : Nat} (h : 2 * i + 1 < xs.length) :
    ((revTo d xs i).set i ((revTo d xs i).getD (xs.length - 1 - i) d)).set (xs.length - 1 - i) ((revTo d xs i).getD i d) = revTo d xs (i + 1) := ext_getD d (by simp [revTo_len]) fun p hp => by
  simp only [List.length_set, revTo_len] at hp
  rw [getD_set (by rw [List.length_set, revTo_len]; omega), getD_set (by rw [revTo_len]; omega), revTo_get d (by omega), revTo_get d (by omega), revTo_get d hp, revTo_get d hp]
  by_cases h1 : p = xs.length - 1 - i
  · subst h1
    rw [if_pos rfl, if_neg (by omega), if_pos (by omega)]
    congr 1; omega
  · rw [if_neg h1]
    by_cases h2 : p = i
    · subst h2
      rw [if_pos rfl, if_neg (by omega), if_pos (by omega)]
    · rw [if_neg h2]
      by_cases h3 : p < i ∨ xs.length - i ≤ p
      · rw [if_pos h3, if_pos (by omega)]
      · rw [if_neg h3, if_neg (by omega)]
def revPtC : ConW := mkConW [.sl (.b .pt)] 0 t_impl_Point (fun x => x.1.length ≤ 1048576) (fun _ => .tup []) fun x => ⟨.b .pt, x.1.reverse, false⟩
theorem revPt_ok : GoodW Try.prog n_slices_Reverse_impl_Point revPtC := by
  refine good_ofW (tys := tyL) (env := []) (envw := []) (envd := []) [] [] [] [] [] mixed tys trivial trivial trivial Try.func43 rfl (by kernel_rfl) (by decide) (by kernel_rfl) ?_
  have hG_ := kpz [(0, [0, 2, 3]), (1, [0, 2, 3, 9]), (2, [0, 2, 3]), (3, [0, 2, 3])] [(0, [1000]), (1, [1000]), (2, [1000]), (3, [1000])] [] []
  rintro ⟨(xs : List Pt), ⟨⟩⟩ (h1 : xs.length ≤ _)
  (repeat' (first | with_reducible exact True.intro | with_reducible refine st_seq ?_ | (with_reducible refine st_regionG hG_ ?_; intro K_ hK_) | (with_reducible refine st_region ?_; intro K_ hK_) | (with_reducible refine hK_ _ _ ?_; try clear hK_ K_) | ((with_reducible refine st_cond (b := ?b_) ?hb_ ?_ ?_); case hb_ => rfl) | with_reducible refine sq_n ?_ | with_reducible refine sq_r ?_ | with_reducible refine sq_e ?_ | with_reducible refine bq_n ?_ | with_reducible refine bq_r ?_ | with_reducible refine bq_q ?_ | with_reducible refine st_block ?_ | with_reducible refine st_exit ?_ | with_reducible refine st_ret ?_ | with_reducible refine st_skip ?_ | with_reducible refine gq_n ?_ | with_reducible refine gq_r ?_ | with_reducible refine gq_e ?_ | with_reducible refine lq_n ?_ | with_reducible refine lq_r ?_ | with_reducible refine lq_e ?_ | with_reducible refine bq_e (by decide) ?_ | ((conv => whnf); first | (with_reducible refine hK_ _ _ ?_; try clear hK_ K_) | (with_reducible refine fun (g_ : Sl) (o_ : Ow) => ?_) | with_reducible exact True.intro | with_reducible refine And.intro trivial ?_ | with_reducible refine And.intro ?_ ?_ | exact Nat.le_of_ble_eq_true rfl | exact Or.inl rfl | (intro h_; cases h_) | (intro h_; (try simp only [cond_true, cond_false, decide_eq_true_eq, decide_eq_false_iff_not, Bool.not_eq_true', Bool.not_eq_false', Int.toNat_natCast, prodEta] at h_)) | rfl))) <;> (try (conv => whnf)) <;> (try first | change (_ : Int) ≤ _ | change (_ : Nat) ≤ _) <;> (try ((fail_if_success (with_reducible apply Exists.intro)); (try dsimp only); (try simp only [cond_true, cond_false, decide_eq_true_eq, decide_eq_false_iff_not, Bool.not_eq_true', Bool.not_eq_false', Int.toNat_natCast, prodEta]))) <;> (try simp (disch := omega) only [ptEq2, cond_true, cond_false, decide_eq_true_eq, decide_eq_false_iff_not, List.length_drop, List.take_length, Int.toNat_zero, List.drop_zero, Nat.zero_add, List.nil_append, mod_nat1, mod_nat2, tm1, tm2, tmj, W_in, List.length_append, List.length_take, List.length_replicate, List.length_set, List.length_map, List.length_cons, List.length_nil, prodEta, Int.toNat_natCast, beq_iff_eq, beq_eq_false_iff_ne, bne_iff_ne, bne_eq_false_iff_eq, ne_eq, Int.natCast_inj, Int.ofNat_lt, Int.ofNat_le] at *)
  refine awp'_loopG (α := Nat) (fun i ver_ => [(2, vInt i), (3, vInt ((xs.length : Int) - 1 - i))]) (fun i ver_ => []) (fun i ver_ => [(1000, ⟨0, .row t_impl_Point (.b .pt) (revTo (0, 0) xs i)⟩)]) (fun i => 2 * i ≤ xs.length + 1) (fun i => xs.length - i) [0] [] (0) ?_
  conv => whnf
  refine ⟨⟨?inv1_, ?vals1_, ?own1_, ?fix1_⟩, ?body1_⟩
  case' vals1_ => (repeat' (first | with_reducible exact True.intro | with_reducible refine And.intro ?_ ?_ | with_reducible refine Head.mk ?_ ?_ ?_ ?_ | ((conv => lhs; whnf); first | with_reducible rfl | with_reducible exact vInt_s (by omega) | exact rfl) | ((conv => whnf); first | with_reducible exact True.intro | with_reducible refine And.intro ?_ ?_))) <;> (try (conv => lhs; whnf))
  case' own1_ => (repeat' (first | with_reducible exact True.intro | with_reducible refine And.intro ?_ ?_ | with_reducible refine Head.mk ?_ ?_ ?_ ?_ | ((conv => lhs; whnf); first | with_reducible rfl | with_reducible exact vInt_s (by omega) | exact rfl) | ((conv => whnf); first | with_reducible exact True.intro | with_reducible refine And.intro ?_ ?_))) <;> (try (conv => lhs; whnf))
  case' fix1_ => (repeat' (first | with_reducible exact True.intro | with_reducible refine And.intro ?_ ?_ | with_reducible refine Head.mk ?_ ?_ ?_ ?_ | ((conv => lhs; whnf); first | with_reducible rfl | with_reducible exact vInt_s (by omega) | exact rfl) | ((conv => whnf); first | with_reducible exact True.intro | with_reducible refine And.intro ?_ ?_))) <;> (try (conv => lhs; whnf))
  all_goals (try exact congrArg vInt (by omega))
  · exact locRow_eq (revTo_zero _ xs).symm
  · omega
  rintro i g_ o_ v_ hi
  have hl := revTo_len (0, 0) xs i
  (repeat' (first | with_reducible exact True.intro | with_reducible refine st_seq ?_ | (with_reducible refine st_regionG hG_ ?_; intro K_ hK_) | (with_reducible refine st_region ?_; intro K_ hK_) | (with_reducible refine hK_ _ _ ?_; try clear hK_ K_) | ((with_reducible refine st_cond (b := ?b_) ?hb_ ?_ ?_); case hb_ => rfl) | with_reducible refine sq_n ?_ | with_reducible refine sq_r ?_ | with_reducible refine sq_e ?_ | with_reducible refine bq_n ?_ | with_reducible refine bq_r ?_ | with_reducible refine bq_q ?_ | with_reducible refine st_block ?_ | with_reducible refine st_exit ?_ | with_reducible refine st_ret ?_ | with_reducible refine st_skip ?_ | with_reducible refine gq_n ?_ | with_reducible refine gq_r ?_ | with_reducible refine gq_e ?_ | with_reducible refine lq_n ?_ | with_reducible refine lq_r ?_ | with_reducible refine lq_e ?_ | with_reducible refine bq_e (by decide) ?_ | ((conv => whnf); first | (with_reducible refine hK_ _ _ ?_; try clear hK_ K_) | (with_reducible refine fun (g_ : Sl) (o_ : Ow) => ?_) | with_reducible exact True.intro | with_reducible refine And.intro trivial ?_ | with_reducible refine And.intro ?_ ?_ | exact Nat.le_of_ble_eq_true rfl | exact Or.inl rfl | (intro h_; cases h_) | (intro h_; (try simp only [cond_true, cond_false, decide_eq_true_eq, decide_eq_false_iff_not, Bool.not_eq_true', Bool.not_eq_false', Int.toNat_natCast, prodEta] at h_)) | rfl))) <;> (try (conv => whnf)) <;> (try first | change (_ : Int) ≤ _ | change (_ : Nat) ≤ _) <;> (try ((fail_if_success (with_reducible apply Exists.intro)); (try dsimp only); (try simp only [cond_true, cond_false, decide_eq_true_eq, decide_eq_false_iff_not, Bool.not_eq_true', Bool.not_eq_false', Int.toNat_natCast, prodEta]))) <;> (try simp (disch := omega) only [ptEq2, cond_true, cond_false, decide_eq_true_eq, decide_eq_false_iff_not, List.length_drop, List.take_length, Int.toNat_zero, List.drop_zero, Nat.zero_add, List.nil_append, mod_nat1, mod_nat2, tm1, tm2, tmj, W_in, List.length_append, List.length_take, List.length_replicate, List.length_set, List.length_map, List.length_cons, List.length_nil, prodEta, Int.toNat_natCast, beq_iff_eq, beq_eq_false_iff_ne, bne_iff_ne, bne_eq_false_iff_eq, ne_eq, Int.natCast_inj, Int.ofNat_lt, Int.ofNat_le] at *)
  all_goals (try (fail_if_success (with_reducible apply Exists.intro)); first | with_reducible assumption | omega | exact mdl (by omega) | exact ilo1 (by omega) | exact ilo2 (by omega) | exact ihi1 (by omega) (by omega) | exact ihi2 (by omega) (by omega))
  · refine ⟨i + 1, by omega, by omega, ?_⟩
    (repeat' (first | with_reducible exact True.intro | with_reducible refine And.intro ?_ ?_ | with_reducible refine Head.mk ?_ ?_ ?_ ?_ | ((conv => lhs; whnf); first | with_reducible rfl | with_reducible exact vInt_s (by omega) | exact rfl) | ((conv => whnf); first | with_reducible exact True.intro | with_reducible refine And.intro ?_ ?_))) <;> (try (conv => lhs; whnf))
    · exact congrArg vInt (by omega)
    · rw [show ((xs.length : Int) - 1 - i).toNat = xs.length - 1 - i by omega]
      exact locRow_eq (revTo_step (0, 0) (by omega))
  · exact congrArg some (revTo_end (0, 0) (by omega))
end Go.Proofs.Ytfjmlaciogmndaa
