/- Contracts of the library at points: slices.Compact. -/
import Derived.Test.YtfjmlaciogmndaaMh
import Derived.Test.YtfjmlaciogmndaaGf
import Derived.Test.YtfjmlaciogmndaaLf
namespace Go.Proofs.Ytfjmlaciogmndaa
open Go.RowKit Go.Proofs.Ytfjmlaciogmndaa.Nm
set_option maxRecDepth 10000
set_option maxHeartbeats 2000000
set_option linter.unusedSimpArgs false
set_option linter.unusedVariables false
theorem compM_snoc {a b : Pt} : ∀ {l : List Pt}, l.getLast? = some b → compM (l ++ [a]) = if b = a then compM l else compM l ++ [a]
  | [], h => by cases h
  | [x], h => by
    have : x = b := by simpa using h
    subst this
    show compM [x, a] = _
    unfold compM
    by_cases e : x = a
    · subst e; rw [if_pos rfl, if_pos rfl]; rfl
    · rw [if_neg e, if_neg e]; rfl
  | x :: y :: r, h => by
    rw [List.getLast?_cons_cons] at h
    have ih := compM_snoc (a := a) h
    show compM (x :: y :: (r ++ [a])) = _
    rw [show y :: r ++ [a] = y :: (r ++ [a]) from rfl] at ih
    rw [compM, ih, compM]
    by_cases e : x = y
    · rw [if_pos e, if_pos e]
    · rw [if_neg e, if_neg e]
      split <;> simp
theorem take_last {l : List Pt} {k : Nat} (h0 : 0 < k) (h : k ≤ l.length) : (l.take k).getLast? = some (pAt l (k - 1)) := by
  rw [List.getLast?_eq_getElem?, List.length_take, Nat.min_eq_left h, List.getElem?_take, if_pos (by omega), show pAt l (k - 1) = l[k - 1] from getD_lt _ (by omega)]
  exact List.getElem?_eq_getElem (by omega)
theorem take_snoc' {l : List Pt} {k : Nat} (h : k < l.length) : l.take (k + 1) = l.take k ++ [pAt l k] := by
  rw [List.take_succ_eq_append_getElem h, show pAt l k = l[k] from getD_lt _ h]
theorem comp_take_same {l : List Pt} {k : Nat} (h0 : 0 < k) (h : k < l.length) (e : pAt l (k - 1) = pAt l k) : compM (l.take (k + 1)) = compM (l.take k) := by
  rw [take_snoc' h, compM_snoc (take_last h0 (by omega)), if_pos e]
theorem comp_take_new {l : List Pt} {k : Nat} (h0 : 0 < k) (h : k < l.length) (e : pAt l (k - 1) ≠ pAt l k) : compM (l.take (k + 1)) = compM (l.take k) ++ [pAt l k] := by
  rw [take_snoc' h, compM_snoc (take_last h0 (by omega)), if_neg e]
/-- What the row holds on the way: w points are kept out of the first m, the rest from place m - 1 on is as it was. -/
structure CompSt (xs cur : List Pt) (w m : Nat) : Prop where
  len : cur.length = xs.length
  lt : w < m
  le : m ≤ xs.length
  pos : 0 < w
  kept : cur.take w = compM (xs.take m)
  rest : ∀ j, m - 1 ≤ j → pAt cur j = pAt xs j
theorem pAt_set {l : List Pt} {k j : Nat} {x : Pt} (h : k < l.length) : pAt (l.set k x) j = if k = j then x else pAt l j := by
  rw [pAt, pAt, List.getD_eq_getElem?_getD, List.getD_eq_getElem?_getD, List.getElem?_set]
  split
  · first | rfl | (rw [if_pos h]; rfl)
  · rfl
theorem CompSt.same {xs cur : List Pt} {w m : Nat} (h : CompSt xs cur w m) (hm : m < xs.length) (e : pAt cur (m - 1) = pAt cur m) : CompSt xs cur w (m + 1) := by
  have h1 := h.lt
  have h2 := h.pos
  refine ⟨h.len, by omega, by omega, h.pos, ?_, fun j hj => h.rest j (by omega)⟩
  rw [h.kept, comp_take_same (by omega) hm (by rw [← h.rest _ (Nat.le_refl _), ← h.rest m (by omega)]; exact e)]
theorem CompSt.new {xs cur : List Pt} {w m : Nat} (h : CompSt xs cur w m) (hm : m < xs.length) (e : pAt cur (m - 1) ≠ pAt cur m) : CompSt xs (cur.set w (pAt cur m)) (w + 1) (m + 1) := by
  have h1 := h.lt
  have h2 := h.pos
  have h3 := h.len
  refine ⟨by rw [List.length_set]; exact h.len, by omega, by omega, by omega, ?_, fun j hj => ?_⟩
  · rw [comp_take_new (by omega) hm (by rw [← h.rest _ (Nat.le_refl _), ← h.rest m (by omega)]; exact e), ← h.kept, ← h.rest m (by omega)]
    rw [List.take_succ_eq_append_getElem (by rw [List.length_set]; omega), List.getElem_set_self, List.take_set, List.set_eq_of_length_le (by rw [List.length_take]; omega)]
  · rw [pAt_set (by omega), if_neg (by omega)]
    exact h.rest j (by omega)
theorem comp_short {l : List Pt} (h : l.length < 2) : compM l = l := by
  match l, h with
  | [], _ => rfl
  | [a], _ => rfl
  | a :: b :: r, h => exact absurd h (by simp)
def compC : ConW := mkConW [.sl (.b .pt)] 0 t_impl_Point (fun x => x.1.length ≤ 1048576) (fun _ => .tup []) fun x => ⟨.b .pt, compM x.1, true⟩
theorem compact_ok : GoodW Try.prog n_slices_Compact_impl_Point compC := by
  refine good_ofW (tys := tyL) (env := []) (envw := []) (envd := []) [59] [] [] [] [] mixed tys trivial trivial trivial Try.func41 rfl (by kernel_rfl) (by decide) (by kernel_rfl) ?_
  have hG_ := kpz [(0, [0]), (1, [0, 8]), (2, [2]), (3, [0, 3]), (4, [0, 3, 13]), (5, [0, 3]), (6, [0, 3, 25]), (7, [0, 3, 4]), (8, [0, 3, 4, 5]), (9, [0, 3, 4, 5, 32]), (10, [0, 3, 4, 5]), (11, [0, 3, 4, 5, 44]), (12, [0, 3, 4, 5]), (13, [0, 3, 4, 5]), (14, [0, 3]), (15, [2]), (16, [2])] [(0, [1000]), (1, [1000]), (2, [1000]), (3, [1000]), (4, [1000]), (5, [1000]), (6, [1000]), (7, [1000]), (8, [1000]), (9, [1000]), (10, [1000]), (11, [1000]), (12, [1000]), (13, [1000]), (14, [1000]), (15, [59, 1000]), (16, [1000])] [] []
  rintro ⟨(xs : List Pt), ⟨⟩⟩ (h1 : xs.length ≤ _)
  (repeat' (first | with_reducible exact True.intro | with_reducible refine st_seq ?_ | (with_reducible refine st_regionG hG_ ?_; intro K_ hK_) | (with_reducible refine st_region ?_; intro K_ hK_) | (with_reducible refine hK_ _ _ ?_; try clear hK_ K_) | ((with_reducible refine st_cond (b := ?b_) ?hb_ ?_ ?_); case hb_ => rfl) | with_reducible refine sq_n ?_ | with_reducible refine sq_r ?_ | with_reducible refine sq_e ?_ | with_reducible refine bq_n ?_ | with_reducible refine bq_r ?_ | with_reducible refine bq_q ?_ | with_reducible refine st_block ?_ | with_reducible refine st_exit ?_ | with_reducible refine st_ret ?_ | with_reducible refine st_skip ?_ | with_reducible refine gq_n ?_ | with_reducible refine gq_r ?_ | with_reducible refine gq_e ?_ | with_reducible refine lq_n ?_ | with_reducible refine lq_r ?_ | with_reducible refine lq_e ?_ | with_reducible refine bq_e (by decide) ?_ | ((conv => whnf); first | (with_reducible refine hK_ _ _ ?_; try clear hK_ K_) | (with_reducible refine fun (g_ : Sl) (o_ : Ow) => ?_) | with_reducible exact True.intro | with_reducible refine And.intro trivial ?_ | with_reducible refine And.intro ?_ ?_ | exact Nat.le_of_ble_eq_true rfl | exact Or.inl rfl | (intro h_; cases h_) | (intro h_; (try simp only [cond_true, cond_false, decide_eq_true_eq, decide_eq_false_iff_not, Bool.not_eq_true', Bool.not_eq_false', Int.toNat_natCast, prodEta] at h_)) | rfl))) <;> (try (conv => whnf)) <;> (try first | change (_ : Int) ≤ _ | change (_ : Nat) ≤ _) <;> (try ((fail_if_success (with_reducible apply Exists.intro)); (try dsimp only); (try simp only [cond_true, cond_false, decide_eq_true_eq, decide_eq_false_iff_not, Bool.not_eq_true', Bool.not_eq_false', Int.toNat_natCast, prodEta]))) <;> (try simp (disch := omega) only [ptEq2, cond_true, cond_false, decide_eq_true_eq, decide_eq_false_iff_not, List.length_drop, List.take_length, Int.toNat_zero, List.drop_zero, Nat.zero_add, List.nil_append, mod_nat1, mod_nat2, tm1, tm2, tmj, W_in, Int.add_sub_cancel, tn1, tnp, tnc, List.length_append, List.length_take, List.length_replicate, List.length_set, List.length_map, List.length_cons, List.length_nil, prodEta, Int.toNat_natCast, beq_iff_eq, beq_eq_false_iff_ne, bne_iff_ne, bne_eq_false_iff_eq, ne_eq, Int.natCast_inj, Int.ofNat_lt, Int.ofNat_le] at *)
  all_goals (try (fail_if_success (with_reducible apply Exists.intro)); first | with_reducible assumption | omega | exact mdl (by omega) | exact ilo1 (by omega) | exact ilo2 (by omega) | exact ihi1 (by omega) (by omega) | exact ihi2 (by omega) (by omega))
  · rw [comp_short (by omega)]; rfl
  have hn : 2 ≤ xs.length := by omega
  refine awp'_loopG (α := Nat) (fun k ver_ => [(3, vInt k)]) (fun k ver_ => []) (fun k ver_ => []) (fun k => (1 ≤ k ∧ k ≤ xs.length) ∧ compM (xs.take k) = xs.take k) (fun k => xs.length - k) [0] [1000] (1) ?_
  conv => whnf
  refine ⟨⟨?inv1_, ?vals1_, ?own1_, ?fix1_⟩, ?body1_⟩
  case' vals1_ => (repeat' (first | with_reducible exact True.intro | with_reducible refine And.intro ?_ ?_ | with_reducible refine Head.mk ?_ ?_ ?_ ?_ | ((conv => lhs; whnf); first | with_reducible rfl | with_reducible exact vInt_s (by omega) | exact rfl) | ((conv => whnf); first | with_reducible exact True.intro | with_reducible refine And.intro ?_ ?_))) <;> (try (conv => lhs; whnf))
  case' own1_ => (repeat' (first | with_reducible exact True.intro | with_reducible refine And.intro ?_ ?_ | with_reducible refine Head.mk ?_ ?_ ?_ ?_ | ((conv => lhs; whnf); first | with_reducible rfl | with_reducible exact vInt_s (by omega) | exact rfl) | ((conv => whnf); first | with_reducible exact True.intro | with_reducible refine And.intro ?_ ?_))) <;> (try (conv => lhs; whnf))
  case' fix1_ => (repeat' (first | with_reducible exact True.intro | with_reducible refine And.intro ?_ ?_ | with_reducible refine Head.mk ?_ ?_ ?_ ?_ | ((conv => lhs; whnf); first | with_reducible rfl | with_reducible exact vInt_s (by omega) | exact rfl) | ((conv => whnf); first | with_reducible exact True.intro | with_reducible refine And.intro ?_ ?_))) <;> (try (conv => lhs; whnf))
  · exact ⟨⟨by omega, by omega⟩, by rw [comp_short (by rw [List.length_take]; omega)]⟩
  rintro k g_ o_ v_ ⟨⟨hk1, hk⟩, hcm⟩
  (repeat' (first | with_reducible exact True.intro | with_reducible refine st_seq ?_ | (with_reducible refine st_regionG hG_ ?_; intro K_ hK_) | (with_reducible refine st_region ?_; intro K_ hK_) | (with_reducible refine hK_ _ _ ?_; try clear hK_ K_) | ((with_reducible refine st_cond (b := ?b_) ?hb_ ?_ ?_); case hb_ => rfl) | with_reducible refine sq_n ?_ | with_reducible refine sq_r ?_ | with_reducible refine sq_e ?_ | with_reducible refine bq_n ?_ | with_reducible refine bq_r ?_ | with_reducible refine bq_q ?_ | with_reducible refine st_block ?_ | with_reducible refine st_exit ?_ | with_reducible refine st_ret ?_ | with_reducible refine st_skip ?_ | with_reducible refine gq_n ?_ | with_reducible refine gq_r ?_ | with_reducible refine gq_e ?_ | with_reducible refine lq_n ?_ | with_reducible refine lq_r ?_ | with_reducible refine lq_e ?_ | with_reducible refine bq_e (by decide) ?_ | ((conv => whnf); first | (with_reducible refine hK_ _ _ ?_; try clear hK_ K_) | (with_reducible refine fun (g_ : Sl) (o_ : Ow) => ?_) | with_reducible exact True.intro | with_reducible refine And.intro trivial ?_ | with_reducible refine And.intro ?_ ?_ | exact Nat.le_of_ble_eq_true rfl | exact Or.inl rfl | (intro h_; cases h_) | (intro h_; (try simp only [cond_true, cond_false, decide_eq_true_eq, decide_eq_false_iff_not, Bool.not_eq_true', Bool.not_eq_false', Int.toNat_natCast, prodEta] at h_)) | rfl))) <;> (try (conv => whnf)) <;> (try first | change (_ : Int) ≤ _ | change (_ : Nat) ≤ _) <;> (try ((fail_if_success (with_reducible apply Exists.intro)); (try dsimp only); (try simp only [cond_true, cond_false, decide_eq_true_eq, decide_eq_false_iff_not, Bool.not_eq_true', Bool.not_eq_false', Int.toNat_natCast, prodEta]))) <;> (try simp (disch := omega) only [ptEq2, cond_true, cond_false, decide_eq_true_eq, decide_eq_false_iff_not, List.length_drop, List.take_length, Int.toNat_zero, List.drop_zero, Nat.zero_add, List.nil_append, mod_nat1, mod_nat2, tm1, tm2, tmj, W_in, Int.add_sub_cancel, tn1, tnp, tnc, List.length_append, List.length_take, List.length_replicate, List.length_set, List.length_map, List.length_cons, List.length_nil, prodEta, Int.toNat_natCast, beq_iff_eq, beq_eq_false_iff_ne, bne_iff_ne, bne_eq_false_iff_eq, ne_eq, Int.natCast_inj, Int.ofNat_lt, Int.ofNat_le] at *)
  all_goals (try (fail_if_success (with_reducible apply Exists.intro)); first | with_reducible assumption | omega | exact mdl (by omega) | exact ilo1 (by omega) | exact ilo2 (by omega) | exact ihi1 (by omega) (by omega) | exact ihi2 (by omega) (by omega))
  · have hdup : pAt xs (k - 1) = pAt xs k := Eq.symm ‹xs.getD k _ = _›
    refine awp'_loopG (α := List Pt × Nat × Nat) (fun q ver_ => [(3, vInt q.2.1), (5, vInt q.2.2)]) (fun q ver_ => []) (fun q ver_ => [(1000, ⟨0, .row t_impl_Point (.b .pt) q.1⟩)]) (fun q => CompSt xs q.1 q.2.1 (k + q.2.2) ∧ 1 ≤ q.2.2) (fun q => xs.length - q.2.2) [0, 4] [] ((xs, k, 1)) ?_
    conv => whnf
    refine ⟨⟨?inv2_, ?vals2_, ?own2_, ?fix2_⟩, ?body2_⟩
    case' vals2_ => (repeat' (first | with_reducible exact True.intro | with_reducible refine And.intro ?_ ?_ | with_reducible refine Head.mk ?_ ?_ ?_ ?_ | ((conv => lhs; whnf); first | with_reducible rfl | with_reducible exact vInt_s (by omega) | exact rfl) | ((conv => whnf); first | with_reducible exact True.intro | with_reducible refine And.intro ?_ ?_))) <;> (try (conv => lhs; whnf))
    case' own2_ => (repeat' (first | with_reducible exact True.intro | with_reducible refine And.intro ?_ ?_ | with_reducible refine Head.mk ?_ ?_ ?_ ?_ | ((conv => lhs; whnf); first | with_reducible rfl | with_reducible exact vInt_s (by omega) | exact rfl) | ((conv => whnf); first | with_reducible exact True.intro | with_reducible refine And.intro ?_ ?_))) <;> (try (conv => lhs; whnf))
    case' fix2_ => (repeat' (first | with_reducible exact True.intro | with_reducible refine And.intro ?_ ?_ | with_reducible refine Head.mk ?_ ?_ ?_ ?_ | ((conv => lhs; whnf); first | with_reducible rfl | with_reducible exact vInt_s (by omega) | exact rfl) | ((conv => whnf); first | with_reducible exact True.intro | with_reducible refine And.intro ?_ ?_))) <;> (try (conv => lhs; whnf))
    · exact ⟨⟨rfl, by show k < k + 1; omega, by show k + 1 ≤ _; omega, hk1, by show xs.take k = compM (xs.take (k + 1)); rw [comp_take_same (by omega) (by omega) hdup, hcm], fun j _ => rfl⟩, Nat.le_refl _⟩
    rintro ⟨cur, w, m⟩ g_ o_ v_ ⟨hst, hm1⟩
    have hst : CompSt xs cur w (k + m) := hst
    have hm1 : 1 ≤ m := hm1
    have q1 := hst.len
    have q2 := hst.lt
    have q3 := hst.le
    have q4 := hst.pos
    (repeat' (first | with_reducible exact True.intro | with_reducible refine st_seq ?_ | (with_reducible refine st_regionG hG_ ?_; intro K_ hK_) | (with_reducible refine st_region ?_; intro K_ hK_) | (with_reducible refine hK_ _ _ ?_; try clear hK_ K_) | ((with_reducible refine st_cond (b := ?b_) ?hb_ ?_ ?_); case hb_ => rfl) | with_reducible refine sq_n ?_ | with_reducible refine sq_r ?_ | with_reducible refine sq_e ?_ | with_reducible refine bq_n ?_ | with_reducible refine bq_r ?_ | with_reducible refine bq_q ?_ | with_reducible refine st_block ?_ | with_reducible refine st_exit ?_ | with_reducible refine st_ret ?_ | with_reducible refine st_skip ?_ | with_reducible refine gq_n ?_ | with_reducible refine gq_r ?_ | with_reducible refine gq_e ?_ | with_reducible refine lq_n ?_ | with_reducible refine lq_r ?_ | with_reducible refine lq_e ?_ | with_reducible refine bq_e (by decide) ?_ | ((conv => whnf); first | (with_reducible refine hK_ _ _ ?_; try clear hK_ K_) | (with_reducible refine fun (g_ : Sl) (o_ : Ow) => ?_) | with_reducible exact True.intro | with_reducible refine And.intro trivial ?_ | with_reducible refine And.intro ?_ ?_ | exact Nat.le_of_ble_eq_true rfl | exact Or.inl rfl | (intro h_; cases h_) | (intro h_; (try simp only [cond_true, cond_false, decide_eq_true_eq, decide_eq_false_iff_not, Bool.not_eq_true', Bool.not_eq_false', Int.toNat_natCast, prodEta] at h_)) | rfl))) <;> (try (conv => whnf)) <;> (try first | change (_ : Int) ≤ _ | change (_ : Nat) ≤ _) <;> (try ((fail_if_success (with_reducible apply Exists.intro)); (try dsimp only); (try simp only [cond_true, cond_false, decide_eq_true_eq, decide_eq_false_iff_not, Bool.not_eq_true', Bool.not_eq_false', Int.toNat_natCast, prodEta]))) <;> (try simp (disch := omega) only [ptEq2, cond_true, cond_false, decide_eq_true_eq, decide_eq_false_iff_not, List.length_drop, List.take_length, Int.toNat_zero, List.drop_zero, Nat.zero_add, List.nil_append, mod_nat1, mod_nat2, tm1, tm2, tmj, W_in, Int.add_sub_cancel, tn1, tnp, tnc, List.length_append, List.length_take, List.length_replicate, List.length_set, List.length_map, List.length_cons, List.length_nil, prodEta, Int.toNat_natCast, beq_iff_eq, beq_eq_false_iff_ne, bne_iff_ne, bne_eq_false_iff_eq, ne_eq, Int.natCast_inj, Int.ofNat_lt, Int.ofNat_le] at *)
    all_goals (try (fail_if_success (with_reducible apply Exists.intro)); first | with_reducible assumption | omega | exact mdl (by omega) | exact ilo1 (by omega) | exact ilo2 (by omega) | exact ihi1 (by omega) (by omega) | exact ihi2 (by omega) (by omega))
    · refine ⟨(cur.set w (pAt cur (k + m)), w + 1, m + 1), by show _ - (m + 1) < _; omega, ⟨?_, by show 1 ≤ m + 1; omega⟩, ?_⟩
      · show CompSt xs (cur.set w (pAt cur (k + m))) (w + 1) (k + (m + 1))
        refine hst.new (by omega) fun e => absurd e.symm ?_
        rw [show k + m - 1 = k + (m - 1) by omega]
        assumption
      · (repeat' (first | with_reducible exact True.intro | with_reducible refine And.intro ?_ ?_ | with_reducible refine Head.mk ?_ ?_ ?_ ?_ | ((conv => lhs; whnf); first | with_reducible rfl | with_reducible exact vInt_s (by omega) | exact rfl) | ((conv => whnf); first | with_reducible exact True.intro | with_reducible refine And.intro ?_ ?_))) <;> (try (conv => lhs; whnf))
    · refine ⟨(cur, w, m + 1), by show _ - (m + 1) < _; omega, ⟨?_, by show 1 ≤ m + 1; omega⟩, ?_⟩
      · show CompSt xs cur w (k + (m + 1))
        refine hst.same (by omega) ?_
        rw [show k + m - 1 = k + (m - 1) by omega]
        exact Eq.symm (by assumption)
      · (repeat' (first | with_reducible exact True.intro | with_reducible refine And.intro ?_ ?_ | with_reducible refine Head.mk ?_ ?_ ?_ ?_ | ((conv => lhs; whnf); first | with_reducible rfl | with_reducible exact vInt_s (by omega) | exact rfl) | ((conv => whnf); first | with_reducible exact True.intro | with_reducible refine And.intro ?_ ?_))) <;> (try (conv => lhs; whnf))
    · rw [putL_len _ _ _ (by rw [List.length_replicate]; omega)]; omega
    · refine congrArg some ?_
      have e1 : compM xs = cur.take w := by rw [hst.kept, List.take_of_length_le (by omega)]
      rw [e1]
      unfold putL
      rw [List.take_append_of_le_length (by rw [List.length_take]; omega), List.take_take, Nat.min_self]
  · refine ⟨k + 1, by omega, ⟨⟨by omega, by omega⟩, ?_⟩, by (repeat' (first | with_reducible exact True.intro | with_reducible refine And.intro ?_ ?_ | with_reducible refine Head.mk ?_ ?_ ?_ ?_ | ((conv => lhs; whnf); first | with_reducible rfl | with_reducible exact vInt_s (by omega) | exact rfl) | ((conv => whnf); first | with_reducible exact True.intro | with_reducible refine And.intro ?_ ?_))) <;> (try (conv => lhs; whnf))⟩
    rw [comp_take_new (by omega) (by omega) (fun e => absurd e.symm (by assumption)), hcm, take_snoc' (by omega)]
  · rw [List.take_of_length_le (by omega)] at hcm
    rw [hcm]; rfl
end Go.Proofs.Ytfjmlaciogmndaa
