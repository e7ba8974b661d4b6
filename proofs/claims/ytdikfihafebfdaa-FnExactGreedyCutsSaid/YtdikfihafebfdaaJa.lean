/- Marks in rows of rows of numbers. -/
import Derived.Test.YtdikfihafebfdaaLk
namespace Go.Proofs.Ytdikfihafebfdaa
open Go.RowKit Go.Proofs.Ytdikfihafebfdaa.Nm
set_option maxRecDepth 10000
set_option maxHeartbeats 2000000
set_option linter.unusedSimpArgs false
set_option linter.unusedVariables false
/-- How many numbers there are in all. -/
def totI : List (List Int) → Nat
  | [] => 0
  | x :: r => x.length + totI r
def heldSS : Int → List (List Int) → Int
  | k, [] => k
  | k, x :: r => if heldI k x < 0 then -1 else heldSS (heldI k x) r
def marksSS : Int → List (List Int) → List (List Int)
  | _, [] => []
  | k, x :: r => marksI k x.length :: marksSS (k + x.length) r
theorem marksSS_len : ∀ (k : Int) (xs : List (List Int)), (marksSS k xs).length = xs.length
  | _, [] => rfl
  | k, x :: r => by simp [marksSS, marksSS_len _ r]
theorem heldSS_marks : ∀ (k : Int) (xs : List (List Int)), 0 ≤ k → heldSS k (marksSS k xs) = k + totI xs
  | k, [], _ => by simp [heldSS, marksSS, totI]
  | k, x :: r, h => by
    unfold marksSS heldSS
    rw [heldI_marks, if_neg (by omega), heldSS_marks _ r (by omega)]
    simp only [totI]; omega
theorem heldSS_marks1 (xs : List (List Int)) : heldSS 1 (marksSS 1 xs) = 1 + totI xs := heldSS_marks 1 xs (by decide)
theorem totI_le : ∀ {xs : List (List Int)} {m : Nat}, (∀ y ∈ xs, y.length ≤ m) → totI xs ≤ xs.length * m
  | [], m, _ => Nat.zero_le _
  | x :: r, m, h => by
    have h1 := h x (by simp)
    have h2 := totI_le (xs := r) (m := m) fun y hy => h y (by simp [hy])
    simp only [totI, List.length_cons, Nat.add_mul]; omega
theorem totI_take {xs : List (List Int)} {i : Nat} (h : i < xs.length) : totI (xs.take (i + 1)) = totI (xs.take i) + (xs.getD i []).length := by
  induction xs generalizing i with
  | nil => simp at h
  | cons x r ih => cases i with
    | zero => simp [totI]
    | succ i => simp only [List.take_succ_cons, totI, List.getD_cons_succ]; rw [ih (by simpa using h)]; omega
theorem marksSS_get {k : Int} {xs : List (List Int)} {i : Nat} (h : i < xs.length) : (marksSS k xs).getD i [] = marksI (k + totI (xs.take i)) (xs.getD i []).length := by
  induction xs generalizing k i with
  | nil => simp at h
  | cons x r ih => cases i with
    | zero => simp [marksSS, totI]
    | succ i =>
      simp only [marksSS, List.getD_cons_succ, List.take_succ_cons, totI]
      rw [ih (by simpa using h)]
      congr 1; omega
theorem heldSS_drop {k : Int} {xs : List (List Int)} {i : Nat} (h : i < xs.length) : heldSS k (xs.drop i) = if heldI k (xs.getD i []) < 0 then -1 else heldSS (heldI k (xs.getD i [])) (xs.drop (i + 1)) := by
  have e : xs.drop i = xs.getD i [] :: xs.drop (i + 1) := by
    rw [List.drop_eq_getElem_cons h, getD_lt _ h]
  rw [e]; rfl
theorem heldI_range (k : Int) (xs : List Int) : heldI k xs = -1 ∨ heldI k xs = k + xs.length := by unfold heldI; split <;> simp
theorem mem_getD {α : Type} {xs : List α} {i : Nat} {d : α} (h : i < xs.length) : xs.getD i d ∈ xs := by rw [getD_lt _ h]; exact List.getElem_mem h
def okSS (xs : List (List Int)) : Prop := xs.length ≤ 1024 ∧ ∀ y ∈ xs, y.length ≤ 1024
theorem marksSS_le {m : Nat} : ∀ {k : Int} {xs : List (List Int)}, (∀ y ∈ xs, y.length ≤ m) → ∀ y ∈ marksSS k xs, y.length ≤ m
  | _, [], _, y, hy => by simp [marksSS] at hy
  | k, x :: r, h, y, hy => by
    unfold marksSS at hy
    rcases List.mem_cons.1 hy with e | hy
    · rw [e, marksI_len]; exact h x (by simp)
    · exact marksSS_le (fun z hz => h z (by simp [hz])) y hy
def heldSSC : Con := mkCon [.sl (.s .int), .int] (fun x => okSS x.1 ∧ 0 ≤ x.2.1 ∧ x.2.1 ≤ 1024) fun x => vI (heldSS x.2.1 x.1)
theorem heldIntSS_ok : Good1 Try.prog n_laws_heldIntSS heldSSC := by
  refine good_ofG (tys := tyL) (env := [(n_laws_heldIntS, heldIsC)]) (envw := []) (envd := []) [] [] [] [] [] mixed tys ⟨heldIntS_ok, trivial⟩ trivial trivial Try.func12 rfl (by kernel_rfl) (by decide) (by kernel_rfl) ?_
  have hG_ := kpz [(0, [0, 1]), (1, [0, 1, 5]), (2, [0, 1, 5, 9]), (3, [0, 1, 5]), (4, [0, 1, 5]), (5, [0, 1, 5, 19]), (6, [4]), (7, [4])] [] [] []
  rintro ⟨(xs : List (List Int)), (n : Int), ⟨⟩⟩ ⟨⟨(h1 : xs.length ≤ _), h2⟩, (h3 : 0 ≤ n), (h4 : n ≤ _)⟩
  have h2 : PLift (∀ y ∈ xs, y.length ≤ 1024) := ⟨h2⟩
  (repeat' (first | with_reducible exact True.intro | with_reducible refine st_seq ?_ | (with_reducible refine st_regionG hG_ ?_; intro K_ hK_) | (with_reducible refine st_region ?_; intro K_ hK_) | (with_reducible refine hK_ _ _ ?_; try clear hK_ K_) | ((with_reducible refine st_cond (b := ?b_) ?hb_ ?_ ?_); case hb_ => rfl) | with_reducible refine sq_n ?_ | with_reducible refine sq_r ?_ | with_reducible refine sq_e ?_ | with_reducible refine bq_n ?_ | with_reducible refine bq_r ?_ | with_reducible refine bq_q ?_ | with_reducible refine st_block ?_ | with_reducible refine st_exit ?_ | with_reducible refine st_ret ?_ | with_reducible refine st_skip ?_ | with_reducible refine gq_n ?_ | with_reducible refine gq_r ?_ | with_reducible refine gq_e ?_ | with_reducible refine lq_n ?_ | with_reducible refine lq_r ?_ | with_reducible refine lq_e ?_ | with_reducible refine bq_e (by decide) ?_ | ((conv => whnf); first | (with_reducible refine hK_ _ _ ?_; try clear hK_ K_) | (with_reducible refine fun (g_ : Sl) (o_ : Ow) => ?_) | with_reducible exact True.intro | with_reducible refine And.intro trivial ?_ | with_reducible refine And.intro ?_ ?_ | exact Nat.le_of_ble_eq_true rfl | exact Or.inl rfl | (intro h_; cases h_) | (intro h_; (try simp only [cond_true, cond_false, decide_eq_true_eq, decide_eq_false_iff_not, Bool.not_eq_true', Bool.not_eq_false', Int.toNat_natCast, prodEta] at h_)) | rfl))) <;> (try (conv => whnf)) <;> (try first | change (_ : Int) ≤ _ | change (_ : Nat) ≤ _) <;> (try ((fail_if_success (with_reducible apply Exists.intro)); (try dsimp only); (try simp only [cond_true, cond_false, decide_eq_true_eq, decide_eq_false_iff_not, Bool.not_eq_true', Bool.not_eq_false', Int.toNat_natCast, prodEta]))) <;> (try simp (disch := omega) only [ptEq2, cond_true, cond_false, decide_eq_true_eq, decide_eq_false_iff_not, List.length_drop, List.take_length, Int.toNat_zero, List.drop_zero, Nat.zero_add, List.nil_append, mod_nat1, mod_nat2, tm1, tm2, tmj, W_in, List.length_append, List.length_take, List.length_replicate, List.length_set, List.length_map, List.length_cons, List.length_nil, prodEta, Int.toNat_natCast, beq_iff_eq, beq_eq_false_iff_ne, bne_iff_ne, bne_eq_false_iff_eq, ne_eq, Int.natCast_inj, Int.ofNat_lt, Int.ofNat_le] at *)
  refine awp'_loopG (α := Nat × Int) (fun s ver_ => [(5, vInt s.1), (1, vInt s.2)]) (fun s ver_ => []) (fun s ver_ => []) (fun s => s.1 ≤ xs.length ∧ (0 ≤ s.2 ∧ s.2 ≤ n + 1024 * s.1) ∧ heldSS n xs = heldSS s.2 (xs.drop s.1)) (fun s => xs.length - s.1) [0] [] ((0, n)) ?_
  conv => whnf
  refine ⟨⟨?inv1_, ?vals1_, ?own1_, ?fix1_⟩, ?body1_⟩
  case' vals1_ => (repeat' (first | with_reducible exact True.intro | with_reducible refine And.intro ?_ ?_ | with_reducible refine Head.mk ?_ ?_ ?_ ?_ | ((conv => lhs; whnf); first | with_reducible rfl | with_reducible exact vInt_s (by omega) | exact rfl) | ((conv => whnf); first | with_reducible exact True.intro | with_reducible refine And.intro ?_ ?_))) <;> (try (conv => lhs; whnf))
  case' own1_ => (repeat' (first | with_reducible exact True.intro | with_reducible refine And.intro ?_ ?_ | with_reducible refine Head.mk ?_ ?_ ?_ ?_ | ((conv => lhs; whnf); first | with_reducible rfl | with_reducible exact vInt_s (by omega) | exact rfl) | ((conv => whnf); first | with_reducible exact True.intro | with_reducible refine And.intro ?_ ?_))) <;> (try (conv => lhs; whnf))
  case' fix1_ => (repeat' (first | with_reducible exact True.intro | with_reducible refine And.intro ?_ ?_ | with_reducible refine Head.mk ?_ ?_ ?_ ?_ | ((conv => lhs; whnf); first | with_reducible rfl | with_reducible exact vInt_s (by omega) | exact rfl) | ((conv => whnf); first | with_reducible exact True.intro | with_reducible refine And.intro ?_ ?_))) <;> (try (conv => lhs; whnf))
  · exact ⟨Nat.zero_le _, ⟨h3, by omega⟩, rfl⟩
  rintro ⟨k, v⟩ g_ o_ v_ ⟨hk, ⟨hv0, hv1⟩, hall⟩
  simp only at hk hv0 hv1 hall
  have hle : ∀ h : k < xs.length, (xs.getD k []).length ≤ 1024 := fun h => h2.down _ (mem_getD h)
  (repeat' (first | with_reducible exact True.intro | with_reducible refine st_seq ?_ | (with_reducible refine st_regionG hG_ ?_; intro K_ hK_) | (with_reducible refine st_region ?_; intro K_ hK_) | (with_reducible refine hK_ _ _ ?_; try clear hK_ K_) | ((with_reducible refine st_cond (b := ?b_) ?hb_ ?_ ?_); case hb_ => rfl) | with_reducible refine sq_n ?_ | with_reducible refine sq_r ?_ | with_reducible refine sq_e ?_ | with_reducible refine bq_n ?_ | with_reducible refine bq_r ?_ | with_reducible refine bq_q ?_ | with_reducible refine st_block ?_ | with_reducible refine st_exit ?_ | with_reducible refine st_ret ?_ | with_reducible refine st_skip ?_ | with_reducible refine gq_n ?_ | with_reducible refine gq_r ?_ | with_reducible refine gq_e ?_ | with_reducible refine lq_n ?_ | with_reducible refine lq_r ?_ | with_reducible refine lq_e ?_ | with_reducible refine bq_e (by decide) ?_ | ((conv => whnf); first | (with_reducible refine hK_ _ _ ?_; try clear hK_ K_) | (with_reducible refine fun (g_ : Sl) (o_ : Ow) => ?_) | with_reducible exact True.intro | with_reducible refine And.intro trivial ?_ | with_reducible refine And.intro ?_ ?_ | exact Nat.le_of_ble_eq_true rfl | exact Or.inl rfl | (intro h_; cases h_) | (intro h_; (try simp only [cond_true, cond_false, decide_eq_true_eq, decide_eq_false_iff_not, Bool.not_eq_true', Bool.not_eq_false', Int.toNat_natCast, prodEta] at h_)) | rfl))) <;> (try (conv => whnf)) <;> (try first | change (_ : Int) ≤ _ | change (_ : Nat) ≤ _) <;> (try ((fail_if_success (with_reducible apply Exists.intro)); (try dsimp only); (try simp only [cond_true, cond_false, decide_eq_true_eq, decide_eq_false_iff_not, Bool.not_eq_true', Bool.not_eq_false', Int.toNat_natCast, prodEta]))) <;> (try simp (disch := omega) only [ptEq2, cond_true, cond_false, decide_eq_true_eq, decide_eq_false_iff_not, List.length_drop, List.take_length, Int.toNat_zero, List.drop_zero, Nat.zero_add, List.nil_append, mod_nat1, mod_nat2, tm1, tm2, tmj, W_in, List.length_append, List.length_take, List.length_replicate, List.length_set, List.length_map, List.length_cons, List.length_nil, prodEta, Int.toNat_natCast, beq_iff_eq, beq_eq_false_iff_ne, bne_iff_ne, bne_eq_false_iff_eq, ne_eq, Int.natCast_inj, Int.ofNat_lt, Int.ofNat_le] at *)
  all_goals (try (fail_if_success (with_reducible apply Exists.intro)); first | with_reducible assumption | omega | exact mdl (by omega) | exact ilo1 (by omega) | exact ilo2 (by omega) | exact ihi1 (by omega) (by omega) | exact ihi2 (by omega) (by omega))
  · exact Nat.le_trans (hle h_) (by decide)
  · rw [hall, heldSS_drop h_, if_pos (by assumption)]
  · have hr := heldI_range v (xs.getD k [])
    have hl := hle h_
    have hnn : ¬ heldI v (xs.getD k []) < 0 := by assumption
    refine ⟨(k + 1, heldI v (xs.getD k [])), by simp only; omega, ⟨by simp only; omega, ⟨by simp only; omega, by simp only; omega⟩, ?_⟩, ?_⟩
    · rw [hall, heldSS_drop h_, if_neg hnn]
    · (repeat' (first | with_reducible exact True.intro | with_reducible refine And.intro ?_ ?_ | with_reducible refine Head.mk ?_ ?_ ?_ ?_ | ((conv => lhs; whnf); first | with_reducible rfl | with_reducible exact vInt_s (by omega) | exact rfl) | ((conv => whnf); first | with_reducible exact True.intro | with_reducible refine And.intro ?_ ?_))) <;> (try (conv => lhs; whnf))
  · rw [hall, List.drop_eq_nil_of_le (by omega)]; rfl
def markSSC : ConD := mkConDW [.sl (.s .int), .int] 0 t_sl_int t_int (fun x => okSS x.1 ∧ 0 ≤ x.2.1 ∧ x.2.1 ≤ 1024) (fun x => vInt (x.2.1 + totI x.1)) fun x => marksSS x.2.1 x.1
/-- The first k rows marked. -/
def mixSS (n : Int) (xs : List (List Int)) (k : Nat) : List (List Int) := (marksSS n xs).take k ++ xs.drop k
theorem mixSS_len (n : Int) (xs : List (List Int)) {k : Nat} (h : k ≤ xs.length) : (mixSS n xs k).length = xs.length := by
  unfold mixSS
  rw [List.length_append, List.length_take, List.length_drop, marksSS_len]; omega
theorem mixSS_get {n : Int} {xs : List (List Int)} {k : Nat} (h : k < xs.length) : (mixSS n xs k).getD k [] = xs.getD k [] := by
  unfold mixSS
  have h1 : ((marksSS n xs).take k).length = k := by rw [List.length_take, marksSS_len]; omega
  rw [List.getD_eq_getElem?_getD, List.getElem?_append_right (by omega), h1, Nat.sub_self, List.getElem?_drop, Nat.add_zero, ← List.getD_eq_getElem?_getD]
theorem mixSS_set {n : Int} {xs : List (List Int)} {k : Nat} (h : k < xs.length) : (mixSS n xs k).set k (marksI (n + totI (xs.take k)) (xs.getD k []).length) = mixSS n xs (k + 1) := by
  unfold mixSS
  rw [← marksSS_get h]
  exact mix_set h (marksSS_len n xs).symm []
theorem markIntSS_ok : GoodD Try.prog n_laws_markIntSS markSSC := by
  refine good_ofDW (tys := tyL) (env := []) (envw := [(n_laws_markIntS, markIsC)]) (envd := []) [17] [] [] [] [17] mixed tys trivial ⟨markIntS_ok, trivial⟩ trivial Try.func11 rfl (by kernel_rfl) (by decide) (by kernel_rfl) ?_
  have hG_ := kpz [(0, [0, 1]), (1, [0, 1, 5]), (2, [0, 1, 5, 9]), (3, [0, 1, 5]), (4, [0, 1, 5]), (5, [4])] [(0, [1000]), (1, [1000]), (2, [1000]), (3, [17, 1000]), (4, [17, 1000]), (5, [1000])] [] []
  rintro ⟨(xs : List (List Int)), (n : Int), ⟨⟩⟩ ⟨⟨(h1 : xs.length ≤ _), h2⟩, (h3 : 0 ≤ n), (h4 : n ≤ _)⟩
  have h2 : PLift (∀ y ∈ xs, y.length ≤ 1024) := ⟨h2⟩
  (repeat' (first | with_reducible exact True.intro | with_reducible refine st_seq ?_ | (with_reducible refine st_regionG hG_ ?_; intro K_ hK_) | (with_reducible refine st_region ?_; intro K_ hK_) | (with_reducible refine hK_ _ _ ?_; try clear hK_ K_) | ((with_reducible refine st_cond (b := ?b_) ?hb_ ?_ ?_); case hb_ => rfl) | with_reducible refine sq_n ?_ | with_reducible refine sq_r ?_ | with_reducible refine sq_e ?_ | with_reducible refine bq_n ?_ | with_reducible refine bq_r ?_ | with_reducible refine bq_q ?_ | with_reducible refine st_block ?_ | with_reducible refine st_exit ?_ | with_reducible refine st_ret ?_ | with_reducible refine st_skip ?_ | with_reducible refine gq_n ?_ | with_reducible refine gq_r ?_ | with_reducible refine gq_e ?_ | with_reducible refine lq_n ?_ | with_reducible refine lq_r ?_ | with_reducible refine lq_e ?_ | with_reducible refine bq_e (by decide) ?_ | ((conv => whnf); first | (with_reducible refine hK_ _ _ ?_; try clear hK_ K_) | (with_reducible refine fun (g_ : Sl) (o_ : Ow) => ?_) | with_reducible exact True.intro | with_reducible refine And.intro trivial ?_ | with_reducible refine And.intro ?_ ?_ | exact Nat.le_of_ble_eq_true rfl | exact Or.inl rfl | (intro h_; cases h_) | (intro h_; (try simp only [cond_true, cond_false, decide_eq_true_eq, decide_eq_false_iff_not, Bool.not_eq_true', Bool.not_eq_false', Int.toNat_natCast, prodEta] at h_)) | rfl))) <;> (try (conv => whnf)) <;> (try first | change (_ : Int) ≤ _ | change (_ : Nat) ≤ _) <;> (try ((fail_if_success (with_reducible apply Exists.intro)); (try dsimp only); (try simp only [cond_true, cond_false, decide_eq_true_eq, decide_eq_false_iff_not, Bool.not_eq_true', Bool.not_eq_false', Int.toNat_natCast, prodEta]))) <;> (try simp (disch := omega) only [ptEq2, cond_true, cond_false, decide_eq_true_eq, decide_eq_false_iff_not, List.length_drop, List.take_length, Int.toNat_zero, List.drop_zero, Nat.zero_add, List.nil_append, mod_nat1, mod_nat2, tm1, tm2, tmj, W_in, List.length_append, List.length_take, List.length_replicate, List.length_set, List.length_map, List.length_cons, List.length_nil, prodEta, Int.toNat_natCast, beq_iff_eq, beq_eq_false_iff_ne, bne_iff_ne, bne_eq_false_iff_eq, ne_eq, Int.natCast_inj, Int.ofNat_lt, Int.ofNat_le] at *)
  refine awp'_loopG (α := Nat) (fun k ver_ => [(5, vInt k), (1, vInt (n + totI (xs.take k)))]) (fun k ver_ => []) (fun k ver_ => [(1000, ⟨0, .deep t_sl_int t_int .int (mixSS n xs k) noG⟩)]) (fun k => k ≤ xs.length) (fun k => xs.length - k) [0] [] (0) ?_
  conv => whnf
  refine ⟨⟨?inv2_, ?vals2_, ?own2_, ?fix2_⟩, ?body2_⟩
  case' vals2_ => (repeat' (first | with_reducible exact True.intro | with_reducible refine And.intro ?_ ?_ | with_reducible refine Head.mk ?_ ?_ ?_ ?_ | ((conv => lhs; whnf); first | with_reducible rfl | with_reducible exact vInt_s (by omega) | exact rfl) | ((conv => whnf); first | with_reducible exact True.intro | with_reducible refine And.intro ?_ ?_))) <;> (try (conv => lhs; whnf))
  case' own2_ => (repeat' (first | with_reducible exact True.intro | with_reducible refine And.intro ?_ ?_ | with_reducible refine Head.mk ?_ ?_ ?_ ?_ | ((conv => lhs; whnf); first | with_reducible rfl | with_reducible exact vInt_s (by omega) | exact rfl) | ((conv => whnf); first | with_reducible exact True.intro | with_reducible refine And.intro ?_ ?_))) <;> (try (conv => lhs; whnf))
  case' fix2_ => (repeat' (first | with_reducible exact True.intro | with_reducible refine And.intro ?_ ?_ | with_reducible refine Head.mk ?_ ?_ ?_ ?_ | ((conv => lhs; whnf); first | with_reducible rfl | with_reducible exact vInt_s (by omega) | exact rfl) | ((conv => whnf); first | with_reducible exact True.intro | with_reducible refine And.intro ?_ ?_))) <;> (try (conv => lhs; whnf))
  · exact congrArg vInt (by simp [totI])
  · exact Nat.zero_le _
  rintro k g_ o_ v_ hk
  have hml := mixSS_len n xs hk
  have hle : ∀ h : k < xs.length, (xs.getD k []).length ≤ 1024 := fun h => h2.down _ (mem_getD h)
  have hto : totI (xs.take k) ≤ k * 1024 := by
    have := totI_le (xs := xs.take k) (m := 1024) fun y hy => h2.down y (List.mem_of_mem_take hy)
    rw [List.length_take, Nat.min_eq_left hk] at this
    exact this
  (repeat' (first | with_reducible exact True.intro | with_reducible refine st_seq ?_ | (with_reducible refine st_regionG hG_ ?_; intro K_ hK_) | (with_reducible refine st_region ?_; intro K_ hK_) | (with_reducible refine hK_ _ _ ?_; try clear hK_ K_) | ((with_reducible refine st_cond (b := ?b_) ?hb_ ?_ ?_); case hb_ => rfl) | with_reducible refine sq_n ?_ | with_reducible refine sq_r ?_ | with_reducible refine sq_e ?_ | with_reducible refine bq_n ?_ | with_reducible refine bq_r ?_ | with_reducible refine bq_q ?_ | with_reducible refine st_block ?_ | with_reducible refine st_exit ?_ | with_reducible refine st_ret ?_ | with_reducible refine st_skip ?_ | with_reducible refine gq_n ?_ | with_reducible refine gq_r ?_ | with_reducible refine gq_e ?_ | with_reducible refine lq_n ?_ | with_reducible refine lq_r ?_ | with_reducible refine lq_e ?_ | with_reducible refine bq_e (by decide) ?_ | ((conv => whnf); first | (with_reducible refine hK_ _ _ ?_; try clear hK_ K_) | (with_reducible refine fun (g_ : Sl) (o_ : Ow) => ?_) | with_reducible exact True.intro | with_reducible refine And.intro trivial ?_ | with_reducible refine And.intro ?_ ?_ | exact Nat.le_of_ble_eq_true rfl | exact Or.inl rfl | (intro h_; cases h_) | (intro h_; (try simp only [cond_true, cond_false, decide_eq_true_eq, decide_eq_false_iff_not, Bool.not_eq_true', Bool.not_eq_false', Int.toNat_natCast, prodEta] at h_)) | rfl))) <;> (try (conv => whnf)) <;> (try first | change (_ : Int) ≤ _ | change (_ : Nat) ≤ _) <;> (try ((fail_if_success (with_reducible apply Exists.intro)); (try dsimp only); (try simp only [cond_true, cond_false, decide_eq_true_eq, decide_eq_false_iff_not, Bool.not_eq_true', Bool.not_eq_false', Int.toNat_natCast, prodEta]))) <;> (try simp (disch := omega) only [ptEq2, cond_true, cond_false, decide_eq_true_eq, decide_eq_false_iff_not, List.length_drop, List.take_length, Int.toNat_zero, List.drop_zero, Nat.zero_add, List.nil_append, mod_nat1, mod_nat2, tm1, tm2, tmj, W_in, List.length_append, List.length_take, List.length_replicate, List.length_set, List.length_map, List.length_cons, List.length_nil, prodEta, Int.toNat_natCast, beq_iff_eq, beq_eq_false_iff_ne, bne_iff_ne, bne_eq_false_iff_eq, ne_eq, Int.natCast_inj, Int.ofNat_lt, Int.ofNat_le] at *)
  all_goals (try (fail_if_success (with_reducible apply Exists.intro)); first | with_reducible assumption | omega | exact mdl (by omega) | exact ilo1 (by omega) | exact ilo2 (by omega) | exact ihi1 (by omega) (by omega) | exact ihi2 (by omega) (by omega))
  · rw [mixSS_get (by omega)]; exact Nat.le_trans (hle (by omega)) (by decide)
  · have hk' : k < xs.length := by omega
    refine ⟨k + 1, by omega, by omega, ?_⟩
    (repeat' (first | with_reducible exact True.intro | with_reducible refine And.intro ?_ ?_ | with_reducible refine Head.mk ?_ ?_ ?_ ?_ | ((conv => lhs; whnf); first | with_reducible rfl | with_reducible exact vInt_s (by omega) | exact rfl) | ((conv => whnf); first | with_reducible exact True.intro | with_reducible refine And.intro ?_ ?_))) <;> (try (conv => lhs; whnf))
    · exact congrArg vInt (by rw [mixSS_get hk', totI_take hk']; omega)
    · refine congrArg (fun l => (⟨0, .deep t_sl_int t_int .int l noG⟩ : Loc)) ?_
      show (mixSS n xs k).set k (marksI (n + totI (xs.take k)) ((mixSS n xs k).getD k []).length) = _
      rw [mixSS_get hk', mixSS_set hk']
  · unfold mixSS
    rw [List.take_of_length_le (by rw [marksSS_len]; omega), List.drop_eq_nil_of_le (by omega), List.append_nil]
  · rw [List.take_of_length_le (by omega)]
def eqSSC : Con := mkCon [.sl (.s .int), .sl (.s .int)] (fun x => okSS x.1) fun x => vB (decide (x.1 = x.2.1))
theorem eqIntSS_ok : Good1 Try.prog n_laws_eqIntSS eqSSC := by
  refine good_ofG (tys := tyL) (env := [(n_laws_eqIntS, eqIsC)]) (envw := []) (envd := []) [] [] [] [] [] mixed tys ⟨eqIntS_ok, trivial⟩ trivial trivial Try.func8 rfl (by kernel_rfl) (by decide) (by kernel_rfl) ?_
  have hG_ := kpz [(0, [0, 1]), (1, [0, 1, 10]), (2, [4]), (3, [0, 1, 5]), (4, [0, 1, 5, 14]), (5, [0, 1, 5]), (6, [0, 1, 5, 26]), (7, [4]), (8, [4])] [] [] []
  rintro ⟨(xs : List (List Int)), (ys : List (List Int)), ⟨⟩⟩ ⟨(h1 : xs.length ≤ _), h2⟩
  have h2 : PLift (∀ y ∈ xs, y.length ≤ 1024) := ⟨h2⟩
  (repeat' (first | with_reducible exact True.intro | with_reducible refine st_seq ?_ | (with_reducible refine st_regionG hG_ ?_; intro K_ hK_) | (with_reducible refine st_region ?_; intro K_ hK_) | (with_reducible refine hK_ _ _ ?_; try clear hK_ K_) | ((with_reducible refine st_cond (b := ?b_) ?hb_ ?_ ?_); case hb_ => rfl) | with_reducible refine sq_n ?_ | with_reducible refine sq_r ?_ | with_reducible refine sq_e ?_ | with_reducible refine bq_n ?_ | with_reducible refine bq_r ?_ | with_reducible refine bq_q ?_ | with_reducible refine st_block ?_ | with_reducible refine st_exit ?_ | with_reducible refine st_ret ?_ | with_reducible refine st_skip ?_ | with_reducible refine gq_n ?_ | with_reducible refine gq_r ?_ | with_reducible refine gq_e ?_ | with_reducible refine lq_n ?_ | with_reducible refine lq_r ?_ | with_reducible refine lq_e ?_ | with_reducible refine bq_e (by decide) ?_ | ((conv => whnf); first | (with_reducible refine hK_ _ _ ?_; try clear hK_ K_) | (with_reducible refine fun (g_ : Sl) (o_ : Ow) => ?_) | with_reducible exact True.intro | with_reducible refine And.intro trivial ?_ | with_reducible refine And.intro ?_ ?_ | exact Nat.le_of_ble_eq_true rfl | exact Or.inl rfl | (intro h_; cases h_) | (intro h_; (try simp only [cond_true, cond_false, decide_eq_true_eq, decide_eq_false_iff_not, Bool.not_eq_true', Bool.not_eq_false', Int.toNat_natCast, prodEta] at h_)) | rfl))) <;> (try (conv => whnf)) <;> (try first | change (_ : Int) ≤ _ | change (_ : Nat) ≤ _) <;> (try ((fail_if_success (with_reducible apply Exists.intro)); (try dsimp only); (try simp only [cond_true, cond_false, decide_eq_true_eq, decide_eq_false_iff_not, Bool.not_eq_true', Bool.not_eq_false', Int.toNat_natCast, prodEta]))) <;> (try simp (disch := omega) only [ptEq2, cond_true, cond_false, decide_eq_true_eq, decide_eq_false_iff_not, List.length_drop, List.take_length, Int.toNat_zero, List.drop_zero, Nat.zero_add, List.nil_append, mod_nat1, mod_nat2, tm1, tm2, tmj, W_in, List.length_append, List.length_take, List.length_replicate, List.length_set, List.length_map, List.length_cons, List.length_nil, prodEta, Int.toNat_natCast, beq_iff_eq, beq_eq_false_iff_ne, bne_iff_ne, bne_eq_false_iff_eq, ne_eq, Int.natCast_inj, Int.ofNat_lt, Int.ofNat_le] at *)
  · symm; rw [decide_eq_false_iff_not]; rintro rfl; exact h_ rfl
  have hl := h_
  refine awp'_loopG (α := Nat) (fun k ver_ => [(5, vInt k)]) (fun k ver_ => []) (fun k ver_ => []) (fun k => k ≤ xs.length ∧ ∀ j, j < k → xs.getD j [] = ys.getD j []) (fun k => xs.length - k) [0, 1] [] (0) ?_
  conv => whnf
  refine ⟨⟨?inv3_, ?vals3_, ?own3_, ?fix3_⟩, ?body3_⟩
  case' vals3_ => (repeat' (first | with_reducible exact True.intro | with_reducible refine And.intro ?_ ?_ | with_reducible refine Head.mk ?_ ?_ ?_ ?_ | ((conv => lhs; whnf); first | with_reducible rfl | with_reducible exact vInt_s (by omega) | exact rfl) | ((conv => whnf); first | with_reducible exact True.intro | with_reducible refine And.intro ?_ ?_))) <;> (try (conv => lhs; whnf))
  case' own3_ => (repeat' (first | with_reducible exact True.intro | with_reducible refine And.intro ?_ ?_ | with_reducible refine Head.mk ?_ ?_ ?_ ?_ | ((conv => lhs; whnf); first | with_reducible rfl | with_reducible exact vInt_s (by omega) | exact rfl) | ((conv => whnf); first | with_reducible exact True.intro | with_reducible refine And.intro ?_ ?_))) <;> (try (conv => lhs; whnf))
  case' fix3_ => (repeat' (first | with_reducible exact True.intro | with_reducible refine And.intro ?_ ?_ | with_reducible refine Head.mk ?_ ?_ ?_ ?_ | ((conv => lhs; whnf); first | with_reducible rfl | with_reducible exact vInt_s (by omega) | exact rfl) | ((conv => whnf); first | with_reducible exact True.intro | with_reducible refine And.intro ?_ ?_))) <;> (try (conv => lhs; whnf))
  · exact ⟨Nat.zero_le _, fun j hj => absurd hj (by omega)⟩
  rintro k g_ o_ v_ ⟨hk, hall⟩
  have hle : ∀ h : k < xs.length, (xs.getD k []).length ≤ 1024 := fun h => h2.down _ (mem_getD h)
  (repeat' (first | with_reducible exact True.intro | with_reducible refine st_seq ?_ | (with_reducible refine st_regionG hG_ ?_; intro K_ hK_) | (with_reducible refine st_region ?_; intro K_ hK_) | (with_reducible refine hK_ _ _ ?_; try clear hK_ K_) | ((with_reducible refine st_cond (b := ?b_) ?hb_ ?_ ?_); case hb_ => rfl) | with_reducible refine sq_n ?_ | with_reducible refine sq_r ?_ | with_reducible refine sq_e ?_ | with_reducible refine bq_n ?_ | with_reducible refine bq_r ?_ | with_reducible refine bq_q ?_ | with_reducible refine st_block ?_ | with_reducible refine st_exit ?_ | with_reducible refine st_ret ?_ | with_reducible refine st_skip ?_ | with_reducible refine gq_n ?_ | with_reducible refine gq_r ?_ | with_reducible refine gq_e ?_ | with_reducible refine lq_n ?_ | with_reducible refine lq_r ?_ | with_reducible refine lq_e ?_ | with_reducible refine bq_e (by decide) ?_ | ((conv => whnf); first | (with_reducible refine hK_ _ _ ?_; try clear hK_ K_) | (with_reducible refine fun (g_ : Sl) (o_ : Ow) => ?_) | with_reducible exact True.intro | with_reducible refine And.intro trivial ?_ | with_reducible refine And.intro ?_ ?_ | exact Nat.le_of_ble_eq_true rfl | exact Or.inl rfl | (intro h_; cases h_) | (intro h_; (try simp only [cond_true, cond_false, decide_eq_true_eq, decide_eq_false_iff_not, Bool.not_eq_true', Bool.not_eq_false', Int.toNat_natCast, prodEta] at h_)) | rfl))) <;> (try (conv => whnf)) <;> (try first | change (_ : Int) ≤ _ | change (_ : Nat) ≤ _) <;> (try ((fail_if_success (with_reducible apply Exists.intro)); (try dsimp only); (try simp only [cond_true, cond_false, decide_eq_true_eq, decide_eq_false_iff_not, Bool.not_eq_true', Bool.not_eq_false', Int.toNat_natCast, prodEta]))) <;> (try simp (disch := omega) only [ptEq2, cond_true, cond_false, decide_eq_true_eq, decide_eq_false_iff_not, List.length_drop, List.take_length, Int.toNat_zero, List.drop_zero, Nat.zero_add, List.nil_append, mod_nat1, mod_nat2, tm1, tm2, tmj, W_in, List.length_append, List.length_take, List.length_replicate, List.length_set, List.length_map, List.length_cons, List.length_nil, prodEta, Int.toNat_natCast, beq_iff_eq, beq_eq_false_iff_ne, bne_iff_ne, bne_eq_false_iff_eq, ne_eq, Int.natCast_inj, Int.ofNat_lt, Int.ofNat_le] at *)
  all_goals (try (fail_if_success (with_reducible apply Exists.intro)); first | with_reducible assumption | omega | exact mdl (by omega) | exact ilo1 (by omega) | exact ilo2 (by omega) | exact ihi1 (by omega) (by omega) | exact ihi2 (by omega) (by omega))
  · exact Nat.le_trans (hle h_) (by decide)
  · symm; rw [decide_eq_false_iff_not]; rintro rfl; exact absurd rfl (by assumption)
  · refine ⟨k + 1, by omega, ⟨by omega, fun j hj => ?_⟩, by (repeat' (first | with_reducible exact True.intro | with_reducible refine And.intro ?_ ?_ | with_reducible refine Head.mk ?_ ?_ ?_ ?_ | ((conv => lhs; whnf); first | with_reducible rfl | with_reducible exact vInt_s (by omega) | exact rfl) | ((conv => whnf); first | with_reducible exact True.intro | with_reducible refine And.intro ?_ ?_))) <;> (try (conv => lhs; whnf))⟩
    rcases Nat.lt_or_ge j k with h5 | h5
    · exact hall j h5
    · rw [show j = k by omega]; assumption
  · symm; rw [decide_eq_true_eq]
    refine List.ext_getElem hl fun j h1 h2 => ?_
    have := hall j (by omega)
    rwa [getD_lt _ h1, getD_lt _ h2] at this
end Go.Proofs.Ytdikfihafebfdaa
