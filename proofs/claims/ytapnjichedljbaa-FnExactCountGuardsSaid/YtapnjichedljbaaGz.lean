/- Contracts: the fewest guards at corners, found by recursion. -/
import Derived.Test.YtapnjichedljbaaGh
import Derived.Test.YtapnjichedljbaaLk
namespace Go.Proofs.Ytapnjichedljbaa
open Go.RowKit Go.Proofs.Ytapnjichedljbaa.Nm
set_option maxRecDepth 10000
set_option maxHeartbeats 4000000
set_option linter.unusedSimpArgs false
set_option linter.unusedVariables false
/-! ### The first of some numbers that yields something -/
def fsN {α : Type} (f : Nat → Option α) : Nat → Nat → Option α
  | 0, _ => none
  | n + 1, a => match f a with
    | some r => some r
    | none => fsN f n (a + 1)
def fsR {α : Type} (f : Nat → Option α) (a b : Nat) : Option α := fsN f (b - a) a
theorem fsR_end {α : Type} {f : Nat → Option α} {a b : Nat} (h : b ≤ a) : fsR f a b = none := by unfold fsR; rw [show b - a = 0 by omega]; rfl
theorem fsR_yes {α : Type} {f : Nat → Option α} {a b : Nat} {r : α} (h : a < b) (hf : f a = some r) : fsR f a b = some r := by
  unfold fsR; rw [show b - a = (b - (a + 1)) + 1 by omega, fsN, hf]
theorem fsR_no {α : Type} {f : Nat → Option α} {a b : Nat} (h : a < b) (hf : f a = none) : fsR f a b = fsR f (a + 1) b := by
  unfold fsR; rw [show b - a = (b - (a + 1)) + 1 by omega, fsN, hf]
theorem fsN_map {α β : Type} (f : Nat → Option α) (g : α → β) : ∀ n a, (fsN f n a).map g = fsN (fun k => (f k).map g) n a
  | 0, _ => rfl
  | n + 1, a => by
    rw [fsN, fsN]
    cases h : f a with
    | some r => simp
    | none => simp [fsN_map f g n (a + 1)]
theorem fsR_map {α β : Type} (f : Nat → Option α) (g : α → β) (a b : Nat) : (fsR f a b).map g = fsR (fun k => (f k).map g) a b := fsN_map f g _ _
theorem fsN_last {α : Type} (f : Nat → Option α) : ∀ n a, fsN f (n + 1) a = (fsN f n a).or (f (a + n))
  | 0, a => by rw [fsN, fsN]; cases f a <;> rfl
  | n + 1, a => by
    rw [fsN]
    cases h : f a with
    | some r => simp [fsN, h]
    | none =>
      simp only
      rw [fsN_last f n (a + 1), fsN, h]
      simp only
      rw [show a + 1 + n = a + (n + 1) by omega]
theorem fsR_last {α : Type} {f : Nat → Option α} {a b : Nat} (h : a ≤ b) : fsR f a (b + 1) = (fsR f a b).or (f b) := by
  unfold fsR
  rw [show b + 1 - a = (b - a) + 1 by omega, fsN_last, show a + (b - a) = b by omega]
theorem fsN_all {α : Type} {f : Nat → Option α} {Q : α → Prop} (h : ∀ k r, f k = some r → Q r) : ∀ n a r, fsN f n a = some r → Q r
  | 0, a, r, e => by cases e
  | n + 1, a, r, e => by
    rw [fsN] at e
    cases hf : f a with
    | some r' => rw [hf] at e; exact h a r (hf.trans e)
    | none => rw [hf] at e; exact fsN_all h n (a + 1) r e
/-! ### The two searches -/
abbrev Msk := List (List Bool)
def seenOf (M : Msk) (l : List Int) (i : Nat) : Bool := l.any fun k => (M.getD k.toNat []).getD i false
def wid (M : Msk) : Nat := (M.getD 0 []).length
def covM (M : Msk) (l : List Int) : Bool := (List.range (wid M)).all (seenOf M l)
def chM (M : Msk) : Nat → List Int → Nat → Option (List Int)
  | 0, l, _ => if covM M l then some l else none
  | m + 1, l, a => fsR (fun k => chM M m (l ++ [(k : Int)]) (k + 1)) a M.length
def orL (s r : List Bool) : List Bool := (List.range s.length).map fun i => s.getD i false || r.getD i false
def fiM (M : Msk) : Nat → List Bool → Nat → Option (List Int)
  | 0, s, _ => if s.all id then some [] else none
  | m + 1, s, a => fsR (fun k => (fiM M m (orL s (M.getD k [])) (k + 1)).map ((k : Int) :: ·)) a M.length
def seenL (M : Msk) (l : List Int) : List Bool := (List.range (wid M)).map (seenOf M l)
theorem seenL_len (M : Msk) (l : List Int) : (seenL M l).length = wid M := by simp [seenL]
theorem seenL_get {M : Msk} {l : List Int} {i : Nat} (h : i < wid M) : (seenL M l).getD i false = seenOf M l i := by
  rw [getD_lt _ (by rw [seenL_len]; exact h)]; simp [seenL]
theorem seenL_app (M : Msk) (l : List Int) (k : Nat) : seenL M (l ++ [(k : Int)]) = orL (seenL M l) (M.getD k []) := by
  unfold orL
  rw [seenL_len]
  unfold seenL
  refine List.map_congr_left fun i hi => ?_
  have hi := List.mem_range.1 hi
  have := seenL_get (l := l) hi
  unfold seenL at this
  rw [this]
  unfold seenOf
  rw [List.any_append]
  simp
theorem ch_fi (M : Msk) : ∀ m l a, chM M m l a = (fiM M m (seenL M l) a).map (l ++ ·)
  | 0, l, a => by
    have : (seenL M l).all id = covM M l := by unfold seenL covM; rw [List.all_map]; rfl
    rw [chM, fiM, this]
    split <;> simp
  | m + 1, l, a => by
    rw [chM, fiM, fsR_map]
    congr 1
    funext k
    rw [ch_fi M m, seenL_app, Option.map_map]
    congr 1
    funext x
    simp
theorem ch_len (M : Msk) : ∀ m l a r, chM M m l a = some r → r.length = l.length + m
  | 0, l, a, r, h => by
    rw [chM] at h
    split at h
    · injection h with h; rw [← h]; rfl
    · cases h
  | m + 1, l, a, r, h => by
    rw [chM] at h
    refine fsN_all (Q := fun r => r.length = l.length + (m + 1)) (fun k r hr => ?_) _ _ r h
    have := ch_len M m _ _ r hr
    rw [List.length_append, List.length_singleton] at this
    omega
def masksM (xs : List Pt) : Msk := (List.range xs.length).map fun k : Nat => maskM xs k
def fewO (M : Msk) : Option (List Int) := fsR (fun n => chM M n [] 0) 1 (M.length + 1)
def fewM (xs : List Pt) : List Int := if roomOk xs then (fewO (masksM xs)).getD [] else []
def noS (M : Msk) : List Bool := List.replicate (wid M) false
theorem ch_nil (M : Msk) (n a : Nat) : chM M n [] a = fiM M n (noS M) a := by
  rw [ch_fi]
  have : seenL M [] = noS M := by unfold seenL noS seenOf; simp [List.map_const']
  rw [this]
  simp
theorem few_last {M : Msk} (h : 1 ≤ M.length) : fewO M = (fsR (fun n => fiM M n (noS M) 0) 1 M.length).or (fiM M M.length (noS M) 0) := by
  unfold fewO
  rw [fsR_last h, ch_nil]
  congr 2
  funext n
  rw [ch_nil]
/-- What is asked of masks and of a list of corners. -/
structure MOk (M : Msk) : Prop where
  pos : 0 < M.length
  le : M.length ≤ 64
  all : ∀ k, k < M.length → (M.getD k []).length = wid M
  w : wid M ≤ 1048576
structure LOk (M : Msk) (l : List Int) : Prop where
  le : l.length ≤ 64
  at_ : ∀ j, j < l.length → 0 ≤ l.getD j 0 ∧ l.getD j 0 < M.length
theorem LOk.app {M : Msk} {l : List Int} {k : Nat} (h : LOk M l) (hl : l.length < 64) (hk : k < M.length) : LOk M (l ++ [(k : Int)]) := by
  refine ⟨by rw [List.length_append, List.length_singleton]; omega, fun j hj => ?_⟩
  rw [List.length_append, List.length_singleton] at hj
  rw [List.getD_eq_getElem?_getD]
  rcases Nat.lt_or_ge j l.length with h1 | h1
  · rw [List.getElem?_append_left h1, ← List.getD_eq_getElem?_getD]
    exact h.at_ j h1
  · rw [List.getElem?_append_right h1, show j - l.length = 0 by omega]
    simp only [List.getElem?_cons_zero, Option.getD_some]
    omega
def seenTo (M : Msk) (l : List Int) (i k : Nat) : Bool := (l.take k).any fun x => (M.getD x.toNat []).getD i false
theorem seenTo_succ {M : Msk} {l : List Int} {i k : Nat} (h : k < l.length) : seenTo M l i (k + 1) = (seenTo M l i k || (M.getD (l.getD k 0).toNat []).getD i false) := by
  unfold seenTo
  rw [List.take_succ_eq_append_getElem h, List.any_append, show l.getD k 0 = l[k] from getD_lt _ h]
  simp
theorem seenTo_full (M : Msk) (l : List Int) (i : Nat) : seenTo M l i l.length = seenOf M l i := by unfold seenTo seenOf; rw [List.take_length]
def covC : Con := mkCon [.sl (.s .bool), .sl (.b .int)] (fun x => MOk x.1 ∧ LOk x.1 x.2.1) fun x => vB (covM x.1 x.2.1)
theorem covers_ok : Good1 Try.prog n_impl_covers covC := by
  refine good_ofG (tys := tyL) (env := []) (envw := []) [] [] [] [] mixed tys trivial trivial Try.func95 rfl (by kernel_rfl) (by decide) (by kernel_rfl) ?_
  have hG_ := kpz [(0, [0, 1]), (1, [0, 1, 12, 13]), (2, [0, 1, 12, 13, 14]), (3, [0, 1, 5, 12, 13]), (4, [0, 1, 5, 6, 12, 13]), (5, [0, 1, 5, 6, 12, 13, 16, 17, 18]), (6, [0, 1, 5, 6, 12, 13, 16, 17, 18, 19]), (7, [0, 1, 5, 6, 8, 12, 13, 16, 17, 18]), (8, [0, 1, 5, 6, 12, 13, 16, 17, 18]), (9, [0, 1, 5, 6, 12, 13, 16, 17, 18]), (10, [0, 1, 12, 13, 34]), (11, [4]), (12, [0, 1, 12, 13]), (13, [4])] [] [] []
  rintro ⟨(M : Msk), (l : List Int), ⟨⟩⟩ ⟨(hM : MOk M), (hL : LOk M l)⟩
  have m1 := hM.pos
  have m2 := hM.le
  have m4 := hM.w
  have l1 := hL.le
  have hw0 : (M.getD 0 (ElK.s ElB.bool).dflt).length = wid M := rfl
  (repeat' (first | with_reducible exact True.intro | with_reducible refine st_seq ?_ | (with_reducible refine st_regionG hG_ ?_; intro K_ hK_) | (with_reducible refine st_region ?_; intro K_ hK_) | (with_reducible refine hK_ _ _ ?_; try clear hK_ K_) | ((with_reducible refine st_cond (b := ?b_) ?hb_ ?_ ?_); case hb_ => rfl) | with_reducible refine sq_n ?_ | with_reducible refine sq_r ?_ | with_reducible refine sq_e ?_ | with_reducible refine bq_n ?_ | with_reducible refine bq_r ?_ | with_reducible refine bq_q ?_ | with_reducible refine st_block ?_ | with_reducible refine st_exit ?_ | with_reducible refine st_ret ?_ | with_reducible refine st_skip ?_ | with_reducible refine gq_n ?_ | with_reducible refine gq_r ?_ | with_reducible refine gq_e ?_ | with_reducible refine lq_n ?_ | with_reducible refine lq_r ?_ | with_reducible refine lq_e ?_ | with_reducible refine bq_e (by decide) ?_ | ((conv => whnf); first | (with_reducible refine hK_ _ _ ?_; try clear hK_ K_) | (with_reducible refine fun (g_ : Sl) (o_ : Ow) => ?_) | with_reducible exact True.intro | with_reducible refine And.intro trivial ?_ | with_reducible refine And.intro ?_ ?_ | exact Nat.le_of_ble_eq_true rfl | exact Or.inl rfl | (intro h_; cases h_) | (intro h_; (try simp only [cond_true, cond_false, decide_eq_true_eq, decide_eq_false_iff_not, Bool.not_eq_true', Bool.not_eq_false', Int.toNat_natCast, prodEta] at h_)) | rfl))) <;> (try (conv => whnf)) <;> (try first | change (_ : Int) ≤ _ | change (_ : Nat) ≤ _) <;> (try ((fail_if_success (with_reducible apply Exists.intro)); (try dsimp only); (try simp only [cond_true, cond_false, decide_eq_true_eq, decide_eq_false_iff_not, Bool.not_eq_true', Bool.not_eq_false', Int.toNat_natCast, prodEta]))) <;> (try simp (disch := omega) only [ptEq2, cond_true, cond_false, decide_eq_true_eq, decide_eq_false_iff_not, List.length_drop, List.take_length, Int.toNat_zero, List.drop_zero, Nat.zero_add, List.nil_append, mod_nat1, mod_nat2, tm1, tm2, tmj, W_in, Int.add_sub_cancel, tn1, tnp, tnc, List.length_append, List.length_take, List.length_replicate, List.length_set, List.length_map, List.length_cons, List.length_nil, prodEta, Int.toNat_natCast, beq_iff_eq, beq_eq_false_iff_ne, bne_iff_ne, bne_eq_false_iff_eq, ne_eq, Int.natCast_inj, Int.ofNat_lt, Int.ofNat_le] at *)
  all_goals (try (fail_if_success (with_reducible apply Exists.intro)); first | with_reducible assumption | omega | exact mdl (by omega) | exact ilo1 (by omega) | exact ilo2 (by omega) | exact ihi1 (by omega) (by omega) | exact ihi2 (by omega) (by omega))
  refine awp'_loopG (α := Nat) (fun i ver_ => [(13, vInt i)]) (fun i ver_ => []) (fun i ver_ => []) (fun i => i ≤ wid M ∧ ∀ j, j < i → seenOf M l j = true) (fun i => wid M - i) [0, 1, 12] [] (0) ?_
  conv => whnf
  refine ⟨⟨?inv1_, ?vals1_, ?own1_, ?fix1_⟩, ?body1_⟩
  case' vals1_ => (repeat' (first | with_reducible exact True.intro | with_reducible refine And.intro ?_ ?_ | with_reducible refine Head.mk ?_ ?_ ?_ ?_ | ((conv => lhs; whnf); first | with_reducible rfl | with_reducible exact vInt_s (by omega) | exact rfl) | ((conv => whnf); first | with_reducible exact True.intro | with_reducible refine And.intro ?_ ?_))) <;> (try (conv => lhs; whnf))
  case' own1_ => (repeat' (first | with_reducible exact True.intro | with_reducible refine And.intro ?_ ?_ | with_reducible refine Head.mk ?_ ?_ ?_ ?_ | ((conv => lhs; whnf); first | with_reducible rfl | with_reducible exact vInt_s (by omega) | exact rfl) | ((conv => whnf); first | with_reducible exact True.intro | with_reducible refine And.intro ?_ ?_))) <;> (try (conv => lhs; whnf))
  case' fix1_ => (repeat' (first | with_reducible exact True.intro | with_reducible refine And.intro ?_ ?_ | with_reducible refine Head.mk ?_ ?_ ?_ ?_ | ((conv => lhs; whnf); first | with_reducible rfl | with_reducible exact vInt_s (by omega) | exact rfl) | ((conv => whnf); first | with_reducible exact True.intro | with_reducible refine And.intro ?_ ?_))) <;> (try (conv => lhs; whnf))
  · exact ⟨Nat.zero_le _, fun j hj => absurd hj (by omega)⟩
  rintro i g_ o_ v_ ⟨hi, hall⟩
  (repeat' (first | with_reducible exact True.intro | with_reducible refine st_seq ?_ | (with_reducible refine st_regionG hG_ ?_; intro K_ hK_) | (with_reducible refine st_region ?_; intro K_ hK_) | (with_reducible refine hK_ _ _ ?_; try clear hK_ K_) | ((with_reducible refine st_cond (b := ?b_) ?hb_ ?_ ?_); case hb_ => rfl) | with_reducible refine sq_n ?_ | with_reducible refine sq_r ?_ | with_reducible refine sq_e ?_ | with_reducible refine bq_n ?_ | with_reducible refine bq_r ?_ | with_reducible refine bq_q ?_ | with_reducible refine st_block ?_ | with_reducible refine st_exit ?_ | with_reducible refine st_ret ?_ | with_reducible refine st_skip ?_ | with_reducible refine gq_n ?_ | with_reducible refine gq_r ?_ | with_reducible refine gq_e ?_ | with_reducible refine lq_n ?_ | with_reducible refine lq_r ?_ | with_reducible refine lq_e ?_ | with_reducible refine bq_e (by decide) ?_ | ((conv => whnf); first | (with_reducible refine hK_ _ _ ?_; try clear hK_ K_) | (with_reducible refine fun (g_ : Sl) (o_ : Ow) => ?_) | with_reducible exact True.intro | with_reducible refine And.intro trivial ?_ | with_reducible refine And.intro ?_ ?_ | exact Nat.le_of_ble_eq_true rfl | exact Or.inl rfl | (intro h_; cases h_) | (intro h_; (try simp only [cond_true, cond_false, decide_eq_true_eq, decide_eq_false_iff_not, Bool.not_eq_true', Bool.not_eq_false', Int.toNat_natCast, prodEta] at h_)) | rfl))) <;> (try (conv => whnf)) <;> (try first | change (_ : Int) ≤ _ | change (_ : Nat) ≤ _) <;> (try ((fail_if_success (with_reducible apply Exists.intro)); (try dsimp only); (try simp only [cond_true, cond_false, decide_eq_true_eq, decide_eq_false_iff_not, Bool.not_eq_true', Bool.not_eq_false', Int.toNat_natCast, prodEta]))) <;> (try simp (disch := omega) only [ptEq2, cond_true, cond_false, decide_eq_true_eq, decide_eq_false_iff_not, List.length_drop, List.take_length, Int.toNat_zero, List.drop_zero, Nat.zero_add, List.nil_append, mod_nat1, mod_nat2, tm1, tm2, tmj, W_in, Int.add_sub_cancel, tn1, tnp, tnc, List.length_append, List.length_take, List.length_replicate, List.length_set, List.length_map, List.length_cons, List.length_nil, prodEta, Int.toNat_natCast, beq_iff_eq, beq_eq_false_iff_ne, bne_iff_ne, bne_eq_false_iff_eq, ne_eq, Int.natCast_inj, Int.ofNat_lt, Int.ofNat_le] at *)
  all_goals (try (fail_if_success (with_reducible apply Exists.intro)); first | with_reducible assumption | omega | exact mdl (by omega) | exact ilo1 (by omega) | exact ilo2 (by omega) | exact ihi1 (by omega) (by omega) | exact ihi2 (by omega) (by omega))
  ·
   refine awp'_loopG (α := Nat) (fun k ver_ => [(18, vInt k), (6, vBool (seenTo M l i k))]) (fun k ver_ => []) (fun k ver_ => []) (fun k => k ≤ l.length) (fun k => l.length - k) [0, 1, 5, 12, 13, 16, 17] [] (0) ?_
   conv => whnf
   refine ⟨⟨?inv2_, ?vals2_, ?own2_, ?fix2_⟩, ?body2_⟩
   case' vals2_ => (repeat' (first | with_reducible exact True.intro | with_reducible refine And.intro ?_ ?_ | with_reducible refine Head.mk ?_ ?_ ?_ ?_ | ((conv => lhs; whnf); first | with_reducible rfl | with_reducible exact vInt_s (by omega) | exact rfl) | ((conv => whnf); first | with_reducible exact True.intro | with_reducible refine And.intro ?_ ?_))) <;> (try (conv => lhs; whnf))
   case' own2_ => (repeat' (first | with_reducible exact True.intro | with_reducible refine And.intro ?_ ?_ | with_reducible refine Head.mk ?_ ?_ ?_ ?_ | ((conv => lhs; whnf); first | with_reducible rfl | with_reducible exact vInt_s (by omega) | exact rfl) | ((conv => whnf); first | with_reducible exact True.intro | with_reducible refine And.intro ?_ ?_))) <;> (try (conv => lhs; whnf))
   case' fix2_ => (repeat' (first | with_reducible exact True.intro | with_reducible refine And.intro ?_ ?_ | with_reducible refine Head.mk ?_ ?_ ?_ ?_ | ((conv => lhs; whnf); first | with_reducible rfl | with_reducible exact vInt_s (by omega) | exact rfl) | ((conv => whnf); first | with_reducible exact True.intro | with_reducible refine And.intro ?_ ?_))) <;> (try (conv => lhs; whnf))
   · exact Nat.zero_le _
   rintro k g_ o_ v_ hk
   rcases Nat.lt_or_ge k l.length with hkl | hkl
   · have hb := hL.at_ k hkl
     have hk1 : 0 ≤ l.getD k (ElK.b ElB.int).dflt := hb.1
     have hk2 : l.getD k (ElK.b ElB.int).dflt < M.length := hb.2
     have hml : (M.getD (l.getD k (ElK.b ElB.int).dflt).toNat (ElK.s ElB.bool).dflt).length = wid M := hM.all _ (by omega)
     have hss := seenTo_succ (M := M) (i := i) hkl
     (repeat' (first | with_reducible exact True.intro | with_reducible refine st_seq ?_ | (with_reducible refine st_regionG hG_ ?_; intro K_ hK_) | (with_reducible refine st_region ?_; intro K_ hK_) | (with_reducible refine hK_ _ _ ?_; try clear hK_ K_) | ((with_reducible refine st_cond (b := ?b_) ?hb_ ?_ ?_); case hb_ => rfl) | with_reducible refine sq_n ?_ | with_reducible refine sq_r ?_ | with_reducible refine sq_e ?_ | with_reducible refine bq_n ?_ | with_reducible refine bq_r ?_ | with_reducible refine bq_q ?_ | with_reducible refine st_block ?_ | with_reducible refine st_exit ?_ | with_reducible refine st_ret ?_ | with_reducible refine st_skip ?_ | with_reducible refine gq_n ?_ | with_reducible refine gq_r ?_ | with_reducible refine gq_e ?_ | with_reducible refine lq_n ?_ | with_reducible refine lq_r ?_ | with_reducible refine lq_e ?_ | with_reducible refine bq_e (by decide) ?_ | ((conv => whnf); first | (with_reducible refine hK_ _ _ ?_; try clear hK_ K_) | (with_reducible refine fun (g_ : Sl) (o_ : Ow) => ?_) | with_reducible exact True.intro | with_reducible refine And.intro trivial ?_ | with_reducible refine And.intro ?_ ?_ | exact Nat.le_of_ble_eq_true rfl | exact Or.inl rfl | (intro h_; cases h_) | (intro h_; (try simp only [cond_true, cond_false, decide_eq_true_eq, decide_eq_false_iff_not, Bool.not_eq_true', Bool.not_eq_false', Int.toNat_natCast, prodEta] at h_)) | rfl))) <;> (try (conv => whnf)) <;> (try first | change (_ : Int) ≤ _ | change (_ : Nat) ≤ _) <;> (try ((fail_if_success (with_reducible apply Exists.intro)); (try dsimp only); (try simp only [cond_true, cond_false, decide_eq_true_eq, decide_eq_false_iff_not, Bool.not_eq_true', Bool.not_eq_false', Int.toNat_natCast, prodEta]))) <;> (try simp (disch := omega) only [ptEq2, cond_true, cond_false, decide_eq_true_eq, decide_eq_false_iff_not, List.length_drop, List.take_length, Int.toNat_zero, List.drop_zero, Nat.zero_add, List.nil_append, mod_nat1, mod_nat2, tm1, tm2, tmj, W_in, Int.add_sub_cancel, tn1, tnp, tnc, List.length_append, List.length_take, List.length_replicate, List.length_set, List.length_map, List.length_cons, List.length_nil, prodEta, Int.toNat_natCast, beq_iff_eq, beq_eq_false_iff_ne, bne_iff_ne, bne_eq_false_iff_eq, ne_eq, Int.natCast_inj, Int.ofNat_lt, Int.ofNat_le] at *)
     all_goals (try (fail_if_success (with_reducible apply Exists.intro)); first | with_reducible assumption | omega | exact mdl (by omega) | exact ilo1 (by omega) | exact ilo2 (by omega) | exact ihi1 (by omega) (by omega) | exact ihi2 (by omega) (by omega))
     · refine ⟨k + 1, by omega, by omega, ?_⟩
       (repeat' (first | with_reducible exact True.intro | with_reducible refine And.intro ?_ ?_ | with_reducible refine Head.mk ?_ ?_ ?_ ?_ | ((conv => lhs; whnf); first | with_reducible rfl | with_reducible exact vInt_s (by omega) | exact rfl) | ((conv => whnf); first | with_reducible exact True.intro | with_reducible refine And.intro ?_ ?_))) <;> (try (conv => lhs; whnf))
       exact congrArg vBool (by rw [hss, show seenTo M l i k = true from by assumption]; rfl)
     · refine ⟨k + 1, by omega, by omega, ?_⟩
       (repeat' (first | with_reducible exact True.intro | with_reducible refine And.intro ?_ ?_ | with_reducible refine Head.mk ?_ ?_ ?_ ?_ | ((conv => lhs; whnf); first | with_reducible rfl | with_reducible exact vInt_s (by omega) | exact rfl) | ((conv => whnf); first | with_reducible exact True.intro | with_reducible refine And.intro ?_ ?_))) <;> (try (conv => lhs; whnf))
       exact congrArg vBool (by rw [hss, show seenTo M l i k = false from by assumption]; rfl)
     all_goals (exfalso; omega)
   · have hf := seenTo_full M l i
     (repeat' (first | with_reducible exact True.intro | with_reducible refine st_seq ?_ | (with_reducible refine st_regionG hG_ ?_; intro K_ hK_) | (with_reducible refine st_region ?_; intro K_ hK_) | (with_reducible refine hK_ _ _ ?_; try clear hK_ K_) | ((with_reducible refine st_cond (b := ?b_) ?hb_ ?_ ?_); case hb_ => rfl) | with_reducible refine sq_n ?_ | with_reducible refine sq_r ?_ | with_reducible refine sq_e ?_ | with_reducible refine bq_n ?_ | with_reducible refine bq_r ?_ | with_reducible refine bq_q ?_ | with_reducible refine st_block ?_ | with_reducible refine st_exit ?_ | with_reducible refine st_ret ?_ | with_reducible refine st_skip ?_ | with_reducible refine gq_n ?_ | with_reducible refine gq_r ?_ | with_reducible refine gq_e ?_ | with_reducible refine lq_n ?_ | with_reducible refine lq_r ?_ | with_reducible refine lq_e ?_ | with_reducible refine bq_e (by decide) ?_ | ((conv => whnf); first | (with_reducible refine hK_ _ _ ?_; try clear hK_ K_) | (with_reducible refine fun (g_ : Sl) (o_ : Ow) => ?_) | with_reducible exact True.intro | with_reducible refine And.intro trivial ?_ | with_reducible refine And.intro ?_ ?_ | exact Nat.le_of_ble_eq_true rfl | exact Or.inl rfl | (intro h_; cases h_) | (intro h_; (try simp only [cond_true, cond_false, decide_eq_true_eq, decide_eq_false_iff_not, Bool.not_eq_true', Bool.not_eq_false', Int.toNat_natCast, prodEta] at h_)) | rfl))) <;> (try (conv => whnf)) <;> (try first | change (_ : Int) ≤ _ | change (_ : Nat) ≤ _) <;> (try ((fail_if_success (with_reducible apply Exists.intro)); (try dsimp only); (try simp only [cond_true, cond_false, decide_eq_true_eq, decide_eq_false_iff_not, Bool.not_eq_true', Bool.not_eq_false', Int.toNat_natCast, prodEta]))) <;> (try simp (disch := omega) only [ptEq2, cond_true, cond_false, decide_eq_true_eq, decide_eq_false_iff_not, List.length_drop, List.take_length, Int.toNat_zero, List.drop_zero, Nat.zero_add, List.nil_append, mod_nat1, mod_nat2, tm1, tm2, tmj, W_in, Int.add_sub_cancel, tn1, tnp, tnc, List.length_append, List.length_take, List.length_replicate, List.length_set, List.length_map, List.length_cons, List.length_nil, prodEta, Int.toNat_natCast, beq_iff_eq, beq_eq_false_iff_ne, bne_iff_ne, bne_eq_false_iff_eq, ne_eq, Int.natCast_inj, Int.ofNat_lt, Int.ofNat_le] at *)
     all_goals (try (fail_if_success (with_reducible apply Exists.intro)); first | with_reducible assumption | omega | exact mdl (by omega) | exact ilo1 (by omega) | exact ilo2 (by omega) | exact ihi1 (by omega) (by omega) | exact ihi2 (by omega) (by omega))
     · exfalso; omega
     · exfalso; omega
     · have h7 : seenTo M l i k = false := by assumption
       rw [show k = l.length by omega, hf] at h7
       refine Eq.symm (Bool.eq_false_iff.2 fun hc => ?_)
       have := List.all_eq_true.1 (show (List.range (wid M)).all (seenOf M l) = true from hc) i (List.mem_range.2 (by omega))
       rw [this] at h7; cases h7
     · refine ⟨i + 1, by omega, ⟨by omega, lt_succ_all hall ?_⟩, by (repeat' (first | with_reducible exact True.intro | with_reducible refine And.intro ?_ ?_ | with_reducible refine Head.mk ?_ ?_ ?_ ?_ | ((conv => lhs; whnf); first | with_reducible rfl | with_reducible exact vInt_s (by omega) | exact rfl) | ((conv => whnf); first | with_reducible exact True.intro | with_reducible refine And.intro ?_ ?_))) <;> (try (conv => lhs; whnf))⟩
       rw [← hf, show l.length = k by omega]
       assumption
  · refine Eq.symm (List.all_eq_true.2 fun j hj => hall j ?_)
    have := List.mem_range.1 hj
    omega
/-! ### Looking for a list of corners -/
def chPre (M : Msk) (l : List Int) (a m : Int) : Prop := (MOk M ∧ LOk M l) ∧ (0 ≤ a ∧ a ≤ 64) ∧ 0 ≤ m ∧ (l.length : Int) + m ≤ 60 ∧ 0 < (l.length : Int) + m
structure ChOk (M : Msk) (l : List Int) (a m : Int) : Prop where
  ok : chPre M l a m
def chVal (o : Option (List Int)) : RV := .val (.one (.d (.sl (some o.isNone) (.b .int) (o.getD []))))
def chLt (n : Nat) : Con := mkCon [.sl (.s .bool), .sl (.b .int), .int, .int] (fun x => ChOk x.1 x.2.1 x.2.2.1 x.2.2.2.1 ∧ x.2.2.2.1 < n) fun x => chVal (chM x.1 x.2.2.2.1.toNat x.2.1 x.2.2.1.toNat)
def chooseC : Con := mkCon [.sl (.s .bool), .sl (.b .int), .int, .int] (fun x => ChOk x.1 x.2.1 x.2.2.1 x.2.2.2.1) fun x => chVal (chM x.1 x.2.2.2.1.toNat x.2.1 x.2.2.1.toNat)
theorem fsN_bd {α : Type} {f : Nat → Option α} {Q : α → Prop} : ∀ {n a r}, (∀ k r, a ≤ k → k < a + n → f k = some r → Q r) → fsN f n a = some r → Q r
  | 0, a, r, h, e => by cases e
  | n + 1, a, r, h, e => by
    rw [fsN] at e
    cases hf : f a with
    | some r' => rw [hf] at e; exact h a r (by omega) (by omega) (hf.trans e)
    | none => rw [hf] at e; exact fsN_bd (fun k r h1 h2 => h k r (by omega) (by omega)) e
theorem fsN_none {α : Type} {f : Nat → Option α} : ∀ {n a}, fsN f n a = none → ∀ k, a ≤ k → k < a + n → f k = none
  | 0, a, _, k, h1, h2 => absurd h2 (by omega)
  | n + 1, a, h, k, h1, h2 => by
    rw [fsN] at h
    cases hf : f a with
    | some r => rw [hf] at h; cases h
    | none =>
      rw [hf] at h
      rcases Nat.eq_or_lt_of_le h1 with e | e
      · rw [← e]; exact hf
      · exact fsN_none h k e (by omega)
theorem fsR_none {α : Type} {f : Nat → Option α} {a b k : Nat} (h : fsR f a b = none) (h1 : a ≤ k) (h2 : k < b) : f k = none := fsN_none h k h1 (by omega)
theorem ch_all : ∀ n, Good1 Try.prog n_impl_choose (chLt n) := by
  intro n
  induction n with
  | zero =>
    refine ⟨fun w F args vs x h1 h2 h3 h4 h5 => ?_, _, Try.func74, by decide, rfl⟩
    obtain ⟨-, -, h6, -⟩ := (show ChOk x.1 x.2.1 x.2.2.1 x.2.2.2.1 from h2.1).ok
    have h7 : x.2.2.2.1 < ((0 : Nat) : Int) := h2.2
    exact absurd (Int.lt_of_le_of_lt h6 h7) (by decide)
  | succ n ih =>
    refine good_ofG (tys := tyL) (env := [(n_impl_covers, covC), (n_impl_choose, (chLt n))]) (envw := []) [16, 18] [] [] [35] mixed tys ⟨covers_ok, ih, trivial⟩ trivial Try.func74 rfl (by kernel_rfl) (by decide) (by kernel_rfl) ?_
    have hG_ := kpz [(0, [0, 1, 2, 3]), (1, [0, 1, 2, 3, 12]), (2, [1, 15]), (3, [8]), (4, [8]), (5, [0, 1, 3, 9]), (6, [0, 1, 3, 9, 23]), (7, [0, 1, 3, 9]), (8, [0, 1, 3, 9, 10]), (9, [0, 1, 3, 9, 10, 42]), (10, [8]), (11, [8])] [(3, [16])] [] []
    rintro ⟨(M : Msk), (l : List Int), (a : Int), (m : Int), ⟨⟩⟩ ⟨⟨(h0 : chPre M l a m)⟩, (hmn : m < _)⟩
    obtain ⟨⟨hM, hL⟩, ⟨ha0, ha1⟩, hm0, hm1, hm2⟩ := h0
    obtain ⟨a, rfl⟩ := Int.eq_ofNat_of_zero_le ha0
    obtain ⟨m, rfl⟩ := Int.eq_ofNat_of_zero_le hm0
    have hMl := hM.le
    have hLl := hL.1
    rcases m with _ | m
    · have h00 : chM M 0 l a = if covM M l then some l else none := rfl
      have hl0 : l ≠ [] := fun e => by rw [e] at hm2; simp at hm2
      (repeat' (first | with_reducible exact True.intro | with_reducible refine st_seq ?_ | (with_reducible refine st_regionG hG_ ?_; intro K_ hK_) | (with_reducible refine st_region ?_; intro K_ hK_) | (with_reducible refine hK_ _ _ ?_; try clear hK_ K_) | ((with_reducible refine st_cond (b := ?b_) ?hb_ ?_ ?_); case hb_ => rfl) | with_reducible refine sq_n ?_ | with_reducible refine sq_r ?_ | with_reducible refine sq_e ?_ | with_reducible refine bq_n ?_ | with_reducible refine bq_r ?_ | with_reducible refine bq_q ?_ | with_reducible refine st_block ?_ | with_reducible refine st_exit ?_ | with_reducible refine st_ret ?_ | with_reducible refine st_skip ?_ | with_reducible refine gq_n ?_ | with_reducible refine gq_r ?_ | with_reducible refine gq_e ?_ | with_reducible refine lq_n ?_ | with_reducible refine lq_r ?_ | with_reducible refine lq_e ?_ | with_reducible refine bq_e (by decide) ?_ | ((conv => whnf); first | (with_reducible refine hK_ _ _ ?_; try clear hK_ K_) | (with_reducible refine fun (g_ : Sl) (o_ : Ow) => ?_) | with_reducible exact True.intro | with_reducible refine And.intro trivial ?_ | with_reducible refine And.intro ?_ ?_ | exact Nat.le_of_ble_eq_true rfl | exact Or.inl rfl | (intro h_; cases h_) | (intro h_; (try simp only [cond_true, cond_false, decide_eq_true_eq, decide_eq_false_iff_not, Bool.not_eq_true', Bool.not_eq_false', Int.toNat_natCast, prodEta] at h_)) | rfl))) <;> (try (conv => whnf)) <;> (try first | change (_ : Int) ≤ _ | change (_ : Nat) ≤ _) <;> (try ((fail_if_success (with_reducible apply Exists.intro)); (try dsimp only); (try simp only [cond_true, cond_false, decide_eq_true_eq, decide_eq_false_iff_not, Bool.not_eq_true', Bool.not_eq_false', Int.toNat_natCast, prodEta]))) <;> (try simp (disch := omega) only [ptEq2, cond_true, cond_false, decide_eq_true_eq, decide_eq_false_iff_not, List.length_drop, List.take_length, Int.toNat_zero, List.drop_zero, Nat.zero_add, List.nil_append, mod_nat1, mod_nat2, tm1, tm2, tmj, W_in, Int.add_sub_cancel, tn1, tnp, tnc, List.length_append, List.length_take, List.length_replicate, List.length_set, List.length_map, List.length_cons, List.length_nil, prodEta, Int.toNat_natCast, beq_iff_eq, beq_eq_false_iff_ne, bne_iff_ne, bne_eq_false_iff_eq, ne_eq, Int.natCast_inj, Int.ofNat_lt, Int.ofNat_le] at *)
      all_goals (try (fail_if_success (with_reducible apply Exists.intro)); first | with_reducible assumption | omega | exact mdl (by omega) | exact ilo1 (by omega) | exact ilo2 (by omega) | exact ihi1 (by omega) (by omega) | exact ihi2 (by omega) (by omega))
      · rw [h00, if_pos h_]; rfl
      · rw [h00, if_pos h_]; exact .inr ⟨rfl, hl0⟩
      · rw [h00, h_]; rfl
      · rw [h00, h_]; exact .inr rfl
    · have hF : chM M (m + 1) l a = fsR (fun k => chM M m (l ++ [(k : Int)]) (k + 1)) a M.length := rfl
      (repeat' (first | with_reducible exact True.intro | with_reducible refine st_seq ?_ | (with_reducible refine st_regionG hG_ ?_; intro K_ hK_) | (with_reducible refine st_region ?_; intro K_ hK_) | (with_reducible refine hK_ _ _ ?_; try clear hK_ K_) | ((with_reducible refine st_cond (b := ?b_) ?hb_ ?_ ?_); case hb_ => rfl) | with_reducible refine sq_n ?_ | with_reducible refine sq_r ?_ | with_reducible refine sq_e ?_ | with_reducible refine bq_n ?_ | with_reducible refine bq_r ?_ | with_reducible refine bq_q ?_ | with_reducible refine st_block ?_ | with_reducible refine st_exit ?_ | with_reducible refine st_ret ?_ | with_reducible refine st_skip ?_ | with_reducible refine gq_n ?_ | with_reducible refine gq_r ?_ | with_reducible refine gq_e ?_ | with_reducible refine lq_n ?_ | with_reducible refine lq_r ?_ | with_reducible refine lq_e ?_ | with_reducible refine bq_e (by decide) ?_ | ((conv => whnf); first | (with_reducible refine hK_ _ _ ?_; try clear hK_ K_) | (with_reducible refine fun (g_ : Sl) (o_ : Ow) => ?_) | with_reducible exact True.intro | with_reducible refine And.intro trivial ?_ | with_reducible refine And.intro ?_ ?_ | exact Nat.le_of_ble_eq_true rfl | exact Or.inl rfl | (intro h_; cases h_) | (intro h_; (try simp only [cond_true, cond_false, decide_eq_true_eq, decide_eq_false_iff_not, Bool.not_eq_true', Bool.not_eq_false', Int.toNat_natCast, prodEta] at h_)) | rfl))) <;> (try (conv => whnf)) <;> (try first | change (_ : Int) ≤ _ | change (_ : Nat) ≤ _) <;> (try ((fail_if_success (with_reducible apply Exists.intro)); (try dsimp only); (try simp only [cond_true, cond_false, decide_eq_true_eq, decide_eq_false_iff_not, Bool.not_eq_true', Bool.not_eq_false', Int.toNat_natCast, prodEta]))) <;> (try simp (disch := omega) only [ptEq2, cond_true, cond_false, decide_eq_true_eq, decide_eq_false_iff_not, List.length_drop, List.take_length, Int.toNat_zero, List.drop_zero, Nat.zero_add, List.nil_append, mod_nat1, mod_nat2, tm1, tm2, tmj, W_in, Int.add_sub_cancel, tn1, tnp, tnc, List.length_append, List.length_take, List.length_replicate, List.length_set, List.length_map, List.length_cons, List.length_nil, prodEta, Int.toNat_natCast, beq_iff_eq, beq_eq_false_iff_ne, bne_iff_ne, bne_eq_false_iff_eq, ne_eq, Int.natCast_inj, Int.ofNat_lt, Int.ofNat_le] at *)
      all_goals (try (fail_if_success (with_reducible apply Exists.intro)); first | with_reducible assumption | omega | exact mdl (by omega) | exact ilo1 (by omega) | exact ilo2 (by omega) | exact ihi1 (by omega) (by omega) | exact ihi2 (by omega) (by omega))
      refine awp'_loopG (α := Nat) (fun k ver_ => [(9, vInt k)]) (fun k ver_ => []) (fun k ver_ => []) (fun k => (a ≤ k ∧ k ≤ 64) ∧ chM M (m + 1) l a = fsR (fun k => chM M m (l ++ [(k : Int)]) (k + 1)) k M.length) (fun k => M.length - k) [0, 1, 3] [] (a) ?_
      conv => whnf
      refine ⟨⟨?inv3_, ?vals3_, ?own3_, ?fix3_⟩, ?body3_⟩
      case' vals3_ => (repeat' (first | with_reducible exact True.intro | with_reducible refine And.intro ?_ ?_ | with_reducible refine Head.mk ?_ ?_ ?_ ?_ | ((conv => lhs; whnf); first | with_reducible rfl | with_reducible exact vInt_s (by omega) | exact rfl) | ((conv => whnf); first | with_reducible exact True.intro | with_reducible refine And.intro ?_ ?_))) <;> (try (conv => lhs; whnf))
      case' own3_ => (repeat' (first | with_reducible exact True.intro | with_reducible refine And.intro ?_ ?_ | with_reducible refine Head.mk ?_ ?_ ?_ ?_ | ((conv => lhs; whnf); first | with_reducible rfl | with_reducible exact vInt_s (by omega) | exact rfl) | ((conv => whnf); first | with_reducible exact True.intro | with_reducible refine And.intro ?_ ?_))) <;> (try (conv => lhs; whnf))
      case' fix3_ => (repeat' (first | with_reducible exact True.intro | with_reducible refine And.intro ?_ ?_ | with_reducible refine Head.mk ?_ ?_ ?_ ?_ | ((conv => lhs; whnf); first | with_reducible rfl | with_reducible exact vInt_s (by omega) | exact rfl) | ((conv => whnf); first | with_reducible exact True.intro | with_reducible refine And.intro ?_ ?_))) <;> (try (conv => lhs; whnf))
      · exact ⟨⟨Nat.le_refl _, by omega⟩, hF⟩
      rintro k g_ o_ v_ ⟨⟨hk1, hk2⟩, hk3⟩
      (repeat' (first | with_reducible exact True.intro | with_reducible refine st_seq ?_ | (with_reducible refine st_regionG hG_ ?_; intro K_ hK_) | (with_reducible refine st_region ?_; intro K_ hK_) | (with_reducible refine hK_ _ _ ?_; try clear hK_ K_) | ((with_reducible refine st_cond (b := ?b_) ?hb_ ?_ ?_); case hb_ => rfl) | with_reducible refine sq_n ?_ | with_reducible refine sq_r ?_ | with_reducible refine sq_e ?_ | with_reducible refine bq_n ?_ | with_reducible refine bq_r ?_ | with_reducible refine bq_q ?_ | with_reducible refine st_block ?_ | with_reducible refine st_exit ?_ | with_reducible refine st_ret ?_ | with_reducible refine st_skip ?_ | with_reducible refine gq_n ?_ | with_reducible refine gq_r ?_ | with_reducible refine gq_e ?_ | with_reducible refine lq_n ?_ | with_reducible refine lq_r ?_ | with_reducible refine lq_e ?_ | with_reducible refine bq_e (by decide) ?_ | ((conv => whnf); first | (with_reducible refine hK_ _ _ ?_; try clear hK_ K_) | (with_reducible refine fun (g_ : Sl) (o_ : Ow) => ?_) | with_reducible exact True.intro | with_reducible refine And.intro trivial ?_ | with_reducible refine And.intro ?_ ?_ | exact Nat.le_of_ble_eq_true rfl | exact Or.inl rfl | (intro h_; cases h_) | (intro h_; (try simp only [cond_true, cond_false, decide_eq_true_eq, decide_eq_false_iff_not, Bool.not_eq_true', Bool.not_eq_false', Int.toNat_natCast, prodEta] at h_)) | rfl))) <;> (try (conv => whnf)) <;> (try first | change (_ : Int) ≤ _ | change (_ : Nat) ≤ _) <;> (try ((fail_if_success (with_reducible apply Exists.intro)); (try dsimp only); (try simp only [cond_true, cond_false, decide_eq_true_eq, decide_eq_false_iff_not, Bool.not_eq_true', Bool.not_eq_false', Int.toNat_natCast, prodEta]))) <;> (try simp (disch := omega) only [ptEq2, cond_true, cond_false, decide_eq_true_eq, decide_eq_false_iff_not, List.length_drop, List.take_length, Int.toNat_zero, List.drop_zero, Nat.zero_add, List.nil_append, mod_nat1, mod_nat2, tm1, tm2, tmj, W_in, Int.add_sub_cancel, tn1, tnp, tnc, List.length_append, List.length_take, List.length_replicate, List.length_set, List.length_map, List.length_cons, List.length_nil, prodEta, Int.toNat_natCast, beq_iff_eq, beq_eq_false_iff_ne, bne_iff_ne, bne_eq_false_iff_eq, ne_eq, Int.natCast_inj, Int.ofNat_lt, Int.ofNat_le] at *)
      all_goals (try (fail_if_success (with_reducible apply Exists.intro)); first | with_reducible assumption | omega | exact mdl (by omega) | exact ilo1 (by omega) | exact ilo2 (by omega) | exact ihi1 (by omega) (by omega) | exact ihi2 (by omega) (by omega))
      · exact ⟨⟨hM, hL.app (by omega) h_⟩, ⟨by omega, by omega⟩, by omega, by rw [List.length_append, List.length_singleton]; omega, by rw [List.length_append, List.length_singleton]; omega⟩
      · have hn : chM M m (l ++ [(k : Int)]) (k + 1) ≠ none := fun e => by
          have h8 : (chM M m (l ++ [(k : Int)]) (k + 1)).isNone = false := h_
          rw [e] at h8; cases h8
        obtain ⟨r, hr⟩ := Option.ne_none_iff_exists'.1 hn
        have e : chM M (m + 1) l a = some r := hk3.trans (fsR_yes (by assumption) hr)
        exact congrArg some (by rw [e]; show (chM M m (l ++ [(k : Int)]) (k + 1)).getD [] = _; rw [hr])
      · have hn : chM M m (l ++ [(k : Int)]) (k + 1) ≠ none := fun e => by
          have h8 : (chM M m (l ++ [(k : Int)]) (k + 1)).isNone = false := h_
          rw [e] at h8; cases h8
        obtain ⟨r, hr⟩ := Option.ne_none_iff_exists'.1 hn
        have e : chM M (m + 1) l a = some r := hk3.trans (fsR_yes (by assumption) hr)
        exact .inr (by rw [e]; show _ = some (chM M m (l ++ [(k : Int)]) (k + 1)).isNone; rw [hr])
      · have hn : chM M m (l ++ [(k : Int)]) (k + 1) = none := Option.isNone_iff_eq_none.1 h_
        exact ⟨k + 1, by omega, ⟨⟨by omega, by omega⟩, hk3.trans (fsR_no (by assumption) hn)⟩, by (repeat' (first | with_reducible exact True.intro | with_reducible refine And.intro ?_ ?_ | with_reducible refine Head.mk ?_ ?_ ?_ ?_ | ((conv => lhs; whnf); first | with_reducible rfl | with_reducible exact vInt_s (by omega) | exact rfl) | ((conv => whnf); first | with_reducible exact True.intro | with_reducible refine And.intro ?_ ?_))) <;> (try (conv => lhs; whnf))⟩
      · rw [hk3, fsR_end (by omega)]; rfl
      · rw [hk3, fsR_end (by omega)]; exact .inr rfl
theorem choose_ok : Good1 Try.prog n_impl_choose chooseC := by
  refine Good1.imp (ch_all 65) fun x h => ⟨⟨h, ?_⟩, rfl⟩
  obtain ⟨-, -, -, h4, -⟩ := h.ok
  exact Int.lt_of_le_of_lt (Int.le_trans (Int.le_add_of_nonneg_left (Int.natCast_nonneg _)) h4) (by decide)
/-! ### The masks -/
theorem masks_len (xs : List Pt) : (masksM xs).length = xs.length := by simp [masksM]
theorem masks_get {xs : List Pt} {k : Nat} (h : k < xs.length) : (masksM xs).getD k [] = maskM xs k := by
  unfold masksM
  rw [getD_lt _ (by simpa using h), List.getElem_map, List.getElem_range]
theorem mask_yes {xs : List Pt} (hr : roomOk xs = true) {k : Nat} (h : k < xs.length) : maskM xs k = (floorPts xs).map (seesS xs (pAt xs k)) := mask_ok (by unfold hasCor; rw [hr]; simp [btw]; omega)
theorem floor_le {xs : List Pt} (hr : roomOk xs = true) : (floorPts xs).length ≤ 1048576 := Nat.le_trans (floor_len xs) (by decide)
theorem masks_ok {xs : List Pt} (hr : roomOk xs = true) : MOk (masksM xs) := by
  have hxl := room_len hr
  have hl : ∀ k, k < xs.length → ((masksM xs).getD k []).length = (floorPts xs).length := fun k hk => by rw [masks_get hk, mask_yes hr hk, List.length_map]
  have hf := floor_le hr
  have hw : wid (masksM xs) = (floorPts xs).length := hl 0 (by omega)
  refine ⟨by rw [masks_len]; omega, by rw [masks_len]; omega, fun k hk => ?_, by rw [hw]; omega⟩
  rw [masks_len] at hk
  rw [hl k hk, hw]
def masksTo (xs : List Pt) (k : Nat) : Msk := (List.range k).map fun j : Nat => maskM xs j
theorem masksTo_succ (xs : List Pt) (k : Nat) : masksTo xs k ++ [maskM xs k] = masksTo xs (k + 1) := by unfold masksTo; rw [List.range_succ, List.map_append]; rfl
theorem masksTo_len (xs : List Pt) (k : Nat) : (masksTo xs k).length = k := by simp [masksTo]
def fewVal (xs : List Pt) : RV := .val (.one (.d (.sl none (.b .int) (fewM xs))))
def fewC : Con := mkCon [.room] (fun x => x.1.length ≤ 1048576) fun x => fewVal x.1
def sfewC : Con := mkCon [.room] (fun x => x.1.length ≤ 1048576) fun x => fewVal x.1
theorem few_bad {xs : List Pt} (h : roomOk xs = false) : fewM xs = [] := by unfold fewM; rw [h]; rfl
theorem few_ok {xs : List Pt} (h : roomOk xs = true) : fewM xs = (fewO (masksM xs)).getD [] := by unfold fewM; rw [h]; rfl
theorem lok_nil (M : Msk) : LOk M [] := ⟨by simp, fun j hj => by simp at hj⟩
theorem iFewest_ok : Good1 Try.prog n_impl_FewestCorners fewC := by
  refine good_ofG (tys := tyL) (env := [(n_impl_RoomOk, roomOkC), (n_impl_SeenMask, maskC), (n_impl_choose, chooseC)]) (envw := []) [10, 20, 22] [] [] [20] mixed tys ⟨iRoomOk_ok, iSeenMask_ok, choose_ok, trivial⟩ trivial Try.func40 rfl (by kernel_rfl) (by decide) (by kernel_rfl) ?_
  have hG_ := kpz [(0, [1]), (1, [1, 9]), (2, [2]), (3, [1, 3]), (4, [1, 3, 13, 14]), (5, [1, 3, 13, 14, 15]), (6, [1, 3, 4, 13, 14]), (7, [1, 3, 13, 14]), (8, [1, 3, 13, 14]), (9, [3, 5]), (10, [3, 5, 27]), (11, [3, 5]), (12, [3, 5, 6]), (13, [3, 5, 6, 34]), (14, [2]), (15, [2])] [(3, [10]), (4, [10]), (5, [10]), (6, [10]), (7, [10, 20]), (8, [10, 20]), (9, [10]), (10, [10]), (11, [10]), (12, [10]), (13, [10]), (14, [10]), (15, [10])] [] []
  rintro ⟨(xs : List Pt), ⟨⟩⟩ (h1 : xs.length ≤ _)
  (repeat' (first | with_reducible exact True.intro | with_reducible refine st_seq ?_ | (with_reducible refine st_regionG hG_ ?_; intro K_ hK_) | (with_reducible refine st_region ?_; intro K_ hK_) | (with_reducible refine hK_ _ _ ?_; try clear hK_ K_) | ((with_reducible refine st_cond (b := ?b_) ?hb_ ?_ ?_); case hb_ => rfl) | with_reducible refine sq_n ?_ | with_reducible refine sq_r ?_ | with_reducible refine sq_e ?_ | with_reducible refine bq_n ?_ | with_reducible refine bq_r ?_ | with_reducible refine bq_q ?_ | with_reducible refine st_block ?_ | with_reducible refine st_exit ?_ | with_reducible refine st_ret ?_ | with_reducible refine st_skip ?_ | with_reducible refine gq_n ?_ | with_reducible refine gq_r ?_ | with_reducible refine gq_e ?_ | with_reducible refine lq_n ?_ | with_reducible refine lq_r ?_ | with_reducible refine lq_e ?_ | with_reducible refine bq_e (by decide) ?_ | ((conv => whnf); first | (with_reducible refine hK_ _ _ ?_; try clear hK_ K_) | (with_reducible refine fun (g_ : Sl) (o_ : Ow) => ?_) | with_reducible exact True.intro | with_reducible refine And.intro trivial ?_ | with_reducible refine And.intro ?_ ?_ | exact Nat.le_of_ble_eq_true rfl | exact Or.inl rfl | (intro h_; cases h_) | (intro h_; (try simp only [cond_true, cond_false, decide_eq_true_eq, decide_eq_false_iff_not, Bool.not_eq_true', Bool.not_eq_false', Int.toNat_natCast, prodEta] at h_)) | rfl))) <;> (try (conv => whnf)) <;> (try first | change (_ : Int) ≤ _ | change (_ : Nat) ≤ _) <;> (try ((fail_if_success (with_reducible apply Exists.intro)); (try dsimp only); (try simp only [cond_true, cond_false, decide_eq_true_eq, decide_eq_false_iff_not, Bool.not_eq_true', Bool.not_eq_false', Int.toNat_natCast, prodEta]))) <;> (try simp (disch := omega) only [ptEq2, cond_true, cond_false, decide_eq_true_eq, decide_eq_false_iff_not, List.length_drop, List.take_length, Int.toNat_zero, List.drop_zero, Nat.zero_add, List.nil_append, mod_nat1, mod_nat2, tm1, tm2, tmj, W_in, Int.add_sub_cancel, tn1, tnp, tnc, List.length_append, List.length_take, List.length_replicate, List.length_set, List.length_map, List.length_cons, List.length_nil, prodEta, Int.toNat_natCast, beq_iff_eq, beq_eq_false_iff_ne, bne_iff_ne, bne_eq_false_iff_eq, ne_eq, Int.natCast_inj, Int.ofNat_lt, Int.ofNat_le] at *)
  all_goals (try (fail_if_success (with_reducible apply Exists.intro)); first | with_reducible assumption | omega | exact mdl (by omega) | exact ilo1 (by omega) | exact ilo2 (by omega) | exact ihi1 (by omega) (by omega) | exact ihi2 (by omega) (by omega))
  · exact few_bad h_
  have hr : roomOk xs = true := h_
  have hxl := room_len hr
  have hmo := masks_ok hr
  refine awp'_loopG (α := Nat) (fun k ver_ => [(14, vInt k)]) (fun k ver_ => [(3, 10, false, .row t_sl_bool (.s .bool) (masksTo xs k))]) (fun k ver_ => []) (fun k => k ≤ xs.length) (fun k => xs.length - k) [1, 13] [] (0) ?_
  conv => whnf
  refine ⟨⟨?inv4_, ?vals4_, ?own4_, ?fix4_⟩, ?body4_⟩
  case' vals4_ => (repeat' (first | with_reducible exact True.intro | with_reducible refine And.intro ?_ ?_ | with_reducible refine Head.mk ?_ ?_ ?_ ?_ | ((conv => lhs; whnf); first | with_reducible rfl | with_reducible exact vInt_s (by omega) | exact rfl) | ((conv => whnf); first | with_reducible exact True.intro | with_reducible refine And.intro ?_ ?_))) <;> (try (conv => lhs; whnf))
  case' own4_ => (repeat' (first | with_reducible exact True.intro | with_reducible refine And.intro ?_ ?_ | with_reducible refine Head.mk ?_ ?_ ?_ ?_ | ((conv => lhs; whnf); first | with_reducible rfl | with_reducible exact vInt_s (by omega) | exact rfl) | ((conv => whnf); first | with_reducible exact True.intro | with_reducible refine And.intro ?_ ?_))) <;> (try (conv => lhs; whnf))
  case' fix4_ => (repeat' (first | with_reducible exact True.intro | with_reducible refine And.intro ?_ ?_ | with_reducible refine Head.mk ?_ ?_ ?_ ?_ | ((conv => lhs; whnf); first | with_reducible rfl | with_reducible exact vInt_s (by omega) | exact rfl) | ((conv => whnf); first | with_reducible exact True.intro | with_reducible refine And.intro ?_ ?_))) <;> (try (conv => lhs; whnf))
  · exact Nat.zero_le _
  rintro k g_ o_ v_ hk
  have hml := masksTo_len xs k
  (repeat' (first | with_reducible exact True.intro | with_reducible refine st_seq ?_ | (with_reducible refine st_regionG hG_ ?_; intro K_ hK_) | (with_reducible refine st_region ?_; intro K_ hK_) | (with_reducible refine hK_ _ _ ?_; try clear hK_ K_) | ((with_reducible refine st_cond (b := ?b_) ?hb_ ?_ ?_); case hb_ => rfl) | with_reducible refine sq_n ?_ | with_reducible refine sq_r ?_ | with_reducible refine sq_e ?_ | with_reducible refine bq_n ?_ | with_reducible refine bq_r ?_ | with_reducible refine bq_q ?_ | with_reducible refine st_block ?_ | with_reducible refine st_exit ?_ | with_reducible refine st_ret ?_ | with_reducible refine st_skip ?_ | with_reducible refine gq_n ?_ | with_reducible refine gq_r ?_ | with_reducible refine gq_e ?_ | with_reducible refine lq_n ?_ | with_reducible refine lq_r ?_ | with_reducible refine lq_e ?_ | with_reducible refine bq_e (by decide) ?_ | ((conv => whnf); first | (with_reducible refine hK_ _ _ ?_; try clear hK_ K_) | (with_reducible refine fun (g_ : Sl) (o_ : Ow) => ?_) | with_reducible exact True.intro | with_reducible refine And.intro trivial ?_ | with_reducible refine And.intro ?_ ?_ | exact Nat.le_of_ble_eq_true rfl | exact Or.inl rfl | (intro h_; cases h_) | (intro h_; (try simp only [cond_true, cond_false, decide_eq_true_eq, decide_eq_false_iff_not, Bool.not_eq_true', Bool.not_eq_false', Int.toNat_natCast, prodEta] at h_)) | rfl))) <;> (try (conv => whnf)) <;> (try first | change (_ : Int) ≤ _ | change (_ : Nat) ≤ _) <;> (try ((fail_if_success (with_reducible apply Exists.intro)); (try dsimp only); (try simp only [cond_true, cond_false, decide_eq_true_eq, decide_eq_false_iff_not, Bool.not_eq_true', Bool.not_eq_false', Int.toNat_natCast, prodEta]))) <;> (try simp (disch := omega) only [ptEq2, cond_true, cond_false, decide_eq_true_eq, decide_eq_false_iff_not, List.length_drop, List.take_length, Int.toNat_zero, List.drop_zero, Nat.zero_add, List.nil_append, mod_nat1, mod_nat2, tm1, tm2, tmj, W_in, Int.add_sub_cancel, tn1, tnp, tnc, List.length_append, List.length_take, List.length_replicate, List.length_set, List.length_map, List.length_cons, List.length_nil, prodEta, Int.toNat_natCast, beq_iff_eq, beq_eq_false_iff_ne, bne_iff_ne, bne_eq_false_iff_eq, ne_eq, Int.natCast_inj, Int.ofNat_lt, Int.ofNat_le] at *)
  all_goals (try (fail_if_success (with_reducible apply Exists.intro)); first | with_reducible assumption | omega | exact mdl (by omega) | exact ilo1 (by omega) | exact ilo2 (by omega) | exact ihi1 (by omega) (by omega) | exact ihi2 (by omega) (by omega))
  · refine ⟨k + 1, by omega, by omega, ?_⟩
    (repeat' (first | with_reducible exact True.intro | with_reducible refine And.intro ?_ ?_ | with_reducible refine Head.mk ?_ ?_ ?_ ?_ | ((conv => lhs; whnf); first | with_reducible rfl | with_reducible exact vInt_s (by omega) | exact rfl) | ((conv => whnf); first | with_reducible exact True.intro | with_reducible refine And.intro ?_ ?_))) <;> (try (conv => lhs; whnf))
    exact congrArg (Own.row t_sl_bool (.s .bool)) (masksTo_succ xs k)
  obtain rfl : k = xs.length := by omega
  refine st_frz (pl := [10]) (ts := [3, 5]) (ps := []) ?_
  conv => whnf
  refine ⟨rfl, ?_⟩
  have hMl := masks_len xs
  have hfo : fewO (masksM xs) = fsR (fun n => chM (masksM xs) n [] 0) 1 (xs.length + 1) := by unfold fewO; rw [hMl]
  have hme : masksTo xs xs.length = masksM xs := rfl
  rw [hme]
  have hfw := few_ok hr
  generalize masksM xs = M at *
  refine awp'_loopG (α := Nat) (fun n ver_ => [(5, vInt n)]) (fun n ver_ => []) (fun n ver_ => []) (fun n => (1 ≤ n ∧ n ≤ xs.length + 1) ∧ fewO M = fsR (fun n => chM M n [] 0) n (xs.length + 1)) (fun n => xs.length + 1 - n) [3] [10] (1) ?_
  conv => whnf
  refine ⟨⟨?inv5_, ?vals5_, ?own5_, ?fix5_⟩, ?body5_⟩
  case' vals5_ => (repeat' (first | with_reducible exact True.intro | with_reducible refine And.intro ?_ ?_ | with_reducible refine Head.mk ?_ ?_ ?_ ?_ | ((conv => lhs; whnf); first | with_reducible rfl | with_reducible exact vInt_s (by omega) | exact rfl) | ((conv => whnf); first | with_reducible exact True.intro | with_reducible refine And.intro ?_ ?_))) <;> (try (conv => lhs; whnf))
  case' own5_ => (repeat' (first | with_reducible exact True.intro | with_reducible refine And.intro ?_ ?_ | with_reducible refine Head.mk ?_ ?_ ?_ ?_ | ((conv => lhs; whnf); first | with_reducible rfl | with_reducible exact vInt_s (by omega) | exact rfl) | ((conv => whnf); first | with_reducible exact True.intro | with_reducible refine And.intro ?_ ?_))) <;> (try (conv => lhs; whnf))
  case' fix5_ => (repeat' (first | with_reducible exact True.intro | with_reducible refine And.intro ?_ ?_ | with_reducible refine Head.mk ?_ ?_ ?_ ?_ | ((conv => lhs; whnf); first | with_reducible rfl | with_reducible exact vInt_s (by omega) | exact rfl) | ((conv => whnf); first | with_reducible exact True.intro | with_reducible refine And.intro ?_ ?_))) <;> (try (conv => lhs; whnf))
  · exact ⟨⟨Nat.le_refl _, by omega⟩, hfo⟩
  rintro n g_ o_ v_ ⟨⟨hn1, hn2⟩, hn3⟩
  have hpre : n ≤ xs.length → ChOk M [] 0 n := fun h => ⟨⟨hmo, lok_nil M⟩, ⟨by omega, by omega⟩, by omega, by simp; omega, by simp; omega⟩
  (repeat' (first | with_reducible exact True.intro | with_reducible refine st_seq ?_ | (with_reducible refine st_regionG hG_ ?_; intro K_ hK_) | (with_reducible refine st_region ?_; intro K_ hK_) | (with_reducible refine hK_ _ _ ?_; try clear hK_ K_) | ((with_reducible refine st_cond (b := ?b_) ?hb_ ?_ ?_); case hb_ => rfl) | with_reducible refine sq_n ?_ | with_reducible refine sq_r ?_ | with_reducible refine sq_e ?_ | with_reducible refine bq_n ?_ | with_reducible refine bq_r ?_ | with_reducible refine bq_q ?_ | with_reducible refine st_block ?_ | with_reducible refine st_exit ?_ | with_reducible refine st_ret ?_ | with_reducible refine st_skip ?_ | with_reducible refine gq_n ?_ | with_reducible refine gq_r ?_ | with_reducible refine gq_e ?_ | with_reducible refine lq_n ?_ | with_reducible refine lq_r ?_ | with_reducible refine lq_e ?_ | with_reducible refine bq_e (by decide) ?_ | ((conv => whnf); first | (with_reducible refine hK_ _ _ ?_; try clear hK_ K_) | (with_reducible refine fun (g_ : Sl) (o_ : Ow) => ?_) | with_reducible exact True.intro | with_reducible refine And.intro trivial ?_ | with_reducible refine And.intro ?_ ?_ | exact Nat.le_of_ble_eq_true rfl | exact Or.inl rfl | (intro h_; cases h_) | (intro h_; (try simp only [cond_true, cond_false, decide_eq_true_eq, decide_eq_false_iff_not, Bool.not_eq_true', Bool.not_eq_false', Int.toNat_natCast, prodEta] at h_)) | rfl))) <;> (try (conv => whnf)) <;> (try first | change (_ : Int) ≤ _ | change (_ : Nat) ≤ _) <;> (try ((fail_if_success (with_reducible apply Exists.intro)); (try dsimp only); (try simp only [cond_true, cond_false, decide_eq_true_eq, decide_eq_false_iff_not, Bool.not_eq_true', Bool.not_eq_false', Int.toNat_natCast, prodEta]))) <;> (try simp (disch := omega) only [ptEq2, cond_true, cond_false, decide_eq_true_eq, decide_eq_false_iff_not, List.length_drop, List.take_length, Int.toNat_zero, List.drop_zero, Nat.zero_add, List.nil_append, mod_nat1, mod_nat2, tm1, tm2, tmj, W_in, Int.add_sub_cancel, tn1, tnp, tnc, List.length_append, List.length_take, List.length_replicate, List.length_set, List.length_map, List.length_cons, List.length_nil, prodEta, Int.toNat_natCast, beq_iff_eq, beq_eq_false_iff_ne, bne_iff_ne, bne_eq_false_iff_eq, ne_eq, Int.natCast_inj, Int.ofNat_lt, Int.ofNat_le] at *)
  all_goals (try (fail_if_success (with_reducible apply Exists.intro)); first | with_reducible assumption | omega | exact mdl (by omega) | exact ilo1 (by omega) | exact ilo2 (by omega) | exact ihi1 (by omega) (by omega) | exact ihi2 (by omega) (by omega))
  · exact hpre (by omega)
  · have hn0 : chM M n [] 0 ≠ none := fun e => by
      have h8 : (chM M n [] 0).isNone = false := by assumption
      rw [e] at h8; cases h8
    obtain ⟨r, hrr⟩ := Option.ne_none_iff_exists'.1 hn0
    have e : fewO M = some r := hn3.trans (fsR_yes (by omega) hrr)
    exact congrArg some (by rw [hfw, e, hrr])
  · have hn0 : chM M n [] 0 = none := Option.isNone_iff_eq_none.1 (by assumption)
    exact ⟨n + 1, by omega, ⟨⟨by omega, by omega⟩, hn3.trans (fsR_no (by omega) hn0)⟩, by (repeat' (first | with_reducible exact True.intro | with_reducible refine And.intro ?_ ?_ | with_reducible refine Head.mk ?_ ?_ ?_ ?_ | ((conv => lhs; whnf); first | with_reducible rfl | with_reducible exact vInt_s (by omega) | exact rfl) | ((conv => whnf); first | with_reducible exact True.intro | with_reducible refine And.intro ?_ ?_))) <;> (try (conv => lhs; whnf))⟩
  · rw [hfw, hn3, fsR_end (by omega)]; rfl
def cntC : Con := mkCon [.room] (fun x => x.1.length ≤ 1048576) fun x => vI ((fewM x.1).length)
theorem iCount_ok : Good1 Try.prog n_impl_CountGuards cntC := by
  refine good_ofG (tys := tyL) (env := [(n_impl_FewestCorners, fewC)]) (envw := []) [] [] [] [] mixed tys ⟨iFewest_ok, trivial⟩ trivial Try.func31 rfl (by kernel_rfl) (by decide) (by kernel_rfl) ?_
  have hG_ := kpz [(0, [1]), (1, [2])] [] [] []
  rintro ⟨(xs : List Pt), ⟨⟩⟩ (h1 : xs.length ≤ _)
  (repeat' (first | with_reducible exact True.intro | with_reducible refine st_seq ?_ | (with_reducible refine st_regionG hG_ ?_; intro K_ hK_) | (with_reducible refine st_region ?_; intro K_ hK_) | (with_reducible refine hK_ _ _ ?_; try clear hK_ K_) | ((with_reducible refine st_cond (b := ?b_) ?hb_ ?_ ?_); case hb_ => rfl) | with_reducible refine sq_n ?_ | with_reducible refine sq_r ?_ | with_reducible refine sq_e ?_ | with_reducible refine bq_n ?_ | with_reducible refine bq_r ?_ | with_reducible refine bq_q ?_ | with_reducible refine st_block ?_ | with_reducible refine st_exit ?_ | with_reducible refine st_ret ?_ | with_reducible refine st_skip ?_ | with_reducible refine gq_n ?_ | with_reducible refine gq_r ?_ | with_reducible refine gq_e ?_ | with_reducible refine lq_n ?_ | with_reducible refine lq_r ?_ | with_reducible refine lq_e ?_ | with_reducible refine bq_e (by decide) ?_ | ((conv => whnf); first | (with_reducible refine hK_ _ _ ?_; try clear hK_ K_) | (with_reducible refine fun (g_ : Sl) (o_ : Ow) => ?_) | with_reducible exact True.intro | with_reducible refine And.intro trivial ?_ | with_reducible refine And.intro ?_ ?_ | exact Nat.le_of_ble_eq_true rfl | exact Or.inl rfl | (intro h_; cases h_) | (intro h_; (try simp only [cond_true, cond_false, decide_eq_true_eq, decide_eq_false_iff_not, Bool.not_eq_true', Bool.not_eq_false', Int.toNat_natCast, prodEta] at h_)) | rfl))) <;> (try (conv => whnf)) <;> (try first | change (_ : Int) ≤ _ | change (_ : Nat) ≤ _) <;> (try ((fail_if_success (with_reducible apply Exists.intro)); (try dsimp only); (try simp only [cond_true, cond_false, decide_eq_true_eq, decide_eq_false_iff_not, Bool.not_eq_true', Bool.not_eq_false', Int.toNat_natCast, prodEta])))
  all_goals (try (fail_if_success (with_reducible apply Exists.intro)); first | with_reducible assumption | omega | exact mdl (by omega) | exact ilo1 (by omega) | exact ilo2 (by omega) | exact ihi1 (by omega) (by omega) | exact ihi2 (by omega) (by omega))
def maskN (xs fl : List Pt) (k : Nat) : List Bool := fl.map (seesS xs (pAt xs k))
def masksN (xs fl : List Pt) (k : Nat) : Msk := (List.range k).map (maskN xs fl)
theorem masksN_succ (xs fl : List Pt) (k : Nat) : masksN xs fl k ++ [maskN xs fl k] = masksN xs fl (k + 1) := by unfold masksN; rw [List.range_succ, List.map_append]; rfl
theorem masksN_len (xs fl : List Pt) (k : Nat) : (masksN xs fl k).length = k := by simp [masksN]
theorem masksN_eq {xs : List Pt} (hr : roomOk xs = true) : masksN xs (floorPts xs) xs.length = masksM xs := by
  unfold masksN masksM
  refine List.map_congr_left fun k hk => ?_
  rw [mask_yes hr (List.mem_range.1 hk)]
  rfl
def lmC : Con := mkCon [.room, .sl (.b .pt)] (fun x => x.1.length ≤ 10 ∧ x.2.1.length ≤ 1048576) fun x => .val (.one (.d (.sl none (.s .bool) (masksN x.1 x.2.1 x.1.length))))
theorem l14Masks_ok : Good1 Try.prog n_spec_l14Masks lmC := by
  refine good_ofG (tys := tyL) (env := [(n_spec_l08Sees, l08SeesC)]) (envw := []) [9, 17, 38, 42] [25, 26, 27, 28, 30, 31, 34, 35, 36] [] [] mixed tys ⟨l08Sees_ok, trivial⟩ trivial Try.func71 rfl (by kernel_rfl) (by decide) (by kernel_rfl) ?_
  have hG_ := kpz [(0, [1, 2]), (1, [1, 2, 5]), (2, [1, 2, 5, 6]), (3, [1, 2, 5, 6, 14]), (4, [1, 2, 5, 6]), (5, [1, 2, 5, 6, 7]), (6, [1, 2, 5, 6, 7, 8]), (7, [1, 2, 5, 6, 7, 8, 21]), (8, [1, 2, 5, 6, 7, 8]), (9, [1, 2, 5, 6, 7, 8]), (10, [1, 2, 5, 6]), (11, [4]), (100010, [1, 2, 5, 6, 7])] [(1, [9]), (2, [9]), (3, [9]), (4, [9, 17]), (5, [9, 17]), (6, [9, 17]), (7, [9, 17]), (8, [9, 17]), (9, [9, 17]), (10, [9, 17]), (11, [9]), (100010, [9, 17])] [(100010, [17])] []
  rintro ⟨(xs : List Pt), (fl : List Pt), ⟨⟩⟩ ⟨(h1 : xs.length ≤ _), (h2 : fl.length ≤ _)⟩
  (repeat' (first | with_reducible exact True.intro | with_reducible refine st_seq ?_ | (with_reducible refine st_regionG hG_ ?_; intro K_ hK_) | (with_reducible refine st_region ?_; intro K_ hK_) | (with_reducible refine hK_ _ _ ?_; try clear hK_ K_) | ((with_reducible refine st_cond (b := ?b_) ?hb_ ?_ ?_); case hb_ => rfl) | with_reducible refine sq_n ?_ | with_reducible refine sq_r ?_ | with_reducible refine sq_e ?_ | with_reducible refine bq_n ?_ | with_reducible refine bq_r ?_ | with_reducible refine bq_q ?_ | with_reducible refine st_block ?_ | with_reducible refine st_exit ?_ | with_reducible refine st_ret ?_ | with_reducible refine st_skip ?_ | with_reducible refine gq_n ?_ | with_reducible refine gq_r ?_ | with_reducible refine gq_e ?_ | with_reducible refine lq_n ?_ | with_reducible refine lq_r ?_ | with_reducible refine lq_e ?_ | with_reducible refine bq_e (by decide) ?_ | ((conv => whnf); first | (with_reducible refine hK_ _ _ ?_; try clear hK_ K_) | (with_reducible refine fun (g_ : Sl) (o_ : Ow) => ?_) | with_reducible exact True.intro | with_reducible refine And.intro trivial ?_ | with_reducible refine And.intro ?_ ?_ | exact Nat.le_of_ble_eq_true rfl | exact Or.inl rfl | (intro h_; cases h_) | (intro h_; (try simp only [cond_true, cond_false, decide_eq_true_eq, decide_eq_false_iff_not, Bool.not_eq_true', Bool.not_eq_false', Int.toNat_natCast, prodEta] at h_)) | rfl))) <;> (try (conv => whnf)) <;> (try first | change (_ : Int) ≤ _ | change (_ : Nat) ≤ _) <;> (try ((fail_if_success (with_reducible apply Exists.intro)); (try dsimp only); (try simp only [cond_true, cond_false, decide_eq_true_eq, decide_eq_false_iff_not, Bool.not_eq_true', Bool.not_eq_false', Int.toNat_natCast, prodEta]))) <;> (try simp (disch := omega) only [ptEq2, cond_true, cond_false, decide_eq_true_eq, decide_eq_false_iff_not, List.length_drop, List.take_length, Int.toNat_zero, List.drop_zero, Nat.zero_add, List.nil_append, mod_nat1, mod_nat2, tm1, tm2, tmj, W_in, Int.add_sub_cancel, tn1, tnp, tnc, List.length_append, List.length_take, List.length_replicate, List.length_set, List.length_map, List.length_cons, List.length_nil, prodEta, Int.toNat_natCast, beq_iff_eq, beq_eq_false_iff_ne, bne_iff_ne, bne_eq_false_iff_eq, ne_eq, Int.natCast_inj, Int.ofNat_lt, Int.ofNat_le] at *)
  all_goals (try (fail_if_success (with_reducible apply Exists.intro)); first | with_reducible assumption | omega | exact mdl (by omega) | exact ilo1 (by omega) | exact ilo2 (by omega) | exact ihi1 (by omega) (by omega) | exact ihi2 (by omega) (by omega))
  refine awp'_loopG (α := Nat) (fun k ver_ => [(6, vInt k)]) (fun k ver_ => [(5, 9, false, .row t_sl_bool (.s .bool) (masksN xs fl k))]) (fun k ver_ => []) (fun k => k ≤ xs.length) (fun k => xs.length - k) [1, 2] [] (0) ?_
  conv => whnf
  refine ⟨⟨?inv6_, ?vals6_, ?own6_, ?fix6_⟩, ?body6_⟩
  case' vals6_ => (repeat' (first | with_reducible exact True.intro | with_reducible refine And.intro ?_ ?_ | with_reducible refine Head.mk ?_ ?_ ?_ ?_ | ((conv => lhs; whnf); first | with_reducible rfl | with_reducible exact vInt_s (by omega) | exact rfl) | ((conv => whnf); first | with_reducible exact True.intro | with_reducible refine And.intro ?_ ?_))) <;> (try (conv => lhs; whnf))
  case' own6_ => (repeat' (first | with_reducible exact True.intro | with_reducible refine And.intro ?_ ?_ | with_reducible refine Head.mk ?_ ?_ ?_ ?_ | ((conv => lhs; whnf); first | with_reducible rfl | with_reducible exact vInt_s (by omega) | exact rfl) | ((conv => whnf); first | with_reducible exact True.intro | with_reducible refine And.intro ?_ ?_))) <;> (try (conv => lhs; whnf))
  case' fix6_ => (repeat' (first | with_reducible exact True.intro | with_reducible refine And.intro ?_ ?_ | with_reducible refine Head.mk ?_ ?_ ?_ ?_ | ((conv => lhs; whnf); first | with_reducible rfl | with_reducible exact vInt_s (by omega) | exact rfl) | ((conv => whnf); first | with_reducible exact True.intro | with_reducible refine And.intro ?_ ?_))) <;> (try (conv => lhs; whnf))
  · exact Nat.zero_le _
  rintro k g_ o_ v_ hk
  have hml := masksN_len xs fl k
  (repeat' (first | with_reducible exact True.intro | with_reducible refine st_seq ?_ | (with_reducible refine st_regionG hG_ ?_; intro K_ hK_) | (with_reducible refine st_region ?_; intro K_ hK_) | (with_reducible refine hK_ _ _ ?_; try clear hK_ K_) | ((with_reducible refine st_cond (b := ?b_) ?hb_ ?_ ?_); case hb_ => rfl) | with_reducible refine sq_n ?_ | with_reducible refine sq_r ?_ | with_reducible refine sq_e ?_ | with_reducible refine bq_n ?_ | with_reducible refine bq_r ?_ | with_reducible refine bq_q ?_ | with_reducible refine st_block ?_ | with_reducible refine st_exit ?_ | with_reducible refine st_ret ?_ | with_reducible refine st_skip ?_ | with_reducible refine gq_n ?_ | with_reducible refine gq_r ?_ | with_reducible refine gq_e ?_ | with_reducible refine lq_n ?_ | with_reducible refine lq_r ?_ | with_reducible refine lq_e ?_ | with_reducible refine bq_e (by decide) ?_ | ((conv => whnf); first | (with_reducible refine hK_ _ _ ?_; try clear hK_ K_) | (with_reducible refine fun (g_ : Sl) (o_ : Ow) => ?_) | with_reducible exact True.intro | with_reducible refine And.intro trivial ?_ | with_reducible refine And.intro ?_ ?_ | exact Nat.le_of_ble_eq_true rfl | exact Or.inl rfl | (intro h_; cases h_) | (intro h_; (try simp only [cond_true, cond_false, decide_eq_true_eq, decide_eq_false_iff_not, Bool.not_eq_true', Bool.not_eq_false', Int.toNat_natCast, prodEta] at h_)) | rfl))) <;> (try (conv => whnf)) <;> (try first | change (_ : Int) ≤ _ | change (_ : Nat) ≤ _) <;> (try ((fail_if_success (with_reducible apply Exists.intro)); (try dsimp only); (try simp only [cond_true, cond_false, decide_eq_true_eq, decide_eq_false_iff_not, Bool.not_eq_true', Bool.not_eq_false', Int.toNat_natCast, prodEta]))) <;> (try simp (disch := omega) only [ptEq2, cond_true, cond_false, decide_eq_true_eq, decide_eq_false_iff_not, List.length_drop, List.take_length, Int.toNat_zero, List.drop_zero, Nat.zero_add, List.nil_append, mod_nat1, mod_nat2, tm1, tm2, tmj, W_in, Int.add_sub_cancel, tn1, tnp, tnc, List.length_append, List.length_take, List.length_replicate, List.length_set, List.length_map, List.length_cons, List.length_nil, prodEta, Int.toNat_natCast, beq_iff_eq, beq_eq_false_iff_ne, bne_iff_ne, bne_eq_false_iff_eq, ne_eq, Int.natCast_inj, Int.ofNat_lt, Int.ofNat_le] at *)
  all_goals (try (fail_if_success (with_reducible apply Exists.intro)); first | with_reducible assumption | omega | exact mdl (by omega) | exact ilo1 (by omega) | exact ilo2 (by omega) | exact ihi1 (by omega) (by omega) | exact ihi2 (by omega) (by omega))
  ·
   refine awp'_loopG (α := Nat) (fun i ver_ => [(8, vInt i)]) (fun i ver_ => [(7, 17, false, .row t_bool (.b .bool) ((fl.take i).map (seesS xs (pAt xs k))))]) (fun i ver_ => []) (fun i => i ≤ fl.length) (fun i => fl.length - i) [1, 2, 5, 6] [9] (0) ?_
   conv => whnf
   refine ⟨⟨?inv7_, ?vals7_, ?own7_, ?fix7_⟩, ?body7_⟩
   case' vals7_ => (repeat' (first | with_reducible exact True.intro | with_reducible refine And.intro ?_ ?_ | with_reducible refine Head.mk ?_ ?_ ?_ ?_ | ((conv => lhs; whnf); first | with_reducible rfl | with_reducible exact vInt_s (by omega) | exact rfl) | ((conv => whnf); first | with_reducible exact True.intro | with_reducible refine And.intro ?_ ?_))) <;> (try (conv => lhs; whnf))
   case' own7_ => (repeat' (first | with_reducible exact True.intro | with_reducible refine And.intro ?_ ?_ | with_reducible refine Head.mk ?_ ?_ ?_ ?_ | ((conv => lhs; whnf); first | with_reducible rfl | with_reducible exact vInt_s (by omega) | exact rfl) | ((conv => whnf); first | with_reducible exact True.intro | with_reducible refine And.intro ?_ ?_))) <;> (try (conv => lhs; whnf))
   case' fix7_ => (repeat' (first | with_reducible exact True.intro | with_reducible refine And.intro ?_ ?_ | with_reducible refine Head.mk ?_ ?_ ?_ ?_ | ((conv => lhs; whnf); first | with_reducible rfl | with_reducible exact vInt_s (by omega) | exact rfl) | ((conv => whnf); first | with_reducible exact True.intro | with_reducible refine And.intro ?_ ?_))) <;> (try (conv => lhs; whnf))
   · exact Nat.zero_le _
   rintro i g_ o_ v_ hi
   (repeat' (first | with_reducible exact True.intro | with_reducible refine st_seq ?_ | (with_reducible refine st_regionG hG_ ?_; intro K_ hK_) | (with_reducible refine st_region ?_; intro K_ hK_) | (with_reducible refine hK_ _ _ ?_; try clear hK_ K_) | ((with_reducible refine st_cond (b := ?b_) ?hb_ ?_ ?_); case hb_ => rfl) | with_reducible refine sq_n ?_ | with_reducible refine sq_r ?_ | with_reducible refine sq_e ?_ | with_reducible refine bq_n ?_ | with_reducible refine bq_r ?_ | with_reducible refine bq_q ?_ | with_reducible refine st_block ?_ | with_reducible refine st_exit ?_ | with_reducible refine st_ret ?_ | with_reducible refine st_skip ?_ | with_reducible refine gq_n ?_ | with_reducible refine gq_r ?_ | with_reducible refine gq_e ?_ | with_reducible refine lq_n ?_ | with_reducible refine lq_r ?_ | with_reducible refine lq_e ?_ | with_reducible refine bq_e (by decide) ?_ | ((conv => whnf); first | (with_reducible refine hK_ _ _ ?_; try clear hK_ K_) | (with_reducible refine fun (g_ : Sl) (o_ : Ow) => ?_) | with_reducible exact True.intro | with_reducible refine And.intro trivial ?_ | with_reducible refine And.intro ?_ ?_ | exact Nat.le_of_ble_eq_true rfl | exact Or.inl rfl | (intro h_; cases h_) | (intro h_; (try simp only [cond_true, cond_false, decide_eq_true_eq, decide_eq_false_iff_not, Bool.not_eq_true', Bool.not_eq_false', Int.toNat_natCast, prodEta] at h_)) | rfl))) <;> (try (conv => whnf)) <;> (try first | change (_ : Int) ≤ _ | change (_ : Nat) ≤ _) <;> (try ((fail_if_success (with_reducible apply Exists.intro)); (try dsimp only); (try simp only [cond_true, cond_false, decide_eq_true_eq, decide_eq_false_iff_not, Bool.not_eq_true', Bool.not_eq_false', Int.toNat_natCast, prodEta]))) <;> (try simp (disch := omega) only [ptEq2, cond_true, cond_false, decide_eq_true_eq, decide_eq_false_iff_not, List.length_drop, List.take_length, Int.toNat_zero, List.drop_zero, Nat.zero_add, List.nil_append, mod_nat1, mod_nat2, tm1, tm2, tmj, W_in, Int.add_sub_cancel, tn1, tnp, tnc, List.length_append, List.length_take, List.length_replicate, List.length_set, List.length_map, List.length_cons, List.length_nil, prodEta, Int.toNat_natCast, beq_iff_eq, beq_eq_false_iff_ne, bne_iff_ne, bne_eq_false_iff_eq, ne_eq, Int.natCast_inj, Int.ofNat_lt, Int.ofNat_le] at *)
   all_goals (try (fail_if_success (with_reducible apply Exists.intro)); first | with_reducible assumption | omega | exact mdl (by omega) | exact ilo1 (by omega) | exact ilo2 (by omega) | exact ihi1 (by omega) (by omega) | exact ihi2 (by omega) (by omega))
   · refine ⟨i + 1, by omega, by omega, ?_⟩
     (repeat' (first | with_reducible exact True.intro | with_reducible refine And.intro ?_ ?_ | with_reducible refine Head.mk ?_ ?_ ?_ ?_ | ((conv => lhs; whnf); first | with_reducible rfl | with_reducible exact vInt_s (by omega) | exact rfl) | ((conv => whnf); first | with_reducible exact True.intro | with_reducible refine And.intro ?_ ?_))) <;> (try (conv => lhs; whnf))
     exact congrArg (Own.row t_bool (.b .bool)) (map_take_succ (seesS xs (pAt xs k)) (0, 0) (by omega)).symm
   · refine ⟨k + 1, by omega, by omega, ?_⟩
     (repeat' (first | with_reducible exact True.intro | with_reducible refine And.intro ?_ ?_ | with_reducible refine Head.mk ?_ ?_ ?_ ?_ | ((conv => lhs; whnf); first | with_reducible rfl | with_reducible exact vInt_s (by omega) | exact rfl) | ((conv => whnf); first | with_reducible exact True.intro | with_reducible refine And.intro ?_ ?_))) <;> (try (conv => lhs; whnf))
     refine congrArg (Own.row t_sl_bool (.s .bool)) (Eq.trans ?_ (masksN_succ xs fl k))
     rw [List.take_of_length_le (by omega)]; rfl
  · exact congrArg some (by rw [show k = xs.length by omega])
/-! ### The reference's search -/
structure FiOk (M : Msk) (s : List Bool) (a m : Int) : Prop where
  ok : MOk M ∧ s.length = wid M ∧ (0 ≤ a ∧ a ≤ 64) ∧ 0 ≤ m ∧ m ≤ 60
def fiVal (o : Option (List Int)) : RV := .val (.tup [.inl (.d (.sl none (.b .int) (o.getD []))), .inl (.d (.bool o.isSome))])
def fiLt (n : Nat) : Con := mkCon [.sl (.s .bool), .sl (.b .bool), .int, .int] (fun x => FiOk x.1 x.2.1 x.2.2.1 x.2.2.2.1 ∧ x.2.2.2.1 < n) fun x => fiVal (fiM x.1 x.2.2.2.1.toNat x.2.1 x.2.2.1.toNat)
def findC : Con := mkCon [.sl (.s .bool), .sl (.b .bool), .int, .int] (fun x => FiOk x.1 x.2.1 x.2.2.1 x.2.2.2.1) fun x => fiVal (fiM x.1 x.2.2.2.1.toNat x.2.1 x.2.2.1.toNat)
def orTo (s r : List Bool) (i : Nat) : List Bool := (List.range s.length).map fun j => if j < i then s.getD j false || r.getD j false else s.getD j false
theorem orTo_len (s r : List Bool) (i : Nat) : (orTo s r i).length = s.length := by simp [orTo]
theorem orTo_zero (s r : List Bool) : orTo s r 0 = s := by
  refine List.ext_getElem (by simp [orTo]) fun j h1 h2 => ?_
  simp only [orTo, List.getElem_map, List.getElem_range]
  rw [if_neg (by omega), getD_lt _ h2]
theorem orTo_full (s r : List Bool) : orTo s r s.length = orL s r := by
  unfold orTo orL
  refine List.map_congr_left fun j hj => ?_
  rw [if_pos (List.mem_range.1 hj)]
theorem orTo_get {s r : List Bool} {i : Nat} (h : i < s.length) : (orTo s r i).getD i false = s.getD i false := by
  rw [getD_lt _ (by rw [orTo_len]; exact h)]
  simp only [orTo, List.getElem_map, List.getElem_range]
  rw [if_neg (by omega)]
theorem orTo_step {s r : List Bool} {i : Nat} (h : i < s.length) : (orTo s r i).set i ((orTo s r i).getD i false || r.getD i false) = orTo s r (i + 1) := by
  rw [orTo_get h]
  refine List.ext_getElem (by simp [orTo]) fun j h1 h2 => ?_
  rw [List.getElem_set]
  simp only [orTo, List.getElem_map, List.getElem_range]
  split
  · rename_i e; subst e; rw [if_pos (by omega)]
  · split
    · rw [if_pos (by omega)]
    · rw [if_neg (by omega)]
theorem fi_len (M : Msk) : ∀ m s a r, fiM M m s a = some r → r.length = m
  | 0, s, a, r, h => by
    rw [fiM] at h
    split at h
    · injection h with h; rw [← h]; rfl
    · cases h
  | m + 1, s, a, r, h => by
    rw [fiM] at h
    refine fsN_all (Q := fun r => r.length = m + 1) (fun k r hr => ?_) _ _ r h
    cases hf : fiM M m (orL s (M.getD k [])) (k + 1) with
    | none => rw [hf] at hr; cases hr
    | some r' =>
      rw [hf] at hr
      injection hr with hr
      rw [← hr, List.length_cons, fi_len M m _ _ r' hf]
theorem fi_all : ∀ n, Good1 Try.prog n_spec_l14Find (fiLt n) := by
  intro n
  induction n with
  | zero =>
    refine ⟨fun w F args vs x h1 h2 h3 h4 h5 => ?_, _, Try.func72, by decide, rfl⟩
    obtain ⟨-, -, -, h6, -⟩ := (show FiOk x.1 x.2.1 x.2.2.1 x.2.2.2.1 from h2.1).ok
    have h7 : x.2.2.2.1 < ((0 : Nat) : Int) := h2.2
    exact absurd (Int.lt_of_le_of_lt h6 h7) (by decide)
  | succ n ih =>
    refine good_ofG (tys := tyL) (env := [(n_spec_l14Find, (fiLt n))]) (envw := []) [29, 30, 38, 40, 75, 77, 78] [] [] [] mixed tys ⟨ih, trivial⟩ trivial Try.func72 rfl (by kernel_rfl) (by decide) (by kernel_rfl) ?_
    have hG_ := kpz [(0, [0, 1, 2, 3]), (1, [0, 1, 2, 3, 17]), (2, [1, 10]), (3, [1, 10, 21]), (4, [1, 10]), (5, [1, 10, 28]), (6, [8, 9]), (7, [8, 9]), (8, [0, 1, 3, 11]), (9, [0, 1, 3, 11, 35]), (10, [0, 1, 3, 11]), (11, [0, 1, 3, 11, 12]), (12, [0, 1, 3, 11, 12, 13]), (13, [0, 1, 3, 11, 12, 13, 44]), (14, [0, 1, 3, 11, 12, 13]), (15, [0, 1, 3, 11, 12, 13]), (16, [0, 1, 3, 11, 14, 15]), (17, [0, 1, 3, 11, 14, 73]), (18, [8, 9]), (19, [8, 9]), (100016, [0, 1, 3, 11, 12])] [(6, [29]), (7, [30]), (10, [38]), (11, [38]), (12, [38]), (13, [38]), (14, [38]), (15, [38]), (16, [38]), (17, [38]), (18, [38, 75]), (19, [78]), (100016, [29, 30, 38, 75, 78])] [(100016, [38])] []
    rintro ⟨(M : Msk), (s : List Bool), (a : Int), (m : Int), ⟨⟩⟩ ⟨⟨(hM : MOk M), (hs : s.length = wid M), ⟨(ha0 : 0 ≤ a), (ha1 : a ≤ 64)⟩, (hm0 : 0 ≤ m), (hm1 : m ≤ 60)⟩, (hmn : m < _)⟩
    obtain ⟨a, rfl⟩ := Int.eq_ofNat_of_zero_le ha0
    obtain ⟨m, rfl⟩ := Int.eq_ofNat_of_zero_le hm0
    have hMl := hM.le
    have hwl := hM.w
    show awp' _ _ (Fin' _ _ (fiVal (fiM M m s a))) _ _
    rcases m with _ | m
    · have h00 : fiM M 0 s a = if s.all id then some [] else none := rfl
      (repeat' (first | with_reducible exact True.intro | with_reducible refine st_seq ?_ | (with_reducible refine st_regionG hG_ ?_; intro K_ hK_) | (with_reducible refine st_region ?_; intro K_ hK_) | (with_reducible refine hK_ _ _ ?_; try clear hK_ K_) | ((with_reducible refine st_cond (b := ?b_) ?hb_ ?_ ?_); case hb_ => rfl) | with_reducible refine sq_n ?_ | with_reducible refine sq_r ?_ | with_reducible refine sq_e ?_ | with_reducible refine bq_n ?_ | with_reducible refine bq_r ?_ | with_reducible refine bq_q ?_ | with_reducible refine st_block ?_ | with_reducible refine st_exit ?_ | with_reducible refine st_ret ?_ | with_reducible refine st_skip ?_ | with_reducible refine gq_n ?_ | with_reducible refine gq_r ?_ | with_reducible refine gq_e ?_ | with_reducible refine lq_n ?_ | with_reducible refine lq_r ?_ | with_reducible refine lq_e ?_ | with_reducible refine bq_e (by decide) ?_ | ((conv => whnf); first | (with_reducible refine hK_ _ _ ?_; try clear hK_ K_) | (with_reducible refine fun (g_ : Sl) (o_ : Ow) => ?_) | with_reducible exact True.intro | with_reducible refine And.intro trivial ?_ | with_reducible refine And.intro ?_ ?_ | exact Nat.le_of_ble_eq_true rfl | exact Or.inl rfl | (intro h_; cases h_) | (intro h_; (try simp only [cond_true, cond_false, decide_eq_true_eq, decide_eq_false_iff_not, Bool.not_eq_true', Bool.not_eq_false', Int.toNat_natCast, prodEta] at h_)) | rfl))) <;> (try (conv => whnf)) <;> (try first | change (_ : Int) ≤ _ | change (_ : Nat) ≤ _) <;> (try ((fail_if_success (with_reducible apply Exists.intro)); (try dsimp only); (try simp only [cond_true, cond_false, decide_eq_true_eq, decide_eq_false_iff_not, Bool.not_eq_true', Bool.not_eq_false', Int.toNat_natCast, prodEta]))) <;> (try simp (disch := omega) only [ptEq2, cond_true, cond_false, decide_eq_true_eq, decide_eq_false_iff_not, List.length_drop, List.take_length, Int.toNat_zero, List.drop_zero, Nat.zero_add, List.nil_append, mod_nat1, mod_nat2, tm1, tm2, tmj, W_in, Int.add_sub_cancel, tn1, tnp, tnc, List.length_append, List.length_take, List.length_replicate, List.length_set, List.length_map, List.length_cons, List.length_nil, prodEta, Int.toNat_natCast, beq_iff_eq, beq_eq_false_iff_ne, bne_iff_ne, bne_eq_false_iff_eq, ne_eq, Int.natCast_inj, Int.ofNat_lt, Int.ofNat_le] at *)
      all_goals (try (fail_if_success (with_reducible apply Exists.intro)); first | with_reducible assumption | omega | exact mdl (by omega) | exact ilo1 (by omega) | exact ilo2 (by omega) | exact ihi1 (by omega) (by omega) | exact ihi2 (by omega) (by omega))
      refine awp'_loopG (α := Nat) (fun i ver_ => [(10, vInt i)]) (fun i ver_ => []) (fun i ver_ => []) (fun i => i ≤ s.length ∧ ∀ j, j < i → s.getD j false = true) (fun i => s.length - i) [1] [] (0) ?_
      conv => whnf
      refine ⟨⟨?inv8_, ?vals8_, ?own8_, ?fix8_⟩, ?body8_⟩
      case' vals8_ => (repeat' (first | with_reducible exact True.intro | with_reducible refine And.intro ?_ ?_ | with_reducible refine Head.mk ?_ ?_ ?_ ?_ | ((conv => lhs; whnf); first | with_reducible rfl | with_reducible exact vInt_s (by omega) | exact rfl) | ((conv => whnf); first | with_reducible exact True.intro | with_reducible refine And.intro ?_ ?_))) <;> (try (conv => lhs; whnf))
      case' own8_ => (repeat' (first | with_reducible exact True.intro | with_reducible refine And.intro ?_ ?_ | with_reducible refine Head.mk ?_ ?_ ?_ ?_ | ((conv => lhs; whnf); first | with_reducible rfl | with_reducible exact vInt_s (by omega) | exact rfl) | ((conv => whnf); first | with_reducible exact True.intro | with_reducible refine And.intro ?_ ?_))) <;> (try (conv => lhs; whnf))
      case' fix8_ => (repeat' (first | with_reducible exact True.intro | with_reducible refine And.intro ?_ ?_ | with_reducible refine Head.mk ?_ ?_ ?_ ?_ | ((conv => lhs; whnf); first | with_reducible rfl | with_reducible exact vInt_s (by omega) | exact rfl) | ((conv => whnf); first | with_reducible exact True.intro | with_reducible refine And.intro ?_ ?_))) <;> (try (conv => lhs; whnf))
      · exact ⟨Nat.zero_le _, fun j hj => absurd hj (by omega)⟩
      rintro i g_ o_ v_ ⟨hi, hall⟩
      (repeat' (first | with_reducible exact True.intro | with_reducible refine st_seq ?_ | (with_reducible refine st_regionG hG_ ?_; intro K_ hK_) | (with_reducible refine st_region ?_; intro K_ hK_) | (with_reducible refine hK_ _ _ ?_; try clear hK_ K_) | ((with_reducible refine st_cond (b := ?b_) ?hb_ ?_ ?_); case hb_ => rfl) | with_reducible refine sq_n ?_ | with_reducible refine sq_r ?_ | with_reducible refine sq_e ?_ | with_reducible refine bq_n ?_ | with_reducible refine bq_r ?_ | with_reducible refine bq_q ?_ | with_reducible refine st_block ?_ | with_reducible refine st_exit ?_ | with_reducible refine st_ret ?_ | with_reducible refine st_skip ?_ | with_reducible refine gq_n ?_ | with_reducible refine gq_r ?_ | with_reducible refine gq_e ?_ | with_reducible refine lq_n ?_ | with_reducible refine lq_r ?_ | with_reducible refine lq_e ?_ | with_reducible refine bq_e (by decide) ?_ | ((conv => whnf); first | (with_reducible refine hK_ _ _ ?_; try clear hK_ K_) | (with_reducible refine fun (g_ : Sl) (o_ : Ow) => ?_) | with_reducible exact True.intro | with_reducible refine And.intro trivial ?_ | with_reducible refine And.intro ?_ ?_ | exact Nat.le_of_ble_eq_true rfl | exact Or.inl rfl | (intro h_; cases h_) | (intro h_; (try simp only [cond_true, cond_false, decide_eq_true_eq, decide_eq_false_iff_not, Bool.not_eq_true', Bool.not_eq_false', Int.toNat_natCast, prodEta] at h_)) | rfl))) <;> (try (conv => whnf)) <;> (try first | change (_ : Int) ≤ _ | change (_ : Nat) ≤ _) <;> (try ((fail_if_success (with_reducible apply Exists.intro)); (try dsimp only); (try simp only [cond_true, cond_false, decide_eq_true_eq, decide_eq_false_iff_not, Bool.not_eq_true', Bool.not_eq_false', Int.toNat_natCast, prodEta]))) <;> (try simp (disch := omega) only [ptEq2, cond_true, cond_false, decide_eq_true_eq, decide_eq_false_iff_not, List.length_drop, List.take_length, Int.toNat_zero, List.drop_zero, Nat.zero_add, List.nil_append, mod_nat1, mod_nat2, tm1, tm2, tmj, W_in, Int.add_sub_cancel, tn1, tnp, tnc, List.length_append, List.length_take, List.length_replicate, List.length_set, List.length_map, List.length_cons, List.length_nil, prodEta, Int.toNat_natCast, beq_iff_eq, beq_eq_false_iff_ne, bne_iff_ne, bne_eq_false_iff_eq, ne_eq, Int.natCast_inj, Int.ofNat_lt, Int.ofNat_le] at *)
      all_goals (try (fail_if_success (with_reducible apply Exists.intro)); first | with_reducible assumption | omega | exact mdl (by omega) | exact ilo1 (by omega) | exact ilo2 (by omega) | exact ihi1 (by omega) (by omega) | exact ihi2 (by omega) (by omega))
      · rw [h00]; split <;> rfl
      · have hb : s.getD i false = false := by assumption
        rw [h00, if_neg]
        · rfl
        · intro hc
          have := List.all_eq_true.1 hc (s.getD i false) (by rw [getD_lt _ h_]; exact List.getElem_mem _)
          rw [hb] at this; cases this
      · exact ⟨i + 1, by omega, ⟨by omega, lt_succ_all hall (by assumption)⟩, by (repeat' (first | with_reducible exact True.intro | with_reducible refine And.intro ?_ ?_ | with_reducible refine Head.mk ?_ ?_ ?_ ?_ | ((conv => lhs; whnf); first | with_reducible rfl | with_reducible exact vInt_s (by omega) | exact rfl) | ((conv => whnf); first | with_reducible exact True.intro | with_reducible refine And.intro ?_ ?_))) <;> (try (conv => lhs; whnf))⟩
      · rw [h00]; split <;> rfl
      · rw [h00, if_pos]
        · rfl
        · refine List.all_eq_true.2 fun x hx => ?_
          obtain ⟨j, hj, rfl⟩ := List.getElem_of_mem hx
          have := hall j (by omega)
          rw [getD_lt _ hj] at this
          exact this
    · have hF : fiM M (m + 1) s a = fsR (fun k => (fiM M m (orL s (M.getD k [])) (k + 1)).map ((k : Int) :: ·)) a M.length := rfl
      (repeat' (first | with_reducible exact True.intro | with_reducible refine st_seq ?_ | (with_reducible refine st_regionG hG_ ?_; intro K_ hK_) | (with_reducible refine st_region ?_; intro K_ hK_) | (with_reducible refine hK_ _ _ ?_; try clear hK_ K_) | ((with_reducible refine st_cond (b := ?b_) ?hb_ ?_ ?_); case hb_ => rfl) | with_reducible refine sq_n ?_ | with_reducible refine sq_r ?_ | with_reducible refine sq_e ?_ | with_reducible refine bq_n ?_ | with_reducible refine bq_r ?_ | with_reducible refine bq_q ?_ | with_reducible refine st_block ?_ | with_reducible refine st_exit ?_ | with_reducible refine st_ret ?_ | with_reducible refine st_skip ?_ | with_reducible refine gq_n ?_ | with_reducible refine gq_r ?_ | with_reducible refine gq_e ?_ | with_reducible refine lq_n ?_ | with_reducible refine lq_r ?_ | with_reducible refine lq_e ?_ | with_reducible refine bq_e (by decide) ?_ | ((conv => whnf); first | (with_reducible refine hK_ _ _ ?_; try clear hK_ K_) | (with_reducible refine fun (g_ : Sl) (o_ : Ow) => ?_) | with_reducible exact True.intro | with_reducible refine And.intro trivial ?_ | with_reducible refine And.intro ?_ ?_ | exact Nat.le_of_ble_eq_true rfl | exact Or.inl rfl | (intro h_; cases h_) | (intro h_; (try simp only [cond_true, cond_false, decide_eq_true_eq, decide_eq_false_iff_not, Bool.not_eq_true', Bool.not_eq_false', Int.toNat_natCast, prodEta] at h_)) | rfl))) <;> (try (conv => whnf)) <;> (try first | change (_ : Int) ≤ _ | change (_ : Nat) ≤ _) <;> (try ((fail_if_success (with_reducible apply Exists.intro)); (try dsimp only); (try simp only [cond_true, cond_false, decide_eq_true_eq, decide_eq_false_iff_not, Bool.not_eq_true', Bool.not_eq_false', Int.toNat_natCast, prodEta]))) <;> (try simp (disch := omega) only [ptEq2, cond_true, cond_false, decide_eq_true_eq, decide_eq_false_iff_not, List.length_drop, List.take_length, Int.toNat_zero, List.drop_zero, Nat.zero_add, List.nil_append, mod_nat1, mod_nat2, tm1, tm2, tmj, W_in, Int.add_sub_cancel, tn1, tnp, tnc, List.length_append, List.length_take, List.length_replicate, List.length_set, List.length_map, List.length_cons, List.length_nil, prodEta, Int.toNat_natCast, beq_iff_eq, beq_eq_false_iff_ne, bne_iff_ne, bne_eq_false_iff_eq, ne_eq, Int.natCast_inj, Int.ofNat_lt, Int.ofNat_le] at *)
      all_goals (try (fail_if_success (with_reducible apply Exists.intro)); first | with_reducible assumption | omega | exact mdl (by omega) | exact ilo1 (by omega) | exact ilo2 (by omega) | exact ihi1 (by omega) (by omega) | exact ihi2 (by omega) (by omega))
      refine awp'_loopG (α := Nat) (fun k ver_ => [(11, vInt k)]) (fun k ver_ => []) (fun k ver_ => []) (fun k => (a ≤ k ∧ k ≤ 64) ∧ fiM M (m + 1) s a = fsR (fun k => (fiM M m (orL s (M.getD k [])) (k + 1)).map ((k : Int) :: ·)) k M.length) (fun k => M.length - k) [0, 1, 3] [] (a) ?_
      conv => whnf
      refine ⟨⟨?inv9_, ?vals9_, ?own9_, ?fix9_⟩, ?body9_⟩
      case' vals9_ => (repeat' (first | with_reducible exact True.intro | with_reducible refine And.intro ?_ ?_ | with_reducible refine Head.mk ?_ ?_ ?_ ?_ | ((conv => lhs; whnf); first | with_reducible rfl | with_reducible exact vInt_s (by omega) | exact rfl) | ((conv => whnf); first | with_reducible exact True.intro | with_reducible refine And.intro ?_ ?_))) <;> (try (conv => lhs; whnf))
      case' own9_ => (repeat' (first | with_reducible exact True.intro | with_reducible refine And.intro ?_ ?_ | with_reducible refine Head.mk ?_ ?_ ?_ ?_ | ((conv => lhs; whnf); first | with_reducible rfl | with_reducible exact vInt_s (by omega) | exact rfl) | ((conv => whnf); first | with_reducible exact True.intro | with_reducible refine And.intro ?_ ?_))) <;> (try (conv => lhs; whnf))
      case' fix9_ => (repeat' (first | with_reducible exact True.intro | with_reducible refine And.intro ?_ ?_ | with_reducible refine Head.mk ?_ ?_ ?_ ?_ | ((conv => lhs; whnf); first | with_reducible rfl | with_reducible exact vInt_s (by omega) | exact rfl) | ((conv => whnf); first | with_reducible exact True.intro | with_reducible refine And.intro ?_ ?_))) <;> (try (conv => lhs; whnf))
      · exact ⟨⟨Nat.le_refl _, by omega⟩, hF⟩
      rintro k g_ o_ v_ ⟨⟨hk1, hk2⟩, hk3⟩
      (repeat' (first | with_reducible exact True.intro | with_reducible refine st_seq ?_ | (with_reducible refine st_regionG hG_ ?_; intro K_ hK_) | (with_reducible refine st_region ?_; intro K_ hK_) | (with_reducible refine hK_ _ _ ?_; try clear hK_ K_) | ((with_reducible refine st_cond (b := ?b_) ?hb_ ?_ ?_); case hb_ => rfl) | with_reducible refine sq_n ?_ | with_reducible refine sq_r ?_ | with_reducible refine sq_e ?_ | with_reducible refine bq_n ?_ | with_reducible refine bq_r ?_ | with_reducible refine bq_q ?_ | with_reducible refine st_block ?_ | with_reducible refine st_exit ?_ | with_reducible refine st_ret ?_ | with_reducible refine st_skip ?_ | with_reducible refine gq_n ?_ | with_reducible refine gq_r ?_ | with_reducible refine gq_e ?_ | with_reducible refine lq_n ?_ | with_reducible refine lq_r ?_ | with_reducible refine lq_e ?_ | with_reducible refine bq_e (by decide) ?_ | ((conv => whnf); first | (with_reducible refine hK_ _ _ ?_; try clear hK_ K_) | (with_reducible refine fun (g_ : Sl) (o_ : Ow) => ?_) | with_reducible exact True.intro | with_reducible refine And.intro trivial ?_ | with_reducible refine And.intro ?_ ?_ | exact Nat.le_of_ble_eq_true rfl | exact Or.inl rfl | (intro h_; cases h_) | (intro h_; (try simp only [cond_true, cond_false, decide_eq_true_eq, decide_eq_false_iff_not, Bool.not_eq_true', Bool.not_eq_false', Int.toNat_natCast, prodEta] at h_)) | rfl))) <;> (try (conv => whnf)) <;> (try first | change (_ : Int) ≤ _ | change (_ : Nat) ≤ _) <;> (try ((fail_if_success (with_reducible apply Exists.intro)); (try dsimp only); (try simp only [cond_true, cond_false, decide_eq_true_eq, decide_eq_false_iff_not, Bool.not_eq_true', Bool.not_eq_false', Int.toNat_natCast, prodEta]))) <;> (try simp (disch := omega) only [ptEq2, cond_true, cond_false, decide_eq_true_eq, decide_eq_false_iff_not, List.length_drop, List.take_length, Int.toNat_zero, List.drop_zero, Nat.zero_add, List.nil_append, mod_nat1, mod_nat2, tm1, tm2, tmj, W_in, Int.add_sub_cancel, tn1, tnp, tnc, List.length_append, List.length_take, List.length_replicate, List.length_set, List.length_map, List.length_cons, List.length_nil, prodEta, Int.toNat_natCast, beq_iff_eq, beq_eq_false_iff_ne, bne_iff_ne, bne_eq_false_iff_eq, ne_eq, Int.natCast_inj, Int.ofNat_lt, Int.ofNat_le] at *)
      all_goals (try (fail_if_success (with_reducible apply Exists.intro)); first | with_reducible assumption | omega | exact mdl (by omega) | exact ilo1 (by omega) | exact ilo2 (by omega) | exact ihi1 (by omega) (by omega) | exact ihi2 (by omega) (by omega))
      ·
       refine awp'_loopG (α := Nat) (fun i ver_ => [(13, vInt i)]) (fun i ver_ => [(12, 38, false, .row t_bool (.b .bool) (orTo s (M.getD k []) i))]) (fun i ver_ => []) (fun i => i ≤ s.length) (fun i => s.length - i) [0, 1, 3, 11] [] (0) ?_
       conv => whnf
       refine ⟨⟨?inv10_, ?vals10_, ?own10_, ?fix10_⟩, ?body10_⟩
       case' vals10_ => (repeat' (first | with_reducible exact True.intro | with_reducible refine And.intro ?_ ?_ | with_reducible refine Head.mk ?_ ?_ ?_ ?_ | ((conv => lhs; whnf); first | with_reducible rfl | with_reducible exact vInt_s (by omega) | exact rfl) | ((conv => whnf); first | with_reducible exact True.intro | with_reducible refine And.intro ?_ ?_))) <;> (try (conv => lhs; whnf))
       case' own10_ => (repeat' (first | with_reducible exact True.intro | with_reducible refine And.intro ?_ ?_ | with_reducible refine Head.mk ?_ ?_ ?_ ?_ | ((conv => lhs; whnf); first | with_reducible rfl | with_reducible exact vInt_s (by omega) | exact rfl) | ((conv => whnf); first | with_reducible exact True.intro | with_reducible refine And.intro ?_ ?_))) <;> (try (conv => lhs; whnf))
       case' fix10_ => (repeat' (first | with_reducible exact True.intro | with_reducible refine And.intro ?_ ?_ | with_reducible refine Head.mk ?_ ?_ ?_ ?_ | ((conv => lhs; whnf); first | with_reducible rfl | with_reducible exact vInt_s (by omega) | exact rfl) | ((conv => whnf); first | with_reducible exact True.intro | with_reducible refine And.intro ?_ ?_))) <;> (try (conv => lhs; whnf))
       · exact congrArg (Own.row t_bool (.b .bool)) (orTo_zero _ _).symm
       · exact Nat.zero_le _
       rintro i g_ o_ v_ hi
       have hol := orTo_len s (M.getD k []) i
       have hkM : k < M.length := by assumption
       have hrl : (M.getD k (ElK.s ElB.bool).dflt).length = s.length := by rw [hs]; exact hM.all k hkM
       rcases Nat.lt_or_ge i s.length with hil | hil
       · have hst := orTo_step (r := M.getD k []) hil
         generalize orTo s (M.getD k []) i = nx at *
         (repeat' (first | with_reducible exact True.intro | with_reducible refine st_seq ?_ | (with_reducible refine st_regionG hG_ ?_; intro K_ hK_) | (with_reducible refine st_region ?_; intro K_ hK_) | (with_reducible refine hK_ _ _ ?_; try clear hK_ K_) | ((with_reducible refine st_cond (b := ?b_) ?hb_ ?_ ?_); case hb_ => rfl) | with_reducible refine sq_n ?_ | with_reducible refine sq_r ?_ | with_reducible refine sq_e ?_ | with_reducible refine bq_n ?_ | with_reducible refine bq_r ?_ | with_reducible refine bq_q ?_ | with_reducible refine st_block ?_ | with_reducible refine st_exit ?_ | with_reducible refine st_ret ?_ | with_reducible refine st_skip ?_ | with_reducible refine gq_n ?_ | with_reducible refine gq_r ?_ | with_reducible refine gq_e ?_ | with_reducible refine lq_n ?_ | with_reducible refine lq_r ?_ | with_reducible refine lq_e ?_ | with_reducible refine bq_e (by decide) ?_ | ((conv => whnf); first | (with_reducible refine hK_ _ _ ?_; try clear hK_ K_) | (with_reducible refine fun (g_ : Sl) (o_ : Ow) => ?_) | with_reducible exact True.intro | with_reducible refine And.intro trivial ?_ | with_reducible refine And.intro ?_ ?_ | exact Nat.le_of_ble_eq_true rfl | exact Or.inl rfl | (intro h_; cases h_) | (intro h_; (try simp only [cond_true, cond_false, decide_eq_true_eq, decide_eq_false_iff_not, Bool.not_eq_true', Bool.not_eq_false', Int.toNat_natCast, prodEta] at h_)) | rfl))) <;> (try (conv => whnf)) <;> (try first | change (_ : Int) ≤ _ | change (_ : Nat) ≤ _) <;> (try ((fail_if_success (with_reducible apply Exists.intro)); (try dsimp only); (try simp only [cond_true, cond_false, decide_eq_true_eq, decide_eq_false_iff_not, Bool.not_eq_true', Bool.not_eq_false', Int.toNat_natCast, prodEta]))) <;> (try simp (disch := omega) only [ptEq2, cond_true, cond_false, decide_eq_true_eq, decide_eq_false_iff_not, List.length_drop, List.take_length, Int.toNat_zero, List.drop_zero, Nat.zero_add, List.nil_append, mod_nat1, mod_nat2, tm1, tm2, tmj, W_in, Int.add_sub_cancel, tn1, tnp, tnc, List.length_append, List.length_take, List.length_replicate, List.length_set, List.length_map, List.length_cons, List.length_nil, prodEta, Int.toNat_natCast, beq_iff_eq, beq_eq_false_iff_ne, bne_iff_ne, bne_eq_false_iff_eq, ne_eq, Int.natCast_inj, Int.ofNat_lt, Int.ofNat_le] at *)
         all_goals (try (fail_if_success (with_reducible apply Exists.intro)); first | with_reducible assumption | omega | exact mdl (by omega) | exact ilo1 (by omega) | exact ilo2 (by omega) | exact ihi1 (by omega) (by omega) | exact ihi2 (by omega) (by omega))
         · refine ⟨i + 1, by omega, by omega, ?_⟩
           (repeat' (first | with_reducible exact True.intro | with_reducible refine And.intro ?_ ?_ | with_reducible refine Head.mk ?_ ?_ ?_ ?_ | ((conv => lhs; whnf); first | with_reducible rfl | with_reducible exact vInt_s (by omega) | exact rfl) | ((conv => whnf); first | with_reducible exact True.intro | with_reducible refine And.intro ?_ ?_))) <;> (try (conv => lhs; whnf))
           refine congrArg (Own.row t_bool (.b .bool)) (Eq.trans ?_ hst)
           rw [show nx.getD i false = true from by assumption]; rfl
         · refine ⟨i + 1, by omega, by omega, ?_⟩
           (repeat' (first | with_reducible exact True.intro | with_reducible refine And.intro ?_ ?_ | with_reducible refine Head.mk ?_ ?_ ?_ ?_ | ((conv => lhs; whnf); first | with_reducible rfl | with_reducible exact vInt_s (by omega) | exact rfl) | ((conv => whnf); first | with_reducible exact True.intro | with_reducible refine And.intro ?_ ?_))) <;> (try (conv => lhs; whnf))
           refine congrArg (Own.row t_bool (.b .bool)) (Eq.trans ?_ hst)
           rw [show nx.getD i false = false from by assumption]; rfl
         all_goals (exfalso; omega)
       · have hfl : orTo s (M.getD k []) i = orL s (M.getD k []) := by rw [show i = s.length by omega]; exact orTo_full _ _
         rw [hfl] at hol ⊢
         have hfo : ∀ z : Int, z = m → FiOk M (orL s (M.getD k [])) (k + 1) z := fun z hz => ⟨hM, by rw [hol, hs], ⟨by omega, by omega⟩, by omega, by omega⟩
         generalize hnx : orL s (M.getD k []) = nx at hol hfo ⊢
         have key : ∀ {b : Bool}, (fiM M m nx (k + 1)).isSome = b → (b = true ∧ ∃ r, fiM M m nx (k + 1) = some r ∧ r.length = m ∧ fiM M (m + 1) s a = some ((k : Int) :: r)) ∨ (b = false ∧ fiM M m nx (k + 1) = none ∧ fiM M (m + 1) s a = fsR (fun k => (fiM M m (orL s (M.getD k [])) (k + 1)).map ((k : Int) :: ·)) (k + 1) M.length) := fun {b} hb => by
           cases hf : fiM M m nx (k + 1) with
           | none => rw [hf] at hb; exact .inr ⟨hb.symm, rfl, hk3.trans (fsR_no hkM (by show (fiM M m (orL s (M.getD k [])) (k + 1)).map _ = none; rw [hnx, hf]; rfl))⟩
           | some r => rw [hf] at hb; exact .inl ⟨hb.symm, r, rfl, fi_len _ _ _ _ _ hf, hk3.trans (fsR_yes hkM (by show (fiM M m (orL s (M.getD k [])) (k + 1)).map _ = _; rw [hnx, hf]; rfl))⟩
         (repeat' (first | with_reducible exact True.intro | with_reducible refine st_seq ?_ | (with_reducible refine st_regionG hG_ ?_; intro K_ hK_) | (with_reducible refine st_region ?_; intro K_ hK_) | (with_reducible refine hK_ _ _ ?_; try clear hK_ K_) | ((with_reducible refine st_cond (b := ?b_) ?hb_ ?_ ?_); case hb_ => rfl) | with_reducible refine sq_n ?_ | with_reducible refine sq_r ?_ | with_reducible refine sq_e ?_ | with_reducible refine bq_n ?_ | with_reducible refine bq_r ?_ | with_reducible refine bq_q ?_ | with_reducible refine st_block ?_ | with_reducible refine st_exit ?_ | with_reducible refine st_ret ?_ | with_reducible refine st_skip ?_ | with_reducible refine gq_n ?_ | with_reducible refine gq_r ?_ | with_reducible refine gq_e ?_ | with_reducible refine lq_n ?_ | with_reducible refine lq_r ?_ | with_reducible refine lq_e ?_ | with_reducible refine bq_e (by decide) ?_ | ((conv => whnf); first | (with_reducible refine hK_ _ _ ?_; try clear hK_ K_) | (with_reducible refine fun (g_ : Sl) (o_ : Ow) => ?_) | with_reducible exact True.intro | with_reducible refine And.intro trivial ?_ | with_reducible refine And.intro ?_ ?_ | exact Nat.le_of_ble_eq_true rfl | exact Or.inl rfl | (intro h_; cases h_) | (intro h_; (try simp only [cond_true, cond_false, decide_eq_true_eq, decide_eq_false_iff_not, Bool.not_eq_true', Bool.not_eq_false', Int.toNat_natCast, prodEta] at h_)) | rfl))) <;> (try (conv => whnf)) <;> (try first | change (_ : Int) ≤ _ | change (_ : Nat) ≤ _) <;> (try ((fail_if_success (with_reducible apply Exists.intro)); (try dsimp only); (try simp only [cond_true, cond_false, decide_eq_true_eq, decide_eq_false_iff_not, Bool.not_eq_true', Bool.not_eq_false', Int.toNat_natCast, prodEta]))) <;> (try simp (disch := omega) only [ptEq2, cond_true, cond_false, decide_eq_true_eq, decide_eq_false_iff_not, List.length_drop, List.take_length, Int.toNat_zero, List.drop_zero, Nat.zero_add, List.nil_append, mod_nat1, mod_nat2, tm1, tm2, tmj, W_in, Int.add_sub_cancel, tn1, tnp, tnc, List.length_append, List.length_take, List.length_replicate, List.length_set, List.length_map, List.length_cons, List.length_nil, prodEta, Int.toNat_natCast, beq_iff_eq, beq_eq_false_iff_ne, bne_iff_ne, bne_eq_false_iff_eq, ne_eq, Int.natCast_inj, Int.ofNat_lt, Int.ofNat_le] at *)
         all_goals (try (fail_if_success (with_reducible apply Exists.intro)); first | with_reducible assumption | omega | exact mdl (by omega) | exact ilo1 (by omega) | exact ilo2 (by omega) | exact ihi1 (by omega) (by omega) | exact ihi2 (by omega) (by omega))
         · exfalso; omega
         · exfalso; omega
         · exact hfo _ (by omega)
         · have h8 : (fiM M m nx (k + 1)).isSome = true := h_
           rcases key h8 with ⟨-, r, e1, e2, e3⟩ | ⟨e1, -⟩
           · show 1 + ((fiM M m nx (k + 1)).getD []).length ≤ _
             rw [e1]; show 1 + r.length ≤ _; omega
           · cases e1
         · have h8 : (fiM M m nx (k + 1)).isSome = true := h_
           rcases key h8 with ⟨-, r, e1, e2, e3⟩ | ⟨e1, -⟩
           · refine congrArg some ?_
             show [(k : Int)] ++ (fiM M m nx (k + 1)).getD [] = _
             rw [e1, e3]; rfl
           · cases e1
         · have h8 : (fiM M m nx (k + 1)).isSome = true := h_
           rcases key h8 with ⟨-, r, e1, e2, e3⟩ | ⟨e1, -⟩
           · rw [e3]; rfl
           · cases e1
         · have h8 : (fiM M m nx (k + 1)).isSome = false := h_
           rcases key h8 with ⟨e1, -⟩ | ⟨-, e1, e2⟩
           · cases e1
           · exact ⟨k + 1, by omega, ⟨⟨by omega, by omega⟩, e2⟩, by (repeat' (first | with_reducible exact True.intro | with_reducible refine And.intro ?_ ?_ | with_reducible refine Head.mk ?_ ?_ ?_ ?_ | ((conv => lhs; whnf); first | with_reducible rfl | with_reducible exact vInt_s (by omega) | exact rfl) | ((conv => whnf); first | with_reducible exact True.intro | with_reducible refine And.intro ?_ ?_))) <;> (try (conv => lhs; whnf))⟩
      · rw [hk3, fsR_end (by omega)]; rfl
      · rw [hk3, fsR_end (by omega)]; rfl
theorem l14Find_ok : Good1 Try.prog n_spec_l14Find findC := by
  exact Good1.imp (fi_all 65) fun x h => ⟨⟨h, by
    obtain ⟨-, -, -, -, h4⟩ := h.ok
    exact Int.lt_of_le_of_lt h4 (by decide)⟩, rfl⟩
theorem sFewest_ok : Good1 Try.prog n_spec_FewestCorners sfewC := by
  refine good_ofG (tys := tyL) (env := [(n_spec_RoomOk, roomOkC), (n_spec_FloorPoints, floorTC), (n_spec_l14Masks, lmC), (n_spec_l14Find, findC)]) (envw := []) [13, 29, 40] [] [] [29, 40] mixed tys ⟨sRoomOk_ok, floorPoints_ok, l14Masks_ok, l14Find_ok, trivial⟩ trivial Try.func39 rfl (by kernel_rfl) (by decide) (by kernel_rfl) ?_
  have hG_ := kpz [(0, [1]), (1, [1, 12]), (2, [2]), (3, [1, 3]), (4, [3, 4]), (5, [3, 4, 5]), (6, [3, 4, 5, 22]), (7, [3, 4, 5]), (8, [3, 4, 5, 6, 7]), (9, [3, 4, 5, 6, 34]), (10, [2]), (11, [8]), (12, [2])] [(2, [13]), (7, [29]), (8, [29]), (9, [29]), (10, [29]), (11, [40]), (12, [40])] [] []
  rintro ⟨(xs : List Pt), ⟨⟩⟩ (h1 : xs.length ≤ _)
  (repeat' (first | with_reducible exact True.intro | with_reducible refine st_seq ?_ | (with_reducible refine st_regionG hG_ ?_; intro K_ hK_) | (with_reducible refine st_region ?_; intro K_ hK_) | (with_reducible refine hK_ _ _ ?_; try clear hK_ K_) | ((with_reducible refine st_cond (b := ?b_) ?hb_ ?_ ?_); case hb_ => rfl) | with_reducible refine sq_n ?_ | with_reducible refine sq_r ?_ | with_reducible refine sq_e ?_ | with_reducible refine bq_n ?_ | with_reducible refine bq_r ?_ | with_reducible refine bq_q ?_ | with_reducible refine st_block ?_ | with_reducible refine st_exit ?_ | with_reducible refine st_ret ?_ | with_reducible refine st_skip ?_ | with_reducible refine gq_n ?_ | with_reducible refine gq_r ?_ | with_reducible refine gq_e ?_ | with_reducible refine lq_n ?_ | with_reducible refine lq_r ?_ | with_reducible refine lq_e ?_ | with_reducible refine bq_e (by decide) ?_ | ((conv => whnf); first | (with_reducible refine hK_ _ _ ?_; try clear hK_ K_) | (with_reducible refine fun (g_ : Sl) (o_ : Ow) => ?_) | with_reducible exact True.intro | with_reducible refine And.intro trivial ?_ | with_reducible refine And.intro ?_ ?_ | exact Nat.le_of_ble_eq_true rfl | exact Or.inl rfl | (intro h_; cases h_) | (intro h_; (try simp only [cond_true, cond_false, decide_eq_true_eq, decide_eq_false_iff_not, Bool.not_eq_true', Bool.not_eq_false', Int.toNat_natCast, prodEta] at h_)) | rfl))) <;> (try (conv => whnf)) <;> (try first | change (_ : Int) ≤ _ | change (_ : Nat) ≤ _) <;> (try ((fail_if_success (with_reducible apply Exists.intro)); (try dsimp only); (try simp only [cond_true, cond_false, decide_eq_true_eq, decide_eq_false_iff_not, Bool.not_eq_true', Bool.not_eq_false', Int.toNat_natCast, prodEta]))) <;> (try simp (disch := omega) only [ptEq2, cond_true, cond_false, decide_eq_true_eq, decide_eq_false_iff_not, List.length_drop, List.take_length, Int.toNat_zero, List.drop_zero, Nat.zero_add, List.nil_append, mod_nat1, mod_nat2, tm1, tm2, tmj, W_in, Int.add_sub_cancel, tn1, tnp, tnc, List.length_append, List.length_take, List.length_replicate, List.length_set, List.length_map, List.length_cons, List.length_nil, prodEta, Int.toNat_natCast, beq_iff_eq, beq_eq_false_iff_ne, bne_iff_ne, bne_eq_false_iff_eq, ne_eq, Int.natCast_inj, Int.ofNat_lt, Int.ofNat_le] at *)
  all_goals (try (fail_if_success (with_reducible apply Exists.intro)); first | with_reducible assumption | omega | exact mdl (by omega) | exact ilo1 (by omega) | exact ilo2 (by omega) | exact ihi1 (by omega) (by omega) | exact ihi2 (by omega) (by omega))
  · exact congrArg some (few_bad h_).symm
  · exact (room_len h_).2
  · exact floor_le h_
  have hr : roomOk xs = true := h_
  have hxl := room_len hr
  have hmo := masks_ok hr
  have hMl := masks_len xs
  have hfw := few_ok hr
  have hwd : wid (masksM xs) = (floorPts xs).length := by
    show ((masksM xs).getD 0 []).length = _
    rw [masks_get (by omega), mask_yes hr (by omega), List.length_map]
  have hfl := floor_le hr
  rw [masksN_eq hr]
  have hfo : fewO (masksM xs) = (fsR (fun n => fiM (masksM xs) n (noS (masksM xs)) 0) 1 (masksM xs).length).or (fiM (masksM xs) (masksM xs).length (noS (masksM xs)) 0) := few_last (by omega)
  generalize masksM xs = M at *
  have hno : List.replicate (floorPts xs).length false = noS M := by unfold noS; rw [hwd]
  have hnl : (noS M).length = wid M := by unfold noS; simp
  have hpre : ∀ z : Int, 0 ≤ z → z ≤ 60 → FiOk M (noS M) 0 z := fun z h2 h3 => ⟨hmo, hnl, ⟨by omega, by omega⟩, h2, h3⟩
  refine awp'_loopG (α := Nat) (fun n ver_ => [(5, vInt n)]) (fun n ver_ => []) (fun n ver_ => []) (fun n => (1 ≤ n ∧ n ≤ M.length) ∧ fsR (fun n => fiM M n (noS M) 0) 1 M.length = fsR (fun n => fiM M n (noS M) 0) n M.length) (fun n => M.length - n) [3, 4] [] (1) ?_
  conv => whnf
  refine ⟨⟨?inv11_, ?vals11_, ?own11_, ?fix11_⟩, ?body11_⟩
  case' vals11_ => (repeat' (first | with_reducible exact True.intro | with_reducible refine And.intro ?_ ?_ | with_reducible refine Head.mk ?_ ?_ ?_ ?_ | ((conv => lhs; whnf); first | with_reducible rfl | with_reducible exact vInt_s (by omega) | exact rfl) | ((conv => whnf); first | with_reducible exact True.intro | with_reducible refine And.intro ?_ ?_))) <;> (try (conv => lhs; whnf))
  case' own11_ => (repeat' (first | with_reducible exact True.intro | with_reducible refine And.intro ?_ ?_ | with_reducible refine Head.mk ?_ ?_ ?_ ?_ | ((conv => lhs; whnf); first | with_reducible rfl | with_reducible exact vInt_s (by omega) | exact rfl) | ((conv => whnf); first | with_reducible exact True.intro | with_reducible refine And.intro ?_ ?_))) <;> (try (conv => lhs; whnf))
  case' fix11_ => (repeat' (first | with_reducible exact True.intro | with_reducible refine And.intro ?_ ?_ | with_reducible refine Head.mk ?_ ?_ ?_ ?_ | ((conv => lhs; whnf); first | with_reducible rfl | with_reducible exact vInt_s (by omega) | exact rfl) | ((conv => whnf); first | with_reducible exact True.intro | with_reducible refine And.intro ?_ ?_))) <;> (try (conv => lhs; whnf))
  · exact ⟨⟨Nat.le_refl _, by omega⟩, rfl⟩
  rintro n g_ o_ v_ ⟨⟨hn1, hn2⟩, hn3⟩
  have key : ∀ {b : Bool}, n < M.length → (fiM M n (noS M) 0).isSome = b → (b = true ∧ (fiM M n (noS M) 0).getD [] = fewM xs) ∨ (b = false ∧ fsR (fun n => fiM M n (noS M) 0) 1 M.length = fsR (fun n => fiM M n (noS M) 0) (n + 1) M.length) := fun {b} hl hb => by
    cases hf : fiM M n (noS M) 0 with
    | none => rw [hf] at hb; exact .inr ⟨hb.symm, hn3.trans (fsR_no hl hf)⟩
    | some r => rw [hf] at hb; exact .inl ⟨hb.symm, by rw [hfw, hfo, hn3, fsR_yes hl hf]; rfl⟩
  have kend : M.length ≤ n → (fiM M M.length (noS M) 0).getD [] = fewM xs := fun h => by
    rw [hfw, hfo, hn3, fsR_end h]; rfl
  rw [← hno] at key kend hpre
  (repeat' (first | with_reducible exact True.intro | with_reducible refine st_seq ?_ | (with_reducible refine st_regionG hG_ ?_; intro K_ hK_) | (with_reducible refine st_region ?_; intro K_ hK_) | (with_reducible refine hK_ _ _ ?_; try clear hK_ K_) | ((with_reducible refine st_cond (b := ?b_) ?hb_ ?_ ?_); case hb_ => rfl) | with_reducible refine sq_n ?_ | with_reducible refine sq_r ?_ | with_reducible refine sq_e ?_ | with_reducible refine bq_n ?_ | with_reducible refine bq_r ?_ | with_reducible refine bq_q ?_ | with_reducible refine st_block ?_ | with_reducible refine st_exit ?_ | with_reducible refine st_ret ?_ | with_reducible refine st_skip ?_ | with_reducible refine gq_n ?_ | with_reducible refine gq_r ?_ | with_reducible refine gq_e ?_ | with_reducible refine lq_n ?_ | with_reducible refine lq_r ?_ | with_reducible refine lq_e ?_ | with_reducible refine bq_e (by decide) ?_ | ((conv => whnf); first | (with_reducible refine hK_ _ _ ?_; try clear hK_ K_) | (with_reducible refine fun (g_ : Sl) (o_ : Ow) => ?_) | with_reducible exact True.intro | with_reducible refine And.intro trivial ?_ | with_reducible refine And.intro ?_ ?_ | exact Nat.le_of_ble_eq_true rfl | exact Or.inl rfl | (intro h_; cases h_) | (intro h_; (try simp only [cond_true, cond_false, decide_eq_true_eq, decide_eq_false_iff_not, Bool.not_eq_true', Bool.not_eq_false', Int.toNat_natCast, prodEta] at h_)) | rfl))) <;> (try (conv => whnf)) <;> (try first | change (_ : Int) ≤ _ | change (_ : Nat) ≤ _) <;> (try ((fail_if_success (with_reducible apply Exists.intro)); (try dsimp only); (try simp only [cond_true, cond_false, decide_eq_true_eq, decide_eq_false_iff_not, Bool.not_eq_true', Bool.not_eq_false', Int.toNat_natCast, prodEta]))) <;> (try simp (disch := omega) only [ptEq2, cond_true, cond_false, decide_eq_true_eq, decide_eq_false_iff_not, List.length_drop, List.take_length, Int.toNat_zero, List.drop_zero, Nat.zero_add, List.nil_append, mod_nat1, mod_nat2, tm1, tm2, tmj, W_in, Int.add_sub_cancel, tn1, tnp, tnc, List.length_append, List.length_take, List.length_replicate, List.length_set, List.length_map, List.length_cons, List.length_nil, prodEta, Int.toNat_natCast, beq_iff_eq, beq_eq_false_iff_ne, bne_iff_ne, bne_eq_false_iff_eq, ne_eq, Int.natCast_inj, Int.ofNat_lt, Int.ofNat_le] at *)
  all_goals (try (fail_if_success (with_reducible apply Exists.intro)); first | with_reducible assumption | omega | exact mdl (by omega) | exact ilo1 (by omega) | exact ilo2 (by omega) | exact ihi1 (by omega) (by omega) | exact ihi2 (by omega) (by omega))
  · exact hpre _ (by omega) (by omega)
  · rcases key (by assumption) (by assumption) with ⟨-, e⟩ | ⟨e, -⟩
    · exact congrArg some e
    · cases e
  · rcases key (by assumption) (by assumption) with ⟨e, -⟩ | ⟨-, e⟩
    · cases e
    · exact ⟨n + 1, by omega, ⟨⟨by omega, by omega⟩, by rw [← hno]; exact e⟩, by (repeat' (first | with_reducible exact True.intro | with_reducible refine And.intro ?_ ?_ | with_reducible refine Head.mk ?_ ?_ ?_ ?_ | ((conv => lhs; whnf); first | with_reducible rfl | with_reducible exact vInt_s (by omega) | exact rfl) | ((conv => whnf); first | with_reducible exact True.intro | with_reducible refine And.intro ?_ ?_))) <;> (try (conv => lhs; whnf))⟩
  · exact hpre _ (by omega) (by omega)
  · exact congrArg some (kend (by omega))
theorem sCount_ok : Good1 Try.prog n_spec_CountGuards cntC := by
  refine good_ofG (tys := tyL) (env := [(n_spec_FewestCorners, sfewC)]) (envw := []) [] [] [] [] mixed tys ⟨sFewest_ok, trivial⟩ trivial Try.func30 rfl (by kernel_rfl) (by decide) (by kernel_rfl) ?_
  have hG_ := kpz [(0, [1]), (1, [2])] [] [] []
  rintro ⟨(xs : List Pt), ⟨⟩⟩ (h1 : xs.length ≤ _)
  (repeat' (first | with_reducible exact True.intro | with_reducible refine st_seq ?_ | (with_reducible refine st_regionG hG_ ?_; intro K_ hK_) | (with_reducible refine st_region ?_; intro K_ hK_) | (with_reducible refine hK_ _ _ ?_; try clear hK_ K_) | ((with_reducible refine st_cond (b := ?b_) ?hb_ ?_ ?_); case hb_ => rfl) | with_reducible refine sq_n ?_ | with_reducible refine sq_r ?_ | with_reducible refine sq_e ?_ | with_reducible refine bq_n ?_ | with_reducible refine bq_r ?_ | with_reducible refine bq_q ?_ | with_reducible refine st_block ?_ | with_reducible refine st_exit ?_ | with_reducible refine st_ret ?_ | with_reducible refine st_skip ?_ | with_reducible refine gq_n ?_ | with_reducible refine gq_r ?_ | with_reducible refine gq_e ?_ | with_reducible refine lq_n ?_ | with_reducible refine lq_r ?_ | with_reducible refine lq_e ?_ | with_reducible refine bq_e (by decide) ?_ | ((conv => whnf); first | (with_reducible refine hK_ _ _ ?_; try clear hK_ K_) | (with_reducible refine fun (g_ : Sl) (o_ : Ow) => ?_) | with_reducible exact True.intro | with_reducible refine And.intro trivial ?_ | with_reducible refine And.intro ?_ ?_ | exact Nat.le_of_ble_eq_true rfl | exact Or.inl rfl | (intro h_; cases h_) | (intro h_; (try simp only [cond_true, cond_false, decide_eq_true_eq, decide_eq_false_iff_not, Bool.not_eq_true', Bool.not_eq_false', Int.toNat_natCast, prodEta] at h_)) | rfl))) <;> (try (conv => whnf)) <;> (try first | change (_ : Int) ≤ _ | change (_ : Nat) ≤ _) <;> (try ((fail_if_success (with_reducible apply Exists.intro)); (try dsimp only); (try simp only [cond_true, cond_false, decide_eq_true_eq, decide_eq_false_iff_not, Bool.not_eq_true', Bool.not_eq_false', Int.toNat_natCast, prodEta])))
  all_goals (try (fail_if_success (with_reducible apply Exists.intro)); first | with_reducible assumption | omega | exact mdl (by omega) | exact ilo1 (by omega) | exact ilo2 (by omega) | exact ihi1 (by omega) (by omega) | exact ihi2 (by omega) (by omega))
theorem fnExactCountGuards_ok : Good1 Try.prog n_laws_FnExactCountGuards (lawCon [.room]) := by
  refine good_ofG (tys := tyL) (env := [(n_laws_szRoom, szRC), (n_laws_toRoom, toRoomC), (n_spec_CountGuards, cntC), (n_impl_CountGuards, cntC), (n_laws_eqRoom, eqRC)]) (envw := []) [] [] [] [] mixed tys ⟨szRoom_ok, toRoom_ok, sCount_ok, iCount_ok, eqRoom_ok, trivial⟩ trivial Try.func7 rfl (by kernel_rfl) (by decide) (by kernel_rfl) ?_
  have hG_ := kpz [(0, [1]), (1, [1, 3]), (2, [1, 3]), (3, [1, 11]), (4, [2]), (5, [1, 4]), (6, [1, 4, 5]), (7, [1, 4, 5, 6]), (8, [1, 5, 21]), (9, [2]), (10, [26]), (11, [2]), (12, [2])] [(6, [5]), (7, [5]), (8, [5])] [] []
  rintro ⟨(xs : List Pt), ⟨⟩⟩ ⟨(h1 : xs.length ≤ _), -⟩
  (repeat' (first | with_reducible exact True.intro | with_reducible refine st_seq ?_ | (with_reducible refine st_regionG hG_ ?_; intro K_ hK_) | (with_reducible refine st_region ?_; intro K_ hK_) | (with_reducible refine hK_ _ _ ?_; try clear hK_ K_) | ((with_reducible refine st_cond (b := ?b_) ?hb_ ?_ ?_); case hb_ => rfl) | with_reducible refine sq_n ?_ | with_reducible refine sq_r ?_ | with_reducible refine sq_e ?_ | with_reducible refine bq_n ?_ | with_reducible refine bq_r ?_ | with_reducible refine bq_q ?_ | with_reducible refine st_block ?_ | with_reducible refine st_exit ?_ | with_reducible refine st_ret ?_ | with_reducible refine st_skip ?_ | with_reducible refine gq_n ?_ | with_reducible refine gq_r ?_ | with_reducible refine gq_e ?_ | with_reducible refine lq_n ?_ | with_reducible refine lq_r ?_ | with_reducible refine lq_e ?_ | with_reducible refine bq_e (by decide) ?_ | ((conv => whnf); first | (with_reducible refine hK_ _ _ ?_; try clear hK_ K_) | (with_reducible refine fun (g_ : Sl) (o_ : Ow) => ?_) | with_reducible exact True.intro | with_reducible refine And.intro trivial ?_ | with_reducible refine And.intro ?_ ?_ | exact Nat.le_of_ble_eq_true rfl | exact Or.inl rfl | (intro h_; cases h_) | (intro h_; (try simp only [cond_true, cond_false, decide_eq_true_eq, decide_eq_false_iff_not, Bool.not_eq_true', Bool.not_eq_false', Int.toNat_natCast, prodEta] at h_)) | rfl))) <;> (try (conv => whnf)) <;> (try first | change (_ : Int) ≤ _ | change (_ : Nat) ≤ _) <;> (try ((fail_if_success (with_reducible apply Exists.intro)); (try dsimp only); (try simp only [cond_true, cond_false, decide_eq_true_eq, decide_eq_false_iff_not, Bool.not_eq_true', Bool.not_eq_false', Int.toNat_natCast, prodEta])))
  all_goals (try (fail_if_success (with_reducible apply Exists.intro)); first | with_reducible assumption | omega | exact mdl (by omega) | exact ilo1 (by omega) | exact ilo2 (by omega) | exact ihi1 (by omega) (by omega) | exact ihi2 (by omega) (by omega))
  all_goals ((try simp only [szF_neg1, szF_neg2, szF_nn, szF_hi1, bne_self_eq_false, beq_self_eq_true, Bool.true_eq_false, decide_true, Bool.not_true, List.length_map, not_true_eq_false, Bool.false_eq_true, reduceCtorEq, not_false_eq_true] at *); (try omega))
end Go.Proofs.Ytapnjichedljbaa
