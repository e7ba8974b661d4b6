/- What the proof of 'FnWitnesses' needs, part 5: conditions and steps of the functions that it reaches, and the mathematics. -/
import Derived.Test.YtnepfcnlngpchaaRows
import Derived.WalkKit
import Derived.WalkSpells
import Derived.Below
import Derived.Orders
import Derived.Maps.AppendAt
import Derived.Laws.StructEq
import Derived.WideShapes
import Derived.ChangeSlices
import Derived.Deep.Strs
import Derived.ChangeOld
import Derived.Shelf.SlLaysF0
import Derived.Shelf.SlSortCmp.InsertionK
import Derived.Shelf.SlSortCmp.SmallK
import Derived.Shelf.SlSortCmp.Xorshift
import Derived.Sort.LotA
import Derived.Test.YtnepfcnlngpchaaSFnWitnesses4
set_option linter.unusedSimpArgs false
set_option linter.unusedVariables false
namespace Go.Proofs.Ytnepfcnlngpchaa
open Go.RowKit Go.Proofs.Ytnepfcnlngpchaa.Nm
set_option maxRecDepth 10000
set_option maxHeartbeats 4000000
def fsN {α : Type} (f : Nat → Option α) : Nat → Nat → Option α
  | 0, _ => none
  | n + 1, a => match f a with
    | some r => some r
    | none => fsN f n (a + 1)
def fsR {α : Type} (f : Nat → Option α) (a b : Nat) : Option α := fsN f (b - a) a
theorem fsR_end {α : Type} {f : Nat → Option α} {a b : Nat} (h : b ≤ a) : fsR f a b = none := by unfold fsR; rw [show b - a = 0 by omega]; rfl
theorem fsR_yes {α : Type} {f : Nat → Option α} {a b : Nat} {r : α} (h : a < b) (hf : f a = some r) : fsR f a b = some r := by
  unfold fsR; rw [show b - a = (b - (a + 1)) + 1 by omega, fsN, hf]
theorem fsR_no {α : Type} {f : Nat → Option α} {a b : Nat} (h : a < b) (hf : f a = none) : fsR f a b = fsR f (a + 1) b := by
  unfold fsR; rw [show b - a = (b - (a + 1)) + 1 by omega, fsN, hf]
theorem fsN_all {α : Type} {f : Nat → Option α} {Q : α → Prop} (h : ∀ k r, f k = some r → Q r) : ∀ n a r, fsN f n a = some r → Q r
  | 0, a, r, e => by cases e
  | n + 1, a, r, e => by
    rw [fsN] at e
    cases hf : f a with
    | some r' => rw [hf] at e; exact h a r (hf.trans e)
    | none => rw [hf] at e; exact fsN_all h n (a + 1) r e
abbrev Msk := List (List Bool)
def seenOf (M : Msk) (l : List Int) (i : Nat) : Bool := l.any fun k => (M.getD k.toNat []).getD i false
def wid (M : Msk) : Nat := (M.getD 0 []).length
def covM (M : Msk) (l : List Int) : Bool := (List.range (wid M)).all (seenOf M l)
def chM (M : Msk) : Nat → List Int → Nat → Option (List Int)
  | 0, l, _ => if covM M l then some l else none
  | m + 1, l, a => fsR (fun k => chM M m (l ++ [(k : Int)]) (k + 1)) a M.length
theorem ch_len (M : Msk) : ∀ m l a r, chM M m l a = some r → r.length = l.length + m
  | 0, l, a, r, h => by
    rw [chM] at h
    split at h
    · injection h with h; rw [← h]; rfl
    · cases h
  | m + 1, l, a, r, h => by
    rw [chM] at h
    refine fsN_all (Q := fun r => r.length = l.length + (m + 1)) (fun k r hr => ?_) _ _ r h
    have := ch_len M m _ _ r hr
    rw [List.length_append, List.length_singleton] at this
    omega
def masksM (xs : List Pt) : Msk := (List.range xs.length).map fun k : Nat => maskM xs k
def fewO (M : Msk) : Option (List Int) := fsR (fun n => chM M n [] 0) 1 (M.length + 1)
def fewM (xs : List Pt) : List Int := if roomOk xs then (fewO (masksM xs)).getD [] else []
structure MOk (M : Msk) : Prop where
  pos : 0 < M.length
  le : M.length ≤ 64
  all : ∀ k, k < M.length → (M.getD k []).length = wid M
  w : wid M ≤ 1048576
structure LOk (M : Msk) (l : List Int) : Prop where
  le : l.length ≤ 64
  at_ : ∀ j, j < l.length → 0 ≤ l.getD j 0 ∧ l.getD j 0 < M.length
theorem LOk.app {M : Msk} {l : List Int} {k : Nat} (h : LOk M l) (hl : l.length < 64) (hk : k < M.length) : LOk M (l ++ [(k : Int)]) := by
  refine ⟨by rw [List.length_append, List.length_singleton]; omega, fun j hj => ?_⟩
  rw [List.length_append, List.length_singleton] at hj
  rw [List.getD_eq_getElem?_getD]
  rcases Nat.lt_or_ge j l.length with h1 | h1
  · rw [List.getElem?_append_left h1, ← List.getD_eq_getElem?_getD]
    exact h.at_ j h1
  · rw [List.getElem?_append_right h1, show j - l.length = 0 by omega]
    simp only [List.getElem?_cons_zero, Option.getD_some]
    omega
def seenTo (M : Msk) (l : List Int) (i k : Nat) : Bool := (l.take k).any fun x => (M.getD x.toNat []).getD i false
theorem seenTo_succ {M : Msk} {l : List Int} {i k : Nat} (h : k < l.length) : seenTo M l i (k + 1) = (seenTo M l i k || (M.getD (l.getD k 0).toNat []).getD i false) := by
  unfold seenTo
  rw [List.take_succ_eq_append_getElem h, List.any_append, show l.getD k 0 = l[k] from getD_lt _ h]
  simp
theorem seenTo_full (M : Msk) (l : List Int) (i : Nat) : seenTo M l i l.length = seenOf M l i := by unfold seenTo seenOf; rw [List.take_length]
def covC : Con := mkCon [.sl (.s .bool), .sl (.b .int)] (fun x => MOk x.1 ∧ LOk x.1 x.2.1) fun x => vB (covM x.1 x.2.1)
theorem covers_ok : Good1 Try.prog n_impl_covers covC := by
  refine good_ofG (tys := tyL) (env := []) (envw := []) (envd := []) [] [] [] [] [] mixed tys trivial trivial trivial Try.func120 rfl (by kernel_rfl) (by decide) (by kernel_rfl) ?_
  have hG_ := kpz [(0, [0, 1]), (1, [0, 1, 12, 13]), (2, [0, 1, 12, 13, 14]), (3, [0, 1, 5, 12, 13]), (4, [0, 1, 5, 6, 12, 13]), (5, [0, 1, 5, 6, 12, 13, 16, 17, 18]), (6, [0, 1, 5, 6, 12, 13, 16, 17, 18, 19]), (7, [0, 1, 5, 6, 8, 12, 13, 16, 17, 18]), (8, [0, 1, 5, 6, 12, 13, 16, 17, 18]), (9, [0, 1, 5, 6, 12, 13, 16, 17, 18]), (10, [0, 1, 12, 13, 34]), (11, [4]), (12, [0, 1, 12, 13]), (13, [4])] [] [] []
  rintro ⟨(M : Msk), (l : List Int), ⟨⟩⟩ ⟨(hM : MOk M), (hL : LOk M l)⟩
  have m1 := hM.pos
  have m2 := hM.le
  have m4 := hM.w
  have l1 := hL.le
  have hw0 : (M.getD 0 (ElK.s ElB.bool).dflt).length = wid M := rfl
  (repeat' (first | (with_reducible first | exact True.intro | refine zQ ?_ | (refine zG hG_ ?_; intro K_ hK_) | (refine zR ?_; intro K_ hK_) | (refine hK_ _ _ ?_; try clear hK_ K_) | refine sq_n ?_ | refine sq_r ?_ | refine sq_e ?_ | refine bq_n ?_ | refine bq_r ?_ | refine bq_q ?_ | refine zB ?_ | refine zX ?_ | refine zT ?_ | refine zK ?_ | refine gq_n ?_ | refine gq_r ?_ | refine gq_e ?_ | refine lq_n ?_ | refine lq_r ?_ | refine lq_e ?_ | refine bq_e (by decide) ?_) | ((with_reducible refine zC (b := ?b_) ?hb_ ?_ ?_); case hb_ => rfl) | ((conv => whnf); first | (with_reducible refine hK_ _ _ ?_; try clear hK_ K_) | (with_reducible refine fun (g_ : Sl) (o_ : Ow) => ?_) | (with_reducible first | exact True.intro | refine And.intro trivial ?_ | refine And.intro ?_ ?_) | exact Nat.le_of_ble_eq_true rfl | exact Or.inl rfl | (intro h_; cases h_) | (intro h_; (try simp only [vS1] at h_)) | rfl))) <;> (try (conv => whnf)) <;> (try first | change (_ : Int) ≤ _ | change (_ : Nat) ≤ _) <;> (try ((fail_if_success (with_reducible apply Exists.intro)); (try dsimp only); (try simp only [vS1]))) <;> (try simp (disch := omega) only [vS3, Int.add_sub_cancel, tn1, tnp, tnc, vS2] at *)
  all_goals (try (fail_if_success (with_reducible apply Exists.intro)); first | with_reducible assumption | omega | exact mdl (by omega) | exact ilo1 (by omega) | exact ilo2 (by omega) | exact ihi1 (by omega) (by omega) | exact ihi2 (by omega) (by omega))
  refine awp'_loopG (α := Nat) (fun i ver_ => [(13, vInt i)]) (fun i ver_ => []) (fun i ver_ => []) (fun i => i ≤ wid M ∧ ∀ j, j < i → seenOf M l j = true) (fun i => wid M - i) [0, 1, 12] [] (0) ?_
  conv => whnf
  refine ⟨⟨?inv1_, ?vals1_, ?own1_, ?fix1_⟩, ?body1_⟩
  case' vals1_ => (repeat' (first | (with_reducible first | exact True.intro | refine And.intro ?_ ?_ | refine Head.mk ?_ ?_ ?_ ?_) | ((conv => lhs; whnf); first | (with_reducible first | rfl | exact vInt_s (by omega)) | exact rfl) | ((conv => whnf); first | (with_reducible first | exact True.intro | refine And.intro ?_ ?_)))) <;> (try (conv => lhs; whnf))
  case' own1_ => (repeat' (first | (with_reducible first | exact True.intro | refine And.intro ?_ ?_ | refine Head.mk ?_ ?_ ?_ ?_) | ((conv => lhs; whnf); first | (with_reducible first | rfl | exact vInt_s (by omega)) | exact rfl) | ((conv => whnf); first | (with_reducible first | exact True.intro | refine And.intro ?_ ?_)))) <;> (try (conv => lhs; whnf))
  case' fix1_ => (repeat' (first | (with_reducible first | exact True.intro | refine And.intro ?_ ?_ | refine Head.mk ?_ ?_ ?_ ?_) | ((conv => lhs; whnf); first | (with_reducible first | rfl | exact vInt_s (by omega)) | exact rfl) | ((conv => whnf); first | (with_reducible first | exact True.intro | refine And.intro ?_ ?_)))) <;> (try (conv => lhs; whnf))
  · exact ⟨Nat.zero_le _, fun j hj => absurd hj (by omega)⟩
  rintro i g_ o_ v_ ⟨hi, hall⟩
  (repeat' (first | (with_reducible first | exact True.intro | refine zQ ?_ | (refine zG hG_ ?_; intro K_ hK_) | (refine zR ?_; intro K_ hK_) | (refine hK_ _ _ ?_; try clear hK_ K_) | refine sq_n ?_ | refine sq_r ?_ | refine sq_e ?_ | refine bq_n ?_ | refine bq_r ?_ | refine bq_q ?_ | refine zB ?_ | refine zX ?_ | refine zT ?_ | refine zK ?_ | refine gq_n ?_ | refine gq_r ?_ | refine gq_e ?_ | refine lq_n ?_ | refine lq_r ?_ | refine lq_e ?_ | refine bq_e (by decide) ?_) | ((with_reducible refine zC (b := ?b_) ?hb_ ?_ ?_); case hb_ => rfl) | ((conv => whnf); first | (with_reducible refine hK_ _ _ ?_; try clear hK_ K_) | (with_reducible refine fun (g_ : Sl) (o_ : Ow) => ?_) | (with_reducible first | exact True.intro | refine And.intro trivial ?_ | refine And.intro ?_ ?_) | exact Nat.le_of_ble_eq_true rfl | exact Or.inl rfl | (intro h_; cases h_) | (intro h_; (try simp only [vS1] at h_)) | rfl))) <;> (try (conv => whnf)) <;> (try first | change (_ : Int) ≤ _ | change (_ : Nat) ≤ _) <;> (try ((fail_if_success (with_reducible apply Exists.intro)); (try dsimp only); (try simp only [vS1]))) <;> (try simp (disch := omega) only [vS3, Int.add_sub_cancel, tn1, tnp, tnc, vS2] at *)
  all_goals (try (fail_if_success (with_reducible apply Exists.intro)); first | with_reducible assumption | omega | exact mdl (by omega) | exact ilo1 (by omega) | exact ilo2 (by omega) | exact ihi1 (by omega) (by omega) | exact ihi2 (by omega) (by omega))
  ·
   refine awp'_loopG (α := Nat) (fun k ver_ => [(18, vInt k), (6, vBool (seenTo M l i k))]) (fun k ver_ => []) (fun k ver_ => []) (fun k => k ≤ l.length) (fun k => l.length - k) [0, 1, 5, 12, 13, 16, 17] [] (0) ?_
   conv => whnf
   refine ⟨⟨?inv2_, ?vals2_, ?own2_, ?fix2_⟩, ?body2_⟩
   case' vals2_ => (repeat' (first | (with_reducible first | exact True.intro | refine And.intro ?_ ?_ | refine Head.mk ?_ ?_ ?_ ?_) | ((conv => lhs; whnf); first | (with_reducible first | rfl | exact vInt_s (by omega)) | exact rfl) | ((conv => whnf); first | (with_reducible first | exact True.intro | refine And.intro ?_ ?_)))) <;> (try (conv => lhs; whnf))
   case' own2_ => (repeat' (first | (with_reducible first | exact True.intro | refine And.intro ?_ ?_ | refine Head.mk ?_ ?_ ?_ ?_) | ((conv => lhs; whnf); first | (with_reducible first | rfl | exact vInt_s (by omega)) | exact rfl) | ((conv => whnf); first | (with_reducible first | exact True.intro | refine And.intro ?_ ?_)))) <;> (try (conv => lhs; whnf))
   case' fix2_ => (repeat' (first | (with_reducible first | exact True.intro | refine And.intro ?_ ?_ | refine Head.mk ?_ ?_ ?_ ?_) | ((conv => lhs; whnf); first | (with_reducible first | rfl | exact vInt_s (by omega)) | exact rfl) | ((conv => whnf); first | (with_reducible first | exact True.intro | refine And.intro ?_ ?_)))) <;> (try (conv => lhs; whnf))
   · exact Nat.zero_le _
   rintro k g_ o_ v_ hk
   rcases Nat.lt_or_ge k l.length with hkl | hkl
   · have hb := hL.at_ k hkl
     have hk1 : 0 ≤ l.getD k (ElK.b ElB.int).dflt := hb.1
     have hk2 : l.getD k (ElK.b ElB.int).dflt < M.length := hb.2
     have hml : (M.getD (l.getD k (ElK.b ElB.int).dflt).toNat (ElK.s ElB.bool).dflt).length = wid M := hM.all _ (by omega)
     have hss := seenTo_succ (M := M) (i := i) hkl
     (repeat' (first | (with_reducible first | exact True.intro | refine zQ ?_ | (refine zG hG_ ?_; intro K_ hK_) | (refine zR ?_; intro K_ hK_) | (refine hK_ _ _ ?_; try clear hK_ K_) | refine sq_n ?_ | refine sq_r ?_ | refine sq_e ?_ | refine bq_n ?_ | refine bq_r ?_ | refine bq_q ?_ | refine zB ?_ | refine zX ?_ | refine zT ?_ | refine zK ?_ | refine gq_n ?_ | refine gq_r ?_ | refine gq_e ?_ | refine lq_n ?_ | refine lq_r ?_ | refine lq_e ?_ | refine bq_e (by decide) ?_) | ((with_reducible refine zC (b := ?b_) ?hb_ ?_ ?_); case hb_ => rfl) | ((conv => whnf); first | (with_reducible refine hK_ _ _ ?_; try clear hK_ K_) | (with_reducible refine fun (g_ : Sl) (o_ : Ow) => ?_) | (with_reducible first | exact True.intro | refine And.intro trivial ?_ | refine And.intro ?_ ?_) | exact Nat.le_of_ble_eq_true rfl | exact Or.inl rfl | (intro h_; cases h_) | (intro h_; (try simp only [vS1] at h_)) | rfl))) <;> (try (conv => whnf)) <;> (try first | change (_ : Int) ≤ _ | change (_ : Nat) ≤ _) <;> (try ((fail_if_success (with_reducible apply Exists.intro)); (try dsimp only); (try simp only [vS1]))) <;> (try simp (disch := omega) only [vS3, Int.add_sub_cancel, tn1, tnp, tnc, vS2] at *)
     all_goals (try (fail_if_success (with_reducible apply Exists.intro)); first | with_reducible assumption | omega | exact mdl (by omega) | exact ilo1 (by omega) | exact ilo2 (by omega) | exact ihi1 (by omega) (by omega) | exact ihi2 (by omega) (by omega))
     · refine ⟨k + 1, by omega, by omega, ?_⟩
       (repeat' (first | (with_reducible first | exact True.intro | refine And.intro ?_ ?_ | refine Head.mk ?_ ?_ ?_ ?_) | ((conv => lhs; whnf); first | (with_reducible first | rfl | exact vInt_s (by omega)) | exact rfl) | ((conv => whnf); first | (with_reducible first | exact True.intro | refine And.intro ?_ ?_)))) <;> (try (conv => lhs; whnf))
       exact congrArg vBool (by rw [hss, show seenTo M l i k = true from by assumption]; rfl)
     · refine ⟨k + 1, by omega, by omega, ?_⟩
       (repeat' (first | (with_reducible first | exact True.intro | refine And.intro ?_ ?_ | refine Head.mk ?_ ?_ ?_ ?_) | ((conv => lhs; whnf); first | (with_reducible first | rfl | exact vInt_s (by omega)) | exact rfl) | ((conv => whnf); first | (with_reducible first | exact True.intro | refine And.intro ?_ ?_)))) <;> (try (conv => lhs; whnf))
       exact congrArg vBool (by rw [hss, show seenTo M l i k = false from by assumption]; rfl)
     all_goals (exfalso; omega)
   · have hf := seenTo_full M l i
     (repeat' (first | (with_reducible first | exact True.intro | refine zQ ?_ | (refine zG hG_ ?_; intro K_ hK_) | (refine zR ?_; intro K_ hK_) | (refine hK_ _ _ ?_; try clear hK_ K_) | refine sq_n ?_ | refine sq_r ?_ | refine sq_e ?_ | refine bq_n ?_ | refine bq_r ?_ | refine bq_q ?_ | refine zB ?_ | refine zX ?_ | refine zT ?_ | refine zK ?_ | refine gq_n ?_ | refine gq_r ?_ | refine gq_e ?_ | refine lq_n ?_ | refine lq_r ?_ | refine lq_e ?_ | refine bq_e (by decide) ?_) | ((with_reducible refine zC (b := ?b_) ?hb_ ?_ ?_); case hb_ => rfl) | ((conv => whnf); first | (with_reducible refine hK_ _ _ ?_; try clear hK_ K_) | (with_reducible refine fun (g_ : Sl) (o_ : Ow) => ?_) | (with_reducible first | exact True.intro | refine And.intro trivial ?_ | refine And.intro ?_ ?_) | exact Nat.le_of_ble_eq_true rfl | exact Or.inl rfl | (intro h_; cases h_) | (intro h_; (try simp only [vS1] at h_)) | rfl))) <;> (try (conv => whnf)) <;> (try first | change (_ : Int) ≤ _ | change (_ : Nat) ≤ _) <;> (try ((fail_if_success (with_reducible apply Exists.intro)); (try dsimp only); (try simp only [vS1]))) <;> (try simp (disch := omega) only [vS3, Int.add_sub_cancel, tn1, tnp, tnc, vS2] at *)
     all_goals (try (fail_if_success (with_reducible apply Exists.intro)); first | with_reducible assumption | omega | exact mdl (by omega) | exact ilo1 (by omega) | exact ilo2 (by omega) | exact ihi1 (by omega) (by omega) | exact ihi2 (by omega) (by omega))
     · exfalso; omega
     · exfalso; omega
     · have h7 : seenTo M l i k = false := by assumption
       rw [show k = l.length by omega, hf] at h7
       refine Eq.symm (Bool.eq_false_iff.2 fun hc => ?_)
       have := List.all_eq_true.1 (show (List.range (wid M)).all (seenOf M l) = true from hc) i (List.mem_range.2 (by omega))
       rw [this] at h7; cases h7
     · refine ⟨i + 1, by omega, ⟨by omega, lt_succ_all hall ?_⟩, by (repeat' (first | (with_reducible first | exact True.intro | refine And.intro ?_ ?_ | refine Head.mk ?_ ?_ ?_ ?_) | ((conv => lhs; whnf); first | (with_reducible first | rfl | exact vInt_s (by omega)) | exact rfl) | ((conv => whnf); first | (with_reducible first | exact True.intro | refine And.intro ?_ ?_)))) <;> (try (conv => lhs; whnf))⟩
       rw [← hf, show l.length = k by omega]
       assumption
  · refine Eq.symm (List.all_eq_true.2 fun j hj => hall j ?_)
    have := List.mem_range.1 hj
    omega
def chPre (M : Msk) (l : List Int) (a m : Int) : Prop := (MOk M ∧ LOk M l) ∧ (0 ≤ a ∧ a ≤ 64) ∧ 0 ≤ m ∧ (l.length : Int) + m ≤ 60 ∧ 0 < (l.length : Int) + m
structure ChOk (M : Msk) (l : List Int) (a m : Int) : Prop where
  ok : chPre M l a m
def chVal (o : Option (List Int)) : RV := match o with
  | none => .val (.one (.d .nil))
  | some r => rowI r
def chLt (n : Nat) : Con := mkCon [.sl (.s .bool), .sl (.b .int), .int, .int] (fun x => ChOk x.1 x.2.1 x.2.2.1 x.2.2.2.1 ∧ x.2.2.2.1 < n) fun x => chVal (chM x.1 x.2.2.2.1.toNat x.2.1 x.2.2.1.toNat)
def chooseC : Con := mkCon [.sl (.s .bool), .sl (.b .int), .int, .int] (fun x => ChOk x.1 x.2.1 x.2.2.1 x.2.2.2.1) fun x => chVal (chM x.1 x.2.2.2.1.toNat x.2.1 x.2.2.1.toNat)
theorem fsN_none {α : Type} {f : Nat → Option α} : ∀ {n a}, fsN f n a = none → ∀ k, a ≤ k → k < a + n → f k = none
  | 0, a, _, k, h1, h2 => absurd h2 (by omega)
  | n + 1, a, h, k, h1, h2 => by
    rw [fsN] at h
    cases hf : f a with
    | some r => rw [hf] at h; cases h
    | none =>
      rw [hf] at h
      rcases Nat.eq_or_lt_of_le h1 with e | e
      · rw [← e]; exact hf
      · exact fsN_none h k e (by omega)
theorem fsR_none {α : Type} {f : Nat → Option α} {a b k : Nat} (h : fsR f a b = none) (h1 : a ≤ k) (h2 : k < b) : f k = none := fsN_none h k h1 (by omega)
theorem ch_all : ∀ n, Good1 Try.prog n_impl_choose (chLt n) := by
  intro n
  induction n with
  | zero =>
    refine ⟨fun w F args vs x h1 h2 h3 h4 h5 => ?_, _, Try.func91, by decide, rfl⟩
    obtain ⟨-, -, h6, -⟩ := (show ChOk x.1 x.2.1 x.2.2.1 x.2.2.2.1 from h2.1).ok
    have h7 : x.2.2.2.1 < ((0 : Nat) : Int) := h2.2
    exact absurd (Int.lt_of_le_of_lt h6 h7) (by decide)
  | succ n ih =>
    refine good_ofG (tys := tyL) (env := [(n_impl_covers, covC), (n_impl_choose, (chLt n))]) (envw := []) (envd := []) [16, 18, 40] [] [] [35] [] mixed tys ⟨covers_ok, ih, trivial⟩ trivial trivial Try.func91 rfl (by kernel_rfl) (by decide) (by kernel_rfl) ?_
    have hG_ := kpz [(0, [0, 1, 2, 3]), (1, [0, 1, 2, 3, 12]), (2, [1, 15]), (3, [8]), (4, [8]), (5, [0, 1, 3, 9]), (6, [0, 1, 3, 9, 23]), (7, [0, 1, 3, 9]), (8, [0, 1, 3, 9, 10]), (9, [0, 1, 3, 9, 10, 42]), (10, [8]), (11, [8])] [(3, [16]), (7, [40]), (8, [40]), (9, [40]), (10, [40])] [] []
    rintro ⟨(M : Msk), (l : List Int), (a : Int), (m : Int), ⟨⟩⟩ ⟨⟨(h0 : chPre M l a m)⟩, (hmn : m < _)⟩
    obtain ⟨⟨hM, hL⟩, ⟨ha0, ha1⟩, hm0, hm1, hm2⟩ := h0
    obtain ⟨a, rfl⟩ := Int.eq_ofNat_of_zero_le ha0
    obtain ⟨m, rfl⟩ := Int.eq_ofNat_of_zero_le hm0
    have hMl := hM.le
    have hLl := hL.le
    show awp' _ _ (Fin' _ _ (chVal (chM M m l a))) _ _
    rcases m with _ | m
    · have h00 : chM M 0 l a = if covM M l then some l else none := rfl
      have hl0 : l ≠ [] := fun e => by rw [e] at hm2; simp at hm2
      cases hcv : covM M l with
      | true =>
        rw [h00, hcv, if_pos rfl]
        have hcvp : PLift (covM M l = true) := ⟨hcv⟩
        show awp' _ _ (Fin' _ _ (rowI l)) _ _
        (repeat' (first | (with_reducible first | exact True.intro | refine zQ ?_ | (refine zG hG_ ?_; intro K_ hK_) | (refine zR ?_; intro K_ hK_) | (refine hK_ _ _ ?_; try clear hK_ K_) | refine sq_n ?_ | refine sq_r ?_ | refine sq_e ?_ | refine bq_n ?_ | refine bq_r ?_ | refine bq_q ?_ | refine zB ?_ | refine zX ?_ | refine zT ?_ | refine zK ?_ | refine gq_n ?_ | refine gq_r ?_ | refine gq_e ?_ | refine lq_n ?_ | refine lq_r ?_ | refine lq_e ?_ | refine bq_e (by decide) ?_) | ((with_reducible refine zC (b := ?b_) ?hb_ ?_ ?_); case hb_ => rfl) | ((conv => whnf); first | (with_reducible refine hK_ _ _ ?_; try clear hK_ K_) | (with_reducible refine fun (g_ : Sl) (o_ : Ow) => ?_) | (with_reducible first | exact True.intro | refine And.intro trivial ?_ | refine And.intro ?_ ?_) | exact Nat.le_of_ble_eq_true rfl | exact Or.inl rfl | (intro h_; cases h_) | (intro h_; (try simp only [vS1] at h_)) | rfl))) <;> (try (conv => whnf)) <;> (try first | change (_ : Int) ≤ _ | change (_ : Nat) ≤ _) <;> (try ((fail_if_success (with_reducible apply Exists.intro)); (try dsimp only); (try simp only [vS1]))) <;> (try simp (disch := omega) only [vS3, Int.add_sub_cancel, tn1, tnp, tnc, vS2] at *)
        all_goals (try (fail_if_success (with_reducible apply Exists.intro)); first | with_reducible assumption | omega | exact mdl (by omega) | exact ilo1 (by omega) | exact ilo2 (by omega) | exact ihi1 (by omega) (by omega) | exact ihi2 (by omega) (by omega))
        have h5 := hcvp.down
        rw [h_] at h5; cases h5
      | false =>
        rw [h00, hcv, if_neg (by decide)]
        have hcvp : PLift (covM M l = false) := ⟨hcv⟩
        show awp' _ _ (Fin' _ _ (.val (.one (.d .nil)))) _ _
        (repeat' (first | (with_reducible first | exact True.intro | refine zQ ?_ | (refine zG hG_ ?_; intro K_ hK_) | (refine zR ?_; intro K_ hK_) | (refine hK_ _ _ ?_; try clear hK_ K_) | refine sq_n ?_ | refine sq_r ?_ | refine sq_e ?_ | refine bq_n ?_ | refine bq_r ?_ | refine bq_q ?_ | refine zB ?_ | refine zX ?_ | refine zT ?_ | refine zK ?_ | refine gq_n ?_ | refine gq_r ?_ | refine gq_e ?_ | refine lq_n ?_ | refine lq_r ?_ | refine lq_e ?_ | refine bq_e (by decide) ?_) | ((with_reducible refine zC (b := ?b_) ?hb_ ?_ ?_); case hb_ => rfl) | ((conv => whnf); first | (with_reducible refine hK_ _ _ ?_; try clear hK_ K_) | (with_reducible refine fun (g_ : Sl) (o_ : Ow) => ?_) | (with_reducible first | exact True.intro | refine And.intro trivial ?_ | refine And.intro ?_ ?_) | exact Nat.le_of_ble_eq_true rfl | exact Or.inl rfl | (intro h_; cases h_) | (intro h_; (try simp only [vS1] at h_)) | rfl))) <;> (try (conv => whnf)) <;> (try first | change (_ : Int) ≤ _ | change (_ : Nat) ≤ _) <;> (try ((fail_if_success (with_reducible apply Exists.intro)); (try dsimp only); (try simp only [vS1]))) <;> (try simp (disch := omega) only [vS3, Int.add_sub_cancel, tn1, tnp, tnc, vS2] at *)
        all_goals (try (fail_if_success (with_reducible apply Exists.intro)); first | with_reducible assumption | omega | exact mdl (by omega) | exact ilo1 (by omega) | exact ilo2 (by omega) | exact ihi1 (by omega) (by omega) | exact ihi2 (by omega) (by omega))
        have h5 := hcvp.down
        rw [h_] at h5; cases h5
    · have hF : chM M (m + 1) l a = fsR (fun k => chM M m (l ++ [(k : Int)]) (k + 1)) a M.length := rfl
      cases hR : chM M (m + 1) l a with
      | none =>
        rw [hR] at hF
        show awp' _ _ (Fin' _ _ (.val (.one (.d .nil)))) _ _
        (repeat' (first | (with_reducible first | exact True.intro | refine zQ ?_ | (refine zG hG_ ?_; intro K_ hK_) | (refine zR ?_; intro K_ hK_) | (refine hK_ _ _ ?_; try clear hK_ K_) | refine sq_n ?_ | refine sq_r ?_ | refine sq_e ?_ | refine bq_n ?_ | refine bq_r ?_ | refine bq_q ?_ | refine zB ?_ | refine zX ?_ | refine zT ?_ | refine zK ?_ | refine gq_n ?_ | refine gq_r ?_ | refine gq_e ?_ | refine lq_n ?_ | refine lq_r ?_ | refine lq_e ?_ | refine bq_e (by decide) ?_) | ((with_reducible refine zC (b := ?b_) ?hb_ ?_ ?_); case hb_ => rfl) | ((conv => whnf); first | (with_reducible refine hK_ _ _ ?_; try clear hK_ K_) | (with_reducible refine fun (g_ : Sl) (o_ : Ow) => ?_) | (with_reducible first | exact True.intro | refine And.intro trivial ?_ | refine And.intro ?_ ?_) | exact Nat.le_of_ble_eq_true rfl | exact Or.inl rfl | (intro h_; cases h_) | (intro h_; (try simp only [vS1] at h_)) | rfl))) <;> (try (conv => whnf)) <;> (try first | change (_ : Int) ≤ _ | change (_ : Nat) ≤ _) <;> (try ((fail_if_success (with_reducible apply Exists.intro)); (try dsimp only); (try simp only [vS1]))) <;> (try simp (disch := omega) only [vS3, Int.add_sub_cancel, tn1, tnp, tnc, vS2] at *)
        all_goals (try (fail_if_success (with_reducible apply Exists.intro)); first | with_reducible assumption | omega | exact mdl (by omega) | exact ilo1 (by omega) | exact ilo2 (by omega) | exact ihi1 (by omega) (by omega) | exact ihi2 (by omega) (by omega))
        refine awp'_loopG (α := Nat) (fun k ver_ => [(9, vInt k)]) (fun k ver_ => []) (fun k ver_ => []) (fun k => a ≤ k ∧ k ≤ 64) (fun k => M.length - k) [0, 1, 3] [] (a) ?_
        conv => whnf
        refine ⟨⟨?inv3_, ?vals3_, ?own3_, ?fix3_⟩, ?body3_⟩
        case' vals3_ => (repeat' (first | (with_reducible first | exact True.intro | refine And.intro ?_ ?_ | refine Head.mk ?_ ?_ ?_ ?_) | ((conv => lhs; whnf); first | (with_reducible first | rfl | exact vInt_s (by omega)) | exact rfl) | ((conv => whnf); first | (with_reducible first | exact True.intro | refine And.intro ?_ ?_)))) <;> (try (conv => lhs; whnf))
        case' own3_ => (repeat' (first | (with_reducible first | exact True.intro | refine And.intro ?_ ?_ | refine Head.mk ?_ ?_ ?_ ?_) | ((conv => lhs; whnf); first | (with_reducible first | rfl | exact vInt_s (by omega)) | exact rfl) | ((conv => whnf); first | (with_reducible first | exact True.intro | refine And.intro ?_ ?_)))) <;> (try (conv => lhs; whnf))
        case' fix3_ => (repeat' (first | (with_reducible first | exact True.intro | refine And.intro ?_ ?_ | refine Head.mk ?_ ?_ ?_ ?_) | ((conv => lhs; whnf); first | (with_reducible first | rfl | exact vInt_s (by omega)) | exact rfl) | ((conv => whnf); first | (with_reducible first | exact True.intro | refine And.intro ?_ ?_)))) <;> (try (conv => lhs; whnf))
        · exact ⟨Nat.le_refl _, by omega⟩
        rintro k g_ o_ v_ ⟨hk1, hk2⟩
        rcases Nat.lt_or_ge k M.length with hkl | hkl
        · have hch : chM M m (l ++ [(k : Int)]) (k + 1) = none := fsR_none (f := fun k => chM M m (l ++ [(k : Int)]) (k + 1)) hF.symm hk1 hkl
          (repeat' (first | (with_reducible first | exact True.intro | refine zQ ?_ | (refine zG hG_ ?_; intro K_ hK_) | (refine zR ?_; intro K_ hK_) | (refine hK_ _ _ ?_; try clear hK_ K_) | refine sq_n ?_ | refine sq_r ?_ | refine sq_e ?_ | refine bq_n ?_ | refine bq_r ?_ | refine bq_q ?_ | refine zB ?_ | refine zX ?_ | refine zT ?_ | refine zK ?_ | refine gq_n ?_ | refine gq_r ?_ | refine gq_e ?_ | refine lq_n ?_ | refine lq_r ?_ | refine lq_e ?_ | refine bq_e (by decide) ?_) | ((with_reducible refine zC (b := ?b_) ?hb_ ?_ ?_); case hb_ => rfl) | ((conv => whnf); first | (with_reducible refine hK_ _ _ ?_; try clear hK_ K_) | (with_reducible refine fun (g_ : Sl) (o_ : Ow) => ?_) | (with_reducible first | exact True.intro | refine And.intro trivial ?_ | refine And.intro ?_ ?_) | exact Nat.le_of_ble_eq_true rfl | exact Or.inl rfl | (intro h_; cases h_) | (intro h_; (try simp only [vS1] at h_)) | rfl))) <;> (try (conv => whnf)) <;> (try first | change (_ : Int) ≤ _ | change (_ : Nat) ≤ _) <;> (try ((fail_if_success (with_reducible apply Exists.intro)); (try dsimp only); (try simp only [vS1]))) <;> (try simp (disch := omega) only [vS3, Int.add_sub_cancel, tn1, tnp, tnc, vS2] at *)
          all_goals (try (fail_if_success (with_reducible apply Exists.intro)); first | with_reducible assumption | omega | exact mdl (by omega) | exact ilo1 (by omega) | exact ilo2 (by omega) | exact ihi1 (by omega) (by omega) | exact ihi2 (by omega) (by omega))
          conv => pattern (aeffV _ _ _ _); whnf
          have hres : (chLt n).res (M, l ++ [(k : Int)], (k : Int) + 1, ((m + 1 : Nat) : Int) - 1, ()) = .val (.one (.d .nil)) := by
            show chVal (chM M (((m + 1 : Nat) : Int) - 1).toNat (l ++ [(k : Int)]) ((k : Int) + 1).toNat) = _
            rw [show (((m + 1 : Nat) : Int) - 1).toNat = m by omega, show ((k : Int) + 1).toNat = k + 1 by omega, hch]; rfl
          rw [hres]
          (repeat' (first | (with_reducible first | exact True.intro | refine zQ ?_ | (refine zG hG_ ?_; intro K_ hK_) | (refine zR ?_; intro K_ hK_) | (refine hK_ _ _ ?_; try clear hK_ K_) | refine sq_n ?_ | refine sq_r ?_ | refine sq_e ?_ | refine bq_n ?_ | refine bq_r ?_ | refine bq_q ?_ | refine zB ?_ | refine zX ?_ | refine zT ?_ | refine zK ?_ | refine gq_n ?_ | refine gq_r ?_ | refine gq_e ?_ | refine lq_n ?_ | refine lq_r ?_ | refine lq_e ?_ | refine bq_e (by decide) ?_) | ((with_reducible refine zC (b := ?b_) ?hb_ ?_ ?_); case hb_ => rfl) | ((conv => whnf); first | (with_reducible refine hK_ _ _ ?_; try clear hK_ K_) | (with_reducible refine fun (g_ : Sl) (o_ : Ow) => ?_) | (with_reducible first | exact True.intro | refine And.intro trivial ?_ | refine And.intro ?_ ?_) | exact Nat.le_of_ble_eq_true rfl | exact Or.inl rfl | (intro h_; cases h_) | (intro h_; (try simp only [vS1] at h_)) | rfl))) <;> (try (conv => whnf)) <;> (try first | change (_ : Int) ≤ _ | change (_ : Nat) ≤ _) <;> (try ((fail_if_success (with_reducible apply Exists.intro)); (try dsimp only); (try simp only [vS1]))) <;> (try simp (disch := omega) only [vS3, Int.add_sub_cancel, tn1, tnp, tnc, vS2] at *)
          all_goals (try (fail_if_success (with_reducible apply Exists.intro)); first | with_reducible assumption | omega | exact mdl (by omega) | exact ilo1 (by omega) | exact ilo2 (by omega) | exact ihi1 (by omega) (by omega) | exact ihi2 (by omega) (by omega))
          · exact ⟨⟨hM, hL.app (by omega) h_⟩, ⟨by omega, by omega⟩, by omega, by rw [List.length_append, List.length_singleton]; omega, by rw [List.length_append, List.length_singleton]; omega⟩
          · exact ⟨k + 1, by omega, ⟨by omega, by omega⟩, by (repeat' (first | (with_reducible first | exact True.intro | refine And.intro ?_ ?_ | refine Head.mk ?_ ?_ ?_ ?_) | ((conv => lhs; whnf); first | (with_reducible first | rfl | exact vInt_s (by omega)) | exact rfl) | ((conv => whnf); first | (with_reducible first | exact True.intro | refine And.intro ?_ ?_)))) <;> (try (conv => lhs; whnf))⟩
        · (repeat' (first | (with_reducible first | exact True.intro | refine zQ ?_ | (refine zG hG_ ?_; intro K_ hK_) | (refine zR ?_; intro K_ hK_) | (refine hK_ _ _ ?_; try clear hK_ K_) | refine sq_n ?_ | refine sq_r ?_ | refine sq_e ?_ | refine bq_n ?_ | refine bq_r ?_ | refine bq_q ?_ | refine zB ?_ | refine zX ?_ | refine zT ?_ | refine zK ?_ | refine gq_n ?_ | refine gq_r ?_ | refine gq_e ?_ | refine lq_n ?_ | refine lq_r ?_ | refine lq_e ?_ | refine bq_e (by decide) ?_) | ((with_reducible refine zC (b := ?b_) ?hb_ ?_ ?_); case hb_ => rfl) | ((conv => whnf); first | (with_reducible refine hK_ _ _ ?_; try clear hK_ K_) | (with_reducible refine fun (g_ : Sl) (o_ : Ow) => ?_) | (with_reducible first | exact True.intro | refine And.intro trivial ?_ | refine And.intro ?_ ?_) | exact Nat.le_of_ble_eq_true rfl | exact Or.inl rfl | (intro h_; cases h_) | (intro h_; (try simp only [vS1] at h_)) | rfl))) <;> (try (conv => whnf)) <;> (try first | change (_ : Int) ≤ _ | change (_ : Nat) ≤ _) <;> (try ((fail_if_success (with_reducible apply Exists.intro)); (try dsimp only); (try simp only [vS1]))) <;> (try simp (disch := omega) only [vS3, Int.add_sub_cancel, tn1, tnp, tnc, vS2] at *)
          all_goals (try (fail_if_success (with_reducible apply Exists.intro)); first | with_reducible assumption | omega | exact mdl (by omega) | exact ilo1 (by omega) | exact ilo2 (by omega) | exact ihi1 (by omega) (by omega) | exact ihi2 (by omega) (by omega))
      | some R =>
        rw [hR] at hF
        show awp' _ _ (Fin' _ _ (rowI R)) _ _
        (repeat' (first | (with_reducible first | exact True.intro | refine zQ ?_ | (refine zG hG_ ?_; intro K_ hK_) | (refine zR ?_; intro K_ hK_) | (refine hK_ _ _ ?_; try clear hK_ K_) | refine sq_n ?_ | refine sq_r ?_ | refine sq_e ?_ | refine bq_n ?_ | refine bq_r ?_ | refine bq_q ?_ | refine zB ?_ | refine zX ?_ | refine zT ?_ | refine zK ?_ | refine gq_n ?_ | refine gq_r ?_ | refine gq_e ?_ | refine lq_n ?_ | refine lq_r ?_ | refine lq_e ?_ | refine bq_e (by decide) ?_) | ((with_reducible refine zC (b := ?b_) ?hb_ ?_ ?_); case hb_ => rfl) | ((conv => whnf); first | (with_reducible refine hK_ _ _ ?_; try clear hK_ K_) | (with_reducible refine fun (g_ : Sl) (o_ : Ow) => ?_) | (with_reducible first | exact True.intro | refine And.intro trivial ?_ | refine And.intro ?_ ?_) | exact Nat.le_of_ble_eq_true rfl | exact Or.inl rfl | (intro h_; cases h_) | (intro h_; (try simp only [vS1] at h_)) | rfl))) <;> (try (conv => whnf)) <;> (try first | change (_ : Int) ≤ _ | change (_ : Nat) ≤ _) <;> (try ((fail_if_success (with_reducible apply Exists.intro)); (try dsimp only); (try simp only [vS1]))) <;> (try simp (disch := omega) only [vS3, Int.add_sub_cancel, tn1, tnp, tnc, vS2] at *)
        all_goals (try (fail_if_success (with_reducible apply Exists.intro)); first | with_reducible assumption | omega | exact mdl (by omega) | exact ilo1 (by omega) | exact ilo2 (by omega) | exact ihi1 (by omega) (by omega) | exact ihi2 (by omega) (by omega))
        refine awp'_loopG (α := Nat) (fun k ver_ => [(9, vInt k)]) (fun k ver_ => []) (fun k ver_ => []) (fun k => (a ≤ k ∧ k ≤ 64) ∧ some R = fsR (fun k => chM M m (l ++ [(k : Int)]) (k + 1)) k M.length) (fun k => M.length - k) [0, 1, 3] [] (a) ?_
        conv => whnf
        refine ⟨⟨?inv4_, ?vals4_, ?own4_, ?fix4_⟩, ?body4_⟩
        case' vals4_ => (repeat' (first | (with_reducible first | exact True.intro | refine And.intro ?_ ?_ | refine Head.mk ?_ ?_ ?_ ?_) | ((conv => lhs; whnf); first | (with_reducible first | rfl | exact vInt_s (by omega)) | exact rfl) | ((conv => whnf); first | (with_reducible first | exact True.intro | refine And.intro ?_ ?_)))) <;> (try (conv => lhs; whnf))
        case' own4_ => (repeat' (first | (with_reducible first | exact True.intro | refine And.intro ?_ ?_ | refine Head.mk ?_ ?_ ?_ ?_) | ((conv => lhs; whnf); first | (with_reducible first | rfl | exact vInt_s (by omega)) | exact rfl) | ((conv => whnf); first | (with_reducible first | exact True.intro | refine And.intro ?_ ?_)))) <;> (try (conv => lhs; whnf))
        case' fix4_ => (repeat' (first | (with_reducible first | exact True.intro | refine And.intro ?_ ?_ | refine Head.mk ?_ ?_ ?_ ?_) | ((conv => lhs; whnf); first | (with_reducible first | rfl | exact vInt_s (by omega)) | exact rfl) | ((conv => whnf); first | (with_reducible first | exact True.intro | refine And.intro ?_ ?_)))) <;> (try (conv => lhs; whnf))
        · exact ⟨⟨Nat.le_refl _, by omega⟩, hF⟩
        rintro k g_ o_ v_ ⟨⟨hk1, hk2⟩, hk3⟩
        rcases Nat.lt_or_ge k M.length with hkl | hkl
        · cases hch : chM M m (l ++ [(k : Int)]) (k + 1) with
          | none =>
            (repeat' (first | (with_reducible first | exact True.intro | refine zQ ?_ | (refine zG hG_ ?_; intro K_ hK_) | (refine zR ?_; intro K_ hK_) | (refine hK_ _ _ ?_; try clear hK_ K_) | refine sq_n ?_ | refine sq_r ?_ | refine sq_e ?_ | refine bq_n ?_ | refine bq_r ?_ | refine bq_q ?_ | refine zB ?_ | refine zX ?_ | refine zT ?_ | refine zK ?_ | refine gq_n ?_ | refine gq_r ?_ | refine gq_e ?_ | refine lq_n ?_ | refine lq_r ?_ | refine lq_e ?_ | refine bq_e (by decide) ?_) | ((with_reducible refine zC (b := ?b_) ?hb_ ?_ ?_); case hb_ => rfl) | ((conv => whnf); first | (with_reducible refine hK_ _ _ ?_; try clear hK_ K_) | (with_reducible refine fun (g_ : Sl) (o_ : Ow) => ?_) | (with_reducible first | exact True.intro | refine And.intro trivial ?_ | refine And.intro ?_ ?_) | exact Nat.le_of_ble_eq_true rfl | exact Or.inl rfl | (intro h_; cases h_) | (intro h_; (try simp only [vS1] at h_)) | rfl))) <;> (try (conv => whnf)) <;> (try first | change (_ : Int) ≤ _ | change (_ : Nat) ≤ _) <;> (try ((fail_if_success (with_reducible apply Exists.intro)); (try dsimp only); (try simp only [vS1]))) <;> (try simp (disch := omega) only [vS3, Int.add_sub_cancel, tn1, tnp, tnc, vS2] at *)
            all_goals (try (fail_if_success (with_reducible apply Exists.intro)); first | with_reducible assumption | omega | exact mdl (by omega) | exact ilo1 (by omega) | exact ilo2 (by omega) | exact ihi1 (by omega) (by omega) | exact ihi2 (by omega) (by omega))
            conv => pattern (aeffV _ _ _ _); whnf
            have hres : (chLt n).res (M, l ++ [(k : Int)], (k : Int) + 1, ((m + 1 : Nat) : Int) - 1, ()) = .val (.one (.d .nil)) := by
              show chVal (chM M (((m + 1 : Nat) : Int) - 1).toNat (l ++ [(k : Int)]) ((k : Int) + 1).toNat) = _
              rw [show (((m + 1 : Nat) : Int) - 1).toNat = m by omega, show ((k : Int) + 1).toNat = k + 1 by omega, hch]; rfl
            rw [hres]
            (repeat' (first | (with_reducible first | exact True.intro | refine zQ ?_ | (refine zG hG_ ?_; intro K_ hK_) | (refine zR ?_; intro K_ hK_) | (refine hK_ _ _ ?_; try clear hK_ K_) | refine sq_n ?_ | refine sq_r ?_ | refine sq_e ?_ | refine bq_n ?_ | refine bq_r ?_ | refine bq_q ?_ | refine zB ?_ | refine zX ?_ | refine zT ?_ | refine zK ?_ | refine gq_n ?_ | refine gq_r ?_ | refine gq_e ?_ | refine lq_n ?_ | refine lq_r ?_ | refine lq_e ?_ | refine bq_e (by decide) ?_) | ((with_reducible refine zC (b := ?b_) ?hb_ ?_ ?_); case hb_ => rfl) | ((conv => whnf); first | (with_reducible refine hK_ _ _ ?_; try clear hK_ K_) | (with_reducible refine fun (g_ : Sl) (o_ : Ow) => ?_) | (with_reducible first | exact True.intro | refine And.intro trivial ?_ | refine And.intro ?_ ?_) | exact Nat.le_of_ble_eq_true rfl | exact Or.inl rfl | (intro h_; cases h_) | (intro h_; (try simp only [vS1] at h_)) | rfl))) <;> (try (conv => whnf)) <;> (try first | change (_ : Int) ≤ _ | change (_ : Nat) ≤ _) <;> (try ((fail_if_success (with_reducible apply Exists.intro)); (try dsimp only); (try simp only [vS1]))) <;> (try simp (disch := omega) only [vS3, Int.add_sub_cancel, tn1, tnp, tnc, vS2] at *)
            all_goals (try (fail_if_success (with_reducible apply Exists.intro)); first | with_reducible assumption | omega | exact mdl (by omega) | exact ilo1 (by omega) | exact ilo2 (by omega) | exact ihi1 (by omega) (by omega) | exact ihi2 (by omega) (by omega))
            · exact ⟨⟨hM, hL.app (by omega) h_⟩, ⟨by omega, by omega⟩, by omega, by rw [List.length_append, List.length_singleton]; omega, by rw [List.length_append, List.length_singleton]; omega⟩
            · exact ⟨k + 1, by omega, ⟨⟨by omega, by omega⟩, hk3.trans (fsR_no hkl hch)⟩, by (repeat' (first | (with_reducible first | exact True.intro | refine And.intro ?_ ?_ | refine Head.mk ?_ ?_ ?_ ?_) | ((conv => lhs; whnf); first | (with_reducible first | rfl | exact vInt_s (by omega)) | exact rfl) | ((conv => whnf); first | (with_reducible first | exact True.intro | refine And.intro ?_ ?_)))) <;> (try (conv => lhs; whnf))⟩
          | some r =>
            have hrl : 0 < r.length := by rw [ch_len M m _ _ r hch, List.length_append, List.length_singleton]; omega
            have hRr : R = r := by
              have := hk3.trans (fsR_yes hkl hch)
              injection this
            (repeat' (first | (with_reducible first | exact True.intro | refine zQ ?_ | (refine zG hG_ ?_; intro K_ hK_) | (refine zR ?_; intro K_ hK_) | (refine hK_ _ _ ?_; try clear hK_ K_) | refine sq_n ?_ | refine sq_r ?_ | refine sq_e ?_ | refine bq_n ?_ | refine bq_r ?_ | refine bq_q ?_ | refine zB ?_ | refine zX ?_ | refine zT ?_ | refine zK ?_ | refine gq_n ?_ | refine gq_r ?_ | refine gq_e ?_ | refine lq_n ?_ | refine lq_r ?_ | refine lq_e ?_ | refine bq_e (by decide) ?_) | ((with_reducible refine zC (b := ?b_) ?hb_ ?_ ?_); case hb_ => rfl) | ((conv => whnf); first | (with_reducible refine hK_ _ _ ?_; try clear hK_ K_) | (with_reducible refine fun (g_ : Sl) (o_ : Ow) => ?_) | (with_reducible first | exact True.intro | refine And.intro trivial ?_ | refine And.intro ?_ ?_) | exact Nat.le_of_ble_eq_true rfl | exact Or.inl rfl | (intro h_; cases h_) | (intro h_; (try simp only [vS1] at h_)) | rfl))) <;> (try (conv => whnf)) <;> (try first | change (_ : Int) ≤ _ | change (_ : Nat) ≤ _) <;> (try ((fail_if_success (with_reducible apply Exists.intro)); (try dsimp only); (try simp only [vS1]))) <;> (try simp (disch := omega) only [vS3, Int.add_sub_cancel, tn1, tnp, tnc, vS2] at *)
            all_goals (try (fail_if_success (with_reducible apply Exists.intro)); first | with_reducible assumption | omega | exact mdl (by omega) | exact ilo1 (by omega) | exact ilo2 (by omega) | exact ihi1 (by omega) (by omega) | exact ihi2 (by omega) (by omega))
            conv => pattern (aeffV _ _ _ _); whnf
            have hres : (chLt n).res (M, l ++ [(k : Int)], (k : Int) + 1, ((m + 1 : Nat) : Int) - 1, ()) = rowI r := by
              show chVal (chM M (((m + 1 : Nat) : Int) - 1).toNat (l ++ [(k : Int)]) ((k : Int) + 1).toNat) = _
              rw [show (((m + 1 : Nat) : Int) - 1).toNat = m by omega, show ((k : Int) + 1).toNat = k + 1 by omega, hch]; rfl
            rw [hres]
            (repeat' (first | (with_reducible first | exact True.intro | refine zQ ?_ | (refine zG hG_ ?_; intro K_ hK_) | (refine zR ?_; intro K_ hK_) | (refine hK_ _ _ ?_; try clear hK_ K_) | refine sq_n ?_ | refine sq_r ?_ | refine sq_e ?_ | refine bq_n ?_ | refine bq_r ?_ | refine bq_q ?_ | refine zB ?_ | refine zX ?_ | refine zT ?_ | refine zK ?_ | refine gq_n ?_ | refine gq_r ?_ | refine gq_e ?_ | refine lq_n ?_ | refine lq_r ?_ | refine lq_e ?_ | refine bq_e (by decide) ?_) | ((with_reducible refine zC (b := ?b_) ?hb_ ?_ ?_); case hb_ => rfl) | ((conv => whnf); first | (with_reducible refine hK_ _ _ ?_; try clear hK_ K_) | (with_reducible refine fun (g_ : Sl) (o_ : Ow) => ?_) | (with_reducible first | exact True.intro | refine And.intro trivial ?_ | refine And.intro ?_ ?_) | exact Nat.le_of_ble_eq_true rfl | exact Or.inl rfl | (intro h_; cases h_) | (intro h_; (try simp only [vS1] at h_)) | rfl))) <;> (try (conv => whnf)) <;> (try first | change (_ : Int) ≤ _ | change (_ : Nat) ≤ _) <;> (try ((fail_if_success (with_reducible apply Exists.intro)); (try dsimp only); (try simp only [vS1]))) <;> (try simp (disch := omega) only [vS3, Int.add_sub_cancel, tn1, tnp, tnc, vS2] at *)
            all_goals (try (fail_if_success (with_reducible apply Exists.intro)); first | with_reducible assumption | omega | exact mdl (by omega) | exact ilo1 (by omega) | exact ilo2 (by omega) | exact ihi1 (by omega) (by omega) | exact ihi2 (by omega) (by omega))
            · exact ⟨⟨hM, hL.app (by omega) h_⟩, ⟨by omega, by omega⟩, by omega, by rw [List.length_append, List.length_singleton]; omega, by rw [List.length_append, List.length_singleton]; omega⟩
            · exact congrArg some hRr.symm
        · rw [fsR_end hkl] at hk3
          cases hk3
theorem choose_ok : Good1 Try.prog n_impl_choose chooseC := by
  refine Good1.imp (ch_all 65) fun x h => ⟨⟨h, ?_⟩, rfl⟩
  obtain ⟨-, -, -, h4, -⟩ := h.ok
  exact Int.lt_of_le_of_lt (Int.le_trans (Int.le_add_of_nonneg_left (Int.natCast_nonneg _)) h4) (by decide)
theorem masks_len (xs : List Pt) : (masksM xs).length = xs.length := by simp [masksM]
theorem masks_get {xs : List Pt} {k : Nat} (h : k < xs.length) : (masksM xs).getD k [] = maskM xs k := by
  unfold masksM
  rw [getD_lt _ (by simpa using h), List.getElem_map, List.getElem_range]
theorem mask_yes {xs : List Pt} (hr : roomOk xs = true) {k : Nat} (h : k < xs.length) : maskM xs k = (floorPts xs).map (seesS xs (pAt xs k)) := mask_ok (by unfold hasCor; rw [hr]; simp [btw]; omega)
theorem floor_le {xs : List Pt} (hr : roomOk xs = true) : (floorPts xs).length ≤ 1048576 := Nat.le_trans (floor_len xs) (by decide)
theorem masks_ok {xs : List Pt} (hr : roomOk xs = true) : MOk (masksM xs) := by
  have hxl := room_len hr
  have hl : ∀ k, k < xs.length → ((masksM xs).getD k []).length = (floorPts xs).length := fun k hk => by rw [masks_get hk, mask_yes hr hk, List.length_map]
  have hf := floor_le hr
  have hw : wid (masksM xs) = (floorPts xs).length := hl 0 (by omega)
  refine ⟨by rw [masks_len]; omega, by rw [masks_len]; omega, fun k hk => ?_, by rw [hw]; omega⟩
  rw [masks_len] at hk
  rw [hl k hk, hw]
def masksTo (xs : List Pt) (k : Nat) : Msk := (List.range k).map fun j : Nat => maskM xs j
theorem masksTo_succ (xs : List Pt) (k : Nat) : masksTo xs k ++ [maskM xs k] = masksTo xs (k + 1) := by unfold masksTo; rw [List.range_succ, List.map_append]; rfl
theorem masksTo_len (xs : List Pt) (k : Nat) : (masksTo xs k).length = k := by simp [masksTo]
def fewC : Con := mkCon [.room] (fun x => x.1.length ≤ 1048576) fun x => rowI (fewM x.1)
theorem few_bad {xs : List Pt} (h : roomOk xs = false) : fewM xs = [] := by unfold fewM; rw [h]; rfl
theorem few_ok {xs : List Pt} (h : roomOk xs = true) : fewM xs = (fewO (masksM xs)).getD [] := by unfold fewM; rw [h]; rfl
theorem lok_nil (M : Msk) : LOk M [] := ⟨by simp, fun j hj => by simp at hj⟩
theorem iFewest_ok : Good1 Try.prog n_impl_FewestCorners fewC := by
  refine good_ofG (tys := tyL) (env := [(n_impl_RoomOk, roomOkC), (n_impl_SeenMask, maskC), (n_impl_choose, chooseC)]) (envw := []) (envd := []) [10, 20, 22, 32] [] [] [20] [] mixed tys ⟨iRoomOk_ok, iSeenMask_ok, choose_ok, trivial⟩ trivial trivial Try.func33 rfl (by kernel_rfl) (by decide) (by kernel_rfl) ?_
  have hG_ := kpz [(0, [1]), (1, [1, 9]), (2, [2]), (3, [1, 3]), (4, [1, 3, 13, 14]), (5, [1, 3, 13, 14, 15]), (6, [1, 3, 4, 13, 14]), (7, [1, 3, 13, 14]), (8, [1, 3, 13, 14]), (9, [3, 5]), (10, [3, 5, 27]), (11, [3, 5]), (12, [3, 5, 6]), (13, [3, 5, 6, 34]), (14, [2]), (15, [2])] [(3, [10]), (4, [10]), (5, [10]), (6, [10]), (7, [10, 20]), (8, [10, 20]), (9, [10]), (10, [10]), (11, [10, 32]), (12, [10, 32]), (13, [10, 32]), (14, [10, 32]), (15, [10])] [] []
  rintro ⟨(xs : List Pt), ⟨⟩⟩ (h1 : xs.length ≤ _)
  (repeat' (first | (with_reducible first | exact True.intro | refine zQ ?_ | (refine zG hG_ ?_; intro K_ hK_) | (refine zR ?_; intro K_ hK_) | (refine hK_ _ _ ?_; try clear hK_ K_) | refine sq_n ?_ | refine sq_r ?_ | refine sq_e ?_ | refine bq_n ?_ | refine bq_r ?_ | refine bq_q ?_ | refine zB ?_ | refine zX ?_ | refine zT ?_ | refine zK ?_ | refine gq_n ?_ | refine gq_r ?_ | refine gq_e ?_ | refine lq_n ?_ | refine lq_r ?_ | refine lq_e ?_ | refine bq_e (by decide) ?_) | ((with_reducible refine zC (b := ?b_) ?hb_ ?_ ?_); case hb_ => rfl) | ((conv => whnf); first | (with_reducible refine hK_ _ _ ?_; try clear hK_ K_) | (with_reducible refine fun (g_ : Sl) (o_ : Ow) => ?_) | (with_reducible first | exact True.intro | refine And.intro trivial ?_ | refine And.intro ?_ ?_) | exact Nat.le_of_ble_eq_true rfl | exact Or.inl rfl | (intro h_; cases h_) | (intro h_; (try simp only [vS1] at h_)) | rfl))) <;> (try (conv => whnf)) <;> (try first | change (_ : Int) ≤ _ | change (_ : Nat) ≤ _) <;> (try ((fail_if_success (with_reducible apply Exists.intro)); (try dsimp only); (try simp only [vS1]))) <;> (try simp (disch := omega) only [vS3, Int.add_sub_cancel, tn1, tnp, tnc, vS2] at *)
  all_goals (try (fail_if_success (with_reducible apply Exists.intro)); first | with_reducible assumption | omega | exact mdl (by omega) | exact ilo1 (by omega) | exact ilo2 (by omega) | exact ihi1 (by omega) (by omega) | exact ihi2 (by omega) (by omega))
  · exact few_bad h_
  have hr : roomOk xs = true := h_
  have hxl := room_len hr
  have hmo := masks_ok hr
  refine awp'_loopG (α := Nat) (fun k ver_ => [(14, vInt k)]) (fun k ver_ => [(3, 10, false, .row t_sl_bool (.s .bool) (masksTo xs k))]) (fun k ver_ => []) (fun k => k ≤ xs.length) (fun k => xs.length - k) [1, 13] [] (0) ?_
  conv => whnf
  refine ⟨⟨?inv5_, ?vals5_, ?own5_, ?fix5_⟩, ?body5_⟩
  case' vals5_ => (repeat' (first | (with_reducible first | exact True.intro | refine And.intro ?_ ?_ | refine Head.mk ?_ ?_ ?_ ?_) | ((conv => lhs; whnf); first | (with_reducible first | rfl | exact vInt_s (by omega)) | exact rfl) | ((conv => whnf); first | (with_reducible first | exact True.intro | refine And.intro ?_ ?_)))) <;> (try (conv => lhs; whnf))
  case' own5_ => (repeat' (first | (with_reducible first | exact True.intro | refine And.intro ?_ ?_ | refine Head.mk ?_ ?_ ?_ ?_) | ((conv => lhs; whnf); first | (with_reducible first | rfl | exact vInt_s (by omega)) | exact rfl) | ((conv => whnf); first | (with_reducible first | exact True.intro | refine And.intro ?_ ?_)))) <;> (try (conv => lhs; whnf))
  case' fix5_ => (repeat' (first | (with_reducible first | exact True.intro | refine And.intro ?_ ?_ | refine Head.mk ?_ ?_ ?_ ?_) | ((conv => lhs; whnf); first | (with_reducible first | rfl | exact vInt_s (by omega)) | exact rfl) | ((conv => whnf); first | (with_reducible first | exact True.intro | refine And.intro ?_ ?_)))) <;> (try (conv => lhs; whnf))
  · exact Nat.zero_le _
  rintro k g_ o_ v_ hk
  have hml := masksTo_len xs k
  (repeat' (first | (with_reducible first | exact True.intro | refine zQ ?_ | (refine zG hG_ ?_; intro K_ hK_) | (refine zR ?_; intro K_ hK_) | (refine hK_ _ _ ?_; try clear hK_ K_) | refine sq_n ?_ | refine sq_r ?_ | refine sq_e ?_ | refine bq_n ?_ | refine bq_r ?_ | refine bq_q ?_ | refine zB ?_ | refine zX ?_ | refine zT ?_ | refine zK ?_ | refine gq_n ?_ | refine gq_r ?_ | refine gq_e ?_ | refine lq_n ?_ | refine lq_r ?_ | refine lq_e ?_ | refine bq_e (by decide) ?_) | ((with_reducible refine zC (b := ?b_) ?hb_ ?_ ?_); case hb_ => rfl) | ((conv => whnf); first | (with_reducible refine hK_ _ _ ?_; try clear hK_ K_) | (with_reducible refine fun (g_ : Sl) (o_ : Ow) => ?_) | (with_reducible first | exact True.intro | refine And.intro trivial ?_ | refine And.intro ?_ ?_) | exact Nat.le_of_ble_eq_true rfl | exact Or.inl rfl | (intro h_; cases h_) | (intro h_; (try simp only [vS1] at h_)) | rfl))) <;> (try (conv => whnf)) <;> (try first | change (_ : Int) ≤ _ | change (_ : Nat) ≤ _) <;> (try ((fail_if_success (with_reducible apply Exists.intro)); (try dsimp only); (try simp only [vS1]))) <;> (try simp (disch := omega) only [vS3, Int.add_sub_cancel, tn1, tnp, tnc, vS2] at *)
  all_goals (try (fail_if_success (with_reducible apply Exists.intro)); first | with_reducible assumption | omega | exact mdl (by omega) | exact ilo1 (by omega) | exact ilo2 (by omega) | exact ihi1 (by omega) (by omega) | exact ihi2 (by omega) (by omega))
  · refine ⟨k + 1, by omega, by omega, ?_⟩
    (repeat' (first | (with_reducible first | exact True.intro | refine And.intro ?_ ?_ | refine Head.mk ?_ ?_ ?_ ?_) | ((conv => lhs; whnf); first | (with_reducible first | rfl | exact vInt_s (by omega)) | exact rfl) | ((conv => whnf); first | (with_reducible first | exact True.intro | refine And.intro ?_ ?_)))) <;> (try (conv => lhs; whnf))
    exact congrArg (Own.row t_sl_bool (.s .bool)) (masksTo_succ xs k)
  obtain rfl : k = xs.length := by omega
  refine st_frz (pl := [10]) (ts := [3, 5]) (ps := []) ?_
  conv => whnf
  refine ⟨rfl, ?_⟩
  have hMl := masks_len xs
  have hfo : fewO (masksM xs) = fsR (fun n => chM (masksM xs) n [] 0) 1 (xs.length + 1) := by unfold fewO; rw [hMl]
  have hme : masksTo xs xs.length = masksM xs := rfl
  rw [hme]
  have hfw := few_ok hr
  generalize masksM xs = M at *
  refine awp'_loopG (α := Nat) (fun n ver_ => [(5, vInt n)]) (fun n ver_ => []) (fun n ver_ => []) (fun n => (1 ≤ n ∧ n ≤ xs.length + 1) ∧ fewO M = fsR (fun n => chM M n [] 0) n (xs.length + 1)) (fun n => xs.length + 1 - n) [3] [10] (1) ?_
  conv => whnf
  refine ⟨⟨?inv6_, ?vals6_, ?own6_, ?fix6_⟩, ?body6_⟩
  case' vals6_ => (repeat' (first | (with_reducible first | exact True.intro | refine And.intro ?_ ?_ | refine Head.mk ?_ ?_ ?_ ?_) | ((conv => lhs; whnf); first | (with_reducible first | rfl | exact vInt_s (by omega)) | exact rfl) | ((conv => whnf); first | (with_reducible first | exact True.intro | refine And.intro ?_ ?_)))) <;> (try (conv => lhs; whnf))
  case' own6_ => (repeat' (first | (with_reducible first | exact True.intro | refine And.intro ?_ ?_ | refine Head.mk ?_ ?_ ?_ ?_) | ((conv => lhs; whnf); first | (with_reducible first | rfl | exact vInt_s (by omega)) | exact rfl) | ((conv => whnf); first | (with_reducible first | exact True.intro | refine And.intro ?_ ?_)))) <;> (try (conv => lhs; whnf))
  case' fix6_ => (repeat' (first | (with_reducible first | exact True.intro | refine And.intro ?_ ?_ | refine Head.mk ?_ ?_ ?_ ?_) | ((conv => lhs; whnf); first | (with_reducible first | rfl | exact vInt_s (by omega)) | exact rfl) | ((conv => whnf); first | (with_reducible first | exact True.intro | refine And.intro ?_ ?_)))) <;> (try (conv => lhs; whnf))
  · exact ⟨⟨Nat.le_refl _, by omega⟩, hfo⟩
  rintro n g_ o_ v_ ⟨⟨hn1, hn2⟩, hn3⟩
  rcases Nat.lt_or_ge n (xs.length + 1) with hnl | hnl
  · have hpre : ChOk M [] 0 n := ⟨⟨hmo, lok_nil M⟩, ⟨by omega, by omega⟩, by omega, by simp; omega, by simp; omega⟩
    cases hch : chM M n [] 0 with
    | none =>
      (repeat' (first | (with_reducible first | exact True.intro | refine zQ ?_ | (refine zG hG_ ?_; intro K_ hK_) | (refine zR ?_; intro K_ hK_) | (refine hK_ _ _ ?_; try clear hK_ K_) | refine sq_n ?_ | refine sq_r ?_ | refine sq_e ?_ | refine bq_n ?_ | refine bq_r ?_ | refine bq_q ?_ | refine zB ?_ | refine zX ?_ | refine zT ?_ | refine zK ?_ | refine gq_n ?_ | refine gq_r ?_ | refine gq_e ?_ | refine lq_n ?_ | refine lq_r ?_ | refine lq_e ?_ | refine bq_e (by decide) ?_) | ((with_reducible refine zC (b := ?b_) ?hb_ ?_ ?_); case hb_ => rfl) | ((conv => whnf); first | (with_reducible refine hK_ _ _ ?_; try clear hK_ K_) | (with_reducible refine fun (g_ : Sl) (o_ : Ow) => ?_) | (with_reducible first | exact True.intro | refine And.intro trivial ?_ | refine And.intro ?_ ?_) | exact Nat.le_of_ble_eq_true rfl | exact Or.inl rfl | (intro h_; cases h_) | (intro h_; (try simp only [vS1] at h_)) | rfl))) <;> (try (conv => whnf)) <;> (try first | change (_ : Int) ≤ _ | change (_ : Nat) ≤ _) <;> (try ((fail_if_success (with_reducible apply Exists.intro)); (try dsimp only); (try simp only [vS1]))) <;> (try simp (disch := omega) only [vS3, Int.add_sub_cancel, tn1, tnp, tnc, vS2] at *)
      all_goals (try (fail_if_success (with_reducible apply Exists.intro)); first | with_reducible assumption | omega | exact mdl (by omega) | exact ilo1 (by omega) | exact ilo2 (by omega) | exact ihi1 (by omega) (by omega) | exact ihi2 (by omega) (by omega))
      conv => pattern (aeffV _ _ _ _); whnf
      have hres : chooseC.res (M, ([] : List Int), (0 : Int), (n : Int), ()) = .val (.one (.d .nil)) := by
        show chVal (chM M n [] 0) = _
        rw [hch]; rfl
      rw [hres]
      (repeat' (first | (with_reducible first | exact True.intro | refine zQ ?_ | (refine zG hG_ ?_; intro K_ hK_) | (refine zR ?_; intro K_ hK_) | (refine hK_ _ _ ?_; try clear hK_ K_) | refine sq_n ?_ | refine sq_r ?_ | refine sq_e ?_ | refine bq_n ?_ | refine bq_r ?_ | refine bq_q ?_ | refine zB ?_ | refine zX ?_ | refine zT ?_ | refine zK ?_ | refine gq_n ?_ | refine gq_r ?_ | refine gq_e ?_ | refine lq_n ?_ | refine lq_r ?_ | refine lq_e ?_ | refine bq_e (by decide) ?_) | ((with_reducible refine zC (b := ?b_) ?hb_ ?_ ?_); case hb_ => rfl) | ((conv => whnf); first | (with_reducible refine hK_ _ _ ?_; try clear hK_ K_) | (with_reducible refine fun (g_ : Sl) (o_ : Ow) => ?_) | (with_reducible first | exact True.intro | refine And.intro trivial ?_ | refine And.intro ?_ ?_) | exact Nat.le_of_ble_eq_true rfl | exact Or.inl rfl | (intro h_; cases h_) | (intro h_; (try simp only [vS1] at h_)) | rfl))) <;> (try (conv => whnf)) <;> (try first | change (_ : Int) ≤ _ | change (_ : Nat) ≤ _) <;> (try ((fail_if_success (with_reducible apply Exists.intro)); (try dsimp only); (try simp only [vS1]))) <;> (try simp (disch := omega) only [vS3, Int.add_sub_cancel, tn1, tnp, tnc, vS2] at *)
      all_goals (try (fail_if_success (with_reducible apply Exists.intro)); first | with_reducible assumption | omega | exact mdl (by omega) | exact ilo1 (by omega) | exact ilo2 (by omega) | exact ihi1 (by omega) (by omega) | exact ihi2 (by omega) (by omega))
      exact ⟨n + 1, by omega, ⟨⟨by omega, by omega⟩, hn3.trans (fsR_no (by omega) hch)⟩, by (repeat' (first | (with_reducible first | exact True.intro | refine And.intro ?_ ?_ | refine Head.mk ?_ ?_ ?_ ?_) | ((conv => lhs; whnf); first | (with_reducible first | rfl | exact vInt_s (by omega)) | exact rfl) | ((conv => whnf); first | (with_reducible first | exact True.intro | refine And.intro ?_ ?_)))) <;> (try (conv => lhs; whnf))⟩
    | some r =>
      have hrl := ch_len M n [] 0 r hch
      (repeat' (first | (with_reducible first | exact True.intro | refine zQ ?_ | (refine zG hG_ ?_; intro K_ hK_) | (refine zR ?_; intro K_ hK_) | (refine hK_ _ _ ?_; try clear hK_ K_) | refine sq_n ?_ | refine sq_r ?_ | refine sq_e ?_ | refine bq_n ?_ | refine bq_r ?_ | refine bq_q ?_ | refine zB ?_ | refine zX ?_ | refine zT ?_ | refine zK ?_ | refine gq_n ?_ | refine gq_r ?_ | refine gq_e ?_ | refine lq_n ?_ | refine lq_r ?_ | refine lq_e ?_ | refine bq_e (by decide) ?_) | ((with_reducible refine zC (b := ?b_) ?hb_ ?_ ?_); case hb_ => rfl) | ((conv => whnf); first | (with_reducible refine hK_ _ _ ?_; try clear hK_ K_) | (with_reducible refine fun (g_ : Sl) (o_ : Ow) => ?_) | (with_reducible first | exact True.intro | refine And.intro trivial ?_ | refine And.intro ?_ ?_) | exact Nat.le_of_ble_eq_true rfl | exact Or.inl rfl | (intro h_; cases h_) | (intro h_; (try simp only [vS1] at h_)) | rfl))) <;> (try (conv => whnf)) <;> (try first | change (_ : Int) ≤ _ | change (_ : Nat) ≤ _) <;> (try ((fail_if_success (with_reducible apply Exists.intro)); (try dsimp only); (try simp only [vS1]))) <;> (try simp (disch := omega) only [vS3, Int.add_sub_cancel, tn1, tnp, tnc, vS2] at *)
      all_goals (try (fail_if_success (with_reducible apply Exists.intro)); first | with_reducible assumption | omega | exact mdl (by omega) | exact ilo1 (by omega) | exact ilo2 (by omega) | exact ihi1 (by omega) (by omega) | exact ihi2 (by omega) (by omega))
      conv => pattern (aeffV _ _ _ _); whnf
      have hres : chooseC.res (M, ([] : List Int), (0 : Int), (n : Int), ()) = rowI r := by
        show chVal (chM M n [] 0) = _
        rw [hch]; rfl
      rw [hres]
      (repeat' (first | (with_reducible first | exact True.intro | refine zQ ?_ | (refine zG hG_ ?_; intro K_ hK_) | (refine zR ?_; intro K_ hK_) | (refine hK_ _ _ ?_; try clear hK_ K_) | refine sq_n ?_ | refine sq_r ?_ | refine sq_e ?_ | refine bq_n ?_ | refine bq_r ?_ | refine bq_q ?_ | refine zB ?_ | refine zX ?_ | refine zT ?_ | refine zK ?_ | refine gq_n ?_ | refine gq_r ?_ | refine gq_e ?_ | refine lq_n ?_ | refine lq_r ?_ | refine lq_e ?_ | refine bq_e (by decide) ?_) | ((with_reducible refine zC (b := ?b_) ?hb_ ?_ ?_); case hb_ => rfl) | ((conv => whnf); first | (with_reducible refine hK_ _ _ ?_; try clear hK_ K_) | (with_reducible refine fun (g_ : Sl) (o_ : Ow) => ?_) | (with_reducible first | exact True.intro | refine And.intro trivial ?_ | refine And.intro ?_ ?_) | exact Nat.le_of_ble_eq_true rfl | exact Or.inl rfl | (intro h_; cases h_) | (intro h_; (try simp only [vS1] at h_)) | rfl))) <;> (try (conv => whnf)) <;> (try first | change (_ : Int) ≤ _ | change (_ : Nat) ≤ _) <;> (try ((fail_if_success (with_reducible apply Exists.intro)); (try dsimp only); (try simp only [vS1]))) <;> (try simp (disch := omega) only [vS3, Int.add_sub_cancel, tn1, tnp, tnc, vS2] at *)
      all_goals (try (fail_if_success (with_reducible apply Exists.intro)); first | with_reducible assumption | omega | exact mdl (by omega) | exact ilo1 (by omega) | exact ilo2 (by omega) | exact ihi1 (by omega) (by omega) | exact ihi2 (by omega) (by omega))
      exact congrArg some (by rw [hfw, hn3.trans (fsR_yes (by omega) hch)]; rfl)
  · (repeat' (first | (with_reducible first | exact True.intro | refine zQ ?_ | (refine zG hG_ ?_; intro K_ hK_) | (refine zR ?_; intro K_ hK_) | (refine hK_ _ _ ?_; try clear hK_ K_) | refine sq_n ?_ | refine sq_r ?_ | refine sq_e ?_ | refine bq_n ?_ | refine bq_r ?_ | refine bq_q ?_ | refine zB ?_ | refine zX ?_ | refine zT ?_ | refine zK ?_ | refine gq_n ?_ | refine gq_r ?_ | refine gq_e ?_ | refine lq_n ?_ | refine lq_r ?_ | refine lq_e ?_ | refine bq_e (by decide) ?_) | ((with_reducible refine zC (b := ?b_) ?hb_ ?_ ?_); case hb_ => rfl) | ((conv => whnf); first | (with_reducible refine hK_ _ _ ?_; try clear hK_ K_) | (with_reducible refine fun (g_ : Sl) (o_ : Ow) => ?_) | (with_reducible first | exact True.intro | refine And.intro trivial ?_ | refine And.intro ?_ ?_) | exact Nat.le_of_ble_eq_true rfl | exact Or.inl rfl | (intro h_; cases h_) | (intro h_; (try simp only [vS1] at h_)) | rfl))) <;> (try (conv => whnf)) <;> (try first | change (_ : Int) ≤ _ | change (_ : Nat) ≤ _) <;> (try ((fail_if_success (with_reducible apply Exists.intro)); (try dsimp only); (try simp only [vS1]))) <;> (try simp (disch := omega) only [vS3, Int.add_sub_cancel, tn1, tnp, tnc, vS2] at *)
    all_goals (try (fail_if_success (with_reducible apply Exists.intro)); first | with_reducible assumption | omega | exact mdl (by omega) | exact ilo1 (by omega) | exact ilo2 (by omega) | exact ihi1 (by omega) (by omega) | exact ihi2 (by omega) (by omega))
    rw [hfw, hn3, fsR_end (by omega)]; rfl
def cntC : Con := mkCon [.room] (fun x => x.1.length ≤ 1048576) fun x => vI ((fewM x.1).length)
theorem iCount_ok : Good1 Try.prog n_impl_CountGuards cntC := by
  refine good_ofG (tys := tyL) (env := [(n_impl_FewestCorners, fewC)]) (envw := []) (envd := []) [] [] [] [] [] mixed tys ⟨iFewest_ok, trivial⟩ trivial trivial Try.func37 rfl (by kernel_rfl) (by decide) (by kernel_rfl) ?_
  have hG_ := kpz [(0, [1]), (1, [2])] [] [] []
  rintro ⟨(xs : List Pt), ⟨⟩⟩ (h1 : xs.length ≤ _)
  (repeat' (first | (with_reducible first | exact True.intro | refine zQ ?_ | (refine zG hG_ ?_; intro K_ hK_) | (refine zR ?_; intro K_ hK_) | (refine hK_ _ _ ?_; try clear hK_ K_) | refine sq_n ?_ | refine sq_r ?_ | refine sq_e ?_ | refine bq_n ?_ | refine bq_r ?_ | refine bq_q ?_ | refine zB ?_ | refine zX ?_ | refine zT ?_ | refine zK ?_ | refine gq_n ?_ | refine gq_r ?_ | refine gq_e ?_ | refine lq_n ?_ | refine lq_r ?_ | refine lq_e ?_ | refine bq_e (by decide) ?_) | ((with_reducible refine zC (b := ?b_) ?hb_ ?_ ?_); case hb_ => rfl) | ((conv => whnf); first | (with_reducible refine hK_ _ _ ?_; try clear hK_ K_) | (with_reducible refine fun (g_ : Sl) (o_ : Ow) => ?_) | (with_reducible first | exact True.intro | refine And.intro trivial ?_ | refine And.intro ?_ ?_) | exact Nat.le_of_ble_eq_true rfl | exact Or.inl rfl | (intro h_; cases h_) | (intro h_; (try simp only [vS1] at h_)) | rfl))) <;> (try (conv => whnf)) <;> (try first | change (_ : Int) ≤ _ | change (_ : Nat) ≤ _) <;> (try ((fail_if_success (with_reducible apply Exists.intro)); (try dsimp only); (try simp only [vS1])))
  all_goals (try (fail_if_success (with_reducible apply Exists.intro)); first | with_reducible assumption | omega | exact mdl (by omega) | exact ilo1 (by omega) | exact ilo2 (by omega) | exact ihi1 (by omega) (by omega) | exact ihi2 (by omega) (by omega))
end Go.Proofs.Ytnepfcnlngpchaa
namespace Go.Proofs.Ytnepfcnlngpchaa
open Go.RowKit Go.Proofs.Ytnepfcnlngpchaa.Nm
set_option maxRecDepth 10000
set_option maxHeartbeats 2000000
def sightM (xs : List Pt) (p : Pt) : List Bool := xs.map fun c => seesS xs c p
theorem sightM_len (xs : List Pt) (p : Pt) : (sightM xs p).length = xs.length := List.length_map _
theorem sightM_get {xs : List Pt} {p : Pt} {k : Nat} (h : k < xs.length) : (sightM xs p).getD k false = seesS xs (pAt xs k) p := by
  unfold sightM
  rw [getD_lt _ (by simpa using h), List.getElem_map, show pAt xs k = xs[k] from getD_lt _ h]
def sightC : Con := mkCon [.room, .pt] (fun x => roomOk x.1 = true ∧ ptOk x.2.1 = true) fun x => rowB (sightM x.1 x.2.1)
theorem sightOf_ok : Good1 Try.prog n_impl_sightOf sightC := by
  refine good_ofG (tys := tyL) (env := [(n_impl_sees, sees2C)]) (envw := []) (envd := []) [8] [] [] [] [] mixed tys ⟨sees2_ok, trivial⟩ trivial trivial Try.func95 rfl (by kernel_rfl) (by decide) (by kernel_rfl) ?_
  have hG_ := kpz [(0, [2, 3]), (1, [2, 3, 5]), (2, [2, 3, 5, 10, 11, 12]), (3, [2, 3, 5, 10, 11, 12, 13]), (4, [2, 3, 5, 7, 10, 11, 12]), (5, [2, 3, 5, 10, 11, 12]), (6, [2, 3, 5, 10, 11, 12]), (7, [4])] [(1, [8]), (2, [8]), (3, [8]), (4, [7, 8]), (5, [8]), (6, [8]), (7, [8])] [] []
  rintro ⟨(xs : List Pt), ⟨(p : Int), (q : Int)⟩, ⟨⟩⟩ ⟨(hr : roomOk xs = true), (hp : ptOk (p, q) = true)⟩
  have hl := (room_len hr).2
  (repeat' (first | (with_reducible first | exact True.intro | refine zQ ?_ | (refine zG hG_ ?_; intro K_ hK_) | (refine zR ?_; intro K_ hK_) | (refine hK_ _ _ ?_; try clear hK_ K_) | refine sq_n ?_ | refine sq_r ?_ | refine sq_e ?_ | refine bq_n ?_ | refine bq_r ?_ | refine bq_q ?_ | refine zB ?_ | refine zX ?_ | refine zT ?_ | refine zK ?_ | refine gq_n ?_ | refine gq_r ?_ | refine gq_e ?_ | refine lq_n ?_ | refine lq_r ?_ | refine lq_e ?_ | refine bq_e (by decide) ?_) | ((with_reducible refine zC (b := ?b_) ?hb_ ?_ ?_); case hb_ => rfl) | ((conv => whnf); first | (with_reducible refine hK_ _ _ ?_; try clear hK_ K_) | (with_reducible refine fun (g_ : Sl) (o_ : Ow) => ?_) | (with_reducible first | exact True.intro | refine And.intro trivial ?_ | refine And.intro ?_ ?_) | exact Nat.le_of_ble_eq_true rfl | exact Or.inl rfl | (intro h_; cases h_) | (intro h_; (try simp only [vS1] at h_)) | rfl))) <;> (try (conv => whnf)) <;> (try first | change (_ : Int) ≤ _ | change (_ : Nat) ≤ _) <;> (try ((fail_if_success (with_reducible apply Exists.intro)); (try dsimp only); (try simp only [vS1]))) <;> (try simp (disch := omega) only [vS3, Int.add_sub_cancel, tn1, tnp, tnc, vS2] at *)
  all_goals (try (fail_if_success (with_reducible apply Exists.intro)); first | with_reducible assumption | omega | exact mdl (by omega) | exact ilo1 (by omega) | exact ilo2 (by omega) | exact ihi1 (by omega) (by omega) | exact ihi2 (by omega) (by omega))
  refine awp'_loopG (α := Nat) (fun k ver_ => [(12, vInt k)]) (fun k ver_ => [(5, 8, false, .row t_bool (.b .bool) ((xs.take k).map fun c => seesS xs c (p, q)))]) (fun k ver_ => []) (fun k => k ≤ xs.length) (fun k => xs.length - k) [2, 3, 10, 11] [] (0) ?_
  conv => whnf
  refine ⟨⟨?inv1_, ?vals1_, ?own1_, ?fix1_⟩, ?body1_⟩
  case' vals1_ => (repeat' (first | (with_reducible first | exact True.intro | refine And.intro ?_ ?_ | refine Head.mk ?_ ?_ ?_ ?_) | ((conv => lhs; whnf); first | (with_reducible first | rfl | exact vInt_s (by omega)) | exact rfl) | ((conv => whnf); first | (with_reducible first | exact True.intro | refine And.intro ?_ ?_)))) <;> (try (conv => lhs; whnf))
  case' own1_ => (repeat' (first | (with_reducible first | exact True.intro | refine And.intro ?_ ?_ | refine Head.mk ?_ ?_ ?_ ?_) | ((conv => lhs; whnf); first | (with_reducible first | rfl | exact vInt_s (by omega)) | exact rfl) | ((conv => whnf); first | (with_reducible first | exact True.intro | refine And.intro ?_ ?_)))) <;> (try (conv => lhs; whnf))
  case' fix1_ => (repeat' (first | (with_reducible first | exact True.intro | refine And.intro ?_ ?_ | refine Head.mk ?_ ?_ ?_ ?_) | ((conv => lhs; whnf); first | (with_reducible first | rfl | exact vInt_s (by omega)) | exact rfl) | ((conv => whnf); first | (with_reducible first | exact True.intro | refine And.intro ?_ ?_)))) <;> (try (conv => lhs; whnf))
  · exact Nat.zero_le _
  rintro k g_ o_ v_ hk
  (repeat' (first | (with_reducible first | exact True.intro | refine zQ ?_ | (refine zG hG_ ?_; intro K_ hK_) | (refine zR ?_; intro K_ hK_) | (refine hK_ _ _ ?_; try clear hK_ K_) | refine sq_n ?_ | refine sq_r ?_ | refine sq_e ?_ | refine bq_n ?_ | refine bq_r ?_ | refine bq_q ?_ | refine zB ?_ | refine zX ?_ | refine zT ?_ | refine zK ?_ | refine gq_n ?_ | refine gq_r ?_ | refine gq_e ?_ | refine lq_n ?_ | refine lq_r ?_ | refine lq_e ?_ | refine bq_e (by decide) ?_) | ((with_reducible refine zC (b := ?b_) ?hb_ ?_ ?_); case hb_ => rfl) | ((conv => whnf); first | (with_reducible refine hK_ _ _ ?_; try clear hK_ K_) | (with_reducible refine fun (g_ : Sl) (o_ : Ow) => ?_) | (with_reducible first | exact True.intro | refine And.intro trivial ?_ | refine And.intro ?_ ?_) | exact Nat.le_of_ble_eq_true rfl | exact Or.inl rfl | (intro h_; cases h_) | (intro h_; (try simp only [vS1] at h_)) | rfl))) <;> (try (conv => whnf)) <;> (try first | change (_ : Int) ≤ _ | change (_ : Nat) ≤ _) <;> (try ((fail_if_success (with_reducible apply Exists.intro)); (try dsimp only); (try simp only [vS1]))) <;> (try simp (disch := omega) only [vS3, Int.add_sub_cancel, tn1, tnp, tnc, vS2] at *)
  all_goals (try (fail_if_success (with_reducible apply Exists.intro)); first | with_reducible assumption | omega | exact mdl (by omega) | exact ilo1 (by omega) | exact ilo2 (by omega) | exact ihi1 (by omega) (by omega) | exact ihi2 (by omega) (by omega))
  · exact room_pt hr (by omega)
  · refine ⟨k + 1, by omega, by omega, ?_⟩
    (repeat' (first | (with_reducible first | exact True.intro | refine And.intro ?_ ?_ | refine Head.mk ?_ ?_ ?_ ?_) | ((conv => lhs; whnf); first | (with_reducible first | rfl | exact vInt_s (by omega)) | exact rfl) | ((conv => whnf); first | (with_reducible first | exact True.intro | refine And.intro ?_ ?_)))) <;> (try (conv => lhs; whnf))
    exact congrArg (Own.row _ _) (map_take_succ' (fun c => seesS xs c (p, q)) (0, 0) (by assumption)).symm
  · rw [List.take_of_length_le (by omega)]; rfl
def witM (xs l : List Pt) : Bool := decide (l.length ≤ 10) && (allInM xs l && (List.range xs.length).all fun k => (List.range l.length).all fun i => (List.range i).all fun j => !(seesS xs (pAt xs k) (pAt l i) && seesS xs (pAt xs k) (pAt l j)))
theorem witM_iff {xs l : List Pt} : witM xs l = true ↔ l.length ≤ 10 ∧ allInM xs l = true ∧ ∀ k, k < xs.length → ∀ i, i < l.length → ∀ j, j < i → ¬ (seesS xs (pAt xs k) (pAt l i) = true ∧ seesS xs (pAt xs k) (pAt l j) = true) := by
  unfold witM
  simp only [Bool.and_eq_true, decide_eq_true_eq, List.all_eq_true, List.mem_range, Bool.not_eq_true']
  refine and_congr_right fun _ => and_congr_right fun _ => forall_congr' fun k => forall_congr' fun _ => forall_congr' fun i => forall_congr' fun _ => forall_congr' fun j => forall_congr' fun _ => ?_
  rw [← Bool.not_eq_true, Bool.and_eq_true]
def witC : Con := mkCon [.room, .sl (.b .pt)] (fun x => x.1.length ≤ 1048576 ∧ x.2.1.length ≤ 1048576) fun x => vB (witM x.1 x.2.1)
def seenBef (xs l : List Pt) (i : Nat) : List Bool := xs.map fun c => (l.take i).any fun p => seesS xs c p
theorem seenBef_len (xs l : List Pt) (i : Nat) : (seenBef xs l i).length = xs.length := List.length_map _
theorem seenBef_get {xs l : List Pt} {i k : Nat} (h : k < xs.length) : (seenBef xs l i).getD k false = (l.take i).any fun p => seesS xs (pAt xs k) p := by
  unfold seenBef
  rw [getD_lt _ (by simpa using h), List.getElem_map, show pAt xs k = xs[k] from getD_lt _ h]
theorem seenBef_zero (xs l : List Pt) : seenBef xs l 0 = List.replicate xs.length false := by
  unfold seenBef
  exact List.ext_getElem (by simp) fun j h1 h2 => by simp
theorem seenBef_succ {xs l : List Pt} {i k : Nat} (h : k < xs.length) (hi : i < l.length) : (seenBef xs l (i + 1)).getD k false = ((seenBef xs l i).getD k false || seesS xs (pAt xs k) (pAt l i)) := by
  rw [seenBef_get h, seenBef_get h, any_succ (0, 0) hi]
theorem take_any_ex {l : List Pt} {f : Pt → Bool} {i : Nat} (hi : i ≤ l.length) : (l.take i).any f = true ↔ ∃ j, j < i ∧ f (pAt l j) = true := by
  rw [List.any_eq_true]
  constructor
  · rintro ⟨x, hx, hf⟩
    obtain ⟨j, hj, rfl⟩ := List.getElem_of_mem hx
    rw [List.length_take] at hj
    rw [List.getElem_take] at hf
    exact ⟨j, by omega, by rw [show pAt l j = l[j] from getD_lt _ (by omega)]; exact hf⟩
  · rintro ⟨j, hj, hf⟩
    refine ⟨pAt l j, ?_, hf⟩
    rw [show pAt l j = l[j] from getD_lt _ (by omega), List.mem_iff_getElem]
    exact ⟨j, by rw [List.length_take]; omega, List.getElem_take⟩
theorem mix_getD {α : Type} {A B : List α} {k j : Nat} {d : α} (hA : k ≤ A.length) (hB : B.length = A.length) : (A.take k ++ B.drop k).getD j d = if j < k then A.getD j d else B.getD j d := by
  rw [List.getD_eq_getElem?_getD, List.getD_eq_getElem?_getD, List.getD_eq_getElem?_getD]
  split
  · rename_i h
    rw [List.getElem?_append_left (by simp; omega), List.getElem?_take, if_pos h]
  · rename_i h
    rw [List.getElem?_append_right (by simp; omega), List.length_take, Nat.min_eq_left hA, List.getElem?_drop, show k + (j - k) = j by omega]
theorem mix_put {α : Type} {xs ys : List α} {k : Nat} (h : k < xs.length) (hl : xs.length = ys.length) (d : α) : (ys.take k ++ xs.drop k).set k (ys.getD k d) = ys.take (k + 1) ++ xs.drop (k + 1) := by
  rw [List.set_append_right _ _ (by simp; omega), List.take_succ_eq_append_getElem (by omega), getD_lt _ (by omega), List.append_assoc]
  congr 1
  rw [List.length_take, Nat.min_eq_left (by omega), Nat.sub_self, List.drop_eq_getElem_cons h]
  rfl
theorem wit_get {xs l : List Pt} {i k : Nat} (h1 : k ≤ xs.length) (h2 : True) (hk : k < xs.length) : ((seenBef xs l (i + 1)).take k ++ (seenBef xs l i).drop k).getD k false = (seenBef xs l i).getD k false := by
  rw [mix_getD (by rw [seenBef_len]; omega) (by rw [seenBef_len, seenBef_len]), if_neg (by omega)]
theorem wit_set {xs l : List Pt} {i k : Nat} {b : Bool} (h1 : True) (hk : k < xs.length) (hi : i < l.length) (e : b = ((seenBef xs l i).getD k false || seesS xs (pAt xs k) (pAt l i))) : ((seenBef xs l (i + 1)).take k ++ (seenBef xs l i).drop k).set k b = (seenBef xs l (i + 1)).take (k + 1) ++ (seenBef xs l i).drop (k + 1) := by
  rw [e, ← seenBef_succ hk hi, mix_put (by rw [seenBef_len]; exact hk) (by rw [seenBef_len, seenBef_len])]
theorem mix_len {α : Type} {A B : List α} {k : Nat} (hA : k ≤ A.length) (hB : B.length = A.length) : (A.take k ++ B.drop k).length = A.length := by simp; omega
theorem iAreWitnesses_ok : Good1 Try.prog n_impl_AreWitnesses witC := by
  refine good_ofG (tys := tyL) (env := [(n_impl_allIn, allInC), (n_impl_sightOf, sightC)]) (envw := []) (envd := []) [] [] [] [] [] mixed tys ⟨allIn_ok, sightOf_ok, trivial⟩ trivial trivial Try.func43 rfl (by kernel_rfl) (by decide) (by kernel_rfl) ?_
  have hG_ := kpz [(0, [1, 2]), (1, [1, 2, 18]), (2, [4]), (3, [1, 2, 5]), (4, [2, 5, 23, 24, 25]), (5, [2, 5, 23, 24, 25, 26]), (6, [2, 5, 7, 23, 24, 25]), (7, [2, 5, 23, 24, 25, 31, 32, 33]), (8, [2, 5, 23, 24, 25, 31, 32, 33, 34]), (9, [2, 5, 8, 9, 23, 24, 25, 31, 32, 33]), (10, [2, 5, 8, 9, 23, 24, 25, 31, 32, 33, 44]), (11, [4]), (12, [2, 5, 23, 24, 25, 31, 32, 33]), (13, [2, 5, 23, 24, 25, 31, 32, 33]), (14, [2, 5, 23, 24, 25]), (15, [4])] [(3, [22]), (4, [22]), (5, [22]), (6, [7, 22]), (7, [22]), (8, [22]), (9, [22]), (10, [22]), (11, [22]), (12, [22]), (13, [22]), (14, [22]), (15, [22])] [] []
  rintro ⟨(xs : List Pt), (l : List Pt), ⟨⟩⟩ ⟨(h1 : xs.length ≤ _), (h2 : l.length ≤ _)⟩
  (repeat' (first | (with_reducible first | exact True.intro | refine zQ ?_ | (refine zG hG_ ?_; intro K_ hK_) | (refine zR ?_; intro K_ hK_) | (refine hK_ _ _ ?_; try clear hK_ K_) | refine sq_n ?_ | refine sq_r ?_ | refine sq_e ?_ | refine bq_n ?_ | refine bq_r ?_ | refine bq_q ?_ | refine zB ?_ | refine zX ?_ | refine zT ?_ | refine zK ?_ | refine gq_n ?_ | refine gq_r ?_ | refine gq_e ?_ | refine lq_n ?_ | refine lq_r ?_ | refine lq_e ?_ | refine bq_e (by decide) ?_) | ((with_reducible refine zC (b := ?b_) ?hb_ ?_ ?_); case hb_ => rfl) | ((conv => whnf); first | (with_reducible refine hK_ _ _ ?_; try clear hK_ K_) | (with_reducible refine fun (g_ : Sl) (o_ : Ow) => ?_) | (with_reducible first | exact True.intro | refine And.intro trivial ?_ | refine And.intro ?_ ?_) | exact Nat.le_of_ble_eq_true rfl | exact Or.inl rfl | (intro h_; cases h_) | (intro h_; (try simp only [vS1] at h_)) | rfl))) <;> (try (conv => whnf)) <;> (try first | change (_ : Int) ≤ _ | change (_ : Nat) ≤ _) <;> (try ((fail_if_success (with_reducible apply Exists.intro)); (try dsimp only); (try simp only [vS1]))) <;> (try simp (disch := omega) only [vS3, Int.add_sub_cancel, tn1, tnp, tnc, vS2] at *)
  all_goals (try (fail_if_success (with_reducible apply Exists.intro)); first | with_reducible assumption | omega | exact mdl (by omega) | exact ilo1 (by omega) | exact ilo2 (by omega) | exact ihi1 (by omega) (by omega) | exact ihi2 (by omega) (by omega))
  · exact eq_false_of fun hc => by have := (witM_iff.1 hc).1; omega
  · exact eq_false_of fun hc => by have h := (witM_iff.1 hc).2.1; rw [‹allInM xs l = false›] at h; cases h
  have hin : allInM xs l = true := by assumption
  have hr := (allIn_iff.1 hin).1
  have h10 : l.length ≤ 10 := by omega
  have hlr := (room_len hr).2
  refine awp'_loopG (α := Nat) (fun i ver_ => [(25, vInt i)]) (fun i ver_ => [(5, 22, false, .row t_bool (.b .bool) (seenBef xs l i))]) (fun i ver_ => []) (fun i => i ≤ l.length ∧ ∀ k, k < xs.length → ∀ i', i' < i → ∀ j, j < i' → ¬ (seesS xs (pAt xs k) (pAt l i') = true ∧ seesS xs (pAt xs k) (pAt l j) = true)) (fun i => l.length - i) [2, 23, 24] [] (0) ?_
  conv => whnf
  refine ⟨⟨?inv2_, ?vals2_, ?own2_, ?fix2_⟩, ?body2_⟩
  case' vals2_ => (repeat' (first | (with_reducible first | exact True.intro | refine And.intro ?_ ?_ | refine Head.mk ?_ ?_ ?_ ?_) | ((conv => lhs; whnf); first | (with_reducible first | rfl | exact vInt_s (by omega)) | exact rfl) | ((conv => whnf); first | (with_reducible first | exact True.intro | refine And.intro ?_ ?_)))) <;> (try (conv => lhs; whnf))
  case' own2_ => (repeat' (first | (with_reducible first | exact True.intro | refine And.intro ?_ ?_ | refine Head.mk ?_ ?_ ?_ ?_) | ((conv => lhs; whnf); first | (with_reducible first | rfl | exact vInt_s (by omega)) | exact rfl) | ((conv => whnf); first | (with_reducible first | exact True.intro | refine And.intro ?_ ?_)))) <;> (try (conv => lhs; whnf))
  case' fix2_ => (repeat' (first | (with_reducible first | exact True.intro | refine And.intro ?_ ?_ | refine Head.mk ?_ ?_ ?_ ?_) | ((conv => lhs; whnf); first | (with_reducible first | rfl | exact vInt_s (by omega)) | exact rfl) | ((conv => whnf); first | (with_reducible first | exact True.intro | refine And.intro ?_ ?_)))) <;> (try (conv => lhs; whnf))
  · exact congrArg (Own.row _ _) (seenBef_zero xs l).symm
  · exact ⟨Nat.zero_le _, fun k hk i' hi => absurd hi (by omega)⟩
  rintro i g_ o_ v_ ⟨hi, hall⟩
  have hsl := seenBef_len xs l i
  (repeat' (first | (with_reducible first | exact True.intro | refine zQ ?_ | (refine zG hG_ ?_; intro K_ hK_) | (refine zR ?_; intro K_ hK_) | (refine hK_ _ _ ?_; try clear hK_ K_) | refine sq_n ?_ | refine sq_r ?_ | refine sq_e ?_ | refine bq_n ?_ | refine bq_r ?_ | refine bq_q ?_ | refine zB ?_ | refine zX ?_ | refine zT ?_ | refine zK ?_ | refine gq_n ?_ | refine gq_r ?_ | refine gq_e ?_ | refine lq_n ?_ | refine lq_r ?_ | refine lq_e ?_ | refine bq_e (by decide) ?_) | ((with_reducible refine zC (b := ?b_) ?hb_ ?_ ?_); case hb_ => rfl) | ((conv => whnf); first | (with_reducible refine hK_ _ _ ?_; try clear hK_ K_) | (with_reducible refine fun (g_ : Sl) (o_ : Ow) => ?_) | (with_reducible first | exact True.intro | refine And.intro trivial ?_ | refine And.intro ?_ ?_) | exact Nat.le_of_ble_eq_true rfl | exact Or.inl rfl | (intro h_; cases h_) | (intro h_; (try simp only [vS1] at h_)) | rfl))) <;> (try (conv => whnf)) <;> (try first | change (_ : Int) ≤ _ | change (_ : Nat) ≤ _) <;> (try ((fail_if_success (with_reducible apply Exists.intro)); (try dsimp only); (try simp only [vS1]))) <;> (try simp (disch := omega) only [vS3, Int.add_sub_cancel, tn1, tnp, tnc, vS2] at *)
  all_goals (try (fail_if_success (with_reducible apply Exists.intro)); first | with_reducible assumption | omega | exact mdl (by omega) | exact ilo1 (by omega) | exact ilo2 (by omega) | exact ihi1 (by omega) (by omega) | exact ihi2 (by omega) (by omega))
  · exact allIn_pt hin (by omega)
  have hgl := sightM_len xs (pAt l i)
  have hsl2 := seenBef_len xs l (i + 1)
  refine awp'_loopG (α := Nat) (fun k ver_ => [(33, vInt k)]) (fun k ver_ => [(5, 22, false, .row t_bool (.b .bool) ((seenBef xs l (i + 1)).take k ++ (seenBef xs l i).drop k))]) (fun k ver_ => []) (fun k => k ≤ xs.length ∧ ∀ k', k' < k → ∀ j, j < i → ¬ (seesS xs (pAt xs k') (pAt l i) = true ∧ seesS xs (pAt xs k') (pAt l j) = true)) (fun k => xs.length - k) [2, 23, 24, 25, 31, 32] [] (0) ?_
  conv => whnf
  refine ⟨⟨?inv3_, ?vals3_, ?own3_, ?fix3_⟩, ?body3_⟩
  case' vals3_ => (repeat' (first | (with_reducible first | exact True.intro | refine And.intro ?_ ?_ | refine Head.mk ?_ ?_ ?_ ?_) | ((conv => lhs; whnf); first | (with_reducible first | rfl | exact vInt_s (by omega)) | exact rfl) | ((conv => whnf); first | (with_reducible first | exact True.intro | refine And.intro ?_ ?_)))) <;> (try (conv => lhs; whnf))
  case' own3_ => (repeat' (first | (with_reducible first | exact True.intro | refine And.intro ?_ ?_ | refine Head.mk ?_ ?_ ?_ ?_) | ((conv => lhs; whnf); first | (with_reducible first | rfl | exact vInt_s (by omega)) | exact rfl) | ((conv => whnf); first | (with_reducible first | exact True.intro | refine And.intro ?_ ?_)))) <;> (try (conv => lhs; whnf))
  case' fix3_ => (repeat' (first | (with_reducible first | exact True.intro | refine And.intro ?_ ?_ | refine Head.mk ?_ ?_ ?_ ?_) | ((conv => lhs; whnf); first | (with_reducible first | rfl | exact vInt_s (by omega)) | exact rfl) | ((conv => whnf); first | (with_reducible first | exact True.intro | refine And.intro ?_ ?_)))) <;> (try (conv => lhs; whnf))
  · exact ⟨Nat.zero_le _, fun k hk => absurd hk (by omega)⟩
  rintro k g_ o_ v_ ⟨hk, hallk⟩
  (repeat' (first | (with_reducible first | exact True.intro | refine zQ ?_ | (refine zG hG_ ?_; intro K_ hK_) | (refine zR ?_; intro K_ hK_) | (refine hK_ _ _ ?_; try clear hK_ K_) | refine sq_n ?_ | refine sq_r ?_ | refine sq_e ?_ | refine bq_n ?_ | refine bq_r ?_ | refine bq_q ?_ | refine zB ?_ | refine zX ?_ | refine zT ?_ | refine zK ?_ | refine gq_n ?_ | refine gq_r ?_ | refine gq_e ?_ | refine lq_n ?_ | refine lq_r ?_ | refine lq_e ?_ | refine bq_e (by decide) ?_) | ((with_reducible refine zC (b := ?b_) ?hb_ ?_ ?_); case hb_ => rfl) | ((conv => whnf); first | (with_reducible refine hK_ _ _ ?_; try clear hK_ K_) | (with_reducible refine fun (g_ : Sl) (o_ : Ow) => ?_) | (with_reducible first | exact True.intro | refine And.intro trivial ?_ | refine And.intro ?_ ?_) | exact Nat.le_of_ble_eq_true rfl | exact Or.inl rfl | (intro h_; cases h_) | (intro h_; (try simp only [vS1] at h_)) | rfl))) <;> (try (conv => whnf)) <;> (try first | change (_ : Int) ≤ _ | change (_ : Nat) ≤ _) <;> (try ((fail_if_success (with_reducible apply Exists.intro)); (try dsimp only); (try simp only [vS1]))) <;> (try simp (disch := omega) only [vS3, Int.add_sub_cancel, tn1, tnp, tnc, vS2] at *) <;> (try simp only [sightM_len, seenBef_len] at *)
  all_goals (try (fail_if_success (with_reducible apply Exists.intro)); first | with_reducible assumption | omega | exact mdl (by omega) | exact ilo1 (by omega) | exact ilo2 (by omega) | exact ihi1 (by omega) (by omega) | exact ihi2 (by omega) (by omega))
  all_goals (try (have hkn : k < xs.length := by omega))
  all_goals (try (have hS : ∀ b, (sightM xs (l.getD i (ElK.b ElB.pt).dflt)).getD k (ElK.b ElB.bool).dflt = b → seesS xs (pAt xs k) (pAt l i) = b := fun b h => (sightM_get hkn).symm.trans h))
  all_goals (try (have hM : ∀ b, ((seenBef xs l (i + 1)).take k ++ (seenBef xs l i).drop k).getD k (ElK.b ElB.bool).dflt = b → (seenBef xs l i).getD k false = b := fun b h => (wit_get (by omega) trivial hkn).symm.trans h))
  · refine eq_false_of fun hc => ?_
    have h2 := hM _ ‹(List.take k _ ++ _).getD k _ = true›
    rw [seenBef_get hkn] at h2
    obtain ⟨j, hj, hs⟩ := (take_any_ex (by omega)).1 h2
    exact (witM_iff.1 hc).2.2 k hkn i (by omega) j hj ⟨hS _ (by assumption), hs⟩
  · exact absurd ((‹(List.take k _ ++ _).getD k _ = true›).symm.trans ‹(List.take k _ ++ _).getD k _ = false›) (by decide)
  · refine ⟨k + 1, by omega, ⟨by omega, lt_succ_all hallk fun j hj hc => ?_⟩, ?_⟩
    · have h2 := hM _ ‹(List.take k _ ++ _).getD k _ = false›
      rw [seenBef_get hkn, ← Bool.not_eq_true] at h2
      exact h2 ((take_any_ex (by omega)).2 ⟨j, hj, hc.2⟩)
    · (repeat' (first | (with_reducible first | exact True.intro | refine And.intro ?_ ?_ | refine Head.mk ?_ ?_ ?_ ?_) | ((conv => lhs; whnf); first | (with_reducible first | rfl | exact vInt_s (by omega)) | exact rfl) | ((conv => whnf); first | (with_reducible first | exact True.intro | refine And.intro ?_ ?_)))) <;> (try (conv => lhs; whnf))
      exact congrArg (Own.row _ _) (wit_set trivial hkn (by omega) (by rw [hS true (by assumption), Bool.or_true]; assumption))
  · refine ⟨k + 1, by omega, ⟨by omega, lt_succ_all hallk fun j hj hc => ?_⟩, ?_⟩
    · have := hS _ (by assumption); rw [this] at hc; exact absurd hc.1 (by decide)
    · (repeat' (first | (with_reducible first | exact True.intro | refine And.intro ?_ ?_ | refine Head.mk ?_ ?_ ?_ ?_) | ((conv => lhs; whnf); first | (with_reducible first | rfl | exact vInt_s (by omega)) | exact rfl) | ((conv => whnf); first | (with_reducible first | exact True.intro | refine And.intro ?_ ?_)))) <;> (try (conv => lhs; whnf))
      exact congrArg (Own.row _ _) (wit_set trivial hkn (by omega) (by rw [hM _ (by assumption), Bool.true_or]))
  · refine ⟨k + 1, by omega, ⟨by omega, lt_succ_all hallk fun j hj hc => ?_⟩, ?_⟩
    · have := hS _ (by assumption); rw [this] at hc; exact absurd hc.1 (by decide)
    · (repeat' (first | (with_reducible first | exact True.intro | refine And.intro ?_ ?_ | refine Head.mk ?_ ?_ ?_ ?_) | ((conv => lhs; whnf); first | (with_reducible first | rfl | exact vInt_s (by omega)) | exact rfl) | ((conv => whnf); first | (with_reducible first | exact True.intro | refine And.intro ?_ ?_)))) <;> (try (conv => lhs; whnf))
      exact congrArg (Own.row _ _) (wit_set trivial hkn (by omega) (by rw [hM _ ‹(List.take k _ ++ _).getD k _ = false›, Bool.false_or]; first | exact (hS _ rfl).symm | exact (hS _ (by assumption)).symm))
  · refine ⟨i + 1, by omega, ⟨by omega, fun k' hk' => lt_succ_all (hall k' hk') (hallk k' (by omega))⟩, ?_⟩
    (repeat' (first | (with_reducible first | exact True.intro | refine And.intro ?_ ?_ | refine Head.mk ?_ ?_ ?_ ?_) | ((conv => lhs; whnf); first | (with_reducible first | rfl | exact vInt_s (by omega)) | exact rfl) | ((conv => whnf); first | (with_reducible first | exact True.intro | refine And.intro ?_ ?_)))) <;> (try (conv => lhs; whnf))
    exact congrArg (Own.row _ _) (by rw [List.take_of_length_le (by rw [seenBef_len]; omega), List.drop_eq_nil_of_le (by rw [seenBef_len]; omega), List.append_nil])
  · exact eq_true_of (witM_iff.2 ⟨h10, hin, fun k hk i' hi' => hall k hk i' (by omega)⟩)
end Go.Proofs.Ytnepfcnlngpchaa
namespace Go.Proofs.Ytnepfcnlngpchaa
open Go.RowKit
abbrev gI (l : List Int) (k : Nat) : Int := l.getD k 0
def prvN (n i : Nat) : Nat := (i + n - 1) % n
def nxtN (n i : Nat) : Nat := (i + 1) % n
def cutM (xs : List Pt) (l : List Int) (i : Nat) : Bool :=
  ((diagM xs (gI l (prvN l.length i)) (gI l (nxtN l.length i)) || neighZ xs.length (gI l (prvN l.length i)) (gI l (nxtN l.length i))) && decide (0 < turn (pI xs (gI l (prvN l.length i))) (pI xs (gI l i)) (pI xs (gI l (nxtN l.length i))))) &&
  l.all fun x => decide (x = gI l (prvN l.length i)) || (decide (x = gI l i) || (decide (x = gI l (nxtN l.length i)) || !inTri (pI xs (gI l (prvN l.length i))) (pI xs (gI l i)) (pI xs (gI l (nxtN l.length i))) (pI xs x)))
def firstCut (xs : List Pt) (l : List Int) : Option Nat := (List.range l.length).find? (cutM xs l)
theorem firstCut_spec {xs : List Pt} {l : List Int} {i : Nat} (h : firstCut xs l = some i) : i < l.length ∧ cutM xs l i = true := by
  unfold firstCut at h
  rw [List.find?_range_eq_some] at h
  exact ⟨List.mem_range.1 h.2.1, h.1⟩
def triS (a b c : Int) : Tri := (min (min a b) c, a + b + c - min (min a b) c - max (max a b) c, max (max a b) c)
def triAt (l : List Int) (i : Nat) : Tri := triS (gI l (prvN l.length i)) (gI l i) (gI l (nxtN l.length i))
def triRun (xs : List Pt) : Nat → List Int → List Tri → List Tri
  | 0, l, out => out ++ [triS (gI l 0) (gI l 1) (gI l 2)]
  | f + 1, l, out => match firstCut xs l with
    | none => []
    | some i => triRun xs f (l.eraseIdx i) (out ++ [triAt l i])
def allC (n : Nat) : List Int := (List.range n).map fun k : Nat => (k : Int)
def trisM (xs : List Pt) : List Tri := if roomOk xs then triRun xs (xs.length - 3) (allC xs.length) [] else []
structure Left (n : Nat) (l : List Int) : Prop where
  len : 3 ≤ l.length
  le : l.length ≤ n
  inc : l.Pairwise (· < ·)
  ge : ∀ x ∈ l, 0 ≤ x
  lt : ∀ x ∈ l, x < n
theorem Left.erase {n : Nat} {l : List Int} (h : Left n l) (h4 : 3 < l.length) {i : Nat} (hi : i < l.length) : Left n (l.eraseIdx i) := by
  have hl := List.length_eraseIdx_of_lt hi
  refine ⟨by omega, by have := h.le; omega, h.inc.sublist (List.eraseIdx_sublist _ _), fun x hx => h.ge x ((List.eraseIdx_sublist _ _).mem hx), fun x hx => h.lt x ((List.eraseIdx_sublist _ _).mem hx)⟩
theorem gI_mem {l : List Int} {k : Nat} (h : k < l.length) : gI l k ∈ l := by rw [show gI l k = l[k] from getD_lt _ h]; exact List.getElem_mem _
theorem Left.at {n : Nat} {l : List Int} (h : Left n l) {k : Nat} (hk : k < l.length) : 0 ≤ gI l k ∧ gI l k < n := ⟨h.ge _ (gI_mem hk), h.lt _ (gI_mem hk)⟩
theorem Left.mono {n : Nat} {l : List Int} (h : Left n l) {i j : Nat} (hij : i < j) (hj : j < l.length) : gI l i < gI l j := by
  rw [show gI l i = l[i] from getD_lt _ (by omega), show gI l j = l[j] from getD_lt _ hj]
  exact List.pairwise_iff_getElem.1 h.inc i j (by omega) hj hij
theorem Left.inj {n : Nat} {l : List Int} (h : Left n l) {i j : Nat} (hi : i < l.length) (hj : j < l.length) (e : gI l i = gI l j) : i = j := by
  rcases Nat.lt_trichotomy i j with h1 | h1 | h1
  · have := h.mono h1 hj; omega
  · exact h1
  · have := h.mono h1 hi; omega
structure TriSt (xs : List Pt) (s : List Int × List Tri) : Prop where
  left : Left xs.length s.1
  run : triRun xs (s.1.length - 3) s.1 s.2 = trisM xs
  len : s.2.length + s.1.length = xs.length
theorem TriSt.step {xs : List Pt} {s : List Int × List Tri} (h : TriSt xs s) (h4 : 3 < s.1.length) {i : Nat} (hc : firstCut xs s.1 = some i) : TriSt xs (s.1.eraseIdx i, s.2 ++ [triAt s.1 i]) := by
  have hi := (firstCut_spec hc).1
  have hl := List.length_eraseIdx_of_lt hi
  refine ⟨h.left.erase h4 hi, ?_, ?_⟩
  · have hr := h.run
    show triRun xs ((s.1.eraseIdx i).length - 3) _ _ = _
    rw [hl, show s.1.length - 1 - 3 = s.1.length - 4 by omega]
    rw [show s.1.length - 3 = (s.1.length - 4) + 1 by omega] at hr
    unfold triRun at hr
    rw [hc] at hr
    exact hr
  · have := h.len
    show (s.2 ++ [triAt s.1 i]).length + (s.1.eraseIdx i).length = _
    rw [List.length_append, hl]
    simp only [List.length_cons, List.length_nil]
    omega
theorem TriSt.none {xs : List Pt} {s : List Int × List Tri} (h : TriSt xs s) (h4 : 3 < s.1.length) (hc : firstCut xs s.1 = none) : trisM xs = [] := by
  have hr := h.run
  rw [show s.1.length - 3 = (s.1.length - 4) + 1 by omega] at hr
  unfold triRun at hr
  rw [hc] at hr
  exact hr.symm
theorem TriSt.last {xs : List Pt} {s : List Int × List Tri} (h : TriSt xs s) (h3 : s.1.length ≤ 3) : trisM xs = s.2 ++ [triS (gI s.1 0) (gI s.1 1) (gI s.1 2)] := by
  have hr := h.run
  rw [show s.1.length - 3 = 0 by omega] at hr
  exact hr.symm
inductive Cutd : List Int → List Tri → Prop
  | last {l : List Int} (h : l.length = 3) : Cutd l [triS (gI l 0) (gI l 1) (gI l 2)]
  | step {l : List Int} {ts : List Tri} {i : Nat} (h : 3 < l.length) (hi : i < l.length) (hr : Cutd (l.eraseIdx i) ts) : Cutd l (triAt l i :: ts)
theorem Cutd.ne {l : List Int} {ts : List Tri} (h : Cutd l ts) : ts ≠ [] := by cases h <;> simp
theorem Cutd.drop {n : Nat} {l : List Int} {ts : List Tri} (h : Cutd l ts) (hl : Left n l) : ∀ j, j < ts.length → ∃ l', Left n l' ∧ Cutd l' (ts.drop j) := by
  induction h with
  | last h3 =>
    intro j hj
    have : j = 0 := by simpa using hj
    subst this
    exact ⟨_, hl, .last h3⟩
  | step h4 hi hr ih =>
    intro j hj
    cases j with
    | zero => exact ⟨_, hl, .step h4 hi hr⟩
    | succ j => exact ih (hl.erase h4 hi) j (by simpa using hj)
end Go.Proofs.Ytnepfcnlngpchaa
namespace Go.Proofs.Ytnepfcnlngpchaa
open Go.RowKit Go.Proofs.Ytnepfcnlngpchaa.Nm
set_option maxRecDepth 10000
set_option maxHeartbeats 2000000
def copyC : Con := mkCon [.sl (.b .pt)] (fun x => x.1.length ≤ 1048576) fun x => ptRow x.1
theorem copyPoints_ok : Good1 Try.prog n_impl_copyPoints copyC := by
  refine good_ofG (tys := tyL) (env := []) (envw := []) (envd := []) [3] [] [] [] [] mixed tys trivial trivial trivial Try.func80 rfl (by kernel_rfl) (by decide) (by kernel_rfl) ?_
  have hG_ := kpz [(0, [0]), (1, [2])] [(1, [3])] [] []
  rintro ⟨(xs : List Pt), ⟨⟩⟩ (h1 : xs.length ≤ _)
  (repeat' (first | (with_reducible first | exact True.intro | refine zQ ?_ | (refine zG hG_ ?_; intro K_ hK_) | (refine zR ?_; intro K_ hK_) | (refine hK_ _ _ ?_; try clear hK_ K_) | refine sq_n ?_ | refine sq_r ?_ | refine sq_e ?_ | refine bq_n ?_ | refine bq_r ?_ | refine bq_q ?_ | refine zB ?_ | refine zX ?_ | refine zT ?_ | refine zK ?_ | refine gq_n ?_ | refine gq_r ?_ | refine gq_e ?_ | refine lq_n ?_ | refine lq_r ?_ | refine lq_e ?_ | refine bq_e (by decide) ?_) | ((with_reducible refine zC (b := ?b_) ?hb_ ?_ ?_); case hb_ => rfl) | ((conv => whnf); first | (with_reducible refine hK_ _ _ ?_; try clear hK_ K_) | (with_reducible refine fun (g_ : Sl) (o_ : Ow) => ?_) | (with_reducible first | exact True.intro | refine And.intro trivial ?_ | refine And.intro ?_ ?_) | exact Nat.le_of_ble_eq_true rfl | exact Or.inl rfl | (intro h_; cases h_) | (intro h_; (try simp only [vS1] at h_)) | rfl))) <;> (try (conv => whnf)) <;> (try first | change (_ : Int) ≤ _ | change (_ : Nat) ≤ _) <;> (try ((fail_if_success (with_reducible apply Exists.intro)); (try dsimp only); (try simp only [vS1]))) <;> (try simp (disch := omega) only [vS3, Int.add_sub_cancel, tn1, tnp, tnc, vS2] at *)
  all_goals (try (fail_if_success (with_reducible apply Exists.intro)); first | with_reducible assumption | omega | exact mdl (by omega) | exact ilo1 (by omega) | exact ilo2 (by omega) | exact ihi1 (by omega) (by omega) | exact ihi2 (by omega) (by omega))
theorem corner_in {xs : List Pt} (hr : roomOk xs = true) {k : Nat} (hk : k < xs.length) : inP xs (pAt xs k) = true := by
  refine inP_iff.2 ⟨room_pt hr hk, ?_⟩
  rw [placeM_on hk (onS_self (a := pAt xs k) (b := pCy xs (k + 1)))]
  decide
def hidTo (xs : List Pt) : Nat → List Nat
  | 0 => []
  | k + 1 => if (hidTo xs k).all (fun j => !seesS xs (pAt xs j) (pAt xs k)) then hidTo xs k ++ [k] else hidTo xs k
theorem hidTo_lt {xs : List Pt} : ∀ {k j : Nat}, j ∈ hidTo xs k → j < k
  | 0, j, h => by simp [hidTo] at h
  | k + 1, j, h => by
    unfold hidTo at h
    split at h
    · rcases List.mem_append.1 h with h | h
      · have := hidTo_lt h; omega
      · have : j = k := by simpa using h
        omega
    · have := hidTo_lt h; omega
theorem hidTo_len (xs : List Pt) : ∀ k, (hidTo xs k).length ≤ k
  | 0 => by simp [hidTo]
  | k + 1 => by
    have := hidTo_len xs k
    unfold hidTo
    split <;> simp <;> omega
theorem hidTo_pair {xs : List Pt} (hr : roomOk xs = true) : ∀ {k : Nat}, k ≤ xs.length → (hidTo xs k).Pairwise fun j i => seesS xs (pAt xs i) (pAt xs j) = false
  | 0, _ => by simp [hidTo]
  | k + 1, hk => by
    have ih := hidTo_pair hr (k := k) (by omega)
    unfold hidTo
    split
    · rename_i h
      refine List.pairwise_append.2 ⟨ih, by simp, fun j hj i hi => ?_⟩
      have : i = k := by simpa using hi
      subst this
      have h1 := List.all_eq_true.1 h j hj
      have := hidTo_lt hj
      rw [seesS_comm hr (room_pt hr (by omega)) (room_pt hr (by omega))]
      simpa using h1
    · exact ih
theorem hid_step {xs : List Pt} (hr : roomOk xs = true) {k : Nat} (hk : k < xs.length) : hidM xs ((hidTo xs k).map (pAt xs) ++ [pAt xs k]) = (hidTo xs k).all (fun j => !seesS xs (pAt xs j) (pAt xs k)) := by
  have hl := hidTo_len xs k
  have hlr := (room_len hr).2
  have hp := hidTo_pair hr (k := k) (by omega)
  have hml : ((hidTo xs k).map (pAt xs)).length = (hidTo xs k).length := List.length_map _
  have hget : ∀ i, (h : i < (hidTo xs k).length) → pAt ((hidTo xs k).map (pAt xs) ++ [pAt xs k]) i = pAt xs (hidTo xs k)[i] := fun i h => by
    rw [pAt, List.getD_eq_getElem?_getD, List.getElem?_append_left (by omega), List.getElem?_map, List.getElem?_eq_getElem h]; rfl
  have hlast : pAt ((hidTo xs k).map (pAt xs) ++ [pAt xs k]) (hidTo xs k).length = pAt xs k := by
    rw [pAt, List.getD_eq_getElem?_getD, List.getElem?_append_right (by omega), hml, Nat.sub_self]; rfl
  have hmem : ∀ i, (h : i < (hidTo xs k).length) → (hidTo xs k)[i] < k := fun i h => hidTo_lt (List.getElem_mem h)
  rw [Bool.eq_iff_iff, hidM_iff, List.all_eq_true, allIn_iff]
  simp only [List.length_append, hml, List.length_cons, List.length_nil]
  constructor
  · rintro ⟨-, -, h⟩ j hj
    obtain ⟨i, hi, rfl⟩ := List.getElem_of_mem hj
    have h1 := h (hidTo xs k).length (by omega) i hi
    rw [hlast, hget i hi, seesS_comm hr (room_pt hr hk) (room_pt hr (by have := hmem i hi; omega))] at h1
    rw [h1]; rfl
  · intro h
    refine ⟨by omega, ⟨hr, fun i hi => ?_⟩, fun i hi j hj => ?_⟩
    · by_cases hil : i < (hidTo xs k).length
      · rw [hget i hil]; exact corner_in hr (by have := hmem i hil; omega)
      · rw [show i = (hidTo xs k).length by omega, hlast]; exact corner_in hr hk
    · by_cases hil : i < (hidTo xs k).length
      · rw [hget i hil, hget j (by omega)]
        exact List.pairwise_iff_getElem.1 hp j i (by omega) hil hj
      · rw [show i = (hidTo xs k).length by omega, hlast, hget j (by omega), seesS_comm hr (room_pt hr hk) (room_pt hr (by have := hmem j (by omega); omega))]
        have := h _ (List.getElem_mem (show j < (hidTo xs k).length by omega))
        simpa using this
def hidI (xs : List Pt) (k : Nat) : List Int := (hidTo xs k).map fun j : Nat => (j : Int)
theorem hidI_len (xs : List Pt) (k : Nat) : (hidI xs k).length ≤ k := by unfold hidI; rw [List.length_map]; exact hidTo_len xs k
theorem hidI_succ (xs : List Pt) (k : Nat) (b : Bool) (h : (hidTo xs k).all (fun j => !seesS xs (pAt xs j) (pAt xs k)) = b) : hidTo xs (k + 1) = hidTo xs k ++ (if b then [k] else []) ∧ hidI xs (k + 1) = hidI xs k ++ (if b then [(k : Int)] else []) := by
  have e : hidTo xs (k + 1) = hidTo xs k ++ (if b then [k] else []) := by
    rw [hidTo]
    cases b with
    | true => rw [if_pos h]; rfl
    | false => rw [if_neg (by rw [h]; decide), if_neg (by decide), List.append_nil]
  refine ⟨e, ?_⟩
  unfold hidI
  rw [e, List.map_append]
  cases b <;> rfl
def hiddenM (xs : List Pt) : List Int := if roomOk xs then hidI xs xs.length else []
def hiddenC : Con := mkCon [.room] (fun x => x.1.length ≤ 1048576) fun x => rowI (hiddenM x.1)
theorem iHiddenCorners_ok : Good1 Try.prog n_impl_HiddenCorners hiddenC := by
  refine good_ofG (tys := tyL) (env := [(n_impl_RoomOk, roomOkC), (n_impl_copyPoints, copyC), (n_impl_AreHidden, hidC)]) (envw := []) (envd := []) [10, 11, 22] [20, 22] [23] [] [] mixed tys ⟨iRoomOk_ok, copyPoints_ok, iAreHidden_ok, trivial⟩ trivial trivial Try.func41 rfl (by kernel_rfl) (by decide) (by kernel_rfl) ?_
  have hG_ := kpz [(0, [1]), (1, [1, 9]), (2, [2]), (3, [1, 3]), (4, [1, 3, 4]), (5, [1, 3, 4, 13, 14, 15]), (6, [1, 3, 4, 13, 14, 15, 16]), (7, [1, 3, 4, 5, 6, 13, 14, 15]), (8, [1, 3, 4, 5, 6, 13, 14, 15, 26]), (9, [1, 3, 4, 6, 13, 14, 15]), (10, [1, 3, 4, 13, 14, 15]), (11, [1, 3, 4, 13, 14, 15]), (12, [2])] [(3, [10]), (4, [10, 11]), (5, [10, 11]), (6, [10, 11]), (7, [6, 10, 11]), (8, [6, 10, 11, 22]), (9, [6, 10, 11, 22]), (10, [10, 11, 22]), (11, [10, 11, 22]), (12, [10, 11])] [] []
  rintro ⟨(xs : List Pt), ⟨⟩⟩ (h1 : xs.length ≤ _)
  (repeat' (first | (with_reducible first | exact True.intro | refine zQ ?_ | (refine zG hG_ ?_; intro K_ hK_) | (refine zR ?_; intro K_ hK_) | (refine hK_ _ _ ?_; try clear hK_ K_) | refine sq_n ?_ | refine sq_r ?_ | refine sq_e ?_ | refine bq_n ?_ | refine bq_r ?_ | refine bq_q ?_ | refine zB ?_ | refine zX ?_ | refine zT ?_ | refine zK ?_ | refine gq_n ?_ | refine gq_r ?_ | refine gq_e ?_ | refine lq_n ?_ | refine lq_r ?_ | refine lq_e ?_ | refine bq_e (by decide) ?_) | ((with_reducible refine zC (b := ?b_) ?hb_ ?_ ?_); case hb_ => rfl) | ((conv => whnf); first | (with_reducible refine hK_ _ _ ?_; try clear hK_ K_) | (with_reducible refine fun (g_ : Sl) (o_ : Ow) => ?_) | (with_reducible first | exact True.intro | refine And.intro trivial ?_ | refine And.intro ?_ ?_) | exact Nat.le_of_ble_eq_true rfl | exact Or.inl rfl | (intro h_; cases h_) | (intro h_; (try simp only [vS1] at h_)) | rfl))) <;> (try (conv => whnf)) <;> (try first | change (_ : Int) ≤ _ | change (_ : Nat) ≤ _) <;> (try ((fail_if_success (with_reducible apply Exists.intro)); (try dsimp only); (try simp only [vS1]))) <;> (try simp (disch := omega) only [vS3, Int.add_sub_cancel, tn1, tnp, tnc, vS2] at *)
  all_goals (try (fail_if_success (with_reducible apply Exists.intro)); first | with_reducible assumption | omega | exact mdl (by omega) | exact ilo1 (by omega) | exact ilo2 (by omega) | exact ihi1 (by omega) (by omega) | exact ihi2 (by omega) (by omega))
  · unfold hiddenM; rw [h_]; rfl
  have hr : roomOk xs = true := by assumption
  have hlr := (room_len hr).2
  refine awp'_loopG (α := Nat) (fun k ver_ => [(15, vInt k)]) (fun k ver_ => [(3, 10, false, .row t_int (.b .int) (hidI xs k)), (4, 11, false, .row t_impl_Point (.b .pt) ((hidTo xs k).map (pAt xs)))]) (fun k ver_ => []) (fun k => k ≤ xs.length) (fun k => xs.length - k) [1, 13, 14] [] (0) ?_
  conv => whnf
  refine ⟨⟨?inv1_, ?vals1_, ?own1_, ?fix1_⟩, ?body1_⟩
  case' vals1_ => (repeat' (first | (with_reducible first | exact True.intro | refine And.intro ?_ ?_ | refine Head.mk ?_ ?_ ?_ ?_) | ((conv => lhs; whnf); first | (with_reducible first | rfl | exact vInt_s (by omega)) | exact rfl) | ((conv => whnf); first | (with_reducible first | exact True.intro | refine And.intro ?_ ?_)))) <;> (try (conv => lhs; whnf))
  case' own1_ => (repeat' (first | (with_reducible first | exact True.intro | refine And.intro ?_ ?_ | refine Head.mk ?_ ?_ ?_ ?_) | ((conv => lhs; whnf); first | (with_reducible first | rfl | exact vInt_s (by omega)) | exact rfl) | ((conv => whnf); first | (with_reducible first | exact True.intro | refine And.intro ?_ ?_)))) <;> (try (conv => lhs; whnf))
  case' fix1_ => (repeat' (first | (with_reducible first | exact True.intro | refine And.intro ?_ ?_ | refine Head.mk ?_ ?_ ?_ ?_) | ((conv => lhs; whnf); first | (with_reducible first | rfl | exact vInt_s (by omega)) | exact rfl) | ((conv => whnf); first | (with_reducible first | exact True.intro | refine And.intro ?_ ?_)))) <;> (try (conv => lhs; whnf))
  · exact Nat.zero_le _
  rintro k g_ o_ v_ hk
  have hl := hidTo_len xs k
  have hl2 := hidI_len xs k
  (repeat' (first | (with_reducible first | exact True.intro | refine zQ ?_ | (refine zG hG_ ?_; intro K_ hK_) | (refine zR ?_; intro K_ hK_) | (refine hK_ _ _ ?_; try clear hK_ K_) | refine sq_n ?_ | refine sq_r ?_ | refine sq_e ?_ | refine bq_n ?_ | refine bq_r ?_ | refine bq_q ?_ | refine zB ?_ | refine zX ?_ | refine zT ?_ | refine zK ?_ | refine gq_n ?_ | refine gq_r ?_ | refine gq_e ?_ | refine lq_n ?_ | refine lq_r ?_ | refine lq_e ?_ | refine bq_e (by decide) ?_) | ((with_reducible refine zC (b := ?b_) ?hb_ ?_ ?_); case hb_ => rfl) | ((conv => whnf); first | (with_reducible refine hK_ _ _ ?_; try clear hK_ K_) | (with_reducible refine fun (g_ : Sl) (o_ : Ow) => ?_) | (with_reducible first | exact True.intro | refine And.intro trivial ?_ | refine And.intro ?_ ?_) | exact Nat.le_of_ble_eq_true rfl | exact Or.inl rfl | (intro h_; cases h_) | (intro h_; (try simp only [vS1] at h_)) | rfl))) <;> (try (conv => whnf)) <;> (try first | change (_ : Int) ≤ _ | change (_ : Nat) ≤ _) <;> (try ((fail_if_success (with_reducible apply Exists.intro)); (try dsimp only); (try simp only [vS1]))) <;> (try simp (disch := omega) only [vS3, Int.add_sub_cancel, tn1, tnp, tnc, vS2] at *)
  all_goals (try (fail_if_success (with_reducible apply Exists.intro)); first | with_reducible assumption | omega | exact mdl (by omega) | exact ilo1 (by omega) | exact ilo2 (by omega) | exact ihi1 (by omega) (by omega) | exact ihi2 (by omega) (by omega))
  · rw [hid_step hr ‹k < xs.length›] at *
    obtain ⟨e1, e2⟩ := hidI_succ xs k true (by assumption)
    refine ⟨k + 1, by omega, by omega, ?_⟩
    (repeat' (first | (with_reducible first | exact True.intro | refine And.intro ?_ ?_ | refine Head.mk ?_ ?_ ?_ ?_) | ((conv => lhs; whnf); first | (with_reducible first | rfl | exact vInt_s (by omega)) | exact rfl) | ((conv => whnf); first | (with_reducible first | exact True.intro | refine And.intro ?_ ?_)))) <;> (try (conv => lhs; whnf))
    · exact congrArg (Own.row _ _) e2.symm
    · exact congrArg (Own.row _ _) (by rw [e1, List.map_append]; rfl)
  · rw [hid_step hr ‹k < xs.length›] at *
    obtain ⟨e1, e2⟩ := hidI_succ xs k false (by assumption)
    refine ⟨k + 1, by omega, by omega, ?_⟩
    (repeat' (first | (with_reducible first | exact True.intro | refine And.intro ?_ ?_ | refine Head.mk ?_ ?_ ?_ ?_) | ((conv => lhs; whnf); first | (with_reducible first | rfl | exact vInt_s (by omega)) | exact rfl) | ((conv => whnf); first | (with_reducible first | exact True.intro | refine And.intro ?_ ?_)))) <;> (try (conv => lhs; whnf))
    · exact congrArg (Own.row _ _) (by rw [e2]; simp)
    · exact congrArg (Own.row _ _) (by rw [e1]; simp)
  · exact congrArg some (by unfold hiddenM; rw [if_pos hr, show k = xs.length by omega])
def gFree (xs : List Pt) (seen : List Bool) (p : Pt) (k : Nat) : Bool := (List.range k).all fun j => !(seesS xs (pAt xs j) p && seen.getD j false)
theorem gFree_succ (xs : List Pt) (seen : List Bool) (p : Pt) (k : Nat) : gFree xs seen p (k + 1) = (gFree xs seen p k && !(seesS xs (pAt xs k) p && seen.getD k false)) := by
  unfold gFree
  rw [List.range_succ, List.all_append]
  simp
def gOr (xs : List Pt) (seen : List Bool) (p : Pt) : List Bool := (List.range xs.length).map fun j => seen.getD j false || seesS xs (pAt xs j) p
theorem gOr_len (xs : List Pt) (seen : List Bool) (p : Pt) : (gOr xs seen p).length = xs.length := by simp [gOr]
theorem gOr_get {xs : List Pt} {seen : List Bool} {p : Pt} {k : Nat} (h : k < xs.length) : (gOr xs seen p).getD k false = (seen.getD k false || seesS xs (pAt xs k) p) := by simp [gOr, List.getD, h]
def gdTo (xs : List Pt) : Nat → List Pt × List Bool
  | 0 => ([], List.replicate xs.length false)
  | i + 1 => if (gdTo xs i).1.length = 10 then gdTo xs i else if gFree xs (gdTo xs i).2 (pAt (floorPts xs) i) xs.length then ((gdTo xs i).1 ++ [pAt (floorPts xs) i], gOr xs (gdTo xs i).2 (pAt (floorPts xs) i)) else gdTo xs i
theorem gd_len (xs : List Pt) : ∀ i, (gdTo xs i).1.length ≤ 10 ∧ (gdTo xs i).2.length = xs.length
  | 0 => by simp [gdTo]
  | i + 1 => by
    have h := gd_len xs i
    unfold gdTo
    split
    · exact h
    · split
      · refine ⟨?_, gOr_len _ _ _⟩
        simp only [List.length_append, List.length_cons, List.length_nil]
        omega
      · exact h
theorem gd_stop {xs : List Pt} {i : Nat} (h : (gdTo xs i).1.length = 10) : ∀ {j : Nat}, i ≤ j → gdTo xs j = gdTo xs i
  | 0, hj => by rw [show i = 0 by omega]
  | j + 1, hj => by
    rcases Nat.eq_or_lt_of_le hj with e | e
    · rw [e]
    · have := gd_stop h (j := j) (by omega)
      rw [gdTo, this, if_pos h]
theorem gd_no {xs : List Pt} {i : Nat} (h : gFree xs (gdTo xs i).2 (pAt (floorPts xs) i) xs.length = false) : gdTo xs (i + 1) = gdTo xs i := by
  rw [gdTo]
  split
  · rfl
  · rw [if_neg (by rw [h]; decide)]
theorem gd_yes {xs : List Pt} {i : Nat} (h0 : (gdTo xs i).1.length ≠ 10) (h : gFree xs (gdTo xs i).2 (pAt (floorPts xs) i) xs.length = true) : gdTo xs (i + 1) = ((gdTo xs i).1 ++ [pAt (floorPts xs) i], gOr xs (gdTo xs i).2 (pAt (floorPts xs) i)) := by
  rw [gdTo, if_neg h0, if_pos h]
def greedyM (xs : List Pt) : List Pt := if roomOk xs then (gdTo xs (floorPts xs).length).1 else []
def greedyC : Con := mkCon [.room] (fun x => x.1.length ≤ 1048576) fun x => ptRow (greedyM x.1)
theorem greedy_end {xs : List Pt} (hr : roomOk xs = true) {i : Nat} (h : (floorPts xs).length ≤ i) (h2 : i ≤ (floorPts xs).length) : (gdTo xs i).1 = greedyM xs := by
  unfold greedyM
  rw [if_pos hr, show i = (floorPts xs).length by omega]
theorem greedy_stop {xs : List Pt} (hr : roomOk xs = true) {i : Nat} (h2 : i ≤ (floorPts xs).length) (h : (gdTo xs i).1.length = 10) : (gdTo xs i).1 = greedyM xs := by
  unfold greedyM
  rw [if_pos hr, gd_stop h h2]
theorem iGreedyWitnesses_ok : Good1 Try.prog n_impl_GreedyWitnesses greedyC := by
  refine good_ofG (tys := tyL) (env := [(n_impl_RoomOk, roomOkC), (n_impl_floor, floorC), (n_impl_sightOf, sightC)]) (envw := []) (envd := []) [14] [] [] [] [] mixed tys ⟨iRoomOk_ok, floor_ok, sightOf_ok, trivial⟩ trivial trivial Try.func40 rfl (by kernel_rfl) (by decide) (by kernel_rfl) ?_
  have hG_ := kpz [(0, [1]), (1, [1, 13]), (2, [2]), (3, [1, 3]), (4, [1, 3, 4]), (5, [1, 3, 4, 20, 21, 22]), (6, [1, 3, 4, 20, 21, 22, 23]), (7, [1, 3, 4, 6, 20, 21, 22]), (8, [1, 3, 4, 6, 20, 21, 22, 28]), (9, [1, 3, 4, 6, 7, 20, 21, 22]), (10, [1, 3, 4, 6, 7, 8, 20, 21, 22]), (11, [1, 3, 4, 6, 7, 8, 20, 21, 22, 33, 34]), (12, [1, 3, 4, 6, 7, 8, 20, 21, 22, 33, 34, 35]), (13, [1, 3, 4, 6, 7, 8, 9, 20, 21, 22, 33, 34]), (14, [1, 3, 4, 6, 7, 8, 20, 21, 22, 33, 34]), (15, [1, 3, 4, 6, 7, 8, 20, 21, 22, 33, 34]), (16, [1, 3, 4, 6, 7, 20, 21, 22, 53]), (17, [1, 3, 4, 7, 20, 21, 22]), (18, [1, 3, 4, 7, 20, 21, 22, 59, 60]), (19, [1, 3, 4, 7, 20, 21, 22, 59, 60, 61]), (20, [1, 3, 4, 7, 10, 20, 21, 22, 59, 60]), (21, [1, 3, 4, 7, 20, 21, 22, 59, 60]), (22, [1, 3, 4, 7, 20, 21, 22, 59, 60]), (23, [1, 3, 4, 20, 21, 22]), (24, [2])] [(3, [14]), (4, [14, 18]), (5, [14, 18]), (6, [14, 18]), (7, [6, 14, 18]), (8, [6, 14, 18]), (9, [6, 14, 18]), (10, [6, 14, 18]), (11, [6, 14, 18]), (12, [6, 14, 18]), (13, [6, 14, 18]), (14, [6, 14, 18]), (15, [6, 14, 18]), (16, [6, 14, 18]), (17, [14, 18]), (18, [14, 18]), (19, [14, 18]), (20, [14, 18]), (21, [14, 18]), (22, [14, 18]), (23, [14, 18]), (24, [14, 18])] [] []
  rintro ⟨(xs : List Pt), ⟨⟩⟩ (h1 : xs.length ≤ _)
  (repeat' (first | (with_reducible first | exact True.intro | refine zQ ?_ | (refine zG hG_ ?_; intro K_ hK_) | (refine zR ?_; intro K_ hK_) | (refine hK_ _ _ ?_; try clear hK_ K_) | refine sq_n ?_ | refine sq_r ?_ | refine sq_e ?_ | refine bq_n ?_ | refine bq_r ?_ | refine bq_q ?_ | refine zB ?_ | refine zX ?_ | refine zT ?_ | refine zK ?_ | refine gq_n ?_ | refine gq_r ?_ | refine gq_e ?_ | refine lq_n ?_ | refine lq_r ?_ | refine lq_e ?_ | refine bq_e (by decide) ?_) | ((with_reducible refine zC (b := ?b_) ?hb_ ?_ ?_); case hb_ => rfl) | ((conv => whnf); first | (with_reducible refine hK_ _ _ ?_; try clear hK_ K_) | (with_reducible refine fun (g_ : Sl) (o_ : Ow) => ?_) | (with_reducible first | exact True.intro | refine And.intro trivial ?_ | refine And.intro ?_ ?_) | exact Nat.le_of_ble_eq_true rfl | exact Or.inl rfl | (intro h_; cases h_) | (intro h_; (try simp only [vS1] at h_)) | rfl))) <;> (try (conv => whnf)) <;> (try first | change (_ : Int) ≤ _ | change (_ : Nat) ≤ _) <;> (try ((fail_if_success (with_reducible apply Exists.intro)); (try dsimp only); (try simp only [vS1]))) <;> (try simp (disch := omega) only [vS3, Int.add_sub_cancel, tn1, tnp, tnc, vS2] at *)
  all_goals (try (fail_if_success (with_reducible apply Exists.intro)); first | with_reducible assumption | omega | exact mdl (by omega) | exact ilo1 (by omega) | exact ilo2 (by omega) | exact ihi1 (by omega) (by omega) | exact ihi2 (by omega) (by omega))
  · unfold greedyM; rw [h_]; rfl
  have hr : roomOk xs = true := by assumption
  have hlr := (room_len hr).2
  have hfl := floor_len xs
  refine awp'_loopG (α := Nat) (fun i ver_ => [(22, vInt i)]) (fun i ver_ => [(3, 14, false, .row t_impl_Point (.b .pt) (gdTo xs i).1), (4, 18, false, .row t_bool (.b .bool) (gdTo xs i).2)]) (fun i ver_ => []) (fun i => i ≤ (floorPts xs).length) (fun i => (floorPts xs).length - i) [1, 20, 21] [] (0) ?_
  conv => whnf
  refine ⟨⟨?inv2_, ?vals2_, ?own2_, ?fix2_⟩, ?body2_⟩
  case' vals2_ => (repeat' (first | (with_reducible first | exact True.intro | refine And.intro ?_ ?_ | refine Head.mk ?_ ?_ ?_ ?_) | ((conv => lhs; whnf); first | (with_reducible first | rfl | exact vInt_s (by omega)) | exact rfl) | ((conv => whnf); first | (with_reducible first | exact True.intro | refine And.intro ?_ ?_)))) <;> (try (conv => lhs; whnf))
  case' own2_ => (repeat' (first | (with_reducible first | exact True.intro | refine And.intro ?_ ?_ | refine Head.mk ?_ ?_ ?_ ?_) | ((conv => lhs; whnf); first | (with_reducible first | rfl | exact vInt_s (by omega)) | exact rfl) | ((conv => whnf); first | (with_reducible first | exact True.intro | refine And.intro ?_ ?_)))) <;> (try (conv => lhs; whnf))
  case' fix2_ => (repeat' (first | (with_reducible first | exact True.intro | refine And.intro ?_ ?_ | refine Head.mk ?_ ?_ ?_ ?_) | ((conv => lhs; whnf); first | (with_reducible first | rfl | exact vInt_s (by omega)) | exact rfl) | ((conv => whnf); first | (with_reducible first | exact True.intro | refine And.intro ?_ ?_)))) <;> (try (conv => lhs; whnf))
  · exact Nat.zero_le _
  rintro i g_ o_ v_ hi
  obtain ⟨hl1, hl2⟩ := gd_len xs i
  (repeat' (first | (with_reducible first | exact True.intro | refine zQ ?_ | (refine zG hG_ ?_; intro K_ hK_) | (refine zR ?_; intro K_ hK_) | (refine hK_ _ _ ?_; try clear hK_ K_) | refine sq_n ?_ | refine sq_r ?_ | refine sq_e ?_ | refine bq_n ?_ | refine bq_r ?_ | refine bq_q ?_ | refine zB ?_ | refine zX ?_ | refine zT ?_ | refine zK ?_ | refine gq_n ?_ | refine gq_r ?_ | refine gq_e ?_ | refine lq_n ?_ | refine lq_r ?_ | refine lq_e ?_ | refine bq_e (by decide) ?_) | ((with_reducible refine zC (b := ?b_) ?hb_ ?_ ?_); case hb_ => rfl) | ((conv => whnf); first | (with_reducible refine hK_ _ _ ?_; try clear hK_ K_) | (with_reducible refine fun (g_ : Sl) (o_ : Ow) => ?_) | (with_reducible first | exact True.intro | refine And.intro trivial ?_ | refine And.intro ?_ ?_) | exact Nat.le_of_ble_eq_true rfl | exact Or.inl rfl | (intro h_; cases h_) | (intro h_; (try simp only [vS1] at h_)) | rfl))) <;> (try (conv => whnf)) <;> (try first | change (_ : Int) ≤ _ | change (_ : Nat) ≤ _) <;> (try ((fail_if_success (with_reducible apply Exists.intro)); (try dsimp only); (try simp only [vS1]))) <;> (try simp (disch := omega) only [vS3, Int.add_sub_cancel, tn1, tnp, tnc, vS2] at *)
  all_goals (try (fail_if_success (with_reducible apply Exists.intro)); first | with_reducible assumption | omega | exact mdl (by omega) | exact ilo1 (by omega) | exact ilo2 (by omega) | exact ihi1 (by omega) (by omega) | exact ihi2 (by omega) (by omega))
  · exact congrArg some (greedy_stop hr hi (by omega))
  · exact floor_pt (by assumption)
  have hif : i < (floorPts xs).length := by assumption
  have h10 : (gdTo xs i).1.length ≠ 10 := by omega
  have hgl := sightM_len xs (pAt (floorPts xs) i)
  have hol := gOr_len xs (gdTo xs i).2 (pAt (floorPts xs) i)
  refine awp'_loopG (α := Nat) (fun k ver_ => [(34, vInt k), (8, vBool (gFree xs (gdTo xs i).2 (pAt (floorPts xs) i) k))]) (fun k ver_ => []) (fun k ver_ => []) (fun k => k ≤ xs.length) (fun k => xs.length - k) [1, 3, 4, 6, 7, 20, 21, 22, 33] [6, 14, 18] (0) ?_
  conv => whnf
  refine ⟨⟨?inv3_, ?vals3_, ?own3_, ?fix3_⟩, ?body3_⟩
  case' vals3_ => (repeat' (first | (with_reducible first | exact True.intro | refine And.intro ?_ ?_ | refine Head.mk ?_ ?_ ?_ ?_) | ((conv => lhs; whnf); first | (with_reducible first | rfl | exact vInt_s (by omega)) | exact rfl) | ((conv => whnf); first | (with_reducible first | exact True.intro | refine And.intro ?_ ?_)))) <;> (try (conv => lhs; whnf))
  case' own3_ => (repeat' (first | (with_reducible first | exact True.intro | refine And.intro ?_ ?_ | refine Head.mk ?_ ?_ ?_ ?_) | ((conv => lhs; whnf); first | (with_reducible first | rfl | exact vInt_s (by omega)) | exact rfl) | ((conv => whnf); first | (with_reducible first | exact True.intro | refine And.intro ?_ ?_)))) <;> (try (conv => lhs; whnf))
  case' fix3_ => (repeat' (first | (with_reducible first | exact True.intro | refine And.intro ?_ ?_ | refine Head.mk ?_ ?_ ?_ ?_) | ((conv => lhs; whnf); first | (with_reducible first | rfl | exact vInt_s (by omega)) | exact rfl) | ((conv => whnf); first | (with_reducible first | exact True.intro | refine And.intro ?_ ?_)))) <;> (try (conv => lhs; whnf))
  · exact Nat.zero_le _
  rintro k g_ o_ v_ hk
  (repeat' (first | (with_reducible first | exact True.intro | refine zQ ?_ | (refine zG hG_ ?_; intro K_ hK_) | (refine zR ?_; intro K_ hK_) | (refine hK_ _ _ ?_; try clear hK_ K_) | refine sq_n ?_ | refine sq_r ?_ | refine sq_e ?_ | refine bq_n ?_ | refine bq_r ?_ | refine bq_q ?_ | refine zB ?_ | refine zX ?_ | refine zT ?_ | refine zK ?_ | refine gq_n ?_ | refine gq_r ?_ | refine gq_e ?_ | refine lq_n ?_ | refine lq_r ?_ | refine lq_e ?_ | refine bq_e (by decide) ?_) | ((with_reducible refine zC (b := ?b_) ?hb_ ?_ ?_); case hb_ => rfl) | ((conv => whnf); first | (with_reducible refine hK_ _ _ ?_; try clear hK_ K_) | (with_reducible refine fun (g_ : Sl) (o_ : Ow) => ?_) | (with_reducible first | exact True.intro | refine And.intro trivial ?_ | refine And.intro ?_ ?_) | exact Nat.le_of_ble_eq_true rfl | exact Or.inl rfl | (intro h_; cases h_) | (intro h_; (try simp only [vS1] at h_)) | rfl))) <;> (try (conv => whnf)) <;> (try first | change (_ : Int) ≤ _ | change (_ : Nat) ≤ _) <;> (try ((fail_if_success (with_reducible apply Exists.intro)); (try dsimp only); (try simp only [vS1]))) <;> (try simp (disch := omega) only [vS3, Int.add_sub_cancel, tn1, tnp, tnc, vS2] at *) <;> (try simp only [sightM_len] at *)
  all_goals (try (fail_if_success (with_reducible apply Exists.intro)); first | with_reducible assumption | omega | exact mdl (by omega) | exact ilo1 (by omega) | exact ilo2 (by omega) | exact ihi1 (by omega) (by omega) | exact ihi2 (by omega) (by omega))
  · refine ⟨k + 1, by omega, by omega, ?_⟩
    (repeat' (first | (with_reducible first | exact True.intro | refine And.intro ?_ ?_ | refine Head.mk ?_ ?_ ?_ ?_) | ((conv => lhs; whnf); first | (with_reducible first | rfl | exact vInt_s (by omega)) | exact rfl) | ((conv => whnf); first | (with_reducible first | exact True.intro | refine And.intro ?_ ?_)))) <;> (try (conv => lhs; whnf))
    refine congrArg vBool ?_
    have h5 : seesS xs (pAt xs k) (pAt (floorPts xs) i) = true := (sightM_get (by assumption)).symm.trans (by assumption)
    rw [gFree_succ, ‹gFree _ _ _ _ = true›, h5, Bool.true_and, Bool.true_and]
  · refine ⟨k + 1, by omega, by omega, ?_⟩
    (repeat' (first | (with_reducible first | exact True.intro | refine And.intro ?_ ?_ | refine Head.mk ?_ ?_ ?_ ?_) | ((conv => lhs; whnf); first | (with_reducible first | rfl | exact vInt_s (by omega)) | exact rfl) | ((conv => whnf); first | (with_reducible first | exact True.intro | refine And.intro ?_ ?_)))) <;> (try (conv => lhs; whnf))
    refine congrArg vBool ?_
    have h5 : seesS xs (pAt xs k) (pAt (floorPts xs) i) = false := (sightM_get (by assumption)).symm.trans (by assumption)
    rw [gFree_succ, ‹gFree _ _ _ _ = true›, h5]
    rfl
  · refine ⟨k + 1, by omega, by omega, ?_⟩
    (repeat' (first | (with_reducible first | exact True.intro | refine And.intro ?_ ?_ | refine Head.mk ?_ ?_ ?_ ?_) | ((conv => lhs; whnf); first | (with_reducible first | rfl | exact vInt_s (by omega)) | exact rfl) | ((conv => whnf); first | (with_reducible first | exact True.intro | refine And.intro ?_ ?_)))) <;> (try (conv => lhs; whnf))
    refine congrArg vBool ?_
    rw [gFree_succ, ‹gFree _ _ _ _ = false›, Bool.false_and]
  · have hkn : k = xs.length := by omega
    refine ⟨i + 1, by omega, by omega, ?_⟩
    (repeat' (first | (with_reducible first | exact True.intro | refine And.intro ?_ ?_ | refine Head.mk ?_ ?_ ?_ ?_) | ((conv => lhs; whnf); first | (with_reducible first | rfl | exact vInt_s (by omega)) | exact rfl) | ((conv => whnf); first | (with_reducible first | exact True.intro | refine And.intro ?_ ?_)))) <;> (try (conv => lhs; whnf))
    · exact congrArg (Own.row _ _) (by rw [gd_no (by rw [← hkn]; assumption)])
    · exact congrArg (Own.row _ _) (by rw [gd_no (by rw [← hkn]; assumption)])
  · have hkn : k = xs.length := by omega
    have hy := gd_yes h10 (by rw [← hkn]; assumption)
    refine awp'_loopG (α := Nat) (fun j ver_ => [(60, vInt j)]) (fun j ver_ => [(4, 18, false, .row t_bool (.b .bool) ((gOr xs (gdTo xs i).2 (pAt (floorPts xs) i)).take j ++ (gdTo xs i).2.drop j))]) (fun j ver_ => []) (fun j => j ≤ xs.length) (fun j => xs.length - j) [1, 3, 7, 20, 21, 22, 59] [14] (0) ?_
    conv => whnf
    refine ⟨⟨?inv4_, ?vals4_, ?own4_, ?fix4_⟩, ?body4_⟩
    case' vals4_ => (repeat' (first | (with_reducible first | exact True.intro | refine And.intro ?_ ?_ | refine Head.mk ?_ ?_ ?_ ?_) | ((conv => lhs; whnf); first | (with_reducible first | rfl | exact vInt_s (by omega)) | exact rfl) | ((conv => whnf); first | (with_reducible first | exact True.intro | refine And.intro ?_ ?_)))) <;> (try (conv => lhs; whnf))
    case' own4_ => (repeat' (first | (with_reducible first | exact True.intro | refine And.intro ?_ ?_ | refine Head.mk ?_ ?_ ?_ ?_) | ((conv => lhs; whnf); first | (with_reducible first | rfl | exact vInt_s (by omega)) | exact rfl) | ((conv => whnf); first | (with_reducible first | exact True.intro | refine And.intro ?_ ?_)))) <;> (try (conv => lhs; whnf))
    case' fix4_ => (repeat' (first | (with_reducible first | exact True.intro | refine And.intro ?_ ?_ | refine Head.mk ?_ ?_ ?_ ?_) | ((conv => lhs; whnf); first | (with_reducible first | rfl | exact vInt_s (by omega)) | exact rfl) | ((conv => whnf); first | (with_reducible first | exact True.intro | refine And.intro ?_ ?_)))) <;> (try (conv => lhs; whnf))
    · exact Nat.zero_le _
    rintro j g_ o_ v_ hj
    have hmx := mix_len (A := gOr xs (gdTo xs i).2 (pAt (floorPts xs) i)) (B := (gdTo xs i).2) (k := j) (by rw [hol]; exact hj) (by rw [hol, hl2])
    (repeat' (first | (with_reducible first | exact True.intro | refine zQ ?_ | (refine zG hG_ ?_; intro K_ hK_) | (refine zR ?_; intro K_ hK_) | (refine hK_ _ _ ?_; try clear hK_ K_) | refine sq_n ?_ | refine sq_r ?_ | refine sq_e ?_ | refine bq_n ?_ | refine bq_r ?_ | refine bq_q ?_ | refine zB ?_ | refine zX ?_ | refine zT ?_ | refine zK ?_ | refine gq_n ?_ | refine gq_r ?_ | refine gq_e ?_ | refine lq_n ?_ | refine lq_r ?_ | refine lq_e ?_ | refine bq_e (by decide) ?_) | ((with_reducible refine zC (b := ?b_) ?hb_ ?_ ?_); case hb_ => rfl) | ((conv => whnf); first | (with_reducible refine hK_ _ _ ?_; try clear hK_ K_) | (with_reducible refine fun (g_ : Sl) (o_ : Ow) => ?_) | (with_reducible first | exact True.intro | refine And.intro trivial ?_ | refine And.intro ?_ ?_) | exact Nat.le_of_ble_eq_true rfl | exact Or.inl rfl | (intro h_; cases h_) | (intro h_; (try simp only [vS1] at h_)) | rfl))) <;> (try (conv => whnf)) <;> (try first | change (_ : Int) ≤ _ | change (_ : Nat) ≤ _) <;> (try ((fail_if_success (with_reducible apply Exists.intro)); (try dsimp only); (try simp only [vS1]))) <;> (try simp (disch := omega) only [vS3, Int.add_sub_cancel, tn1, tnp, tnc, vS2] at *) <;> (try simp only [sightM_len] at *)
    all_goals (try (fail_if_success (with_reducible apply Exists.intro)); first | with_reducible assumption | omega | exact mdl (by omega) | exact ilo1 (by omega) | exact ilo2 (by omega) | exact ihi1 (by omega) (by omega) | exact ihi2 (by omega) (by omega))
    · refine ⟨j + 1, by omega, by omega, ?_⟩
      (repeat' (first | (with_reducible first | exact True.intro | refine And.intro ?_ ?_ | refine Head.mk ?_ ?_ ?_ ?_) | ((conv => lhs; whnf); first | (with_reducible first | rfl | exact vInt_s (by omega)) | exact rfl) | ((conv => whnf); first | (with_reducible first | exact True.intro | refine And.intro ?_ ?_)))) <;> (try (conv => lhs; whnf))
      refine congrArg (Own.row _ _) ?_
      have h5 : (gdTo xs i).2.getD j false = true := by
        have h6 := ‹(List.take j _ ++ _).getD j _ = true›
        rw [mix_getD (by rw [hol]; omega) (by rw [hol, hl2]), if_neg (by omega)] at h6
        exact h6
      rw [show true = (gOr xs (gdTo xs i).2 (pAt (floorPts xs) i)).getD j false by rw [gOr_get (by assumption), h5, Bool.true_or], mix_put (by rw [hl2]; assumption) (by rw [hl2, hol])]
    · refine ⟨j + 1, by omega, by omega, ?_⟩
      (repeat' (first | (with_reducible first | exact True.intro | refine And.intro ?_ ?_ | refine Head.mk ?_ ?_ ?_ ?_) | ((conv => lhs; whnf); first | (with_reducible first | rfl | exact vInt_s (by omega)) | exact rfl) | ((conv => whnf); first | (with_reducible first | exact True.intro | refine And.intro ?_ ?_)))) <;> (try (conv => lhs; whnf))
      refine congrArg (Own.row _ _) ?_
      have h5 : (gdTo xs i).2.getD j false = false := by
        have h6 := ‹(List.take j _ ++ _).getD j _ = false›
        rw [mix_getD (by rw [hol]; omega) (by rw [hol, hl2]), if_neg (by omega)] at h6
        exact h6
      have h7 : (sightM xs (pAt (floorPts xs) i)).getD j false = (gOr xs (gdTo xs i).2 (pAt (floorPts xs) i)).getD j false := by rw [gOr_get (by assumption), h5, Bool.false_or, sightM_get (by assumption)]
      refine (congrArg _ h7).trans ?_
      rw [mix_put (by rw [hl2]; assumption) (by rw [hl2, hol])]
    · refine ⟨i + 1, by omega, by omega, ?_⟩
      (repeat' (first | (with_reducible first | exact True.intro | refine And.intro ?_ ?_ | refine Head.mk ?_ ?_ ?_ ?_) | ((conv => lhs; whnf); first | (with_reducible first | rfl | exact vInt_s (by omega)) | exact rfl) | ((conv => whnf); first | (with_reducible first | exact True.intro | refine And.intro ?_ ?_)))) <;> (try (conv => lhs; whnf))
      · exact congrArg (Own.row _ _) (by rw [hy])
      · exact congrArg (Own.row _ _) (by rw [hy, List.take_of_length_le (by rw [hol]; omega), List.drop_eq_nil_of_le (by rw [hl2]; omega), List.append_nil])
  · exact congrArg some (greedy_end hr (by omega) hi)
theorem greedy_len (xs : List Pt) : (greedyM xs).length ≤ 10 := by
  unfold greedyM
  split
  · exact (gd_len xs _).1
  · simp
def witBoundC : Con := mkCon [.room] (fun x => x.1.length ≤ 1048576) fun x => vI (greedyM x.1).length
theorem iWitnessBound_ok : Good1 Try.prog n_impl_WitnessBound witBoundC := by
  refine good_ofG (tys := tyL) (env := [(n_impl_GreedyWitnesses, greedyC)]) (envw := []) (envd := []) [] [] [] [] [] mixed tys ⟨iGreedyWitnesses_ok, trivial⟩ trivial trivial Try.func42 rfl (by kernel_rfl) (by decide) (by kernel_rfl) ?_
  have hG_ := kpz [(0, [1]), (1, [2])] [] [] []
  rintro ⟨(xs : List Pt), ⟨⟩⟩ (h1 : xs.length ≤ _)
  (repeat' (first | (with_reducible first | exact True.intro | refine zQ ?_ | (refine zG hG_ ?_; intro K_ hK_) | (refine zR ?_; intro K_ hK_) | (refine hK_ _ _ ?_; try clear hK_ K_) | refine sq_n ?_ | refine sq_r ?_ | refine sq_e ?_ | refine bq_n ?_ | refine bq_r ?_ | refine bq_q ?_ | refine zB ?_ | refine zX ?_ | refine zT ?_ | refine zK ?_ | refine gq_n ?_ | refine gq_r ?_ | refine gq_e ?_ | refine lq_n ?_ | refine lq_r ?_ | refine lq_e ?_ | refine bq_e (by decide) ?_) | ((with_reducible refine zC (b := ?b_) ?hb_ ?_ ?_); case hb_ => rfl) | ((conv => whnf); first | (with_reducible refine hK_ _ _ ?_; try clear hK_ K_) | (with_reducible refine fun (g_ : Sl) (o_ : Ow) => ?_) | (with_reducible first | exact True.intro | refine And.intro trivial ?_ | refine And.intro ?_ ?_) | exact Nat.le_of_ble_eq_true rfl | exact Or.inl rfl | (intro h_; cases h_) | (intro h_; (try simp only [vS1] at h_)) | rfl))) <;> (try (conv => whnf)) <;> (try first | change (_ : Int) ≤ _ | change (_ : Nat) ≤ _) <;> (try ((fail_if_success (with_reducible apply Exists.intro)); (try dsimp only); (try simp only [vS1]))) <;> (try simp (disch := omega) only [vS3, Int.add_sub_cancel, tn1, tnp, tnc, vS2] at *)
  all_goals (try (fail_if_success (with_reducible apply Exists.intro)); first | with_reducible assumption | omega | exact mdl (by omega) | exact ilo1 (by omega) | exact ilo2 (by omega) | exact ihi1 (by omega) (by omega) | exact ihi2 (by omega) (by omega))
end Go.Proofs.Ytnepfcnlngpchaa
namespace Go.Proofs.Ytnepfcnlngpchaa.Geo
theorem pp {a b : Int} (h1 : 0 < a) (h2 : 0 < b) : 0 < a * b := Int.mul_pos h1 h2
theorem nn0 {a b : Int} (h1 : 0 ≤ a) (h2 : 0 ≤ b) : 0 ≤ a * b := Int.mul_nonneg h1 h2
theorem mm0 {a b : Int} (h1 : a ≤ 0) (h2 : b ≤ 0) : 0 ≤ a * b := by have := Int.mul_nonneg (show 0 ≤ -a by omega) (show 0 ≤ -b by omega); rwa [Int.neg_mul_neg] at this
theorem pm0 {a b : Int} (h1 : 0 ≤ a) (h2 : b ≤ 0) : a * b ≤ 0 := by have := Int.mul_nonneg h1 (show 0 ≤ -b by omega); rw [Int.mul_neg] at this; omega
theorem mp0 {a b : Int} (h1 : a ≤ 0) (h2 : 0 ≤ b) : a * b ≤ 0 := by have := Int.mul_nonneg (show 0 ≤ -a by omega) h2; rw [Int.neg_mul] at this; omega
theorem mm {a b : Int} (h1 : a < 0) (h2 : b < 0) : 0 < a * b := by have := Int.mul_pos (show 0 < -a by omega) (show 0 < -b by omega); rwa [Int.neg_mul_neg] at this
theorem pm {a b : Int} (h1 : 0 < a) (h2 : b < 0) : a * b < 0 := by have := Int.mul_pos h1 (show 0 < -b by omega); rw [Int.mul_neg] at this; omega
theorem mp {a b : Int} (h1 : a < 0) (h2 : 0 < b) : a * b < 0 := by have := Int.mul_pos (show 0 < -a by omega) h2; rw [Int.neg_mul] at this; omega
section
variable {A B U V p r d fa fb fq fr : Int}
theorem e2_of (E0 : B - A = U - V) (E1 : B * p - A * r = U * d) : B * (p - d) - A * (r - d) = V * d := by grind
theorem lm (E0 : B - A = U - V) (E1 : B * p - A * r = U * d) (F : B * fa - A * fb = U * fr - V * fq) (hd : 0 < d) (ha : 0 < fa) (hb : 0 < fb) (hq : fq ≤ 0) (hr : fr ≤ 0)
    (h1 : p ≤ 0) (h2 : 0 < r) (h3 : r ≤ d) : 0 < U ↔ B < 0 := by
  have E2 := e2_of E0 E1
  constructor
  · intro hU
    rcases (show B < 0 ∨ 0 ≤ B by omega) with h | hB
    · exact h
    exfalso
    have g1 := pp hU hd
    have g2 := pm0 hB h1
    rcases (show A < 0 ∨ 0 ≤ A by omega) with hA | hA
    · rcases (show 0 < V ∨ V ≤ 0 by omega) with hV | hV
      · have g3 := pp hV hd
        have g4 := pm0 hB (show p - d ≤ 0 by omega)
        have g5 := mm0 (show A ≤ 0 by omega) (show r - d ≤ 0 by omega)
        omega
      · have g3 := nn0 hB (show 0 ≤ fa by omega)
        have g4 := mp hA hb
        have g5 := pm0 (show 0 ≤ U by omega) hr
        have g6 := mm0 hV hq
        omega
    · have g3 := nn0 hA (show 0 ≤ r by omega)
      omega
  · intro hB
    rcases (show 0 < U ∨ U ≤ 0 by omega) with h | hU
    · exact h
    exfalso
    have g1 := mp0 hU (show 0 ≤ d by omega)
    have g2 := mm0 (show B ≤ 0 by omega) h1
    rcases (show A < 0 ∨ 0 ≤ A by omega) with hA | hA
    · have g3 := mp hA h2
      omega
    · have g3 := mp hB ha
      have g4 := nn0 hA (show 0 ≤ fb by omega)
      have g5 := mm0 hU hr
      rcases (show 0 < V ∨ V ≤ 0 by omega) with hV | hV
      · have g6 := pm0 (show 0 ≤ V by omega) hq
        omega
      · have g6 := mm hB (show p - d < 0 by omega)
        have g7 := pm0 hA (show r - d ≤ 0 by omega)
        have g8 := mp0 hV (show 0 ≤ d by omega)
        omega
theorem lh (E0 : B - A = U - V) (E1 : B * p - A * r = U * d) (F : B * fa - A * fb = U * fr - V * fq) (hd : 0 < d) (ha : 0 < fa) (hb : 0 < fb) (hq : fq ≤ 0) (hr : fr ≤ 0)
    (h1 : p ≤ 0) (h2 : d < r) : 0 < U ↔ 0 < V := by
  have E2 := e2_of E0 E1
  constructor
  · intro hU
    rcases (show 0 < V ∨ V ≤ 0 by omega) with h | hV
    · exact h
    exfalso
    have g1 := pp hU hd
    have g0 := mp0 hV (show 0 ≤ d by omega)
    rcases (show A < 0 ∨ 0 ≤ A by omega) with hA | hA
    · rcases (show B < 0 ∨ 0 ≤ B by omega) with hB | hB
      · have g2 := mm hB (show p - d < 0 by omega)
        have g3 := mp hA (show 0 < r - d by omega)
        omega
      · have g3 := nn0 hB (show 0 ≤ fa by omega)
        have g4 := mp hA hb
        have g5 := pm0 (show 0 ≤ U by omega) hr
        have g6 := mm0 hV hq
        omega
    · rcases (show B < 0 ∨ 0 ≤ B by omega) with hB | hB
      · omega
      · have g2 := pm0 hB h1
        have g3 := nn0 hA (show 0 ≤ r by omega)
        omega
  · intro hV
    rcases (show 0 < U ∨ U ≤ 0 by omega) with h | hU
    · exact h
    exfalso
    have g1 := pp hV hd
    have g0 := mp0 hU (show 0 ≤ d by omega)
    rcases (show A < 0 ∨ 0 ≤ A by omega) with hA | hA
    · rcases (show B < 0 ∨ 0 ≤ B by omega) with hB | hB
      · have g2 := mm0 (show B ≤ 0 by omega) h1
        have g3 := mp hA (show 0 < r by omega)
        omega
      · omega
    · rcases (show B < 0 ∨ 0 ≤ B by omega) with hB | hB
      · have g2 := mp hB ha
        have g3 := nn0 hA (show 0 ≤ fb by omega)
        have g4 := mm0 hU hr
        have g5 := pm0 (show 0 ≤ V by omega) hq
        omega
      · have g2 := pm0 hB (show p - d ≤ 0 by omega)
        have g3 := nn0 hA (show 0 ≤ r - d by omega)
        omega
theorem mmL (E0 : B - A = U - V) (E1 : B * p - A * r = U * d) (F : B * fa - A * fb = U * fr - V * fq) (hd : 0 < d) (ha : 0 < fa) (hb : 0 < fb) (hq : fq ≤ 0) (hr : fr ≤ 0)
    (h1 : 0 < p) (h2 : p ≤ d) (h3 : 0 < r) (h4 : r ≤ d) : A < 0 ↔ B < 0 := by
  have E2 := e2_of E0 E1
  constructor
  · intro hA
    rcases (show B < 0 ∨ 0 ≤ B by omega) with h | hB
    · exact h
    exfalso
    have g1 := nn0 hB (show 0 ≤ p by omega)
    have g2 := mp hA h3
    have g3 := pm0 hB (show p - d ≤ 0 by omega)
    have g4 := mm0 (show A ≤ 0 by omega) (show r - d ≤ 0 by omega)
    have g5 := nn0 hB (show 0 ≤ fa by omega)
    have g6 := mp hA hb
    rcases (show 0 < U ∨ U ≤ 0 by omega) with hU | hU
    · have g7 := pm0 (show 0 ≤ U by omega) hr
      rcases (show 0 < V ∨ V ≤ 0 by omega) with hV | hV
      · have := pp hV hd; omega
      · have := mm0 hV hq; omega
    · have := mp0 hU (show 0 ≤ d by omega); omega
  · intro hB
    rcases (show A < 0 ∨ 0 ≤ A by omega) with h | hA
    · exact h
    exfalso
    have g1 := mp hB h1
    have g2 := nn0 hA (show 0 ≤ r by omega)
    have g3 := mm0 (show B ≤ 0 by omega) (show p - d ≤ 0 by omega)
    have g4 := pm0 hA (show r - d ≤ 0 by omega)
    have g5 := mp hB ha
    have g6 := nn0 hA (show 0 ≤ fb by omega)
    rcases (show U < 0 ∨ 0 ≤ U by omega) with hU | hU
    · have g7 := mm0 (show U ≤ 0 by omega) hr
      rcases (show V < 0 ∨ 0 ≤ V by omega) with hV | hV
      · have := mp hV hd; omega
      · have := pm0 hV hq; omega
    · have := nn0 hU (show 0 ≤ d by omega); omega
theorem mh (E0 : B - A = U - V) (E1 : B * p - A * r = U * d) (F : B * fa - A * fb = U * fr - V * fq) (hd : 0 < d) (ha : 0 < fa) (hb : 0 < fb) (hq : fq ≤ 0) (hr : fr ≤ 0)
    (h1 : 0 < p) (h2 : p ≤ d) (h3 : d < r) : 0 < V ↔ A < 0 := by
  have E2 := e2_of E0 E1
  constructor
  · intro hV
    rcases (show A < 0 ∨ 0 ≤ A by omega) with h | hA
    · exact h
    exfalso
    have g1 := pp hV hd
    have g2 := nn0 hA (show 0 ≤ r - d by omega)
    have g3 := nn0 hA (show 0 ≤ r by omega)
    rcases (show B < 0 ∨ 0 ≤ B by omega) with hB | hB
    · have g4 := mp hB h1
      have g5 := mp hB ha
      have g6 := nn0 hA (show 0 ≤ fb by omega)
      have g7 := pm0 (show 0 ≤ V by omega) hq
      rcases (show U < 0 ∨ 0 ≤ U by omega) with hU | hU
      · have := mm0 (show U ≤ 0 by omega) hr; omega
      · have := nn0 hU (show 0 ≤ d by omega); omega
    · have g4 := pm0 hB (show p - d ≤ 0 by omega)
      omega
  · intro hA
    rcases (show 0 < V ∨ V ≤ 0 by omega) with h | hV
    · exact h
    exfalso
    have g1 := mp0 hV (show 0 ≤ d by omega)
    have g2 := mp hA (show 0 < r - d by omega)
    have g3 := mp hA (show 0 < r by omega)
    rcases (show B < 0 ∨ 0 ≤ B by omega) with hB | hB
    · have g4 := mm0 (show B ≤ 0 by omega) (show p - d ≤ 0 by omega)
      omega
    · have g4 := nn0 hB (show 0 ≤ p by omega)
      have g5 := nn0 hB (show 0 ≤ fa by omega)
      have g6 := mp hA hb
      have g7 := mm0 hV hq
      rcases (show 0 < U ∨ U ≤ 0 by omega) with hU | hU
      · have := pm0 (show 0 ≤ U by omega) hr; omega
      · have := mp0 hU (show 0 ≤ d by omega); omega
end
structure Aff where
  u : Int
  v : Int
  w : Int
def Aff.ev (f : Aff) (p : Pt) : Int := f.u * p.1 + f.v * p.2 + f.w
theorem tid (a b q r : Pt) : turnZ q r b - turnZ q r a = turnZ a b q - turnZ a b r := by unfold turnZ; grind
theorem aid (f : Aff) (a b q r : Pt) : turnZ q r b * f.ev a - turnZ q r a * f.ev b = turnZ a b q * f.ev r - turnZ a b r * f.ev q := by unfold turnZ Aff.ev; grind
theorem turnZ_swap (a b p : Pt) : turnZ b a p = - turnZ a b p := by unfold turnZ; grind
def crN (h : Aff) (p a b : Pt) : Int :=
  if h.ev a ≤ h.ev p ∧ h.ev p < h.ev b ∧ 0 < turnZ a b p then 1 else if h.ev b ≤ h.ev p ∧ h.ev p < h.ev a ∧ turnZ a b p < 0 then -1 else 0
theorem crN_swap (h : Aff) (p a b : Pt) : crN h p b a = - crN h p a b := by
  unfold crN
  rw [turnZ_swap a b p]
  repeat' split
  all_goals omega
def inS (h : Aff) (q r x : Pt) : Int := if h.ev q < h.ev x ∧ h.ev x ≤ h.ev r ∧ turnZ q r x < 0 then 1 else 0
def Part (a b q r : Pt) : Prop := ∃ f : Aff, 0 < f.ev a ∧ 0 < f.ev b ∧ f.ev q ≤ 0 ∧ f.ev r ≤ 0
theorem cr_step' (h : Aff) {a b q r : Pt} (hs : Part a b q r) (hd : h.ev q < h.ev r) (hab : h.ev a ≤ h.ev b) : crN h q a b - crN h r a b = inS h q r b - inS h q r a := by
  obtain ⟨f, fa, fb, fq, fr⟩ := hs
  have E0 := tid a b q r
  have E := aid h a b q r
  have F := aid f a b q r
  have E1 : turnZ q r b * (h.ev a - h.ev q) - turnZ q r a * (h.ev b - h.ev q) = turnZ a b q * (h.ev r - h.ev q) := by grind
  unfold crN inS
  generalize turnZ q r b = B at *
  generalize turnZ q r a = A at *
  generalize turnZ a b q = U at *
  generalize turnZ a b r = V at *
  have hd' : 0 < h.ev r - h.ev q := by omega
  rcases (show h.ev a ≤ h.ev q ∨ (h.ev q < h.ev a ∧ h.ev a ≤ h.ev r) ∨ h.ev r < h.ev a by omega) with ha | ⟨ha1, ha2⟩ | ha
  · rcases (show h.ev b ≤ h.ev q ∨ (h.ev q < h.ev b ∧ h.ev b ≤ h.ev r) ∨ h.ev r < h.ev b by omega) with hb | ⟨hb1, hb2⟩ | hb
    · repeat' split
      all_goals omega
    · have := lm E0 E1 F hd' fa fb fq fr (by omega) (by omega) (by omega)
      repeat' split
      all_goals omega
    · have := lh E0 E1 F hd' fa fb fq fr (by omega) (by omega)
      repeat' split
      all_goals omega
  · rcases (show h.ev b ≤ h.ev r ∨ h.ev r < h.ev b by omega) with hb | hb
    · have := mmL E0 E1 F hd' fa fb fq fr (by omega) (by omega) (by omega) (by omega)
      repeat' split
      all_goals omega
    · have := mh E0 E1 F hd' fa fb fq fr (by omega) (by omega) (by omega)
      repeat' split
      all_goals omega
  · repeat' split
    all_goals omega
theorem Part.swap {a b q r : Pt} (hs : Part a b q r) : Part b a q r := let ⟨f, fa, fb, fq, fr⟩ := hs; ⟨f, fb, fa, fq, fr⟩
theorem cr_step (h : Aff) {a b q r : Pt} (hs : Part a b q r) (hd : h.ev q < h.ev r) : crN h q a b - crN h r a b = inS h q r b - inS h q r a := by
  rcases (show h.ev a ≤ h.ev b ∨ h.ev b ≤ h.ev a by omega) with hab | hab
  · exact cr_step' h hs hd hab
  · have := cr_step' h hs.swap hd hab
    rw [crN_swap h q a b, crN_swap h r a b] at this
    omega
section
variable {A B U V p r d fa fb fq fr : Int}
theorem lev (E0 : B - A = U - V) (E1 : B * p = A * r) (F : B * fa - A * fb = U * fr - V * fq) (ha : 0 < fa) (hb : 0 < fb) (hq : fq ≤ 0) (hr : fr ≤ 0)
    (h1 : p ≤ 0) (h2 : 0 < r) : 0 < U ↔ 0 < V := by
  constructor
  · intro hU
    rcases (show 0 < V ∨ V ≤ 0 by omega) with h | hV
    · exact h
    exfalso
    have g5 := pm0 (show 0 ≤ U by omega) hr
    have g6 := mm0 hV hq
    rcases (show 0 < B ∨ B ≤ 0 by omega) with hB | hB
    · have g1 := pm0 (show 0 ≤ B by omega) h1
      have g2 := pp hB ha
      rcases (show 0 < A ∨ A ≤ 0 by omega) with hA | hA
      · have := pp hA h2; omega
      · have := mp0 hA (show 0 ≤ fb by omega); omega
    · have g1 := mm0 hB h1
      have := mp (show A < 0 by omega) h2
      omega
  · intro hV
    rcases (show 0 < U ∨ U ≤ 0 by omega) with h | hU
    · exact h
    exfalso
    have g5 := mm0 hU hr
    have g6 := pm0 (show 0 ≤ V by omega) hq
    rcases (show B < 0 ∨ 0 ≤ B by omega) with hB | hB
    · have g1 := mm0 (show B ≤ 0 by omega) h1
      have g2 := mp hB ha
      rcases (show A < 0 ∨ 0 ≤ A by omega) with hA | hA
      · have := mp hA h2; omega
      · have := nn0 hA (show 0 ≤ fb by omega); omega
    · have g1 := pm0 hB h1
      have := pp (show 0 < A by omega) h2
      omega
end
theorem cr_level' (h : Aff) {a b q r : Pt} (hs : Part a b q r) (hd : h.ev q = h.ev r) (hab : h.ev a ≤ h.ev b) : crN h q a b = crN h r a b := by
  obtain ⟨f, fa, fb, fq, fr⟩ := hs
  have E0 := tid a b q r
  have E := aid h a b q r
  have F := aid f a b q r
  have E1 : turnZ q r b * (h.ev a - h.ev q) = turnZ q r a * (h.ev b - h.ev q) := by grind
  unfold crN
  generalize turnZ q r b = B at *
  generalize turnZ q r a = A at *
  generalize turnZ a b q = U at *
  generalize turnZ a b r = V at *
  rcases (show h.ev q < h.ev a ∨ h.ev b ≤ h.ev q ∨ (h.ev a ≤ h.ev q ∧ h.ev q < h.ev b) by omega) with ha | ha | ⟨h1, h2⟩
  · repeat' split
    all_goals omega
  · repeat' split
    all_goals omega
  · have := lev E0 E1 F fa fb fq fr (by omega) (by omega)
    repeat' split
    all_goals omega
theorem cr_level (h : Aff) {a b q r : Pt} (hs : Part a b q r) (hd : h.ev q = h.ev r) : crN h q a b = crN h r a b := by
  rcases (show h.ev a ≤ h.ev b ∨ h.ev b ≤ h.ev a by omega) with hab | hab
  · exact cr_level' h hs hd hab
  · have := cr_level' h hs.swap hd hab
    rw [crN_swap h q a b, crN_swap h r a b] at this
    omega
def sumN (f : Nat → Int) : Nat → Int
  | 0 => 0
  | n + 1 => sumN f n + f n
theorem sumN_congr {f g : Nat → Int} : ∀ {n : Nat}, (∀ k, k < n → f k = g k) → sumN f n = sumN g n
  | 0, _ => rfl
  | n + 1, h => by simp only [sumN]; rw [sumN_congr fun k hk => h k (by omega), h n (by omega)]
theorem sumN_sub (f g : Nat → Int) : ∀ n, sumN (fun k => f k - g k) n = sumN f n - sumN g n
  | 0 => rfl
  | n + 1 => by simp only [sumN]; rw [sumN_sub f g n]; omega
theorem sumN_tel (g : Nat → Int) : ∀ n, sumN (fun k => g (k + 1) - g k) n = g n - g 0
  | 0 => by simp [sumN]
  | n + 1 => by simp only [sumN]; rw [sumN_tel g n]; omega
theorem sumN_one {f : Nat → Int} {k : Nat} : ∀ {n : Nat}, k < n → sumN f n = sumN (fun j => if j = k then 0 else f j) n + f k
  | 0, h => by omega
  | n + 1, h => by
    simp only [sumN]
    by_cases e : n = k
    · subst e
      rw [if_pos rfl, sumN_congr (f := fun j => if j = n then 0 else f j) (g := f) fun j hj => if_neg (by omega)]
      omega
    · rw [sumN_one (k := k) (n := n) (by omega), if_neg e]; omega
structure Way where
  n : Nat
  v : Nat → Pt
  cyc : v n = v 0
def wnd (h : Aff) (P : Way) (p : Pt) : Int := sumN (fun k => crN h p (P.v k) (P.v (k + 1))) P.n
def wndO (h : Aff) (P : Way) (k : Nat) (p : Pt) : Int := sumN (fun j => if j = k then 0 else crN h p (P.v j) (P.v (j + 1))) P.n
theorem wnd_one (h : Aff) (P : Way) {k : Nat} (hk : k < P.n) (p : Pt) : wnd h P p = wndO h P k p + crN h p (P.v k) (P.v (k + 1)) := sumN_one hk
theorem tel_one (P : Way) (J : Pt → Int) {k : Nat} (hk : k < P.n) : sumN (fun j => if j = k then 0 else J (P.v (j + 1)) - J (P.v j)) P.n = J (P.v k) - J (P.v (k + 1)) := by
  have h1 := sumN_tel (fun j => J (P.v j)) P.n
  have h2 := sumN_one (f := fun j => J (P.v (j + 1)) - J (P.v j)) hk
  rw [h1] at h2
  simp only [P.cyc] at h2
  omega
theorem wnd_step (h : Aff) (P : Way) {q r : Pt} (hs : ∀ j, j < P.n → Part (P.v j) (P.v (j + 1)) q r) : wnd h P q = wnd h P r := by
  have key : ∀ {q r : Pt}, (∀ j, j < P.n → Part (P.v j) (P.v (j + 1)) q r) → h.ev q < h.ev r → wnd h P q = wnd h P r := by
    intro q r hs hd
    have h1 : sumN (fun k => crN h q (P.v k) (P.v (k + 1)) - crN h r (P.v k) (P.v (k + 1))) P.n = sumN (fun k => inS h q r (P.v (k + 1)) - inS h q r (P.v k)) P.n :=
      sumN_congr fun k hk => cr_step h (hs k hk) hd
    rw [sumN_sub, sumN_tel (fun k => inS h q r (P.v k)), P.cyc] at h1
    unfold wnd
    omega
  rcases (show h.ev q < h.ev r ∨ h.ev q = h.ev r ∨ h.ev r < h.ev q by omega) with hd | hd | hd
  · exact key hs hd
  · exact sumN_congr fun k hk => cr_level h (hs k hk) hd
  · exact (key (fun j hj => let ⟨f, fa, fb, fq, fr⟩ := hs j hj; ⟨f, fa, fb, fr, fq⟩) hd).symm
theorem wndO_step (h : Aff) (P : Way) {k : Nat} (hk : k < P.n) {q r : Pt} (hs : ∀ j, j < P.n → j ≠ k → Part (P.v j) (P.v (j + 1)) q r) (hd : h.ev q < h.ev r) :
    wndO h P k q - wndO h P k r = inS h q r (P.v k) - inS h q r (P.v (k + 1)) := by
  rw [← tel_one P (inS h q r) hk]
  unfold wndO
  rw [← sumN_sub]
  refine sumN_congr fun j hj => ?_
  by_cases e : j = k
  · simp [e]
  · rw [if_neg e, if_neg e, if_neg e]; exact cr_step h (hs j hj e) hd
theorem wndO_level (h : Aff) (P : Way) {k : Nat} {q r : Pt} (hs : ∀ j, j < P.n → j ≠ k → Part (P.v j) (P.v (j + 1)) q r) (hd : h.ev q = h.ev r) : wndO h P k q = wndO h P k r := by
  refine sumN_congr fun j hj => ?_
  by_cases e : j = k
  · simp [e]
  · rw [if_neg e, if_neg e]; exact cr_level h (hs j hj e) hd
def side (h : Aff) (p a b : Pt) : Int := if h.ev a < h.ev b ∧ 0 < turnZ a b p then 1 else if h.ev b < h.ev a ∧ turnZ a b p < 0 then -1 else 0
theorem plu (h : Aff) (a b p x : Pt) : (h.ev b - h.ev a) * turnZ p x a + (h.ev x - h.ev a) * turnZ a b p = (h.ev p - h.ev a) * turnZ a b x := by unfold turnZ Aff.ev; grind
theorem sgn_of {s t m n : Int} (hs : 0 < s) (ht : 0 < t) (e : s * m + t * n = 0) : (m < 0 ↔ 0 < n) ∧ (0 < m ↔ n < 0) := by
  rcases (show m < 0 ∨ m = 0 ∨ 0 < m by omega) with h | h | h
  · have h1 := pm hs h
    have : 0 < n := by
      rcases (show 0 < n ∨ n ≤ 0 by omega) with h2 | h2
      · exact h2
      · have := pm0 (show 0 ≤ t by omega) h2; omega
    omega
  · subst h
    rw [Int.mul_zero, Int.zero_add] at e
    have : n = 0 := by rcases Int.mul_eq_zero.1 e with h | h <;> omega
    omega
  · have h1 := pp hs h
    have : n < 0 := by
      rcases (show n < 0 ∨ 0 ≤ n by omega) with h2 | h2
      · exact h2
      · have := nn0 (show 0 ≤ t by omega) h2; omega
    omega
def OnO (h : Aff) (x a b : Pt) : Prop := turnZ a b x = 0 ∧ ((h.ev a < h.ev x ∧ h.ev x < h.ev b) ∨ (h.ev b < h.ev x ∧ h.ev x < h.ev a))
theorem wndO_step' (h : Aff) (P : Way) {k : Nat} (hk : k < P.n) {q r a b : Pt} (hs : ∀ j, j < P.n → j ≠ k → Part (P.v j) (P.v (j + 1)) q r) (hd : h.ev q < h.ev r) (ha : P.v k = a) (hb : P.v (k + 1) = b) :
    wndO h P k q - wndO h P k r = inS h q r a - inS h q r b := by
  subst ha; subst hb; exact wndO_step h P hk hs hd
theorem wnd_see (h : Aff) (P : Way) {k : Nat} (hk : k < P.n) {p x : Pt} (hx : OnO h x (P.v k) (P.v (k + 1))) (hs : ∀ j, j < P.n → j ≠ k → Part (P.v j) (P.v (j + 1)) p x) :
    wnd h P p = wndO h P k x + side h p (P.v k) (P.v (k + 1)) := by
  rw [wnd_one h P hk]
  obtain ⟨h0, hx⟩ := hx
  obtain ⟨a, hPa⟩ : ∃ a, P.v k = a := ⟨_, rfl⟩
  obtain ⟨b, hPb⟩ : ∃ b, P.v (k + 1) = b := ⟨_, rfl⟩
  rw [hPa, hPb] at h0 hx ⊢
  have i1 := plu h a b p x
  have i2 := plu h b a p x
  have i3 := turnZ_swap a b p
  have i4 := turnZ_swap a b x
  have i5 : turnZ x p a = - turnZ p x a := turnZ_swap p x a
  have i6 : turnZ x p b = - turnZ p x b := turnZ_swap p x b
  rw [h0, Int.mul_zero] at i1
  rw [i4, h0, i3] at i2
  rcases (show h.ev p < h.ev x ∨ h.ev p = h.ev x ∨ h.ev x < h.ev p by omega) with hd | hd | hd
  · have e := wndO_step' h P hk hs hd hPa hPb
    rcases hx with ⟨ha, hb⟩ | ⟨hb, ha⟩
    · have := sgn_of (show 0 < h.ev b - h.ev a by omega) (show 0 < h.ev x - h.ev a by omega) i1
      unfold inS at e
      unfold crN side
      revert e
      repeat' split
      all_goals omega
    · have := sgn_of (show 0 < h.ev a - h.ev b by omega) (show 0 < h.ev x - h.ev b by omega) (show (h.ev a - h.ev b) * turnZ p x b + (h.ev x - h.ev b) * (- turnZ a b p) = 0 by omega)
      unfold inS at e
      unfold crN side
      revert e
      repeat' split
      all_goals omega
  · rw [wndO_level h P hs hd]
    unfold crN side
    repeat' split
    all_goals omega
  · have e := wndO_step' h P hk (q := x) (r := p) (fun j hj hjk => let ⟨f, fa, fb, fq, fr⟩ := hs j hj hjk; ⟨f, fa, fb, fr, fq⟩) hd hPa hPb
    rcases hx with ⟨ha, hb⟩ | ⟨hb, ha⟩
    · have := sgn_of (show 0 < h.ev b - h.ev a by omega) (show 0 < h.ev b - h.ev x by omega) (show (h.ev b - h.ev a) * turnZ p x b + (h.ev b - h.ev x) * (- turnZ a b p) = 0 by rw [← Int.neg_inj]; rw [← Int.neg_sub (h.ev b) (h.ev a), ← Int.neg_sub (h.ev b) (h.ev x), Int.neg_mul, Int.neg_mul] at i2; omega)
      unfold inS at e
      unfold crN side
      revert e
      repeat' split
      all_goals omega
    · have := sgn_of (show 0 < h.ev a - h.ev b by omega) (show 0 < h.ev a - h.ev x by omega) (show (h.ev a - h.ev b) * turnZ p x a + (h.ev a - h.ev x) * turnZ a b p = 0 by rw [← Int.neg_inj]; rw [← Int.neg_sub (h.ev a) (h.ev b), ← Int.neg_sub (h.ev a) (h.ev x), Int.neg_mul, Int.neg_mul] at i1; omega)
      unfold inS at e
      unfold crN side
      revert e
      repeat' split
      all_goals omega
theorem wndO_along (h : Aff) (P : Way) {k : Nat} (hk : k < P.n) {x y : Pt} (hx : turnZ (P.v k) (P.v (k + 1)) x = 0) (hy : turnZ (P.v k) (P.v (k + 1)) y = 0) (hab : P.v k ≠ P.v (k + 1)) (hs : ∀ j, j < P.n → j ≠ k → Part (P.v j) (P.v (j + 1)) x y) :
    wndO h P k x = wndO h P k y := by
  have flat : ∀ {a b x y : Pt}, a ≠ b → turnZ a b x = 0 → turnZ a b y = 0 → turnZ x y a = 0 ∧ turnZ x y b = 0 := by
    intro a b x y hab hx hy
    have one : ∀ a b x y : Pt, a ≠ b → turnZ a b x = 0 → turnZ a b y = 0 → turnZ x y a = 0 := by
      intro a b x y hab hx hy
      have i1 : (b.1 - a.1) * turnZ x y a = (x.1 - a.1) * turnZ a b y - (y.1 - a.1) * turnZ a b x := by unfold turnZ; grind
      have i2 : (b.2 - a.2) * turnZ x y a = (x.2 - a.2) * turnZ a b y - (y.2 - a.2) * turnZ a b x := by unfold turnZ; grind
      rw [hx, hy, Int.mul_zero, Int.mul_zero, Int.sub_zero] at i1 i2
      rcases Int.mul_eq_zero.1 i1 with h1 | h1
      · rcases Int.mul_eq_zero.1 i2 with h2 | h2
        · exact absurd (Prod.ext (by omega) (by omega)) hab
        · exact h2
      · exact h1
    exact ⟨one a b x y hab hx hy, one b a x y (Ne.symm hab) (by rw [turnZ_swap, hx]; rfl) (by rw [turnZ_swap, hy]; rfl)⟩
  have key : ∀ {x y : Pt}, turnZ (P.v k) (P.v (k + 1)) x = 0 → turnZ (P.v k) (P.v (k + 1)) y = 0 → (∀ j, j < P.n → j ≠ k → Part (P.v j) (P.v (j + 1)) x y) → h.ev x < h.ev y → wndO h P k x = wndO h P k y := by
    intro x y hx hy hs hd
    have e := wndO_step h P hk hs hd
    have ⟨f1, f2⟩ := flat hab hx hy
    unfold inS at e
    rw [f1, f2] at e
    simp at e
    omega
  rcases (show h.ev x < h.ev y ∨ h.ev x = h.ev y ∨ h.ev y < h.ev x by omega) with hd | hd | hd
  · exact key hx hy hs hd
  · exact wndO_level h P hs hd
  · exact (key hy hx (fun j hj hjk => let ⟨f, fa, fb, fq, fr⟩ := hs j hj hjk; ⟨f, fa, fb, fr, fq⟩) hd).symm
def smul (K : Int) (p : Pt) : Pt := (K * p.1, K * p.2)
def padd (p q : Pt) : Pt := (p.1 + q.1, p.2 + q.2)
def psub (p q : Pt) : Pt := (p.1 - q.1, p.2 - q.2)
def Aff.sc (K : Int) (h : Aff) : Aff := ⟨h.u, h.v, K * h.w⟩
def Way.sc (K : Int) (P : Way) : Way := ⟨P.n, fun k => smul K (P.v k), by show smul K (P.v P.n) = smul K (P.v 0); rw [P.cyc]⟩
def Aff.lin (h : Aff) (d : Pt) : Int := h.u * d.1 + h.v * d.2
theorem ev_sc (h : Aff) (K : Int) (p d : Pt) : (h.sc K).ev (padd (smul K p) d) = K * h.ev p + h.lin d := by unfold Aff.ev Aff.sc smul padd Aff.lin; grind
theorem ev_sc0 (h : Aff) (K : Int) (p : Pt) : (h.sc K).ev (smul K p) = K * h.ev p := by unfold Aff.ev Aff.sc smul; grind
theorem turn_sc (K : Int) (a b p d : Pt) : turnZ (smul K a) (smul K b) (padd (smul K p) d) = K * (K * turnZ a b p + turnZ a b (padd a d)) := by unfold turnZ smul padd; grind
theorem turn_sc0 (K : Int) (a b p : Pt) : turnZ (smul K a) (smul K b) (smul K p) = K * (K * turnZ a b p) := by unfold turnZ smul; grind
theorem mul_sgn {K n : Int} (hK : 0 < K) : (0 < K * n ↔ 0 < n) ∧ (K * n < 0 ↔ n < 0) := by
  rcases (show n < 0 ∨ n = 0 ∨ 0 < n by omega) with h | h | h
  · have := pm hK h; omega
  · subst h; simp
  · have := pp hK h; omega
theorem mul_lt_iff {K m n : Int} (hK : 0 < K) : (K * m < K * n ↔ m < n) ∧ (K * m ≤ K * n ↔ m ≤ n) := ⟨Int.mul_lt_mul_left hK, Int.mul_le_mul_left hK⟩
theorem crN_sc (h : Aff) {K : Int} (hK : 0 < K) (p a b : Pt) : crN (h.sc K) (smul K p) (smul K a) (smul K b) = crN h p a b := by
  unfold crN
  simp only [ev_sc0, turn_sc0, (mul_lt_iff hK).1, (mul_lt_iff hK).2, (mul_sgn hK).1, (mul_sgn hK).2]
theorem wnd_sc (h : Aff) (P : Way) {K : Int} (hK : 0 < K) (p : Pt) : wnd (h.sc K) (P.sc K) (smul K p) = wnd h P p := sumN_congr fun k _ => crN_sc h hK _ _ _
theorem wndO_sc (h : Aff) (P : Way) {K : Int} (hK : 0 < K) (k : Nat) (p : Pt) : wndO (h.sc K) (P.sc K) k (smul K p) = wndO h P k p := sumN_congr fun j _ => by
  by_cases e : j = k
  · simp [e]
  · rw [if_neg e, if_neg e]; exact crN_sc h hK _ _ _
theorem Part.sc {a b q r : Pt} {K : Int} (hK : 0 < K) (h : Part a b q r) : Part (smul K a) (smul K b) (smul K q) (smul K r) := by
  obtain ⟨f, fa, fb, fq, fr⟩ := h
  refine ⟨f.sc K, ?_, ?_, ?_, ?_⟩ <;> rw [ev_sc0]
  · exact pp hK fa
  · exact pp hK fb
  · exact pm0 (by omega) fq
  · exact pm0 (by omega) fr
def Off (p a b : Pt) : Prop := ∃ f : Aff, 0 < f.ev a ∧ 0 < f.ev b ∧ f.ev p < 0
def Late (Q : Int → Prop) : Prop := ∃ K0 : Int, ∀ K, K0 ≤ K → 0 < K → Q K
theorem Late.and {Q R : Int → Prop} (h1 : Late Q) (h2 : Late R) : Late fun K => Q K ∧ R K := by
  obtain ⟨k1, h1⟩ := h1
  obtain ⟨k2, h2⟩ := h2
  exact ⟨max k1 k2, fun K hK h0 => ⟨h1 K (by omega) h0, h2 K (by omega) h0⟩⟩
theorem Late.of {Q : Int → Prop} (h : ∀ K, 0 < K → Q K) : Late Q := ⟨0, fun K _ h0 => h K h0⟩
theorem Late.ge (k0 : Int) : Late fun K => k0 ≤ K := ⟨k0, fun K h _ => h⟩
theorem Late.imp {Q R : Int → Prop} (h1 : Late Q) (h : ∀ K, 0 < K → Q K → R K) : Late R := let ⟨k, hk⟩ := h1; ⟨k, fun K h1 h0 => h K h0 (hk K h1 h0)⟩
theorem Late.all {n : Nat} {Q : Nat → Int → Prop} (h : ∀ j, j < n → Late (Q j)) : Late fun K => ∀ j, j < n → Q j K := by
  induction n with
  | zero => exact .of fun K _ j hj => absurd hj (by omega)
  | succ n ih =>
    refine ((ih fun j hj => h j (by omega)).and (h n (by omega))).imp fun K _ ⟨h1, h2⟩ j hj => ?_
    rcases (show j < n ∨ j = n by omega) with h | h
    · exact h1 j h
    · subst h; exact h2
theorem Late.get {Q : Int → Prop} (h : Late Q) : ∃ K, 0 < K ∧ Q K := let ⟨k, hk⟩ := h; ⟨max k 1, by omega, hk _ (by omega) (by omega)⟩
theorem Off.near {p a b : Pt} (h : Off p a b) (d e : Pt) : Late fun K => Part (smul K a) (smul K b) (padd (smul K p) d) (padd (smul K p) e) := by
  obtain ⟨f, fa, fb, fp⟩ := h
  refine ⟨max (f.lin d) (f.lin e), fun K hK h0 => ⟨f.sc K, by rw [ev_sc0]; exact pp h0 fa, by rw [ev_sc0]; exact pp h0 fb, ?_, ?_⟩⟩
  · rw [ev_sc]
    have : K * f.ev p ≤ K * (-1) := (mul_lt_iff h0).2.2 (by omega)
    omega
  · rw [ev_sc]
    have : K * f.ev p ≤ K * (-1) := (mul_lt_iff h0).2.2 (by omega)
    omega
def OnI (x a b : Pt) : Prop := ∃ s t : Int, 0 < s ∧ 0 < t ∧ (s + t) * x.1 = s * a.1 + t * b.1 ∧ (s + t) * x.2 = s * a.2 + t * b.2
theorem on_ev {s t : Int} {x a b : Pt} (h1 : (s + t) * x.1 = s * a.1 + t * b.1) (h2 : (s + t) * x.2 = s * a.2 + t * b.2) (f : Aff) : (s + t) * f.ev x = s * f.ev a + t * f.ev b := by
  have e : (s + t) * f.ev x = f.u * ((s + t) * x.1) + f.v * ((s + t) * x.2) + (s + t) * f.w := by unfold Aff.ev; grind
  rw [e, h1, h2]; unfold Aff.ev; grind
theorem OnI.le {x a b : Pt} (h : OnI x a b) {f : Aff} (ha : f.ev a ≤ 0) (hb : f.ev b ≤ 0) : f.ev x ≤ 0 := by
  obtain ⟨s, t, hs, ht, h1, h2⟩ := h
  have e := on_ev h1 h2 f
  have g1 := pm0 (show 0 ≤ s by omega) ha
  have g2 := pm0 (show 0 ≤ t by omega) hb
  rcases (show f.ev x ≤ 0 ∨ 0 < f.ev x by omega) with h | h
  · exact h
  · have := pp (show 0 < s + t by omega) h; omega
theorem OnI.neg {x a b : Pt} (h : OnI x a b) {f : Aff} (ha : f.ev a < 0) (hb : f.ev b ≤ 0) : f.ev x < 0 := by
  obtain ⟨s, t, hs, ht, h1, h2⟩ := h
  have e := on_ev h1 h2 f
  have g1 := pm hs ha
  have g2 := pm0 (show 0 ≤ t by omega) hb
  rcases (show f.ev x < 0 ∨ 0 ≤ f.ev x by omega) with h | h
  · exact h
  · have := nn0 (show 0 ≤ s + t by omega) h; omega
theorem OnI.swap {x a b : Pt} (h : OnI x a b) : OnI x b a := let ⟨s, t, hs, ht, h1, h2⟩ := h; ⟨t, s, ht, hs, by rw [Int.add_comm t s, h1]; omega, by rw [Int.add_comm t s, h2]; omega⟩
def Aff.turn (a b : Pt) : Aff := ⟨-(b.2 - a.2), b.1 - a.1, (b.2 - a.2) * a.1 - (b.1 - a.1) * a.2⟩
theorem ev_turn (a b p : Pt) : (Aff.turn a b).ev p = turnZ a b p := by unfold Aff.ev Aff.turn turnZ; grind
def dotZ (a b p : Pt) : Int := (b.1 - a.1) * (p.1 - b.1) + (b.2 - a.2) * (p.2 - b.2)
def Aff.dot (a b : Pt) : Aff := ⟨b.1 - a.1, b.2 - a.2, -((b.1 - a.1) * b.1 + (b.2 - a.2) * b.2)⟩
theorem ev_dot (a b p : Pt) : (Aff.dot a b).ev p = dotZ a b p := by unfold Aff.ev Aff.dot dotZ; grind
def Aff.lc (m : Int) (f : Aff) (n : Int) (g : Aff) (c : Int) : Aff := ⟨m * f.u + n * g.u, m * f.v + n * g.v, m * f.w + n * g.w + c⟩
theorem ev_lc (m : Int) (f : Aff) (n : Int) (g : Aff) (c : Int) (p : Pt) : (Aff.lc m f n g c).ev p = m * f.ev p + n * g.ev p + c := by unfold Aff.ev Aff.lc; grind
theorem OnI.flat {x a b : Pt} (h : OnI x a b) : turnZ a b x = 0 := by
  obtain ⟨s, t, hs, ht, h1, h2⟩ := h
  have e := on_ev h1 h2 (Aff.turn a b)
  rw [ev_turn, ev_turn, ev_turn] at e
  have e1 : turnZ a b a = 0 := by unfold turnZ; grind
  have e2 : turnZ a b b = 0 := by unfold turnZ; grind
  rw [e1, e2, Int.mul_zero, Int.mul_zero] at e
  rcases Int.mul_eq_zero.1 e with h | h
  · omega
  · exact h
theorem OnI.lev {x a b : Pt} (hx : OnI x a b) {h : Aff} (hab : h.ev a ≠ h.ev b) : OnO h x a b := by
  refine ⟨hx.flat, ?_⟩
  obtain ⟨s, t, hs, ht, h1, h2⟩ := hx
  have e := on_ev h1 h2 h
  have e1 : (s + t) * (h.ev x - h.ev a) = t * (h.ev b - h.ev a) := by grind
  have e2 : (s + t) * (h.ev b - h.ev x) = s * (h.ev b - h.ev a) := by grind
  have hst : 0 < s + t := by omega
  rcases (show h.ev a < h.ev b ∨ h.ev b < h.ev a by omega) with hl | hl
  · have g1 := pp ht (show 0 < h.ev b - h.ev a by omega)
    have g2 := pp hs (show 0 < h.ev b - h.ev a by omega)
    rw [← e1] at g1
    rw [← e2] at g2
    have := (mul_sgn hst).1.1 g1
    have := (mul_sgn hst).1.1 g2
    omega
  · have g1 := pm ht (show h.ev b - h.ev a < 0 by omega)
    have g2 := pm hs (show h.ev b - h.ev a < 0 by omega)
    rw [← e1] at g1
    rw [← e2] at g2
    have := (mul_sgn hst).2.1 g1
    have := (mul_sgn hst).2.1 g2
    omega
def Bends (a b z : Pt) : Prop := a ≠ b ∧ (turnZ a b z ≠ 0 ∨ 0 < dotZ a b z)
theorem sq_pos {a b : Pt} (h : a ≠ b) : 0 < (b.1 - a.1) * (b.1 - a.1) + (b.2 - a.2) * (b.2 - a.2) := by
  have h1 : 0 ≤ (b.1 - a.1) * (b.1 - a.1) := by rcases (show 0 ≤ b.1 - a.1 ∨ b.1 - a.1 ≤ 0 by omega) with h | h; exact nn0 h h; exact mm0 h h
  have h2 : 0 ≤ (b.2 - a.2) * (b.2 - a.2) := by rcases (show 0 ≤ b.2 - a.2 ∨ b.2 - a.2 ≤ 0 by omega) with h | h; exact nn0 h h; exact mm0 h h
  rcases (show 0 < (b.1 - a.1) * (b.1 - a.1) + (b.2 - a.2) * (b.2 - a.2) ∨ ((b.1 - a.1) * (b.1 - a.1) = 0 ∧ (b.2 - a.2) * (b.2 - a.2) = 0) by omega) with h3 | ⟨h3, h4⟩
  · exact h3
  · exfalso
    have h5 : b.1 - a.1 = 0 := by rcases Int.mul_eq_zero.1 h3 with h | h <;> exact h
    have h6 : b.2 - a.2 = 0 := by rcases Int.mul_eq_zero.1 h4 with h | h <;> exact h
    exact h (Prod.ext (by omega) (by omega))
theorem Bends.part {a b z x y : Pt} (h : Bends a b z) (hx : OnI x a b) (hy : OnI y a b) : Part b z x y := by
  obtain ⟨hab, h⟩ := h
  have hsq := sq_pos hab
  have da : dotZ a b a = -((b.1 - a.1) * (b.1 - a.1) + (b.2 - a.2) * (b.2 - a.2)) := by unfold dotZ; grind
  have db : dotZ a b b = 0 := by unfold dotZ; grind
  have tx := hx.flat
  have ty := hy.flat
  have tb : turnZ a b b = 0 := by unfold turnZ; grind
  have gx : dotZ a b x < 0 := by rw [← ev_dot]; exact hx.neg (by rw [ev_dot]; omega) (by rw [ev_dot]; omega)
  have gy : dotZ a b y < 0 := by rw [← ev_dot]; exact hy.neg (by rw [ev_dot]; omega) (by rw [ev_dot]; omega)
  have hm : ∃ m : Int, 0 ≤ dotZ a b z + m * turnZ a b z := by
    rcases h with h | h
    · rcases (show 0 < turnZ a b z ∨ turnZ a b z < 0 by omega) with h | h
      · refine ⟨(dotZ a b z).natAbs, ?_⟩
        have : ((dotZ a b z).natAbs : Int) * 1 ≤ ((dotZ a b z).natAbs : Int) * turnZ a b z := Int.mul_le_mul_of_nonneg_left (by omega) (by omega)
        omega
      · refine ⟨-(dotZ a b z).natAbs, ?_⟩
        have : ((dotZ a b z).natAbs : Int) * 1 ≤ ((dotZ a b z).natAbs : Int) * (- turnZ a b z) := Int.mul_le_mul_of_nonneg_left (by omega) (by omega)
        rw [Int.mul_neg] at this
        rw [Int.neg_mul]
        omega
    · exact ⟨0, by omega⟩
  obtain ⟨m, hm⟩ := hm
  refine ⟨Aff.lc 2 (Aff.dot a b) (2 * m) (Aff.turn a b) 1, ?_, ?_, ?_, ?_⟩ <;> rw [ev_lc, ev_dot, ev_turn]
  · rw [db, tb]; omega
  · rw [Int.mul_assoc]; omega
  · rw [tx]; omega
  · rw [ty]; omega
def Adj (n j k : Nat) : Prop := k = j + 1 ∨ j = k + 1 ∨ (j = 0 ∧ k + 1 = n) ∨ (k = 0 ∧ j + 1 = n)
structure Simple (P : Way) : Prop where
  n3 : 3 ≤ P.n
  off : ∀ j k, j < P.n → k + 1 < P.n → j ≠ k → j ≠ k + 1 → Off (P.v (k + 1)) (P.v j) (P.v (j + 1))
  apart : ∀ j k, j < P.n → k < P.n → j ≠ k → ¬ Adj P.n j k → Part (P.v j) (P.v (j + 1)) (P.v k) (P.v (k + 1))
  bend : ∀ k, k + 1 < P.n → Bends (P.v k) (P.v (k + 1)) (P.v (k + 2)) ∧ Bends (P.v (k + 2)) (P.v (k + 1)) (P.v k)
  bend0 : ∀ k, k + 1 = P.n → Bends (P.v k) (P.v 0) (P.v 1) ∧ Bends (P.v 1) (P.v 0) (P.v k)
theorem Part.inn {a b c d x y : Pt} (h : Part a b c d) (hx : OnI x c d) (hy : OnI y c d) : Part a b x y := by
  obtain ⟨f, fa, fb, fc, fd⟩ := h
  exact ⟨f, fa, fb, hx.le fc fd, hy.le fc fd⟩
theorem smul_on {K : Int} {x a b : Pt} (hK : 0 < K) (h : OnI x a b) : OnI (smul K x) (smul K a) (smul K b) := by
  obtain ⟨s, t, hs, ht, h1, h2⟩ := h
  refine ⟨s, t, hs, ht, ?_, ?_⟩ <;> simp only [smul]
  · rw [Int.mul_left_comm, h1]; grind
  · rw [Int.mul_left_comm, h2]; grind
theorem Bends.sc {K : Int} (hK : 0 < K) {a b z : Pt} (h : Bends a b z) : Bends (smul K a) (smul K b) (smul K z) := by
  refine ⟨fun e => h.1 ?_, ?_⟩
  · have e1 : K * a.1 = K * b.1 := congrArg Prod.fst e
    have e2 : K * a.2 = K * b.2 := congrArg Prod.snd e
    exact Prod.ext (Int.eq_of_mul_eq_mul_left (by omega) e1) (Int.eq_of_mul_eq_mul_left (by omega) e2)
  · rw [turn_sc0]
    rcases h.2 with h | h
    · refine .inl fun e => h ?_
      rcases Int.mul_eq_zero.1 e with e | e
      · omega
      · rcases Int.mul_eq_zero.1 e with e | e
        · omega
        · exact e
    · refine .inr ?_
      have e : dotZ (smul K a) (smul K b) (smul K z) = K * (K * dotZ a b z) := by unfold dotZ smul; grind
      rw [e]
      exact pp hK (pp hK h)
theorem Off.sc {K : Int} (hK : 0 < K) {p a b : Pt} (h : Off p a b) : Off (smul K p) (smul K a) (smul K b) := by
  obtain ⟨f, fa, fb, fp⟩ := h
  exact ⟨f.sc K, by rw [ev_sc0]; exact pp hK fa, by rw [ev_sc0]; exact pp hK fb, by rw [ev_sc0]; exact pm hK fp⟩
theorem Simple.sc {K : Int} (hK : 0 < K) {P : Way} (h : Simple P) : Simple (P.sc K) :=
  ⟨h.n3, fun j k h1 h2 h3 h4 => (h.off j k h1 h2 h3 h4).sc hK, fun j k h1 h2 h3 h4 => (h.apart j k h1 h2 h3 h4).sc hK, fun k h1 => ⟨(h.bend k h1).1.sc hK, (h.bend k h1).2.sc hK⟩, fun k h1 => ⟨(h.bend0 k h1).1.sc hK, (h.bend0 k h1).2.sc hK⟩⟩
theorem Simple.ne {P : Way} (h : Simple P) {k : Nat} (hk : k < P.n) : P.v k ≠ P.v (k + 1) := by
  rcases (show k + 1 < P.n ∨ k + 1 = P.n by omega) with h1 | h1
  · exact (h.bend k h1).1.1
  · have := (h.bend0 k h1).1.1
    rwa [h1, P.cyc]
theorem Part.comm2 {a b q r : Pt} (h : Part a b q r) : Part a b r q := let ⟨f, fa, fb, fq, fr⟩ := h; ⟨f, fa, fb, fr, fq⟩
theorem Simple.inn {P : Way} (h : Simple P) {k : Nat} (hk : k < P.n) {x y : Pt} (hx : OnI x (P.v k) (P.v (k + 1))) (hy : OnI y (P.v k) (P.v (k + 1))) {j : Nat} (hj : j < P.n) (hjk : j ≠ k) :
    Part (P.v j) (P.v (j + 1)) x y := by
  have h3 := h.n3
  have hc := P.cyc
  by_cases ha : Adj P.n j k
  · rcases ha with rfl | rfl | ⟨rfl, ha⟩ | ⟨rfl, ha⟩
    · exact ((h.bend j hk).2.part hx.swap hy.swap).swap
    · exact (h.bend k hj).1.part hx hy
    · rw [ha, hc] at hx hy
      exact (h.bend0 k ha).1.part hx hy
    · rw [show j + 1 = P.n from ha, hc]
      exact ((h.bend0 j ha).2.part hx.swap hy.swap).swap
  · exact (h.apart j k hj hk hjk ha).inn hx hy
theorem Simple.along (h : Aff) {P : Way} (hP : Simple P) {k : Nat} (hk : k < P.n) {x y : Pt} (hx : OnI x (P.v k) (P.v (k + 1))) (hy : OnI y (P.v k) (P.v (k + 1))) : wndO h P k x = wndO h P k y :=
  wndO_along h P hk hx.flat hy.flat (hP.ne hk) fun _ hj hjk => hP.inn hk hx hy hj hjk
def lam (h : Aff) (P : Way) (k : Nat) (x : Pt) : Int := wndO h P k x + if h.ev (P.v k) < h.ev (P.v (k + 1)) then 1 else 0
def Sloped (h : Aff) (P : Way) : Prop := ∀ k, k < P.n → h.ev (P.v k) ≠ h.ev (P.v (k + 1))
theorem wnd_left {h : Aff} {P : Way} (hh : Sloped h P) {k : Nat} (hk : k < P.n) {p x : Pt} (hx : OnI x (P.v k) (P.v (k + 1))) (hs : ∀ j, j < P.n → j ≠ k → Part (P.v j) (P.v (j + 1)) p x) (ht : 0 < turnZ (P.v k) (P.v (k + 1)) p) :
    wnd h P p = lam h P k x := by
  rw [wnd_see h P hk (hx.lev (hh k hk)) hs]
  unfold lam side
  have := hh k hk
  repeat' split
  all_goals omega
theorem wnd_right {h : Aff} {P : Way} (hh : Sloped h P) {k : Nat} (hk : k < P.n) {p x : Pt} (hx : OnI x (P.v k) (P.v (k + 1))) (hs : ∀ j, j < P.n → j ≠ k → Part (P.v j) (P.v (j + 1)) p x) (ht : turnZ (P.v k) (P.v (k + 1)) p < 0) :
    wnd h P p = lam h P k x - 1 := by
  rw [wnd_see h P hk (hx.lev (hh k hk)) hs]
  unfold lam side
  have := hh k hk
  repeat' split
  all_goals omega
def nearA (K : Int) (a b : Pt) : Pt := padd (smul K a) (psub b a)
theorem nearA_on {K : Int} (hK : 2 ≤ K) (a b : Pt) : OnI (nearA K a b) (smul K a) (smul K b) :=
  ⟨K - 1, 1, by omega, by omega, by unfold nearA smul padd psub; grind, by unfold nearA smul padd psub; grind⟩
theorem part_turn {a b q r : Pt} {m : Int} (hm : m = 1 ∨ m = -1) (hq : 0 < m * turnZ a b q) (hr : 0 < m * turnZ a b r) : Part a b q r := by
  have ta : turnZ a b a = 0 := by unfold turnZ; grind
  have tb : turnZ a b b = 0 := by unfold turnZ; grind
  refine ⟨Aff.lc (-m) (Aff.turn a b) 0 (Aff.turn a b) 1, ?_, ?_, ?_, ?_⟩ <;> rw [ev_lc, ev_turn]
  · rw [ta]; omega
  · rw [tb]; omega
  · rw [Int.neg_mul]; omega
  · rw [Int.neg_mul]; omega
def rotP (d : Pt) : Pt := (-d.2, d.1)
theorem corner_at {P : Way} (hP : Simple P) {h : Aff} (hh : Sloped h P) {k : Nat} (hk : k + 1 < P.n) {K : Int} (hK : 2 ≤ K) (d : Pt)
    (hn : ∀ j, j < P.n → j ≠ k → j ≠ k + 1 → Part (smul K (P.v j)) (smul K (P.v (j + 1))) (padd (smul K (P.v (k + 1))) d) (nearA K (P.v (k + 1)) (P.v k)) ∧ Part (smul K (P.v j)) (smul K (P.v (j + 1))) (padd (smul K (P.v (k + 1))) d) (nearA K (P.v (k + 1)) (P.v (k + 2))))
    (h1 : Part (smul K (P.v (k + 1))) (smul K (P.v (k + 2))) (padd (smul K (P.v (k + 1))) d) (nearA K (P.v (k + 1)) (P.v k)))
    (h2 : Part (smul K (P.v k)) (smul K (P.v (k + 1))) (padd (smul K (P.v (k + 1))) d) (nearA K (P.v (k + 1)) (P.v (k + 2))))
    (hs : (0 < turnZ (smul K (P.v k)) (smul K (P.v (k + 1))) (padd (smul K (P.v (k + 1))) d) ∧ 0 < turnZ (smul K (P.v (k + 1))) (smul K (P.v (k + 2))) (padd (smul K (P.v (k + 1))) d)) ∨
      (turnZ (smul K (P.v k)) (smul K (P.v (k + 1))) (padd (smul K (P.v (k + 1))) d) < 0 ∧ turnZ (smul K (P.v (k + 1))) (smul K (P.v (k + 2))) (padd (smul K (P.v (k + 1))) d) < 0)) :
    lam (h.sc K) (P.sc K) k (nearA K (P.v (k + 1)) (P.v k)) = lam (h.sc K) (P.sc K) (k + 1) (nearA K (P.v (k + 1)) (P.v (k + 2))) := by
  have hK0 : 0 < K := by omega
  have hh' : Sloped (h.sc K) (P.sc K) := fun j hj e => hh j hj (by
    have e : (h.sc K).ev (smul K (P.v j)) = (h.sc K).ev (smul K (P.v (j + 1))) := e
    rw [ev_sc0, ev_sc0] at e
    exact Int.eq_of_mul_eq_mul_left (by omega) e)
  have o1 : OnI (nearA K (P.v (k + 1)) (P.v k)) ((P.sc K).v k) ((P.sc K).v (k + 1)) := (nearA_on hK _ _).swap
  have o2 : OnI (nearA K (P.v (k + 1)) (P.v (k + 2))) ((P.sc K).v (k + 1)) ((P.sc K).v (k + 1 + 1)) := nearA_on hK _ _
  have s1 : ∀ j, j < (P.sc K).n → j ≠ k → Part ((P.sc K).v j) ((P.sc K).v (j + 1)) (padd (smul K (P.v (k + 1))) d) (nearA K (P.v (k + 1)) (P.v k)) := fun j hj hjk => by
    by_cases e : j = k + 1
    · subst e; exact h1
    · exact (hn j hj hjk e).1
  have s2 : ∀ j, j < (P.sc K).n → j ≠ k + 1 → Part ((P.sc K).v j) ((P.sc K).v (j + 1)) (padd (smul K (P.v (k + 1))) d) (nearA K (P.v (k + 1)) (P.v (k + 2))) := fun j hj hjk => by
    by_cases e : j = k
    · subst e; exact h2
    · exact (hn j hj e hjk).2
  have hkn : k < (P.sc K).n := by show k < P.n; omega
  have hkn1 : k + 1 < (P.sc K).n := hk
  rcases hs with ⟨t1, t2⟩ | ⟨t1, t2⟩
  · rw [← wnd_left hh' hkn o1 s1 t1, ← wnd_left hh' hkn1 o2 s2 t2]
  · have e1 := wnd_right hh' hkn o1 s1 t1
    have e2 := wnd_right hh' hkn1 o2 s2 t2
    omega
theorem Simple.corner {P : Way} (hP : Simple P) {h : Aff} (hh : Sloped h P) {k : Nat} (hk : k + 1 < P.n) :
    Late fun K => lam (h.sc K) (P.sc K) k (nearA K (P.v (k + 1)) (P.v k)) = lam (h.sc K) (P.sc K) (k + 1) (nearA K (P.v (k + 1)) (P.v (k + 2))) := by
  have near : ∀ d : Pt, Late fun K => ∀ j, j < P.n → (j ≠ k → j ≠ k + 1 → Part (smul K (P.v j)) (smul K (P.v (j + 1))) (padd (smul K (P.v (k + 1))) d) (nearA K (P.v (k + 1)) (P.v k)) ∧ Part (smul K (P.v j)) (smul K (P.v (j + 1))) (padd (smul K (P.v (k + 1))) d) (nearA K (P.v (k + 1)) (P.v (k + 2)))) := by
    intro d
    refine Late.all fun j hj => ?_
    by_cases e : j = k ∨ j = k + 1
    · exact Late.of fun K _ h1 h2 => absurd e (by omega)
    · have ho := hP.off j k hj hk (by omega) (by omega)
      exact ((ho.near d (psub (P.v k) (P.v (k + 1)))).and (ho.near d (psub (P.v (k + 2)) (P.v (k + 1))))).imp fun K _ h _ _ => h
  have hb := hP.bend k hk
  generalize hu : P.v k = u at *
  generalize hv : P.v (k + 1) = v at *
  generalize hw : P.v (k + 2) = w at *
  have fin : ∀ (d : Pt) (K : Int), 2 ≤ K → (∀ j, j < P.n → (j ≠ k → j ≠ k + 1 → Part (smul K (P.v j)) (smul K (P.v (j + 1))) (padd (smul K v) d) (nearA K v u) ∧ Part (smul K (P.v j)) (smul K (P.v (j + 1))) (padd (smul K v) d) (nearA K v w))) →
      Part (smul K v) (smul K w) (padd (smul K v) d) (nearA K v u) → Part (smul K u) (smul K v) (padd (smul K v) d) (nearA K v w) →
      ((0 < turnZ (smul K u) (smul K v) (padd (smul K v) d) ∧ 0 < turnZ (smul K v) (smul K w) (padd (smul K v) d)) ∨ (turnZ (smul K u) (smul K v) (padd (smul K v) d) < 0 ∧ turnZ (smul K v) (smul K w) (padd (smul K v) d) < 0)) →
      lam (h.sc K) (P.sc K) k (nearA K v u) = lam (h.sc K) (P.sc K) (k + 1) (nearA K v w) := by
    intro d K hK hn h1 h2 hs
    subst hu hv hw
    exact corner_at hP hh hk hK d hn h1 h2 hs
  by_cases ht : turnZ u v w = 0
  · -- straight on
    have hd : 0 < dotZ u v w := hb.1.2.resolve_left (fun e => e ht)
    have hvw : v ≠ w := fun e => hb.2.1 e.symm
    have hsq := sq_pos hvw
    have hsu := sq_pos hb.1.1
    refine ((near (rotP (psub w v))).and (Late.ge 2)).imp fun K hK ⟨hn, h2⟩ => fin _ K h2 hn ?_ ?_ ?_
    · have ev : Aff.ev (Aff.lc (-2) (Aff.dot (smul K w) (smul K v)) (-2) (Aff.turn (smul K v) (smul K w)) 1) (smul K v) = 1 := by rw [ev_lc, ev_dot, ev_turn]; unfold dotZ turnZ; grind
      have ew : Aff.ev (Aff.lc (-2) (Aff.dot (smul K w) (smul K v)) (-2) (Aff.turn (smul K v) (smul K w)) 1) (smul K w) = 2 * (K * (K * ((w.1 - v.1) * (w.1 - v.1) + (w.2 - v.2) * (w.2 - v.2)))) + 1 := by rw [ev_lc, ev_dot, ev_turn]; unfold dotZ turnZ smul; grind
      have ep : Aff.ev (Aff.lc (-2) (Aff.dot (smul K w) (smul K v)) (-2) (Aff.turn (smul K v) (smul K w)) 1) (padd (smul K v) (rotP (psub w v))) = -2 * (K * ((w.1 - v.1) * (w.1 - v.1) + (w.2 - v.2) * (w.2 - v.2))) + 1 := by rw [ev_lc, ev_dot, ev_turn]; unfold dotZ turnZ smul padd psub rotP; grind
      have ex : Aff.ev (Aff.lc (-2) (Aff.dot (smul K w) (smul K v)) (-2) (Aff.turn (smul K v) (smul K w)) 1) (nearA K v u) = -2 * (K * dotZ u v w) + (-2) * (K * turnZ u v w) + 1 := by rw [ev_lc, ev_dot, ev_turn]; unfold nearA dotZ turnZ smul padd psub; grind
      refine ⟨_, by rw [ev]; omega, by rw [ew]; have := pp hK (pp hK hsq); omega, by rw [ep]; have := pp hK hsq; omega, by rw [ex, ht]; have := pp hK hd; omega⟩
    · have ev : Aff.ev (Aff.lc (-2) (Aff.dot (smul K u) (smul K v)) (-2) (Aff.turn (smul K u) (smul K v)) 1) (smul K v) = 1 := by rw [ev_lc, ev_dot, ev_turn]; unfold dotZ turnZ; grind
      have eu : Aff.ev (Aff.lc (-2) (Aff.dot (smul K u) (smul K v)) (-2) (Aff.turn (smul K u) (smul K v)) 1) (smul K u) = 2 * (K * (K * ((v.1 - u.1) * (v.1 - u.1) + (v.2 - u.2) * (v.2 - u.2)))) + 1 := by rw [ev_lc, ev_dot, ev_turn]; unfold dotZ turnZ smul; grind
      have ep : Aff.ev (Aff.lc (-2) (Aff.dot (smul K u) (smul K v)) (-2) (Aff.turn (smul K u) (smul K v)) 1) (padd (smul K v) (rotP (psub w v))) = 2 * (K * turnZ u v w) - 2 * (K * dotZ u v w) + 1 := by rw [ev_lc, ev_dot, ev_turn]; unfold dotZ turnZ smul padd psub rotP; grind
      have ey : Aff.ev (Aff.lc (-2) (Aff.dot (smul K u) (smul K v)) (-2) (Aff.turn (smul K u) (smul K v)) 1) (nearA K v w) = -2 * (K * dotZ u v w) + (-2) * (K * turnZ u v w) + 1 := by rw [ev_lc, ev_dot, ev_turn]; unfold nearA dotZ turnZ smul padd psub; grind
      refine ⟨_, by rw [eu]; have := pp hK (pp hK hsu); omega, by rw [ev]; omega, by rw [ep, ht]; have := pp hK hd; omega, by rw [ey, ht]; have := pp hK hd; omega⟩
    · refine .inl ⟨?_, ?_⟩
      · have e : turnZ (smul K u) (smul K v) (padd (smul K v) (rotP (psub w v))) = K * dotZ u v w := by unfold dotZ turnZ smul padd psub rotP; grind
        rw [e]; exact pp hK hd
      · have e : turnZ (smul K v) (smul K w) (padd (smul K v) (rotP (psub w v))) = K * ((w.1 - v.1) * (w.1 - v.1) + (w.2 - v.2) * (w.2 - v.2)) := by unfold turnZ smul padd psub rotP; grind
        rw [e]; exact pp hK hsq
  · -- a bend
    have e1 : ∀ K, turnZ (smul K u) (smul K v) (padd (smul K v) (padd (psub u v) (psub w v))) = K * turnZ u v w := fun K => by unfold turnZ smul padd psub; grind
    have e2 : ∀ K, turnZ (smul K v) (smul K w) (padd (smul K v) (padd (psub u v) (psub w v))) = K * turnZ u v w := fun K => by unfold turnZ smul padd psub; grind
    have e3 : ∀ K, turnZ (smul K v) (smul K w) (nearA K v u) = K * turnZ u v w := fun K => by unfold nearA turnZ smul padd psub; grind
    have e4 : ∀ K, turnZ (smul K u) (smul K v) (nearA K v w) = K * turnZ u v w := fun K => by unfold nearA turnZ smul padd psub; grind
    refine ((near (padd (psub u v) (psub w v))).and (Late.ge 2)).imp fun K hK ⟨hn, h2⟩ => ?_
    rcases (show 0 < turnZ u v w ∨ turnZ u v w < 0 by omega) with hp | hp
    · have := pp hK hp
      refine fin _ K h2 hn (part_turn (m := 1) (.inl rfl) ?_ ?_) (part_turn (m := 1) (.inl rfl) ?_ ?_) (.inl ⟨?_, ?_⟩)
      · rw [e2]; omega
      · rw [e3]; omega
      · rw [e1]; omega
      · rw [e4]; omega
      · rw [e1]; omega
      · rw [e2]; omega
    · have := pm hK hp
      refine fin _ K h2 hn (part_turn (m := -1) (.inr rfl) ?_ ?_) (part_turn (m := -1) (.inr rfl) ?_ ?_) (.inr ⟨?_, ?_⟩)
      · rw [e2]; omega
      · rw [e3]; omega
      · rw [e1]; omega
      · rw [e4]; omega
      · rw [e1]; omega
      · rw [e2]; omega
theorem Simple.left {P : Way} (hP : Simple P) {h : Aff} (hh : Sloped h P) : ∃ l : Int, ∀ (K : Int) (k : Nat) (x : Pt), 0 < K → k < P.n → OnI x (smul K (P.v k)) (smul K (P.v (k + 1))) → lam (h.sc K) (P.sc K) k x = l := by
  have hc : Late fun K => ∀ k, k < P.n → k + 1 < P.n → lam (h.sc K) (P.sc K) k (nearA K (P.v (k + 1)) (P.v k)) = lam (h.sc K) (P.sc K) (k + 1) (nearA K (P.v (k + 1)) (P.v (k + 2))) := by
    refine Late.all fun k _ => ?_
    by_cases hk : k + 1 < P.n
    · exact (hP.corner hh hk).imp fun K _ h _ => h
    · exact Late.of fun K _ h => absurd h hk
  obtain ⟨K, hK, hc, h2⟩ := (hc.and (Late.ge 2)).get
  have alg : ∀ {k : Nat} {x y : Pt}, k < P.n → OnI x (smul K (P.v k)) (smul K (P.v (k + 1))) → OnI y (smul K (P.v k)) (smul K (P.v (k + 1))) → lam (h.sc K) (P.sc K) k x = lam (h.sc K) (P.sc K) k y := fun {k x y} hk hx hy => by
    unfold lam
    rw [(hP.sc hK).along (h.sc K) (k := k) hk hx hy]
  have all : ∀ k, k < P.n → lam (h.sc K) (P.sc K) k (nearA K (P.v k) (P.v (k + 1))) = lam (h.sc K) (P.sc K) 0 (nearA K (P.v 0) (P.v 1)) := by
    intro k
    induction k with
    | zero => intro _; rfl
    | succ k ih =>
      intro hk
      rw [← ih (by omega), ← hc k (by omega) hk]
      exact alg (by omega) (nearA_on h2 _ _).swap (nearA_on h2 _ _)
  refine ⟨lam (h.sc K) (P.sc K) 0 (nearA K (P.v 0) (P.v 1)), fun K' k x hK' hk hx => ?_⟩
  rw [← all k hk]
  have up : ∀ {L : Int}, 0 < L → ∀ x, lam ((h.sc L)) (P.sc L) k x = wndO (h.sc L) (P.sc L) k x + if h.ev (P.v k) < h.ev (P.v (k + 1)) then 1 else 0 := fun {L} hL x => by
    unfold lam
    have e : ((h.sc L).ev ((P.sc L).v k) < (h.sc L).ev ((P.sc L).v (k + 1))) = (h.ev (P.v k) < h.ev (P.v (k + 1))) := by
      show ((h.sc L).ev (smul L (P.v k)) < (h.sc L).ev (smul L (P.v (k + 1)))) = _
      rw [ev_sc0, ev_sc0]
      exact propext (mul_lt_iff hL).1
    simp only [e]
  rw [up hK', up hK]
  congr 1
  have sc2 : ∀ {L M : Int} (p : Pt), smul L (smul M p) = smul (L * M) p := fun {L M} p => by unfold smul; simp [Int.mul_assoc]
  have scP : ∀ {L M : Int}, (P.sc M).sc L = P.sc (L * M) := fun {L M} => by
    unfold Way.sc
    simp only [sc2]
  have scH : ∀ {L M : Int}, (h.sc M).sc L = h.sc (L * M) := fun {L M} => by unfold Aff.sc; simp [Int.mul_assoc]
  rw [← wndO_sc (h.sc K') (P.sc K') hK k x, ← wndO_sc (h.sc K) (P.sc K) hK' k, scP, scP, scH, scH, Int.mul_comm K' K]
  have hKK : 0 < K * K' := pp hK hK'
  refine (hP.sc hKK).along _ (k := k) hk ?_ ?_
  · have := smul_on hK hx
    rw [sc2, sc2] at this
    exact this
  · have := smul_on hK' (nearA_on h2 (P.v k) (P.v (k + 1)))
    rw [sc2, sc2, Int.mul_comm K' K] at this
    exact this
theorem least {S : Nat → Prop} {a b : Nat → Int} : ∀ (n : Nat), (∀ k, k < n → S k → 0 < b k) → (∃ k, k < n ∧ S k) → ∃ k, k < n ∧ S k ∧ ∀ j, j < n → S j → a k * b j ≤ a j * b k
  | 0, _, ⟨k, hk, _⟩ => by omega
  | n + 1, hb, ⟨k, hk, hS⟩ => by
    by_cases h : ∃ k, k < n ∧ S k
    · obtain ⟨k, hk, hSk, hm⟩ := least n (fun k h1 => hb k (by omega)) h
      by_cases hn : S n
      · have hbn := hb n (by omega) hn
        have hbk := hb k (by omega) hSk
        rcases (show a k * b n ≤ a n * b k ∨ a n * b k ≤ a k * b n by omega) with hc | hc
        · refine ⟨k, by omega, hSk, fun j hj hSj => ?_⟩
          rcases (show j < n ∨ j = n by omega) with h1 | h1
          · exact hm j h1 hSj
          · subst h1; exact hc
        · refine ⟨n, by omega, hn, fun j hj hSj => ?_⟩
          rcases (show j < n ∨ j = n by omega) with h1 | h1
          · have hbj := hb j (by omega) hSj
            have e1 := hm j h1 hSj
            have e2 : a n * b k * b j ≤ a k * b n * b j := Int.mul_le_mul_of_nonneg_right hc (by omega)
            have e3 : a k * b j * b n ≤ a j * b k * b n := Int.mul_le_mul_of_nonneg_right e1 (by omega)
            have e4 : b k * (a n * b j) ≤ b k * (a j * b n) := by
              have e5 : a k * b n * b j = a k * b j * b n := by rw [Int.mul_right_comm]
              have e6 : a n * b k * b j = b k * (a n * b j) := by grind
              have e7 : a j * b k * b n = b k * (a j * b n) := by grind
              omega
            exact (mul_lt_iff hbk).2.1 e4
          · subst h1; exact Int.le_refl _
      · refine ⟨k, by omega, hSk, fun j hj hSj => ?_⟩
        rcases (show j < n ∨ j = n by omega) with h1 | h1
        · exact hm j h1 hSj
        · subst h1; exact absurd hSj hn
    · have hkn : k = n := by
        rcases (show k < n ∨ k = n by omega) with h1 | h1
        · exact absurd ⟨k, h1, hS⟩ h
        · exact h1
      subst hkn
      refine ⟨k, by omega, hS, fun j hj hSj => ?_⟩
      rcases (show j < k ∨ j = k by omega) with h1 | h1
      · exact absurd ⟨j, h1, hSj⟩ h
      · subst h1; exact Int.le_refl _
theorem cram (h : Aff) (a b p : Pt) : (h.ev b - h.ev a) * p.1 + turnZ a b p * h.v = (h.ev b - h.ev p) * a.1 + (h.ev p - h.ev a) * b.1 ∧ (h.ev b - h.ev a) * p.2 + turnZ a b p * (-h.u) = (h.ev b - h.ev p) * a.2 + (h.ev p - h.ev a) * b.2 := by
  unfold Aff.ev turnZ; constructor <;> grind
def Clear (h : Aff) (P : Way) (p : Pt) : Prop := ∀ k, k < P.n → h.ev (P.v k) ≠ h.ev p ∧ h.ev (P.v (k + 1)) ≠ h.ev p ∧ (turnZ (P.v k) (P.v (k + 1)) p = 0 → (h.ev (P.v k) < h.ev p ↔ h.ev (P.v (k + 1)) < h.ev p))
def Hit (h : Aff) (p a b : Pt) : Prop := (h.ev a < h.ev p ∧ h.ev p < h.ev b ∧ 0 < turnZ a b p) ∨ (h.ev b < h.ev p ∧ h.ev p < h.ev a ∧ turnZ a b p < 0)
theorem crN_hit {h : Aff} {p a b : Pt} (h1 : h.ev a ≠ h.ev p) (h2 : h.ev b ≠ h.ev p) : crN h p a b ≠ 0 ↔ Hit h p a b := by
  unfold crN Hit
  repeat' split
  all_goals omega
theorem Hit.sgn {h : Aff} {p a b : Pt} (hh : Hit h p a b) : ∃ m : Int, (m = 1 ∨ m = -1) ∧ 0 < m * turnZ a b p ∧ 0 < m * (h.ev b - h.ev a) ∧ 0 < m * (h.ev p - h.ev a) ∧ 0 < m * (h.ev b - h.ev p) := by
  rcases hh with ⟨h1, h2, h3⟩ | ⟨h1, h2, h3⟩
  · exact ⟨1, .inl rfl, by omega, by omega, by omega, by omega⟩
  · exact ⟨-1, .inr rfl, by omega, by omega, by omega, by omega⟩
def ray (h : Aff) (D T : Int) (p : Pt) : Pt := (D * p.1 + T * h.v, D * p.2 + T * (-h.u))
theorem ray_lev (h : Aff) (D T : Int) (p : Pt) : (h.sc D).ev (ray h D T p) = D * h.ev p := by unfold Aff.ev Aff.sc ray; grind
theorem ray_turn (h : Aff) (D T : Int) (a b p : Pt) : turnZ (smul D a) (smul D b) (ray h D T p) = D * (D * turnZ a b p - T * (h.ev b - h.ev a)) := by unfold Aff.ev turnZ smul ray; grind
theorem Simple.cases {P : Way} (hP : Simple P) {h : Aff} (hh : Sloped h P) {l : Int} (hl : ∀ (K : Int) (k : Nat) (x : Pt), 0 < K → k < P.n → OnI x (smul K (P.v k)) (smul K (P.v (k + 1))) → lam (h.sc K) (P.sc K) k x = l)
    {p : Pt} (hp : Clear h P p) : ((∀ k, k < P.n → ¬ Hit h p (P.v k) (P.v (k + 1))) ∧ wnd h P p = 0) ∨ wnd h P p = l ∨ wnd h P p = l - 1 := by
  by_cases hC : ∃ k, k < P.n ∧ Hit h p (P.v k) (P.v (k + 1))
  · refine .inr ?_
    have hb : ∀ k, k < P.n → Hit h p (P.v k) (P.v (k + 1)) → 0 < ((h.ev (P.v (k + 1)) - h.ev (P.v k)).natAbs : Int) := fun k _ hk => by
      rcases hk with hk | hk <;> omega
    obtain ⟨k, hk, hS, hmin⟩ := least (S := fun k => Hit h p (P.v k) (P.v (k + 1))) (a := fun k => ((turnZ (P.v k) (P.v (k + 1)) p).natAbs : Int)) (b := fun k => ((h.ev (P.v (k + 1)) - h.ev (P.v k)).natAbs : Int)) P.n hb hC
    obtain ⟨m, hm, m1, m2, m3, m4⟩ := hS.sgn
    obtain ⟨D, hD⟩ : ∃ D : Int, D = m * (h.ev (P.v (k + 1)) - h.ev (P.v k)) := ⟨_, rfl⟩
    obtain ⟨T, hT⟩ : ∃ T : Int, T = m * turnZ (P.v k) (P.v (k + 1)) p := ⟨_, rfl⟩
    have hD0 : 0 < D := by omega
    have hT0 : 0 < T := by omega
    have aD : ((h.ev (P.v (k + 1)) - h.ev (P.v k)).natAbs : Int) = D := by rcases hm with rfl | rfl <;> omega
    have aT : ((turnZ (P.v k) (P.v (k + 1)) p).natAbs : Int) = T := by rcases hm with rfl | rfl <;> omega
    rw [aD, aT] at hmin
    have hx : OnI (ray h D T p) (smul D (P.v k)) (smul D (P.v (k + 1))) := by
      obtain ⟨c1, c2⟩ := cram h (P.v k) (P.v (k + 1)) p
      refine ⟨m * (h.ev (P.v (k + 1)) - h.ev p), m * (h.ev p - h.ev (P.v k)), m4, m3, ?_, ?_⟩
      · have e : m * (h.ev (P.v (k + 1)) - h.ev p) + m * (h.ev p - h.ev (P.v k)) = D := by rw [hD]; grind
        rw [e]
        unfold ray smul
        simp only
        rw [hT, hD]
        have c3 := congrArg (fun z => m * (h.ev (P.v (k + 1)) - h.ev (P.v k)) * (m * z)) c1
        grind
      · have e : m * (h.ev (P.v (k + 1)) - h.ev p) + m * (h.ev p - h.ev (P.v k)) = D := by rw [hD]; grind
        rw [e]
        unfold ray smul
        simp only
        rw [hT, hD]
        have c3 := congrArg (fun z => m * (h.ev (P.v (k + 1)) - h.ev (P.v k)) * (m * z)) c2
        grind
    have hs : ∀ j, j < (P.sc D).n → j ≠ k → Part ((P.sc D).v j) ((P.sc D).v (j + 1)) (smul D p) (ray h D T p) := by
      intro j hj hjk
      have hj : j < P.n := hj
      show Part (smul D (P.v j)) (smul D (P.v (j + 1))) _ _
      obtain ⟨q1, q2, q3⟩ := hp j hj
      have ep : turnZ (smul D (P.v j)) (smul D (P.v (j + 1))) (smul D p) = D * (D * turnZ (P.v j) (P.v (j + 1)) p) := turn_sc0 _ _ _ _
      have er := ray_turn h D T (P.v j) (P.v (j + 1)) p
      by_cases hb1 : h.ev p < h.ev (P.v j) ∧ h.ev p < h.ev (P.v (j + 1))
      · refine ⟨Aff.lc 1 (h.sc D) 0 (h.sc D) (-(D * h.ev p)), ?_, ?_, ?_, ?_⟩ <;> rw [ev_lc]
        · rw [ev_sc0]; have := (mul_lt_iff hD0).1.2 hb1.1; omega
        · rw [ev_sc0]; have := (mul_lt_iff hD0).1.2 hb1.2; omega
        · rw [ev_sc0]; omega
        · rw [ray_lev]; omega
      by_cases hb2 : h.ev (P.v j) < h.ev p ∧ h.ev (P.v (j + 1)) < h.ev p
      · refine ⟨Aff.lc (-1) (h.sc D) 0 (h.sc D) (D * h.ev p), ?_, ?_, ?_, ?_⟩ <;> rw [ev_lc]
        · rw [ev_sc0]; have := (mul_lt_iff hD0).1.2 hb2.1; omega
        · rw [ev_sc0]; have := (mul_lt_iff hD0).1.2 hb2.2; omega
        · rw [ev_sc0]; omega
        · rw [ray_lev]; omega
      have hne : turnZ (P.v j) (P.v (j + 1)) p ≠ 0 := fun e => by have := q3 e; omega
      by_cases hj1 : Hit h p (P.v j) (P.v (j + 1))
      · -- a wall that is met later
        have hmj := hmin j hj hj1
        obtain ⟨n, hn, n1, n2, n3, n4⟩ := hj1.sgn
        have bD : ((h.ev (P.v (j + 1)) - h.ev (P.v j)).natAbs : Int) = n * (h.ev (P.v (j + 1)) - h.ev (P.v j)) := by rcases hn with rfl | rfl <;> omega
        have bT : ((turnZ (P.v j) (P.v (j + 1)) p).natAbs : Int) = n * turnZ (P.v j) (P.v (j + 1)) p := by rcases hn with rfl | rfl <;> omega
        rw [bD, bT] at hmj
        have e1 : n * (D * turnZ (P.v j) (P.v (j + 1)) p - T * (h.ev (P.v (j + 1)) - h.ev (P.v j))) = n * turnZ (P.v j) (P.v (j + 1)) p * D - T * (n * (h.ev (P.v (j + 1)) - h.ev (P.v j))) := by grind
        rcases (show T * (n * (h.ev (P.v (j + 1)) - h.ev (P.v j))) < n * turnZ (P.v j) (P.v (j + 1)) p * D ∨ T * (n * (h.ev (P.v (j + 1)) - h.ev (P.v j))) = n * turnZ (P.v j) (P.v (j + 1)) p * D by omega) with hlt | heq
        · refine part_turn hn ?_ ?_
          · rw [ep, show n * (D * (D * turnZ (P.v j) (P.v (j + 1)) p)) = D * (D * (n * turnZ (P.v j) (P.v (j + 1)) p)) by grind]
            exact pp hD0 (pp hD0 n1)
          · rw [er, show ∀ z, n * (D * z) = D * (n * z) from fun z => by grind, e1]
            exact pp hD0 (by omega)
        · exfalso
          have hxj : OnI (ray h D T p) (smul D (P.v j)) (smul D (P.v (j + 1))) := by
            have hfl : turnZ (smul D (P.v j)) (smul D (P.v (j + 1))) (ray h D T p) = 0 := by
              rw [er]
              have : n * (D * turnZ (P.v j) (P.v (j + 1)) p - T * (h.ev (P.v (j + 1)) - h.ev (P.v j))) = 0 := by omega
              rcases Int.mul_eq_zero.1 this with e | e
              · omega
              · rw [e, Int.mul_zero]
            obtain ⟨c1, c2⟩ := cram (h.sc D) (smul D (P.v j)) (smul D (P.v (j + 1))) (ray h D T p)
            rw [hfl, ev_sc0, ev_sc0, ray_lev] at c1 c2
            refine ⟨n * (D * (h.ev (P.v (j + 1)) - h.ev p)), n * (D * (h.ev p - h.ev (P.v j))), ?_, ?_, ?_, ?_⟩
            · rw [show n * (D * (h.ev (P.v (j + 1)) - h.ev p)) = D * (n * (h.ev (P.v (j + 1)) - h.ev p)) by grind]; exact pp hD0 n4
            · rw [show n * (D * (h.ev p - h.ev (P.v j))) = D * (n * (h.ev p - h.ev (P.v j))) by grind]; exact pp hD0 n3
            · have c3 := congrArg (fun z => n * z) c1
              grind
            · have c3 := congrArg (fun z => n * z) c2
              grind
          obtain ⟨f, fa, fb, fx, _⟩ := (hP.sc hD0).inn (k := k) hk hx hx (j := j) hj hjk
          have g := hxj.neg (f := Aff.lc (-1) f 0 f 0) (by rw [ev_lc]; have : 0 < f.ev (smul D (P.v j)) := fa; omega) (by rw [ev_lc]; have : 0 < f.ev (smul D (P.v (j + 1))) := fb; omega)
          rw [ev_lc] at g
          omega
      · -- a wall on the other side
        rcases (show (h.ev (P.v j) < h.ev p ∧ h.ev p < h.ev (P.v (j + 1))) ∨ (h.ev (P.v (j + 1)) < h.ev p ∧ h.ev p < h.ev (P.v j)) by omega) with hc | hc
        · have ht : turnZ (P.v j) (P.v (j + 1)) p < 0 := by
            rcases (show turnZ (P.v j) (P.v (j + 1)) p < 0 ∨ 0 < turnZ (P.v j) (P.v (j + 1)) p by omega) with h | h
            · exact h
            · exact absurd (.inl ⟨hc.1, hc.2, h⟩) hj1
          have g1 := pm hD0 ht
          have g2 := pp hT0 (show 0 < h.ev (P.v (j + 1)) - h.ev (P.v j) by omega)
          refine part_turn (m := -1) (.inr rfl) ?_ ?_
          · rw [ep]; have := pm hD0 g1; omega
          · rw [er]; have := pm hD0 (show D * turnZ (P.v j) (P.v (j + 1)) p - T * (h.ev (P.v (j + 1)) - h.ev (P.v j)) < 0 by omega); omega
        · have ht : 0 < turnZ (P.v j) (P.v (j + 1)) p := by
            rcases (show turnZ (P.v j) (P.v (j + 1)) p < 0 ∨ 0 < turnZ (P.v j) (P.v (j + 1)) p by omega) with h | h
            · exact absurd (.inr ⟨hc.1, hc.2, h⟩) hj1
            · exact h
          have g1 := pp hD0 ht
          have g2 := pm hT0 (show h.ev (P.v (j + 1)) - h.ev (P.v j) < 0 by omega)
          refine part_turn (m := 1) (.inl rfl) ?_ ?_
          · rw [ep]; have := pp hD0 g1; omega
          · rw [er]; have := pp hD0 (show 0 < D * turnZ (P.v j) (P.v (j + 1)) p - T * (h.ev (P.v (j + 1)) - h.ev (P.v j)) by omega); omega
    rw [← wnd_sc h P hD0 p]
    have hhD : Sloped (h.sc D) (P.sc D) := fun j hj e => hh j hj (by
      have e : (h.sc D).ev (smul D (P.v j)) = (h.sc D).ev (smul D (P.v (j + 1))) := e
      rw [ev_sc0, ev_sc0] at e
      exact Int.eq_of_mul_eq_mul_left (by omega) e)
    have et : turnZ ((P.sc D).v k) ((P.sc D).v (k + 1)) (smul D p) = D * (D * turnZ (P.v k) (P.v (k + 1)) p) := turn_sc0 _ _ _ _
    rcases (show 0 < turnZ (P.v k) (P.v (k + 1)) p ∨ turnZ (P.v k) (P.v (k + 1)) p < 0 by rcases hm with rfl | rfl <;> omega) with h1 | h1
    · refine .inl ?_
      rw [wnd_left hhD (k := k) hk hx hs (by rw [et]; exact pp hD0 (pp hD0 h1)), hl D k _ hD0 hk hx]
    · refine .inr ?_
      rw [wnd_right hhD (k := k) hk hx hs (by rw [et]; exact pm hD0 (pm hD0 h1)), hl D k _ hD0 hk hx]
  · refine .inl ⟨fun k hk hS => hC ⟨k, hk, hS⟩, ?_⟩
    have : wnd h P p = sumN (fun _ => 0) P.n := sumN_congr fun k hk => by
      obtain ⟨q1, q2, -⟩ := hp k hk
      have := crN_hit q1 q2
      by_cases e : crN h p (P.v k) (P.v (k + 1)) = 0
      · exact e
      · exact absurd ⟨k, hk, this.1 e⟩ hC
    rw [this]
    have z : ∀ n, sumN (fun _ => 0) n = 0 := fun n => by
      induction n with
      | zero => rfl
      | succ n ih => simp only [sumN, ih]; rfl
    exact z _
theorem sloped_sc {h : Aff} {P : Way} (hh : Sloped h P) {K : Int} (hK : 0 < K) : Sloped (h.sc K) (P.sc K) := fun j hj e => hh j hj (by
  have e : (h.sc K).ev (smul K (P.v j)) = (h.sc K).ev (smul K (P.v (j + 1))) := e
  rw [ev_sc0, ev_sc0] at e
  exact Int.eq_of_mul_eq_mul_left (by omega) e)
theorem smul_one (p : Pt) : smul 1 p = p := by unfold smul; simp
theorem Simple.zero_one {P : Way} (hP : Simple P) {h : Aff} (hh : Sloped h P) : ∃ l : Int, (l = 0 ∨ l = 1) ∧
    (∀ (K : Int) (k : Nat) (x : Pt), 0 < K → k < P.n → OnI x (smul K (P.v k)) (smul K (P.v (k + 1))) → lam (h.sc K) (P.sc K) k x = l) ∧ ∀ (K : Int) (p : Pt), 0 < K → Clear (h.sc K) (P.sc K) p → wnd (h.sc K) (P.sc K) p = l ∨ wnd (h.sc K) (P.sc K) p = l - 1 := by
  obtain ⟨l, hl⟩ := hP.left hh
  have h3 := hP.n3
  have hl' : ∀ {L : Int}, 0 < L → ∀ (K : Int) (k : Nat) (x : Pt), 0 < K → k < (P.sc L).n → OnI x (smul K ((P.sc L).v k)) (smul K ((P.sc L).v (k + 1))) → lam ((h.sc L).sc K) ((P.sc L).sc K) k x = l := by
    intro L hL K k x hK hk hx
    have sc2 : ∀ {L M : Int} (p : Pt), smul L (smul M p) = smul (L * M) p := fun {L M} p => by unfold smul; simp [Int.mul_assoc]
    have scP : ∀ {L M : Int}, (P.sc M).sc L = P.sc (L * M) := fun {L M} => by unfold Way.sc; simp only [sc2]
    have scH : ∀ {L M : Int}, (h.sc M).sc L = h.sc (L * M) := fun {L M} => by unfold Aff.sc; simp [Int.mul_assoc]
    rw [scP, scH]
    have hx : OnI x (smul K (smul L (P.v k))) (smul K (smul L (P.v (k + 1)))) := hx
    rw [sc2, sc2] at hx
    exact hl _ k x (pp hK hL) hk hx
  have h01 : l = 0 ∨ l = 1 := by
    have hD : h.ev (P.v 0) ≠ h.ev (P.v 1) := hh 0 (by omega)
    obtain ⟨D, hDe⟩ : ∃ D, D = h.ev (P.v 1) - h.ev (P.v 0) := ⟨_, rfl⟩
    have hD0 : D ≠ 0 := by omega
    obtain ⟨K, hKe⟩ : ∃ K : Int, K = D.natAbs + 2 := ⟨_, rfl⟩
    have hK : 0 < K := by omega
    obtain ⟨X, hX⟩ : ∃ X, X = nearA K (P.v 0) (P.v 1) := ⟨_, rfl⟩
    have lX : (h.sc K).ev X = K * h.ev (P.v 0) + D := by rw [hX, hDe]; unfold nearA; rw [ev_sc]; unfold Aff.lin psub Aff.ev; grind
    have hlev : ∀ j, (h.sc K).ev ((P.sc K).v j) ≠ (h.sc K).ev X := by
      intro j e
      have e : (h.sc K).ev (smul K (P.v j)) = (h.sc K).ev X := e
      rw [ev_sc0, lX] at e
      have e1 : K * (h.ev (P.v j) - h.ev (P.v 0)) = D := by rw [Int.mul_sub]; omega
      rcases (show h.ev (P.v j) - h.ev (P.v 0) = 0 ∨ 1 ≤ h.ev (P.v j) - h.ev (P.v 0) ∨ h.ev (P.v j) - h.ev (P.v 0) ≤ -1 by omega) with g | g | g
      · rw [g] at e1; omega
      · have := (mul_lt_iff (m := 1) (n := h.ev (P.v j) - h.ev (P.v 0)) hK).2.2 g
        omega
      · have := (mul_lt_iff (m := h.ev (P.v j) - h.ev (P.v 0)) (n := -1) hK).2.2 g
        omega
    have hM : Late fun M => ∀ j, j < P.n → (0 < (h.sc K).ev ((P.sc K).v (j + 1)) - (h.sc K).ev ((P.sc K).v j) → 0 < turnZ ((P.sc K).v j) ((P.sc K).v (j + 1)) X + M * ((h.sc K).ev ((P.sc K).v (j + 1)) - (h.sc K).ev ((P.sc K).v j))) ∧
        ((h.sc K).ev ((P.sc K).v (j + 1)) - (h.sc K).ev ((P.sc K).v j) < 0 → turnZ ((P.sc K).v j) ((P.sc K).v (j + 1)) X + M * ((h.sc K).ev ((P.sc K).v (j + 1)) - (h.sc K).ev ((P.sc K).v j)) < 0) := by
      refine Late.all fun j _ => ⟨(turnZ ((P.sc K).v j) ((P.sc K).v (j + 1)) X).natAbs + 1, fun M h1 h0 => ⟨fun hp => ?_, fun hp => ?_⟩⟩
      · have := (mul_lt_iff (m := 1) (n := (h.sc K).ev ((P.sc K).v (j + 1)) - (h.sc K).ev ((P.sc K).v j)) h0).2.2 (by omega)
        omega
      · have := (mul_lt_iff (m := (h.sc K).ev ((P.sc K).v (j + 1)) - (h.sc K).ev ((P.sc K).v j)) (n := -1) h0).2.2 (by omega)
        omega
    obtain ⟨M, hM0, hM⟩ := hM.get
    obtain ⟨p, hp⟩ : ∃ p, p = ray (h.sc K) 1 (-M) X := ⟨_, rfl⟩
    have lp : (h.sc K).ev p = (h.sc K).ev X := by
      have := ray_lev (h.sc K) 1 (-M) X
      rw [← hp] at this
      have e : (h.sc K).sc 1 = h.sc K := by unfold Aff.sc; simp
      rw [e] at this; omega
    have tp : ∀ j, turnZ ((P.sc K).v j) ((P.sc K).v (j + 1)) p = turnZ ((P.sc K).v j) ((P.sc K).v (j + 1)) X + M * ((h.sc K).ev ((P.sc K).v (j + 1)) - (h.sc K).ev ((P.sc K).v j)) := fun j => by
      have := ray_turn (h.sc K) 1 (-M) ((P.sc K).v j) ((P.sc K).v (j + 1)) X
      rw [← hp, smul_one, smul_one] at this
      rw [this, Int.neg_mul]; omega
    have hhK := sloped_sc hh hK
    have hc : Clear (h.sc K) (P.sc K) p := fun j hj => by
      have hj : j < P.n := hj
      refine ⟨by rw [lp]; exact hlev j, by rw [lp]; exact hlev (j + 1), fun e => ?_⟩
      rw [tp] at e
      have := hM j hj
      have := hhK j hj
      omega
    have w0 : wnd (h.sc K) (P.sc K) p = 0 := by
      have e : ∀ j, j < P.n → crN (h.sc K) p ((P.sc K).v j) ((P.sc K).v (j + 1)) = (if (h.sc K).ev p < (h.sc K).ev ((P.sc K).v (j + 1)) then 1 else 0) - (if (h.sc K).ev p < (h.sc K).ev ((P.sc K).v j) then 1 else 0) := fun j hj => by
        have q1 := hM j hj
        have q2 := hhK j hj
        have q3 := hlev j
        have q4 := hlev (j + 1)
        have q5 := tp j
        unfold crN
        repeat' split
        all_goals omega
      have e2 := sumN_tel (fun j => (if (h.sc K).ev p < (h.sc K).ev ((P.sc K).v j) then (1 : Int) else 0)) P.n
      rw [show wnd (h.sc K) (P.sc K) p = sumN (fun j => (if (h.sc K).ev p < (h.sc K).ev ((P.sc K).v (j + 1)) then (1 : Int) else 0) - (if (h.sc K).ev p < (h.sc K).ev ((P.sc K).v j) then 1 else 0)) P.n from sumN_congr e, e2]
      have : (P.sc K).v P.n = (P.sc K).v 0 := (P.sc K).cyc
      simp only [this]
      omega
    have hit : Hit (h.sc K) p ((P.sc K).v 0) ((P.sc K).v 1) := by
      have q1 := hM 0 (by omega)
      have q5 := tp 0
      have l0 : (h.sc K).ev ((P.sc K).v 0) = K * h.ev (P.v 0) := ev_sc0 _ _ _
      have l1 : (h.sc K).ev ((P.sc K).v 1) = K * h.ev (P.v 0) + K * D := by rw [← Int.mul_add, hDe]; show (h.sc K).ev (smul K (P.v 1)) = _; rw [ev_sc0]; congr 1; omega
      unfold Hit
      rw [lp, lX, l0, l1]
      rw [l0] at q1 q5
      rw [show (P.sc K).v (0 + 1) = (P.sc K).v 1 from rfl, l1] at q1 q5
      rcases (show 0 < D ∨ D < 0 by omega) with hd | hd
      · have : D * 1 < K * D := by rw [Int.mul_comm K D]; exact (mul_lt_iff hd).1.2 (by omega)
        exact .inl ⟨by omega, by omega, by omega⟩
      · have : K * D < D * 1 := by
          have := (mul_lt_iff (m := 1) (n := K) (show 0 < -D by omega)).1.2 (by omega)
          rw [Int.neg_mul, Int.neg_mul, Int.mul_comm D K] at this
          omega
        exact .inr ⟨by omega, by omega, by omega⟩
    rcases (hP.sc hK).cases hhK (hl' hK) hc with ⟨g, _⟩ | g | g
    · exact absurd hit (g 0 (show 0 < P.n by omega))
    · omega
    · omega
  refine ⟨l, h01, hl, fun K p hK hp => ?_⟩
  rcases (hP.sc hK).cases (sloped_sc hh hK) (hl' hK) hp with ⟨_, g⟩ | g | g <;> omega
def quad (h1 h2 : Aff) (p x : Pt) : Int := if h1.ev p < h1.ev x ∧ h2.ev x ≤ h2.ev p then 1 else 0
theorem two_id (h1 h2 : Aff) (p a b : Pt) : (h1.ev a - h1.ev p) * (h2.ev b - h2.ev p) - (h1.ev b - h1.ev p) * (h2.ev a - h2.ev p) = (h1.u * h2.v - h1.v * h2.u) * turnZ a b p := by unfold Aff.ev turnZ; grind
theorem two_f (h1 f : Aff) (p a b : Pt) : (h1.ev b - h1.ev p) * f.ev a - (h1.ev a - h1.ev p) * f.ev b = (h1.ev b - h1.ev a) * f.ev p + (f.u * h1.v - f.v * h1.u) * turnZ a b p := by unfold Aff.ev turnZ; grind
section
variable {α1 α2 β1 β2 D U fa fb fp κ κ2 : Int}
theorem two_ne (h1 : α1 ≤ 0) (h2 : 0 < β1) (F : β1 * fa - α1 * fb = (β1 - α1) * fp + κ * U) (ha : 0 < fa) (hb : 0 < fb) (hp : fp < 0) : U ≠ 0 := by
  rintro rfl
  have g1 := pp h2 ha
  have g2 := mp0 h1 (show 0 ≤ fb by omega)
  have g3 := pm (show 0 < β1 - α1 by omega) hp
  omega
end
theorem crN_two' {h1 h2 : Aff} (hD : 0 < h1.u * h2.v - h1.v * h2.u) {p a b : Pt} (ho : Off p a b) (hab : h1.ev a ≤ h1.ev b) : crN h1 p a b - crN h2 p a b = quad h1 h2 p b - quad h1 h2 p a := by
  obtain ⟨f, fa, fb, fp⟩ := ho
  have I := two_id h1 h2 p a b
  have F1 := two_f h1 f p a b
  have F2 := two_f h2 f p a b
  rw [show h1.ev b - h1.ev a = (h1.ev b - h1.ev p) - (h1.ev a - h1.ev p) by omega] at F1
  rw [show h2.ev b - h2.ev a = (h2.ev b - h2.ev p) - (h2.ev a - h2.ev p) by omega] at F2
  generalize f.u * h1.v - f.v * h1.u = κ at F1
  generalize f.u * h2.v - f.v * h2.u = κ2 at F2
  unfold crN quad
  obtain ⟨α1, hα1⟩ : ∃ x, x = h1.ev a - h1.ev p := ⟨_, rfl⟩
  obtain ⟨β1, hβ1⟩ : ∃ x, x = h1.ev b - h1.ev p := ⟨_, rfl⟩
  obtain ⟨α2, hα2⟩ : ∃ x, x = h2.ev a - h2.ev p := ⟨_, rfl⟩
  obtain ⟨β2, hβ2⟩ : ∃ x, x = h2.ev b - h2.ev p := ⟨_, rfl⟩
  rw [← hα1, ← hβ1, ← hα2, ← hβ2] at I
  rw [← hα1, ← hβ1] at F1
  rw [← hα2, ← hβ2] at F2
  generalize turnZ a b p = U at *
  have sU : (0 < (h1.u * h2.v - h1.v * h2.u) * U ↔ 0 < U) ∧ ((h1.u * h2.v - h1.v * h2.u) * U < 0 ↔ U < 0) := mul_sgn hD
  rw [← I] at sU
  rcases (show α1 ≤ 0 ∧ β1 ≤ 0 ∨ α1 ≤ 0 ∧ 0 < β1 ∨ 0 < α1 ∧ 0 < β1 by omega) with ⟨c1, c2⟩ | ⟨c1, c2⟩ | ⟨c1, c2⟩
  · -- both below
    rcases (show (α2 ≤ 0 ∧ β2 ≤ 0) ∨ (0 < α2 ∧ 0 < β2) ∨ (α2 ≤ 0 ∧ 0 < β2) ∨ (0 < α2 ∧ β2 ≤ 0) by omega) with d | d | ⟨d1, d2⟩ | ⟨d1, d2⟩
    · repeat' split
      all_goals omega
    · repeat' split
      all_goals omega
    · have g1 := mp0 c1 (show 0 ≤ β2 by omega)
      have g2 := mm0 c2 d1
      repeat' split
      all_goals omega
    · have g1 := mm0 c1 d2
      have g2 := mp0 c2 (show 0 ≤ α2 by omega)
      repeat' split
      all_goals omega
  · have hU := two_ne c1 c2 F1 fa fb fp
    rcases (show (α2 ≤ 0 ∧ β2 ≤ 0) ∨ (0 < α2 ∧ 0 < β2) ∨ (α2 ≤ 0 ∧ 0 < β2) ∨ (0 < α2 ∧ β2 ≤ 0) by omega) with ⟨d1, d2⟩ | ⟨d1, d2⟩ | ⟨d1, d2⟩ | ⟨d1, d2⟩
    · have g1 := mm0 c1 d2
      have g2 := pm0 (show 0 ≤ β1 by omega) d1
      repeat' split
      all_goals omega
    · have g1 := mp0 c1 (show 0 ≤ β2 by omega)
      have g2 := pp c2 d1
      repeat' split
      all_goals omega
    · repeat' split
      all_goals omega
    · repeat' split
      all_goals omega
  · rcases (show (α2 ≤ 0 ∧ β2 ≤ 0) ∨ (0 < α2 ∧ 0 < β2) ∨ (α2 ≤ 0 ∧ 0 < β2) ∨ (0 < α2 ∧ β2 ≤ 0) by omega) with d | d | ⟨d1, d2⟩ | ⟨d1, d2⟩
    · repeat' split
      all_goals omega
    · repeat' split
      all_goals omega
    · have g1 := pp c1 d2
      have g2 := pm0 (show 0 ≤ β1 by omega) d1
      repeat' split
      all_goals omega
    · have g1 := pm0 (show 0 ≤ α1 by omega) d2
      have g2 := pp c2 d1
      repeat' split
      all_goals omega
theorem crN_two {h1 h2 : Aff} (hD : 0 < h1.u * h2.v - h1.v * h2.u) {p a b : Pt} (ho : Off p a b) : crN h1 p a b - crN h2 p a b = quad h1 h2 p b - quad h1 h2 p a := by
  rcases (show h1.ev a ≤ h1.ev b ∨ h1.ev b ≤ h1.ev a by omega) with h | h
  · exact crN_two' hD ho h
  · have := crN_two' hD (let ⟨f, fa, fb, fp⟩ := ho; ⟨f, fb, fa, fp⟩ : Off p b a) h
    rw [crN_swap h1 p a b, crN_swap h2 p a b] at this
    omega
theorem wnd_two {h1 h2 : Aff} (hD : h1.u * h2.v - h1.v * h2.u ≠ 0) {P : Way} {p : Pt} (ho : ∀ k, k < P.n → Off p (P.v k) (P.v (k + 1))) : wnd h1 P p = wnd h2 P p := by
  have key : ∀ {h1 h2 : Aff}, 0 < h1.u * h2.v - h1.v * h2.u → wnd h1 P p = wnd h2 P p := by
    intro h1 h2 hD
    have e : sumN (fun k => crN h1 p (P.v k) (P.v (k + 1)) - crN h2 p (P.v k) (P.v (k + 1))) P.n = sumN (fun k => quad h1 h2 p (P.v (k + 1)) - quad h1 h2 p (P.v k)) P.n := sumN_congr fun k hk => crN_two hD (ho k hk)
    rw [sumN_sub, sumN_tel (fun k => quad h1 h2 p (P.v k)), P.cyc] at e
    unfold wnd
    omega
  have e : h2.u * h1.v - h2.v * h1.u = - (h1.u * h2.v - h1.v * h2.u) := by grind
  rcases (show 0 < h1.u * h2.v - h1.v * h2.u ∨ 0 < h2.u * h1.v - h2.v * h1.u by omega) with h | h
  · exact key h
  · exact (key h).symm
theorem Off.not_on {p a b : Pt} (h : Off p a b) : ¬ OnI p a b := by
  rintro hx
  obtain ⟨f, fa, fb, fp⟩ := h
  have g := hx.neg (f := Aff.lc (-1) f 0 f 0) (by rw [ev_lc]; omega) (by rw [ev_lc]; omega)
  rw [ev_lc] at g
  omega
theorem on_of_lev {h : Aff} {p a b : Pt} (ht : turnZ a b p = 0) (hl : (h.ev a < h.ev p ∧ h.ev p < h.ev b) ∨ (h.ev b < h.ev p ∧ h.ev p < h.ev a)) : OnI p a b := by
  obtain ⟨c1, c2⟩ := cram h a b p
  rw [ht] at c1 c2
  rcases hl with ⟨h1, h2⟩ | ⟨h1, h2⟩
  · refine ⟨h.ev b - h.ev p, h.ev p - h.ev a, by omega, by omega, ?_, ?_⟩
    · rw [show h.ev b - h.ev p + (h.ev p - h.ev a) = h.ev b - h.ev a by omega]; omega
    · rw [show h.ev b - h.ev p + (h.ev p - h.ev a) = h.ev b - h.ev a by omega]; omega
  · refine ⟨h.ev p - h.ev b, h.ev a - h.ev p, by omega, by omega, ?_, ?_⟩
    · have := congrArg (fun z => -z) c1
      grind
    · have := congrArg (fun z => -z) c2
      grind
theorem Off.clear {h : Aff} {P : Way} {p : Pt} (ho : ∀ k, k < P.n → Off p (P.v k) (P.v (k + 1))) (hl : ∀ k, k < P.n → h.ev (P.v k) ≠ h.ev p) : Clear h P p := fun k hk => by
  have h2 : h.ev (P.v (k + 1)) ≠ h.ev p := by
    rcases (show k + 1 < P.n ∨ k + 1 = P.n by omega) with e | e
    · exact hl _ e
    · rw [e, P.cyc]; exact hl 0 (by omega)
  refine ⟨hl k hk, h2, fun ht => ?_⟩
  have h1 := hl k hk
  by_cases hc : h.ev (P.v k) < h.ev p ↔ h.ev (P.v (k + 1)) < h.ev p
  · exact hc
  · exact absurd (on_of_lev (h := h) ht (by omega)) (ho k hk).not_on
end Go.Proofs.Ytnepfcnlngpchaa.Geo
