/- What the proof of 'FnGuards' needs, part 7: conditions and steps of the functions that it reaches, and the mathematics. -/
import Derived.Test.YtnepfcnlngpchaaGreatRows
import Derived.WalkKit
import Derived.WalkSpells
import Derived.Below
import Derived.Orders
import Derived.Maps.AppendAt
import Derived.Laws.StructEq
import Derived.WideShapes
import Derived.ChangeSlices
import Derived.Deep.Strs
import Derived.ChangeOld
import Derived.Shelf.SlLaysF0
import Derived.Shelf.SlSortCmp.InsertionK
import Derived.Shelf.SlSortCmp.SmallK
import Derived.Shelf.SlSortCmp.Xorshift
import Derived.Sort.LotA
import Derived.Shelf.Slices.Delete
import Derived.Shelf.Sort.Plain
import Derived.Shelf.Bits.Mul64
import Derived.Test.YtnepfcnlngpchaaGreatSFnGuards6
set_option linter.unusedSimpArgs false
set_option linter.unusedVariables false
namespace Go.Proofs.YtnepfcnlngpchaaGreat
open Go.RowKit Go.Proofs.YtnepfcnlngpchaaGreat.Nm
set_option maxRecDepth 10000
set_option maxHeartbeats 2000000
def vTri (t : Tri) : RV := .val (.agg [.d (.int .i64 t.1), .d (.int .i64 t.2.1), .d (.int .i64 t.2.2)])
def tri3C : Con := mkCon [.int, .int, .int] (fun x => (0 ≤ x.1 ∧ x.1 ≤ 1048576) ∧ (0 ≤ x.2.1 ∧ x.2.1 ≤ 1048576) ∧ 0 ≤ x.2.2.1 ∧ x.2.2.1 ≤ 1048576) fun x => vTri (triS x.1 x.2.1 x.2.2.1)
theorem sort3 (a b c : Int) : [a, b, c].mergeSort (fun x y => decide (x ≤ y)) = [(triS a b c).1, (triS a b c).2.1, (triS a b c).2.2] := by
 refine List.Perm.eq_of_pairwise (le := fun x y : Int => x ≤ y) (fun x y _ _ h1 h2 => by omega) ?_ ?_ ?_
 ·have := List.pairwise_mergeSort (le := fun x y : Int => decide (x ≤ y)) (fun x y z h1 h2 => by simp at *; omega) (fun x y => by simp; omega) [a, b, c]
  simpa using this
 ·have h : (triS a b c).1 ≤ (triS a b c).2.1 ∧ (triS a b c).2.1 ≤ (triS a b c).2.2 := by unfold triS; simp only; omega
  simp only [List.pairwise_cons, List.mem_cons, List.not_mem_nil, or_false, forall_eq_or_imp, forall_eq, List.Pairwise.nil, and_true, false_implies, implies_true]
  omega
 ·refine (List.mergeSort_perm _ _).trans ?_
  rcases triS_six a b c with e | e | e | e | e | e <;> rw [e] <;> simp only
  ·exact .cons _ (.swap _ _ _)
  ·exact .swap _ _ _
  ·exact (List.Perm.swap b a [c]).trans (.cons _ (.swap _ _ _))
  ·exact (List.Perm.cons a (.swap c b [])).trans (.swap _ _ _)
  ·exact ((List.Perm.swap b a [c]).trans (.cons _ (.swap c a []))).trans (.swap c b [a])
theorem triangle_ok : Good1 Tryz.prog n_impl_triangle tri3C := by
 refine good_ofG (tys := tyL) (env := []) (envw := [(n_slices_Sort_int, sortIC)]) (envd := []) [11, 13] [] [] [] [] mixed tys trivial ⟨sortI_ok, trivial⟩ trivial Tryz.func97 rfl (by kernel_rfl) (by decide) (by kernel_rfl) ?_
 have hG_ := kpz [(0, [0, 1, 2, 6]), (1, [6, 7]), (2, [6, 7]), (3, [6])] [(0, [6]), (1, [6, 11]), (2, [6, 11]), (3, [6, 11])] [] []
 rintro ⟨(a : Int), (b : Int), (c : Int), ⟨⟩⟩ ⟨⟨(h1 : 0 ≤ a), (h2 : a ≤ _)⟩, ⟨(h3 : 0 ≤ b), (h4 : b ≤ _)⟩, (h5 : 0 ≤ c), (h6 : c ≤ _)⟩
 (repeat' (first | (with_reducible first | exact True.intro | refine zQ ?_ | (refine zG hG_ ?_; intro K_ hK_) | (refine zR ?_; intro K_ hK_) | (refine hK_ _ _ ?_; try clear hK_ K_) | refine sq_n ?_ | refine sq_r ?_ | refine sq_e ?_ | refine bq_n ?_ | refine bq_r ?_ | refine bq_q ?_ | refine zB ?_ | refine zX ?_ | refine zT ?_ | refine zK ?_ | refine gq_n ?_ | refine gq_r ?_ | refine gq_e ?_ | refine lq_n ?_ | refine lq_r ?_ | refine lq_e ?_ | refine bq_e (by decide) ?_) | ((with_reducible refine zC (b := ?b_) ?hb_ ?_ ?_); case hb_ => rfl) | ((conv => whnf); first | (with_reducible refine hK_ _ _ ?_; try clear hK_ K_) | (with_reducible refine fun (g_ : Sl) (o_ : Ow) => ?_) | (with_reducible first | exact True.intro | refine And.intro trivial ?_ | refine And.intro ?_ ?_) | exact Nat.le_of_ble_eq_true rfl | exact Or.inl rfl | (intro h_; cases h_) | (intro h_; (try simp only [vS1] at h_)) | rfl))) <;> (try (conv => whnf)) <;> (try first | change (_ : Int) ≤ _ | change (_ : Nat) ≤ _) <;> (try ((fail_if_success (with_reducible apply Exists.intro)); (try dsimp only); (try simp only [vS1]))) <;> (try simp (disch := omega) only [vS3, Int.add_sub_cancel, tn1, tnp, tnc, vS2] at *)
 all_goals (try (fail_if_success (with_reducible apply Exists.intro)); first | with_reducible assumption | omega | exact mdl (by omega) | exact ilo1 (by omega) | exact ilo2 (by omega) | exact ihi1 (by omega) (by omega) | exact ihi2 (by omega) (by omega))
 all_goals (rw [show (sortIC.out ([a, b, c], ())).ys = [(triS a b c).1, (triS a b c).2.1, (triS a b c).2.2] from sort3 a b c])
 all_goals first
  | rfl
  | (simp; done)
  | skip
def trisC : Con := mkCon [.room] (fun x => x.1.length ≤ 1048576) fun x => ⟨.one (.own 0 0), some ⟨t_impl_Triangle, some (decide (trisM x.1 = [])), .b .tri, trisM x.1⟩⟩
theorem iTrianglesOf_ok : Good1 Tryz.prog n_impl_TrianglesOf trisC := by
 refine good_ofG (tys := tyL) (env := [(n_impl_RoomOk, roomOkC), (n_impl_canCut, cutC), (n_impl_triangle, tri3C)]) (envw := [(n_slices_Delete_int, delC)]) (envd := []) [12, 13, 71] [64, 82] [] [] [] mixed tys ⟨iRoomOk_ok, canCut_ok, triangle_ok, trivial⟩ ⟨del_ok, trivial⟩ trivial Tryz.func59 rfl (by kernel_rfl) (by decide) (by kernel_rfl) ?_
 have hG_ := kpz [(0, [1]), (1, [1, 11]), (2, [2]), (3, [1, 3]), (4, [1, 3, 4]), (5, [1, 3, 4, 16, 17]), (6, [1, 3, 4, 16, 17, 18]), (7, [1, 3, 4, 5, 16, 17]), (8, [1, 3, 4, 16, 17]), (9, [1, 3, 4, 16, 17]), (10, [1, 3, 4, 27]), (11, [1, 3, 4, 6]), (12, [1, 3, 4, 6, 29, 30]), (13, [1, 3, 4, 6, 29, 30, 31]), (14, [1, 3, 4, 6, 7, 29, 30]), (15, [1, 3, 4, 6, 7, 29, 30, 36]), (16, [1, 3, 4, 6]), (17, [1, 3, 4, 6, 29, 30]), (18, [1, 3, 4, 6, 40]), (19, [2]), (20, [1, 3, 4, 6, 8]), (21, [1, 3, 4, 6]), (22, [1, 3, 4]), (23, [2])] [(3, [12]), (4, [12, 13]), (5, [12, 13]), (6, [12, 13]), (7, [12, 13]), (8, [12, 13]), (9, [12, 13]), (10, [12, 13]), (11, [12, 13]), (12, [12, 13]), (13, [12, 13]), (14, [12, 13]), (15, [12, 13]), (16, [12, 13]), (17, [12, 13]), (18, [12, 13]), (19, [12, 13]), (20, [12, 13]), (21, [12, 13]), (22, [12, 13, 71]), (23, [12, 13])] [] []
 rintro ⟨(xs : List Pt), ⟨⟩⟩ (h1 : xs.length ≤ _)
 (repeat' (first | (with_reducible first | exact True.intro | refine zQ ?_ | (refine zG hG_ ?_; intro K_ hK_) | (refine zR ?_; intro K_ hK_) | (refine hK_ _ _ ?_; try clear hK_ K_) | refine sq_n ?_ | refine sq_r ?_ | refine sq_e ?_ | refine bq_n ?_ | refine bq_r ?_ | refine bq_q ?_ | refine zB ?_ | refine zX ?_ | refine zT ?_ | refine zK ?_ | refine gq_n ?_ | refine gq_r ?_ | refine gq_e ?_ | refine lq_n ?_ | refine lq_r ?_ | refine lq_e ?_ | refine bq_e (by decide) ?_) | ((with_reducible refine zC (b := ?b_) ?hb_ ?_ ?_); case hb_ => rfl) | ((conv => whnf); first | (with_reducible refine hK_ _ _ ?_; try clear hK_ K_) | (with_reducible refine fun (g_ : Sl) (o_ : Ow) => ?_) | (with_reducible first | exact True.intro | refine And.intro trivial ?_ | refine And.intro ?_ ?_) | exact Nat.le_of_ble_eq_true rfl | exact Or.inl rfl | (intro h_; cases h_) | (intro h_; (try simp only [vS1] at h_)) | rfl))) <;> (try (conv => whnf)) <;> (try first | change (_ : Int) ≤ _ | change (_ : Nat) ≤ _) <;> (try ((fail_if_success (with_reducible apply Exists.intro)); (try dsimp only); (try simp only [vS1]))) <;> (try simp (disch := omega) only [vS3, Int.add_sub_cancel, tn1, tnp, tnc, vS2] at *)
 all_goals (try (fail_if_success (with_reducible apply Exists.intro)); first | with_reducible assumption | omega | exact mdl (by omega) | exact ilo1 (by omega) | exact ilo2 (by omega) | exact ihi1 (by omega) (by omega) | exact ihi2 (by omega) (by omega))
 ·exact tris_bad h_
 ·exact .inr (by rw [tris_bad h_]; rfl)
 have hr : roomOk xs = true := by assumption
 have hlr := room_len hr
 refine awp'_loopG (α := Nat) (fun k ver_ => [(17, vInt k)]) (fun k ver_ => [(4, 13, false, .row t_int (.b .int) (allC k))]) (fun k ver_ => []) (fun k => k ≤ xs.length) (fun k => xs.length - k) [1, 3, 16] [12] (0) ?_
 conv => whnf
 refine ⟨⟨?inv1_, ?vals1_, ?own1_, ?fix1_⟩, ?body1_⟩
 case' vals1_ => (repeat' (first | (with_reducible first | exact True.intro | refine And.intro ?_ ?_ | refine Head.mk ?_ ?_ ?_ ?_) | ((conv => lhs; whnf); first | (with_reducible first | rfl | exact vInt_s (by omega)) | exact rfl) | ((conv => whnf); first | (with_reducible first | exact True.intro | refine And.intro ?_ ?_)))) <;> (try (conv => lhs; whnf))
 case' own1_ => (repeat' (first | (with_reducible first | exact True.intro | refine And.intro ?_ ?_ | refine Head.mk ?_ ?_ ?_ ?_) | ((conv => lhs; whnf); first | (with_reducible first | rfl | exact vInt_s (by omega)) | exact rfl) | ((conv => whnf); first | (with_reducible first | exact True.intro | refine And.intro ?_ ?_)))) <;> (try (conv => lhs; whnf))
 case' fix1_ => (repeat' (first | (with_reducible first | exact True.intro | refine And.intro ?_ ?_ | refine Head.mk ?_ ?_ ?_ ?_) | ((conv => lhs; whnf); first | (with_reducible first | rfl | exact vInt_s (by omega)) | exact rfl) | ((conv => whnf); first | (with_reducible first | exact True.intro | refine And.intro ?_ ?_)))) <;> (try (conv => lhs; whnf))
 ·exact Nat.zero_le _
 rintro k g_ o_ v_ hk
 have hal := allC_len k
 (repeat' (first | (with_reducible first | exact True.intro | refine zQ ?_ | (refine zG hG_ ?_; intro K_ hK_) | (refine zR ?_; intro K_ hK_) | (refine hK_ _ _ ?_; try clear hK_ K_) | refine sq_n ?_ | refine sq_r ?_ | refine sq_e ?_ | refine bq_n ?_ | refine bq_r ?_ | refine bq_q ?_ | refine zB ?_ | refine zX ?_ | refine zT ?_ | refine zK ?_ | refine gq_n ?_ | refine gq_r ?_ | refine gq_e ?_ | refine lq_n ?_ | refine lq_r ?_ | refine lq_e ?_ | refine bq_e (by decide) ?_) | ((with_reducible refine zC (b := ?b_) ?hb_ ?_ ?_); case hb_ => rfl) | ((conv => whnf); first | (with_reducible refine hK_ _ _ ?_; try clear hK_ K_) | (with_reducible refine fun (g_ : Sl) (o_ : Ow) => ?_) | (with_reducible first | exact True.intro | refine And.intro trivial ?_ | refine And.intro ?_ ?_) | exact Nat.le_of_ble_eq_true rfl | exact Or.inl rfl | (intro h_; cases h_) | (intro h_; (try simp only [vS1] at h_)) | rfl))) <;> (try (conv => whnf)) <;> (try first | change (_ : Int) ≤ _ | change (_ : Nat) ≤ _) <;> (try ((fail_if_success (with_reducible apply Exists.intro)); (try dsimp only); (try simp only [vS1]))) <;> (try simp (disch := omega) only [vS3, Int.add_sub_cancel, tn1, tnp, tnc, vS2] at *)
 all_goals (try (fail_if_success (with_reducible apply Exists.intro)); first | with_reducible assumption | omega | exact mdl (by omega) | exact ilo1 (by omega) | exact ilo2 (by omega) | exact ihi1 (by omega) (by omega) | exact ihi2 (by omega) (by omega))
 ·refine ⟨k + 1, by omega, by omega, ?_⟩
  (repeat' (first | (with_reducible first | exact True.intro | refine And.intro ?_ ?_ | refine Head.mk ?_ ?_ ?_ ?_) | ((conv => lhs; whnf); first | (with_reducible first | rfl | exact vInt_s (by omega)) | exact rfl) | ((conv => whnf); first | (with_reducible first | exact True.intro | refine And.intro ?_ ?_)))) <;> (try (conv => lhs; whnf))
  exact congrArg (Own.row _ _) (allC_succ k).symm
 have hkn : k = xs.length := by omega
 subst hkn
 refine awp'_loopG (α := List Int × List Tri) (fun s ver_ => []) (fun s ver_ => [(3, 12, false, .row t_impl_Triangle (.b .tri) s.2), (4, 13, false, .row t_int (.b .int) s.1)]) (fun s ver_ => []) (fun s => TriSt xs s) (fun s => s.1.length) [1] [] ((allC xs.length, [])) ?_
 conv => whnf
 refine ⟨⟨?inv2_, ?vals2_, ?own2_, ?fix2_⟩, ?body2_⟩
 case' vals2_ => (repeat' (first | (with_reducible first | exact True.intro | refine And.intro ?_ ?_ | refine Head.mk ?_ ?_ ?_ ?_) | ((conv => lhs; whnf); first | (with_reducible first | rfl | exact vInt_s (by omega)) | exact rfl) | ((conv => whnf); first | (with_reducible first | exact True.intro | refine And.intro ?_ ?_)))) <;> (try (conv => lhs; whnf))
 case' own2_ => (repeat' (first | (with_reducible first | exact True.intro | refine And.intro ?_ ?_ | refine Head.mk ?_ ?_ ?_ ?_) | ((conv => lhs; whnf); first | (with_reducible first | rfl | exact vInt_s (by omega)) | exact rfl) | ((conv => whnf); first | (with_reducible first | exact True.intro | refine And.intro ?_ ?_)))) <;> (try (conv => lhs; whnf))
 case' fix2_ => (repeat' (first | (with_reducible first | exact True.intro | refine And.intro ?_ ?_ | refine Head.mk ?_ ?_ ?_ ?_) | ((conv => lhs; whnf); first | (with_reducible first | rfl | exact vInt_s (by omega)) | exact rfl) | ((conv => whnf); first | (with_reducible first | exact True.intro | refine And.intro ?_ ?_)))) <;> (try (conv => lhs; whnf))
 ·exact triSt_start hr hlr.1
 rintro ⟨l, out⟩ g_ o_ v_ (hS : TriSt xs (l, out))
 have hL : Left xs.length l := hS.left
 have hle := hL.le
 have h3 := hL.len
 have hol : out.length + l.length = xs.length := hS.len
 have hX : ∀ m, m < l.length → 0 ≤ l.getD m (ElK.b ElB.int).dflt ∧ l.getD m (ElK.b ElB.int).dflt < xs.length := fun m hm => hL.at hm
 have hP : ∀ m, m < l.length → 0 ≤ l.getD (prvN l.length m) (ElK.b ElB.int).dflt ∧ l.getD (prvN l.length m) (ElK.b ElB.int).dflt < xs.length := fun m hm => hL.at (prv_lt (by omega))
 have hN : ∀ m, m < l.length → 0 ≤ l.getD ((m + 1) % l.length) (ElK.b ElB.int).dflt ∧ l.getD ((m + 1) % l.length) (ElK.b ElB.int).dflt < xs.length := fun m hm => hL.at (nxt_lt (by omega))
 have hX0 := hX 0 (by omega)
 have hX1 : 0 ≤ l.getD (Int.toNat 1) (ElK.b ElB.int).dflt ∧ l.getD (Int.toNat 1) (ElK.b ElB.int).dflt < xs.length := hX 1 (by omega)
 have hX2 : 0 ≤ l.getD (Int.toNat 2) (ElK.b ElB.int).dflt ∧ l.getD (Int.toNat 2) (ElK.b ElB.int).dflt < xs.length := hX 2 (by omega)
 have hlast : l.length ≤ 3 → trisM xs = out ++ [triS (gI l 0) (gI l 1) (gI l 2)] := hS.last
 (repeat' (first | (with_reducible first | exact True.intro | refine zQ ?_ | (refine zG hG_ ?_; intro K_ hK_) | (refine zR ?_; intro K_ hK_) | (refine hK_ _ _ ?_; try clear hK_ K_) | refine sq_n ?_ | refine sq_r ?_ | refine sq_e ?_ | refine bq_n ?_ | refine bq_r ?_ | refine bq_q ?_ | refine zB ?_ | refine zX ?_ | refine zT ?_ | refine zK ?_ | refine gq_n ?_ | refine gq_r ?_ | refine gq_e ?_ | refine lq_n ?_ | refine lq_r ?_ | refine lq_e ?_ | refine bq_e (by decide) ?_) | ((with_reducible refine zC (b := ?b_) ?hb_ ?_ ?_); case hb_ => rfl) | ((conv => whnf); first | (with_reducible refine hK_ _ _ ?_; try clear hK_ K_) | (with_reducible refine fun (g_ : Sl) (o_ : Ow) => ?_) | (with_reducible first | exact True.intro | refine And.intro trivial ?_ | refine And.intro ?_ ?_) | exact Nat.le_of_ble_eq_true rfl | exact Or.inl rfl | (intro h_; cases h_) | (intro h_; (try simp only [vS1] at h_)) | rfl))) <;> (try (conv => whnf)) <;> (try first | change (_ : Int) ≤ _ | change (_ : Nat) ≤ _) <;> (try ((fail_if_success (with_reducible apply Exists.intro)); (try dsimp only); (try simp only [vS1]))) <;> (try simp (disch := omega) only [vS3, Int.add_sub_cancel, tn1, tnp, tnc, vS2] at *)
 all_goals (try (fail_if_success (with_reducible apply Exists.intro)); first | with_reducible assumption | omega | exact mdl (by omega) | exact ilo1 (by omega) | exact ilo2 (by omega) | exact ihi1 (by omega) (by omega) | exact ihi2 (by omega) (by omega))
 ·
  refine awp'_loopG (α := Nat) (fun i ver_ => [(30, vInt i), (6, vInt (-1))]) (fun i ver_ => []) (fun i ver_ => []) (fun i => i ≤ l.length ∧ ∀ j, j < i → cutM xs l j = false) (fun i => l.length - i) [1, 3, 4, 29] [12, 13] (0) ?_
  conv => whnf
  refine ⟨⟨?inv3_, ?vals3_, ?own3_, ?fix3_⟩, ?body3_⟩
  case' vals3_ => (repeat' (first | (with_reducible first | exact True.intro | refine And.intro ?_ ?_ | refine Head.mk ?_ ?_ ?_ ?_) | ((conv => lhs; whnf); first | (with_reducible first | rfl | exact vInt_s (by omega)) | exact rfl) | ((conv => whnf); first | (with_reducible first | exact True.intro | refine And.intro ?_ ?_)))) <;> (try (conv => lhs; whnf))
  case' own3_ => (repeat' (first | (with_reducible first | exact True.intro | refine And.intro ?_ ?_ | refine Head.mk ?_ ?_ ?_ ?_) | ((conv => lhs; whnf); first | (with_reducible first | rfl | exact vInt_s (by omega)) | exact rfl) | ((conv => whnf); first | (with_reducible first | exact True.intro | refine And.intro ?_ ?_)))) <;> (try (conv => lhs; whnf))
  case' fix3_ => (repeat' (first | (with_reducible first | exact True.intro | refine And.intro ?_ ?_ | refine Head.mk ?_ ?_ ?_ ?_) | ((conv => lhs; whnf); first | (with_reducible first | rfl | exact vInt_s (by omega)) | exact rfl) | ((conv => whnf); first | (with_reducible first | exact True.intro | refine And.intro ?_ ?_)))) <;> (try (conv => lhs; whnf))
  ·exact ⟨Nat.zero_le _, fun j hj => absurd hj (by omega)⟩
  rintro i g_ o_ v_ ⟨hi, hall⟩
  have hdel : ∀ i : Nat, i < l.length → (delC.out (l, (i : Int), IntKind.i64.wrap ((i : Int) + 1), ())).ys = l.eraseIdx i := fun i hi => by
   rw [W_nat (by omega), erase_eq]; rfl
  have hPi : i < l.length → 0 ≤ prvN l.length i ∧ prvN l.length i < l.length := fun h => ⟨Nat.zero_le _, prv_lt (by omega)⟩
  (repeat' (first | (with_reducible first | exact True.intro | refine zQ ?_ | (refine zG hG_ ?_; intro K_ hK_) | (refine zR ?_; intro K_ hK_) | (refine hK_ _ _ ?_; try clear hK_ K_) | refine sq_n ?_ | refine sq_r ?_ | refine sq_e ?_ | refine bq_n ?_ | refine bq_r ?_ | refine bq_q ?_ | refine zB ?_ | refine zX ?_ | refine zT ?_ | refine zK ?_ | refine gq_n ?_ | refine gq_r ?_ | refine gq_e ?_ | refine lq_n ?_ | refine lq_r ?_ | refine lq_e ?_ | refine bq_e (by decide) ?_) | ((with_reducible refine zC (b := ?b_) ?hb_ ?_ ?_); case hb_ => rfl) | ((conv => whnf); first | (with_reducible refine hK_ _ _ ?_; try clear hK_ K_) | (with_reducible refine fun (g_ : Sl) (o_ : Ow) => ?_) | (with_reducible first | exact True.intro | refine And.intro trivial ?_ | refine And.intro ?_ ?_) | exact Nat.le_of_ble_eq_true rfl | exact Or.inl rfl | (intro h_; cases h_) | (intro h_; (try simp only [vS1] at h_)) | rfl))) <;> (try (conv => whnf)) <;> (try first | change (_ : Int) ≤ _ | change (_ : Nat) ≤ _) <;> (try ((fail_if_success (with_reducible apply Exists.intro)); (try dsimp only); (try simp only [vS1]))) <;> (try simp (disch := omega) only [vS3, Int.add_sub_cancel, tn1, tnp, tnc, vS2] at *) <;> (try simp (disch := omega) only [prv_int, Int.toNat_natCast] at *)
  all_goals (try (fail_if_success (with_reducible apply Exists.intro)); first | with_reducible assumption | omega | exact mdl (by omega) | exact ilo1 (by omega) | exact ilo2 (by omega) | exact ihi1 (by omega) (by omega) | exact ihi2 (by omega) (by omega))
  all_goals (try (have hPq := hP i (by assumption); have hXq := hX i (by assumption); have hNq := hN i (by assumption)))
  all_goals first
   | omega
   | exact Nat.mod_lt _ (by omega)
   | exact ⟨i + 1, by omega, ⟨by omega, lt_succ_all hall (by assumption)⟩, by (repeat' (first | (with_reducible first | exact True.intro | refine And.intro ?_ ?_ | refine Head.mk ?_ ?_ ?_ ?_) | ((conv => lhs; whnf); first | (with_reducible first | rfl | exact vInt_s (by omega)) | exact rfl) | ((conv => whnf); first | (with_reducible first | exact True.intro | refine And.intro ?_ ?_)))) <;> (try (conv => lhs; whnf))⟩
   | skip
  ·refine ⟨(l.eraseIdx i, out ++ [triAt l i]), ?_, hS.step (by omega : 3 < l.length) (firstCut_some (by assumption) (by assumption) hall), ?_⟩
   ·show (l.eraseIdx i).length < l.length
    rw [List.length_eraseIdx_of_lt (by assumption)]
    omega
   ·(repeat' (first | (with_reducible first | exact True.intro | refine And.intro ?_ ?_ | refine Head.mk ?_ ?_ ?_ ?_) | ((conv => lhs; whnf); first | (with_reducible first | rfl | exact vInt_s (by omega)) | exact rfl) | ((conv => whnf); first | (with_reducible first | exact True.intro | refine And.intro ?_ ?_)))) <;> (try (conv => lhs; whnf))
    all_goals first
     | rfl
     | exact congrArg (Own.row _ _) (hdel i (by assumption))
  ·exact hS.none (by omega : 3 < l.length) (firstCut_none fun j (hj : j < l.length) => hall j (by omega))
  ·have he : trisM xs = [] := hS.none (by omega : 3 < l.length) (firstCut_none fun j (hj : j < l.length) => hall j (by omega))
   exact .inr (by rw [he]; rfl)
 ·exact congrArg some (hlast (by omega)).symm
 ·exact .inr ⟨by rw [hlast (by omega)]; simp, by rw [hlast (by omega)]; simp⟩
def AcAt (cs : List Int) (t : Tri) : Prop := cs.getD t.1.toNat 0 ≠ cs.getD t.2.1.toNat 0 ∧ cs.getD t.2.1.toNat 0 ≠ cs.getD t.2.2.toNat 0 ∧ cs.getD t.1.toNat 0 ≠ cs.getD t.2.2.toNat 0
instance (cs : List Int) (t : Tri) : Decidable (AcAt cs t) := by unfold AcAt; infer_instance
theorem tri_in {xs : List Pt} {k : Nat} (hk : k < (trisM xs).length) : TriIn xs.length ((trisM xs).getD k (0, 0, 0)) := tris_in (by rw [getD_lt _ hk]; exact List.getElem_mem _)
theorem tris_or (xs : List Pt) : (trisM xs).length = 0 ∨ (3 ≤ xs.length ∧ xs.length ≤ 10) := by
 rcases tris_cutd xs with e | ⟨hr, -⟩
 ·exact .inl (by rw [e]; rfl)
 ·exact .inr (room_len hr)
end Go.Proofs.YtnepfcnlngpchaaGreat
namespace Go.Proofs.YtnepfcnlngpchaaGreat
open Go.Shelf Go.RowKit Go.Lib Go.Proofs.YtnepfcnlngpchaaGreat.Nm
set_option maxRecDepth 10000
set_option maxHeartbeats 2000000
def mul_ren : Go.Shelf.Ren := ⟨fun | 212 => 124 | 263 => 141 | 264 => 142 | n => n, fun | 46 => 94 | 51 => 124 | 53 => 126 | 146 => 145 | 148 => 147 | n => n, fun n => n⟩
theorem mul_lay : Lays.n212 Tryz.prog mul_ren := {
 mixed := by kernel_rfl
 f212 := Tryz.func124.trans (congrArg some (by kernel_rfl))
 f263 := Tryz.func141.trans (congrArg some (by kernel_rfl))
 f264 := Tryz.func142.trans (congrArg some (by kernel_rfl))
 t46 := Tryz.underlying94
 a46 := Tryz.isAgg94
 z46 := Tryz.sizeOf94
 v46 := Tryz.zeroValue94
 t51 := Tryz.underlying124
 a51 := Tryz.isAgg124
 z51 := Tryz.sizeOf124
 v51 := Tryz.zeroValue124
 t53 := Tryz.underlying126
 a53 := Tryz.isAgg126
 z53 := Tryz.sizeOf126
 v53 := Tryz.zeroValue126
 t146 := Tryz.underlying145
 a146 := Tryz.isAgg145
 z146 := Tryz.sizeOf145
 v146 := Tryz.zeroValue145
 t148 := Tryz.underlying147
 a148 := Tryz.isAgg147
 z148 := Tryz.sizeOf147
 v148 := Tryz.zeroValue147
}
def mulC : Con := ⟨Int × Int, fun | [.one (.d (.int .u64 a)), .one (.d (.int .u64 b))] => some (a, b) | _ => none, fun x => (0 ≤ x.1 ∧ x.1 < 18446744073709551616) ∧ 0 ≤ x.2 ∧ x.2 < 18446744073709551616,
 fun x => .val (.tup [.inl (.d (.int .u64 (x.1 * x.2 / 18446744073709551616))), .inl (.d (.int .u64 (x.1 * x.2 % 18446744073709551616)))]), none⟩
theorem mul_snd : Sound Tryz.prog n_math_bits_Mul mulC := by
 intro w F args vs x hp hpre hF hlen hargs
 obtain ⟨a, b⟩ := x
 obtain ⟨⟨ha0, ha1⟩, hb0, hb1⟩ := hpre
 have hp2 : ∃ a' b', args = [.one (.d (.int .u64 a')), .one (.d (.int .u64 b'))] ∧ some (a', b') = some (a, b) := by
  have hp : mulC.pat args = some (a, b) := hp
  unfold mulC at hp
  simp only at hp
  split at hp
  ·exact ⟨_, _, rfl, hp⟩
  ·cases hp
 clear hp
 obtain ⟨a', b', rfl, hp⟩ := hp2
 obtain ⟨rfl, rfl⟩ := Prod.mk.inj (Option.some.inj hp)
 ·skip
  match vs, hlen with
  | [v0, v1], _ =>
   have h0 : v0 = .int .u64 a' := intD (hargs 0 _ v0 rfl rfl)
   have h1 : v1 = .int .u64 b' := intD (hargs 1 _ v1 rfl rfl)
   subst h0; subst h1
   have ha0 : 0 ≤ a' := ha0
   have ha1 : a' < 18446744073709551616 := ha1
   have hb0 : 0 ≤ b' := hb0
   have hb1 : b' < 18446744073709551616 := hb1
   obtain ⟨a, rfl⟩ := Int.eq_ofNat_of_zero_le ha0
   obtain ⟨b, rfl⟩ := Int.eq_ofNat_of_zero_le hb0
   have hmain : Calls Tryz.prog n_math_bits_Mul #[.int .u64 a, .int .u64 b] w fun e w' => e = .returned (.tuple #[.int .u64 ((a * b / 18446744073709551616 : Nat) : Int), .int .u64 ((a * b % 18446744073709551616 : Nat) : Int)]) ∧ w' = w :=
    Any.bits_Mul mul_lay a b (by omega) (by omega) w
   refine hmain.mono ?_
   rintro e w' ⟨rfl, rfl⟩
   refine ⟨_, rfl, Below.refl _ _, ?_⟩
   refine (show RetC _ _ F (mulC.res ((a : Int), (b : Int))) _ from ?_)
   refine ⟨[.int .u64 ((a * b / 18446744073709551616 : Nat) : Int), .int .u64 ((a * b % 18446744073709551616 : Nat) : Int)], rfl, rfl, fun j x u hx hu => ?_⟩
   match j with
   | 0 => simp at hx hu; subst hx; subst hu; exact DC.int _ _
   | 1 => simp at hx hu; subst hx; subst hu; exact DC.int _ _
   | j + 2 => simp at hx
theorem mul_ok : Good1 Tryz.prog n_math_bits_Mul mulC := by
 exact ⟨mul_snd, _, Tryz.func124, by decide, rfl⟩
theorem wrapU {n : Int} (h1 : 0 ≤ n) (h2 : n < 18446744073709551616) : IntKind.u64.wrap n = n := by rw [IntKind.wrap_u64]; omega
abbrev repR (v : Int) (n k : Nat) : List Int := List.replicate k v ++ List.replicate (n - k) 0
theorem rep_len (v : Int) {n k : Nat} (h : k ≤ n) : (repR v n k).length = n := by simp [repR]; omega
theorem rep_put (v : Int) {n k m : Nat} (hk : k ≤ n) (hm : m ≤ k) (hmn : m ≤ n - k) : putL (repR v n k) k (List.replicate m v) = repR v n (k + m) := by
 unfold putL repR
 refine List.ext_getElem? fun i => ?_
 simp only [List.getElem?_append, List.getElem?_replicate, List.getElem?_take, List.getElem?_drop, List.length_replicate, List.length_take, List.length_append]
 repeat' split
 all_goals first | rfl | omega | (congr 1; omega) | skip
theorem rep_take (v : Int) {n k : Nat} (hk : k ≤ n) (m : Nat) : ((repR v n k).take k).take m = List.replicate (min m k) v := by
 unfold repR
 rw [List.take_left' (by simp), List.take_replicate]
theorem rep_step (v : Int) {n k : Nat} (hk : k ≤ n) : putL (repR v n k) k (List.take (k + (n - k) - k) (List.take (k - 0) (repR v n k))) = repR v n (k + min k (n - k)) := by
 rw [Nat.sub_zero, show k + (n - k) - k = n - k by omega, rep_take v hk, show min (n - k) k = min k (n - k) by omega]
 exact rep_put v hk (by omega) (by omega)
theorem rep_start {xs : List Int} {n : Nat} (h1 : xs.length = 1) (hn : 1 ≤ n) : putL (List.replicate n (0 : Int)) 0 (xs.take n) = repR (xs.getD 0 0) n 1 := by
 obtain ⟨v, rfl⟩ := List.length_eq_one_iff.1 h1
 rw [List.take_of_length_le (by simpa using hn)]
 unfold putL repR
 simp only [List.take_zero, List.nil_append, List.drop_replicate, List.length_cons, List.length_nil, Nat.zero_add]
 rfl
def repC : Con := mkCon [.sl (.b .int), .int] (fun x => x.1.length = 1 ∧ 1 ≤ x.2.1 ∧ x.2.1 ≤ 1048576) fun x => rowI (List.replicate x.2.1.toNat (x.1.getD 0 0))
theorem repeat_ok : Good1 Tryz.prog n_slices_Repeat_int repC := by
 refine good_ofG (tys := tyL) (env := [(n_math_bits_Mul, mulC)]) (envw := []) (envd := []) [30] [] [] [] [] mixed tys ⟨mul_ok, trivial⟩ trivial trivial Tryz.func86 rfl (by kernel_rfl) (by decide) (by kernel_rfl) ?_
 have hG_ := kpz [(0, [0, 1]), (1, [0, 1, 10]), (2, [0, 1]), (3, [0, 5, 6]), (4, [0, 6, 26]), (5, [0, 6]), (6, [0, 7]), (7, [7, 8]), (8, [7, 8, 37]), (9, [7, 8]), (10, [4])] [(6, [30]), (7, [30]), (8, [30]), (9, [30]), (10, [30])] [] []
 rintro ⟨(xs : List Int), (c : Int), ⟨⟩⟩ ⟨(h1 : xs.length = 1), (h2 : 1 ≤ c), (h3 : c ≤ _)⟩
 obtain ⟨n, rfl⟩ := Int.eq_ofNat_of_zero_le (Int.le_trans (by decide) h2)
 have hw1 : IntKind.u64.wrap (xs.length : Int) = 1 := by rw [h1]; exact wrapU (n := 1) (by omega) (by omega)
 have hwi : IntKind.i64.wrap (n : Int) = n := W_in (by omega) (by omega)
 have hmin : min xs.length n = 1 := by omega
 generalize hv : xs.getD 0 0 = v
 have hwn : IntKind.u64.wrap (n : Int) = n := wrapU (by omega) (by omega)
 have hq : (n : Int) / 18446744073709551616 = 0 := by omega
 have hm : (n : Int) % 18446744073709551616 = n := by omega
 (repeat' (first | (with_reducible first | exact True.intro | refine zQ ?_ | (refine zG hG_ ?_; intro K_ hK_) | (refine zR ?_; intro K_ hK_) | (refine hK_ _ _ ?_; try clear hK_ K_) | refine sq_n ?_ | refine sq_r ?_ | refine sq_e ?_ | refine bq_n ?_ | refine bq_r ?_ | refine bq_q ?_ | refine zB ?_ | refine zX ?_ | refine zT ?_ | refine zK ?_ | refine gq_n ?_ | refine gq_r ?_ | refine gq_e ?_ | refine lq_n ?_ | refine lq_r ?_ | refine lq_e ?_ | refine bq_e (by decide) ?_) | ((with_reducible refine zC (b := ?b_) ?hb_ ?_ ?_); case hb_ => rfl) | ((conv => whnf); first | (with_reducible refine hK_ _ _ ?_; try clear hK_ K_) | (with_reducible refine fun (g_ : Sl) (o_ : Ow) => ?_) | (with_reducible first | exact True.intro | refine And.intro trivial ?_ | refine And.intro ?_ ?_) | exact Nat.le_of_ble_eq_true rfl | exact Or.inl rfl | (intro h_; cases h_) | (intro h_; (try simp only [vS1] at h_)) | rfl))) <;> (try (conv => whnf)) <;> (try first | change (_ : Int) ≤ _ | change (_ : Nat) ≤ _) <;> (try simp only [hw1, hwn, hwi, hq, hm, hmin, Int.one_mul, Int.toNat_natCast] at *) <;> (try ((fail_if_success (with_reducible apply Exists.intro)); (try dsimp only); (try simp only [vS1]))) <;> (try simp (disch := omega) only [vS3, Int.add_sub_cancel, tn1, tnp, tnc, vS2] at *)
 all_goals (try (fail_if_success (with_reducible apply Exists.intro)); first | with_reducible assumption | omega | exact mdl (by omega) | exact ilo1 (by omega) | exact ilo2 (by omega) | exact ihi1 (by omega) (by omega) | exact ihi2 (by omega) (by omega))
 refine awp'_loopG (α := Nat) (fun k ver_ => [(8, vInt k)]) (fun k ver_ => [(7, 30, false, .row t_int (.b .int) (repR v n k))]) (fun k ver_ => []) (fun k => 1 ≤ k ∧ k ≤ n) (fun k => n - k) [] [] (1) ?_
 conv => whnf
 refine ⟨⟨?inv1_, ?vals1_, ?own1_, ?fix1_⟩, ?body1_⟩
 case' vals1_ => (repeat' (first | (with_reducible first | exact True.intro | refine And.intro ?_ ?_ | refine Head.mk ?_ ?_ ?_ ?_) | ((conv => lhs; whnf); first | (with_reducible first | rfl | exact vInt_s (by omega)) | exact rfl) | ((conv => whnf); first | (with_reducible first | exact True.intro | refine And.intro ?_ ?_)))) <;> (try (conv => lhs; whnf))
 case' own1_ => (repeat' (first | (with_reducible first | exact True.intro | refine And.intro ?_ ?_ | refine Head.mk ?_ ?_ ?_ ?_) | ((conv => lhs; whnf); first | (with_reducible first | rfl | exact vInt_s (by omega)) | exact rfl) | ((conv => whnf); first | (with_reducible first | exact True.intro | refine And.intro ?_ ?_)))) <;> (try (conv => lhs; whnf))
 case' fix1_ => (repeat' (first | (with_reducible first | exact True.intro | refine And.intro ?_ ?_ | refine Head.mk ?_ ?_ ?_ ?_) | ((conv => lhs; whnf); first | (with_reducible first | rfl | exact vInt_s (by omega)) | exact rfl) | ((conv => whnf); first | (with_reducible first | exact True.intro | refine And.intro ?_ ?_)))) <;> (try (conv => lhs; whnf))
 ·exact congrArg (Own.row _ _) (by rw [← hv]; exact rep_start h1 (by omega))
 ·exact congrArg vInt (by omega)
 ·omega
 rintro k g_ o_ v_ ⟨hk1, hkn⟩
 have hl := rep_len v hkn
 (repeat' (first | (with_reducible first | exact True.intro | refine zQ ?_ | (refine zG hG_ ?_; intro K_ hK_) | (refine zR ?_; intro K_ hK_) | (refine hK_ _ _ ?_; try clear hK_ K_) | refine sq_n ?_ | refine sq_r ?_ | refine sq_e ?_ | refine bq_n ?_ | refine bq_r ?_ | refine bq_q ?_ | refine zB ?_ | refine zX ?_ | refine zT ?_ | refine zK ?_ | refine gq_n ?_ | refine gq_r ?_ | refine gq_e ?_ | refine lq_n ?_ | refine lq_r ?_ | refine lq_e ?_ | refine bq_e (by decide) ?_) | ((with_reducible refine zC (b := ?b_) ?hb_ ?_ ?_); case hb_ => rfl) | ((conv => whnf); first | (with_reducible refine hK_ _ _ ?_; try clear hK_ K_) | (with_reducible refine fun (g_ : Sl) (o_ : Ow) => ?_) | (with_reducible first | exact True.intro | refine And.intro trivial ?_ | refine And.intro ?_ ?_) | exact Nat.le_of_ble_eq_true rfl | exact Or.inl rfl | (intro h_; cases h_) | (intro h_; (try simp only [vS1] at h_)) | rfl))) <;> (try (conv => whnf)) <;> (try first | change (_ : Int) ≤ _ | change (_ : Nat) ≤ _) <;> (try ((fail_if_success (with_reducible apply Exists.intro)); (try dsimp only); (try simp only [vS1]))) <;> (try simp (disch := omega) only [vS3, Int.add_sub_cancel, tn1, tnp, tnc, vS2] at *)
 all_goals (try (fail_if_success (with_reducible apply Exists.intro)); first | with_reducible assumption | omega | exact mdl (by omega) | exact ilo1 (by omega) | exact ilo2 (by omega) | exact ihi1 (by omega) (by omega) | exact ihi2 (by omega) (by omega))
 ·refine ⟨k + min k (n - k), by omega, by omega, ?_⟩
  (repeat' (first | (with_reducible first | exact True.intro | refine And.intro ?_ ?_ | refine Head.mk ?_ ?_ ?_ ?_) | ((conv => lhs; whnf); first | (with_reducible first | rfl | exact vInt_s (by omega)) | exact rfl) | ((conv => whnf); first | (with_reducible first | exact True.intro | refine And.intro ?_ ?_)))) <;> (try (conv => lhs; whnf))
  all_goals first
   | exact congrArg vInt (by omega)
   | exact congrArg (Own.row _ _) (rep_step v hkn)
   | skip
 ·rw [show k = n by omega]; unfold repR; rw [Nat.sub_self, List.replicate_zero, List.append_nil]; rfl
def idxOf (l : List Int) (v : Int) : Int := match (List.range l.length).find? (fun i => decide (l.getD i 0 = v)) with
 | some i => i
 | none => -1
theorem idx_some {l : List Int} {v : Int} {i : Nat} (hi : i < l.length) (h : l.getD i 0 = v) (hall : ∀ j, j < i → l.getD j 0 ≠ v) : idxOf l v = i := by
 unfold idxOf
 rw [List.find?_range_eq_some.2 ⟨decide_eq_true h, List.mem_range.2 hi, fun j hj => by rw [decide_eq_false (hall j hj)]; rfl⟩]
theorem idx_none {l : List Int} {v : Int} (hall : ∀ j, j < l.length → l.getD j 0 ≠ v) : idxOf l v = -1 := by
 unfold idxOf
 rw [List.find?_eq_none.2 fun j hj => by rw [decide_eq_false (hall j (List.mem_range.1 hj))]; decide]
def idxC : Con := mkCon [.sl (.b .int), .int] (fun x => x.1.length ≤ 1048576) fun x => vI (idxOf x.1 x.2.1)
theorem slIndex_ok : Good1 Tryz.prog n_slices_Index_int idxC := by
 refine good_ofG (tys := tyL) (env := []) (envw := []) (envd := []) [] [] [] [] [] mixed tys trivial trivial trivial Tryz.func69 rfl (by kernel_rfl) (by decide) (by kernel_rfl) ?_
 have hG_ := kpz [(0, [0, 1]), (1, [0, 1, 7, 8]), (2, [0, 1, 7, 8, 9]), (3, [0, 1, 5, 7, 8]), (4, [0, 1, 5, 7, 8, 16]), (5, [4]), (6, [0, 1, 7, 8]), (7, [4])] [] [] []
 rintro ⟨(l : List Int), (v : Int), ⟨⟩⟩ (h1 : l.length ≤ _)
 (repeat' (first | (with_reducible first | exact True.intro | refine zQ ?_ | (refine zG hG_ ?_; intro K_ hK_) | (refine zR ?_; intro K_ hK_) | (refine hK_ _ _ ?_; try clear hK_ K_) | refine sq_n ?_ | refine sq_r ?_ | refine sq_e ?_ | refine bq_n ?_ | refine bq_r ?_ | refine bq_q ?_ | refine zB ?_ | refine zX ?_ | refine zT ?_ | refine zK ?_ | refine gq_n ?_ | refine gq_r ?_ | refine gq_e ?_ | refine lq_n ?_ | refine lq_r ?_ | refine lq_e ?_ | refine bq_e (by decide) ?_) | ((with_reducible refine zC (b := ?b_) ?hb_ ?_ ?_); case hb_ => rfl) | ((conv => whnf); first | (with_reducible refine hK_ _ _ ?_; try clear hK_ K_) | (with_reducible refine fun (g_ : Sl) (o_ : Ow) => ?_) | (with_reducible first | exact True.intro | refine And.intro trivial ?_ | refine And.intro ?_ ?_) | exact Nat.le_of_ble_eq_true rfl | exact Or.inl rfl | (intro h_; cases h_) | (intro h_; (try simp only [vS1] at h_)) | rfl))) <;> (try (conv => whnf)) <;> (try first | change (_ : Int) ≤ _ | change (_ : Nat) ≤ _) <;> (try ((fail_if_success (with_reducible apply Exists.intro)); (try dsimp only); (try simp only [vS1]))) <;> (try simp (disch := omega) only [vS3, Int.add_sub_cancel, tn1, tnp, tnc, vS2] at *)
 all_goals (try (fail_if_success (with_reducible apply Exists.intro)); first | with_reducible assumption | omega | exact mdl (by omega) | exact ilo1 (by omega) | exact ilo2 (by omega) | exact ihi1 (by omega) (by omega) | exact ihi2 (by omega) (by omega))
 refine awp'_loopG (α := Nat) (fun k ver_ => [(8, vInt k)]) (fun k ver_ => []) (fun k ver_ => []) (fun k => k ≤ l.length ∧ ∀ j, j < k → l.getD j 0 ≠ v) (fun k => l.length - k) [0, 1, 7] [] (0) ?_
 conv => whnf
 refine ⟨⟨?inv2_, ?vals2_, ?own2_, ?fix2_⟩, ?body2_⟩
 case' vals2_ => (repeat' (first | (with_reducible first | exact True.intro | refine And.intro ?_ ?_ | refine Head.mk ?_ ?_ ?_ ?_) | ((conv => lhs; whnf); first | (with_reducible first | rfl | exact vInt_s (by omega)) | exact rfl) | ((conv => whnf); first | (with_reducible first | exact True.intro | refine And.intro ?_ ?_)))) <;> (try (conv => lhs; whnf))
 case' own2_ => (repeat' (first | (with_reducible first | exact True.intro | refine And.intro ?_ ?_ | refine Head.mk ?_ ?_ ?_ ?_) | ((conv => lhs; whnf); first | (with_reducible first | rfl | exact vInt_s (by omega)) | exact rfl) | ((conv => whnf); first | (with_reducible first | exact True.intro | refine And.intro ?_ ?_)))) <;> (try (conv => lhs; whnf))
 case' fix2_ => (repeat' (first | (with_reducible first | exact True.intro | refine And.intro ?_ ?_ | refine Head.mk ?_ ?_ ?_ ?_) | ((conv => lhs; whnf); first | (with_reducible first | rfl | exact vInt_s (by omega)) | exact rfl) | ((conv => whnf); first | (with_reducible first | exact True.intro | refine And.intro ?_ ?_)))) <;> (try (conv => lhs; whnf))
 ·exact ⟨Nat.zero_le _, fun j hj => absurd hj (by omega)⟩
 rintro k g_ o_ v_ ⟨hk, hall⟩
 (repeat' (first | (with_reducible first | exact True.intro | refine zQ ?_ | (refine zG hG_ ?_; intro K_ hK_) | (refine zR ?_; intro K_ hK_) | (refine hK_ _ _ ?_; try clear hK_ K_) | refine sq_n ?_ | refine sq_r ?_ | refine sq_e ?_ | refine bq_n ?_ | refine bq_r ?_ | refine bq_q ?_ | refine zB ?_ | refine zX ?_ | refine zT ?_ | refine zK ?_ | refine gq_n ?_ | refine gq_r ?_ | refine gq_e ?_ | refine lq_n ?_ | refine lq_r ?_ | refine lq_e ?_ | refine bq_e (by decide) ?_) | ((with_reducible refine zC (b := ?b_) ?hb_ ?_ ?_); case hb_ => rfl) | ((conv => whnf); first | (with_reducible refine hK_ _ _ ?_; try clear hK_ K_) | (with_reducible refine fun (g_ : Sl) (o_ : Ow) => ?_) | (with_reducible first | exact True.intro | refine And.intro trivial ?_ | refine And.intro ?_ ?_) | exact Nat.le_of_ble_eq_true rfl | exact Or.inl rfl | (intro h_; cases h_) | (intro h_; (try simp only [vS1] at h_)) | rfl))) <;> (try (conv => whnf)) <;> (try first | change (_ : Int) ≤ _ | change (_ : Nat) ≤ _) <;> (try ((fail_if_success (with_reducible apply Exists.intro)); (try dsimp only); (try simp only [vS1]))) <;> (try simp (disch := omega) only [vS3, Int.add_sub_cancel, tn1, tnp, tnc, vS2] at *)
 all_goals (try (fail_if_success (with_reducible apply Exists.intro)); first | with_reducible assumption | omega | exact mdl (by omega) | exact ilo1 (by omega) | exact ilo2 (by omega) | exact ihi1 (by omega) (by omega) | exact ihi2 (by omega) (by omega))
 all_goals first
  | omega
  | exact (idx_some (by assumption) (Eq.symm (by assumption)) hall).symm
  | exact (idx_some (by assumption) (by assumption) hall).symm
  | exact ⟨k + 1, by omega, ⟨by omega, lt_succ_all hall (fun e => absurd e.symm (by assumption))⟩, by (repeat' (first | (with_reducible first | exact True.intro | refine And.intro ?_ ?_ | refine Head.mk ?_ ?_ ?_ ?_) | ((conv => lhs; whnf); first | (with_reducible first | rfl | exact vInt_s (by omega)) | exact rfl) | ((conv => whnf); first | (with_reducible first | exact True.intro | refine And.intro ?_ ?_)))) <;> (try (conv => lhs; whnf))⟩
  | exact ⟨k + 1, by omega, ⟨by omega, lt_succ_all hall (by assumption)⟩, by (repeat' (first | (with_reducible first | exact True.intro | refine And.intro ?_ ?_ | refine Head.mk ?_ ?_ ?_ ?_) | ((conv => lhs; whnf); first | (with_reducible first | rfl | exact vInt_s (by omega)) | exact rfl) | ((conv => whnf); first | (with_reducible first | exact True.intro | refine And.intro ?_ ?_)))) <;> (try (conv => lhs; whnf))⟩
  | exact (idx_none fun j hj => hall j (by omega)).symm
  | skip
def minTo (l : List Int) : Nat → Int
 | 0 => l.getD 0 0
 | k + 1 => min (minTo l k) (l.getD (k + 1) 0)
def minC : Con := mkCon [.sl (.b .int)] (fun x => 0 < x.1.length ∧ x.1.length ≤ 1048576) fun x => vI (minTo x.1 (x.1.length - 1))
theorem slMin_ok : Good1 Tryz.prog n_slices_Min_int minC := by
 refine good_ofG (tys := tyL) (env := []) (envw := []) (envd := []) [] [] [] [] [] mixed tys trivial trivial trivial Tryz.func85 rfl (by kernel_rfl) (by decide) (by kernel_rfl) ?_
 have hG_ := kpz [(0, [0]), (1, [0, 7]), (2, [0]), (3, [0, 3]), (4, [0, 3, 4]), (5, [0, 3, 4, 15]), (6, [0, 3, 4]), (7, [0, 3, 4]), (8, [2])] [] [] []
 rintro ⟨(l : List Int), ⟨⟩⟩ ⟨(h0 : 0 < l.length), (h1 : l.length ≤ _)⟩
 (repeat' (first | (with_reducible first | exact True.intro | refine zQ ?_ | (refine zG hG_ ?_; intro K_ hK_) | (refine zR ?_; intro K_ hK_) | (refine hK_ _ _ ?_; try clear hK_ K_) | refine sq_n ?_ | refine sq_r ?_ | refine sq_e ?_ | refine bq_n ?_ | refine bq_r ?_ | refine bq_q ?_ | refine zB ?_ | refine zX ?_ | refine zT ?_ | refine zK ?_ | refine gq_n ?_ | refine gq_r ?_ | refine gq_e ?_ | refine lq_n ?_ | refine lq_r ?_ | refine lq_e ?_ | refine bq_e (by decide) ?_) | ((with_reducible refine zC (b := ?b_) ?hb_ ?_ ?_); case hb_ => rfl) | ((conv => whnf); first | (with_reducible refine hK_ _ _ ?_; try clear hK_ K_) | (with_reducible refine fun (g_ : Sl) (o_ : Ow) => ?_) | (with_reducible first | exact True.intro | refine And.intro trivial ?_ | refine And.intro ?_ ?_) | exact Nat.le_of_ble_eq_true rfl | exact Or.inl rfl | (intro h_; cases h_) | (intro h_; (try simp only [vS1] at h_)) | rfl))) <;> (try (conv => whnf)) <;> (try first | change (_ : Int) ≤ _ | change (_ : Nat) ≤ _) <;> (try ((fail_if_success (with_reducible apply Exists.intro)); (try dsimp only); (try simp only [vS1]))) <;> (try simp (disch := omega) only [vS3, Int.add_sub_cancel, tn1, tnp, tnc, vS2] at *)
 all_goals (try (fail_if_success (with_reducible apply Exists.intro)); first | with_reducible assumption | omega | exact mdl (by omega) | exact ilo1 (by omega) | exact ilo2 (by omega) | exact ihi1 (by omega) (by omega) | exact ihi2 (by omega) (by omega))
 refine awp'_loopG (α := Nat) (fun k ver_ => [(3, vInt (minTo l k)), (4, vInt (k + 1))]) (fun k ver_ => []) (fun k ver_ => []) (fun k => k < l.length) (fun k => l.length - k) [0] [] (0) ?_
 conv => whnf
 refine ⟨⟨?inv3_, ?vals3_, ?own3_, ?fix3_⟩, ?body3_⟩
 case' vals3_ => (repeat' (first | (with_reducible first | exact True.intro | refine And.intro ?_ ?_ | refine Head.mk ?_ ?_ ?_ ?_) | ((conv => lhs; whnf); first | (with_reducible first | rfl | exact vInt_s (by omega)) | exact rfl) | ((conv => whnf); first | (with_reducible first | exact True.intro | refine And.intro ?_ ?_)))) <;> (try (conv => lhs; whnf))
 case' own3_ => (repeat' (first | (with_reducible first | exact True.intro | refine And.intro ?_ ?_ | refine Head.mk ?_ ?_ ?_ ?_) | ((conv => lhs; whnf); first | (with_reducible first | rfl | exact vInt_s (by omega)) | exact rfl) | ((conv => whnf); first | (with_reducible first | exact True.intro | refine And.intro ?_ ?_)))) <;> (try (conv => lhs; whnf))
 case' fix3_ => (repeat' (first | (with_reducible first | exact True.intro | refine And.intro ?_ ?_ | refine Head.mk ?_ ?_ ?_ ?_) | ((conv => lhs; whnf); first | (with_reducible first | rfl | exact vInt_s (by omega)) | exact rfl) | ((conv => whnf); first | (with_reducible first | exact True.intro | refine And.intro ?_ ?_)))) <;> (try (conv => lhs; whnf))
 ·omega
 rintro k g_ o_ v_ hk
 (repeat' (first | (with_reducible first | exact True.intro | refine zQ ?_ | (refine zG hG_ ?_; intro K_ hK_) | (refine zR ?_; intro K_ hK_) | (refine hK_ _ _ ?_; try clear hK_ K_) | refine sq_n ?_ | refine sq_r ?_ | refine sq_e ?_ | refine bq_n ?_ | refine bq_r ?_ | refine bq_q ?_ | refine zB ?_ | refine zX ?_ | refine zT ?_ | refine zK ?_ | refine gq_n ?_ | refine gq_r ?_ | refine gq_e ?_ | refine lq_n ?_ | refine lq_r ?_ | refine lq_e ?_ | refine bq_e (by decide) ?_) | ((with_reducible refine zC (b := ?b_) ?hb_ ?_ ?_); case hb_ => rfl) | ((conv => whnf); first | (with_reducible refine hK_ _ _ ?_; try clear hK_ K_) | (with_reducible refine fun (g_ : Sl) (o_ : Ow) => ?_) | (with_reducible first | exact True.intro | refine And.intro trivial ?_ | refine And.intro ?_ ?_) | exact Nat.le_of_ble_eq_true rfl | exact Or.inl rfl | (intro h_; cases h_) | (intro h_; (try simp only [vS1] at h_)) | rfl))) <;> (try (conv => whnf)) <;> (try first | change (_ : Int) ≤ _ | change (_ : Nat) ≤ _) <;> (try ((fail_if_success (with_reducible apply Exists.intro)); (try dsimp only); (try simp only [vS1]))) <;> (try simp (disch := omega) only [vS3, Int.add_sub_cancel, tn1, tnp, tnc, vS2] at *)
 all_goals (try (fail_if_success (with_reducible apply Exists.intro)); first | with_reducible assumption | omega | exact mdl (by omega) | exact ilo1 (by omega) | exact ilo2 (by omega) | exact ihi1 (by omega) (by omega) | exact ihi2 (by omega) (by omega))
 all_goals first
  | omega
  | exact ⟨k + 1, by omega, by omega, by (repeat' (first | (with_reducible first | exact True.intro | refine And.intro ?_ ?_ | refine Head.mk ?_ ?_ ?_ ?_) | ((conv => lhs; whnf); first | (with_reducible first | rfl | exact vInt_s (by omega)) | exact rfl) | ((conv => whnf); first | (with_reducible first | exact True.intro | refine And.intro ?_ ?_)))) <;> (try (conv => lhs; whnf))⟩
  | (rw [show l.length - 1 = k by omega])
  | skip
end Go.Proofs.YtnepfcnlngpchaaGreat
namespace Go.Proofs.YtnepfcnlngpchaaGreat
open Go.RowKit Go.Proofs.YtnepfcnlngpchaaGreat.Nm
set_option maxRecDepth 10000
set_option maxHeartbeats 4000000
abbrev tD (ts : List Tri) (i : Nat) : Tri := ts.getD i (0, 0, 0)
theorem drop_cons {ts : List Tri} {i : Nat} (h : i < ts.length) : ts.drop i = tD ts i :: ts.drop (i + 1) := by
 rw [List.drop_eq_getElem_cons h, tD, getD_lt _ h]
theorem colF_step {n : Nat} {ts : List Tri} {i : Nat} (h : i + 1 < ts.length) : colF n (ts.drop i) = colStep (colF n (ts.drop (i + 1))) (tD ts i) := by
 rw [drop_cons (by omega), colF_cons]
 intro e
 have := congrArg List.length e
 simp at this
 omega
theorem colF_last {n : Nat} {ts : List Tri} (h : ts ≠ []) : colF n (ts.drop (ts.length - 1)) = colBase n (tD ts (ts.length - 1)) := by
 have hp : 0 < ts.length := List.length_pos_iff.2 h
 rw [drop_cons (by omega), show ts.length - 1 + 1 = ts.length by omega, List.drop_length]
 rfl
theorem colF_dlen {n : Nat} {ts : List Tri} {i : Nat} (h : i < ts.length) : (colF n (ts.drop i)).length = n := colF_len (by intro e; have := congrArg List.length e; simp at this; omega)
theorem step_vals {xs : List Pt} {j : Nat} (hj : j + 1 < (trisM xs).length) :
    (-1 ≤ cI (colF xs.length ((trisM xs).drop (j + 1))) (tD (trisM xs) j).1 ∧ cI (colF xs.length ((trisM xs).drop (j + 1))) (tD (trisM xs) j).1 ≤ 2) ∧
    (-1 ≤ cI (colF xs.length ((trisM xs).drop (j + 1))) (tD (trisM xs) j).2.1 ∧ cI (colF xs.length ((trisM xs).drop (j + 1))) (tD (trisM xs) j).2.1 ≤ 2) ∧
    (-1 ≤ cI (colF xs.length ((trisM xs).drop (j + 1))) (tD (trisM xs) j).2.2 ∧ cI (colF xs.length ((trisM xs).drop (j + 1))) (tD (trisM xs) j).2.2 ≤ 2) ∧
    ((cI (colF xs.length ((trisM xs).drop (j + 1))) (tD (trisM xs) j).1 < 0 ∧ 0 ≤ cI (colF xs.length ((trisM xs).drop (j + 1))) (tD (trisM xs) j).2.1 ∧ 0 ≤ cI (colF xs.length ((trisM xs).drop (j + 1))) (tD (trisM xs) j).2.2) ∨
     (0 ≤ cI (colF xs.length ((trisM xs).drop (j + 1))) (tD (trisM xs) j).1 ∧ cI (colF xs.length ((trisM xs).drop (j + 1))) (tD (trisM xs) j).2.1 < 0 ∧ 0 ≤ cI (colF xs.length ((trisM xs).drop (j + 1))) (tD (trisM xs) j).2.2) ∨
     (0 ≤ cI (colF xs.length ((trisM xs).drop (j + 1))) (tD (trisM xs) j).1 ∧ 0 ≤ cI (colF xs.length ((trisM xs).drop (j + 1))) (tD (trisM xs) j).2.1 ∧ cI (colF xs.length ((trisM xs).drop (j + 1))) (tD (trisM xs) j).2.2 < 0)) := by
  obtain ⟨p, c, q, e, hc, hp, hq⟩ := colors_step hj
  have e : tD (trisM xs) j = triS p c q := e
  rw [e]
  generalize colF xs.length ((trisM xs).drop (j + 1)) = out at *
  rcases triS_six p c q with e | e | e | e | e | e <;> rw [e] <;> simp only <;> omega
def colC (k : Bool) : Con := mkCon [.room] (fun x => x.1.length ≤ 1048576) fun x => ⟨.one (.own 0 0), some ⟨t_int, (match k with | true => some (decide (trisM x.1 = [])) | false => none), .b .int, colorsM x.1⟩⟩
def icolC : Con := colC true
theorem col_none {xs : List Pt} (h : trisM xs = []) : colorsM xs = [] := by unfold colorsM; rw [h]; rfl
abbrev t3 (t : Tri) (k : Nat) : Int := [t.1, t.2.1, t.2.2].getD k 0
theorem tri_in0 {xs : List Pt} {k : Nat} (hk : k < (trisM xs).length) : 0 ≤ ((trisM xs).getD k (ElK.b ElB.tri).dflt).1 ∧ ((trisM xs).getD k (ElK.b ElB.tri).dflt).1 < ((trisM xs).getD k (ElK.b ElB.tri).dflt).2.1 ∧ ((trisM xs).getD k (ElK.b ElB.tri).dflt).2.1 < ((trisM xs).getD k (ElK.b ElB.tri).dflt).2.2 ∧ ((trisM xs).getD k (ElK.b ElB.tri).dflt).2.2 < xs.length := tri_in hk
theorem col_base {xs : List Pt} (h : (trisM xs).length ≠ 0) : colF xs.length ((trisM xs).drop ((trisM xs).length - 1)) = colBase xs.length ((trisM xs).getD (((trisM xs).length : Int) - 1).toNat (0, 0, 0)) := by
 rw [colF_last (fun e => h (by rw [e]; rfl)), show (((trisM xs).length : Int) - 1).toNat = (trisM xs).length - 1 by omega]
theorem q3_0 (a b c d : Int) : [a, b, c].getD 0 d = a := rfl
theorem q3_1 (a b c d : Int) : [a, b, c].getD 1 d = b := rfl
theorem q3_2 (a b c d : Int) : [a, b, c].getD 2 d = c := rfl
theorem m01 : (((0 : Nat) : Int) + 1).tmod 3 = 1 := rfl
theorem m02 : (((0 : Nat) : Int) + 2).tmod 3 = 2 := rfl
theorem m11 : (((1 : Nat) : Int) + 1).tmod 3 = 2 := rfl
theorem m12 : (((1 : Nat) : Int) + 2).tmod 3 = 0 := rfl
theorem m21 : (((2 : Nat) : Int) + 1).tmod 3 = 0 := rfl
theorem m22 : (((2 : Nat) : Int) + 2).tmod 3 = 1 := rfl
theorem z0 : Int.toNat 0 = 0 := rfl
theorem z1 : Int.toNat 1 = 1 := rfl
theorem z2 : Int.toNat 2 = 2 := rfl
abbrev tX (xs : List Pt) (j : Nat) : Tri := (trisM xs).getD j (ElK.b ElB.tri).dflt
abbrev cX (out : List Int) (x : Int) : Int := out.getD x.toNat (ElK.b ElB.int).dflt
structure StepX (out : List Int) (t : Tri) : Prop where
 v1 : -1 ≤ cX out t.1 ∧ cX out t.1 ≤ 2
 v2 : -1 ≤ cX out t.2.1 ∧ cX out t.2.1 ≤ 2
 v3 : -1 ≤ cX out t.2.2 ∧ cX out t.2.2 ≤ 2
 vo : (cX out t.1 < 0 ∧ 0 ≤ cX out t.2.1 ∧ 0 ≤ cX out t.2.2) ∨ (0 ≤ cX out t.1 ∧ cX out t.2.1 < 0 ∧ 0 ≤ cX out t.2.2) ∨ (0 ≤ cX out t.1 ∧ 0 ≤ cX out t.2.1 ∧ cX out t.2.2 < 0)
theorem stepCX {xs : List Pt} {j : Nat} (hj : j + 1 < (trisM xs).length) : StepX (colF xs.length ((trisM xs).drop (j + 1))) (tX xs j) := by
 obtain ⟨h1, h2, h3, h4⟩ := step_vals hj
 exact ⟨h1, h2, h3, h4⟩
theorem col0 {out : List Int} {t : Tri} (h : cI out t.1 < 0) : out.set t.1.toNat (3 - cI out t.2.1 - cI out t.2.2) = colStep out t := by unfold colStep; rw [if_pos h]
theorem col1 {out : List Int} {t : Tri} (h0 : 0 ≤ cI out t.1) (h : cI out t.2.1 < 0) : out.set t.2.1.toNat (3 - cI out t.2.2 - cI out t.1) = colStep out t := by unfold colStep; rw [if_neg (by omega), if_pos h]
theorem col2 {out : List Int} {t : Tri} (h0 : 0 ≤ cI out t.1) (h1 : 0 ≤ cI out t.2.1) (h : cI out t.2.2 < 0) : out.set t.2.2.toNat (3 - cI out t.1 - cI out t.2.1) = colStep out t := by unfold colStep; rw [if_neg (by omega), if_neg (by omega), if_pos h]
theorem w2 {A B : Int} (hA : -1 ≤ A ∧ A ≤ 2) (hB : -1 ≤ B ∧ B ≤ 2) : IntKind.i64.wrap (IntKind.i64.wrap (3 - A) - B) = 3 - A - B := by
 have e : IntKind.i64.wrap (3 - A) = 3 - A := W_in (by omega) (by omega)
 rw [e]
 exact W_in (by omega) (by omega)
theorem iColorsOf_ok : Good1 Tryz.prog n_impl_ColorsOf icolC := by
 refine good_ofG (tys := tyL) (env := [(n_impl_TrianglesOf, trisC), (n_slices_Repeat_int, repC)]) (envw := []) (envd := []) [19] [5, 27, 28, 30, 31, 33, 34, 80, 81, 90, 91] [] [] [] mixed tys ⟨iTrianglesOf_ok, repeat_ok, trivial⟩ trivial trivial Tryz.func49 rfl (by kernel_rfl) (by decide) (by kernel_rfl) ?_
 have hG_ := kpz [(0, [1]), (1, [1, 3]), (2, [1, 3, 14]), (3, [2]), (4, [3, 4]), (5, [3, 4, 5]), (6, [3, 4]), (7, [3, 4, 6]), (8, [3, 4, 6, 42]), (9, [3, 4, 6]), (10, [3, 4, 6, 7]), (11, [3, 4, 6, 7, 61, 62, 63]), (12, [3, 4, 6, 7, 61, 62, 63, 64]), (13, [3, 4, 6, 7, 8, 9, 61, 62, 63]), (14, [3, 4, 6, 7, 8, 9, 61, 62, 63, 72]), (15, [3, 4, 6]), (16, [3, 4, 6, 7, 61, 62, 63]), (17, [2])] [(4, [19]), (5, [5, 19]), (6, [19]), (7, [19]), (8, [19]), (9, [19]), (10, [19]), (11, [19]), (12, [19]), (13, [19]), (14, [19]), (15, [19]), (16, [19]), (17, [19])] [(5, [5])] []
 rintro ⟨(xs : List Pt), ⟨⟩⟩ (h1 : xs.length ≤ _)
 have htl := tris_len xs
 have h3 := tris_or xs
 have hlast : (trisM xs).length = 0 ∨ _ := (Nat.eq_zero_or_pos (trisM xs).length).imp id fun h => tri_in0 (xs := xs) (k := (((trisM xs).length : Int) - 1).toNat) (by omega)
 (repeat' (first | (with_reducible first | exact True.intro | refine zQ ?_ | (refine zG hG_ ?_; intro K_ hK_) | (refine zR ?_; intro K_ hK_) | (refine hK_ _ _ ?_; try clear hK_ K_) | refine sq_n ?_ | refine sq_r ?_ | refine sq_e ?_ | refine bq_n ?_ | refine bq_r ?_ | refine bq_q ?_ | refine zB ?_ | refine zX ?_ | refine zT ?_ | refine zK ?_ | refine gq_n ?_ | refine gq_r ?_ | refine gq_e ?_ | refine lq_n ?_ | refine lq_r ?_ | refine lq_e ?_ | refine bq_e (by decide) ?_) | ((with_reducible refine zC (b := ?b_) ?hb_ ?_ ?_); case hb_ => rfl) | ((conv => whnf); first | (with_reducible refine hK_ _ _ ?_; try clear hK_ K_) | (with_reducible refine fun (g_ : Sl) (o_ : Ow) => ?_) | (with_reducible first | exact True.intro | refine And.intro trivial ?_ | refine And.intro ?_ ?_) | exact Nat.le_of_ble_eq_true rfl | exact Or.inl rfl | (intro h_; cases h_) | (intro h_; (try simp only [vS1] at h_)) | rfl))) <;> (try (conv => whnf)) <;> (try first | change (_ : Int) ≤ _ | change (_ : Nat) ≤ _) <;> (try ((fail_if_success (with_reducible apply Exists.intro)); (try dsimp only); (try simp only [vS1]))) <;> (try simp (disch := omega) only [vS3, Int.add_sub_cancel, tn1, tnp, tnc, vS2] at *)
 all_goals (try (fail_if_success (with_reducible apply Exists.intro)); first | with_reducible assumption | omega | exact mdl (by omega) | exact ilo1 (by omega) | exact ilo2 (by omega) | exact ihi1 (by omega) (by omega) | exact ihi2 (by omega) (by omega))
 ·exact col_none (List.eq_nil_of_length_eq_zero (by omega))
 ·exact .inr (by rw [List.eq_nil_of_length_eq_zero (show (trisM xs).length = 0 by omega)]; rfl)
 have hne : (trisM xs).length ≠ 0 := by omega
 refine awp'_loopG (α := Nat) (fun m ver_ => [(6, dnV m)]) (fun m ver_ => [(4, 19, false, .row t_int (.b .int) (colF xs.length ((trisM xs).drop m)))]) (fun m ver_ => []) (fun m => m + 1 ≤ (trisM xs).length) (fun m => m) [3] [] ((trisM xs).length - 1) ?_
 conv => whnf
 refine ⟨⟨?inv1_, ?vals1_, ?own1_, ?fix1_⟩, ?body1_⟩
 case' vals1_ => (repeat' (first | (with_reducible first | exact True.intro | refine And.intro ?_ ?_ | refine Head.mk ?_ ?_ ?_ ?_) | ((conv => lhs; whnf); first | (with_reducible first | rfl | exact vInt_s (by omega)) | exact rfl) | ((conv => whnf); first | (with_reducible first | exact True.intro | refine And.intro ?_ ?_)))) <;> (try (conv => lhs; whnf))
 case' own1_ => (repeat' (first | (with_reducible first | exact True.intro | refine And.intro ?_ ?_ | refine Head.mk ?_ ?_ ?_ ?_) | ((conv => lhs; whnf); first | (with_reducible first | rfl | exact vInt_s (by omega)) | exact rfl) | ((conv => whnf); first | (with_reducible first | exact True.intro | refine And.intro ?_ ?_)))) <;> (try (conv => lhs; whnf))
 case' fix1_ => (repeat' (first | (with_reducible first | exact True.intro | refine And.intro ?_ ?_ | refine Head.mk ?_ ?_ ?_ ?_) | ((conv => lhs; whnf); first | (with_reducible first | rfl | exact vInt_s (by omega)) | exact rfl) | ((conv => whnf); first | (with_reducible first | exact True.intro | refine And.intro ?_ ?_)))) <;> (try (conv => lhs; whnf))
 ·exact congrArg (Own.row _ _) (by rw [col_base hne]; rfl)
 ·rw [← dnV_eq]; exact congrArg vInt (by omega)
 ·omega
 rintro (_ | m) g_ o_ v_ hm
 ·(repeat' (first | (with_reducible first | exact True.intro | refine zQ ?_ | (refine zG hG_ ?_; intro K_ hK_) | (refine zR ?_; intro K_ hK_) | (refine hK_ _ _ ?_; try clear hK_ K_) | refine sq_n ?_ | refine sq_r ?_ | refine sq_e ?_ | refine bq_n ?_ | refine bq_r ?_ | refine bq_q ?_ | refine zB ?_ | refine zX ?_ | refine zT ?_ | refine zK ?_ | refine gq_n ?_ | refine gq_r ?_ | refine gq_e ?_ | refine lq_n ?_ | refine lq_r ?_ | refine lq_e ?_ | refine bq_e (by decide) ?_) | ((with_reducible refine zC (b := ?b_) ?hb_ ?_ ?_); case hb_ => rfl) | ((conv => whnf); first | (with_reducible refine hK_ _ _ ?_; try clear hK_ K_) | (with_reducible refine fun (g_ : Sl) (o_ : Ow) => ?_) | (with_reducible first | exact True.intro | refine And.intro trivial ?_ | refine And.intro ?_ ?_) | exact Nat.le_of_ble_eq_true rfl | exact Or.inl rfl | (intro h_; cases h_) | (intro h_; (try simp only [vS1] at h_)) | rfl))) <;> (try (conv => whnf)) <;> (try first | change (_ : Int) ≤ _ | change (_ : Nat) ≤ _) <;> (try ((fail_if_success (with_reducible apply Exists.intro)); (try dsimp only); (try simp only [vS1]))) <;> (try simp (disch := omega) only [vS3, Int.add_sub_cancel, tn1, tnp, tnc, vS2] at *)
  all_goals (try (fail_if_success (with_reducible apply Exists.intro)); first | with_reducible assumption | omega | exact mdl (by omega) | exact ilo1 (by omega) | exact ilo2 (by omega) | exact ihi1 (by omega) (by omega) | exact ihi2 (by omega) (by omega))
  exact .inr ⟨congrArg some (decide_eq_false (fun e => hne (by rw [e]; rfl))), fun e => by have := colF_dlen (n := xs.length) (ts := trisM xs) (i := 0) (by omega); rw [List.drop_zero] at this; rw [show colF xs.length (trisM xs) = [] from e] at this; simp at this; omega⟩
 have hcl := colF_dlen (n := xs.length) (ts := trisM xs) (i := m + 1) (by omega)
 have hsx := stepCX (xs := xs) (j := m) (by omega)
 have hi := tri_in0 (xs := xs) (k := m) (by omega)
 have hstep : colF xs.length ((trisM xs).drop m) = colStep _ (tX xs m) := colF_step (n := xs.length) (ts := trisM xs) (i := m) (by omega)
 generalize colF xs.length ((trisM xs).drop (m + 1)) = out at *
 obtain ⟨hv1, hv2, hv3, hvo⟩ := hsx
 (repeat' (first | (with_reducible first | exact True.intro | refine zQ ?_ | (refine zG hG_ ?_; intro K_ hK_) | (refine zR ?_; intro K_ hK_) | (refine hK_ _ _ ?_; try clear hK_ K_) | refine sq_n ?_ | refine sq_r ?_ | refine sq_e ?_ | refine bq_n ?_ | refine bq_r ?_ | refine bq_q ?_ | refine zB ?_ | refine zX ?_ | refine zT ?_ | refine zK ?_ | refine gq_n ?_ | refine gq_r ?_ | refine gq_e ?_ | refine lq_n ?_ | refine lq_r ?_ | refine lq_e ?_ | refine bq_e (by decide) ?_) | ((with_reducible refine zC (b := ?b_) ?hb_ ?_ ?_); case hb_ => rfl) | ((conv => whnf); first | (with_reducible refine hK_ _ _ ?_; try clear hK_ K_) | (with_reducible refine fun (g_ : Sl) (o_ : Ow) => ?_) | (with_reducible first | exact True.intro | refine And.intro trivial ?_ | refine And.intro ?_ ?_) | exact Nat.le_of_ble_eq_true rfl | exact Or.inl rfl | (intro h_; cases h_) | (intro h_; (try simp only [vS1] at h_)) | rfl))) <;> (try (conv => whnf)) <;> (try first | change (_ : Int) ≤ _ | change (_ : Nat) ≤ _) <;> (try ((fail_if_success (with_reducible apply Exists.intro)); (try dsimp only); (try simp only [vS1]))) <;> (try simp (disch := omega) only [vS3, Int.add_sub_cancel, tn1, tnp, tnc, vS2] at *)
 all_goals (try (fail_if_success (with_reducible apply Exists.intro)); first | with_reducible assumption | omega | exact mdl (by omega) | exact ilo1 (by omega) | exact ilo2 (by omega) | exact ihi1 (by omega) (by omega) | exact ihi2 (by omega) (by omega))
 refine awp'_loopG (α := Nat) (fun k ver_ => [(63, vInt k)]) (fun k ver_ => []) (fun k ver_ => []) (fun k => k ≤ 3 ∧ ∀ j, j < k → 0 ≤ cI out (t3 (tX xs m) j)) (fun k => 3 - k) [3, 4, 6, 7, 61, 62] [19] (0) ?_
 conv => whnf
 refine ⟨⟨?inv2_, ?vals2_, ?own2_, ?fix2_⟩, ?body2_⟩
 case' vals2_ => (repeat' (first | (with_reducible first | exact True.intro | refine And.intro ?_ ?_ | refine Head.mk ?_ ?_ ?_ ?_) | ((conv => lhs; whnf); first | (with_reducible first | rfl | exact vInt_s (by omega)) | exact rfl) | ((conv => whnf); first | (with_reducible first | exact True.intro | refine And.intro ?_ ?_)))) <;> (try (conv => lhs; whnf))
 case' own2_ => (repeat' (first | (with_reducible first | exact True.intro | refine And.intro ?_ ?_ | refine Head.mk ?_ ?_ ?_ ?_) | ((conv => lhs; whnf); first | (with_reducible first | rfl | exact vInt_s (by omega)) | exact rfl) | ((conv => whnf); first | (with_reducible first | exact True.intro | refine And.intro ?_ ?_)))) <;> (try (conv => lhs; whnf))
 case' fix2_ => (repeat' (first | (with_reducible first | exact True.intro | refine And.intro ?_ ?_ | refine Head.mk ?_ ?_ ?_ ?_) | ((conv => lhs; whnf); first | (with_reducible first | rfl | exact vInt_s (by omega)) | exact rfl) | ((conv => whnf); first | (with_reducible first | exact True.intro | refine And.intro ?_ ?_)))) <;> (try (conv => lhs; whnf))
 ·exact ⟨by omega, fun j hj => absurd hj (by omega)⟩
 rintro k g_ o_ v_ ⟨hk, hall⟩
 have hk4 : k = 0 ∨ k = 1 ∨ k = 2 ∨ k = 3 := by omega
 rcases hk4 with rfl | rfl | rfl | rfl
 ·clear hall
  (repeat' (first | (with_reducible first | exact True.intro | refine zQ ?_ | (refine zG hG_ ?_; intro K_ hK_) | (refine zR ?_; intro K_ hK_) | (refine hK_ _ _ ?_; try clear hK_ K_) | refine sq_n ?_ | refine sq_r ?_ | refine sq_e ?_ | refine bq_n ?_ | refine bq_r ?_ | refine bq_q ?_ | refine zB ?_ | refine zX ?_ | refine zT ?_ | refine zK ?_ | refine gq_n ?_ | refine gq_r ?_ | refine gq_e ?_ | refine lq_n ?_ | refine lq_r ?_ | refine lq_e ?_ | refine bq_e (by decide) ?_) | ((with_reducible refine zC (b := ?b_) ?hb_ ?_ ?_); case hb_ => rfl) | ((conv => whnf); first | (with_reducible refine hK_ _ _ ?_; try clear hK_ K_) | (with_reducible refine fun (g_ : Sl) (o_ : Ow) => ?_) | (with_reducible first | exact True.intro | refine And.intro trivial ?_ | refine And.intro ?_ ?_) | exact Nat.le_of_ble_eq_true rfl | exact Or.inl rfl | (intro h_; cases h_) | (intro h_; (try simp only [vS1] at h_)) | rfl))) <;> (try (conv => whnf)) <;> (try first | change (_ : Int) ≤ _ | change (_ : Nat) ≤ _) <;> (try ((fail_if_success (with_reducible apply Exists.intro)); (try dsimp only); (try simp only [vS1]))) <;> (try simp (disch := omega) only [vS3, Int.add_sub_cancel, tn1, tnp, tnc, vS2] at *) <;> (try simp only [q3_0, q3_1, q3_2, m01, m02, z0, z1, z2] at *)
  all_goals (try (fail_if_success (with_reducible apply Exists.intro)); first | with_reducible assumption | omega | exact mdl (by omega) | exact ilo1 (by omega) | exact ilo2 (by omega) | exact ihi1 (by omega) (by omega) | exact ihi2 (by omega) (by omega))
  ·refine ⟨m, by omega, by omega, ?_⟩
   (repeat' (first | (with_reducible first | exact True.intro | refine And.intro ?_ ?_ | refine Head.mk ?_ ?_ ?_ ?_) | ((conv => lhs; whnf); first | (with_reducible first | rfl | exact vInt_s (by omega)) | exact rfl) | ((conv => whnf); first | (with_reducible first | exact True.intro | refine And.intro ?_ ?_)))) <;> (try (conv => lhs; whnf))
   all_goals first
    | exact dnV_eq _
    | exact congrArg (Own.row t_int (.b .int)) ((congrArg (out.set _) (w2 hv2 hv3)).trans ((col0 (t := tX xs m) (by assumption)).trans hstep.symm))
  ·refine ⟨1, by omega, ⟨by omega, fun j hj => ?_⟩, by (repeat' (first | (with_reducible first | exact True.intro | refine And.intro ?_ ?_ | refine Head.mk ?_ ?_ ?_ ?_) | ((conv => lhs; whnf); first | (with_reducible first | rfl | exact vInt_s (by omega)) | exact rfl) | ((conv => whnf); first | (with_reducible first | exact True.intro | refine And.intro ?_ ?_)))) <;> (try (conv => lhs; whnf))⟩
   obtain rfl : j = 0 := by omega
   exact Int.not_lt.1 (by assumption)
 ·have h0 : 0 ≤ cX out (tX xs m).1 := hall 0 (by omega)
  clear hall
  (repeat' (first | (with_reducible first | exact True.intro | refine zQ ?_ | (refine zG hG_ ?_; intro K_ hK_) | (refine zR ?_; intro K_ hK_) | (refine hK_ _ _ ?_; try clear hK_ K_) | refine sq_n ?_ | refine sq_r ?_ | refine sq_e ?_ | refine bq_n ?_ | refine bq_r ?_ | refine bq_q ?_ | refine zB ?_ | refine zX ?_ | refine zT ?_ | refine zK ?_ | refine gq_n ?_ | refine gq_r ?_ | refine gq_e ?_ | refine lq_n ?_ | refine lq_r ?_ | refine lq_e ?_ | refine bq_e (by decide) ?_) | ((with_reducible refine zC (b := ?b_) ?hb_ ?_ ?_); case hb_ => rfl) | ((conv => whnf); first | (with_reducible refine hK_ _ _ ?_; try clear hK_ K_) | (with_reducible refine fun (g_ : Sl) (o_ : Ow) => ?_) | (with_reducible first | exact True.intro | refine And.intro trivial ?_ | refine And.intro ?_ ?_) | exact Nat.le_of_ble_eq_true rfl | exact Or.inl rfl | (intro h_; cases h_) | (intro h_; (try simp only [vS1] at h_)) | rfl))) <;> (try (conv => whnf)) <;> (try first | change (_ : Int) ≤ _ | change (_ : Nat) ≤ _) <;> (try ((fail_if_success (with_reducible apply Exists.intro)); (try dsimp only); (try simp only [vS1]))) <;> (try simp (disch := omega) only [vS3, Int.add_sub_cancel, tn1, tnp, tnc, vS2] at *) <;> (try simp only [q3_0, q3_1, q3_2, m11, m12, z0, z1, z2] at *)
  all_goals (try (fail_if_success (with_reducible apply Exists.intro)); first | with_reducible assumption | omega | exact mdl (by omega) | exact ilo1 (by omega) | exact ilo2 (by omega) | exact ihi1 (by omega) (by omega) | exact ihi2 (by omega) (by omega))
  ·refine ⟨m, by omega, by omega, ?_⟩
   (repeat' (first | (with_reducible first | exact True.intro | refine And.intro ?_ ?_ | refine Head.mk ?_ ?_ ?_ ?_) | ((conv => lhs; whnf); first | (with_reducible first | rfl | exact vInt_s (by omega)) | exact rfl) | ((conv => whnf); first | (with_reducible first | exact True.intro | refine And.intro ?_ ?_)))) <;> (try (conv => lhs; whnf))
   all_goals first
    | exact dnV_eq _
    | exact congrArg (Own.row t_int (.b .int)) ((congrArg (out.set _) (w2 hv3 hv1)).trans ((col1 (t := tX xs m) h0 (by assumption)).trans hstep.symm))
  ·refine ⟨2, by omega, ⟨by omega, fun j hj => ?_⟩, by (repeat' (first | (with_reducible first | exact True.intro | refine And.intro ?_ ?_ | refine Head.mk ?_ ?_ ?_ ?_) | ((conv => lhs; whnf); first | (with_reducible first | rfl | exact vInt_s (by omega)) | exact rfl) | ((conv => whnf); first | (with_reducible first | exact True.intro | refine And.intro ?_ ?_)))) <;> (try (conv => lhs; whnf))⟩
   have : j = 0 ∨ j = 1 := by omega
   rcases this with rfl | rfl
   ·exact h0
   ·exact Int.not_lt.1 (by assumption)
 ·have h0 : 0 ≤ cX out (tX xs m).1 := hall 0 (by omega)
  have h1 : 0 ≤ cX out (tX xs m).2.1 := hall 1 (by omega)
  have h2 : cX out (tX xs m).2.2 < 0 := by omega
  clear hall
  (repeat' (first | (with_reducible first | exact True.intro | refine zQ ?_ | (refine zG hG_ ?_; intro K_ hK_) | (refine zR ?_; intro K_ hK_) | (refine hK_ _ _ ?_; try clear hK_ K_) | refine sq_n ?_ | refine sq_r ?_ | refine sq_e ?_ | refine bq_n ?_ | refine bq_r ?_ | refine bq_q ?_ | refine zB ?_ | refine zX ?_ | refine zT ?_ | refine zK ?_ | refine gq_n ?_ | refine gq_r ?_ | refine gq_e ?_ | refine lq_n ?_ | refine lq_r ?_ | refine lq_e ?_ | refine bq_e (by decide) ?_) | ((with_reducible refine zC (b := ?b_) ?hb_ ?_ ?_); case hb_ => rfl) | ((conv => whnf); first | (with_reducible refine hK_ _ _ ?_; try clear hK_ K_) | (with_reducible refine fun (g_ : Sl) (o_ : Ow) => ?_) | (with_reducible first | exact True.intro | refine And.intro trivial ?_ | refine And.intro ?_ ?_) | exact Nat.le_of_ble_eq_true rfl | exact Or.inl rfl | (intro h_; cases h_) | (intro h_; (try simp only [vS1] at h_)) | rfl))) <;> (try (conv => whnf)) <;> (try first | change (_ : Int) ≤ _ | change (_ : Nat) ≤ _) <;> (try ((fail_if_success (with_reducible apply Exists.intro)); (try dsimp only); (try simp only [vS1]))) <;> (try simp (disch := omega) only [vS3, Int.add_sub_cancel, tn1, tnp, tnc, vS2] at *) <;> (try simp only [q3_0, q3_1, q3_2, m21, m22, z0, z1, z2] at *)
  all_goals (try (fail_if_success (with_reducible apply Exists.intro)); first | with_reducible assumption | omega | exact mdl (by omega) | exact ilo1 (by omega) | exact ilo2 (by omega) | exact ihi1 (by omega) (by omega) | exact ihi2 (by omega) (by omega))
  ·refine ⟨m, by omega, by omega, ?_⟩
   (repeat' (first | (with_reducible first | exact True.intro | refine And.intro ?_ ?_ | refine Head.mk ?_ ?_ ?_ ?_) | ((conv => lhs; whnf); first | (with_reducible first | rfl | exact vInt_s (by omega)) | exact rfl) | ((conv => whnf); first | (with_reducible first | exact True.intro | refine And.intro ?_ ?_)))) <;> (try (conv => lhs; whnf))
   all_goals first
    | exact dnV_eq _
    | exact congrArg (Own.row t_int (.b .int)) ((congrArg (out.set _) (w2 hv1 hv2)).trans ((col2 (t := tX xs m) h0 h1 (by assumption)).trans hstep.symm))
  ·exact absurd h2 (by assumption)
 ·have h0 : 0 ≤ cX out (tX xs m).1 := hall 0 (by omega)
  have h1 : 0 ≤ cX out (tX xs m).2.1 := hall 1 (by omega)
  have h2 : 0 ≤ cX out (tX xs m).2.2 := hall 2 (by omega)
  omega
def cntV (l : List Int) (k : Nat) (c : Int) : Int := ((l.take k).countP fun x => decide (x = c) : Nat)
def cnts (l : List Int) (k : Nat) : List Int := [cntV l k 0, cntV l k 1, cntV l k 2]
theorem cntV_succ {l : List Int} {k : Nat} (h : k < l.length) (c : Int) : cntV l (k + 1) c = if l.getD k 0 = c then cntV l k c + 1 else cntV l k c := by
 unfold cntV
 rw [List.take_add_one, List.getElem?_eq_getElem h, List.countP_append, show l.getD k 0 = l[k] from getD_lt _ h]
 by_cases e : l[k] = c
 ·rw [if_pos e]; simp [e]
 ·rw [if_neg e]; simp [e]
theorem cntV_bd (l : List Int) (k : Nat) (c : Int) : 0 ≤ cntV l k c ∧ cntV l k c ≤ k := by
 unfold cntV
 have := List.countP_le_length (p := fun x => decide (x = c)) (l := l.take k)
 have h2 : (l.take k).length ≤ k := List.length_take_le _ _
 omega
theorem cnts_step {l : List Int} {k : Nat} (h : k < l.length) (hc : 0 ≤ l.getD k 0 ∧ l.getD k 0 ≤ 2) : (cnts l k).set (l.getD k 0).toNat ((cnts l k).getD (l.getD k 0).toNat 0 + 1) = cnts l (k + 1) := by
 unfold cnts
 rw [cntV_succ h, cntV_succ h, cntV_succ h]
 generalize l.getD k 0 = c at hc ⊢
 have : c = 0 ∨ c = 1 ∨ c = 2 := by omega
 rcases this with rfl | rfl | rfl <;> simp
theorem cnts_len3 (l : List Int) (k : Nat) : (cnts l k).length = 3 := rfl
theorem cnts_bd (l : List Int) (k j : Nat) : 0 ≤ (cnts l k).getD j 0 ∧ (cnts l k).getD j 0 ≤ k := by
 unfold cnts
 have h0 := cntV_bd l k 0
 have h1 := cntV_bd l k 1
 have h2 := cntV_bd l k 2
 match j with
 | 0 => exact h0
 | 1 => exact h1
 | 2 => exact h2
 | j + 3 => simp
theorem cnts_step2 {l : List Int} {k : Nat} (h : k < l.length) (hl : l.length ≤ 12) (hc : 0 ≤ l.getD k 0 ∧ l.getD k 0 ≤ 2) : (cnts l k).set (l.getD k 0).toNat (IntKind.i64.wrap ((cnts l k).getD (l.getD k 0).toNat 0 + 1)) = cnts l (k + 1) := by
 have := cnts_bd l k (l.getD k 0).toNat
 rw [W_in (by omega) (by omega)]
 exact cnts_step h hc
def countsM (xs : List Pt) : List Int := if trisM xs = [] then [] else cnts (colorsM xs) (colorsM xs).length
theorem counts_no {xs : List Pt} (h : trisM xs = []) : countsM xs = [] := if_pos h
theorem counts_yes {xs : List Pt} (h : trisM xs ≠ []) : countsM xs = cnts (colorsM xs) (colorsM xs).length := if_neg h
def cntCo (k : Bool) : Con := mkCon [.room] (fun x => x.1.length ≤ 1048576) fun x => ⟨.one (.own 0 0), some ⟨t_int, (match k with | true => some (decide (trisM x.1 = [])) | false => none), .b .int, countsM x.1⟩⟩
def icntC : Con := cntCo true
theorem col_at {xs : List Pt} {k : Nat} (h : k < (colorsM xs).length) : 0 ≤ (colorsM xs).getD k (ElK.b ElB.int).dflt ∧ (colorsM xs).getD k (ElK.b ElB.int).dflt ≤ 2 := by
 have := colors_bd (xs := xs) (x := (colorsM xs)[k]) (List.getElem_mem h)
 rwa [show (colorsM xs).getD k (ElK.b ElB.int).dflt = (colorsM xs)[k] from getD_lt _ h]
theorem col_len12 (xs : List Pt) : (colorsM xs).length ≤ 12 := by
 rcases tris_cutd xs with e | ⟨hr, hd⟩
 ·rw [col_none e]; simp
 ·rw [colors_len hd.ne]; have := (room_len hr).2; omega
theorem iColorCounts_ok : Good1 Tryz.prog n_impl_ColorCounts icntC := by
 refine good_ofG (tys := tyL) (env := [(n_impl_ColorsOf, icolC)]) (envw := []) (envd := []) [11] [] [] [] [] mixed tys ⟨iColorsOf_ok, trivial⟩ trivial trivial Tryz.func84 rfl (by kernel_rfl) (by decide) (by kernel_rfl) ?_
 have hG_ := kpz [(0, [1]), (1, [3]), (2, [3, 10]), (3, [2]), (4, [3, 4]), (5, [4, 12, 13, 14]), (6, [4, 12, 13, 14, 15]), (7, [4, 6, 12, 13, 14]), (8, [4, 12, 13, 14]), (9, [4, 12, 13, 14]), (10, [2])] [(4, [11]), (5, [11]), (6, [11]), (7, [11]), (8, [11]), (9, [11]), (10, [11])] [] []
 rintro ⟨(xs : List Pt), ⟨⟩⟩ (h1 : xs.length ≤ _)
 have hcl := col_len12 xs
 (repeat' (first | (with_reducible first | exact True.intro | refine zQ ?_ | (refine zG hG_ ?_; intro K_ hK_) | (refine zR ?_; intro K_ hK_) | (refine hK_ _ _ ?_; try clear hK_ K_) | refine sq_n ?_ | refine sq_r ?_ | refine sq_e ?_ | refine bq_n ?_ | refine bq_r ?_ | refine bq_q ?_ | refine zB ?_ | refine zX ?_ | refine zT ?_ | refine zK ?_ | refine gq_n ?_ | refine gq_r ?_ | refine gq_e ?_ | refine lq_n ?_ | refine lq_r ?_ | refine lq_e ?_ | refine bq_e (by decide) ?_) | ((with_reducible refine zC (b := ?b_) ?hb_ ?_ ?_); case hb_ => rfl) | ((conv => whnf); first | (with_reducible refine hK_ _ _ ?_; try clear hK_ K_) | (with_reducible refine fun (g_ : Sl) (o_ : Ow) => ?_) | (with_reducible first | exact True.intro | refine And.intro trivial ?_ | refine And.intro ?_ ?_) | exact Nat.le_of_ble_eq_true rfl | exact Or.inl rfl | (intro h_; cases h_) | (intro h_; (try simp only [vS1] at h_)) | rfl))) <;> (try (conv => whnf)) <;> (try first | change (_ : Int) ≤ _ | change (_ : Nat) ≤ _) <;> (try ((fail_if_success (with_reducible apply Exists.intro)); (try dsimp only); (try simp only [vS1]))) <;> (try simp (disch := omega) only [vS3, Int.add_sub_cancel, tn1, tnp, tnc, vS2] at *)
 all_goals (try (fail_if_success (with_reducible apply Exists.intro)); first | with_reducible assumption | omega | exact mdl (by omega) | exact ilo1 (by omega) | exact ilo2 (by omega) | exact ihi1 (by omega) (by omega) | exact ihi2 (by omega) (by omega))
 ·exact counts_no h_
 ·exact .inr (by rw [h_]; rfl)
 have hne : trisM xs ≠ [] := h_
 refine awp'_loopG (α := Nat) (fun k ver_ => [(14, vInt k)]) (fun k ver_ => [(4, 11, false, .row t_int (.b .int) (cnts (colorsM xs) k))]) (fun k ver_ => []) (fun k => k ≤ (colorsM xs).length) (fun k => (colorsM xs).length - k) [12, 13] [] (0) ?_
 conv => whnf
 refine ⟨⟨?inv3_, ?vals3_, ?own3_, ?fix3_⟩, ?body3_⟩
 case' vals3_ => (repeat' (first | (with_reducible first | exact True.intro | refine And.intro ?_ ?_ | refine Head.mk ?_ ?_ ?_ ?_) | ((conv => lhs; whnf); first | (with_reducible first | rfl | exact vInt_s (by omega)) | exact rfl) | ((conv => whnf); first | (with_reducible first | exact True.intro | refine And.intro ?_ ?_)))) <;> (try (conv => lhs; whnf))
 case' own3_ => (repeat' (first | (with_reducible first | exact True.intro | refine And.intro ?_ ?_ | refine Head.mk ?_ ?_ ?_ ?_) | ((conv => lhs; whnf); first | (with_reducible first | rfl | exact vInt_s (by omega)) | exact rfl) | ((conv => whnf); first | (with_reducible first | exact True.intro | refine And.intro ?_ ?_)))) <;> (try (conv => lhs; whnf))
 case' fix3_ => (repeat' (first | (with_reducible first | exact True.intro | refine And.intro ?_ ?_ | refine Head.mk ?_ ?_ ?_ ?_) | ((conv => lhs; whnf); first | (with_reducible first | rfl | exact vInt_s (by omega)) | exact rfl) | ((conv => whnf); first | (with_reducible first | exact True.intro | refine And.intro ?_ ?_)))) <;> (try (conv => lhs; whnf))
 ·exact Nat.zero_le _
 rintro k g_ o_ v_ hk
 have hcn : (cnts (colorsM xs) k).length = 3 := rfl
 (repeat' (first | (with_reducible first | exact True.intro | refine zQ ?_ | (refine zG hG_ ?_; intro K_ hK_) | (refine zR ?_; intro K_ hK_) | (refine hK_ _ _ ?_; try clear hK_ K_) | refine sq_n ?_ | refine sq_r ?_ | refine sq_e ?_ | refine bq_n ?_ | refine bq_r ?_ | refine bq_q ?_ | refine zB ?_ | refine zX ?_ | refine zT ?_ | refine zK ?_ | refine gq_n ?_ | refine gq_r ?_ | refine gq_e ?_ | refine lq_n ?_ | refine lq_r ?_ | refine lq_e ?_ | refine bq_e (by decide) ?_) | ((with_reducible refine zC (b := ?b_) ?hb_ ?_ ?_); case hb_ => rfl) | ((conv => whnf); first | (with_reducible refine hK_ _ _ ?_; try clear hK_ K_) | (with_reducible refine fun (g_ : Sl) (o_ : Ow) => ?_) | (with_reducible first | exact True.intro | refine And.intro trivial ?_ | refine And.intro ?_ ?_) | exact Nat.le_of_ble_eq_true rfl | exact Or.inl rfl | (intro h_; cases h_) | (intro h_; (try simp only [vS1] at h_)) | rfl))) <;> (try (conv => whnf)) <;> (try first | change (_ : Int) ≤ _ | change (_ : Nat) ≤ _) <;> (try ((fail_if_success (with_reducible apply Exists.intro)); (try dsimp only); (try simp only [vS1]))) <;> (try simp (disch := omega) only [vS3, Int.add_sub_cancel, tn1, tnp, tnc, vS2] at *)
 all_goals (try (fail_if_success (with_reducible apply Exists.intro)); first | with_reducible assumption | omega | exact mdl (by omega) | exact ilo1 (by omega) | exact ilo2 (by omega) | exact ihi1 (by omega) (by omega) | exact ihi2 (by omega) (by omega))
 all_goals (try (have hca := col_at (xs := xs) (k := k) (by assumption)))
 all_goals (try (have hcb := cnts_bd (colorsM xs) k ((colorsM xs).getD k (ElK.b ElB.int).dflt).toNat))
 all_goals (try (first | with_reducible assumption | omega))
 ·refine ⟨k + 1, by omega, by omega, ?_⟩
  (repeat' (first | (with_reducible first | exact True.intro | refine And.intro ?_ ?_ | refine Head.mk ?_ ?_ ?_ ?_) | ((conv => lhs; whnf); first | (with_reducible first | rfl | exact vInt_s (by omega)) | exact rfl) | ((conv => whnf); first | (with_reducible first | exact True.intro | refine And.intro ?_ ?_)))) <;> (try (conv => lhs; whnf))
  all_goals first
   | exact congrArg (Own.row t_int (.b .int)) (cnts_step2 (by assumption) hcl hca)
   | exact congrArg (Own.row t_int (.b .int)) (cnts_step (by assumption) hca)
   | skip
 ·exact congrArg some (show cnts _ _ = _ by rw [counts_yes hne, show k = (colorsM xs).length by omega])
 ·exact .inr ⟨congrArg some (decide_eq_false hne), fun e => by have := congrArg List.length e; rw [counts_yes hne, cnts_len3] at this; simp at this⟩
def rarTo (cs : List Int) : Nat → Int
 | 0 => 0
 | k + 1 => if cs.getD (k + 1) 0 < cs.getD (rarTo cs k).toNat 0 then (k : Int) + 1 else rarTo cs k
theorem rarTo_bd (cs : List Int) : ∀ k, 0 ≤ rarTo cs k ∧ rarTo cs k ≤ k
 | 0 => by simp [rarTo]
 | k + 1 => by
  have := rarTo_bd cs k
  unfold rarTo
  split <;> omega
theorem idx_min (a b c : Int) : idxOf [a, b, c] (minTo [a, b, c] 2) = rarTo [a, b, c] 2 := by
 have hm : minTo [a, b, c] 2 = min (min a b) c := rfl
 have h0 : rarTo [a, b, c] 1 = if b < a then 1 else 0 := rfl
 have hr : rarTo [a, b, c] 2 = if c < [a, b, c].getD (rarTo [a, b, c] 1).toNat 0 then 2 else rarTo [a, b, c] 1 := rfl
 rw [hm, hr, h0]
 by_cases h1 : b < a
 ·rw [if_pos h1]
  show idxOf _ _ = if c < b then 2 else 1
  by_cases h2 : c < b
  ·rw [if_pos h2]
   exact idx_some (i := 2) (by simp) (show c = _ by omega) fun j hj => by
    match j, hj with
    | 0, _ => show a ≠ _; omega
    | 1, _ => show b ≠ _; omega
  ·rw [if_neg h2]
   exact idx_some (i := 1) (by simp) (show b = _ by omega) fun j hj => by
    match j, hj with
    | 0, _ => show a ≠ _; omega
 ·rw [if_neg h1]
  show idxOf _ _ = if c < a then 2 else 0
  by_cases h2 : c < a
  ·rw [if_pos h2]
   exact idx_some (i := 2) (by simp) (show c = _ by omega) fun j hj => by
    match j, hj with
    | 0, _ => show a ≠ _; omega
    | 1, _ => show b ≠ _; omega
  ·rw [if_neg h2]
   exact idx_some (i := 0) (by simp) (show a = _ by omega) fun j hj => absurd hj (by omega)
def rarestM (xs : List Pt) : Int := if trisM xs = [] then -1 else rarTo (countsM xs) 2
def rarC : Con := mkCon [.room] (fun x => x.1.length ≤ 1048576) fun x => vI (rarestM x.1)
theorem rar_idx {xs : List Pt} (h : trisM xs ≠ []) : idxOf (countsM xs) (minTo (countsM xs) ((countsM xs).length - 1)) = rarestM xs := by
 unfold rarestM
 rw [if_neg h, counts_yes h]
 exact idx_min _ _ _
theorem counts_len {xs : List Pt} : (trisM xs = [] ∧ (countsM xs).length = 0) ∨ (trisM xs ≠ [] ∧ (countsM xs).length = 3) := by
 by_cases h : trisM xs = []
 ·exact .inl ⟨h, by rw [counts_no h]; rfl⟩
 ·exact .inr ⟨h, by rw [counts_yes h]; rfl⟩
theorem iRarestColor_ok : Good1 Tryz.prog n_impl_RarestColor rarC := by
 refine good_ofG (tys := tyL) (env := [(n_impl_ColorCounts, icntC), (n_slices_Min_int, minC), (n_slices_Index_int, idxC)]) (envw := []) (envd := []) [] [] [] [] [] mixed tys ⟨iColorCounts_ok, slMin_ok, slIndex_ok, trivial⟩ trivial trivial Tryz.func48 rfl (by kernel_rfl) (by decide) (by kernel_rfl) ?_
 have hG_ := kpz [(0, [1]), (1, [3]), (2, [3, 7]), (3, [2]), (4, [2])] [] [] []
 rintro ⟨(xs : List Pt), ⟨⟩⟩ (h1 : xs.length ≤ _)
 have hcl := counts_len (xs := xs)
 (repeat' (first | (with_reducible first | exact True.intro | refine zQ ?_ | (refine zG hG_ ?_; intro K_ hK_) | (refine zR ?_; intro K_ hK_) | (refine hK_ _ _ ?_; try clear hK_ K_) | refine sq_n ?_ | refine sq_r ?_ | refine sq_e ?_ | refine bq_n ?_ | refine bq_r ?_ | refine bq_q ?_ | refine zB ?_ | refine zX ?_ | refine zT ?_ | refine zK ?_ | refine gq_n ?_ | refine gq_r ?_ | refine gq_e ?_ | refine lq_n ?_ | refine lq_r ?_ | refine lq_e ?_ | refine bq_e (by decide) ?_) | ((with_reducible refine zC (b := ?b_) ?hb_ ?_ ?_); case hb_ => rfl) | ((conv => whnf); first | (with_reducible refine hK_ _ _ ?_; try clear hK_ K_) | (with_reducible refine fun (g_ : Sl) (o_ : Ow) => ?_) | (with_reducible first | exact True.intro | refine And.intro trivial ?_ | refine And.intro ?_ ?_) | exact Nat.le_of_ble_eq_true rfl | exact Or.inl rfl | (intro h_; cases h_) | (intro h_; (try simp only [vS1] at h_)) | rfl))) <;> (try (conv => whnf)) <;> (try first | change (_ : Int) ≤ _ | change (_ : Nat) ≤ _) <;> (try ((fail_if_success (with_reducible apply Exists.intro)); (try dsimp only); (try simp only [vS1]))) <;> (try simp (disch := omega) only [vS3, Int.add_sub_cancel, tn1, tnp, tnc, vS2] at *)
 all_goals (try (fail_if_success (with_reducible apply Exists.intro)); first | with_reducible assumption | omega | exact mdl (by omega) | exact ilo1 (by omega) | exact ilo2 (by omega) | exact ihi1 (by omega) (by omega) | exact ihi2 (by omega) (by omega))
 ·unfold rarestM; rw [if_pos h_]
 ·rcases hcl with ⟨h2, -⟩ | ⟨-, h2⟩
  ·exact absurd h2 h_
  ·show 1 ≤ _; omega
 ·exact rar_idx h_
def selTo (f : Nat → Bool) (k : Nat) : List Int := ((List.range k).filter f).map fun j : Nat => (j : Int)
theorem selTo_succ (f : Nat → Bool) (k : Nat) : selTo f (k + 1) = selTo f k ++ (if f k then [(k : Int)] else []) := by
 unfold selTo
 rw [List.range_succ, List.filter_append, List.map_append]
 congr 1
 rw [List.filter_cons]
 by_cases h : f k = true
 ·rw [if_pos h, if_pos h]; rfl
 ·rw [if_neg h, if_neg h]; rfl
theorem selTo_yes {f : Nat → Bool} {k : Nat} (h : f k = true) : selTo f k ++ [(k : Int)] = selTo f (k + 1) := by rw [selTo_succ, if_pos h]
theorem selTo_no {f : Nat → Bool} {k : Nat} (h : f k = false) : selTo f k = selTo f (k + 1) := by rw [selTo_succ, h]; simp
theorem selTo_len (f : Nat → Bool) (k : Nat) : (selTo f k).length ≤ k := by
 unfold selTo
 rw [List.length_map]
 exact Nat.le_trans (List.length_filter_le _ _) (by simp)
def cgAt (xs : List Pt) (j : Nat) : Bool := decide ((colorsM xs).getD j 0 = rarestM xs)
def colGM (xs : List Pt) : List Int := selTo (cgAt xs) (colorsM xs).length
def cgC : Con := mkCon [.room] (fun x => x.1.length ≤ 1048576) fun x => rowI (colGM x.1)
theorem iColorGuards_ok : Good1 Tryz.prog n_impl_ColorGuards cgC := by
 refine good_ofG (tys := tyL) (env := [(n_impl_RarestColor, rarC), (n_impl_ColorsOf, icolC)]) (envw := []) (envd := []) [11] [] [] [] [] mixed tys ⟨iRarestColor_ok, iColorsOf_ok, trivial⟩ trivial trivial Tryz.func14 rfl (by kernel_rfl) (by decide) (by kernel_rfl) ?_
 have hG_ := kpz [(0, [1]), (1, [1, 3]), (2, [1, 3, 10]), (3, [2]), (4, [1, 3, 4]), (5, [3, 4, 13, 14, 15]), (6, [3, 4, 13, 14, 15, 16]), (7, [3, 4, 5, 6, 13, 14, 15]), (8, [3, 4, 5, 13, 14, 15, 22]), (9, [3, 4, 13, 14, 15]), (10, [3, 4, 13, 14, 15]), (11, [2])] [(4, [11]), (5, [11]), (6, [11]), (7, [11]), (8, [11]), (9, [11]), (10, [11]), (11, [11])] [] []
 rintro ⟨(xs : List Pt), ⟨⟩⟩ (h1 : xs.length ≤ _)
 have hcl := col_len12 xs
 (repeat' (first | (with_reducible first | exact True.intro | refine zQ ?_ | (refine zG hG_ ?_; intro K_ hK_) | (refine zR ?_; intro K_ hK_) | (refine hK_ _ _ ?_; try clear hK_ K_) | refine sq_n ?_ | refine sq_r ?_ | refine sq_e ?_ | refine bq_n ?_ | refine bq_r ?_ | refine bq_q ?_ | refine zB ?_ | refine zX ?_ | refine zT ?_ | refine zK ?_ | refine gq_n ?_ | refine gq_r ?_ | refine gq_e ?_ | refine lq_n ?_ | refine lq_r ?_ | refine lq_e ?_ | refine bq_e (by decide) ?_) | ((with_reducible refine zC (b := ?b_) ?hb_ ?_ ?_); case hb_ => rfl) | ((conv => whnf); first | (with_reducible refine hK_ _ _ ?_; try clear hK_ K_) | (with_reducible refine fun (g_ : Sl) (o_ : Ow) => ?_) | (with_reducible first | exact True.intro | refine And.intro trivial ?_ | refine And.intro ?_ ?_) | exact Nat.le_of_ble_eq_true rfl | exact Or.inl rfl | (intro h_; cases h_) | (intro h_; (try simp only [vS1] at h_)) | rfl))) <;> (try (conv => whnf)) <;> (try first | change (_ : Int) ≤ _ | change (_ : Nat) ≤ _) <;> (try ((fail_if_success (with_reducible apply Exists.intro)); (try dsimp only); (try simp only [vS1]))) <;> (try simp (disch := omega) only [vS3, Int.add_sub_cancel, tn1, tnp, tnc, vS2] at *)
 all_goals (try (fail_if_success (with_reducible apply Exists.intro)); first | with_reducible assumption | omega | exact mdl (by omega) | exact ilo1 (by omega) | exact ilo2 (by omega) | exact ihi1 (by omega) (by omega) | exact ihi2 (by omega) (by omega))
 ·unfold colGM
  have h0 : trisM xs = [] := by
   by_cases h : trisM xs = []
   ·exact h
   ·have := (rarTo_bd (countsM xs) 2).1
    unfold rarestM at h_
    rw [if_neg h] at h_
    omega
  rw [col_none h0]; rfl
 refine awp'_loopG (α := Nat) (fun k ver_ => [(15, vInt k)]) (fun k ver_ => [(4, 11, false, .row t_int (.b .int) (selTo (cgAt xs) k))]) (fun k ver_ => []) (fun k => k ≤ (colorsM xs).length) (fun k => (colorsM xs).length - k) [3, 13, 14] [] (0) ?_
 conv => whnf
 refine ⟨⟨?inv4_, ?vals4_, ?own4_, ?fix4_⟩, ?body4_⟩
 case' vals4_ => (repeat' (first | (with_reducible first | exact True.intro | refine And.intro ?_ ?_ | refine Head.mk ?_ ?_ ?_ ?_) | ((conv => lhs; whnf); first | (with_reducible first | rfl | exact vInt_s (by omega)) | exact rfl) | ((conv => whnf); first | (with_reducible first | exact True.intro | refine And.intro ?_ ?_)))) <;> (try (conv => lhs; whnf))
 case' own4_ => (repeat' (first | (with_reducible first | exact True.intro | refine And.intro ?_ ?_ | refine Head.mk ?_ ?_ ?_ ?_) | ((conv => lhs; whnf); first | (with_reducible first | rfl | exact vInt_s (by omega)) | exact rfl) | ((conv => whnf); first | (with_reducible first | exact True.intro | refine And.intro ?_ ?_)))) <;> (try (conv => lhs; whnf))
 case' fix4_ => (repeat' (first | (with_reducible first | exact True.intro | refine And.intro ?_ ?_ | refine Head.mk ?_ ?_ ?_ ?_) | ((conv => lhs; whnf); first | (with_reducible first | rfl | exact vInt_s (by omega)) | exact rfl) | ((conv => whnf); first | (with_reducible first | exact True.intro | refine And.intro ?_ ?_)))) <;> (try (conv => lhs; whnf))
 ·exact Nat.zero_le _
 rintro k g_ o_ v_ hk
 have hsl := selTo_len (cgAt xs) k
 (repeat' (first | (with_reducible first | exact True.intro | refine zQ ?_ | (refine zG hG_ ?_; intro K_ hK_) | (refine zR ?_; intro K_ hK_) | (refine hK_ _ _ ?_; try clear hK_ K_) | refine sq_n ?_ | refine sq_r ?_ | refine sq_e ?_ | refine bq_n ?_ | refine bq_r ?_ | refine bq_q ?_ | refine zB ?_ | refine zX ?_ | refine zT ?_ | refine zK ?_ | refine gq_n ?_ | refine gq_r ?_ | refine gq_e ?_ | refine lq_n ?_ | refine lq_r ?_ | refine lq_e ?_ | refine bq_e (by decide) ?_) | ((with_reducible refine zC (b := ?b_) ?hb_ ?_ ?_); case hb_ => rfl) | ((conv => whnf); first | (with_reducible refine hK_ _ _ ?_; try clear hK_ K_) | (with_reducible refine fun (g_ : Sl) (o_ : Ow) => ?_) | (with_reducible first | exact True.intro | refine And.intro trivial ?_ | refine And.intro ?_ ?_) | exact Nat.le_of_ble_eq_true rfl | exact Or.inl rfl | (intro h_; cases h_) | (intro h_; (try simp only [vS1] at h_)) | rfl))) <;> (try (conv => whnf)) <;> (try first | change (_ : Int) ≤ _ | change (_ : Nat) ≤ _) <;> (try ((fail_if_success (with_reducible apply Exists.intro)); (try dsimp only); (try simp only [vS1]))) <;> (try simp (disch := omega) only [vS3, Int.add_sub_cancel, tn1, tnp, tnc, vS2] at *)
 all_goals (try (fail_if_success (with_reducible apply Exists.intro)); first | with_reducible assumption | omega | exact mdl (by omega) | exact ilo1 (by omega) | exact ilo2 (by omega) | exact ihi1 (by omega) (by omega) | exact ihi2 (by omega) (by omega))
 ·refine ⟨k + 1, by omega, by omega, ?_⟩
  (repeat' (first | (with_reducible first | exact True.intro | refine And.intro ?_ ?_ | refine Head.mk ?_ ?_ ?_ ?_) | ((conv => lhs; whnf); first | (with_reducible first | rfl | exact vInt_s (by omega)) | exact rfl) | ((conv => whnf); first | (with_reducible first | exact True.intro | refine And.intro ?_ ?_)))) <;> (try (conv => lhs; whnf))
  exact congrArg (Own.row t_int (.b .int)) (selTo_yes (decide_eq_true (by assumption)))
 ·refine ⟨k + 1, by omega, by omega, ?_⟩
  (repeat' (first | (with_reducible first | exact True.intro | refine And.intro ?_ ?_ | refine Head.mk ?_ ?_ ?_ ?_) | ((conv => lhs; whnf); first | (with_reducible first | rfl | exact vInt_s (by omega)) | exact rfl) | ((conv => whnf); first | (with_reducible first | exact True.intro | refine And.intro ?_ ?_)))) <;> (try (conv => lhs; whnf))
  exact congrArg (Own.row t_int (.b .int)) (selTo_no (decide_eq_false (by assumption)))
 ·exact congrArg some (show selTo _ _ = selTo _ _ by rw [show k = (colorsM xs).length by omega])
theorem cnt3 : ∀ (l : List Int), (∀ x ∈ l, 0 ≤ x ∧ x ≤ 2) → (l.countP fun x => decide (x = 0)) + (l.countP fun x => decide (x = 1)) + (l.countP fun x => decide (x = 2)) = l.length
 | [], _ => rfl
 | x :: l, h => by
  have ih := cnt3 l fun y hy => h y (List.mem_cons_of_mem _ hy)
  have hx := h x List.mem_cons_self
  simp only [List.countP_cons, List.length_cons]
  rcases (show x = 0 ∨ x = 1 ∨ x = 2 by omega) with e | e | e <;> simp [e] <;> omega
structure ColX (xs : List Pt) (A B C c m : Int) : Prop where
 cs : countsM xs = [A, B, C]
 rar : rarestM xs = c
 a : 0 ≤ A ∧ A ≤ 10
 b : 0 ≤ B ∧ B ≤ 10
 d : 0 ≤ C ∧ C ≤ 10
 sum : A + B + C = xs.length
 c0 : 0 ≤ c
 c2 : c ≤ 2
 at_ : [A, B, C].getD c.toNat 0 = m
 le : m ≤ A ∧ m ≤ B ∧ m ≤ C
theorem colX {xs : List Pt} (hr : roomOk xs = true) : ∃ A B C c m, ColX xs A B C c m := by
 have hne := Geo.tris_ne hr
 have hl := colors_len hne
 have hlr := room_len hr
 have hs := cnt3 (colorsM xs) fun x hx => colors_bd hx
 have e : countsM xs = [cntV (colorsM xs) (colorsM xs).length 0, cntV (colorsM xs) (colorsM xs).length 1, cntV (colorsM xs) (colorsM xs).length 2] := counts_yes hne
 have v : ∀ c, cntV (colorsM xs) (colorsM xs).length c = ((colorsM xs).countP fun x => decide (x = c) : Nat) := fun c => by unfold cntV; rw [List.take_length]
 rw [v, v, v] at e
 have hra : rarestM xs = rarTo (countsM xs) 2 := by unfold rarestM; rw [if_neg hne]
 rw [e] at hra
 generalize ((colorsM xs).countP fun x => decide (x = 0) : Nat) = A at *
 generalize ((colorsM xs).countP fun x => decide (x = 1) : Nat) = B at *
 generalize ((colorsM xs).countP fun x => decide (x = 2) : Nat) = C at *
 have h0 : rarTo [(A : Int), B, C] 1 = if (B : Int) < A then 1 else 0 := rfl
 have h2 : rarTo [(A : Int), B, C] 2 = if (C : Int) < [(A : Int), B, C].getD (rarTo [(A : Int), B, C] 1).toNat 0 then 2 else rarTo [(A : Int), B, C] 1 := rfl
 have key : 0 ≤ rarestM xs ∧ rarestM xs ≤ 2 ∧ [(A : Int), B, C].getD (rarestM xs).toNat 0 ≤ A ∧ [(A : Int), B, C].getD (rarestM xs).toNat 0 ≤ B ∧ [(A : Int), B, C].getD (rarestM xs).toNat 0 ≤ C := by
  rw [hra, h2, h0]
  by_cases g : (B : Int) < A
  ·rw [if_pos g]
   by_cases g2 : (C : Int) < B
   ·rw [if_pos (show (C : Int) < [(A : Int), B, C].getD (Int.toNat 1) 0 from g2)]
    exact ⟨by decide, by decide, show (C : Int) ≤ A ∧ (C : Int) ≤ B ∧ (C : Int) ≤ C by omega⟩
   ·rw [if_neg (show ¬ (C : Int) < [(A : Int), B, C].getD (Int.toNat 1) 0 from g2)]
    exact ⟨by decide, by decide, show (B : Int) ≤ A ∧ (B : Int) ≤ B ∧ (B : Int) ≤ C by omega⟩
  ·rw [if_neg g]
   by_cases g2 : (C : Int) < A
   ·rw [if_pos (show (C : Int) < [(A : Int), B, C].getD (Int.toNat 0) 0 from g2)]
    exact ⟨by decide, by decide, show (C : Int) ≤ A ∧ (C : Int) ≤ B ∧ (C : Int) ≤ C by omega⟩
   ·rw [if_neg (show ¬ (C : Int) < [(A : Int), B, C].getD (Int.toNat 0) 0 from g2)]
    exact ⟨by decide, by decide, show (A : Int) ≤ A ∧ (A : Int) ≤ B ∧ (A : Int) ≤ C by omega⟩
 exact ⟨A, B, C, rarestM xs, [(A : Int), B, C].getD (rarestM xs).toNat 0, e, rfl, by omega, by omega, by omega, by omega, key.1, key.2.1, rfl, key.2.2⟩
def iSeesM (xs : List Pt) (a b : Pt) : Bool := allInM xs [a, b] && seesS xs a b
def iSeesC : Con := mkCon [.room, .pt, .pt] (fun x => x.1.length ≤ 1048576) fun x => vB (iSeesM x.1 x.2.1 x.2.2.1)
theorem allIn2 {xs : List Pt} {a b : Pt} (h : allInM xs [a, b] = true) : roomOk xs = true ∧ ptOk a = true ∧ ptOk b = true := by
 obtain ⟨h1, h2⟩ := allIn_iff.1 h
 exact ⟨h1, (inP_iff.1 (h2 0 (by simp))).1, (inP_iff.1 (h2 1 (by simp))).1⟩
theorem iSees_ok : Good1 Tryz.prog n_impl_Sees iSeesC := by
 refine good_ofG (tys := tyL) (env := [(n_impl_allIn, allInC), (n_impl_sees, sees2C)]) (envw := []) (envd := []) [] [] [] [] [] mixed tys ⟨allIn_ok, sees2_ok, trivial⟩ trivial trivial Tryz.func19 rfl (by kernel_rfl) (by decide) (by kernel_rfl) ?_
 have hG_ := kpz [(0, [3, 4, 5]), (1, [6])] [] [] []
 rintro ⟨(xs : List Pt), ⟨(a : Int), (b : Int)⟩, ⟨(c : Int), (d : Int)⟩, ⟨⟩⟩ (h1 : xs.length ≤ _)
 (repeat' (first | (with_reducible first | exact True.intro | refine zQ ?_ | (refine zG hG_ ?_; intro K_ hK_) | (refine zR ?_; intro K_ hK_) | (refine hK_ _ _ ?_; try clear hK_ K_) | refine sq_n ?_ | refine sq_r ?_ | refine sq_e ?_ | refine bq_n ?_ | refine bq_r ?_ | refine bq_q ?_ | refine zB ?_ | refine zX ?_ | refine zT ?_ | refine zK ?_ | refine gq_n ?_ | refine gq_r ?_ | refine gq_e ?_ | refine lq_n ?_ | refine lq_r ?_ | refine lq_e ?_ | refine bq_e (by decide) ?_) | ((with_reducible refine zC (b := ?b_) ?hb_ ?_ ?_); case hb_ => rfl) | ((conv => whnf); first | (with_reducible refine hK_ _ _ ?_; try clear hK_ K_) | (with_reducible refine fun (g_ : Sl) (o_ : Ow) => ?_) | (with_reducible first | exact True.intro | refine And.intro trivial ?_ | refine And.intro ?_ ?_) | exact Nat.le_of_ble_eq_true rfl | exact Or.inl rfl | (intro h_; cases h_) | (intro h_; (try simp only [vS1] at h_)) | rfl))) <;> (try (conv => whnf)) <;> (try first | change (_ : Int) ≤ _ | change (_ : Nat) ≤ _) <;> (try ((fail_if_success (with_reducible apply Exists.intro)); (try dsimp only); (try simp only [vS1]))) <;> (try simp (disch := omega) only [vS3, Int.add_sub_cancel, tn1, tnp, tnc, vS2] at *)
 all_goals (try ((fail_if_success (with_reducible apply Exists.intro)); first | with_reducible assumption | omega))
 all_goals first
  | exact (allIn2 (by assumption)).1
  | exact (allIn2 (by assumption)).2.1
  | exact (allIn2 (by assumption)).2.2
  | (unfold iSeesM; simp_all; done)
  | skip
noncomputable def hidS (bs : List Int) : List Pt × Pt × Pt := Classical.choose (⟨drawSightM bs, rfl⟩ : ∃ y, y = drawSightM bs)
theorem hidS_eq (bs : List Int) : hidS bs = drawSightM bs := Classical.choose_spec (⟨drawSightM bs, rfl⟩ : ∃ y, y = drawSightM bs)
noncomputable def drawSightHC : Con := mkCon [.sl (.b .u8)] (fun x => x.1.length ≤ 1048576 ∧ 0 < (floorPts (drawRoomM x.1)).length ∧ (drawRoomM x.1).length ≤ 10) fun x => .val (.tup [.inr [.d (.sl none (.b .pt) (hidS x.1).1)], .inr (cPt (hidS x.1).2.1), .inr (cPt (hidS x.1).2.2)])
theorem drawSightH_ok : Good1 Tryz.prog n_spec_DrawSight drawSightHC := by
 exact Good1.imp drawSight_ok fun x h => ⟨h, by
  show RV.val (.tup [.inr [.d (.sl none (.b .pt) (hidS x.1).1)], .inr (cPt (hidS x.1).2.1), .inr (cPt (hidS x.1).2.2)]) = _
  rw [hidS_eq]⟩
theorem colG_eq {xs : List Pt} (hr : roomOk xs = true) : colGM xs = colL xs (rarestM xs) := by
 unfold colGM selTo colL
 rw [colors_len (Geo.tris_ne hr)]; rfl
theorem filter_cnt : ∀ (l : List Int) (c : Int), ((List.range l.length).filter fun j => decide (l.getD j 0 = c)).length = l.countP fun x => decide (x = c) := fun l c => by
 have e : l = (List.range l.length).map fun j => l.getD j 0 := by
  refine List.ext_getElem (by simp) fun i h1 h2 => ?_
  rw [List.getElem_map, List.getElem_range, getD_lt _ h1]
 have : (l.countP fun x => decide (x = c)) = (((List.range l.length).map fun j => l.getD j 0).countP fun x => decide (x = c)) := by rw [← e]
 rw [this, List.countP_map, List.countP_eq_length_filter]; rfl
theorem colL_len {xs : List Pt} (hr : roomOk xs = true) (c : Int) : ((colL xs c).length : Int) = cntV (colorsM xs) (colorsM xs).length c := by
 unfold colL cntV
 rw [List.length_map, List.take_length, ← filter_cnt, colors_len (Geo.tris_ne hr)]
theorem guards_third {xs : List Pt} (hr : roomOk xs = true) : 3 * (colGM xs).length ≤ xs.length := by
 obtain ⟨A, B, C, c, m, hX⟩ := colX hr
 rw [colG_eq hr, hX.rar]
 have hl := colL_len hr c
 have h := hX.at_
 have e : countsM xs = [cntV (colorsM xs) (colorsM xs).length 0, cntV (colorsM xs) (colorsM xs).length 1, cntV (colorsM xs) (colorsM xs).length 2] := counts_yes (Geo.tris_ne hr)
 rw [← hX.cs, e] at h
 have h0 := hX.c0
 have h2 := hX.c2
 have : cntV (colorsM xs) (colorsM xs).length c = m := by
  rcases (show c = 0 ∨ c = 1 ∨ c = 2 by omega) with q | q | q <;> subst q <;> exact h
 have hle := hX.le
 have hs := hX.sum
 omega
theorem guards_pos {xs : List Pt} (hr : roomOk xs = true) : 1 ≤ (colGM xs).length ∧ (colGM xs).length ≤ 3 := by
 obtain ⟨A, B, C, c, m, hX⟩ := colX hr
 have h3 := guards_third hr
 have hl := room_len hr
 rw [colG_eq hr, hX.rar] at h3 ⊢
 exact ⟨cov_pos hr (colL_cov hr ⟨hX.c0, hX.c2⟩), by omega⟩
theorem guards_pts {xs : List Pt} (hr : roomOk xs = true) : ptsOf xs (colGM xs) = (colGM xs).map (pI xs) ∧ seesAllM xs (ptsOf xs (colGM xs)) = true := by
 obtain ⟨A, B, C, c, m, hX⟩ := colX hr
 have hri : Rise xs.length 0 (colGM xs) := by rw [colG_eq hr]; exact colL_rise _ _
 have hco : covF xs (colGM xs) := by rw [colG_eq hr, hX.rar]; exact colL_cov hr ⟨hX.c0, hX.c2⟩
 have e := pts_map hr hri.corners
 exact ⟨e, by rw [e]; exact (seesAll_iff hr hri.corners).2 hco⟩
theorem unseen_none {xs gs : List Pt} (h : seesAllM xs gs = true) : unseenM xs gs = [] := by
 unfold seesAllM at h
 rw [Bool.and_eq_true, List.all_eq_true] at h
 rw [unseen_ok h.1, List.filter_eq_nil_iff]
 exact fun p hp => notSeen_f (h.2 p hp)
theorem sees_nil {xs : List Pt} (hr : roomOk xs = true) : seesAllM xs [] = false := by
 rw [Bool.eq_false_iff]
 intro h
 unfold seesAllM at h
 rw [Bool.and_eq_true, List.all_eq_true] at h
 have := h.2 _ (pAt_mem (L := floorPts xs) (u := 0) (floor_pos' hr))
 cases this
theorem nearTo_sees {xs gs : List Pt} {p : Pt} : ∀ k, 0 ≤ nearTo xs gs p k → seesS xs (pI gs (nearTo xs gs p k)) p = true
 | 0, h => by exact absurd (show (0 : Int) ≤ -1 from h) (by decide)
 | k + 1, h => by
  unfold nearTo at h ⊢
  split at h
  ·rename_i hc
   rw [if_pos hc]
   rw [Bool.and_eq_true] at hc
   show seesS xs (gs.getD ((k : Int)).toNat (0, 0)) p = true
   rw [Int.toNat_natCast]; exact hc.1
  ·rename_i hc
   rw [if_neg hc]
   exact nearTo_sees k h
theorem nearTo_pos {xs gs : List Pt} {p : Pt} {j : Nat} (hs : seesS xs (pAt gs j) p = true) : ∀ k, j < k → 0 ≤ nearTo xs gs p k
 | 0, h => by omega
 | k + 1, h => by
  unfold nearTo
  split
  ·omega
  ·rename_i hc
   rcases (show j = k ∨ j < k by omega) with e | e
   ·subst e
    rw [hs, Bool.true_and, Bool.or_eq_true, decide_eq_true_eq] at hc
    have := nearTo_bd xs gs p j
    omega
   ·exact nearTo_pos hs k e
theorem near_on {xs gs : List Pt} {p : Pt} (h : seesAllM xs gs = true) (hp : p ∈ floorPts xs) : 0 ≤ nearM xs gs p ∧ nearM xs gs p < gs.length ∧ seesS xs (pI gs (nearM xs gs p)) p = true ∧ inP xs (pI gs (nearM xs gs p)) = true := by
 have h' := h
 unfold seesAllM at h'
 rw [Bool.and_eq_true, List.all_eq_true] at h'
 obtain ⟨hr, hpt, hi⟩ := Geo.mem_floor.1 hp
 have e : nearM xs gs p = nearTo xs gs p gs.length := by
  unfold nearM
  rw [h'.1, isIn_iff.2 ⟨hr, inP_iff.2 ⟨hpt, hi⟩⟩]; rfl
 obtain ⟨g, hg, hs⟩ := List.any_eq_true.1 (h'.2 p hp)
 obtain ⟨j, hj, rfl⟩ := List.getElem_of_mem hg
 have h0 := nearTo_pos (xs := xs) (gs := gs) (p := p) (j := j) (by rw [pAt, getD_lt _ hj]; exact hs) gs.length hj
 have hb := nearTo_bd xs gs p gs.length
 rw [e]
 refine ⟨h0, hb.2, nearTo_sees _ h0, ?_⟩
 exact (allIn_iff.1 h'.1).2 _ (by omega)
theorem sight_floor (bs : List Int) : l08PointX (sightC0 bs) (drawRoomM bs) ∈ floorPts (drawRoomM bs) := by
 have hp := floor_pos' (drawRoom_room bs)
 have hb := below_bd (c := sightC0 bs) (n := ((floorPts (drawRoomM bs)).length : Int)) (by omega)
 exact pAt_mem (by omega)
structure GuaX (xs : List Pt) (p : Pt) : Prop where
 one : ((colGM xs).length : Int) ≥ 1
 third : IntKind.i64.wrap (3 * ((colGM xs).length : Int)) ≤ xs.length
 all : seesAllM xs (ptsOf xs (colGM xs)) = true
 un : ((unseenM xs (ptsOf xs (colGM xs))).length : Int) = 0
 k0 : nearM xs (ptsOf xs (colGM xs)) p ≥ 0
 k1 : nearM xs (ptsOf xs (colGM xs)) p < (ptsOf xs (colGM xs)).length
 see : iSeesM xs ((ptsOf xs (colGM xs)).getD (nearM xs (ptsOf xs (colGM xs)) p).toNat (ElK.b ElB.pt).dflt) p = true
 nil : seesAllM xs [] = false
theorem guaX {xs : List Pt} {p : Pt} (hp : p ∈ floorPts xs) : GuaX xs p := by
 obtain ⟨hr, hpt, hi⟩ := Geo.mem_floor.1 hp
 have g1 := guards_third hr
 have g2 := guards_pos hr
 obtain ⟨g3, g4⟩ := guards_pts hr
 have hl := room_len hr
 obtain ⟨g8, g9, g10, g11⟩ := near_on g4 hp
 refine ⟨by omega, ?_, g4, by rw [unseen_none g4]; rfl, g8, g9, ?_, sees_nil hr⟩
 ·rw [W_in (by omega) (by omega)]; omega
 ·show iSeesM xs (pI (ptsOf xs (colGM xs)) (nearM xs (ptsOf xs (colGM xs)) p)) p = true
  unfold iSeesM allInM
  rw [hr, List.all_cons, List.all_cons, g11, inP_iff.2 ⟨hpt, hi⟩, g10]; rfl
theorem fnGuards_ok : Good1 Tryz.prog n_laws_FnGuards (lawCon [.sl (.b .u8)]) := by
 refine good_ofG (tys := tyL) (env := [(n_laws_big, bigC), (n_spec_DrawSight, drawSightHC), (n_impl_ColorGuards, cgC), (n_impl_PointsOf, ptsOfC), (n_impl_NearestGuard, nearC), (n_impl_SeesAll, seesAllC), (n_impl_UnseenBy, unseenC), (n_impl_Sees, iSeesC)]) (envw := []) (envd := []) [] [] [] [] [] mixed tys ⟨big_ok, drawSightH_ok, iColorGuards_ok, iPointsOf_ok, iNearestGuard_ok, iSeesAll_ok, iUnseenBy_ok, iSees_ok, trivial⟩ trivial trivial Tryz.func4 rfl (by kernel_rfl) (by decide) (by kernel_rfl) ?_
 have hG_ := kpz [(0, [0]), (1, [0, 10]), (2, [2]), (3, [3, 4]), (4, [3, 4, 6]), (5, [3, 4, 6, 7]), (6, [3, 4, 6, 7, 8]), (7, [2])] [(3, [3, 4]), (4, [3, 4]), (5, [3, 4]), (6, [3, 4])] [] []
 rintro ⟨(bs : List Int), ⟨⟩⟩ ⟨(h0 : bs.length ≤ _), -⟩
 have hr := drawRoom_room bs
 have hl := room_len hr
 have hfp := floor_pos' hr
 have hX : GuaX (hidS bs).1 (hidS bs).2.1 := by
  rw [hidS_eq]
  exact guaX (sight_floor bs)
 have hl1 : (hidS bs).1.length ≤ 10 := by rw [hidS_eq]; exact hl.2
 have hr1 : roomOk (hidS bs).1 = true := by rw [hidS_eq]; exact hr
 have hcg : (colGM (hidS bs).1).length ≤ 3 := (guards_pos hr1).2
 have h3 := guards_third hr1
 have hpl : (ptsOf (hidS bs).1 (colGM (hidS bs).1)).length = (colGM (hidS bs).1).length := by rw [(guards_pts hr1).1, List.length_map]
 (repeat' (first | (with_reducible first | exact True.intro | refine zQ ?_ | (refine zG hG_ ?_; intro K_ hK_) | (refine zR ?_; intro K_ hK_) | (refine hK_ _ _ ?_; try clear hK_ K_) | refine sq_n ?_ | refine sq_r ?_ | refine sq_e ?_ | refine bq_n ?_ | refine bq_r ?_ | refine bq_q ?_ | refine zB ?_ | refine zX ?_ | refine zT ?_ | refine zK ?_ | refine gq_n ?_ | refine gq_r ?_ | refine gq_e ?_ | refine lq_n ?_ | refine lq_r ?_ | refine lq_e ?_ | refine bq_e (by decide) ?_) | ((with_reducible refine zC (b := ?b_) ?hb_ ?_ ?_); case hb_ => rfl) | ((conv => whnf); first | (with_reducible refine hK_ _ _ ?_; try clear hK_ K_) | (with_reducible refine fun (g_ : Sl) (o_ : Ow) => ?_) | (with_reducible first | exact True.intro | refine And.intro trivial ?_ | refine And.intro ?_ ?_) | exact Nat.le_of_ble_eq_true rfl | exact Or.inl rfl | (intro h_; cases h_) | (intro h_; (try simp only [vS1] at h_)) | rfl))) <;> (try (conv => whnf)) <;> (try first | change (_ : Int) ≤ _ | change (_ : Nat) ≤ _) <;> (try ((fail_if_success (with_reducible apply Exists.intro)); (try dsimp only); (try simp only [vS1]))) <;> (try simp (disch := omega) only [vS3, Int.add_sub_cancel, tn1, tnp, tnc, vS2] at *)
 all_goals (try ((fail_if_success (with_reducible apply Exists.intro)); first | with_reducible assumption | omega))
 all_goals first
  | exact hX.nil
  | exact absurd hX.one (by assumption)
  | exact absurd hX.third (by assumption)
  | exact absurd hX.un (by assumption)
  | exact absurd hX.k0 (by assumption)
  | exact absurd hX.k1 (by assumption)
  | exact absurd (hX.all.symm.trans (by assumption)) (by decide)
  | exact absurd (hX.see.symm.trans (by assumption)) (by decide)
  | skip
end Go.Proofs.YtnepfcnlngpchaaGreat
