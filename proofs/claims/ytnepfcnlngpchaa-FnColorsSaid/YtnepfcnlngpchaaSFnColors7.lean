/- What the proof of 'FnColors' needs, part 7: conditions and steps of the functions that it reaches, and the mathematics. -/
import Derived.Test.YtnepfcnlngpchaaRows
import Derived.WalkKit
import Derived.WalkSpells
import Derived.Below
import Derived.Orders
import Derived.Maps.AppendAt
import Derived.Laws.StructEq
import Derived.WideShapes
import Derived.ChangeSlices
import Derived.Deep.Strs
import Derived.ChangeOld
import Derived.Shelf.SlLaysF0
import Derived.Shelf.SlSortCmp.InsertionK
import Derived.Shelf.SlSortCmp.SmallK
import Derived.Shelf.SlSortCmp.Xorshift
import Derived.Sort.LotA
import Derived.Shelf.Slices.Delete
import Derived.Shelf.Sort.Plain
import Derived.Shelf.Bits.Mul64
import Derived.Test.YtnepfcnlngpchaaSFnColors6
set_option linter.unusedSimpArgs false
set_option linter.unusedVariables false
namespace Go.Proofs.Ytnepfcnlngpchaa
open Go.RowKit Go.Proofs.Ytnepfcnlngpchaa.Nm
set_option maxRecDepth 10000
set_option maxHeartbeats 4000000
abbrev tD (ts : List Tri) (i : Nat) : Tri := ts.getD i (0, 0, 0)
theorem drop_cons {ts : List Tri} {i : Nat} (h : i < ts.length) : ts.drop i = tD ts i :: ts.drop (i + 1) := by
  rw [List.drop_eq_getElem_cons h, tD, getD_lt _ h]
theorem colF_step {n : Nat} {ts : List Tri} {i : Nat} (h : i + 1 < ts.length) : colF n (ts.drop i) = colStep (colF n (ts.drop (i + 1))) (tD ts i) := by
  rw [drop_cons (by omega), colF_cons]
  intro e
  have := congrArg List.length e
  simp at this
  omega
theorem colF_last {n : Nat} {ts : List Tri} (h : ts ≠ []) : colF n (ts.drop (ts.length - 1)) = colBase n (tD ts (ts.length - 1)) := by
  have hp : 0 < ts.length := List.length_pos_iff.2 h
  rw [drop_cons (by omega), show ts.length - 1 + 1 = ts.length by omega, List.drop_length]
  rfl
theorem colF_dlen {n : Nat} {ts : List Tri} {i : Nat} (h : i < ts.length) : (colF n (ts.drop i)).length = n := colF_len (by intro e; have := congrArg List.length e; simp at this; omega)
theorem step_vals {xs : List Pt} {j : Nat} (hj : j + 1 < (trisM xs).length) :
    (-1 ≤ cI (colF xs.length ((trisM xs).drop (j + 1))) (tD (trisM xs) j).1 ∧ cI (colF xs.length ((trisM xs).drop (j + 1))) (tD (trisM xs) j).1 ≤ 2) ∧
    (-1 ≤ cI (colF xs.length ((trisM xs).drop (j + 1))) (tD (trisM xs) j).2.1 ∧ cI (colF xs.length ((trisM xs).drop (j + 1))) (tD (trisM xs) j).2.1 ≤ 2) ∧
    (-1 ≤ cI (colF xs.length ((trisM xs).drop (j + 1))) (tD (trisM xs) j).2.2 ∧ cI (colF xs.length ((trisM xs).drop (j + 1))) (tD (trisM xs) j).2.2 ≤ 2) ∧
    ((cI (colF xs.length ((trisM xs).drop (j + 1))) (tD (trisM xs) j).1 < 0 ∧ 0 ≤ cI (colF xs.length ((trisM xs).drop (j + 1))) (tD (trisM xs) j).2.1 ∧ 0 ≤ cI (colF xs.length ((trisM xs).drop (j + 1))) (tD (trisM xs) j).2.2) ∨
     (0 ≤ cI (colF xs.length ((trisM xs).drop (j + 1))) (tD (trisM xs) j).1 ∧ cI (colF xs.length ((trisM xs).drop (j + 1))) (tD (trisM xs) j).2.1 < 0 ∧ 0 ≤ cI (colF xs.length ((trisM xs).drop (j + 1))) (tD (trisM xs) j).2.2) ∨
     (0 ≤ cI (colF xs.length ((trisM xs).drop (j + 1))) (tD (trisM xs) j).1 ∧ 0 ≤ cI (colF xs.length ((trisM xs).drop (j + 1))) (tD (trisM xs) j).2.1 ∧ cI (colF xs.length ((trisM xs).drop (j + 1))) (tD (trisM xs) j).2.2 < 0)) := by
  obtain ⟨p, c, q, e, hc, hp, hq⟩ := colors_step hj
  have e : tD (trisM xs) j = triS p c q := e
  rw [e]
  generalize colF xs.length ((trisM xs).drop (j + 1)) = out at *
  rcases triS_six p c q with e | e | e | e | e | e <;> rw [e] <;> simp only <;> omega
def colC (k : Bool) : Con := mkCon [.room] (fun x => x.1.length ≤ 1048576) fun x => ⟨.one (.own 0 0), some ⟨t_int, (match k with | true => some (decide (trisM x.1 = [])) | false => none), .b .int, colorsM x.1⟩⟩
def icolC : Con := colC true
theorem col_none {xs : List Pt} (h : trisM xs = []) : colorsM xs = [] := by unfold colorsM; rw [h]; rfl
abbrev t3 (t : Tri) (k : Nat) : Int := [t.1, t.2.1, t.2.2].getD k 0
theorem tri_in0 {xs : List Pt} {k : Nat} (hk : k < (trisM xs).length) : 0 ≤ ((trisM xs).getD k (ElK.b ElB.tri).dflt).1 ∧ ((trisM xs).getD k (ElK.b ElB.tri).dflt).1 < ((trisM xs).getD k (ElK.b ElB.tri).dflt).2.1 ∧ ((trisM xs).getD k (ElK.b ElB.tri).dflt).2.1 < ((trisM xs).getD k (ElK.b ElB.tri).dflt).2.2 ∧ ((trisM xs).getD k (ElK.b ElB.tri).dflt).2.2 < xs.length := tri_in hk
theorem col_base {xs : List Pt} (h : (trisM xs).length ≠ 0) : colF xs.length ((trisM xs).drop ((trisM xs).length - 1)) = colBase xs.length ((trisM xs).getD (((trisM xs).length : Int) - 1).toNat (0, 0, 0)) := by
  rw [colF_last (fun e => h (by rw [e]; rfl)), show (((trisM xs).length : Int) - 1).toNat = (trisM xs).length - 1 by omega]
theorem q3_0 (a b c d : Int) : [a, b, c].getD 0 d = a := rfl
theorem q3_1 (a b c d : Int) : [a, b, c].getD 1 d = b := rfl
theorem q3_2 (a b c d : Int) : [a, b, c].getD 2 d = c := rfl
theorem m01 : (((0 : Nat) : Int) + 1).tmod 3 = 1 := rfl
theorem m02 : (((0 : Nat) : Int) + 2).tmod 3 = 2 := rfl
theorem m11 : (((1 : Nat) : Int) + 1).tmod 3 = 2 := rfl
theorem m12 : (((1 : Nat) : Int) + 2).tmod 3 = 0 := rfl
theorem m21 : (((2 : Nat) : Int) + 1).tmod 3 = 0 := rfl
theorem m22 : (((2 : Nat) : Int) + 2).tmod 3 = 1 := rfl
theorem z0 : Int.toNat 0 = 0 := rfl
theorem z1 : Int.toNat 1 = 1 := rfl
theorem z2 : Int.toNat 2 = 2 := rfl
abbrev tX (xs : List Pt) (j : Nat) : Tri := (trisM xs).getD j (ElK.b ElB.tri).dflt
abbrev cX (out : List Int) (x : Int) : Int := out.getD x.toNat (ElK.b ElB.int).dflt
structure StepX (out : List Int) (t : Tri) : Prop where
  v1 : -1 ≤ cX out t.1 ∧ cX out t.1 ≤ 2
  v2 : -1 ≤ cX out t.2.1 ∧ cX out t.2.1 ≤ 2
  v3 : -1 ≤ cX out t.2.2 ∧ cX out t.2.2 ≤ 2
  vo : (cX out t.1 < 0 ∧ 0 ≤ cX out t.2.1 ∧ 0 ≤ cX out t.2.2) ∨ (0 ≤ cX out t.1 ∧ cX out t.2.1 < 0 ∧ 0 ≤ cX out t.2.2) ∨ (0 ≤ cX out t.1 ∧ 0 ≤ cX out t.2.1 ∧ cX out t.2.2 < 0)
theorem stepCX {xs : List Pt} {j : Nat} (hj : j + 1 < (trisM xs).length) : StepX (colF xs.length ((trisM xs).drop (j + 1))) (tX xs j) := by
  obtain ⟨h1, h2, h3, h4⟩ := step_vals hj
  exact ⟨h1, h2, h3, h4⟩
theorem col0 {out : List Int} {t : Tri} (h : cI out t.1 < 0) : out.set t.1.toNat (3 - cI out t.2.1 - cI out t.2.2) = colStep out t := by unfold colStep; rw [if_pos h]
theorem col1 {out : List Int} {t : Tri} (h0 : 0 ≤ cI out t.1) (h : cI out t.2.1 < 0) : out.set t.2.1.toNat (3 - cI out t.2.2 - cI out t.1) = colStep out t := by unfold colStep; rw [if_neg (by omega), if_pos h]
theorem col2 {out : List Int} {t : Tri} (h0 : 0 ≤ cI out t.1) (h1 : 0 ≤ cI out t.2.1) (h : cI out t.2.2 < 0) : out.set t.2.2.toNat (3 - cI out t.1 - cI out t.2.1) = colStep out t := by unfold colStep; rw [if_neg (by omega), if_neg (by omega), if_pos h]
theorem w2 {A B : Int} (hA : -1 ≤ A ∧ A ≤ 2) (hB : -1 ≤ B ∧ B ≤ 2) : IntKind.i64.wrap (IntKind.i64.wrap (3 - A) - B) = 3 - A - B := by
  have e : IntKind.i64.wrap (3 - A) = 3 - A := W_in (by omega) (by omega)
  rw [e]
  exact W_in (by omega) (by omega)
theorem iColorsOf_ok : Good1 Try.prog n_impl_ColorsOf icolC := by
  refine good_ofG (tys := tyL) (env := [(n_impl_TrianglesOf, trisC), (n_slices_Repeat_int, repC)]) (envw := []) (envd := []) [19] [5, 27, 28, 30, 31, 33, 34, 80, 81, 90, 91] [] [] [] mixed tys ⟨iTrianglesOf_ok, repeat_ok, trivial⟩ trivial trivial Try.func57 rfl (by kernel_rfl) (by decide) (by kernel_rfl) ?_
  have hG_ := kpz [(0, [1]), (1, [1, 3]), (2, [1, 3, 14]), (3, [2]), (4, [3, 4]), (5, [3, 4, 5]), (6, [3, 4]), (7, [3, 4, 6]), (8, [3, 4, 6, 42]), (9, [3, 4, 6]), (10, [3, 4, 6, 7]), (11, [3, 4, 6, 7, 61, 62, 63]), (12, [3, 4, 6, 7, 61, 62, 63, 64]), (13, [3, 4, 6, 7, 8, 9, 61, 62, 63]), (14, [3, 4, 6, 7, 8, 9, 61, 62, 63, 72]), (15, [3, 4, 6]), (16, [3, 4, 6, 7, 61, 62, 63]), (17, [2])] [(4, [19]), (5, [5, 19]), (6, [19]), (7, [19]), (8, [19]), (9, [19]), (10, [19]), (11, [19]), (12, [19]), (13, [19]), (14, [19]), (15, [19]), (16, [19]), (17, [19])] [(5, [5])] []
  rintro ⟨(xs : List Pt), ⟨⟩⟩ (h1 : xs.length ≤ _)
  have htl := tris_len xs
  have h3 := tris_or xs
  have hlast : (trisM xs).length = 0 ∨ _ := (Nat.eq_zero_or_pos (trisM xs).length).imp id fun h => tri_in0 (xs := xs) (k := (((trisM xs).length : Int) - 1).toNat) (by omega)
  (repeat' (first | (with_reducible first | exact True.intro | refine zQ ?_ | (refine zG hG_ ?_; intro K_ hK_) | (refine zR ?_; intro K_ hK_) | (refine hK_ _ _ ?_; try clear hK_ K_) | refine sq_n ?_ | refine sq_r ?_ | refine sq_e ?_ | refine bq_n ?_ | refine bq_r ?_ | refine bq_q ?_ | refine zB ?_ | refine zX ?_ | refine zT ?_ | refine zK ?_ | refine gq_n ?_ | refine gq_r ?_ | refine gq_e ?_ | refine lq_n ?_ | refine lq_r ?_ | refine lq_e ?_ | refine bq_e (by decide) ?_) | ((with_reducible refine zC (b := ?b_) ?hb_ ?_ ?_); case hb_ => rfl) | ((conv => whnf); first | (with_reducible refine hK_ _ _ ?_; try clear hK_ K_) | (with_reducible refine fun (g_ : Sl) (o_ : Ow) => ?_) | (with_reducible first | exact True.intro | refine And.intro trivial ?_ | refine And.intro ?_ ?_) | exact Nat.le_of_ble_eq_true rfl | exact Or.inl rfl | (intro h_; cases h_) | (intro h_; (try simp only [vS1] at h_)) | rfl))) <;> (try (conv => whnf)) <;> (try first | change (_ : Int) ≤ _ | change (_ : Nat) ≤ _) <;> (try ((fail_if_success (with_reducible apply Exists.intro)); (try dsimp only); (try simp only [vS1]))) <;> (try simp (disch := omega) only [vS3, Int.add_sub_cancel, tn1, tnp, tnc, vS2] at *)
  all_goals (try (fail_if_success (with_reducible apply Exists.intro)); first | with_reducible assumption | omega | exact mdl (by omega) | exact ilo1 (by omega) | exact ilo2 (by omega) | exact ihi1 (by omega) (by omega) | exact ihi2 (by omega) (by omega))
  · exact col_none (List.eq_nil_of_length_eq_zero (by omega))
  · exact .inr (by rw [List.eq_nil_of_length_eq_zero (show (trisM xs).length = 0 by omega)]; rfl)
  have hne : (trisM xs).length ≠ 0 := by omega
  refine awp'_loopG (α := Nat) (fun m ver_ => [(6, dnV m)]) (fun m ver_ => [(4, 19, false, .row t_int (.b .int) (colF xs.length ((trisM xs).drop m)))]) (fun m ver_ => []) (fun m => m + 1 ≤ (trisM xs).length) (fun m => m) [3] [] ((trisM xs).length - 1) ?_
  conv => whnf
  refine ⟨⟨?inv1_, ?vals1_, ?own1_, ?fix1_⟩, ?body1_⟩
  case' vals1_ => (repeat' (first | (with_reducible first | exact True.intro | refine And.intro ?_ ?_ | refine Head.mk ?_ ?_ ?_ ?_) | ((conv => lhs; whnf); first | (with_reducible first | rfl | exact vInt_s (by omega)) | exact rfl) | ((conv => whnf); first | (with_reducible first | exact True.intro | refine And.intro ?_ ?_)))) <;> (try (conv => lhs; whnf))
  case' own1_ => (repeat' (first | (with_reducible first | exact True.intro | refine And.intro ?_ ?_ | refine Head.mk ?_ ?_ ?_ ?_) | ((conv => lhs; whnf); first | (with_reducible first | rfl | exact vInt_s (by omega)) | exact rfl) | ((conv => whnf); first | (with_reducible first | exact True.intro | refine And.intro ?_ ?_)))) <;> (try (conv => lhs; whnf))
  case' fix1_ => (repeat' (first | (with_reducible first | exact True.intro | refine And.intro ?_ ?_ | refine Head.mk ?_ ?_ ?_ ?_) | ((conv => lhs; whnf); first | (with_reducible first | rfl | exact vInt_s (by omega)) | exact rfl) | ((conv => whnf); first | (with_reducible first | exact True.intro | refine And.intro ?_ ?_)))) <;> (try (conv => lhs; whnf))
  · exact congrArg (Own.row _ _) (by rw [col_base hne]; rfl)
  · rw [← dnV_eq]; exact congrArg vInt (by omega)
  · omega
  rintro (_ | m) g_ o_ v_ hm
  · (repeat' (first | (with_reducible first | exact True.intro | refine zQ ?_ | (refine zG hG_ ?_; intro K_ hK_) | (refine zR ?_; intro K_ hK_) | (refine hK_ _ _ ?_; try clear hK_ K_) | refine sq_n ?_ | refine sq_r ?_ | refine sq_e ?_ | refine bq_n ?_ | refine bq_r ?_ | refine bq_q ?_ | refine zB ?_ | refine zX ?_ | refine zT ?_ | refine zK ?_ | refine gq_n ?_ | refine gq_r ?_ | refine gq_e ?_ | refine lq_n ?_ | refine lq_r ?_ | refine lq_e ?_ | refine bq_e (by decide) ?_) | ((with_reducible refine zC (b := ?b_) ?hb_ ?_ ?_); case hb_ => rfl) | ((conv => whnf); first | (with_reducible refine hK_ _ _ ?_; try clear hK_ K_) | (with_reducible refine fun (g_ : Sl) (o_ : Ow) => ?_) | (with_reducible first | exact True.intro | refine And.intro trivial ?_ | refine And.intro ?_ ?_) | exact Nat.le_of_ble_eq_true rfl | exact Or.inl rfl | (intro h_; cases h_) | (intro h_; (try simp only [vS1] at h_)) | rfl))) <;> (try (conv => whnf)) <;> (try first | change (_ : Int) ≤ _ | change (_ : Nat) ≤ _) <;> (try ((fail_if_success (with_reducible apply Exists.intro)); (try dsimp only); (try simp only [vS1]))) <;> (try simp (disch := omega) only [vS3, Int.add_sub_cancel, tn1, tnp, tnc, vS2] at *)
    all_goals (try (fail_if_success (with_reducible apply Exists.intro)); first | with_reducible assumption | omega | exact mdl (by omega) | exact ilo1 (by omega) | exact ilo2 (by omega) | exact ihi1 (by omega) (by omega) | exact ihi2 (by omega) (by omega))
    exact .inr ⟨congrArg some (decide_eq_false (fun e => hne (by rw [e]; rfl))), fun e => by have := colF_dlen (n := xs.length) (ts := trisM xs) (i := 0) (by omega); rw [List.drop_zero] at this; rw [show colF xs.length (trisM xs) = [] from e] at this; simp at this; omega⟩
  have hcl := colF_dlen (n := xs.length) (ts := trisM xs) (i := m + 1) (by omega)
  have hsx := stepCX (xs := xs) (j := m) (by omega)
  have hi := tri_in0 (xs := xs) (k := m) (by omega)
  have hstep : colF xs.length ((trisM xs).drop m) = colStep _ (tX xs m) := colF_step (n := xs.length) (ts := trisM xs) (i := m) (by omega)
  generalize colF xs.length ((trisM xs).drop (m + 1)) = out at *
  obtain ⟨hv1, hv2, hv3, hvo⟩ := hsx
  (repeat' (first | (with_reducible first | exact True.intro | refine zQ ?_ | (refine zG hG_ ?_; intro K_ hK_) | (refine zR ?_; intro K_ hK_) | (refine hK_ _ _ ?_; try clear hK_ K_) | refine sq_n ?_ | refine sq_r ?_ | refine sq_e ?_ | refine bq_n ?_ | refine bq_r ?_ | refine bq_q ?_ | refine zB ?_ | refine zX ?_ | refine zT ?_ | refine zK ?_ | refine gq_n ?_ | refine gq_r ?_ | refine gq_e ?_ | refine lq_n ?_ | refine lq_r ?_ | refine lq_e ?_ | refine bq_e (by decide) ?_) | ((with_reducible refine zC (b := ?b_) ?hb_ ?_ ?_); case hb_ => rfl) | ((conv => whnf); first | (with_reducible refine hK_ _ _ ?_; try clear hK_ K_) | (with_reducible refine fun (g_ : Sl) (o_ : Ow) => ?_) | (with_reducible first | exact True.intro | refine And.intro trivial ?_ | refine And.intro ?_ ?_) | exact Nat.le_of_ble_eq_true rfl | exact Or.inl rfl | (intro h_; cases h_) | (intro h_; (try simp only [vS1] at h_)) | rfl))) <;> (try (conv => whnf)) <;> (try first | change (_ : Int) ≤ _ | change (_ : Nat) ≤ _) <;> (try ((fail_if_success (with_reducible apply Exists.intro)); (try dsimp only); (try simp only [vS1]))) <;> (try simp (disch := omega) only [vS3, Int.add_sub_cancel, tn1, tnp, tnc, vS2] at *)
  all_goals (try (fail_if_success (with_reducible apply Exists.intro)); first | with_reducible assumption | omega | exact mdl (by omega) | exact ilo1 (by omega) | exact ilo2 (by omega) | exact ihi1 (by omega) (by omega) | exact ihi2 (by omega) (by omega))
  refine awp'_loopG (α := Nat) (fun k ver_ => [(63, vInt k)]) (fun k ver_ => []) (fun k ver_ => []) (fun k => k ≤ 3 ∧ ∀ j, j < k → 0 ≤ cI out (t3 (tX xs m) j)) (fun k => 3 - k) [3, 4, 6, 7, 61, 62] [19] (0) ?_
  conv => whnf
  refine ⟨⟨?inv2_, ?vals2_, ?own2_, ?fix2_⟩, ?body2_⟩
  case' vals2_ => (repeat' (first | (with_reducible first | exact True.intro | refine And.intro ?_ ?_ | refine Head.mk ?_ ?_ ?_ ?_) | ((conv => lhs; whnf); first | (with_reducible first | rfl | exact vInt_s (by omega)) | exact rfl) | ((conv => whnf); first | (with_reducible first | exact True.intro | refine And.intro ?_ ?_)))) <;> (try (conv => lhs; whnf))
  case' own2_ => (repeat' (first | (with_reducible first | exact True.intro | refine And.intro ?_ ?_ | refine Head.mk ?_ ?_ ?_ ?_) | ((conv => lhs; whnf); first | (with_reducible first | rfl | exact vInt_s (by omega)) | exact rfl) | ((conv => whnf); first | (with_reducible first | exact True.intro | refine And.intro ?_ ?_)))) <;> (try (conv => lhs; whnf))
  case' fix2_ => (repeat' (first | (with_reducible first | exact True.intro | refine And.intro ?_ ?_ | refine Head.mk ?_ ?_ ?_ ?_) | ((conv => lhs; whnf); first | (with_reducible first | rfl | exact vInt_s (by omega)) | exact rfl) | ((conv => whnf); first | (with_reducible first | exact True.intro | refine And.intro ?_ ?_)))) <;> (try (conv => lhs; whnf))
  · exact ⟨by omega, fun j hj => absurd hj (by omega)⟩
  rintro k g_ o_ v_ ⟨hk, hall⟩
  have hk4 : k = 0 ∨ k = 1 ∨ k = 2 ∨ k = 3 := by omega
  rcases hk4 with rfl | rfl | rfl | rfl
  · clear hall
    (repeat' (first | (with_reducible first | exact True.intro | refine zQ ?_ | (refine zG hG_ ?_; intro K_ hK_) | (refine zR ?_; intro K_ hK_) | (refine hK_ _ _ ?_; try clear hK_ K_) | refine sq_n ?_ | refine sq_r ?_ | refine sq_e ?_ | refine bq_n ?_ | refine bq_r ?_ | refine bq_q ?_ | refine zB ?_ | refine zX ?_ | refine zT ?_ | refine zK ?_ | refine gq_n ?_ | refine gq_r ?_ | refine gq_e ?_ | refine lq_n ?_ | refine lq_r ?_ | refine lq_e ?_ | refine bq_e (by decide) ?_) | ((with_reducible refine zC (b := ?b_) ?hb_ ?_ ?_); case hb_ => rfl) | ((conv => whnf); first | (with_reducible refine hK_ _ _ ?_; try clear hK_ K_) | (with_reducible refine fun (g_ : Sl) (o_ : Ow) => ?_) | (with_reducible first | exact True.intro | refine And.intro trivial ?_ | refine And.intro ?_ ?_) | exact Nat.le_of_ble_eq_true rfl | exact Or.inl rfl | (intro h_; cases h_) | (intro h_; (try simp only [vS1] at h_)) | rfl))) <;> (try (conv => whnf)) <;> (try first | change (_ : Int) ≤ _ | change (_ : Nat) ≤ _) <;> (try ((fail_if_success (with_reducible apply Exists.intro)); (try dsimp only); (try simp only [vS1]))) <;> (try simp (disch := omega) only [vS3, Int.add_sub_cancel, tn1, tnp, tnc, vS2] at *) <;> (try simp only [q3_0, q3_1, q3_2, m01, m02, z0, z1, z2] at *)
    all_goals (try (fail_if_success (with_reducible apply Exists.intro)); first | with_reducible assumption | omega | exact mdl (by omega) | exact ilo1 (by omega) | exact ilo2 (by omega) | exact ihi1 (by omega) (by omega) | exact ihi2 (by omega) (by omega))
    · refine ⟨m, by omega, by omega, ?_⟩
      (repeat' (first | (with_reducible first | exact True.intro | refine And.intro ?_ ?_ | refine Head.mk ?_ ?_ ?_ ?_) | ((conv => lhs; whnf); first | (with_reducible first | rfl | exact vInt_s (by omega)) | exact rfl) | ((conv => whnf); first | (with_reducible first | exact True.intro | refine And.intro ?_ ?_)))) <;> (try (conv => lhs; whnf))
      all_goals first
        | exact dnV_eq _
        | exact congrArg (Own.row t_int (.b .int)) ((congrArg (out.set _) (w2 hv2 hv3)).trans ((col0 (t := tX xs m) (by assumption)).trans hstep.symm))
    · refine ⟨1, by omega, ⟨by omega, fun j hj => ?_⟩, by (repeat' (first | (with_reducible first | exact True.intro | refine And.intro ?_ ?_ | refine Head.mk ?_ ?_ ?_ ?_) | ((conv => lhs; whnf); first | (with_reducible first | rfl | exact vInt_s (by omega)) | exact rfl) | ((conv => whnf); first | (with_reducible first | exact True.intro | refine And.intro ?_ ?_)))) <;> (try (conv => lhs; whnf))⟩
      obtain rfl : j = 0 := by omega
      exact Int.not_lt.1 (by assumption)
  · have h0 : 0 ≤ cX out (tX xs m).1 := hall 0 (by omega)
    clear hall
    (repeat' (first | (with_reducible first | exact True.intro | refine zQ ?_ | (refine zG hG_ ?_; intro K_ hK_) | (refine zR ?_; intro K_ hK_) | (refine hK_ _ _ ?_; try clear hK_ K_) | refine sq_n ?_ | refine sq_r ?_ | refine sq_e ?_ | refine bq_n ?_ | refine bq_r ?_ | refine bq_q ?_ | refine zB ?_ | refine zX ?_ | refine zT ?_ | refine zK ?_ | refine gq_n ?_ | refine gq_r ?_ | refine gq_e ?_ | refine lq_n ?_ | refine lq_r ?_ | refine lq_e ?_ | refine bq_e (by decide) ?_) | ((with_reducible refine zC (b := ?b_) ?hb_ ?_ ?_); case hb_ => rfl) | ((conv => whnf); first | (with_reducible refine hK_ _ _ ?_; try clear hK_ K_) | (with_reducible refine fun (g_ : Sl) (o_ : Ow) => ?_) | (with_reducible first | exact True.intro | refine And.intro trivial ?_ | refine And.intro ?_ ?_) | exact Nat.le_of_ble_eq_true rfl | exact Or.inl rfl | (intro h_; cases h_) | (intro h_; (try simp only [vS1] at h_)) | rfl))) <;> (try (conv => whnf)) <;> (try first | change (_ : Int) ≤ _ | change (_ : Nat) ≤ _) <;> (try ((fail_if_success (with_reducible apply Exists.intro)); (try dsimp only); (try simp only [vS1]))) <;> (try simp (disch := omega) only [vS3, Int.add_sub_cancel, tn1, tnp, tnc, vS2] at *) <;> (try simp only [q3_0, q3_1, q3_2, m11, m12, z0, z1, z2] at *)
    all_goals (try (fail_if_success (with_reducible apply Exists.intro)); first | with_reducible assumption | omega | exact mdl (by omega) | exact ilo1 (by omega) | exact ilo2 (by omega) | exact ihi1 (by omega) (by omega) | exact ihi2 (by omega) (by omega))
    · refine ⟨m, by omega, by omega, ?_⟩
      (repeat' (first | (with_reducible first | exact True.intro | refine And.intro ?_ ?_ | refine Head.mk ?_ ?_ ?_ ?_) | ((conv => lhs; whnf); first | (with_reducible first | rfl | exact vInt_s (by omega)) | exact rfl) | ((conv => whnf); first | (with_reducible first | exact True.intro | refine And.intro ?_ ?_)))) <;> (try (conv => lhs; whnf))
      all_goals first
        | exact dnV_eq _
        | exact congrArg (Own.row t_int (.b .int)) ((congrArg (out.set _) (w2 hv3 hv1)).trans ((col1 (t := tX xs m) h0 (by assumption)).trans hstep.symm))
    · refine ⟨2, by omega, ⟨by omega, fun j hj => ?_⟩, by (repeat' (first | (with_reducible first | exact True.intro | refine And.intro ?_ ?_ | refine Head.mk ?_ ?_ ?_ ?_) | ((conv => lhs; whnf); first | (with_reducible first | rfl | exact vInt_s (by omega)) | exact rfl) | ((conv => whnf); first | (with_reducible first | exact True.intro | refine And.intro ?_ ?_)))) <;> (try (conv => lhs; whnf))⟩
      have : j = 0 ∨ j = 1 := by omega
      rcases this with rfl | rfl
      · exact h0
      · exact Int.not_lt.1 (by assumption)
  · have h0 : 0 ≤ cX out (tX xs m).1 := hall 0 (by omega)
    have h1 : 0 ≤ cX out (tX xs m).2.1 := hall 1 (by omega)
    have h2 : cX out (tX xs m).2.2 < 0 := by omega
    clear hall
    (repeat' (first | (with_reducible first | exact True.intro | refine zQ ?_ | (refine zG hG_ ?_; intro K_ hK_) | (refine zR ?_; intro K_ hK_) | (refine hK_ _ _ ?_; try clear hK_ K_) | refine sq_n ?_ | refine sq_r ?_ | refine sq_e ?_ | refine bq_n ?_ | refine bq_r ?_ | refine bq_q ?_ | refine zB ?_ | refine zX ?_ | refine zT ?_ | refine zK ?_ | refine gq_n ?_ | refine gq_r ?_ | refine gq_e ?_ | refine lq_n ?_ | refine lq_r ?_ | refine lq_e ?_ | refine bq_e (by decide) ?_) | ((with_reducible refine zC (b := ?b_) ?hb_ ?_ ?_); case hb_ => rfl) | ((conv => whnf); first | (with_reducible refine hK_ _ _ ?_; try clear hK_ K_) | (with_reducible refine fun (g_ : Sl) (o_ : Ow) => ?_) | (with_reducible first | exact True.intro | refine And.intro trivial ?_ | refine And.intro ?_ ?_) | exact Nat.le_of_ble_eq_true rfl | exact Or.inl rfl | (intro h_; cases h_) | (intro h_; (try simp only [vS1] at h_)) | rfl))) <;> (try (conv => whnf)) <;> (try first | change (_ : Int) ≤ _ | change (_ : Nat) ≤ _) <;> (try ((fail_if_success (with_reducible apply Exists.intro)); (try dsimp only); (try simp only [vS1]))) <;> (try simp (disch := omega) only [vS3, Int.add_sub_cancel, tn1, tnp, tnc, vS2] at *) <;> (try simp only [q3_0, q3_1, q3_2, m21, m22, z0, z1, z2] at *)
    all_goals (try (fail_if_success (with_reducible apply Exists.intro)); first | with_reducible assumption | omega | exact mdl (by omega) | exact ilo1 (by omega) | exact ilo2 (by omega) | exact ihi1 (by omega) (by omega) | exact ihi2 (by omega) (by omega))
    · refine ⟨m, by omega, by omega, ?_⟩
      (repeat' (first | (with_reducible first | exact True.intro | refine And.intro ?_ ?_ | refine Head.mk ?_ ?_ ?_ ?_) | ((conv => lhs; whnf); first | (with_reducible first | rfl | exact vInt_s (by omega)) | exact rfl) | ((conv => whnf); first | (with_reducible first | exact True.intro | refine And.intro ?_ ?_)))) <;> (try (conv => lhs; whnf))
      all_goals first
        | exact dnV_eq _
        | exact congrArg (Own.row t_int (.b .int)) ((congrArg (out.set _) (w2 hv1 hv2)).trans ((col2 (t := tX xs m) h0 h1 (by assumption)).trans hstep.symm))
    · exact absurd h2 (by assumption)
  · have h0 : 0 ≤ cX out (tX xs m).1 := hall 0 (by omega)
    have h1 : 0 ≤ cX out (tX xs m).2.1 := hall 1 (by omega)
    have h2 : 0 ≤ cX out (tX xs m).2.2 := hall 2 (by omega)
    omega
def cntV (l : List Int) (k : Nat) (c : Int) : Int := ((l.take k).countP fun x => decide (x = c) : Nat)
def cnts (l : List Int) (k : Nat) : List Int := [cntV l k 0, cntV l k 1, cntV l k 2]
theorem cntV_succ {l : List Int} {k : Nat} (h : k < l.length) (c : Int) : cntV l (k + 1) c = if l.getD k 0 = c then cntV l k c + 1 else cntV l k c := by
  unfold cntV
  rw [List.take_add_one, List.getElem?_eq_getElem h, List.countP_append, show l.getD k 0 = l[k] from getD_lt _ h]
  by_cases e : l[k] = c
  · rw [if_pos e]; simp [e]
  · rw [if_neg e]; simp [e]
theorem cntV_bd (l : List Int) (k : Nat) (c : Int) : 0 ≤ cntV l k c ∧ cntV l k c ≤ k := by
  unfold cntV
  have := List.countP_le_length (p := fun x => decide (x = c)) (l := l.take k)
  have h2 : (l.take k).length ≤ k := List.length_take_le _ _
  omega
theorem cnts_step {l : List Int} {k : Nat} (h : k < l.length) (hc : 0 ≤ l.getD k 0 ∧ l.getD k 0 ≤ 2) : (cnts l k).set (l.getD k 0).toNat ((cnts l k).getD (l.getD k 0).toNat 0 + 1) = cnts l (k + 1) := by
  unfold cnts
  rw [cntV_succ h, cntV_succ h, cntV_succ h]
  generalize l.getD k 0 = c at hc ⊢
  have : c = 0 ∨ c = 1 ∨ c = 2 := by omega
  rcases this with rfl | rfl | rfl <;> simp
theorem cnts_len3 (l : List Int) (k : Nat) : (cnts l k).length = 3 := rfl
theorem cnts_bd (l : List Int) (k j : Nat) : 0 ≤ (cnts l k).getD j 0 ∧ (cnts l k).getD j 0 ≤ k := by
  unfold cnts
  have h0 := cntV_bd l k 0
  have h1 := cntV_bd l k 1
  have h2 := cntV_bd l k 2
  match j with
  | 0 => exact h0
  | 1 => exact h1
  | 2 => exact h2
  | j + 3 => simp
theorem cnts_step2 {l : List Int} {k : Nat} (h : k < l.length) (hl : l.length ≤ 12) (hc : 0 ≤ l.getD k 0 ∧ l.getD k 0 ≤ 2) : (cnts l k).set (l.getD k 0).toNat (IntKind.i64.wrap ((cnts l k).getD (l.getD k 0).toNat 0 + 1)) = cnts l (k + 1) := by
  have := cnts_bd l k (l.getD k 0).toNat
  rw [W_in (by omega) (by omega)]
  exact cnts_step h hc
def countsM (xs : List Pt) : List Int := if trisM xs = [] then [] else cnts (colorsM xs) (colorsM xs).length
theorem counts_no {xs : List Pt} (h : trisM xs = []) : countsM xs = [] := if_pos h
theorem counts_yes {xs : List Pt} (h : trisM xs ≠ []) : countsM xs = cnts (colorsM xs) (colorsM xs).length := if_neg h
def cntCo (k : Bool) : Con := mkCon [.room] (fun x => x.1.length ≤ 1048576) fun x => ⟨.one (.own 0 0), some ⟨t_int, (match k with | true => some (decide (trisM x.1 = [])) | false => none), .b .int, countsM x.1⟩⟩
def icntC : Con := cntCo true
theorem col_at {xs : List Pt} {k : Nat} (h : k < (colorsM xs).length) : 0 ≤ (colorsM xs).getD k (ElK.b ElB.int).dflt ∧ (colorsM xs).getD k (ElK.b ElB.int).dflt ≤ 2 := by
  have := colors_bd (xs := xs) (x := (colorsM xs)[k]) (List.getElem_mem h)
  rwa [show (colorsM xs).getD k (ElK.b ElB.int).dflt = (colorsM xs)[k] from getD_lt _ h]
theorem col_len12 (xs : List Pt) : (colorsM xs).length ≤ 12 := by
  rcases tris_cutd xs with e | ⟨hr, hd⟩
  · rw [col_none e]; simp
  · rw [colors_len hd.ne]; have := (room_len hr).2; omega
theorem iColorCounts_ok : Good1 Try.prog n_impl_ColorCounts icntC := by
  refine good_ofG (tys := tyL) (env := [(n_impl_ColorsOf, icolC)]) (envw := []) (envd := []) [11] [] [] [] [] mixed tys ⟨iColorsOf_ok, trivial⟩ trivial trivial Try.func58 rfl (by kernel_rfl) (by decide) (by kernel_rfl) ?_
  have hG_ := kpz [(0, [1]), (1, [3]), (2, [3, 10]), (3, [2]), (4, [3, 4]), (5, [4, 12, 13, 14]), (6, [4, 12, 13, 14, 15]), (7, [4, 6, 12, 13, 14]), (8, [4, 12, 13, 14]), (9, [4, 12, 13, 14]), (10, [2])] [(4, [11]), (5, [11]), (6, [11]), (7, [11]), (8, [11]), (9, [11]), (10, [11])] [] []
  rintro ⟨(xs : List Pt), ⟨⟩⟩ (h1 : xs.length ≤ _)
  have hcl := col_len12 xs
  (repeat' (first | (with_reducible first | exact True.intro | refine zQ ?_ | (refine zG hG_ ?_; intro K_ hK_) | (refine zR ?_; intro K_ hK_) | (refine hK_ _ _ ?_; try clear hK_ K_) | refine sq_n ?_ | refine sq_r ?_ | refine sq_e ?_ | refine bq_n ?_ | refine bq_r ?_ | refine bq_q ?_ | refine zB ?_ | refine zX ?_ | refine zT ?_ | refine zK ?_ | refine gq_n ?_ | refine gq_r ?_ | refine gq_e ?_ | refine lq_n ?_ | refine lq_r ?_ | refine lq_e ?_ | refine bq_e (by decide) ?_) | ((with_reducible refine zC (b := ?b_) ?hb_ ?_ ?_); case hb_ => rfl) | ((conv => whnf); first | (with_reducible refine hK_ _ _ ?_; try clear hK_ K_) | (with_reducible refine fun (g_ : Sl) (o_ : Ow) => ?_) | (with_reducible first | exact True.intro | refine And.intro trivial ?_ | refine And.intro ?_ ?_) | exact Nat.le_of_ble_eq_true rfl | exact Or.inl rfl | (intro h_; cases h_) | (intro h_; (try simp only [vS1] at h_)) | rfl))) <;> (try (conv => whnf)) <;> (try first | change (_ : Int) ≤ _ | change (_ : Nat) ≤ _) <;> (try ((fail_if_success (with_reducible apply Exists.intro)); (try dsimp only); (try simp only [vS1]))) <;> (try simp (disch := omega) only [vS3, Int.add_sub_cancel, tn1, tnp, tnc, vS2] at *)
  all_goals (try (fail_if_success (with_reducible apply Exists.intro)); first | with_reducible assumption | omega | exact mdl (by omega) | exact ilo1 (by omega) | exact ilo2 (by omega) | exact ihi1 (by omega) (by omega) | exact ihi2 (by omega) (by omega))
  · exact counts_no h_
  · exact .inr (by rw [h_]; rfl)
  have hne : trisM xs ≠ [] := h_
  refine awp'_loopG (α := Nat) (fun k ver_ => [(14, vInt k)]) (fun k ver_ => [(4, 11, false, .row t_int (.b .int) (cnts (colorsM xs) k))]) (fun k ver_ => []) (fun k => k ≤ (colorsM xs).length) (fun k => (colorsM xs).length - k) [12, 13] [] (0) ?_
  conv => whnf
  refine ⟨⟨?inv3_, ?vals3_, ?own3_, ?fix3_⟩, ?body3_⟩
  case' vals3_ => (repeat' (first | (with_reducible first | exact True.intro | refine And.intro ?_ ?_ | refine Head.mk ?_ ?_ ?_ ?_) | ((conv => lhs; whnf); first | (with_reducible first | rfl | exact vInt_s (by omega)) | exact rfl) | ((conv => whnf); first | (with_reducible first | exact True.intro | refine And.intro ?_ ?_)))) <;> (try (conv => lhs; whnf))
  case' own3_ => (repeat' (first | (with_reducible first | exact True.intro | refine And.intro ?_ ?_ | refine Head.mk ?_ ?_ ?_ ?_) | ((conv => lhs; whnf); first | (with_reducible first | rfl | exact vInt_s (by omega)) | exact rfl) | ((conv => whnf); first | (with_reducible first | exact True.intro | refine And.intro ?_ ?_)))) <;> (try (conv => lhs; whnf))
  case' fix3_ => (repeat' (first | (with_reducible first | exact True.intro | refine And.intro ?_ ?_ | refine Head.mk ?_ ?_ ?_ ?_) | ((conv => lhs; whnf); first | (with_reducible first | rfl | exact vInt_s (by omega)) | exact rfl) | ((conv => whnf); first | (with_reducible first | exact True.intro | refine And.intro ?_ ?_)))) <;> (try (conv => lhs; whnf))
  · exact Nat.zero_le _
  rintro k g_ o_ v_ hk
  have hcn : (cnts (colorsM xs) k).length = 3 := rfl
  (repeat' (first | (with_reducible first | exact True.intro | refine zQ ?_ | (refine zG hG_ ?_; intro K_ hK_) | (refine zR ?_; intro K_ hK_) | (refine hK_ _ _ ?_; try clear hK_ K_) | refine sq_n ?_ | refine sq_r ?_ | refine sq_e ?_ | refine bq_n ?_ | refine bq_r ?_ | refine bq_q ?_ | refine zB ?_ | refine zX ?_ | refine zT ?_ | refine zK ?_ | refine gq_n ?_ | refine gq_r ?_ | refine gq_e ?_ | refine lq_n ?_ | refine lq_r ?_ | refine lq_e ?_ | refine bq_e (by decide) ?_) | ((with_reducible refine zC (b := ?b_) ?hb_ ?_ ?_); case hb_ => rfl) | ((conv => whnf); first | (with_reducible refine hK_ _ _ ?_; try clear hK_ K_) | (with_reducible refine fun (g_ : Sl) (o_ : Ow) => ?_) | (with_reducible first | exact True.intro | refine And.intro trivial ?_ | refine And.intro ?_ ?_) | exact Nat.le_of_ble_eq_true rfl | exact Or.inl rfl | (intro h_; cases h_) | (intro h_; (try simp only [vS1] at h_)) | rfl))) <;> (try (conv => whnf)) <;> (try first | change (_ : Int) ≤ _ | change (_ : Nat) ≤ _) <;> (try ((fail_if_success (with_reducible apply Exists.intro)); (try dsimp only); (try simp only [vS1]))) <;> (try simp (disch := omega) only [vS3, Int.add_sub_cancel, tn1, tnp, tnc, vS2] at *)
  all_goals (try (fail_if_success (with_reducible apply Exists.intro)); first | with_reducible assumption | omega | exact mdl (by omega) | exact ilo1 (by omega) | exact ilo2 (by omega) | exact ihi1 (by omega) (by omega) | exact ihi2 (by omega) (by omega))
  all_goals (try (have hca := col_at (xs := xs) (k := k) (by assumption)))
  all_goals (try (have hcb := cnts_bd (colorsM xs) k ((colorsM xs).getD k (ElK.b ElB.int).dflt).toNat))
  all_goals (try (first | with_reducible assumption | omega))
  · refine ⟨k + 1, by omega, by omega, ?_⟩
    (repeat' (first | (with_reducible first | exact True.intro | refine And.intro ?_ ?_ | refine Head.mk ?_ ?_ ?_ ?_) | ((conv => lhs; whnf); first | (with_reducible first | rfl | exact vInt_s (by omega)) | exact rfl) | ((conv => whnf); first | (with_reducible first | exact True.intro | refine And.intro ?_ ?_)))) <;> (try (conv => lhs; whnf))
    all_goals first
      | exact congrArg (Own.row t_int (.b .int)) (cnts_step2 (by assumption) hcl hca)
      | exact congrArg (Own.row t_int (.b .int)) (cnts_step (by assumption) hca)
      | skip
  · exact congrArg some (show cnts _ _ = _ by rw [counts_yes hne, show k = (colorsM xs).length by omega])
  · exact .inr ⟨congrArg some (decide_eq_false hne), fun e => by have := congrArg List.length e; rw [counts_yes hne, cnts_len3] at this; simp at this⟩
def rarTo (cs : List Int) : Nat → Int
  | 0 => 0
  | k + 1 => if cs.getD (k + 1) 0 < cs.getD (rarTo cs k).toNat 0 then (k : Int) + 1 else rarTo cs k
theorem idx_min (a b c : Int) : idxOf [a, b, c] (minTo [a, b, c] 2) = rarTo [a, b, c] 2 := by
  have hm : minTo [a, b, c] 2 = min (min a b) c := rfl
  have h0 : rarTo [a, b, c] 1 = if b < a then 1 else 0 := rfl
  have hr : rarTo [a, b, c] 2 = if c < [a, b, c].getD (rarTo [a, b, c] 1).toNat 0 then 2 else rarTo [a, b, c] 1 := rfl
  rw [hm, hr, h0]
  by_cases h1 : b < a
  · rw [if_pos h1]
    show idxOf _ _ = if c < b then 2 else 1
    by_cases h2 : c < b
    · rw [if_pos h2]
      exact idx_some (i := 2) (by simp) (show c = _ by omega) fun j hj => by
        match j, hj with
        | 0, _ => show a ≠ _; omega
        | 1, _ => show b ≠ _; omega
    · rw [if_neg h2]
      exact idx_some (i := 1) (by simp) (show b = _ by omega) fun j hj => by
        match j, hj with
        | 0, _ => show a ≠ _; omega
  · rw [if_neg h1]
    show idxOf _ _ = if c < a then 2 else 0
    by_cases h2 : c < a
    · rw [if_pos h2]
      exact idx_some (i := 2) (by simp) (show c = _ by omega) fun j hj => by
        match j, hj with
        | 0, _ => show a ≠ _; omega
        | 1, _ => show b ≠ _; omega
    · rw [if_neg h2]
      exact idx_some (i := 0) (by simp) (show a = _ by omega) fun j hj => absurd hj (by omega)
def rarestM (xs : List Pt) : Int := if trisM xs = [] then -1 else rarTo (countsM xs) 2
def rarC : Con := mkCon [.room] (fun x => x.1.length ≤ 1048576) fun x => vI (rarestM x.1)
theorem rar_idx {xs : List Pt} (h : trisM xs ≠ []) : idxOf (countsM xs) (minTo (countsM xs) ((countsM xs).length - 1)) = rarestM xs := by
  unfold rarestM
  rw [if_neg h, counts_yes h]
  exact idx_min _ _ _
theorem counts_len {xs : List Pt} : (trisM xs = [] ∧ (countsM xs).length = 0) ∨ (trisM xs ≠ [] ∧ (countsM xs).length = 3) := by
  by_cases h : trisM xs = []
  · exact .inl ⟨h, by rw [counts_no h]; rfl⟩
  · exact .inr ⟨h, by rw [counts_yes h]; rfl⟩
theorem iRarestColor_ok : Good1 Try.prog n_impl_RarestColor rarC := by
  refine good_ofG (tys := tyL) (env := [(n_impl_ColorCounts, icntC), (n_slices_Min_int, minC), (n_slices_Index_int, idxC)]) (envw := []) (envd := []) [] [] [] [] [] mixed tys ⟨iColorCounts_ok, slMin_ok, slIndex_ok, trivial⟩ trivial trivial Try.func59 rfl (by kernel_rfl) (by decide) (by kernel_rfl) ?_
  have hG_ := kpz [(0, [1]), (1, [3]), (2, [3, 7]), (3, [2]), (4, [2])] [] [] []
  rintro ⟨(xs : List Pt), ⟨⟩⟩ (h1 : xs.length ≤ _)
  have hcl := counts_len (xs := xs)
  (repeat' (first | (with_reducible first | exact True.intro | refine zQ ?_ | (refine zG hG_ ?_; intro K_ hK_) | (refine zR ?_; intro K_ hK_) | (refine hK_ _ _ ?_; try clear hK_ K_) | refine sq_n ?_ | refine sq_r ?_ | refine sq_e ?_ | refine bq_n ?_ | refine bq_r ?_ | refine bq_q ?_ | refine zB ?_ | refine zX ?_ | refine zT ?_ | refine zK ?_ | refine gq_n ?_ | refine gq_r ?_ | refine gq_e ?_ | refine lq_n ?_ | refine lq_r ?_ | refine lq_e ?_ | refine bq_e (by decide) ?_) | ((with_reducible refine zC (b := ?b_) ?hb_ ?_ ?_); case hb_ => rfl) | ((conv => whnf); first | (with_reducible refine hK_ _ _ ?_; try clear hK_ K_) | (with_reducible refine fun (g_ : Sl) (o_ : Ow) => ?_) | (with_reducible first | exact True.intro | refine And.intro trivial ?_ | refine And.intro ?_ ?_) | exact Nat.le_of_ble_eq_true rfl | exact Or.inl rfl | (intro h_; cases h_) | (intro h_; (try simp only [vS1] at h_)) | rfl))) <;> (try (conv => whnf)) <;> (try first | change (_ : Int) ≤ _ | change (_ : Nat) ≤ _) <;> (try ((fail_if_success (with_reducible apply Exists.intro)); (try dsimp only); (try simp only [vS1]))) <;> (try simp (disch := omega) only [vS3, Int.add_sub_cancel, tn1, tnp, tnc, vS2] at *)
  all_goals (try (fail_if_success (with_reducible apply Exists.intro)); first | with_reducible assumption | omega | exact mdl (by omega) | exact ilo1 (by omega) | exact ilo2 (by omega) | exact ihi1 (by omega) (by omega) | exact ihi2 (by omega) (by omega))
  · unfold rarestM; rw [if_pos h_]
  · rcases hcl with ⟨h2, -⟩ | ⟨-, h2⟩
    · exact absurd h2 h_
    · show 1 ≤ _; omega
  · exact rar_idx h_
theorem cnt3 : ∀ (l : List Int), (∀ x ∈ l, 0 ≤ x ∧ x ≤ 2) → (l.countP fun x => decide (x = 0)) + (l.countP fun x => decide (x = 1)) + (l.countP fun x => decide (x = 2)) = l.length
  | [], _ => rfl
  | x :: l, h => by
    have ih := cnt3 l fun y hy => h y (List.mem_cons_of_mem _ hy)
    have hx := h x List.mem_cons_self
    simp only [List.countP_cons, List.length_cons]
    rcases (show x = 0 ∨ x = 1 ∨ x = 2 by omega) with e | e | e <;> simp [e] <;> omega
structure ColX (xs : List Pt) (A B C c m : Int) : Prop where
  cs : countsM xs = [A, B, C]
  rar : rarestM xs = c
  a : 0 ≤ A ∧ A ≤ 10
  b : 0 ≤ B ∧ B ≤ 10
  d : 0 ≤ C ∧ C ≤ 10
  sum : A + B + C = xs.length
  c0 : 0 ≤ c
  c2 : c ≤ 2
  at_ : [A, B, C].getD c.toNat 0 = m
  le : m ≤ A ∧ m ≤ B ∧ m ≤ C
theorem colX {xs : List Pt} (hr : roomOk xs = true) : ∃ A B C c m, ColX xs A B C c m := by
  have hne := Geo.tris_ne hr
  have hl := colors_len hne
  have hlr := room_len hr
  have hs := cnt3 (colorsM xs) fun x hx => colors_bd hx
  have e : countsM xs = [cntV (colorsM xs) (colorsM xs).length 0, cntV (colorsM xs) (colorsM xs).length 1, cntV (colorsM xs) (colorsM xs).length 2] := counts_yes hne
  have v : ∀ c, cntV (colorsM xs) (colorsM xs).length c = ((colorsM xs).countP fun x => decide (x = c) : Nat) := fun c => by unfold cntV; rw [List.take_length]
  rw [v, v, v] at e
  have hra : rarestM xs = rarTo (countsM xs) 2 := by unfold rarestM; rw [if_neg hne]
  rw [e] at hra
  generalize ((colorsM xs).countP fun x => decide (x = 0) : Nat) = A at *
  generalize ((colorsM xs).countP fun x => decide (x = 1) : Nat) = B at *
  generalize ((colorsM xs).countP fun x => decide (x = 2) : Nat) = C at *
  have h0 : rarTo [(A : Int), B, C] 1 = if (B : Int) < A then 1 else 0 := rfl
  have h2 : rarTo [(A : Int), B, C] 2 = if (C : Int) < [(A : Int), B, C].getD (rarTo [(A : Int), B, C] 1).toNat 0 then 2 else rarTo [(A : Int), B, C] 1 := rfl
  have key : 0 ≤ rarestM xs ∧ rarestM xs ≤ 2 ∧ [(A : Int), B, C].getD (rarestM xs).toNat 0 ≤ A ∧ [(A : Int), B, C].getD (rarestM xs).toNat 0 ≤ B ∧ [(A : Int), B, C].getD (rarestM xs).toNat 0 ≤ C := by
    rw [hra, h2, h0]
    by_cases g : (B : Int) < A
    · rw [if_pos g]
      by_cases g2 : (C : Int) < B
      · rw [if_pos (show (C : Int) < [(A : Int), B, C].getD (Int.toNat 1) 0 from g2)]
        exact ⟨by decide, by decide, show (C : Int) ≤ A ∧ (C : Int) ≤ B ∧ (C : Int) ≤ C by omega⟩
      · rw [if_neg (show ¬ (C : Int) < [(A : Int), B, C].getD (Int.toNat 1) 0 from g2)]
        exact ⟨by decide, by decide, show (B : Int) ≤ A ∧ (B : Int) ≤ B ∧ (B : Int) ≤ C by omega⟩
    · rw [if_neg g]
      by_cases g2 : (C : Int) < A
      · rw [if_pos (show (C : Int) < [(A : Int), B, C].getD (Int.toNat 0) 0 from g2)]
        exact ⟨by decide, by decide, show (C : Int) ≤ A ∧ (C : Int) ≤ B ∧ (C : Int) ≤ C by omega⟩
      · rw [if_neg (show ¬ (C : Int) < [(A : Int), B, C].getD (Int.toNat 0) 0 from g2)]
        exact ⟨by decide, by decide, show (A : Int) ≤ A ∧ (A : Int) ≤ B ∧ (A : Int) ≤ C by omega⟩
  exact ⟨A, B, C, rarestM xs, [(A : Int), B, C].getD (rarestM xs).toNat 0, e, rfl, by omega, by omega, by omega, by omega, key.1, key.2.1, rfl, key.2.2⟩
structure ColF (xs : List Pt) : Prop where
  len : (countsM xs).length = 3
  c0 : 0 ≤ rarestM xs
  c2 : rarestM xs ≤ 2
  sum : IntKind.i64.wrap (IntKind.i64.wrap ((countsM xs).getD 0 (ElK.b ElB.int).dflt + (countsM xs).getD (Int.toNat 1) (ElK.b ElB.int).dflt) + (countsM xs).getD (Int.toNat 2) (ElK.b ElB.int).dflt) = xs.length
  third : IntKind.i64.wrap (3 * (countsM xs).getD (rarestM xs).toNat (ElK.b ElB.int).dflt) ≤ xs.length
  l0 : (countsM xs).getD (rarestM xs).toNat (ElK.b ElB.int).dflt ≤ (countsM xs).getD 0 (ElK.b ElB.int).dflt
  l1 : (countsM xs).getD (rarestM xs).toNat (ElK.b ElB.int).dflt ≤ (countsM xs).getD (Int.toNat 1) (ElK.b ElB.int).dflt
  l2 : (countsM xs).getD (rarestM xs).toNat (ElK.b ElB.int).dflt ≤ (countsM xs).getD (Int.toNat 2) (ElK.b ElB.int).dflt
theorem colFacts {xs : List Pt} (hr : roomOk xs = true) : ColF xs := by
  obtain ⟨A, B, C, c, m, h⟩ := colX hr
  have hl := room_len hr
  obtain ⟨e, ec, ha, hb, hd, hs, h0, h2, hm, hle⟩ := h
  refine ⟨?_, ?_, ?_, ?_, ?_, ?_, ?_, ?_⟩
  · rw [e]; rfl
  · omega
  · omega
  · rw [e]
    show IntKind.i64.wrap (IntKind.i64.wrap (A + B) + C) = _
    rw [W_in (n := A + B) (by omega) (by omega), W_in (by omega) (by omega)]; exact hs
  · rw [e, ec]
    have hm : [A, B, C].getD c.toNat (ElK.b ElB.int).dflt = m := hm
    rw [hm]
    show IntKind.i64.wrap (3 * m) ≤ _
    have : 0 ≤ m := by
      rcases (show c = 0 ∨ c = 1 ∨ c = 2 by omega) with q | q | q <;> subst q <;> (rw [← hm]; first | exact ha.1 | exact hb.1 | exact hd.1)
    rw [W_in (by omega) (by omega)]; omega
  · rw [e, ec]
    exact Int.le_trans (Int.le_of_eq hm) hle.1
  · rw [e, ec]
    exact Int.le_trans (Int.le_of_eq hm) hle.2.1
  · rw [e, ec]
    exact Int.le_trans (Int.le_of_eq hm) hle.2.2
theorem areCol_yes {xs : List Pt} (hr : roomOk xs = true) : areColM xs (colorsM xs) = true := by
  rw [areCol_iff]
  refine ⟨Geo.tris_ne hr, by rw [colors_len (Geo.tris_ne hr)], fun k hk => ?_, fun k hk => ?_⟩
  · rw [btw_iff, getD_lt _ hk]
    have := colors_bd (xs := xs) (List.getElem_mem hk)
    omega
  · rw [getD_lt _ hk]
    exact colors_dif hr _ (List.getElem_mem hk)
theorem fnColors_ok : Good1 Try.prog n_laws_FnColors (lawCon [.sl (.b .u8)]) := by
  refine good_ofG (tys := tyL) (env := [(n_laws_big, bigC), (n_spec_DrawRoom, drawRoomC), (n_impl_ColorsOf, icolC), (n_impl_ColorCounts, icntC), (n_impl_RarestColor, rarC), (n_impl_AreColors, areColC)]) (envw := []) (envd := []) [] [] [] [] [] mixed tys ⟨big_ok, drawRoom_ok, iColorsOf_ok, iColorCounts_ok, iRarestColor_ok, iAreColors_ok, trivial⟩ trivial trivial Try.func10 rfl (by kernel_rfl) (by decide) (by kernel_rfl) ?_
  have hG_ := kpz [(0, [0]), (1, [0, 8]), (2, [2]), (3, [3]), (4, [3, 4]), (5, [3, 4, 5]), (6, [3, 4, 5, 6]), (7, [3, 5, 6, 33]), (8, [2]), (9, [2])] [(3, [3]), (4, [3]), (5, [3]), (6, [3]), (7, [3])] [] []
  rintro ⟨(bs : List Int), ⟨⟩⟩ ⟨(h0 : bs.length ≤ _), -⟩
  have hr := drawRoom_room bs
  have hl := room_len hr
  have hF := colFacts hr
  have hac := areCol_yes hr
  have hcl := colors_len (Geo.tris_ne hr)
  (repeat' (first | (with_reducible first | exact True.intro | refine zQ ?_ | (refine zG hG_ ?_; intro K_ hK_) | (refine zR ?_; intro K_ hK_) | (refine hK_ _ _ ?_; try clear hK_ K_) | refine sq_n ?_ | refine sq_r ?_ | refine sq_e ?_ | refine bq_n ?_ | refine bq_r ?_ | refine bq_q ?_ | refine zB ?_ | refine zX ?_ | refine zT ?_ | refine zK ?_ | refine gq_n ?_ | refine gq_r ?_ | refine gq_e ?_ | refine lq_n ?_ | refine lq_r ?_ | refine lq_e ?_ | refine bq_e (by decide) ?_) | ((with_reducible refine zC (b := ?b_) ?hb_ ?_ ?_); case hb_ => rfl) | ((conv => whnf); first | (with_reducible refine hK_ _ _ ?_; try clear hK_ K_) | (with_reducible refine fun (g_ : Sl) (o_ : Ow) => ?_) | (with_reducible first | exact True.intro | refine And.intro trivial ?_ | refine And.intro ?_ ?_) | exact Nat.le_of_ble_eq_true rfl | exact Or.inl rfl | (intro h_; cases h_) | (intro h_; (try simp only [vS1] at h_)) | rfl))) <;> (try (conv => whnf)) <;> (try first | change (_ : Int) ≤ _ | change (_ : Nat) ≤ _) <;> (try ((fail_if_success (with_reducible apply Exists.intro)); (try dsimp only); (try simp only [vS1]))) <;> (try simp (disch := omega) only [vS3, Int.add_sub_cancel, tn1, tnp, tnc, vS2] at *)
  all_goals (try ((fail_if_success (with_reducible apply Exists.intro)); first | with_reducible assumption | omega))
  all_goals first
    | exact absurd (congrArg Int.ofNat hF.len) (by assumption)
    | (have := hF.c0; have := hF.c2; omega)
    | (rw [hcl]; omega)
    | exact absurd (hac.symm.trans (by assumption)) (by decide)
    | exact hF.l0
    | exact hF.l1
    | exact hF.l2
    | exact absurd hF.l0 (by assumption)
    | exact absurd hF.l1 (by assumption)
    | exact absurd hF.l2 (by assumption)
    | exact absurd hF.third (by assumption)
    | exact absurd hF.sum (by assumption)
    | skip
end Go.Proofs.Ytnepfcnlngpchaa
