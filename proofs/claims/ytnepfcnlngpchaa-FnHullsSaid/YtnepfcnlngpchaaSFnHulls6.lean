/- What the proof of 'FnHulls' needs, part 6: conditions and steps of the functions that it reaches, and the mathematics. -/
import Derived.Test.YtnepfcnlngpchaaRows
import Derived.WalkKit
import Derived.WalkSpells
import Derived.Below
import Derived.Orders
import Derived.Maps.AppendAt
import Derived.Laws.StructEq
import Derived.WideShapes
import Derived.ChangeSlices
import Derived.Deep.Strs
import Derived.ChangeOld
import Derived.Shelf.SlLaysF0
import Derived.Shelf.SlSortCmp.InsertionK
import Derived.Shelf.SlSortCmp.SmallK
import Derived.Shelf.SlSortCmp.Xorshift
import Derived.Sort.LotA
import Derived.Shelf.SlSortCmp.NoneTotal
import Derived.Test.YtnepfcnlngpchaaSFnHulls5
set_option linter.unusedSimpArgs false
set_option linter.unusedVariables false
namespace Go.Proofs.Ytnepfcnlngpchaa
open Go.RowKit Go.Proofs.Ytnepfcnlngpchaa.Nm
set_option maxRecDepth 10000
theorem _root_.Go.Proofs.Ytnepfcnlngpchaa.vS2 : type_of% (And.intro @List.length_append.{0} (And.intro @List.length_take.{0} (And.intro @List.length_replicate.{0} (And.intro @List.length_set.{0} (And.intro @List.length_map.{0,0} (And.intro @List.length_cons.{0} (And.intro @List.length_nil.{0} (And.intro @prodEta (And.intro @Int.toNat_natCast (And.intro @beq_iff_eq.{0} (And.intro @beq_eq_false_iff_ne.{0} (And.intro @bne_iff_ne.{0} (And.intro @bne_eq_false_iff_eq.{0} (And.intro @ne_eq.{1} (And.intro @Int.natCast_inj (And.intro @Int.ofNat_lt @Int.ofNat_le)))))))))))))))) := ⟨List.length_append, List.length_take, List.length_replicate, List.length_set, List.length_map, List.length_cons, List.length_nil, prodEta, Int.toNat_natCast, beq_iff_eq, beq_eq_false_iff_ne, bne_iff_ne, bne_eq_false_iff_eq, ne_eq, Int.natCast_inj, Int.ofNat_lt, Int.ofNat_le⟩
theorem _root_.Go.Proofs.Ytnepfcnlngpchaa.vS3 : type_of% (And.intro @ptEq2 (And.intro @cond_true.{1} (And.intro @cond_false.{1} (And.intro @decide_eq_true_eq (And.intro @decide_eq_false_iff_not (And.intro @List.length_drop.{0} (And.intro @List.take_length.{0} (And.intro @Int.toNat_zero (And.intro @List.drop_zero.{0} (And.intro @Nat.zero_add (And.intro @List.nil_append.{0} (And.intro @mod_nat1 (And.intro @mod_nat2 (And.intro @tm1 (And.intro @tm2 (And.intro @tmj @W_in)))))))))))))))) := ⟨ptEq2, cond_true, cond_false, decide_eq_true_eq, decide_eq_false_iff_not, List.length_drop, List.take_length, Int.toNat_zero, List.drop_zero, Nat.zero_add, List.nil_append, mod_nat1, mod_nat2, tm1, tm2, tmj, W_in⟩
set_option maxHeartbeats 4000000 in
theorem sRoomOk_ok : Good1 Try.prog n_spec_RoomOk roomOkC := by
  refine good_ofG (tys := tyL) (env := [(n_spec_l01In, btwC), (n_spec_PointOk, ptOkC), (n_spec_l02Turn, turnC), (n_spec_DoMeet, meetC), (n_spec_l04Double, areaC)]) (envw := []) (envd := []) [] [37, 38, 43, 44] [] [] [] mixed tys ⟨l01In_ok, sPointOk_ok, l02Turn_ok, sDoMeet_ok, l04Double_ok, trivial⟩ trivial trivial Try.func112 rfl (by kernel_rfl) (by decide) (by kernel_rfl) ?_
  have hG_ := kpz [(0, [1]), (1, [1, 3]), (2, [1, 3, 14]), (3, [2]), (4, [1, 3, 4]), (5, [1, 3, 4, 17]), (6, [1, 3, 4]), (7, [1, 3, 4, 26]), (8, [2]), (9, [1, 3, 5]), (10, [1, 3, 5, 29]), (11, [1, 3, 5]), (12, [1, 3, 5, 6]), (13, [1, 3, 5, 6, 7]), (14, [1, 3, 5, 6, 7, 56]), (15, [2]), (16, [1, 3, 5, 6, 7, 8]), (17, [1, 3, 5, 6, 7, 8, 59]), (18, [1, 3, 5, 6, 7, 8]), (19, [1, 3, 5, 6, 7, 8, 80]), (20, [1, 3, 5, 6, 7, 8, 98]), (21, [2]), (22, [2])] [(12, [6]), (13, [6, 7]), (14, [6, 7]), (16, [6, 7]), (17, [6, 7]), (18, [6, 7]), (19, [6, 7]), (20, [6, 7])] [] []
  rintro ⟨xs, ⟨⟩⟩ hlen
  change xs.length ≤ _ at hlen
  (repeat' (first | (with_reducible first | exact True.intro | refine zQ ?_ | (refine zG hG_ ?_; intro K_ hK_) | (refine zR ?_; intro K_ hK_) | (refine hK_ _ _ ?_; try clear hK_ K_) | refine sq_n ?_ | refine sq_r ?_ | refine sq_e ?_ | refine bq_n ?_ | refine bq_r ?_ | refine bq_q ?_ | refine zB ?_ | refine zX ?_ | refine zT ?_ | refine zK ?_ | refine gq_n ?_ | refine gq_r ?_ | refine gq_e ?_ | refine lq_n ?_ | refine lq_r ?_ | refine lq_e ?_ | refine bq_e (by decide) ?_) | ((with_reducible refine zC (b := ?b_) ?hb_ ?_ ?_); case hb_ => rfl) | ((conv => whnf); first | (with_reducible refine hK_ _ _ ?_; try clear hK_ K_) | (with_reducible refine fun (g_ : Sl) (o_ : Ow) => ?_) | (with_reducible first | exact True.intro | refine And.intro trivial ?_ | refine And.intro ?_ ?_) | exact Nat.le_of_ble_eq_true rfl | exact Or.inl rfl | (intro h_; cases h_) | (intro h_; (try simp only [vS1] at h_)) | rfl))) <;> (try (conv => whnf)) <;> (try first | change (_ : Int) ≤ _ | change (_ : Nat) ≤ _) <;> (try ((fail_if_success (with_reducible apply Exists.intro)); (try dsimp only); (try simp only [vS1])))
  all_goals (try (fail_if_success (with_reducible apply Exists.intro)); first | with_reducible assumption | omega | exact mdl (by omega) | exact ilo1 (by omega) | exact ilo2 (by omega) | exact ihi1 (by omega) (by omega) | exact ihi2 (by omega) (by omega))
  · symm; rw [← Bool.not_eq_true, roomOk_iff]; simp [btw] at *; omega
  have hb := btw_iff.1 ‹btw _ _ _ = true›
  refine awp'_loopG (α := Nat) (fun k ver_ => [(4, vInt k)]) (fun k ver_ => []) (fun k ver_ => []) (fun k => k ≤ xs.length ∧ (xs.take k).all ptOk = true) (fun k => xs.length - k) [1, 3] [] (0) ?_
  conv => whnf
  refine ⟨⟨?inv1_, ?vals1_, ?own1_, ?fix1_⟩, ?body1_⟩
  case' vals1_ => (repeat' (first | (with_reducible first | exact True.intro | refine And.intro ?_ ?_ | refine Head.mk ?_ ?_ ?_ ?_) | ((conv => lhs; whnf); first | (with_reducible first | rfl | exact vInt_s (by omega)) | exact rfl) | ((conv => whnf); first | (with_reducible first | exact True.intro | refine And.intro ?_ ?_)))) <;> (try (conv => lhs; whnf))
  case' own1_ => (repeat' (first | (with_reducible first | exact True.intro | refine And.intro ?_ ?_ | refine Head.mk ?_ ?_ ?_ ?_) | ((conv => lhs; whnf); first | (with_reducible first | rfl | exact vInt_s (by omega)) | exact rfl) | ((conv => whnf); first | (with_reducible first | exact True.intro | refine And.intro ?_ ?_)))) <;> (try (conv => lhs; whnf))
  case' fix1_ => (repeat' (first | (with_reducible first | exact True.intro | refine And.intro ?_ ?_ | refine Head.mk ?_ ?_ ?_ ?_) | ((conv => lhs; whnf); first | (with_reducible first | rfl | exact vInt_s (by omega)) | exact rfl) | ((conv => whnf); first | (with_reducible first | exact True.intro | refine And.intro ?_ ?_)))) <;> (try (conv => lhs; whnf))
  · exact ⟨Nat.zero_le _, by simp⟩
  rintro k g_ o_ v_ ⟨hk, hall⟩
  (repeat' (first | (with_reducible first | exact True.intro | refine zQ ?_ | (refine zG hG_ ?_; intro K_ hK_) | (refine zR ?_; intro K_ hK_) | (refine hK_ _ _ ?_; try clear hK_ K_) | refine sq_n ?_ | refine sq_r ?_ | refine sq_e ?_ | refine bq_n ?_ | refine bq_r ?_ | refine bq_q ?_ | refine zB ?_ | refine zX ?_ | refine zT ?_ | refine zK ?_ | refine gq_n ?_ | refine gq_r ?_ | refine gq_e ?_ | refine lq_n ?_ | refine lq_r ?_ | refine lq_e ?_ | refine bq_e (by decide) ?_) | ((with_reducible refine zC (b := ?b_) ?hb_ ?_ ?_); case hb_ => rfl) | ((conv => whnf); first | (with_reducible refine hK_ _ _ ?_; try clear hK_ K_) | (with_reducible refine fun (g_ : Sl) (o_ : Ow) => ?_) | (with_reducible first | exact True.intro | refine And.intro trivial ?_ | refine And.intro ?_ ?_) | exact Nat.le_of_ble_eq_true rfl | exact Or.inl rfl | (intro h_; cases h_) | (intro h_; (try simp only [vS1] at h_)) | rfl))) <;> (try (conv => whnf)) <;> (try first | change (_ : Int) ≤ _ | change (_ : Nat) ≤ _) <;> (try ((fail_if_success (with_reducible apply Exists.intro)); (try dsimp only); (try simp only [vS1])))
  all_goals (try (fail_if_success (with_reducible apply Exists.intro)); first | with_reducible assumption | omega | exact mdl (by omega) | exact ilo1 (by omega) | exact ilo2 (by omega) | exact ihi1 (by omega) (by omega) | exact ihi2 (by omega) (by omega))
  · symm; rw [← Bool.not_eq_true, roomOk_iff, all_no (k := k) _ (by omega) h_]; simp
  · refine ⟨k + 1, by omega, ⟨by omega, ?_⟩, ?_⟩
    · rw [all_succ (0, 0) (by omega), hall]; simpa using h_
    · (repeat' (first | (with_reducible first | exact True.intro | refine And.intro ?_ ?_ | refine Head.mk ?_ ?_ ?_ ?_) | ((conv => lhs; whnf); first | (with_reducible first | rfl | exact vInt_s (by omega)) | exact rfl) | ((conv => whnf); first | (with_reducible first | exact True.intro | refine And.intro ?_ ?_)))) <;> (try (conv => lhs; whnf))
  have hpts := take_all (by omega) hall
  clear hall
  refine awp'_loopG (α := Nat) (fun i ver_ => [(5, vInt i)]) (fun i ver_ => []) (fun i ver_ => []) (fun i => i ≤ xs.length ∧ ∀ j, j < i → okAt xs j = true) (fun i => xs.length - i) [1, 3] [] (0) ?_
  conv => whnf
  refine ⟨⟨?inv2_, ?vals2_, ?own2_, ?fix2_⟩, ?body2_⟩
  case' vals2_ => (repeat' (first | (with_reducible first | exact True.intro | refine And.intro ?_ ?_ | refine Head.mk ?_ ?_ ?_ ?_) | ((conv => lhs; whnf); first | (with_reducible first | rfl | exact vInt_s (by omega)) | exact rfl) | ((conv => whnf); first | (with_reducible first | exact True.intro | refine And.intro ?_ ?_)))) <;> (try (conv => lhs; whnf))
  case' own2_ => (repeat' (first | (with_reducible first | exact True.intro | refine And.intro ?_ ?_ | refine Head.mk ?_ ?_ ?_ ?_) | ((conv => lhs; whnf); first | (with_reducible first | rfl | exact vInt_s (by omega)) | exact rfl) | ((conv => whnf); first | (with_reducible first | exact True.intro | refine And.intro ?_ ?_)))) <;> (try (conv => lhs; whnf))
  case' fix2_ => (repeat' (first | (with_reducible first | exact True.intro | refine And.intro ?_ ?_ | refine Head.mk ?_ ?_ ?_ ?_) | ((conv => lhs; whnf); first | (with_reducible first | rfl | exact vInt_s (by omega)) | exact rfl) | ((conv => whnf); first | (with_reducible first | exact True.intro | refine And.intro ?_ ?_)))) <;> (try (conv => lhs; whnf))
  · exact ⟨Nat.zero_le _, fun i hi => absurd hi (by omega)⟩
  rintro i g_ o_ v_ ⟨hi, hall⟩
  (repeat' (first | (with_reducible first | exact True.intro | refine zQ ?_ | (refine zG hG_ ?_; intro K_ hK_) | (refine zR ?_; intro K_ hK_) | (refine hK_ _ _ ?_; try clear hK_ K_) | refine sq_n ?_ | refine sq_r ?_ | refine sq_e ?_ | refine bq_n ?_ | refine bq_r ?_ | refine bq_q ?_ | refine zB ?_ | refine zX ?_ | refine zT ?_ | refine zK ?_ | refine gq_n ?_ | refine gq_r ?_ | refine gq_e ?_ | refine lq_n ?_ | refine lq_r ?_ | refine lq_e ?_ | refine bq_e (by decide) ?_) | ((with_reducible refine zC (b := ?b_) ?hb_ ?_ ?_); case hb_ => rfl) | ((conv => whnf); first | (with_reducible refine hK_ _ _ ?_; try clear hK_ K_) | (with_reducible refine fun (g_ : Sl) (o_ : Ow) => ?_) | (with_reducible first | exact True.intro | refine And.intro trivial ?_ | refine And.intro ?_ ?_) | exact Nat.le_of_ble_eq_true rfl | exact Or.inl rfl | (intro h_; cases h_) | (intro h_; (try simp only [vS1] at h_)) | rfl))) <;> (try (conv => whnf)) <;> (try first | change (_ : Int) ≤ _ | change (_ : Nat) ≤ _) <;> (try ((fail_if_success (with_reducible apply Exists.intro)); (try dsimp only); (try simp only [vS1])))
  all_goals (try (fail_if_success (with_reducible apply Exists.intro)); first | with_reducible assumption | omega | exact mdl (by omega) | exact ilo1 (by omega) | exact ilo2 (by omega) | exact ihi1 (by omega) (by omega) | exact ihi2 (by omega) (by omega))
  · symm; rw [← Bool.not_eq_true, roomOk_iff]
    rintro ⟨-, -, h, -⟩
    have h1 := (okAt_iff.1 (h i (by omega))).1
    rw [mod_nat1 (by omega), mod_nat2 (by omega), Int.toNat_natCast, Int.toNat_natCast] at h_
    exact h1 (eq_of_beq h_)
  · have ht : turn (pAt xs i) (pCy xs (i + 1)) (pCy xs (i + 2)) ≠ 0 := by
      have := h_
      rw [mod_nat1 (by omega), mod_nat2 (by omega), Int.toNat_natCast, Int.toNat_natCast] at this
      exact fun e => (beq_eq_false_iff_ne.1 this) e
    have hin : (i : Int) < xs.length := by omega
    have hi3 : (IntKind.i64.wrap ((i : Int) + 1)).tmod xs.length = (((i + 1) % xs.length : Nat) : Int) := mod_nat1 (by omega)
    clear h_
    refine awp'_loopG (α := Nat) (fun k ver_ => [(8, vInt k)]) (fun k ver_ => []) (fun k ver_ => []) (fun k => k ≤ xs.length ∧ ∀ j, j < k → j ≠ i → (j + 1) % xs.length ≠ i → (i + 1) % xs.length ≠ j → meet (wl xs i) (wl xs j) = false) (fun k => xs.length - k) [1, 3, 5, 6, 7] [6, 7] (0) ?_
    conv => whnf
    refine ⟨⟨?inv3_, ?vals3_, ?own3_, ?fix3_⟩, ?body3_⟩
    case' vals3_ => (repeat' (first | (with_reducible first | exact True.intro | refine And.intro ?_ ?_ | refine Head.mk ?_ ?_ ?_ ?_) | ((conv => lhs; whnf); first | (with_reducible first | rfl | exact vInt_s (by omega)) | exact rfl) | ((conv => whnf); first | (with_reducible first | exact True.intro | refine And.intro ?_ ?_)))) <;> (try (conv => lhs; whnf))
    case' own3_ => (repeat' (first | (with_reducible first | exact True.intro | refine And.intro ?_ ?_ | refine Head.mk ?_ ?_ ?_ ?_) | ((conv => lhs; whnf); first | (with_reducible first | rfl | exact vInt_s (by omega)) | exact rfl) | ((conv => whnf); first | (with_reducible first | exact True.intro | refine And.intro ?_ ?_)))) <;> (try (conv => lhs; whnf))
    case' fix3_ => (repeat' (first | (with_reducible first | exact True.intro | refine And.intro ?_ ?_ | refine Head.mk ?_ ?_ ?_ ?_) | ((conv => lhs; whnf); first | (with_reducible first | rfl | exact vInt_s (by omega)) | exact rfl) | ((conv => whnf); first | (with_reducible first | exact True.intro | refine And.intro ?_ ?_)))) <;> (try (conv => lhs; whnf))
    · exact ⟨Nat.zero_le _, fun j h1 => absurd h1 (by omega)⟩
    rintro k g_ o_ v_ ⟨hk, hin2⟩
    (repeat' (first | (with_reducible first | exact True.intro | refine zQ ?_ | (refine zG hG_ ?_; intro K_ hK_) | (refine zR ?_; intro K_ hK_) | (refine hK_ _ _ ?_; try clear hK_ K_) | refine sq_n ?_ | refine sq_r ?_ | refine sq_e ?_ | refine bq_n ?_ | refine bq_r ?_ | refine bq_q ?_ | refine zB ?_ | refine zX ?_ | refine zT ?_ | refine zK ?_ | refine gq_n ?_ | refine gq_r ?_ | refine gq_e ?_ | refine lq_n ?_ | refine lq_r ?_ | refine lq_e ?_ | refine bq_e (by decide) ?_) | ((with_reducible refine zC (b := ?b_) ?hb_ ?_ ?_); case hb_ => rfl) | ((conv => whnf); first | (with_reducible refine hK_ _ _ ?_; try clear hK_ K_) | (with_reducible refine fun (g_ : Sl) (o_ : Ow) => ?_) | (with_reducible first | exact True.intro | refine And.intro trivial ?_ | refine And.intro ?_ ?_) | exact Nat.le_of_ble_eq_true rfl | exact Or.inl rfl | (intro h_; cases h_) | (intro h_; (try simp only [vS1] at h_)) | rfl))) <;> (try (conv => whnf)) <;> (try first | change (_ : Int) ≤ _ | change (_ : Nat) ≤ _) <;> (try ((fail_if_success (with_reducible apply Exists.intro)); (try dsimp only); (try simp only [vS1])))
    all_goals (try (fail_if_success (with_reducible apply Exists.intro)); first | with_reducible assumption | omega | exact mdl (by omega) | exact ilo1 (by omega) | exact ilo2 (by omega) | exact ihi1 (by omega) (by omega) | exact ihi2 (by omega) (by omega))
    all_goals (try simp (disch := omega) only [vS3, vS2] at *)
    · refine ⟨k + 1, by omega, ⟨by omega, fun j h1 h2 h3 h4 => ?_⟩, by (repeat' (first | (with_reducible first | exact True.intro | refine And.intro ?_ ?_ | refine Head.mk ?_ ?_ ?_ ?_) | ((conv => lhs; whnf); first | (with_reducible first | rfl | exact vInt_s (by omega)) | exact rfl) | ((conv => whnf); first | (with_reducible first | exact True.intro | refine And.intro ?_ ?_)))) <;> (try (conv => lhs; whnf))⟩
      rcases Nat.lt_or_ge j k with h5 | h5
      · exact hin2 j h5 h2 h3 h4
      · exact absurd (by omega) h2
    · refine ⟨k + 1, by omega, ⟨by omega, fun j h1 h2 h3 h4 => ?_⟩, by (repeat' (first | (with_reducible first | exact True.intro | refine And.intro ?_ ?_ | refine Head.mk ?_ ?_ ?_ ?_) | ((conv => lhs; whnf); first | (with_reducible first | rfl | exact vInt_s (by omega)) | exact rfl) | ((conv => whnf); first | (with_reducible first | exact True.intro | refine And.intro ?_ ?_)))) <;> (try (conv => lhs; whnf))⟩
      rcases Nat.lt_or_ge j k with h5 | h5
      · exact hin2 j h5 h2 h3 h4
      · rw [show j = k by omega] at h3; exact absurd (by assumption) h3
    · refine ⟨k + 1, by omega, ⟨by omega, fun j h1 h2 h3 h4 => ?_⟩, by (repeat' (first | (with_reducible first | exact True.intro | refine And.intro ?_ ?_ | refine Head.mk ?_ ?_ ?_ ?_) | ((conv => lhs; whnf); first | (with_reducible first | rfl | exact vInt_s (by omega)) | exact rfl) | ((conv => whnf); first | (with_reducible first | exact True.intro | refine And.intro ?_ ?_)))) <;> (try (conv => lhs; whnf))⟩
      rcases Nat.lt_or_ge j k with h5 | h5
      · exact hin2 j h5 h2 h3 h4
      · rw [show j = k by omega] at h4; exact absurd (by assumption) h4
    · symm; rw [← Bool.not_eq_true, roomOk_iff]
      rintro ⟨-, -, h, -⟩
      have h2 := (okAt_iff.1 (h i (by omega))).2 k (by omega) ‹_› ‹_› ‹_›
      exact absurd (show meet (wl xs i) (wl xs k) = true by assumption) (by rw [h2]; decide)
    · refine ⟨k + 1, by omega, ⟨by omega, fun j h1 h2 h3 h4 => ?_⟩, by (repeat' (first | (with_reducible first | exact True.intro | refine And.intro ?_ ?_ | refine Head.mk ?_ ?_ ?_ ?_) | ((conv => lhs; whnf); first | (with_reducible first | rfl | exact vInt_s (by omega)) | exact rfl) | ((conv => whnf); first | (with_reducible first | exact True.intro | refine And.intro ?_ ?_)))) <;> (try (conv => lhs; whnf))⟩
      rcases Nat.lt_or_ge j k with h5 | h5
      · exact hin2 j h5 h2 h3 h4
      · rw [show j = k by omega]; assumption
    · refine ⟨i + 1, by omega, ⟨by omega, fun j hj => ?_⟩, by (repeat' (first | (with_reducible first | exact True.intro | refine And.intro ?_ ?_ | refine Head.mk ?_ ?_ ?_ ?_) | ((conv => lhs; whnf); first | (with_reducible first | rfl | exact vInt_s (by omega)) | exact rfl) | ((conv => whnf); first | (with_reducible first | exact True.intro | refine And.intro ?_ ?_)))) <;> (try (conv => lhs; whnf))⟩
      rcases Nat.lt_or_ge j i with h5 | h5
      · exact hall j h5
      · rw [show j = i by omega]
        exact okAt_iff.2 ⟨ht, fun m h1 h2 h3 h4 => hin2 m (by omega) h2 h3 h4⟩
  · rw [Bool.eq_iff_iff, roomOk_iff]
    simp only [decide_eq_true_eq]
    exact ⟨fun h => ⟨by omega, hpts, fun k hk => hall k (by omega), h⟩, fun h => h.2.2.2⟩
end Go.Proofs.Ytnepfcnlngpchaa
namespace Go.Proofs.Ytnepfcnlngpchaa
open Go.RowKit Go.Proofs.Ytnepfcnlngpchaa.Nm
set_option maxRecDepth 10000
def ptRow (xs : List Pt) : RV := ⟨.one (.own 0 0), some ⟨t_impl_Point, none, .b .pt, xs⟩⟩
def placeC : Con := mkCon [.sl (.b .pt), .pt] (fun x => x.1.length ≤ 1048576) fun x => vI (placeM x.1 x.2.1)
theorem placeM_on {xs : List Pt} {p : Pt} {k : Nat} (hk : k < xs.length) (h : onAt xs p k = true) : placeM xs p = 1 := by unfold placeM; rw [onAny_yes hk h]; rfl
theorem placeM_off {xs : List Pt} {p : Pt} (h : ∀ k, k < xs.length → onAt xs p k = false) : placeM xs p = if par (upIAt xs p) xs.length then 2 else 0 := by unfold placeM; rw [onAny_no h]; rfl
theorem par_t {f : Nat → Bool} {k : Nat} (h : f k = true) : par f (k + 1) = !par f k := by show (par f k != f k) = _; rw [h]; cases par f k <;> rfl
theorem par_f {f : Nat → Bool} {k : Nat} (h : f k = false) : par f (k + 1) = par f k := by show (par f k != f k) = _; rw [h]; cases par f k <;> rfl
theorem place_ok : Good1 Try.prog n_impl_place placeC := by
  refine good_ofG (tys := tyL) (env := [(n_impl_on, onC), (n_impl_turn, turnC)]) (envw := []) (envd := []) [] [] [] [] [] mixed tys ⟨on_ok, turn_ok, trivial⟩ trivial trivial Try.func87 rfl (by kernel_rfl) (by decide) (by kernel_rfl) ?_
  have hG_ := kpz [(0, [0, 3]), (1, [0, 3, 5]), (2, [0, 3, 5, 9, 10, 11]), (3, [0, 3, 5, 9, 10, 11, 12]), (4, [0, 3, 5, 6, 7, 9, 10, 11]), (5, [0, 3, 5, 7, 8, 9, 10, 11]), (6, [0, 3, 5, 7, 8, 9, 10, 11, 27]), (7, [4]), (8, [0, 3, 5, 9, 10, 11, 51]), (9, [0, 3, 5, 9, 10, 11]), (10, [0, 3, 5, 9, 10, 11]), (11, [55]), (12, [4]), (13, [4])] [(4, [7]), (5, [7, 8]), (6, [7, 8])] [] []
  rintro ⟨(xs : List Pt), ⟨(p : Int), (q : Int)⟩, ⟨⟩⟩ (h1 : xs.length ≤ _)
  (repeat' (first | (with_reducible first | exact True.intro | refine zQ ?_ | (refine zG hG_ ?_; intro K_ hK_) | (refine zR ?_; intro K_ hK_) | (refine hK_ _ _ ?_; try clear hK_ K_) | refine sq_n ?_ | refine sq_r ?_ | refine sq_e ?_ | refine bq_n ?_ | refine bq_r ?_ | refine bq_q ?_ | refine zB ?_ | refine zX ?_ | refine zT ?_ | refine zK ?_ | refine gq_n ?_ | refine gq_r ?_ | refine gq_e ?_ | refine lq_n ?_ | refine lq_r ?_ | refine lq_e ?_ | refine bq_e (by decide) ?_) | ((with_reducible refine zC (b := ?b_) ?hb_ ?_ ?_); case hb_ => rfl) | ((conv => whnf); first | (with_reducible refine hK_ _ _ ?_; try clear hK_ K_) | (with_reducible refine fun (g_ : Sl) (o_ : Ow) => ?_) | (with_reducible first | exact True.intro | refine And.intro trivial ?_ | refine And.intro ?_ ?_) | exact Nat.le_of_ble_eq_true rfl | exact Or.inl rfl | (intro h_; cases h_) | (intro h_; (try simp only [vS1] at h_)) | rfl))) <;> (try (conv => whnf)) <;> (try first | change (_ : Int) ≤ _ | change (_ : Nat) ≤ _) <;> (try ((fail_if_success (with_reducible apply Exists.intro)); (try dsimp only); (try simp only [vS1]))) <;> (try simp (disch := omega) only [vS3, vS2] at *)
  refine awp'_loopG (α := Nat) (fun k ver_ => [(11, vInt k), (5, vBool (par (upIAt xs (p, q)) k))]) (fun k ver_ => []) (fun k ver_ => []) (fun k => k ≤ xs.length ∧ ∀ j, j < k → onAt xs (p, q) j = false) (fun k => xs.length - k) [0, 3, 9, 10] [] (0) ?_
  conv => whnf
  refine ⟨⟨?inv1_, ?vals1_, ?own1_, ?fix1_⟩, ?body1_⟩
  case' vals1_ => (repeat' (first | (with_reducible first | exact True.intro | refine And.intro ?_ ?_ | refine Head.mk ?_ ?_ ?_ ?_) | ((conv => lhs; whnf); first | (with_reducible first | rfl | exact vInt_s (by omega)) | exact rfl) | ((conv => whnf); first | (with_reducible first | exact True.intro | refine And.intro ?_ ?_)))) <;> (try (conv => lhs; whnf))
  case' own1_ => (repeat' (first | (with_reducible first | exact True.intro | refine And.intro ?_ ?_ | refine Head.mk ?_ ?_ ?_ ?_) | ((conv => lhs; whnf); first | (with_reducible first | rfl | exact vInt_s (by omega)) | exact rfl) | ((conv => whnf); first | (with_reducible first | exact True.intro | refine And.intro ?_ ?_)))) <;> (try (conv => lhs; whnf))
  case' fix1_ => (repeat' (first | (with_reducible first | exact True.intro | refine And.intro ?_ ?_ | refine Head.mk ?_ ?_ ?_ ?_) | ((conv => lhs; whnf); first | (with_reducible first | rfl | exact vInt_s (by omega)) | exact rfl) | ((conv => whnf); first | (with_reducible first | exact True.intro | refine And.intro ?_ ?_)))) <;> (try (conv => lhs; whnf))
  · exact ⟨Nat.zero_le _, fun j hj => absurd hj (by omega)⟩
  rintro k g_ o_ v_ ⟨hk, hall⟩
  have hinv : onAt xs (p, q) k = false → ∀ j, j < k + 1 → onAt xs (p, q) j = false := fun h j hj => by
    rcases Nat.lt_or_ge j k with h5 | h5
    · exact hall j h5
    · rw [show j = k by omega]; exact h
  (repeat' (first | (with_reducible first | exact True.intro | refine zQ ?_ | (refine zG hG_ ?_; intro K_ hK_) | (refine zR ?_; intro K_ hK_) | (refine hK_ _ _ ?_; try clear hK_ K_) | refine sq_n ?_ | refine sq_r ?_ | refine sq_e ?_ | refine bq_n ?_ | refine bq_r ?_ | refine bq_q ?_ | refine zB ?_ | refine zX ?_ | refine zT ?_ | refine zK ?_ | refine gq_n ?_ | refine gq_r ?_ | refine gq_e ?_ | refine lq_n ?_ | refine lq_r ?_ | refine lq_e ?_ | refine bq_e (by decide) ?_) | ((with_reducible refine zC (b := ?b_) ?hb_ ?_ ?_); case hb_ => rfl) | ((conv => whnf); first | (with_reducible refine hK_ _ _ ?_; try clear hK_ K_) | (with_reducible refine fun (g_ : Sl) (o_ : Ow) => ?_) | (with_reducible first | exact True.intro | refine And.intro trivial ?_ | refine And.intro ?_ ?_) | exact Nat.le_of_ble_eq_true rfl | exact Or.inl rfl | (intro h_; cases h_) | (intro h_; (try simp only [vS1] at h_)) | rfl))) <;> (try (conv => whnf)) <;> (try first | change (_ : Int) ≤ _ | change (_ : Nat) ≤ _) <;> (try ((fail_if_success (with_reducible apply Exists.intro)); (try dsimp only); (try simp only [vS1]))) <;> (try simp (disch := omega) only [vS3, vS2] at *)
  all_goals (try (fail_if_success (with_reducible apply Exists.intro)); first | with_reducible assumption | omega | exact mdl (by omega) | exact ilo1 (by omega) | exact ilo2 (by omega) | exact ihi1 (by omega) (by omega) | exact ihi2 (by omega) (by omega))
  · exact (placeM_on ‹k < xs.length› h_).symm
  · refine ⟨k + 1, by omega, ⟨by omega, hinv (by assumption)⟩, ?_⟩
    (repeat' (first | (with_reducible first | exact True.intro | refine And.intro ?_ ?_ | refine Head.mk ?_ ?_ ?_ ?_) | ((conv => lhs; whnf); first | (with_reducible first | rfl | exact vInt_s (by omega)) | exact rfl) | ((conv => whnf); first | (with_reducible first | exact True.intro | refine And.intro ?_ ?_)))) <;> (try (conv => lhs; whnf))
    refine congrArg vBool (par_t ?_).symm
    simp only [upI, Bool.and_eq_true, bne_iff_ne, beq_iff_eq]
    exact ⟨by assumption, by assumption⟩
  · refine ⟨k + 1, by omega, ⟨by omega, hinv (by assumption)⟩, ?_⟩
    (repeat' (first | (with_reducible first | exact True.intro | refine And.intro ?_ ?_ | refine Head.mk ?_ ?_ ?_ ?_) | ((conv => lhs; whnf); first | (with_reducible first | rfl | exact vInt_s (by omega)) | exact rfl) | ((conv => whnf); first | (with_reducible first | exact True.intro | refine And.intro ?_ ?_)))) <;> (try (conv => lhs; whnf))
    refine congrArg vBool (par_f ?_).symm
    rw [← Bool.not_eq_true]
    simp only [upI, Bool.and_eq_true, bne_iff_ne, beq_iff_eq]
    exact fun h => h_ h.2
  · refine ⟨k + 1, by omega, ⟨by omega, hinv (by assumption)⟩, ?_⟩
    (repeat' (first | (with_reducible first | exact True.intro | refine And.intro ?_ ?_ | refine Head.mk ?_ ?_ ?_ ?_) | ((conv => lhs; whnf); first | (with_reducible first | rfl | exact vInt_s (by omega)) | exact rfl) | ((conv => whnf); first | (with_reducible first | exact True.intro | refine And.intro ?_ ?_)))) <;> (try (conv => lhs; whnf))
    refine congrArg vBool (par_f ?_).symm
    rw [← Bool.not_eq_true]
    simp only [upI, Bool.and_eq_true, bne_iff_ne, beq_iff_eq]
    exact fun h => h.1 h_
  · rw [placeM_off fun j hj => hall j (by omega), show xs.length = k by omega, if_pos (by assumption)]
  · rw [placeM_off fun j hj => hall j (by omega), show xs.length = k by omega, if_neg (by simp [*])]
end Go.Proofs.Ytnepfcnlngpchaa
namespace Go.Proofs.Ytnepfcnlngpchaa
open Go.Shelf Go.RowKit Go.Lib Go.Sort Go.Proofs.Ytnepfcnlngpchaa.Nm
def sort_ren : Go.Shelf.Ren := ⟨fun | 6 => 81 | 14 => 117 | 15 => 118 | 20 => 134 | 21 => 135 | 22 => 136 | 23 => 137 | 24 => 138 | 25 => 139 | 26 => 140 | 27 => 141 | 28 => 142 | 29 => 143 | 46 => 156 | 47 => 157 | 48 => 158 | 49 => 159 | 50 => 160 | 57 => 173 | n => n, fun | 0 => 0 | 3 => 3 | 4 => 4 | 5 => 5 | 9 => 9 | 22 => 24 | 24 => 31 | 25 => 79 | 39 => 110 | 45 => 120 | 46 => 121 | 50 => 125 | 53 => 128 | 55 => 130 | 66 => 139 | 70 => 143 | 76 => 151 | 77 => 72 | n => n, fun n => n⟩
theorem sort_lay : SlLaysF0.n6 Try.prog sort_ren := {
  mixed := by kernel_rfl
  f6 := ⟨Try.f81.name, by decide, Try.func81.trans (congrArg some (by kernel_rfl))⟩
  f14 := ⟨Try.f117.name, by decide, Try.func117.trans (congrArg some (by kernel_rfl))⟩
  f15 := Try.func118.trans (congrArg some (by kernel_rfl))
  f20 := ⟨Try.f134.name, by decide, Try.func134.trans (congrArg some (by kernel_rfl))⟩
  f21 := ⟨Try.f135.name, by decide, Try.func135.trans (congrArg some (by kernel_rfl))⟩
  f22 := ⟨Try.f136.name, by decide, Try.func136.trans (congrArg some (by kernel_rfl))⟩
  f23 := ⟨Try.f137.name, by decide, Try.func137.trans (congrArg some (by kernel_rfl))⟩
  f24 := ⟨Try.f138.name, by decide, Try.func138.trans (congrArg some (by kernel_rfl))⟩
  f25 := ⟨Try.f139.name, by decide, Try.func139.trans (congrArg some (by kernel_rfl))⟩
  f26 := ⟨Try.f140.name, by decide, Try.func140.trans (congrArg some (by kernel_rfl))⟩
  f27 := ⟨Try.f141.name, by decide, Try.func141.trans (congrArg some (by kernel_rfl))⟩
  f28 := Try.func142.trans (congrArg some (by kernel_rfl))
  f29 := Try.func143.trans (congrArg some (by kernel_rfl))
  f46 := ⟨Try.f156.name, by decide, Try.func156.trans (congrArg some (by kernel_rfl))⟩
  f47 := Try.func157.trans (congrArg some (by kernel_rfl))
  f48 := Try.func158.trans (congrArg some (by kernel_rfl))
  f49 := ⟨Try.f159.name, by decide, Try.func159.trans (congrArg some (by kernel_rfl))⟩
  f50 := ⟨Try.f160.name, by decide, Try.func160.trans (congrArg some (by kernel_rfl))⟩
  f57 := ⟨Try.f173.name, by decide, Try.func173.trans (congrArg some (by kernel_rfl))⟩
  t0 := Try.underlying0
  a0 := Try.isAgg0
  z0 := Try.sizeOf0
  v0 := Try.zeroValue0
  t3 := Try.underlying3
  a3 := Try.isAgg3
  z3 := Try.sizeOf3
  v3 := Try.zeroValue3
  t4 := Try.underlying4
  a4 := Try.isAgg4
  z4 := Try.sizeOf4
  v4 := Try.zeroValue4
  t5 := Try.underlying5
  a5 := Try.isAgg5
  z5 := Try.sizeOf5
  v5 := Try.zeroValue5
  t9 := Try.underlying9
  a9 := Try.isAgg9
  z9 := Try.sizeOf9
  v9 := Try.zeroValue9
  t22 := Try.underlying24
  a22 := Try.isAgg24
  z22 := Try.sizeOf24
  v22 := Try.zeroValue24
  t25 := Try.underlying79
  a25 := Try.isAgg79
  z25 := Try.sizeOf79
  v25 := Try.zeroValue79
  t39 := Try.underlying110
  a39 := Try.isAgg110
  z39 := Try.sizeOf110
  v39 := Try.zeroValue110
  t45 := Try.underlying120
  a45 := Try.isAgg120
  z45 := Try.sizeOf120
  v45 := Try.zeroValue120
  t46 := Try.underlying121
  a46 := Try.isAgg121
  z46 := Try.sizeOf121
  v46 := Try.zeroValue121
  t50 := Try.underlying125
  a50 := Try.isAgg125
  z50 := Try.sizeOf125
  v50 := Try.zeroValue125
  t53 := Try.underlying128
  a53 := Try.isAgg128
  z53 := Try.sizeOf128
  v53 := Try.zeroValue128
  t55 := Try.underlying130
  a55 := Try.isAgg130
  z55 := Try.sizeOf130
  v55 := Try.zeroValue130
  t66 := Try.underlying139
  a66 := Try.isAgg139
  z66 := Try.sizeOf139
  v66 := Try.zeroValue139
  t70 := Try.underlying143
  a70 := Try.isAgg143
  z70 := Try.sizeOf143
  v70 := Try.zeroValue143
  t76 := Try.underlying151
  a76 := Try.isAgg151
  z76 := Try.sizeOf151
  v76 := Try.zeroValue151
  t77 := Try.underlying72
  a77 := Try.isAgg72
  z77 := Try.sizeOf72
  v77 := Try.zeroValue72
}
theorem sort_agg : ∀ w, (isAgg (sort_ren.t 24)).run Try.prog w = .ok true w := Try.isAgg31
theorem sort_size : ∀ w, (Go.sizeOf (sort_ren.t 24)).run Try.prog w = .ok 2 w := Try.sizeOf31
abbrev Pt2 := Int × Int
def encP (x : Pt2) : List Value := [.int .i64 x.1, .int .i64 x.2]
theorem encP_len (x : Pt2) : (encP x).length = 2 := rfl
theorem encP_one (x : Pt2) : ∀ v ∈ encP x, v.oneCell' = true := by
  intro v hv
  simp only [encP, List.mem_cons, List.not_mem_nil, or_false] at hv
  rcases hv with rfl | rfl <;> rfl
theorem flatP_get {xs : List Pt2} {i : Nat} {x : Pt2} (h : xs[i]? = some x) {j : Nat} {u : Value} (hu : (encP x)[j]? = some u) : (flatK encP 2 xs.toArray).toList[i * 2 + j]? = some u := by
  have hi : i < xs.length := (List.getElem?_eq_some_iff.1 h).1
  have hj : j < 2 := by have := (List.getElem?_eq_some_iff.1 hu).1; simpa [encP] using this
  have hlt : i * 2 + j < xs.toArray.size * 2 := by simp; omega
  have hg := get_flatK encP 2 xs.toArray (i * 2 + j) hlt
  rw [show (i * 2 + j) / 2 = i by omega, show (i * 2 + j) % 2 = j by omega] at hg
  rw [Array.getElem?_toList]
  have hs : i * 2 + j < (flatK encP 2 xs.toArray).size := by rw [size_flatK]; exact hlt
  rw [getElem!_pos (flatK encP 2 xs.toArray) (i * 2 + j) hs] at hg
  rw [Array.getElem?_eq_getElem hs, hg]
  have hx : xs.toArray[i]! = x := by rw [getElem!_pos xs.toArray i (by simpa using hi)]; simp [(List.getElem?_eq_some_iff.1 h).2]
  rw [hx]
  rw [getElem!_pos (encP x) j (by simpa [encP] using hj)]
  rw [List.getElem?_eq_getElem (by simpa [encP] using hj)] at hu
  exact hu
theorem flat_one (xs : List Pt2) : ∀ v ∈ (flatK encP 2 xs.toArray).toList, v.oneCell' = true := by
  intro v hv
  obtain ⟨t, ht, rfl⟩ := Array.getElem_of_mem (Array.mem_toList_iff.1 hv)
  have ht' : t < xs.toArray.size * 2 := by rw [size_flatK] at ht; exact ht
  have hg := get_flatK encP 2 xs.toArray t ht'
  rw [getElem!_pos (flatK encP 2 xs.toArray) t ht] at hg
  rw [hg]
  have : t % 2 < 2 := Nat.mod_lt _ (by omega)
  have hm : t % 2 = 0 ∨ t % 2 = 1 := by omega
  rcases hm with h | h <;> rw [h] <;> rfl
theorem rowC_flat (w : World) (F : Nat → Prop) (xs : List Pt2) : RowC w F (.b .pt) xs (flatK encP 2 xs.toArray).toList :=
  ⟨flat_one xs, fun i x hx => ⟨encP x, rfl, rfl, fun j u hu => flatP_get hx hu⟩⟩
theorem holds_of_own {w : World} {F : Nat → Prop} {ty : TypeId} {s : Value} {xs : List Pt2} {cells : List Value} (hw : w.ownsRow 0 ty 2 s xs.length cells) (hr : RowC w F (.b .pt) xs cells) (hne : 0 < xs.length) :
    ∃ g cap cur, s = .slice (some ⟨g, 0, none⟩) xs.length cap ∧ w.heap[g]? = some (.cells cur ty (0, 0)) ∧ xs.length ≤ cap ∧ cap ≤ maxLen ∧ cur.size = cap * 2 ∧ HoldsK encP 2 w g 0 xs.toArray := by
  rcases hw.2 with ⟨_, h0⟩ | ⟨g, cap, cur, hv, _, hh, hn, hm, hs, ht⟩
  · omega
  refine ⟨g, cap, cur, hv, hh, hn, hm, hs, fun t ht' => ?_⟩
  rw [size_flatK] at ht'
  have ht2 : t < xs.length * 2 := by simpa using ht'
  have hlt : t < cur.size := by rw [hs]; exact Nat.lt_of_lt_of_le ht2 (Nat.mul_le_mul_right 2 hn)
  have hi : t / 2 < xs.length := by omega
  obtain ⟨us, hul, hue, hus⟩ := hr.2 (t / 2) xs[t / 2] (List.getElem?_eq_getElem hi)
  have hue : us = encP xs[t / 2] := hue
  subst hue
  have hj : t % 2 < 2 := Nat.mod_lt _ (by omega)
  have hc := hus (t % 2) (encP xs[t / 2])[t % 2] (List.getElem?_eq_getElem (by exact hj))
  rw [show t / 2 * (ElK.b ElB.pt).size + t % 2 = t by show t / 2 * 2 + t % 2 = t; omega, ← ht, List.getElem?_take_of_lt (by exact ht2), Array.getElem?_toList] at hc
  have hfl := flatP_get (xs := xs) (i := t / 2) (List.getElem?_eq_getElem hi) (j := t % 2) (List.getElem?_eq_getElem (by exact hj))
  rw [show t / 2 * 2 + t % 2 = t by omega, Array.getElem?_toList] at hfl
  have hsz : t < (flatK encP 2 xs.toArray).size := by rw [size_flatK]; exact ht'
  rw [Array.getElem?_eq_getElem hsz] at hfl
  rw [getElem!_pos (flatK encP 2 xs.toArray) t hsz, Option.some.inj hfl]
  constructor
  · simp only [World.cell?, hh, Nat.zero_add]
    simpa using hc
  · simp [World.frozen?, hh]
theorem after_sort {w : World} {ty : TypeId} {g cap n : Nat} {cur : Array Value} {ys : List Pt2} {os : Array Obj} (hh : w.heap[g]? = some (.cells cur ty (0, 0))) (hn : ys.length ≤ cap) (hm : cap ≤ maxLen) (hs : cur.size = cap * 2) :
    w.grownBy (sortWorldK encP 2 w g 0 n ys.toArray os) (some g) ∧ (sortWorldK encP 2 w g 0 n ys.toArray os).ownsRow 0 ty 2 (.slice (some ⟨g, 0, none⟩) ys.length cap) ys.length (flatK encP 2 ys.toArray).toList := by
  have hg : g < w.heap.size := lt_of_block hh
  have hheap : (sortWorldK encP 2 w g 0 n ys.toArray os).heap = w.heap.modify g (onCells (Go.Sort.putCells id 0 (flatK encP 2 ys.toArray))) ++ os := rfl
  have hfs : (flatK encP 2 ys.toArray).size = ys.length * 2 := by rw [size_flatK]; simp
  have hpre : ∀ k, k < w.heap.size → (sortWorldK encP 2 w g 0 n ys.toArray os).heap[k]? = (w.heap.modify g (onCells (Go.Sort.putCells id 0 (flatK encP 2 ys.toArray))))[k]? := fun k hk => by
    rw [hheap, Array.getElem?_append_left (by rw [Array.size_modify]; exact hk)]
  refine ⟨⟨rfl, rfl, rfl, by rw [hheap, Array.size_append, Array.size_modify]; omega, fun k hk hne => ?_⟩, by rw [Array.length_toList, hfs], .inr ⟨g, cap, Go.Sort.putCells id 0 (flatK encP 2 ys.toArray) cur, rfl, Nat.zero_le _, ?_, hn, hm, ?_, ?_⟩⟩
  · rw [hpre k hk, Array.getElem?_modify, if_neg (fun e => hne (by rw [e]))]
  · rw [hpre g hg, Array.getElem?_modify, if_pos rfl, hh]; rfl
  · rw [← hs]; simp [Go.Sort.putCells]
  · refine List.ext_getElem? fun i => ?_
    rcases Nat.lt_or_ge i (ys.length * 2) with hi | hi
    · rw [List.getElem?_take_of_lt hi, Array.getElem?_toList, Array.getElem?_toList]
      have hc : i < cur.size := by rw [hs]; exact Nat.lt_of_lt_of_le hi (Nat.mul_le_mul_right 2 hn)
      have hf : i < (flatK encP 2 ys.toArray).size := by rw [hfs]; exact hi
      simp only [Go.Sort.putCells, Array.getElem?_mapIdx, Array.getElem?_eq_getElem hc, Array.getElem?_eq_getElem hf, Option.map_some, Nat.zero_le, true_and, Nat.zero_add, hf, if_true, id, Nat.sub_zero]
      rw [getElem!_pos (flatK encP 2 ys.toArray) i hf]
    · rw [List.getElem?_eq_none (by rw [List.length_take]; omega), List.getElem?_eq_none (by rw [Array.length_toList, hfs]; exact hi)]
theorem decs_sort {k : ElK} {xs : List k.T} {c : AV} {x : Args [.sl (.b .pt), .clo]} (h : decs [.sl (.b .pt), .clo] [.one (.d (.sl none k xs)), c] = some x) :
    (∃ e : k = .b .pt, e ▸ xs = x.1) ∧ c = .one (.d (.clo x.2.1.1 x.2.1.2)) := by
  simp only [decs] at h
  split at h
  next a b e1 e2 =>
    injection h with h
    subst h
    refine ⟨castL_ok e1, ?_⟩
    split at e2
    next a' b' e3 e4 =>
      injection e2 with e2
      subst e2
      cases c with
      | one cc =>
        cases cc with
        | d dd => cases dd <;> first | (cases e3; rfl) | (simp only [Ty.dec] at e3; cases e3; done)
        | own _ _ => simp only [Ty.dec] at e3; cases e3
        | ptr _ _ _ _ => simp only [Ty.dec] at e3; cases e3
        | sub _ _ _ _ => simp only [Ty.dec] at e3; cases e3
      | agg _ => simp only [Ty.dec] at e3; cases e3
      | tup _ => simp only [Ty.dec] at e3; cases e3
      | junk => simp only [Ty.dec] at e3; cases e3
    next => cases e2
  next => cases h
theorem bd_default : Bd (default : Pt) := by unfold Bd; decide
end Go.Proofs.Ytnepfcnlngpchaa
namespace Go.Proofs.Ytnepfcnlngpchaa
open Go.RowKit Go.Proofs.Ytnepfcnlngpchaa.Nm
set_option maxRecDepth 10000
theorem tn1 (k : Nat) : ((k : Int) + 1).toNat = k + 1 := by omega
theorem tnp {k : Nat} (h : 1 ≤ k) : ((k : Int) - 1).toNat = k - 1 := by omega
theorem tnc (k : Nat) : ((k : Int) + 1 - 1).toNat = k := by omega
theorem Good1.imp {P : Program} {f : FuncId} {ts : List Ty} {pre pre' : Args ts → Prop} {res res' : Args ts → RV} (h : Good1 P f (mkCon ts pre res)) (hp : ∀ x, pre' x → pre x ∧ res' x = res x) : Good1 P f (mkCon ts pre' res') :=
  ⟨fun w F args vs x h1 h2 h3 h4 h5 => by
    obtain ⟨k1, k2⟩ := hp x h2
    show Calls _ _ _ _ fun e w' => ∃ v, e = .returned v ∧ Below w.heap.size w w' ∧ RetC w w' F (res' x) v
    rw [k2]
    exact h.snd w F args vs x h1 k1 h3 h4 h5, h.has⟩
def rowI (xs : List Int) : RV := ⟨.one (.own 0 0), some ⟨t_int, none, .b .int, xs⟩⟩
abbrev Tri := Int × Int × Int
abbrev pI (xs : List Pt) (k : Int) : Pt := xs.getD k.toNat (0, 0)
def inTri (a b c p : Pt) : Bool := decide (0 ≤ turn a b p) && (decide (0 ≤ turn b c p) && decide (0 ≤ turn c a p))
def rot {α : Type} (xs : List α) (k : Nat) : List α := xs.drop k ++ xs.take k
def rRoom (xs : List Pt) : RV := ⟨.agg [.own 0 0], some ⟨t_impl_Point, none, .b .pt, xs⟩⟩
theorem rot_len {α : Type} (xs : List α) (k : Nat) : (rot xs k).length = xs.length := by simp [rot]; omega
theorem rot_get {xs : List Pt} {k i : Nat} (hk : k < xs.length) (hi : i < xs.length) : pAt (rot xs k) i = pCy xs (k + i) := by
  unfold pAt pCy rot
  rw [List.getD_eq_getElem?_getD, List.getD_eq_getElem?_getD]
  congr 1
  rcases Nat.lt_or_ge (k + i) xs.length with h | h
  · rw [Nat.mod_eq_of_lt h, List.getElem?_append_left (by simp; omega), List.getElem?_drop]
  · rw [Nat.mod_eq_sub_mod h, Nat.mod_eq_of_lt (by omega), List.getElem?_append_right (by simp; omega), List.getElem?_take_of_lt (by simp; omega)]
    congr 1
    simp; omega
end Go.Proofs.Ytnepfcnlngpchaa
namespace Go.Proofs.Ytnepfcnlngpchaa
open Go.RowKit Go.Proofs.Ytnepfcnlngpchaa.Nm
set_option maxRecDepth 10000
set_option maxHeartbeats 2000000
def inP (xs : List Pt) (p : Pt) : Bool := ptOk p && inB xs p
theorem inP_iff {xs : List Pt} {p : Pt} : inP xs p = true ↔ ptOk p = true ∧ placeM xs p ≠ 0 := by unfold inP; rw [Bool.and_eq_true, bne_iff_ne]
end Go.Proofs.Ytnepfcnlngpchaa
namespace Go.Proofs.Ytnepfcnlngpchaa
open Go.RowKit Go.Proofs.Ytnepfcnlngpchaa.Nm
set_option maxRecDepth 10000
theorem locRow_eq {v : Nat} {t : TypeId} {k : ElK} {xs ys : List k.T} (h : xs = ys) : (⟨v, .row t k xs⟩ : Loc) = ⟨v, .row t k ys⟩ := by rw [h]
def roomRoomC (f : List Pt → List Pt) : Con := mkCon [.room] (fun x => x.1.length ≤ 1048576) fun x => rRoom (f x.1)
def revTo {α : Type} (d : α) (xs : List α) (i : Nat) : List α := (List.range xs.length).map fun p => if p < i ∨ xs.length - i ≤ p then xs.getD (xs.length - 1 - p) d else xs.getD p d
theorem revTo_len {α : Type} (d : α) (xs : List α) (i : Nat) : (revTo d xs i).length = xs.length := by simp [revTo]
theorem revTo_get {α : Type} (d : α) {xs : List α} {i p : Nat} (hp : p < xs.length) : (revTo d xs i).getD p d = if p < i ∨ xs.length - i ≤ p then xs.getD (xs.length - 1 - p) d else xs.getD p d := by simp [revTo, List.getD, hp]
theorem ext_getD {α : Type} (d : α) {xs ys : List α} (hl : xs.length = ys.length) (h : ∀ p, p < xs.length → xs.getD p d = ys.getD p d) : xs = ys := by
  refine List.ext_getElem hl fun p h1 h2 => ?_
  have := h p h1
  rwa [getD_lt _ h1, getD_lt _ h2] at this
theorem revTo_zero {α : Type} (d : α) (xs : List α) : revTo d xs 0 = xs := ext_getD d (revTo_len d xs 0) fun p hp => by
  rw [revTo_len] at hp
  rw [revTo_get d hp, if_neg (by omega)]
theorem revTo_end {α : Type} (d : α) {xs : List α} {i : Nat} (h : xs.length ≤ 2 * i + 1) : revTo d xs i = xs.reverse := ext_getD d (by rw [revTo_len, List.length_reverse]) fun p hp => by
  rw [revTo_len] at hp
  rw [revTo_get d hp, List.getD_eq_getElem?_getD (l := xs.reverse), List.getElem?_reverse hp, ← List.getD_eq_getElem?_getD]
  split
  · rfl
  · rw [show xs.length - 1 - p = p by omega]
theorem getD_set {α : Type} {xs : List α} {i p : Nat} {x d : α} (hi : i < xs.length) : (xs.set i x).getD p d = if p = i then x else xs.getD p d := by
  rw [List.getD_eq_getElem?_getD, List.getElem?_set]
  by_cases h : i = p
  · subst h; simp [hi]
  · rw [if_neg h, if_neg (Ne.symm h)]; rfl
theorem revTo_step {α : Type} (d : α) {xs : List α} {i : Nat} (h : 2 * i + 1 < xs.length) :
    ((revTo d xs i).set i ((revTo d xs i).getD (xs.length - 1 - i) d)).set (xs.length - 1 - i) ((revTo d xs i).getD i d) = revTo d xs (i + 1) := ext_getD d (by simp [revTo_len]) fun p hp => by
  simp only [List.length_set, revTo_len] at hp
  rw [getD_set (by rw [List.length_set, revTo_len]; omega), getD_set (by rw [revTo_len]; omega), revTo_get d (by omega), revTo_get d (by omega), revTo_get d hp, revTo_get d hp]
  by_cases h1 : p = xs.length - 1 - i
  · subst h1
    rw [if_pos rfl, if_neg (by omega), if_pos (by omega)]
    congr 1; omega
  · rw [if_neg h1]
    by_cases h2 : p = i
    · subst h2
      rw [if_pos rfl, if_neg (by omega), if_pos (by omega)]
    · rw [if_neg h2]
      by_cases h3 : p < i ∨ xs.length - i ≤ p
      · rw [if_pos h3, if_pos (by omega)]
      · rw [if_neg h3, if_neg (by omega)]
def revPtC : ConW := mkConW [.sl (.b .pt)] 0 t_impl_Point (fun x => x.1.length ≤ 1048576) (fun _ => .tup []) fun x => ⟨.b .pt, x.1.reverse, false⟩
theorem revPt_ok : GoodW Try.prog n_slices_Reverse_impl_Point revPtC := by
  refine good_ofW (tys := tyL) (env := []) (envw := []) (envd := []) [] [] [] [] [] mixed tys trivial trivial trivial Try.func85 rfl (by kernel_rfl) (by decide) (by kernel_rfl) ?_
  have hG_ := kpz [(0, [0, 2, 3]), (1, [0, 2, 3, 9]), (2, [0, 2, 3]), (3, [0, 2, 3])] [(0, [1000]), (1, [1000]), (2, [1000]), (3, [1000])] [] []
  rintro ⟨(xs : List Pt), ⟨⟩⟩ (h1 : xs.length ≤ _)
  (repeat' (first | (with_reducible first | exact True.intro | refine zQ ?_ | (refine zG hG_ ?_; intro K_ hK_) | (refine zR ?_; intro K_ hK_) | (refine hK_ _ _ ?_; try clear hK_ K_) | refine sq_n ?_ | refine sq_r ?_ | refine sq_e ?_ | refine bq_n ?_ | refine bq_r ?_ | refine bq_q ?_ | refine zB ?_ | refine zX ?_ | refine zT ?_ | refine zK ?_ | refine gq_n ?_ | refine gq_r ?_ | refine gq_e ?_ | refine lq_n ?_ | refine lq_r ?_ | refine lq_e ?_ | refine bq_e (by decide) ?_) | ((with_reducible refine zC (b := ?b_) ?hb_ ?_ ?_); case hb_ => rfl) | ((conv => whnf); first | (with_reducible refine hK_ _ _ ?_; try clear hK_ K_) | (with_reducible refine fun (g_ : Sl) (o_ : Ow) => ?_) | (with_reducible first | exact True.intro | refine And.intro trivial ?_ | refine And.intro ?_ ?_) | exact Nat.le_of_ble_eq_true rfl | exact Or.inl rfl | (intro h_; cases h_) | (intro h_; (try simp only [vS1] at h_)) | rfl))) <;> (try (conv => whnf)) <;> (try first | change (_ : Int) ≤ _ | change (_ : Nat) ≤ _) <;> (try ((fail_if_success (with_reducible apply Exists.intro)); (try dsimp only); (try simp only [vS1]))) <;> (try simp (disch := omega) only [vS3, vS2] at *)
  refine awp'_loopG (α := Nat) (fun i ver_ => [(2, vInt i), (3, vInt ((xs.length : Int) - 1 - i))]) (fun i ver_ => []) (fun i ver_ => [(1000, ⟨0, .row t_impl_Point (.b .pt) (revTo (0, 0) xs i)⟩)]) (fun i => 2 * i ≤ xs.length + 1) (fun i => xs.length - i) [0] [] (0) ?_
  conv => whnf
  refine ⟨⟨?inv4_, ?vals4_, ?own4_, ?fix4_⟩, ?body4_⟩
  case' vals4_ => (repeat' (first | (with_reducible first | exact True.intro | refine And.intro ?_ ?_ | refine Head.mk ?_ ?_ ?_ ?_) | ((conv => lhs; whnf); first | (with_reducible first | rfl | exact vInt_s (by omega)) | exact rfl) | ((conv => whnf); first | (with_reducible first | exact True.intro | refine And.intro ?_ ?_)))) <;> (try (conv => lhs; whnf))
  case' own4_ => (repeat' (first | (with_reducible first | exact True.intro | refine And.intro ?_ ?_ | refine Head.mk ?_ ?_ ?_ ?_) | ((conv => lhs; whnf); first | (with_reducible first | rfl | exact vInt_s (by omega)) | exact rfl) | ((conv => whnf); first | (with_reducible first | exact True.intro | refine And.intro ?_ ?_)))) <;> (try (conv => lhs; whnf))
  case' fix4_ => (repeat' (first | (with_reducible first | exact True.intro | refine And.intro ?_ ?_ | refine Head.mk ?_ ?_ ?_ ?_) | ((conv => lhs; whnf); first | (with_reducible first | rfl | exact vInt_s (by omega)) | exact rfl) | ((conv => whnf); first | (with_reducible first | exact True.intro | refine And.intro ?_ ?_)))) <;> (try (conv => lhs; whnf))
  all_goals (try exact congrArg vInt (by omega))
  · exact locRow_eq (revTo_zero _ xs).symm
  · omega
  rintro i g_ o_ v_ hi
  have hl := revTo_len (0, 0) xs i
  (repeat' (first | (with_reducible first | exact True.intro | refine zQ ?_ | (refine zG hG_ ?_; intro K_ hK_) | (refine zR ?_; intro K_ hK_) | (refine hK_ _ _ ?_; try clear hK_ K_) | refine sq_n ?_ | refine sq_r ?_ | refine sq_e ?_ | refine bq_n ?_ | refine bq_r ?_ | refine bq_q ?_ | refine zB ?_ | refine zX ?_ | refine zT ?_ | refine zK ?_ | refine gq_n ?_ | refine gq_r ?_ | refine gq_e ?_ | refine lq_n ?_ | refine lq_r ?_ | refine lq_e ?_ | refine bq_e (by decide) ?_) | ((with_reducible refine zC (b := ?b_) ?hb_ ?_ ?_); case hb_ => rfl) | ((conv => whnf); first | (with_reducible refine hK_ _ _ ?_; try clear hK_ K_) | (with_reducible refine fun (g_ : Sl) (o_ : Ow) => ?_) | (with_reducible first | exact True.intro | refine And.intro trivial ?_ | refine And.intro ?_ ?_) | exact Nat.le_of_ble_eq_true rfl | exact Or.inl rfl | (intro h_; cases h_) | (intro h_; (try simp only [vS1] at h_)) | rfl))) <;> (try (conv => whnf)) <;> (try first | change (_ : Int) ≤ _ | change (_ : Nat) ≤ _) <;> (try ((fail_if_success (with_reducible apply Exists.intro)); (try dsimp only); (try simp only [vS1]))) <;> (try simp (disch := omega) only [vS3, vS2] at *)
  all_goals (try (fail_if_success (with_reducible apply Exists.intro)); first | with_reducible assumption | omega | exact mdl (by omega) | exact ilo1 (by omega) | exact ilo2 (by omega) | exact ihi1 (by omega) (by omega) | exact ihi2 (by omega) (by omega))
  · refine ⟨i + 1, by omega, by omega, ?_⟩
    (repeat' (first | (with_reducible first | exact True.intro | refine And.intro ?_ ?_ | refine Head.mk ?_ ?_ ?_ ?_) | ((conv => lhs; whnf); first | (with_reducible first | rfl | exact vInt_s (by omega)) | exact rfl) | ((conv => whnf); first | (with_reducible first | exact True.intro | refine And.intro ?_ ?_)))) <;> (try (conv => lhs; whnf))
    · exact congrArg vInt (by omega)
    · rw [show ((xs.length : Int) - 1 - i).toNat = xs.length - 1 - i by omega]
      exact locRow_eq (revTo_step (0, 0) (by omega))
  · exact congrArg some (revTo_end (0, 0) (by omega))
end Go.Proofs.Ytnepfcnlngpchaa
namespace Go.Proofs.Ytnepfcnlngpchaa
open Go.RowKit Go.Proofs.Ytnepfcnlngpchaa.Nm
set_option maxRecDepth 10000
set_option maxHeartbeats 2000000
theorem compM_snoc {a b : Pt} : ∀ {l : List Pt}, l.getLast? = some b → compM (l ++ [a]) = if b = a then compM l else compM l ++ [a]
  | [], h => by cases h
  | [x], h => by
    have : x = b := by simpa using h
    subst this
    show compM [x, a] = _
    unfold compM
    by_cases e : x = a
    · subst e; rw [if_pos rfl, if_pos rfl]; rfl
    · rw [if_neg e, if_neg e]; rfl
  | x :: y :: r, h => by
    rw [List.getLast?_cons_cons] at h
    have ih := compM_snoc (a := a) h
    show compM (x :: y :: (r ++ [a])) = _
    rw [show y :: r ++ [a] = y :: (r ++ [a]) from rfl] at ih
    rw [compM, ih, compM]
    by_cases e : x = y
    · rw [if_pos e, if_pos e]
    · rw [if_neg e, if_neg e]
      split <;> simp
theorem take_last {l : List Pt} {k : Nat} (h0 : 0 < k) (h : k ≤ l.length) : (l.take k).getLast? = some (pAt l (k - 1)) := by
  rw [List.getLast?_eq_getElem?, List.length_take, Nat.min_eq_left h, List.getElem?_take, if_pos (by omega), show pAt l (k - 1) = l[k - 1] from getD_lt _ (by omega)]
  exact List.getElem?_eq_getElem (by omega)
theorem take_snoc' {l : List Pt} {k : Nat} (h : k < l.length) : l.take (k + 1) = l.take k ++ [pAt l k] := by
  rw [List.take_succ_eq_append_getElem h, show pAt l k = l[k] from getD_lt _ h]
theorem comp_take_same {l : List Pt} {k : Nat} (h0 : 0 < k) (h : k < l.length) (e : pAt l (k - 1) = pAt l k) : compM (l.take (k + 1)) = compM (l.take k) := by
  rw [take_snoc' h, compM_snoc (take_last h0 (by omega)), if_pos e]
theorem comp_take_new {l : List Pt} {k : Nat} (h0 : 0 < k) (h : k < l.length) (e : pAt l (k - 1) ≠ pAt l k) : compM (l.take (k + 1)) = compM (l.take k) ++ [pAt l k] := by
  rw [take_snoc' h, compM_snoc (take_last h0 (by omega)), if_neg e]
structure CompSt (xs cur : List Pt) (w m : Nat) : Prop where
  len : cur.length = xs.length
  lt : w < m
  le : m ≤ xs.length
  pos : 0 < w
  kept : cur.take w = compM (xs.take m)
  rest : ∀ j, m - 1 ≤ j → pAt cur j = pAt xs j
theorem pAt_set {l : List Pt} {k j : Nat} {x : Pt} (h : k < l.length) : pAt (l.set k x) j = if k = j then x else pAt l j := by
  rw [pAt, pAt, List.getD_eq_getElem?_getD, List.getD_eq_getElem?_getD, List.getElem?_set]
  split
  · first | rfl | (rw [if_pos h]; rfl)
  · rfl
theorem CompSt.same {xs cur : List Pt} {w m : Nat} (h : CompSt xs cur w m) (hm : m < xs.length) (e : pAt cur (m - 1) = pAt cur m) : CompSt xs cur w (m + 1) := by
  have h1 := h.lt
  have h2 := h.pos
  refine ⟨h.len, by omega, by omega, h.pos, ?_, fun j hj => h.rest j (by omega)⟩
  rw [h.kept, comp_take_same (by omega) hm (by rw [← h.rest _ (Nat.le_refl _), ← h.rest m (by omega)]; exact e)]
theorem CompSt.new {xs cur : List Pt} {w m : Nat} (h : CompSt xs cur w m) (hm : m < xs.length) (e : pAt cur (m - 1) ≠ pAt cur m) : CompSt xs (cur.set w (pAt cur m)) (w + 1) (m + 1) := by
  have h1 := h.lt
  have h2 := h.pos
  have h3 := h.len
  refine ⟨by rw [List.length_set]; exact h.len, by omega, by omega, by omega, ?_, fun j hj => ?_⟩
  · rw [comp_take_new (by omega) hm (by rw [← h.rest _ (Nat.le_refl _), ← h.rest m (by omega)]; exact e), ← h.kept, ← h.rest m (by omega)]
    rw [List.take_succ_eq_append_getElem (by rw [List.length_set]; omega), List.getElem_set_self, List.take_set, List.set_eq_of_length_le (by rw [List.length_take]; omega)]
  · rw [pAt_set (by omega), if_neg (by omega)]
    exact h.rest j (by omega)
theorem comp_short {l : List Pt} (h : l.length < 2) : compM l = l := by
  match l, h with
  | [], _ => rfl
  | [a], _ => rfl
  | a :: b :: r, h => exact absurd h (by simp)
def compC : ConW := mkConW [.sl (.b .pt)] 0 t_impl_Point (fun x => x.1.length ≤ 1048576) (fun _ => .tup []) fun x => ⟨.b .pt, compM x.1, true⟩
theorem compact_ok : GoodW Try.prog n_slices_Compact_impl_Point compC := by
  refine good_ofW (tys := tyL) (env := []) (envw := []) (envd := []) [59] [] [] [] [] mixed tys trivial trivial trivial Try.func83 rfl (by kernel_rfl) (by decide) (by kernel_rfl) ?_
  have hG_ := kpz [(0, [0]), (1, [0, 8]), (2, [2]), (3, [0, 3]), (4, [0, 3, 13]), (5, [0, 3]), (6, [0, 3, 25]), (7, [0, 3, 4]), (8, [0, 3, 4, 5]), (9, [0, 3, 4, 5, 32]), (10, [0, 3, 4, 5]), (11, [0, 3, 4, 5, 44]), (12, [0, 3, 4, 5]), (13, [0, 3, 4, 5]), (14, [0, 3]), (15, [2]), (16, [2])] [(0, [1000]), (1, [1000]), (2, [1000]), (3, [1000]), (4, [1000]), (5, [1000]), (6, [1000]), (7, [1000]), (8, [1000]), (9, [1000]), (10, [1000]), (11, [1000]), (12, [1000]), (13, [1000]), (14, [1000]), (15, [59, 1000]), (16, [1000])] [] []
  rintro ⟨(xs : List Pt), ⟨⟩⟩ (h1 : xs.length ≤ _)
  (repeat' (first | (with_reducible first | exact True.intro | refine zQ ?_ | (refine zG hG_ ?_; intro K_ hK_) | (refine zR ?_; intro K_ hK_) | (refine hK_ _ _ ?_; try clear hK_ K_) | refine sq_n ?_ | refine sq_r ?_ | refine sq_e ?_ | refine bq_n ?_ | refine bq_r ?_ | refine bq_q ?_ | refine zB ?_ | refine zX ?_ | refine zT ?_ | refine zK ?_ | refine gq_n ?_ | refine gq_r ?_ | refine gq_e ?_ | refine lq_n ?_ | refine lq_r ?_ | refine lq_e ?_ | refine bq_e (by decide) ?_) | ((with_reducible refine zC (b := ?b_) ?hb_ ?_ ?_); case hb_ => rfl) | ((conv => whnf); first | (with_reducible refine hK_ _ _ ?_; try clear hK_ K_) | (with_reducible refine fun (g_ : Sl) (o_ : Ow) => ?_) | (with_reducible first | exact True.intro | refine And.intro trivial ?_ | refine And.intro ?_ ?_) | exact Nat.le_of_ble_eq_true rfl | exact Or.inl rfl | (intro h_; cases h_) | (intro h_; (try simp only [vS1] at h_)) | rfl))) <;> (try (conv => whnf)) <;> (try first | change (_ : Int) ≤ _ | change (_ : Nat) ≤ _) <;> (try ((fail_if_success (with_reducible apply Exists.intro)); (try dsimp only); (try simp only [vS1]))) <;> (try simp (disch := omega) only [vS3, Int.add_sub_cancel, tn1, tnp, tnc, vS2] at *)
  all_goals (try (fail_if_success (with_reducible apply Exists.intro)); first | with_reducible assumption | omega | exact mdl (by omega) | exact ilo1 (by omega) | exact ilo2 (by omega) | exact ihi1 (by omega) (by omega) | exact ihi2 (by omega) (by omega))
  · rw [comp_short (by omega)]; rfl
  have hn : 2 ≤ xs.length := by omega
  refine awp'_loopG (α := Nat) (fun k ver_ => [(3, vInt k)]) (fun k ver_ => []) (fun k ver_ => []) (fun k => (1 ≤ k ∧ k ≤ xs.length) ∧ compM (xs.take k) = xs.take k) (fun k => xs.length - k) [0] [1000] (1) ?_
  conv => whnf
  refine ⟨⟨?inv1_, ?vals1_, ?own1_, ?fix1_⟩, ?body1_⟩
  case' vals1_ => (repeat' (first | (with_reducible first | exact True.intro | refine And.intro ?_ ?_ | refine Head.mk ?_ ?_ ?_ ?_) | ((conv => lhs; whnf); first | (with_reducible first | rfl | exact vInt_s (by omega)) | exact rfl) | ((conv => whnf); first | (with_reducible first | exact True.intro | refine And.intro ?_ ?_)))) <;> (try (conv => lhs; whnf))
  case' own1_ => (repeat' (first | (with_reducible first | exact True.intro | refine And.intro ?_ ?_ | refine Head.mk ?_ ?_ ?_ ?_) | ((conv => lhs; whnf); first | (with_reducible first | rfl | exact vInt_s (by omega)) | exact rfl) | ((conv => whnf); first | (with_reducible first | exact True.intro | refine And.intro ?_ ?_)))) <;> (try (conv => lhs; whnf))
  case' fix1_ => (repeat' (first | (with_reducible first | exact True.intro | refine And.intro ?_ ?_ | refine Head.mk ?_ ?_ ?_ ?_) | ((conv => lhs; whnf); first | (with_reducible first | rfl | exact vInt_s (by omega)) | exact rfl) | ((conv => whnf); first | (with_reducible first | exact True.intro | refine And.intro ?_ ?_)))) <;> (try (conv => lhs; whnf))
  · exact ⟨⟨by omega, by omega⟩, by rw [comp_short (by rw [List.length_take]; omega)]⟩
  rintro k g_ o_ v_ ⟨⟨hk1, hk⟩, hcm⟩
  (repeat' (first | (with_reducible first | exact True.intro | refine zQ ?_ | (refine zG hG_ ?_; intro K_ hK_) | (refine zR ?_; intro K_ hK_) | (refine hK_ _ _ ?_; try clear hK_ K_) | refine sq_n ?_ | refine sq_r ?_ | refine sq_e ?_ | refine bq_n ?_ | refine bq_r ?_ | refine bq_q ?_ | refine zB ?_ | refine zX ?_ | refine zT ?_ | refine zK ?_ | refine gq_n ?_ | refine gq_r ?_ | refine gq_e ?_ | refine lq_n ?_ | refine lq_r ?_ | refine lq_e ?_ | refine bq_e (by decide) ?_) | ((with_reducible refine zC (b := ?b_) ?hb_ ?_ ?_); case hb_ => rfl) | ((conv => whnf); first | (with_reducible refine hK_ _ _ ?_; try clear hK_ K_) | (with_reducible refine fun (g_ : Sl) (o_ : Ow) => ?_) | (with_reducible first | exact True.intro | refine And.intro trivial ?_ | refine And.intro ?_ ?_) | exact Nat.le_of_ble_eq_true rfl | exact Or.inl rfl | (intro h_; cases h_) | (intro h_; (try simp only [vS1] at h_)) | rfl))) <;> (try (conv => whnf)) <;> (try first | change (_ : Int) ≤ _ | change (_ : Nat) ≤ _) <;> (try ((fail_if_success (with_reducible apply Exists.intro)); (try dsimp only); (try simp only [vS1]))) <;> (try simp (disch := omega) only [vS3, Int.add_sub_cancel, tn1, tnp, tnc, vS2] at *)
  all_goals (try (fail_if_success (with_reducible apply Exists.intro)); first | with_reducible assumption | omega | exact mdl (by omega) | exact ilo1 (by omega) | exact ilo2 (by omega) | exact ihi1 (by omega) (by omega) | exact ihi2 (by omega) (by omega))
  · have hdup : pAt xs (k - 1) = pAt xs k := Eq.symm ‹xs.getD k _ = _›
    refine awp'_loopG (α := List Pt × Nat × Nat) (fun q ver_ => [(3, vInt q.2.1), (5, vInt q.2.2)]) (fun q ver_ => []) (fun q ver_ => [(1000, ⟨0, .row t_impl_Point (.b .pt) q.1⟩)]) (fun q => CompSt xs q.1 q.2.1 (k + q.2.2) ∧ 1 ≤ q.2.2) (fun q => xs.length - q.2.2) [0, 4] [] ((xs, k, 1)) ?_
    conv => whnf
    refine ⟨⟨?inv2_, ?vals2_, ?own2_, ?fix2_⟩, ?body2_⟩
    case' vals2_ => (repeat' (first | (with_reducible first | exact True.intro | refine And.intro ?_ ?_ | refine Head.mk ?_ ?_ ?_ ?_) | ((conv => lhs; whnf); first | (with_reducible first | rfl | exact vInt_s (by omega)) | exact rfl) | ((conv => whnf); first | (with_reducible first | exact True.intro | refine And.intro ?_ ?_)))) <;> (try (conv => lhs; whnf))
    case' own2_ => (repeat' (first | (with_reducible first | exact True.intro | refine And.intro ?_ ?_ | refine Head.mk ?_ ?_ ?_ ?_) | ((conv => lhs; whnf); first | (with_reducible first | rfl | exact vInt_s (by omega)) | exact rfl) | ((conv => whnf); first | (with_reducible first | exact True.intro | refine And.intro ?_ ?_)))) <;> (try (conv => lhs; whnf))
    case' fix2_ => (repeat' (first | (with_reducible first | exact True.intro | refine And.intro ?_ ?_ | refine Head.mk ?_ ?_ ?_ ?_) | ((conv => lhs; whnf); first | (with_reducible first | rfl | exact vInt_s (by omega)) | exact rfl) | ((conv => whnf); first | (with_reducible first | exact True.intro | refine And.intro ?_ ?_)))) <;> (try (conv => lhs; whnf))
    · exact ⟨⟨rfl, by show k < k + 1; omega, by show k + 1 ≤ _; omega, hk1, by show xs.take k = compM (xs.take (k + 1)); rw [comp_take_same (by omega) (by omega) hdup, hcm], fun j _ => rfl⟩, Nat.le_refl _⟩
    rintro ⟨cur, w, m⟩ g_ o_ v_ ⟨hst, hm1⟩
    have hst : CompSt xs cur w (k + m) := hst
    have hm1 : 1 ≤ m := hm1
    have q1 := hst.len
    have q2 := hst.lt
    have q3 := hst.le
    have q4 := hst.pos
    (repeat' (first | (with_reducible first | exact True.intro | refine zQ ?_ | (refine zG hG_ ?_; intro K_ hK_) | (refine zR ?_; intro K_ hK_) | (refine hK_ _ _ ?_; try clear hK_ K_) | refine sq_n ?_ | refine sq_r ?_ | refine sq_e ?_ | refine bq_n ?_ | refine bq_r ?_ | refine bq_q ?_ | refine zB ?_ | refine zX ?_ | refine zT ?_ | refine zK ?_ | refine gq_n ?_ | refine gq_r ?_ | refine gq_e ?_ | refine lq_n ?_ | refine lq_r ?_ | refine lq_e ?_ | refine bq_e (by decide) ?_) | ((with_reducible refine zC (b := ?b_) ?hb_ ?_ ?_); case hb_ => rfl) | ((conv => whnf); first | (with_reducible refine hK_ _ _ ?_; try clear hK_ K_) | (with_reducible refine fun (g_ : Sl) (o_ : Ow) => ?_) | (with_reducible first | exact True.intro | refine And.intro trivial ?_ | refine And.intro ?_ ?_) | exact Nat.le_of_ble_eq_true rfl | exact Or.inl rfl | (intro h_; cases h_) | (intro h_; (try simp only [vS1] at h_)) | rfl))) <;> (try (conv => whnf)) <;> (try first | change (_ : Int) ≤ _ | change (_ : Nat) ≤ _) <;> (try ((fail_if_success (with_reducible apply Exists.intro)); (try dsimp only); (try simp only [vS1]))) <;> (try simp (disch := omega) only [vS3, Int.add_sub_cancel, tn1, tnp, tnc, vS2] at *)
    all_goals (try (fail_if_success (with_reducible apply Exists.intro)); first | with_reducible assumption | omega | exact mdl (by omega) | exact ilo1 (by omega) | exact ilo2 (by omega) | exact ihi1 (by omega) (by omega) | exact ihi2 (by omega) (by omega))
    · refine ⟨(cur.set w (pAt cur (k + m)), w + 1, m + 1), by show _ - (m + 1) < _; omega, ⟨?_, by show 1 ≤ m + 1; omega⟩, ?_⟩
      · show CompSt xs (cur.set w (pAt cur (k + m))) (w + 1) (k + (m + 1))
        refine hst.new (by omega) fun e => absurd e.symm ?_
        rw [show k + m - 1 = k + (m - 1) by omega]
        assumption
      · (repeat' (first | (with_reducible first | exact True.intro | refine And.intro ?_ ?_ | refine Head.mk ?_ ?_ ?_ ?_) | ((conv => lhs; whnf); first | (with_reducible first | rfl | exact vInt_s (by omega)) | exact rfl) | ((conv => whnf); first | (with_reducible first | exact True.intro | refine And.intro ?_ ?_)))) <;> (try (conv => lhs; whnf))
    · refine ⟨(cur, w, m + 1), by show _ - (m + 1) < _; omega, ⟨?_, by show 1 ≤ m + 1; omega⟩, ?_⟩
      · show CompSt xs cur w (k + (m + 1))
        refine hst.same (by omega) ?_
        rw [show k + m - 1 = k + (m - 1) by omega]
        exact Eq.symm (by assumption)
      · (repeat' (first | (with_reducible first | exact True.intro | refine And.intro ?_ ?_ | refine Head.mk ?_ ?_ ?_ ?_) | ((conv => lhs; whnf); first | (with_reducible first | rfl | exact vInt_s (by omega)) | exact rfl) | ((conv => whnf); first | (with_reducible first | exact True.intro | refine And.intro ?_ ?_)))) <;> (try (conv => lhs; whnf))
    · rw [putL_len _ _ _ (by rw [List.length_replicate]; omega)]; omega
    · refine congrArg some ?_
      have e1 : compM xs = cur.take w := by rw [hst.kept, List.take_of_length_le (by omega)]
      rw [e1]
      unfold putL
      rw [List.take_append_of_le_length (by rw [List.length_take]; omega), List.take_take, Nat.min_self]
  · refine ⟨k + 1, by omega, ⟨⟨by omega, by omega⟩, ?_⟩, by (repeat' (first | (with_reducible first | exact True.intro | refine And.intro ?_ ?_ | refine Head.mk ?_ ?_ ?_ ?_) | ((conv => lhs; whnf); first | (with_reducible first | rfl | exact vInt_s (by omega)) | exact rfl) | ((conv => whnf); first | (with_reducible first | exact True.intro | refine And.intro ?_ ?_)))) <;> (try (conv => lhs; whnf))⟩
    rw [comp_take_new (by omega) (by omega) (fun e => absurd e.symm (by assumption)), hcm, take_snoc' (by omega)]
  · rw [List.take_of_length_le (by omega)] at hcm
    rw [hcm]; rfl
end Go.Proofs.Ytnepfcnlngpchaa
namespace Go.Proofs.Ytnepfcnlngpchaa
open Go.Shelf Go.RowKit Go.Lib Go.Sort Go.Proofs.Ytnepfcnlngpchaa.Nm
def hcCmp (x y : Pt2) : Int := if x.2 ≠ y.2 then wrap64 (x.2 - y.2) else wrap64 (x.1 - y.1)
set_option maxHeartbeats 2000000 in
theorem hc_k (x y : Pt2) (W : World) :
    Calls Try.prog 82 #[.agg #[.int .i64 x.1, .int .i64 x.2], .agg #[.int .i64 y.1, .int .i64 y.2]] W fun e w' => e = .returned (.int .i64 (hcCmp x y)) ∧ ∃ q os, w' = grow (W.drewN q) os := by
  unfold hcCmp
  by_cases h : x.2 = y.2
  · have hb : ((x.2 : Int) != y.2) = false := by simp [h]
    rw [if_neg (by simpa using h)]
    go_enter Try.func82, Try.ntmps82
    go_wp2
    go_ret
    exact ⟨rfl, 0, _, by rw [alloc_eq_grow, alloc_eq_grow, grow_grow]; rfl⟩
  · have hb : ((x.2 : Int) != y.2) = true := by simp [h]
    rw [if_pos h]
    go_enter Try.func82, Try.ntmps82
    go_wp2
    go_ret
    exact ⟨rfl, 0, _, by rw [alloc_eq_grow, alloc_eq_grow, grow_grow]; rfl⟩
abbrev BPt := { p : Pt // Bd p }
instance : Inhabited BPt := ⟨⟨default, bd_default⟩⟩
theorem hc_lt {x y : BPt} : ltOf (fun x y : BPt => hcCmp x.1 y.1) x y = pLess x.1 y.1 := by
  have hx := x.2
  have hy := y.2
  unfold Bd at hx hy
  have w : ∀ n : Int, -9223372036854775808 ≤ n → n ≤ 9223372036854775807 → wrap64 n = n := fun n h1 h2 => by unfold wrap64; omega
  unfold ltOf pLess hcCmp
  dsimp only
  split
  · rw [w _ (by omega) (by omega)]; exact decide_eq_decide.2 (by omega)
  · rw [w _ (by omega) (by omega)]; exact decide_eq_decide.2 (by omega)
theorem hc_swo : SWO (ltOf (fun x y : BPt => hcCmp x.1 y.1)) := by
  refine ⟨fun x => ?_, fun x y z h1 h2 => ?_, fun x y z h1 h2 => ?_⟩
  · rw [hc_lt, ← Bool.not_eq_true, pLess_iff]; exact lt_irrefl (.inl rfl)
  · rw [hc_lt, pLess_iff] at *; exact lt_trans (.inl rfl) h1 h2
  · rw [hc_lt, ← Bool.not_eq_true, pLess_iff] at *
    intro h
    rcases lt_total (.inl rfl) x.1 y.1 with e | e | e
    · rw [e] at h; exact h2 h
    · exact h1 e
    · exact h2 (lt_trans (.inl rfl) e h)
theorem hc_tot (x y : BPt) (h1 : ltOf (fun x y : BPt => hcCmp x.1 y.1) x y = false) (h2 : ltOf (fun x y : BPt => hcCmp x.1 y.1) y x = false) : x = y := by
  rw [hc_lt, ← Bool.not_eq_true, pLess_iff] at *
  rcases lt_total (.inl rfl) x.1 y.1 with e | e | e
  · exact Subtype.ext e
  · exact absurd e h1
  · exact absurd e h2
theorem flatB (d : Array BPt) : flatK (fun x : BPt => encP x.1) 2 d = flatK encP 2 (d.map Subtype.val) := by
  refine Array.ext (by rw [size_flatK, size_flatK, Array.size_map]) fun i h1 h2 => ?_
  have e1 := get_flatK (fun x : BPt => encP x.1) 2 d i (by rw [size_flatK] at h1; exact h1)
  have e2 := get_flatK encP 2 (d.map Subtype.val) i (by rw [size_flatK] at h2; exact h2)
  rw [getElem!_pos _ i h1] at e1
  rw [getElem!_pos _ i h2] at e2
  rw [e1, e2]
  have hi : i / 2 < d.size := by rw [size_flatK] at h1; omega
  rw [getElem!_pos d _ hi, getElem!_pos (d.map Subtype.val) _ (by simpa using hi), Array.getElem_map]
structure BdAll (xs : List Pt2) : Prop where
  all : ∀ p ∈ xs, Bd p
def bSort (xs : List Pt2) : List Pt2 := xs.mergeSort fun p q => !pLess q p
def hsortC : ConW := mkConW [.sl (.b .pt), .clo] 0 t_impl_Point (fun x => (0 < x.1.length ∧ x.1.length ≤ 1048576) ∧ BdAll x.1 ∧ x.2.1 = (n_impl_HullOf_1, [])) (fun _ => .tup []) fun x => ⟨.b .pt, bSort x.1, false⟩
theorem hsort_snd : SoundW Try.prog n_slices_SortFunc_impl_Point hsortC := by
  intro w F args vs a0 l ver (x : Args [.sl (.b .pt), .clo]) s k xs ys cells ha hoc hoth hpat hpre hcast hbase hF hlen hargs hw hrow hs hone
  have hpat : decs [.sl (.b .pt), .clo] (setA args 0 (ownAs a0 (.d (.sl none k xs)))) = some x := hpat
  have ha : nthA args 0 = some a0 := ha
  match args, vs, ha, hpat, hlen, hargs with
  | [], _, ha, _, _, _ => cases ha
  | [z], _, _, hpat, _, _ => simp only [setA, decs] at hpat; split at hpat <;> simp_all
  | z :: c :: e :: r, _, _, hpat, _, _ => simp only [setA, decs] at hpat; split at hpat <;> simp_all
  | [z, c], [v0, v1], ha, hpat, hlen, hargs =>
    obtain rfl : z = a0 := Option.some.inj ha
    have h0 := hargs 0 z v0 rfl rfl
    have h1 := hargs 1 c v1 rfl rfl
    have hd : decs [.sl (.b .pt), .clo] [ownAs z (.d (.sl none k xs)), c] = some x := hpat
    obtain ⟨x1, ⟨xf, xc⟩, ⟨⟩⟩ := x
    obtain ⟨⟨hp1, hp2⟩, hbd0, hp3⟩ := hpre
    have hp1 : 0 < x1.length := hp1
    have hp2 : x1.length ≤ 1048576 := hp2
    have hbd : ∀ p ∈ x1, Bd p := (show BdAll x1 from hbd0).all
    clear hbd0
    have hp3 : (xf, xc) = (n_impl_HullOf_1, ([] : List D)) := hp3
    injection hp3 with hf hc
    subst hf hc
    have hz : z = .one (.own l ver) := by
      unfold ownCell at hoc
      split at hoc
      · injection hoc with hoc; injection hoc with e1 e2; rw [e1, e2]
      · simp only [ownAs, decs, Ty.dec] at hd; cases hd
      · cases hoc
    subst hz
    obtain ⟨⟨ek, he⟩, hcc⟩ := decs_sort hd
    subst ek
    have he : xs = x1 := he
    subst he
    subst hcc
    have hv0 : v0 = s := h0
    subst hv0
    obtain rfl : v1 = .func (.func n_impl_HullOf_1) #[] #[] := by
      have h1 : DC w F (.clo n_impl_HullOf_1 []) v1 := h1
      cases h1 with
      | clo us hl h =>
        have : us = [] := List.eq_nil_of_length_eq_zero hl
        subst this
        rfl
    have hys : ys = bSort xs := by
      have : castL (.b .pt) (.b .pt) (bSort xs) = some ys := hcast
      exact (Option.some.inj this).symm
    subst hys
    have hw : w.ownsRow 0 t_impl_Point 2 v0 xs.length cells := hw
    obtain ⟨g, cap, cur, hv0, hh, hn, hm, hcs, hK⟩ := holds_of_own hw hrow hp1
    subst hv0
    obtain ⟨hg, hgF⟩ := hs g rfl
    have eg : ∀ args w, (callFunc n_impl_HullOf_1 args).run Try.prog w = .ok (.enter n_impl_HullOf_1 args) w := enters_of Try.func82 (by kernel_rfl) rfl
    have hmap : (xs.attachWith Bd hbd).map Subtype.val = xs := List.ext_getElem (by simp) fun i h1 h2 => by simp
    have hmapA : (xs.attachWith Bd hbd).toArray.map Subtype.val = xs.toArray := by rw [List.map_toArray, hmap]
    have hsz : (xs.attachWith Bd hbd).toArray.size = xs.length := by simp
    have hK' : HoldsK (fun x : BPt => encP x.1) 2 w g 0 (xs.attachWith Bd hbd).toArray := by
      unfold HoldsK at hK ⊢
      rw [flatB, hmapA]
      exact hK
    have hcmp : CmpLays Try.prog n_impl_HullOf_1 #[] (fun x : BPt => encP x.1) 2 (fun x y : BPt => hcCmp x.1 y.1) g 0 (xs.attachWith Bd hbd).toArray.size w := fun m os dk hdk x y => hc_k x.1 y.1 _
    have hmain := AnyQ.slices_SortFunc_total sort_lay 2 sort_agg sort_size (fun x : BPt => encP x.1) (fun x => encP_len x.1) (fun x => encP_one x.1) (fun x y : BPt => hcCmp x.1 y.1) hc_swo n_impl_HullOf_1 #[] g 0 cap (xs.attachWith Bd hbd).toArray w eg hcmp hK' hg (by rw [hsz]; omega) hc_tot
    rw [hsz] at hmain
    have hmain' : Calls Try.prog n_slices_SortFunc_impl_Point #[.slice (some ⟨g, 0, none⟩) xs.length cap, .func (.func n_impl_HullOf_1) #[] #[]] w fun e w' => e = .returned (.tuple #[]) ∧ ∃ n os, w' = sortWorldK (fun x : BPt => encP x.1) 2 w g 0 n ((xs.attachWith Bd hbd).mergeSort fun x y => !(ltOf (fun x y : BPt => hcCmp x.1 y.1)) y x).toArray os := hmain
    refine hmain'.mono ?_
    rintro e w' ⟨rfl, n, os, rfl⟩
    have hres : (((xs.attachWith Bd hbd).mergeSort fun x y => !(ltOf (fun x y : BPt => hcCmp x.1 y.1)) y x).toArray).map Subtype.val = (bSort xs).toArray := by
      rw [List.map_toArray, List.map_mergeSort (s := fun p q => !pLess q p) (fun a _ b _ => by rw [hc_lt]), hmap]
      rfl
    have hworld : sortWorldK (fun x : BPt => encP x.1) 2 w g 0 n ((xs.attachWith Bd hbd).mergeSort fun x y => !(ltOf (fun x y : BPt => hcCmp x.1 y.1)) y x).toArray os = sortWorldK encP 2 w g 0 n (bSort xs).toArray os := by
      unfold sortWorldK putRowK
      rw [flatB, hres]
    rw [hworld]
    have hdl : (bSort xs).length = xs.length := List.length_mergeSort _
    obtain ⟨ha1, ha2⟩ := after_sort (n := n) (os := os) (ys := bSort xs) hh (by rw [hdl]; exact hn) hm hcs
    rw [hdl] at ha2
    exact ⟨.tuple #[], .slice (some ⟨g, 0, none⟩) xs.length cap, _, rfl, ha1, fun b hb => .inl hb, by rw [hdl]; exact ha2, rowC_flat _ F _, rfl, rfl, [], rfl, rfl, fun j x u hx => by simp at hx⟩
theorem hsort_ok : GoodW Try.prog (n_slices_SortFunc_impl_Point) hsortC := by
  exact ⟨hsort_snd, _, Try.func81, by decide, rfl⟩
end Go.Proofs.Ytnepfcnlngpchaa
namespace Go.Proofs.Ytnepfcnlngpchaa
open Go.RowKit Go.Proofs.Ytnepfcnlngpchaa.Nm
set_option maxRecDepth 10000
set_option maxHeartbeats 2000000
def neighZ (n i k : Int) : Bool := decide (Int.tmod (i + 1) n = k) || decide (Int.tmod (k + 1) n = i)
def neighC : Con := mkCon [.room, .int, .int] (fun x => 0 < x.1.length ∧ x.1.length ≤ 1048576 ∧ (-1000 ≤ x.2.1 ∧ x.2.1 ≤ 1000) ∧ (-1000 ≤ x.2.2.1 ∧ x.2.2.1 ≤ 1000)) fun x => vB (neighZ x.1.length x.2.1 x.2.2.1)
theorem neighbors_ok : Good1 Try.prog n_impl_neighbors neighC := by
  refine good_ofG (tys := tyL) (env := []) (envw := []) (envd := []) [] [] [] [] [] mixed tys trivial trivial trivial Try.func89 rfl (by kernel_rfl) (by decide) (by kernel_rfl) ?_
  have hG_ := kpz [(0, [1, 2, 3]), (1, [1, 2, 7]), (2, [6])] [] [] []
  rintro ⟨(xs : List Pt), (i : Int), (k : Int), ⟨⟩⟩ ⟨(h0 : 0 < xs.length), (h1 : xs.length ≤ _), ⟨(h2 : -1000 ≤ i), (h3 : i ≤ 1000)⟩, (h4 : -1000 ≤ k), (h5 : k ≤ 1000)⟩
  (repeat' (first | (with_reducible first | exact True.intro | refine zQ ?_ | (refine zG hG_ ?_; intro K_ hK_) | (refine zR ?_; intro K_ hK_) | (refine hK_ _ _ ?_; try clear hK_ K_) | refine sq_n ?_ | refine sq_r ?_ | refine sq_e ?_ | refine bq_n ?_ | refine bq_r ?_ | refine bq_q ?_ | refine zB ?_ | refine zX ?_ | refine zT ?_ | refine zK ?_ | refine gq_n ?_ | refine gq_r ?_ | refine gq_e ?_ | refine lq_n ?_ | refine lq_r ?_ | refine lq_e ?_ | refine bq_e (by decide) ?_) | ((with_reducible refine zC (b := ?b_) ?hb_ ?_ ?_); case hb_ => rfl) | ((conv => whnf); first | (with_reducible refine hK_ _ _ ?_; try clear hK_ K_) | (with_reducible refine fun (g_ : Sl) (o_ : Ow) => ?_) | (with_reducible first | exact True.intro | refine And.intro trivial ?_ | refine And.intro ?_ ?_) | exact Nat.le_of_ble_eq_true rfl | exact Or.inl rfl | (intro h_; cases h_) | (intro h_; (try simp only [vS1] at h_)) | rfl))) <;> (try (conv => whnf)) <;> (try first | change (_ : Int) ≤ _ | change (_ : Nat) ≤ _) <;> (try ((fail_if_success (with_reducible apply Exists.intro)); (try dsimp only); (try simp only [vS1]))) <;> (try simp (disch := omega) only [vS3, Int.add_sub_cancel, tn1, tnp, tnc, vS2] at *)
  all_goals (try (fail_if_success (with_reducible apply Exists.intro)); first | with_reducible assumption | omega | exact mdl (by omega) | exact ilo1 (by omega) | exact ilo2 (by omega) | exact ihi1 (by omega) (by omega) | exact ihi2 (by omega) (by omega))
  · unfold neighZ; rw [decide_eq_true h_]; rfl
  · unfold neighZ; rw [decide_eq_false h_]; rfl
def diagC (xs : List Pt) (i k : Nat) : Bool := seesS xs (pAt xs i) (pAt xs k) && (freeTo xs i k xs.length && decide (midM xs (pAt xs i) (pAt xs k) = 2))
def diagM (xs : List Pt) (i k : Int) : Bool := btw i 0 (xs.length - 1) && (btw k 0 (xs.length - 1) && (!decide (i = k) && (!neighZ xs.length i k && diagC xs i.toNat k.toNat)))
theorem diagC_iff {xs : List Pt} {i k : Nat} : diagC xs i k = true ↔ seesS xs (pAt xs i) (pAt xs k) = true ∧ freeTo xs i k xs.length = true ∧ midM xs (pAt xs i) (pAt xs k) = 2 := by
  unfold diagC; simp only [Bool.and_eq_true, decide_eq_true_eq]
theorem diagM_iff {xs : List Pt} {i k : Int} : diagM xs i k = true ↔ btw i 0 (xs.length - 1) = true ∧ btw k 0 (xs.length - 1) = true ∧ i ≠ k ∧ neighZ xs.length i k = false ∧ diagC xs i.toNat k.toNat = true := by
  unfold diagM; simp only [Bool.and_eq_true, Bool.not_eq_true', decide_eq_false_iff_not, ne_eq]
theorem room_inj {xs : List Pt} (hr : roomOk xs = true) {i j : Nat} (hi : i < xs.length) (hj : j < xs.length) (e : pAt xs i = pAt xs j) : i = j := by
  rw [show pAt xs i = xs[i] from getD_lt _ hi, show pAt xs j = xs[j] from getD_lt _ hj] at e
  exact (List.getElem_inj (room_nodup hr)).1 e
end Go.Proofs.Ytnepfcnlngpchaa
namespace Go.Proofs.Ytnepfcnlngpchaa
open Go.RowKit
abbrev gI (l : List Int) (k : Nat) : Int := l.getD k 0
def prvN (n i : Nat) : Nat := (i + n - 1) % n
def nxtN (n i : Nat) : Nat := (i + 1) % n
def cutM (xs : List Pt) (l : List Int) (i : Nat) : Bool :=
  ((diagM xs (gI l (prvN l.length i)) (gI l (nxtN l.length i)) || neighZ xs.length (gI l (prvN l.length i)) (gI l (nxtN l.length i))) && decide (0 < turn (pI xs (gI l (prvN l.length i))) (pI xs (gI l i)) (pI xs (gI l (nxtN l.length i))))) &&
  l.all fun x => decide (x = gI l (prvN l.length i)) || (decide (x = gI l i) || (decide (x = gI l (nxtN l.length i)) || !inTri (pI xs (gI l (prvN l.length i))) (pI xs (gI l i)) (pI xs (gI l (nxtN l.length i))) (pI xs x)))
theorem cutM_iff {xs : List Pt} {l : List Int} {i : Nat} : cutM xs l i = true ↔ (diagM xs (gI l (prvN l.length i)) (gI l (nxtN l.length i)) = true ∨ neighZ xs.length (gI l (prvN l.length i)) (gI l (nxtN l.length i)) = true) ∧
    0 < turn (pI xs (gI l (prvN l.length i))) (pI xs (gI l i)) (pI xs (gI l (nxtN l.length i))) ∧
    ∀ j, j < l.length → gI l j = gI l (prvN l.length i) ∨ gI l j = gI l i ∨ gI l j = gI l (nxtN l.length i) ∨ inTri (pI xs (gI l (prvN l.length i))) (pI xs (gI l i)) (pI xs (gI l (nxtN l.length i))) (pI xs (gI l j)) = false := by
  unfold cutM
  simp only [Bool.and_eq_true, Bool.or_eq_true, decide_eq_true_eq, List.all_eq_true, Bool.not_eq_true']
  constructor
  · rintro ⟨⟨h1, h2⟩, h3⟩
    refine ⟨h1, h2, fun j hj => h3 _ ?_⟩
    rw [show gI l j = l[j] from getD_lt _ hj]
    exact List.getElem_mem _
  · rintro ⟨h1, h2, h3⟩
    refine ⟨⟨h1, h2⟩, fun x hx => ?_⟩
    obtain ⟨j, hj, rfl⟩ := List.getElem_of_mem hx
    have := h3 j hj
    rwa [show gI l j = l[j] from getD_lt _ hj] at this
def firstCut (xs : List Pt) (l : List Int) : Option Nat := (List.range l.length).find? (cutM xs l)
theorem firstCut_spec {xs : List Pt} {l : List Int} {i : Nat} (h : firstCut xs l = some i) : i < l.length ∧ cutM xs l i = true := by
  unfold firstCut at h
  rw [List.find?_range_eq_some] at h
  exact ⟨List.mem_range.1 h.2.1, h.1⟩
def triS (a b c : Int) : Tri := (min (min a b) c, a + b + c - min (min a b) c - max (max a b) c, max (max a b) c)
def triAt (l : List Int) (i : Nat) : Tri := triS (gI l (prvN l.length i)) (gI l i) (gI l (nxtN l.length i))
def triRun (xs : List Pt) : Nat → List Int → List Tri → List Tri
  | 0, l, out => out ++ [triS (gI l 0) (gI l 1) (gI l 2)]
  | f + 1, l, out => match firstCut xs l with
    | none => []
    | some i => triRun xs f (l.eraseIdx i) (out ++ [triAt l i])
def allC (n : Nat) : List Int := (List.range n).map fun k : Nat => (k : Int)
def trisM (xs : List Pt) : List Tri := if roomOk xs then triRun xs (xs.length - 3) (allC xs.length) [] else []
theorem allC_len (n : Nat) : (allC n).length = n := by simp [allC]
structure Left (n : Nat) (l : List Int) : Prop where
  len : 3 ≤ l.length
  le : l.length ≤ n
  inc : l.Pairwise (· < ·)
  ge : ∀ x ∈ l, 0 ≤ x
  lt : ∀ x ∈ l, x < n
theorem left_all {n : Nat} (h : 3 ≤ n) : Left n (allC n) := by
  refine ⟨by rw [allC_len]; exact h, by rw [allC_len]; exact Nat.le_refl _, ?_, ?_, ?_⟩
  · unfold allC
    rw [List.pairwise_map]
    exact List.pairwise_lt_range.imp fun h => by omega
  all_goals (intro x hx; unfold allC at hx; obtain ⟨k, hk, rfl⟩ := List.mem_map.1 hx; have := List.mem_range.1 hk; omega)
theorem Left.erase {n : Nat} {l : List Int} (h : Left n l) (h4 : 3 < l.length) {i : Nat} (hi : i < l.length) : Left n (l.eraseIdx i) := by
  have hl := List.length_eraseIdx_of_lt hi
  refine ⟨by omega, by have := h.le; omega, h.inc.sublist (List.eraseIdx_sublist _ _), fun x hx => h.ge x ((List.eraseIdx_sublist _ _).mem hx), fun x hx => h.lt x ((List.eraseIdx_sublist _ _).mem hx)⟩
theorem gI_mem {l : List Int} {k : Nat} (h : k < l.length) : gI l k ∈ l := by rw [show gI l k = l[k] from getD_lt _ h]; exact List.getElem_mem _
theorem Left.at {n : Nat} {l : List Int} (h : Left n l) {k : Nat} (hk : k < l.length) : 0 ≤ gI l k ∧ gI l k < n := ⟨h.ge _ (gI_mem hk), h.lt _ (gI_mem hk)⟩
theorem Left.mono {n : Nat} {l : List Int} (h : Left n l) {i j : Nat} (hij : i < j) (hj : j < l.length) : gI l i < gI l j := by
  rw [show gI l i = l[i] from getD_lt _ (by omega), show gI l j = l[j] from getD_lt _ hj]
  exact List.pairwise_iff_getElem.1 h.inc i j (by omega) hj hij
theorem Left.inj {n : Nat} {l : List Int} (h : Left n l) {i j : Nat} (hi : i < l.length) (hj : j < l.length) (e : gI l i = gI l j) : i = j := by
  rcases Nat.lt_trichotomy i j with h1 | h1 | h1
  · have := h.mono h1 hj; omega
  · exact h1
  · have := h.mono h1 hi; omega
theorem prv_lt {n i : Nat} (h : 0 < n) : prvN n i < n := Nat.mod_lt _ h
theorem nxt_lt {n i : Nat} (h : 0 < n) : nxtN n i < n := Nat.mod_lt _ h
theorem prv_eq {n i : Nat} (hi : i < n) : (i = 0 ∧ prvN n i = n - 1) ∨ (0 < i ∧ prvN n i = i - 1) := by
  unfold prvN
  rcases Nat.eq_zero_or_pos i with h | h
  · subst h; exact .inl ⟨rfl, by rw [Nat.zero_add, Nat.mod_eq_of_lt (by omega)]⟩
  · exact .inr ⟨h, by rw [show i + n - 1 = (i - 1) + n by omega, Nat.add_mod_right, Nat.mod_eq_of_lt (by omega)]⟩
theorem nxt_eq {n i : Nat} (hi : i < n) : (i + 1 = n ∧ nxtN n i = 0) ∨ (i + 1 < n ∧ nxtN n i = i + 1) := by
  unfold nxtN
  rcases Nat.lt_or_ge (i + 1) n with h | h
  · exact .inr ⟨h, Nat.mod_eq_of_lt h⟩
  · have : i + 1 = n := by omega
    exact .inl ⟨this, by rw [this, Nat.mod_self]⟩
structure TriSt (xs : List Pt) (s : List Int × List Tri) : Prop where
  left : Left xs.length s.1
  run : triRun xs (s.1.length - 3) s.1 s.2 = trisM xs
  len : s.2.length + s.1.length = xs.length
theorem TriSt.step {xs : List Pt} {s : List Int × List Tri} (h : TriSt xs s) (h4 : 3 < s.1.length) {i : Nat} (hc : firstCut xs s.1 = some i) : TriSt xs (s.1.eraseIdx i, s.2 ++ [triAt s.1 i]) := by
  have hi := (firstCut_spec hc).1
  have hl := List.length_eraseIdx_of_lt hi
  refine ⟨h.left.erase h4 hi, ?_, ?_⟩
  · have hr := h.run
    show triRun xs ((s.1.eraseIdx i).length - 3) _ _ = _
    rw [hl, show s.1.length - 1 - 3 = s.1.length - 4 by omega]
    rw [show s.1.length - 3 = (s.1.length - 4) + 1 by omega] at hr
    unfold triRun at hr
    rw [hc] at hr
    exact hr
  · have := h.len
    show (s.2 ++ [triAt s.1 i]).length + (s.1.eraseIdx i).length = _
    rw [List.length_append, hl]
    simp only [List.length_cons, List.length_nil]
    omega
theorem TriSt.none {xs : List Pt} {s : List Int × List Tri} (h : TriSt xs s) (h4 : 3 < s.1.length) (hc : firstCut xs s.1 = none) : trisM xs = [] := by
  have hr := h.run
  rw [show s.1.length - 3 = (s.1.length - 4) + 1 by omega] at hr
  unfold triRun at hr
  rw [hc] at hr
  exact hr.symm
theorem TriSt.last {xs : List Pt} {s : List Int × List Tri} (h : TriSt xs s) (h3 : s.1.length ≤ 3) : trisM xs = s.2 ++ [triS (gI s.1 0) (gI s.1 1) (gI s.1 2)] := by
  have hr := h.run
  rw [show s.1.length - 3 = 0 by omega] at hr
  exact hr.symm
inductive Cutd : List Int → List Tri → Prop
  | last {l : List Int} (h : l.length = 3) : Cutd l [triS (gI l 0) (gI l 1) (gI l 2)]
  | step {l : List Int} {ts : List Tri} {i : Nat} (h : 3 < l.length) (hi : i < l.length) (hr : Cutd (l.eraseIdx i) ts) : Cutd l (triAt l i :: ts)
theorem Cutd.ne {l : List Int} {ts : List Tri} (h : Cutd l ts) : ts ≠ [] := by cases h <;> simp
theorem triS_six (a b c : Int) : triS a b c = (a, b, c) ∨ triS a b c = (a, c, b) ∨ triS a b c = (b, a, c) ∨ triS a b c = (b, c, a) ∨ triS a b c = (c, a, b) ∨ triS a b c = (c, b, a) := by
  unfold triS
  simp only [Prod.mk.injEq]
  omega
theorem triS_inc {a b c : Int} (h1 : a ≠ b) (h2 : b ≠ c) (h3 : a ≠ c) : (triS a b c).1 < (triS a b c).2.1 ∧ (triS a b c).2.1 < (triS a b c).2.2 := by
  unfold triS
  simp only
  omega
def TriIn (n : Nat) (t : Tri) : Prop := 0 ≤ t.1 ∧ t.1 < t.2.1 ∧ t.2.1 < t.2.2 ∧ t.2.2 < n
theorem triIn_of {n : Nat} {a b c : Int} (h1 : a ≠ b) (h2 : b ≠ c) (h3 : a ≠ c) (ha : 0 ≤ a ∧ a < n) (hb : 0 ≤ b ∧ b < n) (hc : 0 ≤ c ∧ c < n) : TriIn n (triS a b c) := by
  have hi := triS_inc h1 h2 h3
  unfold TriIn
  rcases triS_six a b c with e | e | e | e | e | e <;> rw [e] at hi ⊢ <;> simp only at hi ⊢ <;> omega
theorem prv_ne {n i : Nat} (h3 : 3 ≤ n) (hi : i < n) : prvN n i ≠ i ∧ nxtN n i ≠ i ∧ prvN n i ≠ nxtN n i := by
  rcases prv_eq hi with ⟨h1, h2⟩ | ⟨h1, h2⟩ <;> rcases nxt_eq hi with ⟨h4, h5⟩ | ⟨h4, h5⟩ <;> omega
theorem Left.triAt {n : Nat} {l : List Int} (h : Left n l) {i : Nat} (hi : i < l.length) : TriIn n (triAt l i) := by
  have h3 := h.len
  obtain ⟨e1, e2, e3⟩ := prv_ne h3 hi
  have hp := prv_lt (n := l.length) (i := i) (by omega)
  have hq := nxt_lt (n := l.length) (i := i) (by omega)
  exact triIn_of (fun e => e1 (h.inj hp hi e)) (fun e => e2 (h.inj hq hi e.symm)) (fun e => e3 (h.inj hp hq e)) (h.at hp) (h.at hi) (h.at hq)
theorem Cutd.drop {n : Nat} {l : List Int} {ts : List Tri} (h : Cutd l ts) (hl : Left n l) : ∀ j, j < ts.length → ∃ l', Left n l' ∧ Cutd l' (ts.drop j) := by
  induction h with
  | last h3 =>
    intro j hj
    have : j = 0 := by simpa using hj
    subst this
    exact ⟨_, hl, .last h3⟩
  | step h4 hi hr ih =>
    intro j hj
    cases j with
    | zero => exact ⟨_, hl, .step h4 hi hr⟩
    | succ j => exact ih (hl.erase h4 hi) j (by simpa using hj)
abbrev cI (out : List Int) (x : Int) : Int := out.getD x.toNat 0
def colStep (out : List Int) (t : Tri) : List Int :=
  if cI out t.1 < 0 then out.set t.1.toNat (3 - cI out t.2.1 - cI out t.2.2)
  else if cI out t.2.1 < 0 then out.set t.2.1.toNat (3 - cI out t.2.2 - cI out t.1)
  else if cI out t.2.2 < 0 then out.set t.2.2.toNat (3 - cI out t.1 - cI out t.2.1)
  else out
theorem colStep_len (out : List Int) (t : Tri) : (colStep out t).length = out.length := by
  unfold colStep
  split
  · simp
  · split
    · simp
    · split <;> simp
theorem cI_set {out : List Int} {x y : Int} {v : Int} (hx : 0 ≤ x ∧ x < out.length) (hy : 0 ≤ y) : cI (out.set x.toNat v) y = if y = x then v else cI out y := by
  unfold cI
  rw [getD_set (by omega)]
  by_cases h : y = x
  · subst h; rw [if_pos rfl, if_pos rfl]
  · rw [if_neg h, if_neg (by omega)]
structure Col (n : Nat) (l : List Int) (out : List Int) : Prop where
  len : out.length = n
  yes : ∀ x ∈ l, 0 ≤ cI out x ∧ cI out x ≤ 2
  no : ∀ x : Int, 0 ≤ x → x < n → x ∉ l → cI out x = -1
  ne : ∀ k, k < l.length → cI out (gI l k) ≠ cI out (gI l (nxtN l.length k))
theorem gI_erase {l : List Int} {i j : Nat} (hj : j + 1 < l.length) : gI (l.eraseIdx i) j = if j < i then gI l j else gI l (j + 1) := by
  unfold gI
  rw [List.getD_eq_getElem?_getD, List.getElem?_eraseIdx]
  split <;> rw [← List.getD_eq_getElem?_getD]
theorem mem_gI {l : List Int} {x : Int} : x ∈ l ↔ ∃ k, k < l.length ∧ gI l k = x := by
  rw [List.mem_iff_getElem]
  constructor
  · rintro ⟨k, h, e⟩; exact ⟨k, h, by rw [show gI l k = l[k] from getD_lt _ h, e]⟩
  · rintro ⟨k, h, e⟩; exact ⟨k, h, by rw [← e, show gI l k = l[k] from getD_lt _ h]⟩
theorem Left.mem_erase {n : Nat} {l : List Int} (h : Left n l) {i : Nat} (hi : i < l.length) {x : Int} : x ∈ l.eraseIdx i ↔ x ∈ l ∧ x ≠ gI l i := by
  have hl := List.length_eraseIdx_of_lt hi
  rw [mem_gI, mem_gI, hl]
  constructor
  · rintro ⟨k, hk, e⟩
    rw [gI_erase (by omega)] at e
    split at e
    · exact ⟨⟨k, by omega, e⟩, fun e' => by have := h.inj (i := k) (j := i) (by omega) hi (by rw [e, e']); omega⟩
    · exact ⟨⟨k + 1, by omega, e⟩, fun e' => by have := h.inj (i := k + 1) (j := i) (by omega) hi (by rw [e, e']); omega⟩
  · rintro ⟨⟨k, hk, e⟩, hne⟩
    have hki : k ≠ i := fun e' => hne (by rw [← e, e'])
    rcases Nat.lt_or_ge k i with h1 | h1
    · exact ⟨k, by omega, by rw [gI_erase (by omega), if_pos h1, e]⟩
    · exact ⟨k - 1, by omega, by rw [gI_erase (by omega), if_neg (by omega), show k - 1 + 1 = k by omega, e]⟩
theorem colStep_cut {out : List Int} {p c q : Int} (hc : cI out c < 0) (hp : 0 ≤ cI out p) (hq : 0 ≤ cI out q) : colStep out (triS p c q) = out.set c.toNat (3 - cI out p - cI out q) := by
  unfold colStep
  rcases triS_six p c q with e | e | e | e | e | e <;> rw [e] <;> simp only
  · rw [if_neg (by omega), if_pos hc]; congr 1; omega
  · rw [if_neg (by omega), if_neg (by omega), if_pos hc]
  · rw [if_pos hc]
  · rw [if_pos hc]; congr 1; omega
  · rw [if_neg (by omega), if_neg (by omega), if_pos hc]; congr 1; omega
  · rw [if_neg (by omega), if_pos hc]
theorem Col.step {n : Nat} {l : List Int} {i : Nat} {out : List Int} (hl : Left n l) (h4 : 3 < l.length) (hi : i < l.length) (h : Col n (l.eraseIdx i) out) :
    (cI out (gI l i) = -1 ∧ (0 ≤ cI out (gI l (prvN l.length i)) ∧ cI out (gI l (prvN l.length i)) ≤ 2) ∧ (0 ≤ cI out (gI l (nxtN l.length i)) ∧ cI out (gI l (nxtN l.length i)) ≤ 2)) ∧ Col n l (colStep out (triAt l i)) := by
  have hlen := List.length_eraseIdx_of_lt hi
  obtain ⟨e1, e2, e3⟩ := prv_ne (n := l.length) (by omega) hi
  have hp := prv_lt (n := l.length) (i := i) (by omega)
  have hq := nxt_lt (n := l.length) (i := i) (by omega)
  have hpm : gI l (prvN l.length i) ∈ l.eraseIdx i := (hl.mem_erase hi).2 ⟨gI_mem hp, fun e => e1 (hl.inj hp hi e)⟩
  have hqm : gI l (nxtN l.length i) ∈ l.eraseIdx i := (hl.mem_erase hi).2 ⟨gI_mem hq, fun e => e2 (hl.inj hq hi e)⟩
  have hcn : gI l i ∉ l.eraseIdx i := fun hm => ((hl.mem_erase hi).1 hm).2 rfl
  have hc := h.no _ (hl.at hi).1 (hl.at hi).2 hcn
  have hcp := h.yes _ hpm
  have hcq := h.yes _ hqm
  have hpq : cI out (gI l (prvN l.length i)) ≠ cI out (gI l (nxtN l.length i)) := by
    have key : ∃ k, k < (l.eraseIdx i).length ∧ gI (l.eraseIdx i) k = gI l (prvN l.length i) ∧ gI (l.eraseIdx i) (nxtN (l.eraseIdx i).length k) = gI l (nxtN l.length i) := by
      rcases prv_eq hi with ⟨h1, h2⟩ | ⟨h1, h2⟩
      · refine ⟨l.length - 2, by omega, by rw [gI_erase (by omega), if_neg (by omega), h2]; congr 1; omega, ?_⟩
        rcases nxt_eq (n := (l.eraseIdx i).length) (i := l.length - 2) (by omega) with ⟨g1, g2⟩ | ⟨g1, g2⟩
        · rcases nxt_eq hi with ⟨g3, g4⟩ | ⟨g3, g4⟩
          · omega
          · rw [g2, g4, gI_erase (by omega), if_neg (by omega)]; congr 1; omega
        · omega
      · refine ⟨i - 1, by omega, by rw [gI_erase (by omega), if_pos (by omega), h2], ?_⟩
        rcases nxt_eq hi with ⟨g3, g4⟩ | ⟨g3, g4⟩
        · rcases nxt_eq (n := (l.eraseIdx i).length) (i := i - 1) (by omega) with ⟨g1, g2⟩ | ⟨g1, g2⟩
          · rw [g2, g4, gI_erase (by omega), if_pos (by omega)]
          · omega
        · rcases nxt_eq (n := (l.eraseIdx i).length) (i := i - 1) (by omega) with ⟨g1, g2⟩ | ⟨g1, g2⟩
          · omega
          · rw [g2, g4, gI_erase (by omega), if_neg (by omega)]; congr 1; omega
    obtain ⟨k, k1, k2, k3⟩ := key
    have := h.ne k k1
    rw [k2, k3] at this
    exact this
  refine ⟨⟨hc, hcp, hcq⟩, ?_⟩
  have hs : colStep out (triAt l i) = out.set (gI l i).toNat (3 - cI out (gI l (prvN l.length i)) - cI out (gI l (nxtN l.length i))) := colStep_cut (by omega) hcp.1 hcq.1
  have hcx : 0 ≤ gI l i ∧ gI l i < out.length := by rw [h.len]; exact hl.at hi
  have hget : ∀ y, 0 ≤ y → cI (colStep out (triAt l i)) y = if y = gI l i then 3 - cI out (gI l (prvN l.length i)) - cI out (gI l (nxtN l.length i)) else cI out y := fun y hy => by rw [hs]; exact cI_set hcx hy
  refine ⟨by rw [colStep_len, h.len], fun x hx => ?_, fun x h0 h1 hx => ?_, fun k hk => ?_⟩
  · rw [hget x (hl.ge x hx)]
    split
    · omega
    · exact h.yes x ((hl.mem_erase hi).2 ⟨hx, by assumption⟩)
  · rw [hget x h0, if_neg (fun e => hx (by rw [e]; exact gI_mem hi))]
    exact h.no x h0 h1 (fun hm => hx ((hl.mem_erase hi).1 hm).1)
  · have hkn := nxt_lt (n := l.length) (i := k) (by omega)
    rw [hget _ (hl.at hk).1, hget _ (hl.at hkn).1]
    by_cases hki : k = i
    · subst hki
      rw [if_pos rfl, if_neg (fun e => e2 (hl.inj hq hi e))]
      omega
    · rw [if_neg (fun e => hki (hl.inj hk hi e))]
      by_cases hni : nxtN l.length k = i
      · rw [if_pos (by rw [hni])]
        have hkp : k = prvN l.length i := by
          rcases nxt_eq hk with ⟨g1, g2⟩ | ⟨g1, g2⟩ <;> rcases prv_eq hi with ⟨g3, g4⟩ | ⟨g3, g4⟩ <;> omega
        rw [hkp]
        omega
      · rw [if_neg (fun e => hni (hl.inj hkn hi e))]
        have key : ∃ j, j < (l.eraseIdx i).length ∧ gI (l.eraseIdx i) j = gI l k ∧ gI (l.eraseIdx i) (nxtN (l.eraseIdx i).length j) = gI l (nxtN l.length k) := by
          rcases Nat.lt_or_ge k i with h1 | h1
          · refine ⟨k, by omega, by rw [gI_erase (by omega), if_pos h1], ?_⟩
            rcases nxt_eq hk with ⟨g1, g2⟩ | ⟨g1, g2⟩
            · omega
            · rcases nxt_eq (n := (l.eraseIdx i).length) (i := k) (by omega) with ⟨g3, g4⟩ | ⟨g3, g4⟩
              · omega
              · rw [g2, g4, gI_erase (by omega), if_pos (by omega)]
          · refine ⟨k - 1, by omega, by rw [gI_erase (by omega), if_neg (by omega), show k - 1 + 1 = k by omega], ?_⟩
            rcases nxt_eq hk with ⟨g1, g2⟩ | ⟨g1, g2⟩
            · rcases nxt_eq (n := (l.eraseIdx i).length) (i := k - 1) (by omega) with ⟨g3, g4⟩ | ⟨g3, g4⟩
              · rw [g2, g4, gI_erase (by omega), if_pos (by omega)]
              · omega
            · rcases nxt_eq (n := (l.eraseIdx i).length) (i := k - 1) (by omega) with ⟨g3, g4⟩ | ⟨g3, g4⟩
              · omega
              · rw [g2, g4, gI_erase (by omega), if_neg (by omega)]; congr 1; omega
        obtain ⟨j, j1, j2, j3⟩ := key
        have := h.ne j j1
        rw [j2, j3] at this
        exact this
end Go.Proofs.Ytnepfcnlngpchaa
namespace Go.Proofs.Ytnepfcnlngpchaa
open Go.RowKit Go.Proofs.Ytnepfcnlngpchaa.Nm
set_option maxRecDepth 10000
set_option maxHeartbeats 2000000
def copyC : Con := mkCon [.sl (.b .pt)] (fun x => x.1.length ≤ 1048576) fun x => ptRow x.1
theorem copyPoints_ok : Good1 Try.prog n_impl_copyPoints copyC := by
  refine good_ofG (tys := tyL) (env := []) (envw := []) (envd := []) [3] [] [] [] [] mixed tys trivial trivial trivial Try.func80 rfl (by kernel_rfl) (by decide) (by kernel_rfl) ?_
  have hG_ := kpz [(0, [0]), (1, [2])] [(1, [3])] [] []
  rintro ⟨(xs : List Pt), ⟨⟩⟩ (h1 : xs.length ≤ _)
  (repeat' (first | (with_reducible first | exact True.intro | refine zQ ?_ | (refine zG hG_ ?_; intro K_ hK_) | (refine zR ?_; intro K_ hK_) | (refine hK_ _ _ ?_; try clear hK_ K_) | refine sq_n ?_ | refine sq_r ?_ | refine sq_e ?_ | refine bq_n ?_ | refine bq_r ?_ | refine bq_q ?_ | refine zB ?_ | refine zX ?_ | refine zT ?_ | refine zK ?_ | refine gq_n ?_ | refine gq_r ?_ | refine gq_e ?_ | refine lq_n ?_ | refine lq_r ?_ | refine lq_e ?_ | refine bq_e (by decide) ?_) | ((with_reducible refine zC (b := ?b_) ?hb_ ?_ ?_); case hb_ => rfl) | ((conv => whnf); first | (with_reducible refine hK_ _ _ ?_; try clear hK_ K_) | (with_reducible refine fun (g_ : Sl) (o_ : Ow) => ?_) | (with_reducible first | exact True.intro | refine And.intro trivial ?_ | refine And.intro ?_ ?_) | exact Nat.le_of_ble_eq_true rfl | exact Or.inl rfl | (intro h_; cases h_) | (intro h_; (try simp only [vS1] at h_)) | rfl))) <;> (try (conv => whnf)) <;> (try first | change (_ : Int) ≤ _ | change (_ : Nat) ≤ _) <;> (try ((fail_if_success (with_reducible apply Exists.intro)); (try dsimp only); (try simp only [vS1]))) <;> (try simp (disch := omega) only [vS3, Int.add_sub_cancel, tn1, tnp, tnc, vS2] at *)
  all_goals (try (fail_if_success (with_reducible apply Exists.intro)); first | with_reducible assumption | omega | exact mdl (by omega) | exact ilo1 (by omega) | exact ilo2 (by omega) | exact ihi1 (by omega) (by omega) | exact ihi2 (by omega) (by omega))
def strAt (l : List Pt) (i : Nat) : Bool := decide (turn (pAt l (prvN l.length i)) (pAt l i) (pAt l (nxtN l.length i)) = 0)
def firstStr (l : List Pt) : Option Nat := if 2 < l.length then (List.range l.length).find? (strAt l) else none
def strRun : Nat → List Pt → List Pt
  | 0, l => l
  | f + 1, l => match firstStr l with
    | none => l
    | some i => strRun f (l.eraseIdx i)
def straightM (l : List Pt) : List Pt := strRun l.length l
structure StrSt (xs l : List Pt) : Prop where
  run : strRun l.length l = straightM xs
  len : l.length ≤ xs.length
theorem StrSt.step {xs l : List Pt} (h : StrSt xs l) {i : Nat} (hi : i < l.length) (hf : firstStr l = some i) : StrSt xs (l.eraseIdx i) := by
  have hl := List.length_eraseIdx_of_lt hi
  have hr := h.run
  have := h.len
  refine ⟨?_, by omega⟩
  rw [hl]
  rw [show l.length = (l.length - 1) + 1 by omega] at hr
  unfold strRun at hr
  rw [hf] at hr
  exact hr
end Go.Proofs.Ytnepfcnlngpchaa
namespace Go.Proofs.Ytnepfcnlngpchaa
open Go.RowKit Go.Proofs.Ytnepfcnlngpchaa.Nm
set_option maxRecDepth 10000
set_option maxHeartbeats 4000000
theorem rev_top {α : Type} (d b : α) (t : List α) : ((b :: t).reverse).getD t.length d = b := by
  rw [List.reverse_cons, List.getD_eq_getElem?_getD, List.getElem?_append_right (by simp)]; simp
theorem rev_snd {α : Type} (d b a : α) (r : List α) : ((b :: a :: r).reverse).getD r.length d = a := by
  rw [List.reverse_cons, List.getD_eq_getElem?_getD, List.getElem?_append_left (by simp), List.reverse_cons, List.getElem?_append_right (by simp)]; simp
theorem rev_take {α : Type} (b : α) (t : List α) : ((b :: t).reverse).take t.length = t.reverse := by
  rw [List.reverse_cons, List.take_left' (by simp)]
theorem stackOf_succ {l : List Pt} {k : Nat} (h : k < l.length) : stackOf (l.take (k + 1)) = pAt l k :: popS (stackOf (l.take k)) (pAt l k) := by
  rw [take_snoc' h]
  unfold stackOf
  rw [List.foldl_append]
  rfl
theorem half_take (l : List Pt) : halfM l = (stackOf l).reverse.take ((stackOf l).length - 1) := by
  rw [half_drop, List.dropLast_eq_take, List.length_reverse]
def lowTo (xs : List Pt) : Nat → Int
  | 0 => -1
  | k + 1 => if lowTo xs k < 0 ∨ pLess (pAt xs k) (pAt xs (lowTo xs k).toNat) = true then k else lowTo xs k
theorem lowTo_spec (xs : List Pt) : ∀ k, 0 < k → ∃ j : Nat, j < k ∧ lowTo xs k = j ∧ ∀ i, i < k → ¬ Lt 1 (pAt xs i) (pAt xs j)
  | 0, h => absurd h (by omega)
  | k + 1, _ => by
    rcases Nat.eq_zero_or_pos k with h | h
    · subst h
      refine ⟨0, by omega, by rw [lowTo, if_pos (.inl (by simp [lowTo]))], fun i hi => ?_⟩
      obtain rfl : i = 0 := by omega
      exact lt_irrefl (.inl rfl)
    · obtain ⟨j, h1, h2, h3⟩ := lowTo_spec xs k h
      rw [lowTo]
      split
      · rename_i hc
        have hl : Lt 1 (pAt xs k) (pAt xs j) := by
          rw [h2] at hc
          rcases hc with hc | hc
          · omega
          · exact pLess_iff.1 hc
        refine ⟨k, by omega, rfl, fun i hi hlt => ?_⟩
        rcases Nat.lt_or_ge i k with h5 | h5
        · exact h3 i h5 (lt_trans (.inl rfl) hlt hl)
        · obtain rfl : i = k := by omega
          exact lt_irrefl (.inl rfl) hlt
      · rename_i hc
        refine ⟨j, by omega, h2, fun i hi hlt => ?_⟩
        rcases Nat.lt_or_ge i k with h5 | h5
        · exact h3 i h5 hlt
        · obtain rfl : i = k := by omega
          exact hc (.inr (by rw [h2]; exact pLess_iff.2 hlt))
theorem ord_low {xs : List Pt} (h : 0 < xs.length) : (ordP xs).head? = some (pAt xs (lowTo xs xs.length).toNat) := by
  obtain ⟨j, h1, h2, h3⟩ := lowTo_spec xs xs.length h
  have hj : pAt xs j ∈ ordP xs := ordP_mem.2 (by rw [show pAt xs j = xs[j] from getD_lt _ h1]; exact List.getElem_mem _)
  rw [h2, Int.toNat_natCast]
  cases ho : ordP xs with
  | nil => rw [ho] at hj; cases hj
  | cons a r =>
    rw [ho] at hj
    have hs := ordP_sorted xs
    rw [ho] at hs
    rcases List.mem_cons.1 hj with e | e
    · rw [e]; rfl
    · exfalso
      have hlt := (List.pairwise_cons.1 hs).1 _ e
      have ha : a ∈ xs := ordP_mem.1 (by rw [ho]; exact List.mem_cons_self)
      obtain ⟨i, hi, hie⟩ := List.getElem_of_mem ha
      exact h3 i hi (by rw [show pAt xs i = xs[i] from getD_lt _ hi, hie]; exact hlt)
theorem bd_all {xs : List Pt} (h : xs.all ptOk = true) : ∀ q ∈ xs, Bd q := fun q hq => bd_of_ok (List.all_eq_true.1 h q hq)
structure WayP (xs P : List Pt) : Prop where
  pos : 0 < P.length
  raw : P.dropLast = rawHull (ordP xs)
  low : P.head? = some (pAt xs (lowTo xs xs.length).toNat)
  mem : ∀ j, j < P.length → P.getD j (0, 0) ∈ xs
  step : ∀ i, i + 1 < P.length → xs.foldl (wstep (P.getD i (0, 0))) (P.getD i (0, 0)) = P.getD (i + 1) (0, 0) ∧ P.getD (i + 1) (0, 0) ≠ P.getD i (0, 0)
  last : P.getD (P.length - 1) (0, 0) = P.getD 0 (0, 0)
  once : ∀ j, 0 < j → j + 1 < P.length → P.getD j (0, 0) ≠ P.getD 0 (0, 0)
  len : P.length ≤ 2 * xs.length + 1
  one : P.length = 1 → ∀ q ∈ xs, q = P.getD 0 (0, 0)
theorem stack_two {l : List Pt} (hl : l.Pairwise (Lt 1)) (h : (stackOf l).length ≤ 1) : l.length ≤ 1 := by
  cases l with
  | nil => simp
  | cons a l =>
    have h1 : (stackOf (a :: l)).getLast? = some a := stack_last
    rcases List.eq_nil_or_concat l with e | ⟨r, b, e⟩
    · subst e; simp
    · exfalso
      rw [List.concat_eq_append] at e
      have hs : stackOf (a :: l) = b :: popS (stackOf (a :: r)) b := by
        rw [e]
        unfold stackOf
        rw [show a :: (r ++ [b]) = (a :: r) ++ [b] from rfl, List.foldl_append]
        rfl
      rw [hs] at h h1
      simp only [List.length_cons] at h
      have hn : popS (stackOf (a :: r)) b = [] := List.eq_nil_of_length_eq_zero (by omega)
      rw [hn] at h1
      have hab : b = a := by simpa using h1
      rw [e] at hl
      have := (List.pairwise_cons.1 hl).1 b (by simp)
      rw [hab] at this
      exact lt_irrefl (.inl rfl) this
theorem wayP {xs : List Pt} (h : 0 < xs.length) (hok : xs.all ptOk = true) : WayP xs (wayR (ordP xs)) := by
  have hbd := bd_all hok
  have hne : ordP xs ≠ [] := fun e => by
    have := ord_low h
    rw [e] at this; cases this
  have hbo : ∀ q ∈ ordP xs, Bd q := fun q hq => hbd q (ordP_mem.1 hq)
  obtain ⟨⟨r1, r2, r3⟩, r4, r5⟩ := round_of hne (ordP_sorted xs) hbo
  have hlow := ord_low h
  generalize hP : wayR (ordP xs) = P at *
  have hpos : 0 < P.length := by
    cases P with
    | nil => rw [hlow] at r4; cases r4
    | cons a l => simp
  have h0 : P.head? = some (P.getD 0 (0, 0)) := by
    cases P with
    | nil => simp at hpos
    | cons a l => rfl
  have hget : ∀ j, j < P.length → P[j]? = some (P.getD j (0, 0)) := fun j hj => by rw [List.getElem?_eq_getElem hj, getD_lt _ hj]
  have hedge : ∀ i, i + 1 < P.length → Edge (· ∈ ordP xs) (P.getD i (0, 0)) (P.getD (i + 1) (0, 0)) := fun i hi => by
    refine r1 (P.take i) _ _ (P.drop (i + 2)) ?_
    rw [show P.getD i (0, 0) = P[i] from getD_lt _ (by omega), show P.getD (i + 1) (0, 0) = P[i + 1] from getD_lt _ hi]
    rw [← List.drop_eq_getElem_cons hi, ← List.drop_eq_getElem_cons (show i < P.length by omega), List.take_append_drop]
  have hraw : P.length = (rawHull (ordP xs)).length + 1 := by
    rw [← r5, List.length_dropLast]; omega
  refine ⟨hpos, r5, by rw [r4, hlow], fun j hj => ?_, fun i hi => ⟨?_, ?_⟩, ?_, fun j hj hj2 e => ?_, ?_, ?_⟩
  · rcases Nat.lt_or_ge (j + 1) P.length with h5 | h5
    · exact ordP_mem.1 (hedge j h5).1
    · rcases Nat.eq_zero_or_pos j with h6 | h6
      · subst h6
        have : P.head? = some (P.getD 0 (0, 0)) := h0
        rw [r4, hlow] at this
        injection this with this
        rw [← this]
        obtain ⟨j, h1, h2, -⟩ := lowTo_spec xs xs.length h
        rw [h2, Int.toNat_natCast, show pAt xs j = xs[j] from getD_lt _ h1]
        exact List.getElem_mem _
      · have := (hedge (j - 1) (by omega)).2.1
        rw [show j - 1 + 1 = j by omega] at this
        exact ordP_mem.1 this
  · refine wfold hbo (hedge i hi) xs _ (fun q hq => ordP_mem.2 hq) (.inr ⟨ordP_mem.1 (hedge i hi).2.1, .inl rfl⟩)
  · exact (hedge i hi).2.2.1.symm
  · have := r2 _ h0
    rw [List.getLast?_eq_getElem?, hget _ (by omega)] at this
    exact Option.some.inj this
  · exact r3 _ j h0 hj hj2 (by rw [hget j (by omega), e])
  · have := raw_len (ordP xs)
    have := ordP_len xs
    omega
  · intro h1 q hq
    have hr0 : (rawHull (ordP xs)).length = 0 := by omega
    have hh : (halfM (ordP xs)).length = 0 := by unfold rawHull at hr0; rw [List.length_append] at hr0; omega
    have hs : (stackOf (ordP xs)).length ≤ 1 := by unfold halfM at hh; rw [List.length_reverse, List.length_tail] at hh; omega
    have ho := stack_two (ordP_sorted xs) hs
    have hq' := ordP_mem.2 hq
    have hP0 : P.getD 0 (0, 0) ∈ ordP xs := by
      have h2 : P.head? = some (P.getD 0 (0, 0)) := h0
      rw [r4] at h2
      exact List.mem_of_mem_head? h2
    match hoo : ordP xs, ho with
    | [], _ => rw [hoo] at hq'; cases hq'
    | [a], _ =>
      rw [hoo] at hq' hP0
      rw [List.mem_singleton.1 hq', List.mem_singleton.1 hP0]
theorem hull_btw {xs : List Pt} (h : btw xs.length 3 30 = false) : hullM xs = [] := by
  rw [← Bool.not_eq_true, btw_iff] at h
  rcases Nat.lt_or_ge 30 xs.length with h1 | h1
  · unfold hullM; rw [decide_eq_false (by omega)]; rfl
  · have hr : (rawHull (ordP xs)).length < 3 := by have := raw_len (ordP xs); have := ordP_len xs; omega
    unfold hullM; rw [decide_eq_false (show ¬ 3 ≤ (rawHull (ordP xs)).length by omega)]; simp
theorem ord_pos {xs : List Pt} (h : 0 < xs.length) : 0 < (ordP xs).length := by
  refine List.length_pos_iff.2 fun e => ?_
  have := ord_low h
  rw [e] at this; cases this
theorem bs_len (xs : List Pt) : (bSort xs).length = xs.length := List.length_mergeSort _
def hullC : Con := mkCon [.sl (.b .pt)] (fun x => x.1.length ≤ 1048576) fun x => ptRow (hullM x.1)
theorem hull_bad {xs : List Pt} (h : xs.all ptOk = false) : hullM xs = [] := by unfold hullM; rw [h]; simp
theorem hull_short {xs : List Pt} (h : (rawHull (ordP xs)).length < 3) : hullM xs = [] := by unfold hullM; rw [decide_eq_false (show ¬ 3 ≤ (rawHull (ordP xs)).length by omega)]; simp
theorem hull_yes {xs : List Pt} (h1 : xs.length ≤ 30) (h2 : xs.all ptOk = true) (h3 : 3 ≤ (rawHull (ordP xs)).length) : hullM xs = rawHull (ordP xs) := by
  unfold hullM
  rw [decide_eq_true h1, h2, decide_eq_true h3]; rfl
theorem hull_len (xs : List Pt) : (hullM xs).length ≤ 60 := by
  unfold hullM
  split
  · rename_i h
    have h1 : xs.length ≤ 30 := by
      have := (Bool.and_eq_true _ _ ▸ h).1
      exact of_decide_eq_true this
    have := raw_len (ordP xs)
    have := ordP_len xs
    omega
  · simp
def halfC : Con := mkCon [.sl (.b .pt)] (fun x => 0 < x.1.length ∧ x.1.length ≤ 1048576) fun x => ptRow (halfM x.1)
theorem half_ok : Good1 Try.prog n_impl_HullOf_2 halfC := by
  refine good_ofG (tys := tyL) (env := [(n_impl_turn, turnC)]) (envw := []) (envd := []) [6, 37, 41, 47] [5] [] [] [] mixed tys ⟨turn_ok, trivial⟩ trivial trivial Try.func84 rfl (by kernel_rfl) (by decide) (by kernel_rfl) ?_
  have hG_ := kpz [(0, [0]), (1, [0, 3]), (2, [3, 7, 8, 9]), (3, [3, 7, 8, 9, 10]), (4, [3, 5, 7, 8, 9]), (5, [3, 5, 7, 8, 9, 32]), (6, [3, 5, 7, 8, 9]), (7, [3, 7, 8, 9]), (8, [3, 7, 8, 9]), (9, [2])] [(1, [6]), (2, [6]), (3, [6]), (4, [5, 6]), (5, [5, 6]), (6, [5, 6]), (7, [6]), (8, [6]), (9, [6])] [] []
  rintro ⟨(l : List Pt), ⟨⟩⟩ ⟨(h0 : 0 < l.length), (h1 : l.length ≤ _)⟩
  (repeat' (first | (with_reducible first | exact True.intro | refine zQ ?_ | (refine zG hG_ ?_; intro K_ hK_) | (refine zR ?_; intro K_ hK_) | (refine hK_ _ _ ?_; try clear hK_ K_) | refine sq_n ?_ | refine sq_r ?_ | refine sq_e ?_ | refine bq_n ?_ | refine bq_r ?_ | refine bq_q ?_ | refine zB ?_ | refine zX ?_ | refine zT ?_ | refine zK ?_ | refine gq_n ?_ | refine gq_r ?_ | refine gq_e ?_ | refine lq_n ?_ | refine lq_r ?_ | refine lq_e ?_ | refine bq_e (by decide) ?_) | ((with_reducible refine zC (b := ?b_) ?hb_ ?_ ?_); case hb_ => rfl) | ((conv => whnf); first | (with_reducible refine hK_ _ _ ?_; try clear hK_ K_) | (with_reducible refine fun (g_ : Sl) (o_ : Ow) => ?_) | (with_reducible first | exact True.intro | refine And.intro trivial ?_ | refine And.intro ?_ ?_) | exact Nat.le_of_ble_eq_true rfl | exact Or.inl rfl | (intro h_; cases h_) | (intro h_; (try simp only [vS1] at h_)) | rfl))) <;> (try (conv => whnf)) <;> (try first | change (_ : Int) ≤ _ | change (_ : Nat) ≤ _) <;> (try ((fail_if_success (with_reducible apply Exists.intro)); (try dsimp only); (try simp only [vS1]))) <;> (try simp (disch := omega) only [vS3, Int.add_sub_cancel, tn1, tnp, tnc, vS2] at *)
  all_goals (try (fail_if_success (with_reducible apply Exists.intro)); first | with_reducible assumption | omega | exact mdl (by omega) | exact ilo1 (by omega) | exact ilo2 (by omega) | exact ihi1 (by omega) (by omega) | exact ihi2 (by omega) (by omega))
  refine awp'_loopG (α := Nat) (fun k ver_ => [(9, vInt k)]) (fun k ver_ => [(3, 6, false, .row t_impl_Point (.b .pt) (stackOf (l.take k)).reverse)]) (fun k ver_ => [(5, ⟨ver_ 5, .dead⟩)]) (fun k => k ≤ l.length) (fun k => l.length - k) [7, 8] [] (0) ?_
  conv => whnf
  refine ⟨⟨?inv1_, ?vals1_, ?own1_, ?fix1_⟩, ?body1_⟩
  case' vals1_ => (repeat' (first | (with_reducible first | exact True.intro | refine And.intro ?_ ?_ | refine Head.mk ?_ ?_ ?_ ?_) | ((conv => lhs; whnf); first | (with_reducible first | rfl | exact vInt_s (by omega)) | exact rfl) | ((conv => whnf); first | (with_reducible first | exact True.intro | refine And.intro ?_ ?_)))) <;> (try (conv => lhs; whnf))
  case' own1_ => (repeat' (first | (with_reducible first | exact True.intro | refine And.intro ?_ ?_ | refine Head.mk ?_ ?_ ?_ ?_) | ((conv => lhs; whnf); first | (with_reducible first | rfl | exact vInt_s (by omega)) | exact rfl) | ((conv => whnf); first | (with_reducible first | exact True.intro | refine And.intro ?_ ?_)))) <;> (try (conv => lhs; whnf))
  case' fix1_ => (repeat' (first | (with_reducible first | exact True.intro | refine And.intro ?_ ?_ | refine Head.mk ?_ ?_ ?_ ?_) | ((conv => lhs; whnf); first | (with_reducible first | rfl | exact vInt_s (by omega)) | exact rfl) | ((conv => whnf); first | (with_reducible first | exact True.intro | refine And.intro ?_ ?_)))) <;> (try (conv => lhs; whnf))
  · exact Nat.zero_le _
  rintro k g_ o_ v_ hk
  have hsl : (stackOf (l.take k)).length ≤ k := Nat.le_trans (stack_len _) (by rw [List.length_take]; exact Nat.min_le_left _ _)
  have hend : k = l.length → 0 < (stackOf (l.take k)).length ∧ halfM l = (stackOf (l.take k)).reverse.take ((stackOf (l.take k)).length - 1) := fun e => by
    subst e
    rw [List.take_length]
    exact ⟨List.length_pos_iff.2 (stack_ne (by intro e; rw [e] at h0; simp at h0)), half_take l⟩
  have hnext : k < l.length → stackOf (l.take (k + 1)) = pAt l k :: popS (stackOf (l.take k)) (pAt l k) := stackOf_succ
  generalize stackOf (l.take k) = st at *
  generalize hrv0 : st.reverse = rv0 at *
  have hrl0 : rv0.length = st.length := by rw [← hrv0, List.length_reverse]
  rcases Nat.lt_or_ge k l.length with hkl | hkl
  · clear hend
    have hnext := hnext hkl
    (repeat' (first | (with_reducible first | exact True.intro | refine zQ ?_ | (refine zG hG_ ?_; intro K_ hK_) | (refine zR ?_; intro K_ hK_) | (refine hK_ _ _ ?_; try clear hK_ K_) | refine sq_n ?_ | refine sq_r ?_ | refine sq_e ?_ | refine bq_n ?_ | refine bq_r ?_ | refine bq_q ?_ | refine zB ?_ | refine zX ?_ | refine zT ?_ | refine zK ?_ | refine gq_n ?_ | refine gq_r ?_ | refine gq_e ?_ | refine lq_n ?_ | refine lq_r ?_ | refine lq_e ?_ | refine bq_e (by decide) ?_) | ((with_reducible refine zC (b := ?b_) ?hb_ ?_ ?_); case hb_ => rfl) | ((conv => whnf); first | (with_reducible refine hK_ _ _ ?_; try clear hK_ K_) | (with_reducible refine fun (g_ : Sl) (o_ : Ow) => ?_) | (with_reducible first | exact True.intro | refine And.intro trivial ?_ | refine And.intro ?_ ?_) | exact Nat.le_of_ble_eq_true rfl | exact Or.inl rfl | (intro h_; cases h_) | (intro h_; (try simp only [vS1] at h_)) | rfl))) <;> (try (conv => whnf)) <;> (try first | change (_ : Int) ≤ _ | change (_ : Nat) ≤ _) <;> (try ((fail_if_success (with_reducible apply Exists.intro)); (try dsimp only); (try simp only [vS1]))) <;> (try simp (disch := omega) only [vS3, Int.add_sub_cancel, tn1, tnp, tnc, vS2] at *)
    all_goals (try (fail_if_success (with_reducible apply Exists.intro)); first | with_reducible assumption | omega | exact mdl (by omega) | exact ilo1 (by omega) | exact ilo2 (by omega) | exact ihi1 (by omega) (by omega) | exact ihi2 (by omega) (by omega))
    ·
     refine awp'_loopG (α := List Pt) (fun s ver_ => []) (fun s ver_ => [(3, 6, false, .row t_impl_Point (.b .pt) s.reverse)]) (fun s ver_ => []) (fun s => s.length ≤ k ∧ popS s (pAt l k) = popS st (pAt l k)) (fun s => s.length) [5, 7, 8, 9] [5] (st) ?_
     conv => whnf
     refine ⟨⟨?inv2_, ?vals2_, ?own2_, ?fix2_⟩, ?body2_⟩
     case' vals2_ => (repeat' (first | (with_reducible first | exact True.intro | refine And.intro ?_ ?_ | refine Head.mk ?_ ?_ ?_ ?_) | ((conv => lhs; whnf); first | (with_reducible first | rfl | exact vInt_s (by omega)) | exact rfl) | ((conv => whnf); first | (with_reducible first | exact True.intro | refine And.intro ?_ ?_)))) <;> (try (conv => lhs; whnf))
     case' own2_ => (repeat' (first | (with_reducible first | exact True.intro | refine And.intro ?_ ?_ | refine Head.mk ?_ ?_ ?_ ?_) | ((conv => lhs; whnf); first | (with_reducible first | rfl | exact vInt_s (by omega)) | exact rfl) | ((conv => whnf); first | (with_reducible first | exact True.intro | refine And.intro ?_ ?_)))) <;> (try (conv => lhs; whnf))
     case' fix2_ => (repeat' (first | (with_reducible first | exact True.intro | refine And.intro ?_ ?_ | refine Head.mk ?_ ?_ ?_ ?_) | ((conv => lhs; whnf); first | (with_reducible first | rfl | exact vInt_s (by omega)) | exact rfl) | ((conv => whnf); first | (with_reducible first | exact True.intro | refine And.intro ?_ ?_)))) <;> (try (conv => lhs; whnf))
     · exact congrArg (Own.row t_impl_Point (.b .pt)) hrv0.symm
     · exact ⟨hsl, rfl⟩
     rintro s g_ o_ v_ ⟨hs, hpop⟩
     generalize hrv : s.reverse = rv at *
     have hrl : rv.length = s.length := by rw [← hrv, List.length_reverse]
     rcases Nat.lt_or_ge s.length 2 with h2 | h2
     · have hps : popS s (pAt l k) = s := by
         match s, h2 with
         | [], _ => rfl
         | [_], _ => rfl
       (repeat' (first | (with_reducible first | exact True.intro | refine zQ ?_ | (refine zG hG_ ?_; intro K_ hK_) | (refine zR ?_; intro K_ hK_) | (refine hK_ _ _ ?_; try clear hK_ K_) | refine sq_n ?_ | refine sq_r ?_ | refine sq_e ?_ | refine bq_n ?_ | refine bq_r ?_ | refine bq_q ?_ | refine zB ?_ | refine zX ?_ | refine zT ?_ | refine zK ?_ | refine gq_n ?_ | refine gq_r ?_ | refine gq_e ?_ | refine lq_n ?_ | refine lq_r ?_ | refine lq_e ?_ | refine bq_e (by decide) ?_) | ((with_reducible refine zC (b := ?b_) ?hb_ ?_ ?_); case hb_ => rfl) | ((conv => whnf); first | (with_reducible refine hK_ _ _ ?_; try clear hK_ K_) | (with_reducible refine fun (g_ : Sl) (o_ : Ow) => ?_) | (with_reducible first | exact True.intro | refine And.intro trivial ?_ | refine And.intro ?_ ?_) | exact Nat.le_of_ble_eq_true rfl | exact Or.inl rfl | (intro h_; cases h_) | (intro h_; (try simp only [vS1] at h_)) | rfl))) <;> (try (conv => whnf)) <;> (try first | change (_ : Int) ≤ _ | change (_ : Nat) ≤ _) <;> (try ((fail_if_success (with_reducible apply Exists.intro)); (try dsimp only); (try simp only [vS1]))) <;> (try simp (disch := omega) only [vS3, Int.add_sub_cancel, tn1, tnp, tnc, vS2] at *)
       all_goals (try (fail_if_success (with_reducible apply Exists.intro)); first | with_reducible assumption | omega | exact mdl (by omega) | exact ilo1 (by omega) | exact ilo2 (by omega) | exact ihi1 (by omega) (by omega) | exact ihi2 (by omega) (by omega))
       · exfalso; omega
       · exfalso; omega
       · refine ⟨k + 1, by omega, by omega, ?_⟩
         (repeat' (first | (with_reducible first | exact True.intro | refine And.intro ?_ ?_ | refine Head.mk ?_ ?_ ?_ ?_) | ((conv => lhs; whnf); first | (with_reducible first | rfl | exact vInt_s (by omega)) | exact rfl) | ((conv => whnf); first | (with_reducible first | exact True.intro | refine And.intro ?_ ?_)))) <;> (try (conv => lhs; whnf))
         exact congrArg (Own.row t_impl_Point (.b .pt)) (by rw [hnext, ← hpop, hps, List.reverse_cons, hrv])
     · obtain ⟨b, a, r, rfl⟩ : ∃ b a r, s = b :: a :: r := by
         match s, h2 with
         | b :: a :: r, _ => exact ⟨b, a, r, rfl⟩
       have f0 : rv.length = r.length + 2 := by rw [hrl]; rfl
       have f1p : PLift (rv.getD (((rv.length : Int) - 2).toNat) (ElK.b ElB.pt).dflt = a) := ⟨by rw [f0, show (((r.length + 2 : Nat) : Int) - 2).toNat = r.length by omega, ← hrv]; exact rev_snd _ _ _ _⟩
       have f2p : PLift (rv.getD (rv.length - 1) (ElK.b ElB.pt).dflt = b) := ⟨by rw [f0, show r.length + 2 - 1 = (a :: r).length from rfl, ← hrv]; exact rev_top _ _ _⟩
       have f3p : PLift (rv.take (rv.length - 1) = (a :: r).reverse) := ⟨by rw [f0, show r.length + 2 - 1 = (a :: r).length from rfl, ← hrv]; exact rev_take _ _⟩
       (repeat' (first | (with_reducible first | exact True.intro | refine zQ ?_ | (refine zG hG_ ?_; intro K_ hK_) | (refine zR ?_; intro K_ hK_) | (refine hK_ _ _ ?_; try clear hK_ K_) | refine sq_n ?_ | refine sq_r ?_ | refine sq_e ?_ | refine bq_n ?_ | refine bq_r ?_ | refine bq_q ?_ | refine zB ?_ | refine zX ?_ | refine zT ?_ | refine zK ?_ | refine gq_n ?_ | refine gq_r ?_ | refine gq_e ?_ | refine lq_n ?_ | refine lq_r ?_ | refine lq_e ?_ | refine bq_e (by decide) ?_) | ((with_reducible refine zC (b := ?b_) ?hb_ ?_ ?_); case hb_ => rfl) | ((conv => whnf); first | (with_reducible refine hK_ _ _ ?_; try clear hK_ K_) | (with_reducible refine fun (g_ : Sl) (o_ : Ow) => ?_) | (with_reducible first | exact True.intro | refine And.intro trivial ?_ | refine And.intro ?_ ?_) | exact Nat.le_of_ble_eq_true rfl | exact Or.inl rfl | (intro h_; cases h_) | (intro h_; (try simp only [vS1] at h_)) | rfl))) <;> (try (conv => whnf)) <;> (try first | change (_ : Int) ≤ _ | change (_ : Nat) ≤ _) <;> (try ((fail_if_success (with_reducible apply Exists.intro)); (try dsimp only); (try simp only [vS1]))) <;> (try simp (disch := omega) only [vS3, Int.add_sub_cancel, tn1, tnp, tnc, vS2] at *)
       all_goals (try (fail_if_success (with_reducible apply Exists.intro)); first | with_reducible assumption | omega | exact mdl (by omega) | exact ilo1 (by omega) | exact ilo2 (by omega) | exact ihi1 (by omega) (by omega) | exact ihi2 (by omega) (by omega))
       · rw [f1p.down, f2p.down] at h_
         have hpp : popS (b :: a :: r) (pAt l k) = popS (a :: r) (pAt l k) := by rw [popS]; exact if_pos h_
         refine ⟨a :: r, by simp, ⟨by simp only [List.length_cons] at hs ⊢; omega, by rw [← hpp, hpop]⟩, ?_⟩
         (repeat' (first | (with_reducible first | exact True.intro | refine And.intro ?_ ?_ | refine Head.mk ?_ ?_ ?_ ?_) | ((conv => lhs; whnf); first | (with_reducible first | rfl | exact vInt_s (by omega)) | exact rfl) | ((conv => whnf); first | (with_reducible first | exact True.intro | refine And.intro ?_ ?_)))) <;> (try (conv => lhs; whnf))
         exact congrArg (Own.row t_impl_Point (.b .pt)) f3p.down
       · rw [f1p.down, f2p.down] at h_
         have hpp : popS (b :: a :: r) (pAt l k) = b :: a :: r := by rw [popS]; exact if_neg h_
         refine ⟨k + 1, by omega, by omega, ?_⟩
         (repeat' (first | (with_reducible first | exact True.intro | refine And.intro ?_ ?_ | refine Head.mk ?_ ?_ ?_ ?_) | ((conv => lhs; whnf); first | (with_reducible first | rfl | exact vInt_s (by omega)) | exact rfl) | ((conv => whnf); first | (with_reducible first | exact True.intro | refine And.intro ?_ ?_)))) <;> (try (conv => lhs; whnf))
         exact congrArg (Own.row t_impl_Point (.b .pt)) (by rw [hnext, ← hpop, hpp, List.reverse_cons, hrv])
       · exfalso; omega
  · obtain ⟨hpos, hhalf⟩ := hend (by omega)
    (repeat' (first | (with_reducible first | exact True.intro | refine zQ ?_ | (refine zG hG_ ?_; intro K_ hK_) | (refine zR ?_; intro K_ hK_) | (refine hK_ _ _ ?_; try clear hK_ K_) | refine sq_n ?_ | refine sq_r ?_ | refine sq_e ?_ | refine bq_n ?_ | refine bq_r ?_ | refine bq_q ?_ | refine zB ?_ | refine zX ?_ | refine zT ?_ | refine zK ?_ | refine gq_n ?_ | refine gq_r ?_ | refine gq_e ?_ | refine lq_n ?_ | refine lq_r ?_ | refine lq_e ?_ | refine bq_e (by decide) ?_) | ((with_reducible refine zC (b := ?b_) ?hb_ ?_ ?_); case hb_ => rfl) | ((conv => whnf); first | (with_reducible refine hK_ _ _ ?_; try clear hK_ K_) | (with_reducible refine fun (g_ : Sl) (o_ : Ow) => ?_) | (with_reducible first | exact True.intro | refine And.intro trivial ?_ | refine And.intro ?_ ?_) | exact Nat.le_of_ble_eq_true rfl | exact Or.inl rfl | (intro h_; cases h_) | (intro h_; (try simp only [vS1] at h_)) | rfl))) <;> (try (conv => whnf)) <;> (try first | change (_ : Int) ≤ _ | change (_ : Nat) ≤ _) <;> (try ((fail_if_success (with_reducible apply Exists.intro)); (try dsimp only); (try simp only [vS1]))) <;> (try simp (disch := omega) only [vS3, Int.add_sub_cancel, tn1, tnp, tnc, vS2] at *)
    all_goals (try (fail_if_success (with_reducible apply Exists.intro)); first | with_reducible assumption | omega | exact mdl (by omega) | exact ilo1 (by omega) | exact ilo2 (by omega) | exact ihi1 (by omega) (by omega) | exact ihi2 (by omega) (by omega))
    · exfalso; omega
    · exact congrArg some (by rw [hhalf, hrl0])
theorem iHullOf_ok : Good1 Try.prog n_impl_HullOf hullC := by
  refine good_ofG (tys := tyL) (env := [(n_impl_between, btwC), (n_impl_pointsOk, pointsOkC), (n_impl_copyPoints, copyC), (n_impl_HullOf_2, halfC)]) (envw := [(n_slices_SortFunc_impl_Point, hsortC), (n_slices_Compact_impl_Point, compC), (n_slices_Reverse_impl_Point, revPtC)]) (envd := []) [17, 19, 21, 24, 26, 31] [] [] [] [] mixed tys ⟨between_ok, pointsOk_ok, copyPoints_ok, half_ok, trivial⟩ ⟨hsort_ok, compact_ok, revPt_ok, trivial⟩ trivial Try.func28 rfl (by kernel_rfl) (by decide) (by kernel_rfl) ?_
  have hG_ := kpz [(0, [0]), (1, [0, 15]), (2, [2]), (3, [3]), (4, [3]), (5, [3]), (6, [3, 4]), (7, [3, 4, 5]), (8, [3, 4, 5]), (9, [6]), (10, [6, 34]), (11, [2]), (12, [2])] [(3, [17]), (4, [17]), (5, [17]), (6, [17]), (7, [17, 24]), (8, [17, 24]), (9, [17, 24]), (10, [17, 24]), (11, [17, 24]), (12, [17, 24])] [] []
  rintro ⟨(xs : List Pt), ⟨⟩⟩ (h1 : xs.length ≤ _)
  (repeat' (first | (with_reducible first | exact True.intro | refine zQ ?_ | (refine zG hG_ ?_; intro K_ hK_) | (refine zR ?_; intro K_ hK_) | (refine hK_ _ _ ?_; try clear hK_ K_) | refine sq_n ?_ | refine sq_r ?_ | refine sq_e ?_ | refine bq_n ?_ | refine bq_r ?_ | refine bq_q ?_ | refine zB ?_ | refine zX ?_ | refine zT ?_ | refine zK ?_ | refine gq_n ?_ | refine gq_r ?_ | refine gq_e ?_ | refine lq_n ?_ | refine lq_r ?_ | refine lq_e ?_ | refine bq_e (by decide) ?_) | ((with_reducible refine zC (b := ?b_) ?hb_ ?_ ?_); case hb_ => rfl) | ((conv => whnf); first | (with_reducible refine hK_ _ _ ?_; try clear hK_ K_) | (with_reducible refine fun (g_ : Sl) (o_ : Ow) => ?_) | (with_reducible first | exact True.intro | refine And.intro trivial ?_ | refine And.intro ?_ ?_) | exact Nat.le_of_ble_eq_true rfl | exact Or.inl rfl | (intro h_; cases h_) | (intro h_; (try simp only [vS1] at h_)) | rfl))) <;> (try (conv => whnf)) <;> (try first | change (_ : Int) ≤ _ | change (_ : Nat) ≤ _) <;> (try ((fail_if_success (with_reducible apply Exists.intro)); (try dsimp only); (try simp only [vS1]))) <;> (try simp (disch := omega) only [vS3, Int.add_sub_cancel, tn1, tnp, tnc, vS2] at *)
  all_goals (try (fail_if_success (with_reducible apply Exists.intro)); first | with_reducible assumption | omega | exact mdl (by omega) | exact ilo1 (by omega) | exact ilo2 (by omega) | exact ihi1 (by omega) (by omega) | exact ihi2 (by omega) (by omega))
  all_goals first
    | exact hull_btw (by assumption)
    | exact hull_bad (by assumption)
    | exact ⟨bd_all (by assumption)⟩
    | (have hb := btw_iff.1 ‹btw _ 3 30 = true›; have hbl := bs_len xs; have hol := ordP_len xs; have hop := ord_pos (xs := xs) (by omega); first
        | omega
        | (show (bSort xs).length ≤ 1048576; omega)
        | (show 1 ≤ (bSort xs).length; omega)
        | (show 1 ≤ (ordP xs).length; omega)
        | (show (ordP xs).length ≤ 1048576; omega)
        | (show 1 ≤ (ordP xs).reverse.length; rw [List.length_reverse]; omega)
        | (show (ordP xs).reverse.length ≤ 1048576; rw [List.length_reverse]; omega)
        | skip)
  · show (halfM (ordP xs)).length + (halfM (ordP xs).reverse).length ≤ _
    have h2 := half_len (ordP xs)
    have h3 := half_len (ordP xs).reverse
    rw [List.length_reverse] at h3
    have h4 := ordP_len xs
    omega
  · refine hull_short ?_
    have h2 : (((halfM (ordP xs)).length + (halfM (ordP xs).reverse).length : Nat) : Int) < 3 := h_
    unfold rawHull
    rw [List.length_append]
    omega
  · have hb := btw_iff.1 ‹btw _ 3 30 = true›
    refine congrArg some (Eq.symm (hull_yes (by omega) (by assumption) ?_))
    have h2 : ¬ (((halfM (ordP xs)).length + (halfM (ordP xs).reverse).length : Nat) : Int) < 3 := h_
    unfold rawHull
    rw [List.length_append]
    omega
def hullRoomM (xs : List Pt) : List Pt := if roomOk xs then hullM xs else []
theorem hr_no {xs : List Pt} (h : roomOk xs = false) : hullRoomM xs = [] := by unfold hullRoomM; rw [h]; rfl
theorem hr_yes {xs : List Pt} (h : roomOk xs = true) : hullRoomM xs = hullM xs := by unfold hullRoomM; rw [h]; rfl
def hullRoomC : Con := mkCon [.room] (fun x => x.1.length ≤ 1048576) fun x => rRoom (hullRoomM x.1)
theorem iHullRoom_ok : Good1 Try.prog n_impl_HullRoom hullRoomC := by
  refine good_ofG (tys := tyL) (env := [(n_impl_RoomOk, roomOkC), (n_impl_HullOf, hullC)]) (envw := []) (envd := []) [9] [] [] [] [] mixed tys ⟨iRoomOk_ok, iHullOf_ok, trivial⟩ trivial trivial Try.func27 rfl (by kernel_rfl) (by decide) (by kernel_rfl) ?_
  have hG_ := kpz [(0, [1, 2]), (1, [1, 2, 5]), (2, [2]), (3, [2])] [(0, [2]), (1, [2]), (2, [2]), (3, [2, 9])] [] []
  rintro ⟨(xs : List Pt), ⟨⟩⟩ (h1 : xs.length ≤ _)
  (repeat' (first | (with_reducible first | exact True.intro | refine zQ ?_ | (refine zG hG_ ?_; intro K_ hK_) | (refine zR ?_; intro K_ hK_) | (refine hK_ _ _ ?_; try clear hK_ K_) | refine sq_n ?_ | refine sq_r ?_ | refine sq_e ?_ | refine bq_n ?_ | refine bq_r ?_ | refine bq_q ?_ | refine zB ?_ | refine zX ?_ | refine zT ?_ | refine zK ?_ | refine gq_n ?_ | refine gq_r ?_ | refine gq_e ?_ | refine lq_n ?_ | refine lq_r ?_ | refine lq_e ?_ | refine bq_e (by decide) ?_) | ((with_reducible refine zC (b := ?b_) ?hb_ ?_ ?_); case hb_ => rfl) | ((conv => whnf); first | (with_reducible refine hK_ _ _ ?_; try clear hK_ K_) | (with_reducible refine fun (g_ : Sl) (o_ : Ow) => ?_) | (with_reducible first | exact True.intro | refine And.intro trivial ?_ | refine And.intro ?_ ?_) | exact Nat.le_of_ble_eq_true rfl | exact Or.inl rfl | (intro h_; cases h_) | (intro h_; (try simp only [vS1] at h_)) | rfl))) <;> (try (conv => whnf)) <;> (try first | change (_ : Int) ≤ _ | change (_ : Nat) ≤ _) <;> (try ((fail_if_success (with_reducible apply Exists.intro)); (try dsimp only); (try simp only [vS1]))) <;> (try simp (disch := omega) only [vS3, vS2] at *)
  all_goals (try (fail_if_success (with_reducible apply Exists.intro)); first | with_reducible assumption | omega | exact mdl (by omega) | exact ilo1 (by omega) | exact ilo2 (by omega) | exact ihi1 (by omega) (by omega) | exact ihi2 (by omega) (by omega))
  · exact hr_no h_
  · exact congrArg some (hr_yes h_).symm
def pocM (xs : List Pt) : Int := if roomOk xs then IntKind.i64.wrap (IntKind.i64.wrap (dbl (hullM xs)) - IntKind.i64.wrap (dbl xs)) else 0
def pocC : Con := mkCon [.room] (fun x => x.1.length ≤ 1048576) fun x => vI (pocM x.1)
theorem iPocketArea_ok : Good1 Try.prog n_impl_PocketArea pocC := by
  refine good_ofG (tys := tyL) (env := [(n_impl_RoomOk, roomOkC), (n_impl_HullOf, hullC), (n_impl_area, areaC)]) (envw := []) (envd := []) [] [] [] [] [] mixed tys ⟨iRoomOk_ok, iHullOf_ok, area_ok, trivial⟩ trivial trivial Try.func30 rfl (by kernel_rfl) (by decide) (by kernel_rfl) ?_
  have hG_ := kpz [(0, [1]), (1, [1, 5]), (2, [2]), (3, [2])] [] [] []
  rintro ⟨(xs : List Pt), ⟨⟩⟩ (h1 : xs.length ≤ _)
  have hl := hull_len xs
  (repeat' (first | (with_reducible first | exact True.intro | refine zQ ?_ | (refine zG hG_ ?_; intro K_ hK_) | (refine zR ?_; intro K_ hK_) | (refine hK_ _ _ ?_; try clear hK_ K_) | refine sq_n ?_ | refine sq_r ?_ | refine sq_e ?_ | refine bq_n ?_ | refine bq_r ?_ | refine bq_q ?_ | refine zB ?_ | refine zX ?_ | refine zT ?_ | refine zK ?_ | refine gq_n ?_ | refine gq_r ?_ | refine gq_e ?_ | refine lq_n ?_ | refine lq_r ?_ | refine lq_e ?_ | refine bq_e (by decide) ?_) | ((with_reducible refine zC (b := ?b_) ?hb_ ?_ ?_); case hb_ => rfl) | ((conv => whnf); first | (with_reducible refine hK_ _ _ ?_; try clear hK_ K_) | (with_reducible refine fun (g_ : Sl) (o_ : Ow) => ?_) | (with_reducible first | exact True.intro | refine And.intro trivial ?_ | refine And.intro ?_ ?_) | exact Nat.le_of_ble_eq_true rfl | exact Or.inl rfl | (intro h_; cases h_) | (intro h_; (try simp only [vS1] at h_)) | rfl))) <;> (try (conv => whnf)) <;> (try first | change (_ : Int) ≤ _ | change (_ : Nat) ≤ _) <;> (try ((fail_if_success (with_reducible apply Exists.intro)); (try dsimp only); (try simp only [vS1])))
  all_goals (try (fail_if_success (with_reducible apply Exists.intro)); first | with_reducible assumption | omega | exact mdl (by omega) | exact ilo1 (by omega) | exact ilo2 (by omega) | exact ihi1 (by omega) (by omega) | exact ihi2 (by omega) (by omega))
  · unfold pocM; rw [h_]; rfl
  · unfold pocM; rw [h_]; rfl
end Go.Proofs.Ytnepfcnlngpchaa
namespace Go.Proofs.Ytnepfcnlngpchaa.Geo
open Go.RowKit
theorem edge_uniq {Q : Pt → Prop} {a b c : Pt} (hb : Edge Q a b) (hc : Edge Q a c) : b = c := by
  have h1 := hb.2.2.2 c hc.2.1
  have h2 := hc.2.2.2 b hb.2.1
  have e : turnZ a c b = - turnZ a b c := by unfold turnZ; grind
  obtain ⟨-, ⟨g1, g2⟩, g3, g4⟩ := h1.2 (by omega)
  obtain ⟨-, ⟨k1, k2⟩, k3, k4⟩ := h2.2 (by omega)
  exact Prod.ext (by omega) (by omega)
theorem edge_turn {Q : Pt → Prop} {a b c : Pt} (hb : Edge Q a b) (hc : Edge Q b c) (hac : a ≠ c) : 0 < turnZ a b c := by
  have h1 := hb.2.2.2 c hc.2.1
  have h2 := hc.2.2.2 a hb.1
  have e : turnZ b c a = turnZ a b c := by unfold turnZ; grind
  rcases (show 0 < turnZ a b c ∨ turnZ a b c = 0 by omega) with g | g
  · exact g
  · exfalso
    obtain ⟨-, ⟨g1, g2⟩, g3, g4⟩ := h1.2 g
    obtain ⟨-, ⟨k1, k2⟩, k3, k4⟩ := h2.2 (by omega)
    exact hac (Prod.ext (by omega) (by omega))
structure EdgeL (Q : Pt → Prop) (l : List Pt) : Prop where
  edge : ∀ k, k < l.length → Edge Q (pAt l k) (pCy l (k + 1))
  once : ∀ j, 0 < j → j < l.length → pAt l j ≠ pAt l 0
theorem cy_at {l : List Pt} (hn : 0 < l.length) (k : Nat) : pCy l k = pAt l (k % l.length) ∧ pCy l (k % l.length + 1) = pCy l (k + 1) := by
  refine ⟨rfl, ?_⟩
  show l.getD ((k % l.length + 1) % l.length) (0, 0) = l.getD ((k + 1) % l.length) (0, 0)
  rw [Nat.mod_add_mod]
theorem EdgeL.at {Q : Pt → Prop} {l : List Pt} (h : EdgeL Q l) (hn : 0 < l.length) (k : Nat) : Edge Q (pCy l k) (pCy l (k + 1)) := by
  obtain ⟨e1, e2⟩ := cy_at hn k
  rw [e1, ← e2]
  exact h.edge _ (Nat.mod_lt _ hn)
theorem EdgeL.uniq {Q : Pt → Prop} {l l' : List Pt} (h : EdgeL Q l) (h' : EdgeL Q l') (hn : 0 < l.length) (hn' : 0 < l'.length) (e0 : pAt l 0 = pAt l' 0) : l = l' := by
  have step : ∀ t, t < l.length → t < l'.length → pAt l t = pAt l' t := fun t => by
    induction t with
    | zero => intro _ _; exact e0
    | succ t ih =>
      intro h1 h2
      have e := ih (by omega) (by omega)
      have a := h.edge t (by omega)
      have b := h'.edge t (by omega)
      rw [show pCy l (t + 1) = pAt l (t + 1) from pCy_lt h1] at a
      rw [show pCy l' (t + 1) = pAt l' (t + 1) from pCy_lt h2, ← e] at b
      exact edge_uniq a b
  have short : ∀ {m m' : List Pt}, EdgeL Q m → EdgeL Q m' → 0 < m.length → pAt m 0 = pAt m' 0 → (∀ t, t < m.length → t < m'.length → pAt m t = pAt m' t) → ¬ m.length < m'.length := fun {m m'} g g' gn e0 st hlt => by
    have a := g.edge (m.length - 1) (by omega)
    have b := g'.edge (m.length - 1) (by omega)
    rw [show m.length - 1 + 1 = m.length by omega] at a b
    have e1 : pCy m m.length = pAt m 0 := by show m.getD (m.length % m.length) _ = _; rw [Nat.mod_self]
    rw [e1] at a
    rw [show pCy m' m.length = pAt m' m.length from pCy_lt hlt, ← st _ (by omega) (by omega)] at b
    exact g'.once m.length gn hlt ((edge_uniq a b).symm.trans e0)
  have hl : l.length = l'.length := by
    have := short h h' hn e0 step
    have := short h' h hn' e0.symm fun t h1 h2 => (step t h2 h1).symm
    omega
  refine List.ext_getElem hl fun t h1 h2 => ?_
  have := step t h1 h2
  rwa [pAt, pAt, getD_lt _ h1, getD_lt _ h2] at this
theorem EdgeL.inj {Q : Pt → Prop} {l : List Pt} (h : EdgeL Q l) {i j : Nat} (hij : i < j) (hj : j < l.length) : pAt l i ≠ pAt l j := fun e => by
  have hn : 0 < l.length := by omega
  have step : ∀ t, pCy l (i + t) = pCy l (j + t) := fun t => by
    induction t with
    | zero => rw [Nat.add_zero, Nat.add_zero, show pCy l i = pAt l i from pCy_lt (by omega), show pCy l j = pAt l j from pCy_lt hj]; exact e
    | succ t ih =>
      have a := h.at hn (i + t)
      have b := h.at hn (j + t)
      rw [← ih] at b
      exact edge_uniq a b
  have := step (l.length - j)
  have e1 : pCy l (j + (l.length - j)) = pAt l 0 := by
    rw [show j + (l.length - j) = l.length by omega]
    show l.getD (l.length % l.length) _ = _
    rw [Nat.mod_self]
  rw [e1, show pCy l (i + (l.length - j)) = pAt l (i + (l.length - j)) from pCy_lt (by omega)] at this
  exact h.once _ (by omega) (by omega) this
theorem EdgeL.ne {Q : Pt → Prop} {l : List Pt} (h : EdgeL Q l) {i j : Nat} (hi : i < l.length) (hj : j < l.length) (hij : i ≠ j) : pAt l i ≠ pAt l j := by
  rcases Nat.lt_or_gt_of_ne hij with g | g
  · exact h.inj g hj
  · exact (h.inj g hi).symm
theorem EdgeL.cyne {Q : Pt → Prop} {l : List Pt} (h : EdgeL Q l) (hn : 0 < l.length) {i d : Nat} (h0 : 0 < d) (hd : d < l.length) : pCy l i ≠ pCy l (i + d) := by
  have a := Nat.mod_lt i hn
  refine h.ne a (Nat.mod_lt _ hn) fun e => ?_
  have e : i % l.length = (i + d) % l.length := e
  rw [← Nat.mod_add_mod] at e
  generalize i % l.length = r at *
  rcases Nat.lt_or_ge (r + d) l.length with g | g
  · rw [Nat.mod_eq_of_lt g] at e; omega
  · rw [Nat.mod_eq_sub_mod g, Nat.mod_eq_of_lt (by omega)] at e; omega
theorem EdgeL.turn {Q : Pt → Prop} {l : List Pt} (h : EdgeL Q l) (h3 : 3 ≤ l.length) (k : Nat) : 0 < turnZ (pCy l k) (pCy l (k + 1)) (pCy l (k + 2)) :=
  edge_turn (h.at (by omega) k) (h.at (by omega) (k + 1)) (h.cyne (by omega) (by omega) (by omega))
theorem EdgeL.left {Q : Pt → Prop} {l : List Pt} (h : EdgeL Q l) (h3 : 3 ≤ l.length) {i m : Nat} (ha : pCy l (m + 1) ≠ pCy l i) (hb : pCy l (m + 1) ≠ pCy l (i + 1)) : 0 < turnZ (pCy l i) (pCy l (i + 1)) (pCy l (m + 1)) := by
  have hn : 0 < l.length := by omega
  have he := h.at hn i
  have hp := h.at hn m
  have hq := h.at hn (m + 1)
  have ht := h.turn h3 m
  have hc := he.2.2.2 _ hp.2.1
  have pa := hp.2.2.2 _ he.1
  have pb := hp.2.2.2 _ he.2.1
  have qa := hq.2.2.2 _ he.1
  have qb := hq.2.2.2 _ he.2.1
  have hab := he.2.2.1
  rw [show m + 1 + 1 = m + 2 by omega] at qa qb
  generalize pCy l i = a at *
  generalize pCy l (i + 1) = b at *
  generalize pCy l m = p at *
  generalize pCy l (m + 1) = c at *
  generalize pCy l (m + 2) = q at *
  rcases (show 0 < turnZ a b c ∨ turnZ a b c = 0 by omega) with g | g
  · exact g
  · exfalso
    have hN := sq_pos hab
    have hφ := phi_onZ (hc.2 g)
    have taa : turnZ a b a = 0 := by unfold turnZ; grind
    have tbb : turnZ a b b = 0 := by unfold turnZ; grind
    have n0 : phi a b c ≠ 0 := fun e => ha (phi_inj hab g taa (by rw [e, phi_a]))
    have n1 : phi a b c ≠ phi a b b := fun e => hb (phi_inj hab g tbb e)
    rw [phi_b] at hφ n1
    have key : ∀ f : Aff, f.ev c = 0 → 0 ≤ f.ev a → 0 ≤ f.ev b → f.ev a = 0 := fun f fc fa fb => by
      have hm := line_mean g f
      rw [fc, Int.mul_zero] at hm
      have e : phi a b c = ((b.1 - a.1) * (b.1 - a.1) + (b.2 - a.2) * (b.2 - a.2)) + dotZ a b c := rfl
      generalize (b.1 - a.1) * (b.1 - a.1) + (b.2 - a.2) * (b.2 - a.2) = N at *
      rw [← e, show -dotZ a b c = N - phi a b c by omega] at hm
      have h2 := nn0 (show 0 ≤ phi a b c by omega) fb
      rcases (show f.ev a = 0 ∨ 0 < f.ev a by omega) with q | q
      · exact q
      · have := pp (show 0 < N - phi a b c by omega) q
        omega
    have k1 := key (Aff.turn p c) (by rw [ev_turn]; unfold turnZ; grind) (by rw [ev_turn]; exact pa.1) (by rw [ev_turn]; exact pb.1)
    have k2 := key (Aff.turn c q) (by rw [ev_turn]; unfold turnZ; grind) (by rw [ev_turn]; exact qa.1) (by rw [ev_turn]; exact qb.1)
    rw [ev_turn] at k1 k2
    have i1 : (a.1 - c.1) * turnZ p c q = -(c.1 - p.1) * turnZ c q a + (q.1 - c.1) * turnZ p c a := by unfold turnZ; grind
    have i2 : (a.2 - c.2) * turnZ p c q = -(c.2 - p.2) * turnZ c q a + (q.2 - c.2) * turnZ p c a := by unfold turnZ; grind
    rw [k1, k2, Int.mul_zero, Int.mul_zero, Int.add_zero] at i1 i2
    have z : ∀ {x : Int}, x * turnZ p c q = 0 → x = 0 := fun hx => (Int.mul_eq_zero.1 hx).resolve_right (by omega)
    have e1 := z i1
    have e2 := z i2
    exact ha (Prod.ext (by omega) (by omega))
theorem EdgeL.simple {Q : Pt → Prop} {l : List Pt} (h : EdgeL Q l) (h3 : 3 ≤ l.length) : SimpleP (roomP l) := by
  have hn : 0 < l.length := by omega
  refine simple_of h3 (fun j _ => ?_) fun i k hik hk hne => ?_
  · have := h.turn h3 j
    show turnZ (pCy l j) (pCy l (j + 1)) (pCy l (j + 2)) ≠ 0
    omega
  · have hk : k < l.length := hk
    have hne : ¬ (i = 0 ∧ k + 1 = l.length) := hne
    have at_ : ∀ {j}, j < l.length → pCy l j = pAt l j := fun hj => pCy_lt hj
    have l1 : 0 < turnZ (pCy l i) (pCy l (i + 1)) (pCy l k) := by
      have := h.left h3 (i := i) (m := k - 1)
      rw [show k - 1 + 1 = k by omega] at this
      refine this ?_ ?_
      · rw [at_ hk, at_ (by omega)]; exact h.ne (by omega) (by omega) (by omega)
      · rw [at_ hk, at_ (by omega)]; exact h.ne (by omega) (by omega) (by omega)
    have l2 : 0 < turnZ (pCy l i) (pCy l (i + 1)) (pCy l (k + 1)) := by
      refine h.left h3 ?_ ?_
      · rcases (show k + 1 < l.length ∨ k + 1 = l.length by omega) with g | g
        · rw [at_ g, at_ (by omega)]; exact h.ne (by omega) (by omega) (by omega)
        · rw [g, show pCy l l.length = pAt l 0 by show l.getD (l.length % l.length) _ = _; rw [Nat.mod_self], at_ (by omega)]; exact h.ne (by omega) (by omega) (by omega)
      · rcases (show k + 1 < l.length ∨ k + 1 = l.length by omega) with g | g
        · rw [at_ g, at_ (by omega)]; exact h.ne (by omega) (by omega) (by omega)
        · rw [g, show pCy l l.length = pAt l 0 by show l.getD (l.length % l.length) _ = _; rw [Nat.mod_self], at_ (by omega)]; exact h.ne (by omega) (by omega) (by omega)
    exact part_turn (.inl rfl) (by rw [Int.one_mul]; exact l1) (by rw [Int.one_mul]; exact l2)
theorem area_at (P : Poly) (p : Pt) : P.area = sumN (fun k => turnZ p (P.v k) (P.v (k + 1))) P.n := by
  have e : ∀ k, turnZ p (P.v k) (P.v (k + 1)) = crs0 (P.v k) (P.v (k + 1)) + ((fun j => - crs0 p (P.v j)) (k + 1) - (fun j => - crs0 p (P.v j)) k) := fun k => by
    simp only
    unfold turnZ crs0; grind
  rw [sumN_congr fun k _ => e k, sumN_add, sumN_tel fun j => - crs0 p (P.v j), P.vn]
  show P.area = sumN (fun k => crs0 (P.v k) (P.v (k + 1))) P.n + _
  unfold Poly.area
  omega
theorem sumN_nn {f : Nat → Int} : ∀ {n : Nat}, (∀ j, j < n → 0 ≤ f j) → 0 ≤ sumN f n
  | 0, _ => Int.le_refl _
  | n + 1, h => by
    have := sumN_nn (f := f) (n := n) fun j hj => h j (by omega)
    have := h n (by omega)
    simp only [sumN]; omega
theorem sumN_ge {f : Nat → Int} {k : Nat} : ∀ {n : Nat}, (∀ j, j < n → 0 ≤ f j) → k < n → f k ≤ sumN f n
  | 0, _, h => by omega
  | n + 1, h, hk => by
    simp only [sumN]
    rcases (show k = n ∨ k < n by omega) with e | e
    · subst e
      have := sumN_nn (f := f) (n := k) fun j hj => h j (by omega)
      omega
    · have := sumN_ge (f := f) (k := k) (n := n) (fun j hj => h j (by omega)) e
      have := h n (by omega)
      omega
theorem EdgeL.area {Q : Pt → Prop} {l : List Pt} (h : EdgeL Q l) (h3 : 3 ≤ l.length) : 0 < (roomP l).area := by
  have hn : 0 < l.length := by omega
  rw [area_at _ (pCy l 0)]
  have t := h.turn h3 0
  have : ∀ j, j < l.length → 0 ≤ turnZ (pCy l 0) ((roomP l).v j) ((roomP l).v (j + 1)) := fun j _ => by
    have := ((h.at hn j).2.2.2 _ (h.at hn 0).1).1
    have e : turnZ (pCy l 0) (pCy l j) (pCy l (j + 1)) = turnZ (pCy l j) (pCy l (j + 1)) (pCy l 0) := by unfold turnZ; grind
    show 0 ≤ turnZ (pCy l 0) (pCy l j) (pCy l (j + 1))
    omega
  have := sumN_ge (f := fun k => turnZ (pCy l 0) ((roomP l).v k) ((roomP l).v (k + 1))) (k := 1) (n := l.length) this (by omega)
  have e1 : turnZ (pCy l 0) ((roomP l).v 1) ((roomP l).v (1 + 1)) = turnZ (pCy l 0) (pCy l (0 + 1)) (pCy l (0 + 2)) := rfl
  rw [← e1] at t
  show 0 < sumN _ l.length
  omega
theorem raw_edgeL {xs : List Pt} (h : 0 < xs.length) (hok : xs.all ptOk = true) : EdgeL (· ∈ xs) (rawHull (ordP xs)) ∧ (∀ q ∈ xs, 0 < (rawHull (ordP xs)).length → ¬ Lt 1 q (pAt (rawHull (ordP xs)) 0)) ∧
    ((rawHull (ordP xs)).length = 0 → ∃ p, ∀ q ∈ xs, q = p) := by
  have hbd := bd_all hok
  have hne : ordP xs ≠ [] := fun e => by
    have := ord_low h
    rw [e] at this; cases this
  have hbo : ∀ q ∈ ordP xs, Bd q := fun q hq => hbd q (ordP_mem.1 hq)
  obtain ⟨⟨r1, r2, r3⟩, r4, r5⟩ := round_of hne (ordP_sorted xs) hbo
  have hw := wayP h hok
  generalize rawHull (ordP xs) = R at *
  generalize wayR (ordP xs) = P at *
  subst r5
  have hl : P.dropLast.length = P.length - 1 := List.length_dropLast
  have hget : ∀ j, j < P.length - 1 → P.dropLast.getD j (0, 0) = P.getD j (0, 0) := fun j hj => by
    rw [getD_lt _ (by omega), getD_lt _ (by omega), List.getElem_dropLast]
  refine ⟨⟨fun k hk => ?_, fun j j0 hj => ?_⟩, fun q hq hp => ?_, fun h0 => ⟨P.getD 0 (0, 0), hw.one (by have := hw.pos; omega)⟩⟩
  · rw [hl] at hk
    have e1 : pAt P.dropLast k = P.getD k (0, 0) := hget k hk
    have e2 : pCy P.dropLast (k + 1) = P.getD (k + 1) (0, 0) := by
      show P.dropLast.getD ((k + 1) % P.dropLast.length) _ = _
      rw [hl]
      rcases (show k + 1 < P.length - 1 ∨ k + 1 = P.length - 1 by omega) with g | g
      · rw [Nat.mod_eq_of_lt g, hget _ g]
      · rw [g, Nat.mod_self, hget 0 (by omega), hw.last]
    rw [e1, e2]
    have he : Edge (· ∈ ordP xs) (P.getD k (0, 0)) (P.getD (k + 1) (0, 0)) := by
      refine r1 (P.take k) _ _ (P.drop (k + 2)) ?_
      rw [show P.getD k (0, 0) = P[k] from getD_lt _ (by omega), show P.getD (k + 1) (0, 0) = P[k + 1] from getD_lt _ (by omega)]
      rw [← List.drop_eq_getElem_cons (show k + 1 < P.length by omega), ← List.drop_eq_getElem_cons (show k < P.length by omega), List.take_append_drop]
    exact ⟨ordP_mem.1 he.1, ordP_mem.1 he.2.1, he.2.2.1, fun q hq => he.2.2.2 q (ordP_mem.2 hq)⟩
  · rw [hl] at hj
    show P.dropLast.getD j (0, 0) ≠ P.dropLast.getD 0 (0, 0)
    rw [hget j hj, hget 0 (by omega)]
    exact hw.once j j0 (by omega)
  · rw [hl] at hp
    have e : pAt P.dropLast 0 = P.getD 0 (0, 0) := hget 0 hp
    have e0 : P.head? = some (P.getD 0 (0, 0)) := by
      cases P with
      | nil => simp at hp
      | cons a l => rfl
    have := e0.symm.trans hw.low
    rw [e, Option.some.inj this]
    obtain ⟨j, hj, ej, hmin⟩ := lowTo_spec xs xs.length h
    rw [ej, Int.toNat_natCast]
    obtain ⟨i, hi, rfl⟩ := List.getElem_of_mem hq
    have := hmin i hi
    rwa [show pAt xs i = xs[i] from getD_lt _ hi] at this
structure HullD (xs : List Pt) : Prop where
  eq : hullM xs = rawHull (ordP xs)
  len : 3 ≤ (hullM xs).length
  small : xs.length ≤ 30
  ok : xs.all ptOk = true
  edges : EdgeL (· ∈ xs) (hullM xs)
  low : ∀ q ∈ xs, ¬ Lt 1 q (pAt (hullM xs) 0)
theorem hull_d {xs : List Pt} (h : 0 < (hullM xs).length) : HullD xs := by
  have hh := h
  unfold hullM at hh
  split at hh
  · rename_i e
    simp only [Bool.and_eq_true, decide_eq_true_eq] at e
    obtain ⟨e1, e2, e3⟩ := e
    have hm := hull_yes e1 e2 e3
    have hx : 0 < xs.length := by
      have := raw_len (ordP xs)
      have := ordP_len xs
      omega
    obtain ⟨r1, r2, -⟩ := raw_edgeL hx e2
    rw [← hm] at r1 r2 e3
    exact ⟨hm, e3, e1, e2, r1, fun q hq => r2 q hq h⟩
  · exact absurd hh (by simp)
theorem HullD.mem {xs : List Pt} (h : HullD xs) : ∀ q ∈ hullM xs, q ∈ xs := fun q hq => by
  obtain ⟨i, hi, rfl⟩ := List.getElem_of_mem hq
  have := (h.edges.edge i hi).1
  rwa [show pAt (hullM xs) i = (hullM xs)[i] from getD_lt _ hi] at this
theorem nodup_len : ∀ (l m : List Pt), l.Nodup → (∀ q ∈ l, q ∈ m) → l.length ≤ m.length
  | [], _, _, _ => Nat.zero_le _
  | a :: l, m, hd, hs => by
    have hd' := List.nodup_cons.1 hd
    have ha := hs a List.mem_cons_self
    have ih := nodup_len l (m.erase a) hd'.2 fun q hq => by
      refine (List.mem_erase_of_ne fun e => ?_).2 (hs q (List.mem_cons_of_mem _ hq))
      subst e
      exact hd'.1 hq
    rw [List.length_erase_of_mem ha] at ih
    have := List.length_pos_of_mem ha
    simp only [List.length_cons]
    omega
theorem EdgeL.nodup {Q : Pt → Prop} {l : List Pt} (h : EdgeL Q l) : l.Nodup := by
  refine List.pairwise_iff_getElem.2 fun i j hi hj hij => ?_
  have := h.inj hij hj
  rwa [pAt, pAt, getD_lt _ hi, getD_lt _ hj] at this
theorem EdgeL.sub {Q Q' : Pt → Prop} {l : List Pt} (h : EdgeL Q l) (hq : ∀ q, Q' q → Q q) (hm : ∀ q ∈ l, Q' q) : EdgeL Q' l :=
  ⟨fun k hk => by
    obtain ⟨-, -, h3, h4⟩ := h.edge k hk
    refine ⟨hm _ (pAt_mem hk), ?_, h3, fun q g => h4 q (hq q g)⟩
    exact hm _ (pAt_mem (Nat.mod_lt _ (by omega))), h.once⟩
theorem hull_hull {xs : List Pt} (h : 0 < (hullM xs).length) : hullM (hullM xs) = hullM xs := by
  have d := hull_d h
  have hmem := d.mem
  have hok : (hullM xs).all ptOk = true := List.all_eq_true.2 fun q hq => List.all_eq_true.1 d.ok q (hmem q hq)
  have hlen : (hullM xs).length ≤ 30 := Nat.le_trans (nodup_len _ _ d.edges.nodup hmem) d.small
  obtain ⟨r1, r2, r3⟩ := raw_edgeL h hok
  have hx := d.edges.sub (Q' := (· ∈ hullM xs)) hmem fun q hq => hq
  have hpos : 0 < (rawHull (ordP (hullM xs))).length := by
    rcases Nat.eq_zero_or_pos (rawHull (ordP (hullM xs))).length with g | g
    · obtain ⟨p, hp⟩ := r3 g
      have := d.len
      exact absurd ((hp _ (pAt_mem (u := 1) (by omega))).trans (hp _ (pAt_mem (u := 0) (by omega))).symm) (d.edges.once 1 (by omega) (by omega))
    · exact g
  have e0 : pAt (rawHull (ordP (hullM xs))) 0 = pAt (hullM xs) 0 := by
    have m := (r1.edge 0 hpos).1
    have a := r2 _ (pAt_mem (L := hullM xs) (u := 0) h) hpos
    have b := d.low _ (hmem _ m)
    rcases lt_total (.inl rfl) (pAt (rawHull (ordP (hullM xs))) 0) (pAt (hullM xs) 0) with g | g | g
    · exact g
    · exact absurd g b
    · exact absurd g a
  have e := r1.uniq hx hpos h e0
  have := d.len
  rw [hull_yes hlen hok (by rw [e]; omega), e]
theorem room_hull_d {xs : List Pt} (hr : roomOk xs = true) : HullD xs := by
  have hl := room_len hr
  have hok := (roomOk_iff.1 hr).2.1
  obtain ⟨r1, r2, r3⟩ := raw_edgeL (by omega) hok
  have ht := room_turns hr 0
  have hv : ∀ j, (roomP xs).v j ∈ xs := fun j => pAt_mem (Nat.mod_lt _ (by omega))
  have h3 : 3 ≤ (rawHull (ordP xs)).length := by
    rcases (show (rawHull (ordP xs)).length = 0 ∨ (rawHull (ordP xs)).length = 1 ∨ (rawHull (ordP xs)).length = 2 ∨ 3 ≤ (rawHull (ordP xs)).length by omega) with g | g | g | g
    · exfalso
      obtain ⟨p, hp⟩ := r3 g
      rw [hp _ (hv 0), hp _ (hv 1)] at ht
      apply ht; unfold turnZ; grind
    · exfalso
      refine (r1.edge 0 (by omega)).2.2.1 ?_
      show pAt (rawHull (ordP xs)) 0 = (rawHull (ordP xs)).getD (1 % (rawHull (ordP xs)).length) (0, 0)
      rw [g]
    · exfalso
      have e0 := r1.edge 0 (by omega)
      have e1 := r1.edge 1 (by omega)
      have k1 : pCy (rawHull (ordP xs)) (0 + 1) = pAt (rawHull (ordP xs)) 1 := pCy_lt (by omega)
      have k2 : pCy (rawHull (ordP xs)) (1 + 1) = pAt (rawHull (ordP xs)) 0 := by
        show (rawHull (ordP xs)).getD (2 % (rawHull (ordP xs)).length) (0, 0) = _
        rw [g]
      rw [k1] at e0
      rw [k2] at e1
      generalize pAt (rawHull (ordP xs)) 0 = a at *
      generalize pAt (rawHull (ordP xs)) 1 = b at *
      have z : ∀ j, turnZ a b ((roomP xs).v j) = 0 := fun j => by
        have h1 := (e0.2.2.2 _ (hv j)).1
        have h2 := (e1.2.2.2 _ (hv j)).1
        have e : turnZ b a ((roomP xs).v j) = - turnZ a b ((roomP xs).v j) := by unfold turnZ; grind
        omega
      have hN := sq_pos e0.2.2.1
      rw [← phi_b] at hN
      have := (line_turn (z 0) (z (0 + 1)) ((roomP xs).v (0 + 2))).1
      rw [z, Int.mul_zero] at this
      rcases Int.mul_eq_zero.1 this with q | q
      · omega
      · exact ht q
    · exact g
  have hm := hull_yes (by omega) hok h3
  exact hull_d (by rw [hm]; omega)
theorem hull_room {xs : List Pt} (hr : roomOk xs = true) : roomOk (hullM xs) = true := by
  have d := room_hull_d hr
  have hl := room_len hr
  have hlen := nodup_len _ _ d.edges.nodup d.mem
  refine room_of d.len (by omega) (fun q hq => List.all_eq_true.1 d.ok q (d.mem q hq)) (d.edges.simple d.len) (fun j => ?_) (d.edges.area d.len)
  have := d.edges.turn d.len j
  show turnZ (pCy (hullM xs) j) (pCy (hullM xs) (j + 1)) (pCy (hullM xs) (j + 2)) ≠ 0
  omega
theorem hull_in {xs : List Pt} (hr : roomOk xs = true) {q : Pt} (hq : q ∈ xs) : placeM (hullM xs) q ≠ 0 := by
  have d := room_hull_d hr
  have hh := hull_room hr
  have hn : 0 < (hullM xs).length := room_pos hh
  have hno := star (room_simple hh) (room_turns hh) (room_area hh).2.1 (p := q) (q := (roomP (hullM xs)).v 0) (fun k hk => ((d.edges.at hn k).2.2.2 q hq).1) (corner_not_out (roomP (hullM xs)) 0 hn)
  intro h0
  rw [out_iff hh (bd_of_room hr q hq)] at h0
  refine hno 1 0 (by decide) (by decide) (by decide) ?_
  have e : padd (smul 1 q) (smul 0 ((roomP (hullM xs)).v 0)) = q := by unfold padd smul; simp
  rw [e]
  exact h0
theorem hull_convex {xs : List Pt} (hr : roomOk xs = true) (j : Nat) : 0 < turnZ ((roomP (hullM xs)).v j) ((roomP (hullM xs)).v (j + 1)) ((roomP (hullM xs)).v (j + 2)) := (room_hull_d hr).edges.turn (room_hull_d hr).len j
theorem pocket_in {P : Poly} (hP : SimpleP P) (ha : 0 < P.area) {m : Nat} (c : Chord P m) (hf : ∀ j, j < P.n → 0 ≤ turnZ (P.v 0) (P.v m) (P.v j)) {f : Aff} (f0 : 0 ≤ f.ev (P.v 0)) (fj : ∀ j, m ≤ j → j < P.n → 0 ≤ f.ev (P.v j)) (t : Nat) (ht : t < P.n) : 0 ≤ f.ev (P.v t) := by
  rcases (show 0 ≤ f.ev (P.v t) ∨ f.ev (P.v t) < 0 by omega) with g | g
  · exact g
  · exfalso
    have hm2 := c.m2
    have hmn := c.mn
    have hd : f.u * (⟨-f.v, f.u, 0⟩ : Aff).v - f.v * (⟨-f.v, f.u, 0⟩ : Aff).u ≠ 0 := by
      simp only
      have e : f.u * f.u - f.v * -f.v = f.u * f.u + f.v * f.v := by grind
      rw [e]
      intro h0
      have s1 : 0 ≤ f.u * f.u := by rcases (show 0 ≤ f.u ∨ f.u ≤ 0 by omega) with q | q; exact nn0 q q; exact mm0 q q
      have s2 : 0 ≤ f.v * f.v := by rcases (show 0 ≤ f.v ∨ f.v ≤ 0 by omega) with q | q; exact nn0 q q; exact mm0 q q
      have u0 : f.u = 0 := by rcases Int.mul_eq_zero.1 (show f.u * f.u = 0 by omega) with q | q <;> exact q
      have v0 : f.v = 0 := by rcases Int.mul_eq_zero.1 (show f.v * f.v = 0 by omega) with q | q <;> exact q
      unfold Aff.ev at f0 g
      rw [u0, v0] at f0 g
      omega
    have low : Late fun N => ∀ j, j < P.n → (0 ≤ f.ev (P.v j) → (Aff.lc N f 1 (⟨-f.v, f.u, 0⟩ : Aff) 0).ev (P.v t) < (Aff.lc N f 1 (⟨-f.v, f.u, 0⟩ : Aff) 0).ev (P.v j)) := by
      refine Late.all fun j hj => ?_
      refine ⟨(⟨-f.v, f.u, 0⟩ : Aff).ev (P.v t) - (⟨-f.v, f.u, 0⟩ : Aff).ev (P.v j) + 1, fun N hN hN0 hj1 => ?_⟩
      rw [ev_lc, ev_lc]
      have := Int.mul_le_mul_of_nonneg_left (show f.ev (P.v t) + 1 ≤ f.ev (P.v j) by omega) (show 0 ≤ N by omega)
      rw [Int.mul_add, Int.mul_one] at this
      omega
    obtain ⟨N, hN, hl, hg⟩ := (low.and (gen_two hP hd)).get
    generalize Aff.lc N f 1 (⟨-f.v, f.u, 0⟩ : Aff) 0 = F at *
    obtain ⟨r, hr, hmin⟩ := ex_max (fun k => k < P.n) (fun k => - F.ev (P.v k)) P.n (fun k h => h) ⟨0, by omega⟩
    have hneg : f.ev (P.v r) < 0 := by
      rcases (show f.ev (P.v r) < 0 ∨ 0 ≤ f.ev (P.v r) by omega) with q | q
      · exact q
      · have := hl r hr q
        have := hmin t ht
        omega
    have r0 : 0 < r := by
      rcases Nat.eq_zero_or_pos r with q | q
      · subst q; omega
      · exact q
    have rm : r < m := by
      rcases Nat.lt_or_ge r m with q | q
      · exact q
      · have := fj r q hr; omega
    have lowP : LowAt F P (r - 1) := fun j hj hj1 => by
      have e1 : (P.rot (r - 1)).v 1 = P.v r := by show P.v (r - 1 + 1) = _; rw [show r - 1 + 1 = r by omega]
      have ej : (P.rot (r - 1)).v j = P.v ((r - 1 + j) % P.n) := (P.per_mod _).symm
      rw [e1, ej]
      have hlt : (r - 1 + j) % P.n < P.n := Nat.mod_lt _ (by omega)
      have hle := hmin _ hlt
      have hne : r ≠ (r - 1 + j) % P.n := by
        intro e
        rcases (show r - 1 + j < P.n ∨ P.n ≤ r - 1 + j by omega) with q | q
        · rw [Nat.mod_eq_of_lt q] at e; omega
        · rw [Nat.mod_eq_sub_mod (by omega), Nat.mod_eq_of_lt (by omega)] at e; omega
      have := hg _ _ hr hlt hne
      omega
    have ht := low_left hP hg ((pos_iff hP hg).2 ha) lowP
    have hA := hP.arc c
    have hgA := hg.arc (m := m) (by omega)
    refine outer_neg hP c hf (area_pos hA hgA ⟨r - 1, fun j hj hj1 => ?_, ?_⟩)
    · have hj : j < m + 1 := hj
      have e1 : ((P.arc m).rot (r - 1)).v 1 = P.v r := by show P.v ((r - 1 + 1) % (m + 1)) = _; rw [Nat.mod_eq_of_lt (by omega), show r - 1 + 1 = r by omega]
      have ej : ((P.arc m).rot (r - 1)).v j = P.v ((r - 1 + j) % (m + 1)) := rfl
      rw [e1, ej]
      have hlt : (r - 1 + j) % (m + 1) < m + 1 := Nat.mod_lt _ (by omega)
      have hle := hmin ((r - 1 + j) % (m + 1)) (by omega)
      have hne : r ≠ (r - 1 + j) % (m + 1) := by
        intro e
        rcases (show r - 1 + j < m + 1 ∨ m + 1 ≤ r - 1 + j by omega) with q | q
        · rw [Nat.mod_eq_of_lt q] at e; omega
        · rw [Nat.mod_eq_sub_mod (by omega), Nat.mod_eq_of_lt (by omega)] at e; omega
      have := hg _ _ hr (show (r - 1 + j) % (m + 1) < P.n by omega) hne
      omega
    · have w : ∀ d, d ≤ 2 → ((P.arc m).rot (r - 1)).v d = (P.rot (r - 1)).v d := fun d hd => by
        show P.v ((r - 1 + d) % (m + 1)) = P.v (r - 1 + d)
        rw [Nat.mod_eq_of_lt (by omega)]
      rw [w 0 (by omega), w 1 (by omega), w 2 (by omega)]
      exact ht
theorem next_or {P : Poly} (hP : SimpleP P) (ha : 0 < P.area) {m : Nat} (m0 : 0 < m) (mn : m < P.n) (hf : ∀ j, j < P.n → 0 ≤ turnZ (P.v 0) (P.v m) (P.v j))
    (hs : ∀ j, j < P.n → j ≠ 0 → j ≠ m → turnZ (P.v 0) (P.v m) (P.v j) = 0 → phi (P.v 0) (P.v m) (P.v j) < 0 ∨ phi (P.v 0) (P.v m) (P.v m) < phi (P.v 0) (P.v m) (P.v j)) : m = 1 ∨ Chord P m := by
  have h3 := hP.n3
  rcases (show m = 1 ∨ m + 1 = P.n ∨ (2 ≤ m ∧ m + 2 ≤ P.n) by omega) with g | g | ⟨g1, g2⟩
  · exact .inl g
  · exfalso
    refine no_back' hP ha (j := m) fun k hk => ?_
    rw [g, P.vn]
    have := hf k hk
    have e : turnZ (P.v m) (P.v 0) (P.v k) = - turnZ (P.v 0) (P.v m) (P.v k) := by unfold turnZ; grind
    omega
  · exact .inr (outer_chord hP g1 g2 hf hs)
def Pocket (P : Poly) : Prop := ∃ i m, Chord (P.rot i) m ∧ ∀ j, j < P.n → 0 ≤ turnZ ((P.rot i).v 0) ((P.rot i).v m) ((P.rot i).v j)
theorem line_or {P : Poly} (hP : SimpleP P) (ha : 0 < P.area) {a b : Pt} (hab : a ≠ b) (hl : ∀ j, 0 ≤ turnZ a b (P.v j))
    {i k : Nat} (hi : turnZ a b (P.v i) = 0) (hk : turnZ a b (P.v k) = 0) (hφ : phi a b (P.v i) < phi a b (P.v k))
    (hn : ∀ j, turnZ a b (P.v j) = 0 → phi a b (P.v i) < phi a b (P.v j) → phi a b (P.v j) < phi a b (P.v k) → False) : P.v k = P.v (i + 1) ∨ Pocket P := by
  have h3 := hP.n3
  have hN := sq_pos hab
  rw [← phi_b] at hN
  have hle : i ≤ P.n * (i + 1) := by
    have : 1 * (i + 1) ≤ P.n * (i + 1) := Nat.mul_le_mul_right _ (by omega)
    omega
  have hm : ∃ m, m < P.n ∧ P.v (i + m) = P.v k := ⟨(k + P.n * (i + 1) - i) % P.n, Nat.mod_lt _ (by omega), by
    rw [← P.per_mod, Nat.add_mod_mod, show i + (k + P.n * (i + 1) - i) = k + P.n * (i + 1) by omega, P.per_mod, P.per_mul]⟩
  obtain ⟨m, hmn, hmk⟩ := hm
  have m0 : 0 < m := by
    rcases Nat.eq_zero_or_pos m with g | g
    · rw [g, Nat.add_zero] at hmk; rw [hmk] at hφ; omega
    · exact g
  have e0 : (P.rot i).v 0 = P.v i := by show P.v (i + 0) = _; rw [Nat.add_zero]
  have em : (P.rot i).v m = P.v k := hmk
  have key := fun x => line_turn hi hk x
  have hpos : 0 < phi a b (P.v k) - phi a b (P.v i) := by omega
  have hleft : ∀ j, j < (P.rot i).n → 0 ≤ turnZ ((P.rot i).v 0) ((P.rot i).v m) ((P.rot i).v j) := fun j hj => by
    rw [e0, em]
    show 0 ≤ turnZ _ _ (P.v (i + j))
    have h1 := (key (P.v (i + j))).1
    have h2 := nn0 (show 0 ≤ phi a b (P.v k) - phi a b (P.v i) by omega) (hl (i + j))
    rw [← h1] at h2
    rcases (show 0 ≤ turnZ (P.v i) (P.v k) (P.v (i + j)) ∨ turnZ (P.v i) (P.v k) (P.v (i + j)) < 0 by omega) with g | g
    · exact g
    · have := pm hN g; omega
  have m1 : m = 1 ∨ Chord (P.rot i) m := by
    refine next_or (hP.rot i) (by rw [area_rot]; exact ha) m0 hmn hleft (fun j hj j0 jm hz => ?_)
    · rw [e0, em] at hz ⊢
      have hz : turnZ (P.v i) (P.v k) (P.v (i + j)) = 0 := hz
      show phi _ _ (P.v (i + j)) < 0 ∨ _ < phi _ _ (P.v (i + j))
      obtain ⟨h1, h2⟩ := key (P.v (i + j))
      obtain ⟨-, h4⟩ := key (P.v k)
      rw [hz, Int.mul_zero] at h1
      have hz' : turnZ a b (P.v (i + j)) = 0 := by
        rcases Int.mul_eq_zero.1 h1.symm with g | g <;> omega
      have ni : P.v (i + j) ≠ P.v i := fun e => by
        have := (hP.rot i).inj (i := j) (j := 0) hj (by show 0 < P.n; omega) j0
        rw [e0] at this; exact this e
      have nk : P.v (i + j) ≠ P.v k := fun e => by
        have := (hP.rot i).inj (i := j) (j := m) hj hmn jm
        rw [em] at this; exact this e
      have q1 : phi a b (P.v (i + j)) ≠ phi a b (P.v i) := fun e => ni (phi_inj hab hz' hi e)
      have q2 : phi a b (P.v (i + j)) ≠ phi a b (P.v k) := fun e => nk (phi_inj hab hz' hk e)
      rcases (show phi a b (P.v (i + j)) < phi a b (P.v i) ∨ phi a b (P.v k) < phi a b (P.v (i + j)) ∨ (phi a b (P.v i) < phi a b (P.v (i + j)) ∧ phi a b (P.v (i + j)) < phi a b (P.v k)) by omega) with g | g | ⟨g1, g2⟩
      · left
        have := pm hpos (show phi a b (P.v (i + j)) - phi a b (P.v i) < 0 by omega)
        rw [← h2] at this
        rcases (show phi (P.v i) (P.v k) (P.v (i + j)) < 0 ∨ 0 ≤ phi (P.v i) (P.v k) (P.v (i + j)) by omega) with q | q
        · exact q
        · have := nn0 (show 0 ≤ phi a b b by omega) q; omega
      · right
        have := pp hpos (show 0 < phi a b (P.v (i + j)) - phi a b (P.v k) by omega)
        have e : (phi a b (P.v k) - phi a b (P.v i)) * (phi a b (P.v (i + j)) - phi a b (P.v k)) = (phi a b (P.v k) - phi a b (P.v i)) * (phi a b (P.v (i + j)) - phi a b (P.v i)) - (phi a b (P.v k) - phi a b (P.v i)) * (phi a b (P.v k) - phi a b (P.v i)) := by grind
        rw [e, ← h2, ← h4, ← Int.mul_sub] at this
        rcases (show phi (P.v i) (P.v k) (P.v k) < phi (P.v i) (P.v k) (P.v (i + j)) ∨ phi (P.v i) (P.v k) (P.v (i + j)) - phi (P.v i) (P.v k) (P.v k) ≤ 0 by omega) with q | q
        · exact q
        · have := pm0 (show 0 ≤ phi a b b by omega) q; omega
      · exact (hn _ hz' g1 g2).elim
  rcases m1 with m1 | c
  · left; rw [← hmk, m1]
  · right; exact ⟨i, m, c, hleft⟩
def WC (P : Poly) : Prop := ∀ j k, 0 ≤ turnZ (P.v j) (P.v (j + 1)) (P.v k)
theorem weak_or {P : Poly} (hP : SimpleP P) (ha : 0 < P.area) (hok : ∀ j, ptOk (P.v j) = true) : WC P ∨ Pocket P := by
  by_cases hpk : Pocket P
  · exact .inr hpk
  left
  have h3 := hP.n3
  obtain ⟨L, hL⟩ : ∃ L : List Pt, L = (List.range P.n).map P.v := ⟨_, rfl⟩
  have hLn : L.length = P.n := by rw [hL]; simp
  have hv : ∀ j, P.v j ∈ L := fun j => by
    rw [hL, ← P.per_mod j]
    exact List.mem_map.2 ⟨_, List.mem_range.2 (Nat.mod_lt _ (by omega)), rfl⟩
  have hx : ∀ q ∈ L, ∃ j, q = P.v j := fun q hq => by
    rw [hL] at hq
    obtain ⟨j, -, e⟩ := List.mem_map.1 hq
    exact ⟨j, e.symm⟩
  have hall : L.all ptOk = true := List.all_eq_true.2 fun q hq => by
    obtain ⟨j, rfl⟩ := hx q hq
    exact hok j
  obtain ⟨r1, -, r3⟩ := raw_edgeL (xs := L) (by omega) hall
  generalize rawHull (ordP L) = R at *
  have hR : 0 < R.length := by
    rcases Nat.eq_zero_or_pos R.length with g | g
    · obtain ⟨p, hp⟩ := r3 g
      exact absurd ((hp _ (hv 0)).trans (hp _ (hv 1)).symm) (hP.ne 0)
    · exact g
  have next : ∀ e w : Nat, turnZ (pCy R e) (pCy R (e + 1)) (P.v w) = 0 → phi (pCy R e) (pCy R (e + 1)) (P.v w) < phi (pCy R e) (pCy R (e + 1)) (pCy R (e + 1)) →
      turnZ (pCy R e) (pCy R (e + 1)) (P.v (w + 1)) = 0 ∧ phi (pCy R e) (pCy R (e + 1)) (P.v w) < phi (pCy R e) (pCy R (e + 1)) (P.v (w + 1)) ∧ phi (pCy R e) (pCy R (e + 1)) (P.v (w + 1)) ≤ phi (pCy R e) (pCy R (e + 1)) (pCy R (e + 1)) := fun e w hw hwb => by
    have he := r1.at hR e
    obtain ⟨kb, hkb⟩ := hx _ he.2.1
    have tbb : turnZ (pCy R e) (pCy R (e + 1)) (pCy R (e + 1)) = 0 := by unfold turnZ; grind
    generalize pCy R e = a at *
    generalize pCy R (e + 1) = b at *
    obtain ⟨c, ⟨hcn, hc0, hcw⟩, hmin⟩ := ex_max (fun c => c < P.n ∧ turnZ a b (P.v c) = 0 ∧ phi a b (P.v w) < phi a b (P.v c)) (fun c => - phi a b (P.v c)) P.n (fun c h => h.1)
      ⟨kb % P.n, Nat.mod_lt _ (by omega), by rw [P.per_mod, ← hkb]; exact tbb, by rw [P.per_mod, ← hkb]; exact hwb⟩
    rcases line_or hP ha he.2.2.1 (fun j => (he.2.2.2 _ (hv j)).1) hw hc0 hcw (fun j hj g1 g2 => by
      have := hmin (j % P.n) ⟨Nat.mod_lt _ (by omega), by rw [P.per_mod]; exact hj, by rw [P.per_mod]; exact g1⟩
      rw [P.per_mod] at this
      omega) with g | g
    · rw [← g]
      refine ⟨hc0, hcw, ?_⟩
      have := hmin (kb % P.n) ⟨Nat.mod_lt _ (by omega), by rw [P.per_mod, ← hkb]; exact tbb, by rw [P.per_mod, ← hkb]; exact hwb⟩
      rw [P.per_mod, ← hkb] at this
      omega
    · exact absurd g hpk
  obtain ⟨i0, hi0⟩ := hx _ (r1.at hR 0).1
  have walk : ∀ t, ∃ e, turnZ (pCy R e) (pCy R (e + 1)) (P.v (i0 + t)) = 0 ∧ phi (pCy R e) (pCy R (e + 1)) (P.v (i0 + t)) < phi (pCy R e) (pCy R (e + 1)) (pCy R (e + 1)) := fun t => by
    have start : ∀ e, turnZ (pCy R e) (pCy R (e + 1)) (pCy R e) = 0 ∧ phi (pCy R e) (pCy R (e + 1)) (pCy R e) < phi (pCy R e) (pCy R (e + 1)) (pCy R (e + 1)) := fun e => by
      have hN := sq_pos (r1.at hR e).2.2.1
      rw [← phi_b] at hN
      exact ⟨by unfold turnZ; grind, by rw [phi_a]; exact hN⟩
    induction t with
    | zero =>
      refine ⟨0, ?_⟩
      have := start 0
      rw [hi0] at this
      rw [hi0]
      exact this
    | succ t ih =>
      obtain ⟨e, h1, h2⟩ := ih
      obtain ⟨n1, n2, n3⟩ := next e _ h1 h2
      rcases (show phi (pCy R e) (pCy R (e + 1)) (P.v (i0 + t + 1)) < phi (pCy R e) (pCy R (e + 1)) (pCy R (e + 1)) ∨ phi (pCy R e) (pCy R (e + 1)) (P.v (i0 + t + 1)) = phi (pCy R e) (pCy R (e + 1)) (pCy R (e + 1)) by omega) with g | g
      · exact ⟨e, n1, g⟩
      · have tbb : turnZ (pCy R e) (pCy R (e + 1)) (pCy R (e + 1)) = 0 := by unfold turnZ; grind
        have eq := phi_inj (r1.at hR e).2.2.1 n1 tbb g
        refine ⟨e + 1, ?_⟩
        rw [show i0 + (t + 1) = i0 + t + 1 by omega, eq]
        exact start (e + 1)
  intro j k
  have hle : i0 ≤ P.n * i0 := Nat.le_mul_of_pos_left _ (by omega)
  have ej : ∀ d, P.v (i0 + (j + P.n * i0 - i0) + d) = P.v (j + d) := fun d => by
    rw [show i0 + (j + P.n * i0 - i0) + d = j + d + P.n * i0 by omega, P.per_mul]
  obtain ⟨e, h1, h2⟩ := walk (j + P.n * i0 - i0)
  obtain ⟨n1, n2, -⟩ := next e _ h1 h2
  have he := r1.at hR e
  rw [ej 1] at n1 n2
  have e0 := ej 0
  rw [Nat.add_zero, Nat.add_zero] at e0
  rw [e0] at h1 n2
  have hN := sq_pos he.2.2.1
  rw [← phi_b] at hN
  have hl := (line_turn h1 n1 (P.v k)).1
  have hk := (he.2.2.2 _ (hv k)).1
  have := nn0 (show 0 ≤ phi (pCy R e) (pCy R (e + 1)) (P.v (j + 1)) - phi (pCy R e) (pCy R (e + 1)) (P.v j) by omega) hk
  rcases (show 0 ≤ turnZ (P.v j) (P.v (j + 1)) (P.v k) ∨ turnZ (P.v j) (P.v (j + 1)) (P.v k) < 0 by omega) with g | g
  · exact g
  · have := pm hN g
    omega
theorem area_ne {P : Poly} (hP : SimpleP P) : P.area ≠ 0 := by
  obtain ⟨M, -, hg⟩ := (hM_gen hP).get
  rcases pos_or_neg hP hg with g | g
  · have := area_pos hP hg g; omega
  · have := area_pos hP.mir hg.mir g.mir
    rw [area_mir] at this
    omega
structure Around (P C : Poly) : Prop where
  sim : SimpleP C
  wc : WC C
  mem : ∀ j, ∃ k, C.v j = P.v k
  left : ∀ j k, 0 ≤ turnZ (C.v j) (C.v (j + 1)) (P.v k)
  le : P.area ≤ C.area
  lt : ¬ WC P → P.area < C.area
theorem around : ∀ (n : Nat) (P : Poly), P.n = n → SimpleP P → 0 < P.area → (∀ j, ptOk (P.v j) = true) → ∃ C, Around P C := fun n => by
  induction n using Nat.strongRecOn with
  | _ n ih =>
    intro P hn hP ha hok
    rcases weak_or hP ha hok with w | ⟨i, m, c, hf⟩
    · exact ⟨P, hP, w, fun j => ⟨j, rfl⟩, w, Int.le_refl _, fun h => absurd w h⟩
    have hm2 := c.m2
    have hmn : m + 2 ≤ P.n := c.mn
    have hQ := hP.rot i
    have hA := hQ.arc c
    have hB := (hQ.rot m).arc c.rot
    have hcut : P.area = ((P.rot i).arc m).area + (((P.rot i).rot m).arc (P.n - m)).area := by
      rw [← area_rot P i]
      exact area_cut (P.rot i) (m := m) (by show m ≤ P.n; omega)
    have hAn : ((P.rot i).arc m).area < 0 := by
      have h1 := outer_neg hQ c hf
      have h2 := area_ne hA
      omega
    have hB : SimpleP (((P.rot i).rot m).arc (P.n - m)) := hB
    have hBv : ∀ j, ∃ k, (((P.rot i).rot m).arc (P.n - m)).v j = P.v k := fun j => ⟨i + (m + j % (P.n - m + 1)), rfl⟩
    obtain ⟨C, hC⟩ := ih (P.n - m + 1) (by omega) (((P.rot i).rot m).arc (P.n - m)) rfl hB (by omega) fun j => by
      obtain ⟨k, e⟩ := hBv j
      rw [e]; exact hok k
    have hle := hC.le
    refine ⟨C, hC.sim, hC.wc, fun j => ?_, fun j k => ?_, by omega, fun _ => by omega⟩
    · obtain ⟨k, e⟩ := hC.mem j
      obtain ⟨k', e'⟩ := hBv k
      exact ⟨k', e.trans e'⟩
    · -- k as a corner of the turned polygon
      have hle : i ≤ P.n * i := Nat.le_mul_of_pos_left _ (by omega)
      have ek : (P.rot i).v ((k + P.n * i - i) % P.n) = P.v k := by
        have := (P.rot i).per_mod (k + P.n * i - i)
        have e2 : (P.rot i).v (k + P.n * i - i) = P.v k := by
          show P.v (i + (k + P.n * i - i)) = _
          rw [show i + (k + P.n * i - i) = k + P.n * i by omega, P.per_mul]
        exact this.trans e2
      have bv : ∀ t, m ≤ t → t ≤ P.n → (((P.rot i).rot m).arc (P.n - m)).v (t - m) = (P.rot i).v t := fun t h1 h2 => by
        rw [arc_v _ (by omega)]
        show P.v (i + (m + (t - m))) = P.v (i + t)
        rw [show m + (t - m) = t by omega]
      have := pocket_in hQ (by rw [area_rot]; exact ha) c hf (f := Aff.turn (C.v j) (C.v (j + 1))) (by
        rw [ev_turn]
        have := hC.left j (P.n - m)
        rw [bv P.n (by omega) (by omega)] at this
        rwa [show (P.rot i).v P.n = (P.rot i).v 0 from (P.rot i).vn] at this) (fun t h1 h2 => by
        rw [ev_turn]
        have h2 : t < P.n := h2
        have := hC.left j (t - m)
        rwa [bv t h1 (by omega)] at this) ((k + P.n * i - i) % P.n) (Nat.mod_lt _ (by omega))
      rw [ev_turn, ek] at this
      exact this
end Go.Proofs.Ytnepfcnlngpchaa.Geo
namespace Go.Proofs.Ytnepfcnlngpchaa.Geo
theorem Cut.rot {P : Poly} {m : Nat} (c : Cut P m) : Cut (P.rot m) (P.n - m) ∧ partB (P.rot m) (P.n - m) = P.arc m := by
  have hm2 := c.c.m2
  have hmn := c.c.mn
  have e : partB (P.rot m) (P.n - m) = P.arc m := by
    have e1 : (P.rot m).rot (P.n - m) = P := by
      rw [rot_rot]
      exact Poly.ext' rfl fun j => by show P.v (m + (P.n - m) + j) = P.v j; rw [show m + (P.n - m) + j = j + P.n by omega, P.per]
    show ((P.rot m).rot (P.n - m)).arc (P.n - (P.n - m)) = P.arc m
    rw [e1, show P.n - (P.n - m) = m by omega]
  exact ⟨⟨c.c.rot, c.b, by rw [e]; exact c.a⟩, e⟩
theorem Cut.wall {P : Poly} (hP : SimpleP P) {m : Nat} (c : Cut P m) {k : Nat} (h1 : m ≤ k) (h2 : k < P.n) {s t K : Int} (hs : 0 < s) (ht : 0 < t) (e : s + t = K) (hin : Inn (P.arc m) K (padd (smul s (P.v k)) (smul t (P.v (k + 1))))) : False := by
  have hm2 := c.c.m2
  have hmn := c.c.mn
  have hK : 0 < K := by omega
  have hSB := c.simB hP
  obtain ⟨M, -, hg⟩ := (hM_gen hP).get
  have hgB : Gen (hM M) (partB P m) := (hg.rot m).arc (by show P.n - m < P.n; omega)
  have b0 : (partB P m).v (k - m) = P.v k := by rw [B_v (by omega) (by omega), show m + (k - m) = k by omega]
  have b1 : (partB P m).v (k - m + 1) = P.v (k + 1) := by rw [B_v (by omega) (by omega), show m + (k - m + 1) = k + 1 by omega]
  have hab : P.v k ≠ P.v (k + 1) := hP.ne k
  have hN := sq_pos hab
  have lB := wall_sides hSB hgB (left_of_area hSB hgB c.b) (k := k - m) (by show k - m < P.n - m + 1; omega) hs ht e (x := padd (smul s (P.v k)) (smul t (P.v (k + 1)))) (by rw [b0, b1]) (d := rotP (psub (P.v (k + 1)) (P.v k)))
  obtain ⟨L, hL, gB, gA⟩ := (lB.and (near hin.1 (rotP (psub (P.v (k + 1)) (P.v k))))).get
  rw [b0, b1] at gB
  have tB : 0 < turnZ (P.v k) (P.v (k + 1)) (padd (P.v k) (rotP (psub (P.v (k + 1)) (P.v k)))) := by
    have : turnZ (P.v k) (P.v (k + 1)) (padd (P.v k) (rotP (psub (P.v (k + 1)) (P.v k)))) = ((P.v (k + 1)).1 - (P.v k).1) * ((P.v (k + 1)).1 - (P.v k).1) + ((P.v (k + 1)).2 - (P.v k).2) * ((P.v (k + 1)).2 - (P.v k).2) := by unfold turnZ padd rotP psub; grind
    omega
  obtain ⟨wB, oB⟩ := gB.1 tB
  obtain ⟨oA, wA⟩ := gA
  have wA := wA ((hM M).sc K)
  rw [hin.w (g := (hM M).sc K) (.inl (show (1 : Int) ≠ 0 by decide)), sc_sc] at wA
  have sum := cut_sum ((hM M).sc (L * K)) P (L * K) (show m ≤ P.n by omega) (padd (smul L (padd (smul s (P.v k)) (smul t (P.v (k + 1))))) (rotP (psub (P.v (k + 1)) (P.v k))))
  rw [wA, wB] at sum
  have := wnd_zero_oneK hP c.area (pp hL hK) (h := (hM M).sc (L * K)) (.inl (show (1 : Int) ≠ 0 by decide)) (P_walls (m := m) (by omega) (Q := fun a b => Off _ (smul (L * K) a) (smul (L * K) b)) oA oB)
  omega
theorem Cut.corner {P : Poly} (hP : SimpleP P) {m : Nat} (c : Cut P m) {j : Nat} (h1 : m < j) (h2 : j < P.n) : Outp (P.arc m) 1 (P.v j) := by
  have hm2 := c.c.m2
  have hmn := c.c.mn
  have ho : OffP (P.arc m) 1 (P.v j) := A_walls (Q := fun a b => Off (P.v j) (smul 1 a) (smul 1 b)) |>.2 ⟨fun k hk => by
    rw [smul_one, smul_one]
    exact hP.offI (by omega) h2 (by omega) (by omega) (by omega), by rw [smul_one, smul_one]; exact (c.c.off j (by omega) h2 (by omega)).swap⟩
  rcases out_or_in (c.simA hP) c.a (by decide) ho with g | g
  · exact g
  · exfalso
    obtain ⟨L, hL, ⟨gA, wA⟩, h2L⟩ := ((near ho (psub (P.v (j + 1)) (P.v j))).and (Late.ge 2)).get
    refine c.wall hP (k := j) (by omega) h2 (s := L - 1) (t := 1) (K := L * 1) (by omega) (by decide) (by omega) ?_
    have e : padd (smul (L - 1) (P.v j)) (smul 1 (P.v (j + 1))) = padd (smul L (P.v j)) (psub (P.v (j + 1)) (P.v j)) := by
      unfold padd smul psub
      refine Prod.ext ?_ ?_ <;> simp only <;> grind
    rw [e]
    exact ⟨gA, up.sc L, nc_up, by rw [wA up]; exact g.w nc_up⟩
theorem Cut.inn_of {P : Poly} (hP : SimpleP P) {m : Nat} (c : Cut P m) {K : Int} (hK : 0 < K) {x : Pt} (h : Inn (P.arc m) K x) : Inn P K x := by
  have hm2 := c.c.m2
  have hmn := c.c.mn
  have hA := A_walls (Q := fun a b => Off x (smul K a) (smul K b)) |>.1 h.1
  have corner : ∀ j, m ≤ j → j ≤ P.n → x ≠ smul K (P.v j) := fun j g1 g2 e => by
    rcases (show j = m ∨ j = P.n ∨ (m < j ∧ j < P.n) by omega) with q | q | ⟨q1, q2⟩
    · have := hA.2
      rw [e, q] at this
      exact (Off.ne this).1 rfl
    · have := hA.2
      rw [e, q, P.vn] at this
      exact (Off.ne this).2 rfl
    · have := (c.corner hP q1 q2).scale (L := K) hK
      rw [Int.mul_one, ← e] at this
      exact h.not_out this
  have oP : OffP P K x := fun k hk => by
    rcases (show k < m ∨ m ≤ k by omega) with g | g
    · exact hA.1 k g
    · have hne : smul K (P.v k) ≠ smul K (P.v (k + 1)) := fun e => hP.ne k (Prod.ext (Int.eq_of_mul_eq_mul_left (by omega) (congrArg Prod.fst e)) (Int.eq_of_mul_eq_mul_left (by omega) (congrArg Prod.snd e)))
      rcases off_or_on x hne with q | q
      · exact q
      · exfalso
        obtain ⟨s, t, hs, ht, h0, hf⟩ := q
        have x1 := hf ⟨1, 0, 0⟩
        have x2 := hf ⟨0, 1, 0⟩
        simp only [Aff.ev, Int.one_mul, Int.zero_mul, Int.zero_add, Int.add_zero] at x1 x2
        by_cases s0 : s = 0
        · refine corner (k + 1) (by omega) (by omega) (Prod.ext ?_ ?_)
          · rw [s0] at x1; exact Int.eq_of_mul_eq_mul_left (show t ≠ 0 by omega) (by simpa using x1)
          · rw [s0] at x2; exact Int.eq_of_mul_eq_mul_left (show t ≠ 0 by omega) (by simpa using x2)
        by_cases t0 : t = 0
        · refine corner k g (by omega) (Prod.ext ?_ ?_)
          · rw [t0] at x1; exact Int.eq_of_mul_eq_mul_left (show s ≠ 0 by omega) (by simpa using x1)
          · rw [t0] at x2; exact Int.eq_of_mul_eq_mul_left (show s ≠ 0 by omega) (by simpa using x2)
        refine c.wall hP g hk (s := s * K) (t := t * K) (K := (s + t) * K) (pp (by omega) hK) (pp (by omega) hK) (by rw [Int.add_mul]) ?_
        have e : padd (smul (s * K) (P.v k)) (smul (t * K) (P.v (k + 1))) = smul (s + t) x := by
          unfold smul padd at *
          refine Prod.ext ?_ ?_
          · show s * K * (P.v k).1 + t * K * (P.v (k + 1)).1 = (s + t) * x.1
            rw [x1]; grind
          · show s * K * (P.v k).2 + t * K * (P.v (k + 1)).2 = (s + t) * x.2
            rw [x2]; grind
        rw [e]
        exact h.scale h0
  have oB : OffP (partB P m) K x := (B_walls (show m < P.n by omega) (Q := fun a b => Off x (smul K a) (smul K b))).2 ⟨fun k _ hk => oP k hk, hA.2.swap⟩
  refine ⟨oP, up, nc_up, ?_⟩
  have sum := cut_sum up P K (show m ≤ P.n by omega) x
  rw [h.w nc_up] at sum
  have := wnd_zero_oneK hP c.area hK nc_up oP
  have := wnd_zero_oneK (c.simB hP) c.b hK nc_up oB
  omega
theorem cut_of_far {P : Poly} (hP : SimpleP P) (ha : 0 < P.area) {m : Nat} (c : Chord P m) (hA : 0 < (P.arc m).area) {k : Nat} (h1 : m ≤ k) (h2 : k < P.n) {f : Aff} (hf : ∀ j, j ≤ m → 0 ≤ f.ev (P.v j)) (hneg : f.ev (P.v (k + 1)) < 0) : Cut P m := by
  have hm2 := c.m2
  have hmn := c.mn
  refine ⟨c, hA, ?_⟩
  have hSB : SimpleP (partB P m) := (hP.rot m).arc c.rot
  obtain ⟨M, -, hg⟩ := (hM_gen hP).get
  have hgB : Gen (hM M) (partB P m) := (hg.rot m).arc (by show P.n - m < P.n; omega)
  obtain ⟨l2, hB, a2⟩ := left_ex hSB hgB
  have b0 : (partB P m).v (k - m) = P.v k := by rw [B_v (by omega) (by omega), show m + (k - m) = k by omega]
  have b1 : (partB P m).v (k - m + 1) = P.v (k + 1) := by rw [B_v (by omega) (by omega), show m + (k - m + 1) = k + 1 by omega]
  have hN := sq_pos (hP.ne k)
  obtain ⟨t, ht, htf⟩ : ∃ t : Int, 0 < t ∧ f.ev (P.v k) + t * f.ev (P.v (k + 1)) < 0 := by
    refine ⟨(f.ev (P.v k)).natAbs + 1, by omega, ?_⟩
    have := Int.mul_le_mul_of_nonneg_left (show f.ev (P.v (k + 1)) ≤ -1 by omega) (show 0 ≤ ((f.ev (P.v k)).natAbs : Int) + 1 by omega)
    omega
  obtain ⟨d, hd⟩ : ∃ d, d = rotP (psub (P.v (k + 1)) (P.v k)) := ⟨_, rfl⟩
  obtain ⟨x, hx⟩ : ∃ x, x = padd (smul 1 (P.v k)) (smul t (P.v (k + 1))) := ⟨_, rfl⟩
  have lB := wall_sides hSB hgB hB (k := k - m) (by show k - m < P.n - m + 1; omega) (s := 1) (by decide) ht rfl (x := x) (by rw [b0, b1]; exact hx) (d := d)
  have lP := wall_sides hP hg (left_of_area hP hg ha) (k := k) h2 (s := 1) (by decide) ht rfl (x := x) hx (d := d)
  obtain ⟨L, hL, ⟨gB, gP⟩, hbig⟩ := ((lB.and lP).and (Late.ge (f.lin d + 1))).get
  rw [b0, b1] at gB
  have tB : 0 < turnZ (P.v k) (P.v (k + 1)) (padd (P.v k) d) := by
    have : turnZ (P.v k) (P.v (k + 1)) (padd (P.v k) d) = ((P.v (k + 1)).1 - (P.v k).1) * ((P.v (k + 1)).1 - (P.v k).1) + ((P.v (k + 1)).2 - (P.v k).2) * ((P.v (k + 1)).2 - (P.v k).2) := by rw [hd]; unfold turnZ padd rotP psub; grind
    omega
  have wB := (gB.1 tB).1
  have wP := (gP.1 tB).1
  have hLK : 0 < L * (1 + t) := pp hL (by omega)
  have wA : wnd ((hM M).sc (L * (1 + t))) ((P.arc m).sc (L * (1 + t))).way (padd (smul L x) d) = 0 := by
    refine wnd_out _ (f.sc (L * (1 + t))) fun j hj => ?_
    have hj : j < m + 1 := hj
    show (f.sc (L * (1 + t))).ev (padd (smul L x) d) < (f.sc (L * (1 + t))).ev (smul (L * (1 + t)) ((P.arc m).v j))
    rw [arc_v P (by omega), ev_sc0]
    have r := nn0 (show 0 ≤ L * (1 + t) by omega) (hf j (by omega))
    have e : (f.sc (L * (1 + t))).ev (padd (smul L x) d) = L * (f.ev (P.v k) + t * f.ev (P.v (k + 1))) + f.lin d := by
      rw [hx]; unfold Aff.sc Aff.ev Aff.lin padd smul; grind
    rw [e]
    have := Int.mul_le_mul_of_nonneg_left (show f.ev (P.v k) + t * f.ev (P.v (k + 1)) ≤ -1 by omega) (show 0 ≤ L by omega)
    omega
  have sum := cut_sum ((hM M).sc (L * (1 + t))) P (L * (1 + t)) (show m ≤ P.n by omega) (padd (smul L x) d)
  rw [wA, wB, wP] at sum
  exact a2 (by omega)
def EarP (P : Poly) (a b c : Pt) : Prop := 0 < turnZ a b c ∧ ∀ j, P.v j ≠ a → P.v j ≠ b → P.v j ≠ c → ¬ (0 ≤ turnZ a b (P.v j) ∧ 0 ≤ turnZ b c (P.v j) ∧ 0 ≤ turnZ c a (P.v j))
def EarI (P : Poly) (k : Nat) : Prop := EarP P (P.v k) (P.v (k + 1)) (P.v (k + 2))
theorem tri_closed {Q : Poly} (hQ : SimpleP Q) (hn : Q.n = 3) (ht : 0 < turnZ (Q.v 0) (Q.v 1) (Q.v 2)) {p : Pt} (h0 : 0 ≤ turnZ (Q.v 0) (Q.v 1) p) (h1 : 0 ≤ turnZ (Q.v 1) (Q.v 2) p) (h2 : 0 ≤ turnZ (Q.v 2) (Q.v 0) p) : ¬ Outp Q 1 p := by
  have c3 : ∀ j, Q.v (j + 3) = Q.v j := fun j => by rw [← hn, Q.per]
  have := star hQ (fun j => by rw [tri_turns hn]; omega) (by rw [tri_area' hn]; exact ht) (p := p) (fun k hk => by
    rcases (show k = 0 ∨ k = 1 ∨ k = 2 by omega) with q | q | q <;> subst q
    · exact h0
    · exact h1
    · rw [c3 0]; exact h2) (corner_not_out Q 0 (by omega))
  have := this 1 0 (by decide) (by decide) (by decide)
  rwa [show padd (smul 1 p) (smul 0 (Q.v 0)) = p by unfold padd smul; simp, show (1 : Int) + 0 = 1 from rfl] at this
theorem ear_cut {P : Poly} (hP : SimpleP P) (ha : 0 < P.area) (h4 : 4 ≤ P.n) (he : EarI P 0) : Cut P 2 := by
  have ht : 0 < turnZ (P.v 0) (P.v 1) (P.v 2) := he.1
  have hno := he.2
  have hin : ∀ j, ¬ InT P j := fun j ⟨g1, g2, gA, gB, gC⟩ => hno j (hP.inj g2 (by omega) (by omega)) (hP.inj g2 (by omega) (by omega)) (hP.inj g2 (by omega) (by omega)) ⟨gB, gA, gC⟩
  have c := chord_tri hP h4 ht hin
  have hA : 0 < (P.arc 2).area := by
    rw [tri_area' (show (P.arc 2).n = 3 from rfl), arc_v P (by omega), arc_v P (by omega), arc_v P (by omega)]; exact ht
  have h3 := hin 3
  have vals := tri_vals P
  have key : ∀ (f : Aff), (∀ j, j ≤ 2 → 0 ≤ f.ev (P.v j)) → f.ev (P.v 3) < 0 → Cut P 2 := fun f g1 g2 => cut_of_far hP ha c hA (k := 2) (by omega) (by omega) g1 g2
  have small : ∀ (Q : Nat → Prop), Q 0 → Q 1 → Q 2 → ∀ j, j ≤ 2 → Q j := fun Q q0 q1 q2 j hj => by
    rcases (show j = 0 ∨ j = 1 ∨ j = 2 by omega) with q | q | q <;> subst q <;> assumption
  have t00 : ∀ a b : Pt, turnZ a b a = 0 := fun a b => by unfold turnZ; grind
  have t01 : ∀ a b : Pt, turnZ a b b = 0 := fun a b => by unfold turnZ; grind
  have r1 : turnZ (P.v 1) (P.v 2) (P.v 0) = turnZ (P.v 0) (P.v 1) (P.v 2) := by unfold turnZ; grind
  have r2 : turnZ (P.v 2) (P.v 0) (P.v 1) = turnZ (P.v 0) (P.v 1) (P.v 2) := by unfold turnZ; grind
  by_cases gA : 0 ≤ tA P (P.v 3)
  · by_cases gB : 0 ≤ tB P (P.v 3)
    · by_cases gC : 0 ≤ tC P (P.v 3)
      · exact absurd ⟨by omega, by omega, gA, gB, gC⟩ h3
      · refine key (Aff.turn (P.v 2) (P.v 0)) (small _ ?_ ?_ ?_) (by rw [ev_turn]; exact Int.not_le.1 gC) <;> rw [ev_turn]
        · rw [t01]; exact Int.le_refl _
        · rw [r2]; omega
        · rw [t00]; exact Int.le_refl _
    · refine key (Aff.turn (P.v 0) (P.v 1)) (small _ ?_ ?_ ?_) (by rw [ev_turn]; exact Int.not_le.1 gB) <;> rw [ev_turn]
      · rw [t00]; exact Int.le_refl _
      · rw [t01]; exact Int.le_refl _
      · omega
  · refine key (Aff.turn (P.v 1) (P.v 2)) (small _ ?_ ?_ ?_) (by rw [ev_turn]; exact Int.not_le.1 gA) <;> rw [ev_turn]
    · rw [r1]; omega
    · rw [t00]; exact Int.le_refl _
    · rw [t01]; exact Int.le_refl _
theorem EarI.rot {P : Poly} (g : 0 < P.n) {s k : Nat} : EarI (P.rot s) k ↔ EarI P (s + k) := by
  unfold EarI EarP
  have e : ∀ j, (P.rot s).v j = P.v (s + j) := fun _ => rfl
  simp only [e, ← Nat.add_assoc]
  refine and_congr_right fun _ => ⟨fun h j => ?_, fun h j => h (s + j)⟩
  have hle : s ≤ P.n * (s + 1) := by
    have : 1 * (s + 1) ≤ P.n * (s + 1) := Nat.mul_le_mul_right _ g
    omega
  have := h (j + P.n * (s + 1) - s)
  rwa [show s + (j + P.n * (s + 1) - s) = j + P.n * (s + 1) by omega, P.per_mul] at this
theorem ear_lift {P : Poly} (hP : SimpleP P) {m : Nat} (c : Cut P m) {i : Nat} (hi : i + 2 ≤ m) (he : EarP (P.arc m) (P.v i) (P.v (i + 1)) (P.v (i + 2))) : EarI P i := by
  have hm2 := c.c.m2
  have hmn := c.c.mn
  refine ⟨he.1, fun j n0 n1 n2 hb => ?_⟩
  have hj : j % P.n < P.n := Nat.mod_lt _ (by omega)
  rw [← P.per_mod j] at n0 n1 n2 hb
  generalize j % P.n = r at hj n0 n1 n2 hb
  rcases (show r ≤ m ∨ m < r by omega) with g | g
  · refine he.2 r ?_ ?_ ?_ ?_ <;> rw [arc_v P g] <;> assumption
  · have ho := c.corner hP g hj
    have hA := c.simA hP
    have tr : ∀ {Q : Poly}, SimpleP Q → Q.n = 3 → Q.v 0 = P.v i → Q.v 1 = P.v (i + 1) → Q.v 2 = P.v (i + 2) → ¬ Outp Q 1 (P.v r) := fun hQ h3 e0 e1 e2 => by
      refine tri_closed hQ h3 ?_ ?_ ?_ ?_ <;> (try rw [e0]) <;> (try rw [e1]) <;> (try rw [e2]) <;> first | exact he.1 | exact hb.1 | exact hb.2.1 | exact hb.2.2
    rcases (show m = 2 ∨ 3 ≤ m by omega) with q | q
    · subst q
      have : i = 0 := by omega
      subst this
      exact tr hA rfl (arc_v P (by omega)) (arc_v P (by omega)) (arc_v P (by omega)) ho
    · -- the ear cut off from the part
      have hR : SimpleP ((P.arc m).rot i) := hA.rot i
      have hv : ∀ d, d ≤ 2 → ((P.arc m).rot i).v d = P.v (i + d) := fun d hd => arc_v P (by omega)
      have hE : EarI ((P.arc m).rot i) 0 := (EarI.rot (by show 0 < m + 1; omega)).2 (by
        show EarP (P.arc m) ((P.arc m).v (i + 0)) ((P.arc m).v (i + 0 + 1)) ((P.arc m).v (i + 0 + 2))
        rw [arc_v P (by omega), arc_v P (by omega), arc_v P (by omega)]; exact he)
      have c2 := ear_cut hR (by rw [area_rot]; exact c.a) (by show 4 ≤ m + 1; omega) hE
      refine tr (c2.simA hR) rfl ?_ ?_ ?_ (c2.out_both hR (by decide) (ho.rot i)).1
      · rw [arc_v _ (by omega)]; exact hv 0 (by omega)
      · rw [arc_v _ (by omega)]; exact hv 1 (by omega)
      · rw [arc_v _ (by omega)]; exact hv 2 (by omega)
def TwoEars (P : Poly) : Prop := ∃ s d, 2 ≤ d ∧ d + 2 ≤ P.n ∧ EarI P s ∧ EarI P (s + d)
theorem side_ear {P : Poly} (hP : SimpleP P) {m : Nat} (c : Cut P m) (ih : 4 ≤ m + 1 → TwoEars (P.arc m)) : ∃ i, i + 2 ≤ m ∧ EarI P i := by
  have hm2 := c.c.m2
  have hmn := c.c.mn
  rcases (show m = 2 ∨ 3 ≤ m by omega) with q | q
  · subst q
    refine ⟨0, by omega, ear_lift hP c (by omega) ⟨?_, fun j n0 n1 n2 _ => ?_⟩⟩
    · have := c.a
      rwa [tri_area' (show (P.arc 2).n = 3 from rfl), arc_v P (by omega), arc_v P (by omega), arc_v P (by omega)] at this
    · have hj : j % 3 < 3 := Nat.mod_lt _ (by omega)
      have e : (P.arc 2).v j = (P.arc 2).v (j % 3) := ((P.arc 2).per_mod j).symm
      rw [e, arc_v P (by omega)] at n0 n1 n2
      rcases (show j % 3 = 0 ∨ j % 3 = 1 ∨ j % 3 = 2 by omega) with g | g | g <;> rw [g] at n0 n1 n2
      · exact n0 rfl
      · exact n1 rfl
      · exact n2 rfl
  · obtain ⟨s, d, d2, dn, e1, e2⟩ := ih (by omega)
    have dn : d + 2 ≤ m + 1 := dn
    have mk : ∀ t, EarI (P.arc m) t → (t % (m + 1)) + 2 ≤ m → ∃ i, i + 2 ≤ m ∧ EarI P i := fun t ht h => by
      refine ⟨t % (m + 1), h, ear_lift hP c h ?_⟩
      have per : ∀ x, (P.arc m).v (t + x) = P.v (t % (m + 1) + x) ∨ 2 < x := fun x => by
        rcases (show x ≤ 2 ∨ 2 < x by omega) with g | g
        · left
          rw [← arc_v P (show t % (m + 1) + x ≤ m by omega)]
          exact ((P.arc m).per_add t x).symm
        · exact .inr g
      have p0 := (per 0).resolve_right (by omega)
      have p1 := (per 1).resolve_right (by omega)
      have p2 := (per 2).resolve_right (by omega)
      unfold EarI at ht
      rw [p1, p2, show (P.arc m).v t = P.v (t % (m + 1)) from p0] at ht
      exact ht
    have hs : s % (m + 1) < m + 1 := Nat.mod_lt _ (by omega)
    have hd : (s + d) % (m + 1) < m + 1 := Nat.mod_lt _ (by omega)
    rcases (show s % (m + 1) + 2 ≤ m ∨ s % (m + 1) = m ∨ s % (m + 1) = m - 1 by omega) with g | g | g
    · exact mk s e1 g
    all_goals
      refine mk (s + d) e2 ?_
      have : (s + d) % (m + 1) = (s % (m + 1) + d) % (m + 1) := by rw [Nat.mod_add_mod]
      rw [this, g]
      rw [Nat.mod_eq_sub_mod (by omega), Nat.mod_eq_of_lt (by omega)]
      omega
theorem two_ears : ∀ (n : Nat) (P : Poly), P.n = n → 4 ≤ n → SimpleP P → 0 < P.area → TwoEars P := fun n => by
  induction n using Nat.strongRecOn with
  | ind n ih =>
    intro P hn h4 hP ha
    obtain ⟨M, -, hg⟩ := (hM_gen hP).get
    obtain ⟨s, m, c0, p1, p2⟩ := exists_cut hP hg ((pos_iff hP hg).2 ha) (by omega)
    have c : Cut (P.rot s) m := ⟨c0, area_pos ((hP.rot s).arc c0) ((hg.rot s).arc (show m < P.n from by have : m + 2 ≤ P.n := c0.mn; omega)) p1, area_pos (((hP.rot s).rot m).arc c0.rot) (((hg.rot s).rot m).arc (by have := c0.m2; have : m + 2 ≤ P.n := c0.mn; show P.n - m < P.n; omega)) p2⟩
    have hm2 := c.c.m2
    have hmn := c.c.mn
    have hR := hP.rot s
    have hnR : (P.rot s).n = n := hn
    obtain ⟨i, hi, ei⟩ := side_ear hR c fun h => ih (m + 1) (by omega) ((P.rot s).arc m) rfl h (c.simA hR) c.a
    obtain ⟨c', e'⟩ := c.rot
    have hR' := hR.rot m
    obtain ⟨k, hk, ek⟩ := side_ear hR' c' fun h => ih ((P.rot s).n - m + 1) (by omega) _ rfl h (c.simB hR) c.b
    refine ⟨s + i, m + k - i, by omega, by omega, (EarI.rot (by omega)).1 ei, ?_⟩
    rw [show s + i + (m + k - i) = s + (m + k) by omega]
    exact (EarI.rot (by omega)).1 ((EarI.rot (by omega)).1 ek)
end Go.Proofs.Ytnepfcnlngpchaa.Geo
namespace Go.Proofs.Ytnepfcnlngpchaa.Geo
open Go.RowKit
def subP (xs : List Pt) (l : List Int) : Poly := ⟨l.length, fun j => (roomP xs).v (gI l (j % l.length)).toNat, fun j => by show (roomP xs).v (gI l ((j + l.length) % l.length)).toNat = _; rw [Nat.add_mod_right]⟩
theorem sub_v (xs : List Pt) {l : List Int} {j : Nat} (h : j < l.length) : (subP xs l).v j = (roomP xs).v (gI l j).toNat := by
  show (roomP xs).v (gI l (j % l.length)).toNat = _
  rw [Nat.mod_eq_of_lt h]
theorem gI_all {n k : Nat} (h : k < n) : gI (allC n) k = k := by
  unfold gI allC
  rw [getD_lt _ (by simpa using h)]; simp
theorem sub_all {xs : List Pt} (hn : 0 < xs.length) : subP xs (allC xs.length) = roomP xs := by
  refine Poly.ext' (allC_len _) fun j => ?_
  show (roomP xs).v (gI (allC xs.length) (j % (allC xs.length).length)).toNat = _
  rw [allC_len, gI_all (Nat.mod_lt _ hn), Int.toNat_natCast]
  exact (roomP xs).per_mod j
theorem sub_erase (xs : List Pt) {l : List Int} (h3 : 3 < l.length) {i : Nat} (hi : i < l.length) : (subP xs (l.eraseIdx i)).rot i = partB ((subP xs l).rot (i + l.length - 1)) 2 := by
  have hl := List.length_eraseIdx_of_lt hi
  refine Poly.ext' (by show (l.eraseIdx i).length = l.length - 2 + 1; omega) fun j => ?_
  show (roomP xs).v (gI (l.eraseIdx i) ((i + j) % (l.eraseIdx i).length)).toNat = (roomP xs).v (gI l ((i + l.length - 1 + (2 + j % (l.length - 2 + 1))) % l.length)).toNat
  have hm : j % (l.length - 1) < l.length - 1 := Nat.mod_lt _ (by omega)
  rw [hl, show l.length - 2 + 1 = l.length - 1 by omega, ← Nat.add_mod_mod]
  generalize j % (l.length - 1) = r at hm
  have e1 : (i + l.length - 1 + (2 + r)) % l.length = (i + 1 + r) % l.length := by
    rw [show i + l.length - 1 + (2 + r) = i + 1 + r + l.length by omega, Nat.add_mod_right]
  rw [e1]
  rcases Nat.lt_or_ge (i + 1 + r) l.length with g | g
  · rw [Nat.mod_eq_of_lt g, Nat.mod_eq_of_lt (show i + r < l.length - 1 by omega), gI_erase (by omega), if_neg (by omega), show i + r + 1 = i + 1 + r by omega]
  · rw [Nat.mod_eq_sub_mod g, Nat.mod_eq_of_lt (show i + 1 + r - l.length < l.length by omega), Nat.mod_eq_sub_mod (show l.length - 1 ≤ i + r by omega), Nat.mod_eq_of_lt (show i + r - (l.length - 1) < l.length - 1 by omega),
      gI_erase (by omega), if_pos (by omega), show i + r - (l.length - 1) = i + 1 + r - l.length by omega]
structure Sub (xs : List Pt) (l : List Int) : Prop where
  left : Left xs.length l
  sim : SimpleP (subP xs l)
  area : 0 < (subP xs l).area
  out : ∀ {K x}, 0 < K → Outp (roomP xs) K x → Outp (subP xs l) K x
  inn : ∀ {K x}, 0 < K → Inn (subP xs l) K x → Inn (roomP xs) K x
theorem Sub.all {xs : List Pt} (hr : roomOk xs = true) : Sub xs (allC xs.length) := by
  have e := sub_all (room_pos hr)
  exact ⟨left_all (room_len hr).1, by rw [e]; exact room_simple hr, by rw [e]; exact (room_area hr).2.1, fun _ h => by rw [e]; exact h, fun _ h => by rw [e] at h; exact h⟩
theorem Inn.rot {P : Poly} {K : Int} {x : Pt} (h : Inn P K x) (s : Nat) : Inn (P.rot s) K x := by
  obtain ⟨ho, g, hg, e⟩ := h
  refine ⟨fun k hk => ?_, g, hg, by rw [← e]; exact wnd_rot g (P.sc K) s x⟩
  have hn : 0 < P.n := by have hk : k < P.n := hk; omega
  have := ho ((s + k) % P.n) (Nat.mod_lt _ hn)
  rw [P.per_mod, P.per_add] at this
  exact this
theorem Inn.rot_iff {P : Poly} {K : Int} {x : Pt} (hn : 1 ≤ P.n) (s : Nat) : Inn (P.rot s) K x ↔ Inn P K x :=
  ⟨fun h => by have := h.rot (s * (P.n - 1)); rw [rot_back P s hn] at this; exact this, fun h => h.rot s⟩
abbrev EarL (xs : List Pt) (l : List Int) (i : Nat) : Prop := EarI (subP xs l) (i + l.length - 1)
theorem ear_pts (xs : List Pt) {l : List Int} (h3 : 3 ≤ l.length) {i : Nat} (hi : i < l.length) :
    (subP xs l).v (i + l.length - 1) = (roomP xs).v (gI l (prvN l.length i)).toNat ∧ (subP xs l).v (i + l.length - 1 + 1) = (roomP xs).v (gI l i).toNat ∧ (subP xs l).v (i + l.length - 1 + 2) = (roomP xs).v (gI l (nxtN l.length i)).toNat := by
  refine ⟨rfl, ?_, ?_⟩
  · show (roomP xs).v (gI l ((i + l.length - 1 + 1) % l.length)).toNat = _
    rw [show i + l.length - 1 + 1 = i + l.length by omega, Nat.add_mod_right, Nat.mod_eq_of_lt hi]
  · show (roomP xs).v (gI l ((i + l.length - 1 + 2) % l.length)).toNat = _
    rw [show i + l.length - 1 + 2 = i + 1 + l.length by omega, Nat.add_mod_right]; rfl
theorem Sub.some {xs : List Pt} {l : List Int} (h : Sub xs l) (h3 : 3 < l.length) : ∃ i, i < l.length ∧ EarL xs l i := by
  obtain ⟨s, d, -, -, e, -⟩ := two_ears l.length (subP xs l) rfl h3 h.sim h.area
  refine ⟨(s + 1) % l.length, Nat.mod_lt _ (by omega), ?_⟩
  have key : ∀ d, (subP xs l).v ((s + 1) % l.length + l.length - 1 + d) = (subP xs l).v (s + d) := fun d => by
    rw [show (s + 1) % l.length + l.length - 1 + d = (s + 1) % (subP xs l).n + (l.length - 1 + d) by show _ = (s + 1) % l.length + _; omega, (subP xs l).per_add, show s + 1 + (l.length - 1 + d) = s + d + l.length by omega]
    exact (subP xs l).per (s + d)
  show EarP _ _ _ _
  have k0 : (subP xs l).v ((s + 1) % l.length + l.length - 1) = (subP xs l).v s := key 0
  rw [k0, key 1, key 2]
  exact e
theorem room_v {xs : List Pt} {k : Int} (h0 : 0 ≤ k) (h : k < xs.length) : (roomP xs).v k.toNat = pI xs k := v_lt (by omega)
theorem turnI {xs : List Pt} (hr : roomOk xs = true) {a b c : Int} (ha : 0 ≤ a ∧ a < xs.length) (hb : 0 ≤ b ∧ b < xs.length) (hc : 0 ≤ c ∧ c < xs.length) : turn (pI xs a) (pI xs b) (pI xs c) = turnZ ((roomP xs).v a.toNat) ((roomP xs).v b.toNat) ((roomP xs).v c.toNat) := by
  rw [room_v ha.1 ha.2, room_v hb.1 hb.2, room_v hc.1 hc.2]
  exact turn_exact (bd_of_ok (corner_ok hr (by omega))) (bd_of_ok (corner_ok hr (by omega))) (bd_of_ok (corner_ok hr (by omega)))
theorem inTri_iff {a b c p : Pt} (ha : Bd a) (hb : Bd b) (hc : Bd c) (hp : Bd p) : inTri a b c p = true ↔ 0 ≤ turnZ a b p ∧ 0 ≤ turnZ b c p ∧ 0 ≤ turnZ c a p := by
  unfold inTri
  rw [turn_exact ha hb hp, turn_exact hb hc hp, turn_exact hc ha hp]
  simp only [Bool.and_eq_true, decide_eq_true_eq]
theorem left_bd {xs : List Pt} (hr : roomOk xs = true) {l : List Int} (hL : Left xs.length l) {k : Nat} (hk : k < l.length) : Bd (pI xs (gI l k)) := by
  have := hL.at hk
  exact bd_of_ok (corner_ok hr (by omega))
theorem Sub.ear_of {xs : List Pt} (hr : roomOk xs = true) {l : List Int} (h : Sub xs l) {i : Nat} (hi : i < l.length) (hc : cutM xs l i = true) : EarL xs l i := by
  have h3 := h.left.len
  obtain ⟨-, ht, hno⟩ := cutM_iff.1 hc
  have hp : prvN l.length i < l.length := prv_lt (by omega)
  have hn : nxtN l.length i < l.length := nxt_lt (by omega)
  obtain ⟨e0, e1, e2⟩ := ear_pts xs h3 hi
  show EarP _ _ _ _
  rw [e0, e1, e2]
  rw [turnI hr (h.left.at hp) (h.left.at hi) (h.left.at hn)] at ht
  refine ⟨ht, fun j n0 n1 n2 hb => ?_⟩
  have hj : j % l.length < l.length := Nat.mod_lt _ (by omega)
  have ej : (subP xs l).v j = (roomP xs).v (gI l (j % l.length)).toNat := rfl
  rw [ej] at n0 n1 n2 hb
  generalize j % l.length = r at hj n0 n1 n2 hb
  rcases hno r hj with g | g | g | g
  · exact n0 (by rw [g])
  · exact n1 (by rw [g])
  · exact n2 (by rw [g])
  · have rv : ∀ {k}, k < l.length → (roomP xs).v (gI l k).toNat = pI xs (gI l k) := fun hk => room_v (h.left.at hk).1 (h.left.at hk).2
    rw [rv hp, rv hi, rv hn, rv hj] at hb
    have := (inTri_iff (left_bd hr h.left hp) (left_bd hr h.left hi) (left_bd hr h.left hn) (left_bd hr h.left hj)).2 hb
    rw [g] at this
    cases this
theorem Sub.cut2 {xs : List Pt} {l : List Int} (h : Sub xs l) (h3 : 3 < l.length) {i : Nat} (he : EarL xs l i) : Cut ((subP xs l).rot (i + l.length - 1)) 2 :=
  ear_cut (h.sim.rot _) (by rw [area_rot]; exact h.area) h3 ((EarI.rot (show 0 < l.length by omega)).2 he)
theorem Sub.step {xs : List Pt} {l : List Int} (h : Sub xs l) (h3 : 3 < l.length) {i : Nat} (hi : i < l.length) (he : EarL xs l i) : Sub xs (l.eraseIdx i) := by
  have c := h.cut2 h3 he
  have hR := h.sim.rot (i + l.length - 1)
  have hl := List.length_eraseIdx_of_lt hi
  have e := sub_erase xs h3 hi
  have n1 : 1 ≤ (subP xs (l.eraseIdx i)).n := by show 1 ≤ (l.eraseIdx i).length; omega
  have nl : 1 ≤ (subP xs l).n := by show 1 ≤ l.length; omega
  have hb : (subP xs (l.eraseIdx i)) = (partB ((subP xs l).rot (i + l.length - 1)) 2).rot (i * ((subP xs (l.eraseIdx i)).n - 1)) := by rw [← e, rot_back _ _ n1]
  obtain ⟨c', e'⟩ := c.rot
  refine ⟨h.left.erase h3 hi, by rw [hb]; exact (c.simB hR).rot _, by rw [hb, area_rot]; exact c.b, fun hK o => ?_, fun hK o => h.inn hK ?_⟩
  · rw [← Outp.rot_iff n1 i, e]
    exact (c.out_both hR hK ((h.out hK o).rot _)).2
  · rw [← Inn.rot_iff n1 i, e] at o
    have := c'.inn_of (hR.rot 2) hK o
    rwa [Inn.rot_iff (P := (subP xs l).rot (i + l.length - 1)) nl, Inn.rot_iff nl] at this
theorem Sub.chord_inn {xs : List Pt} {l : List Int} (h : Sub xs l) (h3 : 3 < l.length) {i : Nat} (hi : i < l.length) (he : EarL xs l i) {s t K : Int} (hs : 0 < s) (ht : 0 < t) (e : s + t = K) :
    Inn (roomP xs) K (padd (smul s ((roomP xs).v (gI l (prvN l.length i)).toNat)) (smul t ((roomP xs).v (gI l (nxtN l.length i)).toNat))) := by
  have c := h.cut2 h3 he
  have := c.inn (h.sim.rot _) hs ht e
  rw [Inn.rot_iff (show 1 ≤ l.length by omega)] at this
  have := h.inn (by omega) this
  obtain ⟨e0, e1, e2⟩ := ear_pts xs (by omega) hi
  rw [← e0, ← e2]
  exact this
theorem mid_inn {xs : List Pt} (hr : roomOk xs = true) {p q : Pt} (hp : -40 ≤ p.1 ∧ p.1 ≤ 40 ∧ -40 ≤ p.2 ∧ p.2 ≤ 40) (hq : -40 ≤ q.1 ∧ q.1 ≤ 40 ∧ -40 ≤ q.2 ∧ q.2 ≤ 40) : midM xs p q = 2 ↔ Inn (roomP xs) 2 (padd p q) := by
  have h := pt_of_room hr
  have hn := room_pos hr
  have hmo := mid_out hr hp hq
  have e : sumP p q = padd p q := by
    unfold sumP padd
    rw [W_in (by omega) (by omega), W_in (by omega) (by omega)]
  have hs : Bd (padd p q) := by
    unfold Bd padd
    simp only
    omega
  have hy : (xs.map twP).length = xs.length := by simp
  have hv : ∀ k, pCy (xs.map twP) k = smul 2 (pCy xs k) := fun k => by
    have hk : k % xs.length < xs.length := Nat.mod_lt _ hn
    show (xs.map twP).getD (k % (xs.map twP).length) (0, 0) = smul 2 (xs.getD (k % xs.length) (0, 0))
    rw [List.length_map, getD_lt _ (by rw [List.length_map]; exact hk), getD_lt _ hk, List.getElem_map]
    exact twP_eq (h _ (List.getElem_mem hk))
  have hb : ∀ q ∈ xs.map twP, Bd q := fun c' hc' => by
    obtain ⟨c, hc, rfl⟩ := List.mem_map.1 hc'
    have := h c hc
    rw [twP_eq this]
    unfold Bd smul
    simp only
    omega
  have hP := room_simple hr
  have ne : ∀ k, k < xs.length → smul 2 ((roomP xs).v k) ≠ smul 2 ((roomP xs).v (k + 1)) := fun k hk e => by
    apply hP.ne k
    have e1 := congrArg Prod.fst e
    have e2 := congrArg Prod.snd e
    exact Prod.ext (Int.eq_of_mul_eq_mul_left (by omega) e1) (Int.eq_of_mul_eq_mul_left (by omega) e2)
  have wa : ∀ k, k < xs.length → pAt (xs.map twP) k = smul 2 ((roomP xs).v k) ∧ pCy (xs.map twP) (k + 1) = smul 2 ((roomP xs).v (k + 1)) := fun k hk => ⟨(pCy_lt (by omega)).symm.trans (hv k), hv (k + 1)⟩
  have onoff : ∀ k, k < xs.length → (onAt (xs.map twP) (padd p q) k = false ↔ Off (padd p q) (smul 2 ((roomP xs).v k)) (smul 2 ((roomP xs).v (k + 1)))) := fun k hk => by
    have b1 : Bd (pAt (xs.map twP) k) := pAt_bd hb (by omega)
    have b2 : Bd (pCy (xs.map twP) (k + 1)) := pCy_bd hb (by omega)
    show onS (padd p q) (pAt (xs.map twP) k) (pCy (xs.map twP) (k + 1)) = false ↔ _
    constructor
    · intro h0
      rcases off_or_on (padd p q) (ne k hk) with g | g
      · exact g
      · rw [← (wa k hk).1, ← (wa k hk).2] at g
        rw [g.onS b1 b2 hs] at h0
        exact absurd h0 (by decide)
    · intro g
      cases h0 : onS (padd p q) (pAt (xs.map twP) k) (pCy (xs.map twP) (k + 1)) with
      | false => rfl
      | true =>
        exfalso
        have := onS_OnM b1 b2 hs h0
        rw [(wa k hk).1, (wa k hk).2] at this
        exact this.not_off g
  have two : midM xs p q = 2 ↔ midM xs p q ≠ 0 ∧ onAny (xs.map twP) (padd p q) = false := by
    unfold midM
    rw [e]
    unfold placeM
    split
    · rename_i g; rw [g]; simp
    · rename_i g; split <;> simp [Bool.eq_false_iff.2 g]
  rw [two, ne_eq, hmo]
  have hoff : onAny (xs.map twP) (padd p q) = false ↔ OffP (roomP xs) 2 (padd p q) := by
    constructor
    · intro g k hk
      have hk : k < xs.length := hk
      exact (onoff k hk).1 (onAny_off g (by omega))
    · intro g
      exact onAny_no fun k hk => (onoff k (by omega)).2 (g k (by show k < xs.length; omega))
  rw [hoff]
  constructor
  · rintro ⟨g1, g2⟩
    exact (out_or_in hP (room_area hr).2.1 (by decide) g2).resolve_left g1
  · intro g
    exact ⟨g.not_out, g.1⟩
theorem diag_of_inn {xs : List Pt} (hr : roomOk xs = true) {i k : Nat} (hi : i < xs.length) (hk : k < xs.length) (hik : i ≠ k) (hin : ∀ s t K : Int, 0 < s → 0 < t → s + t = K → Inn (roomP xs) K (padd (smul s ((roomP xs).v i)) (smul t ((roomP xs).v k)))) : diagC xs i k = true := by
  have vi : (roomP xs).v i = pAt xs i := v_lt hi
  have vk : (roomP xs).v k = pAt xs k := v_lt hk
  rw [diagC_iff]
  refine ⟨?_, ?_, ?_⟩
  · rw [seesS_noout hr (corner_ok hr hi) (corner_ok hr hk) (corner_in hr hi) (corner_in hr hk)]
    intro s t hs ht hst o
    rcases (show s = 0 ∨ t = 0 ∨ (0 < s ∧ 0 < t) by omega) with g | g | ⟨g1, g2⟩
    · subst g
      have e : padd (smul 0 (pAt xs i)) (smul t (pAt xs k)) = smul t ((roomP xs).v k) := by rw [vk]; unfold padd smul; simp
      rw [e] at o
      refine corner_not_out (roomP xs) k (by show 0 < xs.length; omega) (Outp.desc (L := t) (by omega) ?_)
      rw [Int.mul_one]; rwa [Int.zero_add] at o
    · subst g
      have e : padd (smul s (pAt xs i)) (smul 0 (pAt xs k)) = smul s ((roomP xs).v i) := by rw [vi]; unfold padd smul; simp
      rw [e] at o
      refine corner_not_out (roomP xs) i (by show 0 < xs.length; omega) (Outp.desc (L := s) (by omega) ?_)
      rw [Int.mul_one]; rwa [Int.add_zero] at o
    · have := hin s t (s + t) g1 g2 rfl
      rw [vi, vk] at this
      exact this.not_out o
  · rw [freeTo_iff]
    intro j hj
    by_cases e1 : j = i
    · exact .inl e1
    by_cases e2 : j = k
    · exact .inr (.inl e2)
    refine .inr (.inr ?_)
    cases h0 : onS (pAt xs j) (pAt xs i) (pAt xs k) with
    | false => rfl
    | true =>
      exfalso
      obtain ⟨s, t, hs, ht, h0, x1, x2⟩ := (onS_OnM (bd_of_ok (corner_ok hr hi)) (bd_of_ok (corner_ok hr hk)) (bd_of_ok (corner_ok hr hj)) h0).coords
      have hne : ∀ {a}, a < xs.length → j ≠ a → pAt xs j ≠ pAt xs a := fun ha hja e => hja (room_inj hr hj ha e)
      rcases (show s = 0 ∨ t = 0 ∨ (0 < s ∧ 0 < t) by omega) with g | g | ⟨g1, g2⟩
      · subst g
        refine hne hk e2 (Prod.ext (Int.eq_of_mul_eq_mul_left (show t ≠ 0 by omega) (by simpa using x1)) (Int.eq_of_mul_eq_mul_left (show t ≠ 0 by omega) (by simpa using x2)))
      · subst g
        refine hne hi e1 (Prod.ext (Int.eq_of_mul_eq_mul_left (show s ≠ 0 by omega) (by simpa using x1)) (Int.eq_of_mul_eq_mul_left (show s ≠ 0 by omega) (by simpa using x2)))
      · have := hin s t (s + t) g1 g2 rfl
        rw [vi, vk, show padd (smul s (pAt xs i)) (smul t (pAt xs k)) = smul (s + t) ((roomP xs).v j) by rw [v_lt hj]; exact Prod.ext x1.symm x2.symm] at this
        have := this.1 j hj
        exact (Off.ne this).1 rfl
  · rw [mid_inn hr (ptOk_iff.1 (corner_ok hr hi)) (ptOk_iff.1 (corner_ok hr hk))]
    have := hin 1 1 2 (by decide) (by decide) rfl
    rwa [vi, vk, smul_one, smul_one] at this
theorem Sub.cut_of {xs : List Pt} (hr : roomOk xs = true) {l : List Int} (h : Sub xs l) (h3 : 3 < l.length) {i : Nat} (hi : i < l.length) (he : EarL xs l i) : cutM xs l i = true := by
  have hp : prvN l.length i < l.length := prv_lt (by omega)
  have hn : nxtN l.length i < l.length := nxt_lt (by omega)
  obtain ⟨q1, q2, q3⟩ := prv_ne (by omega) hi
  obtain ⟨e0, e1, e2⟩ := ear_pts xs (by omega) hi
  have ap := h.left.at hp
  have an := h.left.at hn
  have hne : gI l (prvN l.length i) ≠ gI l (nxtN l.length i) := fun e => q3 (h.left.inj hp hn e)
  have heP : EarP (subP xs l) _ _ _ := he
  rw [e0, e1, e2] at heP
  rw [cutM_iff]
  refine ⟨?_, by rw [turnI hr ap (h.left.at hi) an]; exact heP.1, fun j hj => ?_⟩
  · cases hnb : neighZ xs.length (gI l (prvN l.length i)) (gI l (nxtN l.length i)) with
    | true => exact .inr rfl
    | false =>
      left
      rw [diagM_iff]
      refine ⟨btw_iff.2 (by omega), btw_iff.2 (by omega), hne, hnb, diag_of_inn hr (by omega) (by omega) (by omega) fun s t K hs ht e => h.chord_inn h3 hi he hs ht e⟩
  · by_cases g0 : gI l j = gI l (prvN l.length i)
    · exact .inl g0
    by_cases g1 : gI l j = gI l i
    · exact .inr (.inl g1)
    by_cases g2 : gI l j = gI l (nxtN l.length i)
    · exact .inr (.inr (.inl g2))
    refine .inr (.inr (.inr ?_))
    have rv : ∀ {k}, k < l.length → (roomP xs).v (gI l k).toNat = pI xs (gI l k) := fun hk => room_v (h.left.at hk).1 (h.left.at hk).2
    have dif : ∀ {k}, k < l.length → gI l j ≠ gI l k → (subP xs l).v j ≠ (roomP xs).v (gI l k).toNat := fun {k} hk hjk e => by
      rw [sub_v xs hj, rv hj, rv hk] at e
      have a1 := h.left.at hj
      have a2 := h.left.at hk
      have := room_inj hr (by omega) (by omega) e
      omega
    have := heP.2 j (dif hp g0) (dif hi g1) (dif hn g2)
    rw [sub_v xs hj, rv hp, rv hi, rv hn, rv hj] at this
    exact Bool.eq_false_iff.2 fun hb => this ((inTri_iff (left_bd hr h.left hp) (left_bd hr h.left hi) (left_bd hr h.left hn) (left_bd hr h.left hj)).1 hb)
theorem Sub.first {xs : List Pt} (hr : roomOk xs = true) {l : List Int} (h : Sub xs l) (h3 : 3 < l.length) : ∃ i, firstCut xs l = Option.some i ∧ i < l.length ∧ EarL xs l i := by
  obtain ⟨i, hi, he⟩ := h.some h3
  cases hf : firstCut xs l with
  | some j =>
    have := firstCut_spec hf
    exact ⟨j, rfl, this.1, h.ear_of hr this.1 this.2⟩
  | none =>
    exfalso
    unfold firstCut at hf
    rw [List.find?_eq_none] at hf
    exact hf i (List.mem_range.2 hi) (h.cut_of hr h3 hi he)
theorem erase_pt {l : List Pt} {i j : Nat} (hj : j + 1 < l.length) : pAt (l.eraseIdx i) j = if j < i then pAt l j else pAt l (j + 1) := by
  show (l.eraseIdx i).getD j (0, 0) = _
  rw [List.getD_eq_getElem?_getD, List.getElem?_eraseIdx]
  split <;> rw [← List.getD_eq_getElem?_getD]
theorem list_erase {l : List Pt} (h3 : 3 ≤ l.length) {i : Nat} (hi : i < l.length) : (roomP (l.eraseIdx i)).rot i = partB ((roomP l).rot (i + l.length - 1)) 2 := by
  have hl := List.length_eraseIdx_of_lt hi
  refine Poly.ext' (by show (l.eraseIdx i).length = l.length - 2 + 1; omega) fun j => ?_
  show (l.eraseIdx i).getD ((i + j) % (l.eraseIdx i).length) (0, 0) = l.getD ((i + l.length - 1 + (2 + j % (l.length - 2 + 1))) % l.length) (0, 0)
  have hm : j % (l.length - 1) < l.length - 1 := Nat.mod_lt _ (by omega)
  rw [hl, show l.length - 2 + 1 = l.length - 1 by omega, ← Nat.add_mod_mod]
  generalize j % (l.length - 1) = r at hm
  have e1 : (i + l.length - 1 + (2 + r)) % l.length = (i + 1 + r) % l.length := by
    rw [show i + l.length - 1 + (2 + r) = i + 1 + r + l.length by omega, Nat.add_mod_right]
  rw [e1]
  rcases Nat.lt_or_ge (i + 1 + r) l.length with g | g
  · rw [Nat.mod_eq_of_lt g, Nat.mod_eq_of_lt (show i + r < l.length - 1 by omega)]
    have := erase_pt (l := l) (i := i) (j := i + r) (by omega)
    rw [if_neg (by omega), show i + r + 1 = i + 1 + r by omega] at this
    exact this
  · rw [Nat.mod_eq_sub_mod g, Nat.mod_eq_of_lt (show i + 1 + r - l.length < l.length by omega), Nat.mod_eq_sub_mod (show l.length - 1 ≤ i + r by omega), Nat.mod_eq_of_lt (show i + r - (l.length - 1) < l.length - 1 by omega)]
    have := erase_pt (l := l) (i := i) (j := i + r - (l.length - 1)) (by omega)
    rw [if_pos (by omega), show i + r - (l.length - 1) = i + 1 + r - l.length by omega] at this
    rw [show i + r - (l.length - 1) = i + 1 + r - l.length by omega]
    exact this
theorem area_erase {l : List Pt} (h3 : 3 ≤ l.length) {i : Nat} (hi : i < l.length) : (roomP l).area = turnZ (pAt l (prvN l.length i)) (pAt l i) (pAt l (nxtN l.length i)) + (roomP (l.eraseIdx i)).area := by
  have e := list_erase h3 hi
  have q := area_cut ((roomP l).rot (i + l.length - 1)) (m := 2) (by show 2 ≤ l.length; omega)
  have q2 : (((roomP l).rot (i + l.length - 1)).rot 2).arc (((roomP l).rot (i + l.length - 1)).n - 2) = (roomP (l.eraseIdx i)).rot i := e.symm
  have w0 : (roomP l).v (i + l.length - 1 + 0) = pAt l (prvN l.length i) := rfl
  have w1 : (roomP l).v (i + l.length - 1 + 1) = pAt l i := by
    show l.getD ((i + l.length - 1 + 1) % l.length) (0, 0) = _
    rw [show i + l.length - 1 + 1 = i + l.length by omega, Nat.add_mod_right, Nat.mod_eq_of_lt hi]
  have w2 : (roomP l).v (i + l.length - 1 + 2) = pAt l (nxtN l.length i) := by
    show l.getD ((i + l.length - 1 + 2) % l.length) (0, 0) = l.getD ((i + 1) % l.length) (0, 0)
    rw [show i + l.length - 1 + 2 = i + 1 + l.length by omega, Nat.add_mod_right]
  rw [q2, area_rot, area_rot, tri_area' (show (((roomP l).rot (i + l.length - 1)).arc 2).n = 3 from rfl), arc_v _ (by omega), arc_v _ (by omega), arc_v _ (by omega)] at q
  rw [q]
  congr 1
  show turnZ ((roomP l).v (i + l.length - 1 + 0)) ((roomP l).v (i + l.length - 1 + 1)) ((roomP l).v (i + l.length - 1 + 2)) = _
  rw [w0, w1, w2]
end Go.Proofs.Ytnepfcnlngpchaa.Geo
namespace Go.Proofs.Ytnepfcnlngpchaa
open Go.RowKit Go.Proofs.Ytnepfcnlngpchaa.Nm
set_option maxRecDepth 10000
set_option maxHeartbeats 2000000
def cixTo (xs : List Pt) (p : Pt) : Nat → Int
  | 0 => -1
  | k + 1 => if cixTo xs p k < 0 then (if pAt xs k = p then k else -1) else cixTo xs p k
def cix (xs : List Pt) (p : Pt) : Int := cixTo xs p xs.length
theorem cix_bd (xs : List Pt) (p : Pt) (k : Nat) : -1 ≤ cixTo xs p k ∧ cixTo xs p k < k ∨ (k = 0 ∧ cixTo xs p k = -1) := by
  induction k with
  | zero => exact .inr ⟨rfl, rfl⟩
  | succ k ih =>
    refine .inl ?_
    unfold cixTo
    split
    · split <;> omega
    · omega
theorem cix_none {xs : List Pt} {p : Pt} {k : Nat} (h : ∀ j, j < k → pAt xs j ≠ p) : cixTo xs p k = -1 := by
  induction k with
  | zero => rfl
  | succ k ih => unfold cixTo; rw [ih fun j hj => h j (by omega), if_pos (by omega), if_neg (h k (by omega))]
theorem cix_at {xs : List Pt} {p : Pt} {i k : Nat} (h : ∀ j, j < i → pAt xs j ≠ p) (he : pAt xs i = p) (hk : i < k) : cixTo xs p k = i := by
  induction k with
  | zero => omega
  | succ k ih =>
    unfold cixTo
    rcases (show i = k ∨ i < k by omega) with e | e
    · subst e; rw [cix_none h, if_pos (by omega), if_pos he]
    · rw [ih e, if_neg (by omega)]
theorem cix_mem {xs : List Pt} {p : Pt} (h : p ∈ xs) : ∃ i, i < xs.length ∧ cix xs p = i ∧ pAt xs i = p := by
  obtain ⟨n, hn, e⟩ := List.getElem_of_mem h
  have ex : ∃ i, i < xs.length ∧ pAt xs i = p := ⟨n, hn, by rw [show pAt xs n = xs[n] from getD_lt _ hn]; exact e⟩
  have key : ∀ m, (∃ i, i < m ∧ pAt xs i = p) → ∃ i, i < m ∧ pAt xs i = p ∧ ∀ j, j < i → pAt xs j ≠ p := by
    intro m
    induction m with
    | zero => rintro ⟨i, hi, _⟩; omega
    | succ m ih =>
      rintro ⟨i, hi, he⟩
      by_cases h2 : ∃ i, i < m ∧ pAt xs i = p
      · obtain ⟨i, h1, h3, h4⟩ := ih h2
        exact ⟨i, by omega, h3, h4⟩
      · have : i = m := by
          rcases (show i = m ∨ i < m by omega) with g | g
          · exact g
          · exact absurd ⟨i, g, he⟩ h2
        subst this
        exact ⟨i, hi, he, fun j hj e => h2 ⟨j, hj, e⟩⟩
  obtain ⟨i, h1, h2, h3⟩ := key _ ex
  exact ⟨i, h1, cix_at h3 h2 h1, h2⟩
def isCornerC : Con := mkCon [.room, .pt] (fun x => x.1.length ≤ 1048576) fun x => vI (cix x.1 x.2.1)
theorem iIsCorner_ok : Good1 Try.prog n_impl_IsCorner isCornerC := by
  refine good_ofG (tys := tyL) (env := []) (envw := []) (envd := []) [] [] [] [] [] mixed tys trivial trivial trivial Try.func90 rfl (by kernel_rfl) (by decide) (by kernel_rfl) ?_
  have hG_ := kpz [(0, [2, 3]), (1, [3, 8, 9, 10]), (2, [3, 8, 9, 10, 11]), (3, [3, 5, 6, 8, 9, 10]), (4, [3, 5, 8, 9, 10, 17]), (5, [4]), (6, [3, 8, 9, 10]), (7, [4])] [(3, [6])] [] []
  rintro ⟨(xs : List Pt), (p : Pt), ⟨⟩⟩ (h1 : xs.length ≤ _)
  (repeat' (first | (with_reducible first | exact True.intro | refine zQ ?_ | (refine zG hG_ ?_; intro K_ hK_) | (refine zR ?_; intro K_ hK_) | (refine hK_ _ _ ?_; try clear hK_ K_) | refine sq_n ?_ | refine sq_r ?_ | refine sq_e ?_ | refine bq_n ?_ | refine bq_r ?_ | refine bq_q ?_ | refine zB ?_ | refine zX ?_ | refine zT ?_ | refine zK ?_ | refine gq_n ?_ | refine gq_r ?_ | refine gq_e ?_ | refine lq_n ?_ | refine lq_r ?_ | refine lq_e ?_ | refine bq_e (by decide) ?_) | ((with_reducible refine zC (b := ?b_) ?hb_ ?_ ?_); case hb_ => rfl) | ((conv => whnf); first | (with_reducible refine hK_ _ _ ?_; try clear hK_ K_) | (with_reducible refine fun (g_ : Sl) (o_ : Ow) => ?_) | (with_reducible first | exact True.intro | refine And.intro trivial ?_ | refine And.intro ?_ ?_) | exact Nat.le_of_ble_eq_true rfl | exact Or.inl rfl | (intro h_; cases h_) | (intro h_; (try simp only [vS1] at h_)) | rfl))) <;> (try (conv => whnf)) <;> (try first | change (_ : Int) ≤ _ | change (_ : Nat) ≤ _) <;> (try ((fail_if_success (with_reducible apply Exists.intro)); (try dsimp only); (try simp only [vS1]))) <;> (try simp (disch := omega) only [vS3, Int.add_sub_cancel, tn1, tnp, tnc, vS2] at *)
  all_goals (try (fail_if_success (with_reducible apply Exists.intro)); first | with_reducible assumption | omega | exact mdl (by omega) | exact ilo1 (by omega) | exact ilo2 (by omega) | exact ihi1 (by omega) (by omega) | exact ihi2 (by omega) (by omega))
  refine awp'_loopG (α := Nat) (fun k ver_ => [(10, vInt k)]) (fun k ver_ => []) (fun k ver_ => []) (fun k => k ≤ xs.length ∧ ∀ j, j < k → pAt xs j ≠ p) (fun k => xs.length - k) [3, 8, 9] [] (0) ?_
  conv => whnf
  refine ⟨⟨?inv1_, ?vals1_, ?own1_, ?fix1_⟩, ?body1_⟩
  case' vals1_ => (repeat' (first | (with_reducible first | exact True.intro | refine And.intro ?_ ?_ | refine Head.mk ?_ ?_ ?_ ?_) | ((conv => lhs; whnf); first | (with_reducible first | rfl | exact vInt_s (by omega)) | exact rfl) | ((conv => whnf); first | (with_reducible first | exact True.intro | refine And.intro ?_ ?_)))) <;> (try (conv => lhs; whnf))
  case' own1_ => (repeat' (first | (with_reducible first | exact True.intro | refine And.intro ?_ ?_ | refine Head.mk ?_ ?_ ?_ ?_) | ((conv => lhs; whnf); first | (with_reducible first | rfl | exact vInt_s (by omega)) | exact rfl) | ((conv => whnf); first | (with_reducible first | exact True.intro | refine And.intro ?_ ?_)))) <;> (try (conv => lhs; whnf))
  case' fix1_ => (repeat' (first | (with_reducible first | exact True.intro | refine And.intro ?_ ?_ | refine Head.mk ?_ ?_ ?_ ?_) | ((conv => lhs; whnf); first | (with_reducible first | rfl | exact vInt_s (by omega)) | exact rfl) | ((conv => whnf); first | (with_reducible first | exact True.intro | refine And.intro ?_ ?_)))) <;> (try (conv => lhs; whnf))
  · exact ⟨Nat.zero_le _, fun j hj => absurd hj (by omega)⟩
  rintro k g_ o_ v_ ⟨hk, hall⟩
  (repeat' (first | (with_reducible first | exact True.intro | refine zQ ?_ | (refine zG hG_ ?_; intro K_ hK_) | (refine zR ?_; intro K_ hK_) | (refine hK_ _ _ ?_; try clear hK_ K_) | refine sq_n ?_ | refine sq_r ?_ | refine sq_e ?_ | refine bq_n ?_ | refine bq_r ?_ | refine bq_q ?_ | refine zB ?_ | refine zX ?_ | refine zT ?_ | refine zK ?_ | refine gq_n ?_ | refine gq_r ?_ | refine gq_e ?_ | refine lq_n ?_ | refine lq_r ?_ | refine lq_e ?_ | refine bq_e (by decide) ?_) | ((with_reducible refine zC (b := ?b_) ?hb_ ?_ ?_); case hb_ => rfl) | ((conv => whnf); first | (with_reducible refine hK_ _ _ ?_; try clear hK_ K_) | (with_reducible refine fun (g_ : Sl) (o_ : Ow) => ?_) | (with_reducible first | exact True.intro | refine And.intro trivial ?_ | refine And.intro ?_ ?_) | exact Nat.le_of_ble_eq_true rfl | exact Or.inl rfl | (intro h_; cases h_) | (intro h_; (try simp only [vS1] at h_)) | rfl))) <;> (try (conv => whnf)) <;> (try first | change (_ : Int) ≤ _ | change (_ : Nat) ≤ _) <;> (try ((fail_if_success (with_reducible apply Exists.intro)); (try dsimp only); (try simp only [vS1]))) <;> (try simp (disch := omega) only [vS3, Int.add_sub_cancel, tn1, tnp, tnc, vS2] at *)
  all_goals (try (fail_if_success (with_reducible apply Exists.intro)); first | with_reducible assumption | omega | exact mdl (by omega) | exact ilo1 (by omega) | exact ilo2 (by omega) | exact ihi1 (by omega) (by omega) | exact ihi2 (by omega) (by omega))
  · exact (cix_at hall h_ (by assumption)).symm
  · refine ⟨k + 1, by omega, ⟨by omega, fun j hj => ?_⟩, ?_⟩
    · rcases (show j < k ∨ j = k by omega) with g | rfl
      · exact hall j g
      · exact h_
    · (repeat' (first | (with_reducible first | exact True.intro | refine And.intro ?_ ?_ | refine Head.mk ?_ ?_ ?_ ?_) | ((conv => lhs; whnf); first | (with_reducible first | rfl | exact vInt_s (by omega)) | exact rfl) | ((conv => whnf); first | (with_reducible first | exact True.intro | refine And.intro ?_ ?_)))) <;> (try (conv => lhs; whnf))
  · exact (cix_none fun j hj => hall j (by omega)).symm
theorem hull_edge {xs : List Pt} (h : 0 < xs.length) (hok : xs.all ptOk = true) {k : Nat} (hk : k < (hullM xs).length) :
    pAt (hullM xs) k ∈ xs ∧ pCy (hullM xs) (k + 1) ∈ xs ∧ pAt (hullM xs) k ≠ pCy (hullM xs) (k + 1) ∧ ∀ q ∈ xs, 0 ≤ turnZ (pAt (hullM xs) k) (pCy (hullM xs) (k + 1)) q ∧ (turnZ (pAt (hullM xs) k) (pCy (hullM xs) (k + 1)) q = 0 → OnZ q (pAt (hullM xs) k) (pCy (hullM xs) (k + 1))) := by
  have hbd := bd_all hok
  have hne : ordP xs ≠ [] := fun e => by
    have := ord_low h
    rw [e] at this; cases this
  have hbo : ∀ q ∈ ordP xs, Bd q := fun q hq => hbd q (ordP_mem.1 hq)
  obtain ⟨⟨r1, r2, r3⟩, r4, r5⟩ := round_of hne (ordP_sorted xs) hbo
  have hm : hullM xs = rawHull (ordP xs) := by
    unfold hullM at hk ⊢
    split
    · rfl
    · rename_i e; rw [if_neg e] at hk; exact absurd hk (by simp)
  rw [hm] at hk ⊢
  generalize rawHull (ordP xs) = R at *
  generalize wayR (ordP xs) = P at *
  subst r5
  have hk := hk
  have hl : P.dropLast.length = P.length - 1 := List.length_dropLast
  rw [hl] at hk
  have hget : ∀ j, j < P.length - 1 → P.dropLast.getD j (0, 0) = P.getD j (0, 0) := fun j hj => by
    rw [getD_lt _ (by omega), getD_lt _ (by omega), List.getElem_dropLast]
  have h0 : P.head? = some (P.getD 0 (0, 0)) := by
    cases P with
    | nil => simp at hk
    | cons a l => rfl
  have hlast : P.getD (P.length - 1) (0, 0) = P.getD 0 (0, 0) := by
    have := r2 _ h0
    rw [List.getLast?_eq_getElem?, List.getElem?_eq_getElem (by omega)] at this
    rw [getD_lt _ (by omega)]
    exact Option.some.inj this
  have e1 : pAt P.dropLast k = P.getD k (0, 0) := hget k hk
  have e2 : pCy P.dropLast (k + 1) = P.getD (k + 1) (0, 0) := by
    show P.dropLast.getD ((k + 1) % P.dropLast.length) _ = _
    rw [hl]
    rcases (show k + 1 < P.length - 1 ∨ k + 1 = P.length - 1 by omega) with g | g
    · rw [Nat.mod_eq_of_lt g, hget _ g]
    · rw [g, Nat.mod_self, hget 0 (by omega), hlast]
  rw [e1, e2]
  have he : Edge (· ∈ ordP xs) (P.getD k (0, 0)) (P.getD (k + 1) (0, 0)) := by
    refine r1 (P.take k) _ _ (P.drop (k + 2)) ?_
    rw [show P.getD k (0, 0) = P[k] from getD_lt _ (by omega), show P.getD (k + 1) (0, 0) = P[k + 1] from getD_lt _ (by omega)]
    rw [← List.drop_eq_getElem_cons (show k + 1 < P.length by omega), ← List.drop_eq_getElem_cons (show k < P.length by omega), List.take_append_drop]
  exact ⟨ordP_mem.1 he.1, ordP_mem.1 he.2.1, he.2.2.1, fun q hq => he.2.2.2 q (ordP_mem.2 hq)⟩
open Geo in
theorem between_dot {a b q : Pt} (h : OnZ q a b) : dotZ b a q ≤ 0 := by
  obtain ⟨_, ⟨h1, h2⟩, h3, h4⟩ := h
  unfold dotZ
  have g1 : (a.1 - b.1) * (q.1 - a.1) ≤ 0 := by
    rcases (show a.1 ≤ b.1 ∨ b.1 ≤ a.1 by omega) with g | g
    · exact mp0 (by omega) (by omega)
    · exact pm0 (by omega) (by omega)
  have g2 : (a.2 - b.2) * (q.2 - a.2) ≤ 0 := by
    rcases (show a.2 ≤ b.2 ∨ b.2 ≤ a.2 by omega) with g | g
    · exact mp0 (by omega) (by omega)
    · exact pm0 (by omega) (by omega)
  omega
theorem hull_forth {xs : List Pt} (hr : roomOk xs = true) {k : Nat} (hk : k < (hullM xs).length) :
    neighZ xs.length (cix xs (pAt (hullM xs) k)) (cix xs (pCy (hullM xs) (k + 1))) = decide (Int.tmod (cix xs (pAt (hullM xs) k) + 1) xs.length = cix xs (pCy (hullM xs) (k + 1))) := by
  obtain ⟨ha, hb, hne, hq⟩ := hull_edge (room_pos hr) (roomOk_iff.1 hr).2.1 hk
  generalize pAt (hullM xs) k = a at *
  generalize pCy (hullM xs) (k + 1) = b at *
  obtain ⟨i, hi, ei, pa⟩ := cix_mem ha
  obtain ⟨j, hj, ej, pb⟩ := cix_mem hb
  unfold neighZ
  rw [ei, ej]
  have : decide (Int.tmod ((j : Int) + 1) xs.length = i) = false := by
    rw [decide_eq_false_iff_not, tm1]
    intro e
    have e : (j + 1) % xs.length = i := by omega
    refine Geo.no_back (Geo.room_simple hr) (Geo.room_area hr).2.1 (j := j) fun m hm => ?_
    have e1 : (Geo.roomP xs).v j = b := by rw [← pb]; exact pCy_lt hj
    have e2 : (Geo.roomP xs).v (j + 1) = a := by rw [← pa, ← e]; rfl
    have em : (Geo.roomP xs).v m ∈ xs := by
      have hm : m < xs.length := hm
      rw [show (Geo.roomP xs).v m = pAt xs m from pCy_lt hm, show pAt xs m = xs[m] from getD_lt _ hm]; exact List.getElem_mem hm
    rw [e1, e2]
    exact ⟨(hq _ em).1, fun h0 => between_dot ((hq _ em).2 h0)⟩
  rw [this, Bool.or_false]
def pockTo (xs hs : List Pt) : Nat → Int
  | 0 => 0
  | k + 1 => if neighZ xs.length (cix xs (pAt hs k)) (cix xs (pCy hs (k + 1))) = true then pockTo xs hs k else pockTo xs hs k + 1
theorem pock_bd (xs hs : List Pt) (k : Nat) : 0 ≤ pockTo xs hs k ∧ pockTo xs hs k ≤ k := by
  induction k with
  | zero => exact ⟨Int.le_refl _, Int.le_refl _⟩
  | succ k ih => unfold pockTo; split <;> omega
def pockM (xs : List Pt) : Int := if roomOk xs then pockTo xs (hullM xs) (hullM xs).length else 0
theorem pock_no {xs : List Pt} (h : roomOk xs = false) : pockM xs = 0 := by unfold pockM; rw [h]; rfl
theorem pock_yes {xs : List Pt} (h : roomOk xs = true) : pockM xs = pockTo xs (hullM xs) (hullM xs).length := by unfold pockM; rw [h]; rfl
def pockC : Con := mkCon [.room] (fun x => x.1.length ≤ 1048576) fun x => vI (pockM x.1)
theorem cix_len (xs : List Pt) (p : Pt) : -1 ≤ cix xs p ∧ cix xs p ≤ xs.length := by have := cix_bd xs p xs.length; unfold cix; omega
theorem iCountPockets_ok : Good1 Try.prog n_impl_CountPockets pockC := by
  refine good_ofG (tys := tyL) (env := [(n_impl_RoomOk, roomOkC), (n_impl_HullOf, hullC), (n_impl_wallsOf, wallsOfC), (n_impl_IsCorner, isCornerC), (n_impl_neighbors, neighC)]) (envw := []) (envd := []) [] [] [] [] [] mixed tys ⟨iRoomOk_ok, iHullOf_ok, wallsOf_ok, iIsCorner_ok, neighbors_ok, trivial⟩ trivial trivial Try.func32 rfl (by kernel_rfl) (by decide) (by kernel_rfl) ?_
  have hG_ := kpz [(0, [1]), (1, [1, 8]), (2, [2]), (3, [1, 3]), (4, [1, 3, 12, 13, 14]), (5, [1, 3, 12, 13, 14, 15]), (6, [1, 3, 5, 12, 13, 14]), (7, [1, 3, 12, 13, 14, 28]), (8, [1, 3, 12, 13, 14]), (9, [1, 3, 12, 13, 14]), (10, [2])] [(6, [5])] [] []
  rintro ⟨(xs : List Pt), ⟨⟩⟩ (h1 : xs.length ≤ _)
  have hcl := cix_len xs
  have hhl := hull_len xs
  (repeat' (first | (with_reducible first | exact True.intro | refine zQ ?_ | (refine zG hG_ ?_; intro K_ hK_) | (refine zR ?_; intro K_ hK_) | (refine hK_ _ _ ?_; try clear hK_ K_) | refine sq_n ?_ | refine sq_r ?_ | refine sq_e ?_ | refine bq_n ?_ | refine bq_r ?_ | refine bq_q ?_ | refine zB ?_ | refine zX ?_ | refine zT ?_ | refine zK ?_ | refine gq_n ?_ | refine gq_r ?_ | refine gq_e ?_ | refine lq_n ?_ | refine lq_r ?_ | refine lq_e ?_ | refine bq_e (by decide) ?_) | ((with_reducible refine zC (b := ?b_) ?hb_ ?_ ?_); case hb_ => rfl) | ((conv => whnf); first | (with_reducible refine hK_ _ _ ?_; try clear hK_ K_) | (with_reducible refine fun (g_ : Sl) (o_ : Ow) => ?_) | (with_reducible first | exact True.intro | refine And.intro trivial ?_ | refine And.intro ?_ ?_) | exact Nat.le_of_ble_eq_true rfl | exact Or.inl rfl | (intro h_; cases h_) | (intro h_; (try simp only [vS1] at h_)) | rfl))) <;> (try (conv => whnf)) <;> (try first | change (_ : Int) ≤ _ | change (_ : Nat) ≤ _) <;> (try ((fail_if_success (with_reducible apply Exists.intro)); (try dsimp only); (try simp only [vS1]))) <;> (try simp (disch := omega) only [vS3, Int.add_sub_cancel, tn1, tnp, tnc, vS2] at *)
  all_goals (try (fail_if_success (with_reducible apply Exists.intro)); first | with_reducible assumption | omega | exact mdl (by omega) | exact ilo1 (by omega) | exact ilo2 (by omega) | exact ihi1 (by omega) (by omega) | exact ihi2 (by omega) (by omega))
  · exact (pock_no h_).symm
  have hr := h_
  have hln := room_len hr
  have hwl := walls_len (hullM xs)
  refine awp'_loopG (α := Nat) (fun k ver_ => [(3, vInt (pockTo xs (hullM xs) k)), (14, vInt k)]) (fun k ver_ => []) (fun k ver_ => []) (fun k => k ≤ (hullM xs).length) (fun k => (hullM xs).length - k) [1, 12, 13] [] (0) ?_
  conv => whnf
  refine ⟨⟨?inv2_, ?vals2_, ?own2_, ?fix2_⟩, ?body2_⟩
  case' vals2_ => (repeat' (first | (with_reducible first | exact True.intro | refine And.intro ?_ ?_ | refine Head.mk ?_ ?_ ?_ ?_) | ((conv => lhs; whnf); first | (with_reducible first | rfl | exact vInt_s (by omega)) | exact rfl) | ((conv => whnf); first | (with_reducible first | exact True.intro | refine And.intro ?_ ?_)))) <;> (try (conv => lhs; whnf))
  case' own2_ => (repeat' (first | (with_reducible first | exact True.intro | refine And.intro ?_ ?_ | refine Head.mk ?_ ?_ ?_ ?_) | ((conv => lhs; whnf); first | (with_reducible first | rfl | exact vInt_s (by omega)) | exact rfl) | ((conv => whnf); first | (with_reducible first | exact True.intro | refine And.intro ?_ ?_)))) <;> (try (conv => lhs; whnf))
  case' fix2_ => (repeat' (first | (with_reducible first | exact True.intro | refine And.intro ?_ ?_ | refine Head.mk ?_ ?_ ?_ ?_) | ((conv => lhs; whnf); first | (with_reducible first | rfl | exact vInt_s (by omega)) | exact rfl) | ((conv => whnf); first | (with_reducible first | exact True.intro | refine And.intro ?_ ?_)))) <;> (try (conv => lhs; whnf))
  · exact Nat.zero_le _
  rintro k g_ o_ v_ hk
  have hpb := pock_bd xs (hullM xs) k
  (repeat' (first | (with_reducible first | exact True.intro | refine zQ ?_ | (refine zG hG_ ?_; intro K_ hK_) | (refine zR ?_; intro K_ hK_) | (refine hK_ _ _ ?_; try clear hK_ K_) | refine sq_n ?_ | refine sq_r ?_ | refine sq_e ?_ | refine bq_n ?_ | refine bq_r ?_ | refine bq_q ?_ | refine zB ?_ | refine zX ?_ | refine zT ?_ | refine zK ?_ | refine gq_n ?_ | refine gq_r ?_ | refine gq_e ?_ | refine lq_n ?_ | refine lq_r ?_ | refine lq_e ?_ | refine bq_e (by decide) ?_) | ((with_reducible refine zC (b := ?b_) ?hb_ ?_ ?_); case hb_ => rfl) | ((conv => whnf); first | (with_reducible refine hK_ _ _ ?_; try clear hK_ K_) | (with_reducible refine fun (g_ : Sl) (o_ : Ow) => ?_) | (with_reducible first | exact True.intro | refine And.intro trivial ?_ | refine And.intro ?_ ?_) | exact Nat.le_of_ble_eq_true rfl | exact Or.inl rfl | (intro h_; cases h_) | (intro h_; (try simp only [vS1] at h_)) | rfl))) <;> (try (conv => whnf)) <;> (try first | change (_ : Int) ≤ _ | change (_ : Nat) ≤ _) <;> (try ((fail_if_success (with_reducible apply Exists.intro)); (try dsimp only); (try simp only [vS1]))) <;> (try simp (disch := omega) only [vS3, Int.add_sub_cancel, tn1, tnp, tnc, vS2] at *)
  all_goals (try (fail_if_success (with_reducible apply Exists.intro)); first | with_reducible assumption | omega | exact mdl (by omega) | exact ilo1 (by omega) | exact ilo2 (by omega) | exact ihi1 (by omega) (by omega) | exact ihi2 (by omega) (by omega))
  · exact Int.le_trans (by omega) (hcl _).1
  · exact Int.le_trans (hcl _).2 (by omega)
  · exact Int.le_trans (by omega) (hcl _).1
  · exact Int.le_trans (hcl _).2 (by omega)
  · rw [walls_get (by omega)] at *
    refine ⟨k + 1, by omega, by omega, ?_⟩
    (repeat' (first | (with_reducible first | exact True.intro | refine And.intro ?_ ?_ | refine Head.mk ?_ ?_ ?_ ?_) | ((conv => lhs; whnf); first | (with_reducible first | rfl | exact vInt_s (by omega)) | exact rfl) | ((conv => whnf); first | (with_reducible first | exact True.intro | refine And.intro ?_ ?_)))) <;> (try (conv => lhs; whnf))
    exact congrArg vInt (by show _ = ite _ _ _; rw [if_neg (by rw [Bool.not_eq_true]; assumption)])
  · rw [walls_get (by omega)] at *
    refine ⟨k + 1, by omega, by omega, ?_⟩
    (repeat' (first | (with_reducible first | exact True.intro | refine And.intro ?_ ?_ | refine Head.mk ?_ ?_ ?_ ?_) | ((conv => lhs; whnf); first | (with_reducible first | rfl | exact vInt_s (by omega)) | exact rfl) | ((conv => whnf); first | (with_reducible first | exact True.intro | refine And.intro ?_ ?_)))) <;> (try (conv => lhs; whnf))
    exact congrArg vInt (by show _ = ite _ _ _; rw [if_pos (by assumption)])
  · rw [pock_yes hr, show k = (hullM xs).length by omega]
end Go.Proofs.Ytnepfcnlngpchaa
namespace Go.Proofs.Ytnepfcnlngpchaa.Geo
open Go.RowKit
structure WL (Q : Pt → Prop) (l : List Pt) : Prop where
  nodup : l.Nodup
  mem : ∀ q ∈ l, Q q
  left : ∀ k q, Q q → 0 ≤ turnZ (pCy l k) (pCy l (k + 1)) q
  area : 0 < (roomP l).area
theorem WL.len3 {Q : Pt → Prop} {l : List Pt} (h : WL Q l) : 3 ≤ l.length := by
  have ha := h.area
  rw [area_at _ (pCy l 0)] at ha
  have ha : 0 < sumN (fun k => turnZ (pCy l 0) (pCy l k) (pCy l (k + 1))) l.length := ha
  rcases (show l.length = 0 ∨ l.length = 1 ∨ l.length = 2 ∨ 3 ≤ l.length by omega) with g | g | g | g
  · rw [g] at ha; exact absurd (show (0 : Int) < 0 from ha) (by decide)
  · rw [g] at ha
    simp only [sumN] at ha
    exfalso
    have : turnZ (pCy l 0) (pCy l 0) (pCy l (0 + 1)) = 0 := by unfold turnZ; grind
    omega
  · exfalso
    have e : pCy l (1 + 1) = pCy l 0 := by
      show l.getD (2 % l.length) _ = l.getD (0 % l.length) _
      rw [g]
    rw [g] at ha
    simp only [sumN] at ha
    rw [e] at ha
    have t1 : turnZ (pCy l 0) (pCy l 0) (pCy l (0 + 1)) = 0 := by unfold turnZ; grind
    have t2 : turnZ (pCy l 0) (pCy l 1) (pCy l 0) = 0 := by unfold turnZ; grind
    omega
  · exact g
theorem nodup_ne {l : List Pt} (h : l.Nodup) {i j : Nat} (hi : i < l.length) (hj : j < l.length) (hij : i ≠ j) : pAt l i ≠ pAt l j := by
  have key : ∀ {i j : Nat}, i < j → j < l.length → pAt l i ≠ pAt l j := fun {i j} hij hj => by
    have := List.pairwise_iff_getElem.1 h i j (by omega) hj hij
    rwa [pAt, pAt, getD_lt _ (by omega), getD_lt _ hj]
  rcases Nat.lt_or_gt_of_ne hij with g | g
  · exact key g hj
  · exact (key g hi).symm
theorem cy_ne {l : List Pt} (h : l.Nodup) {i d : Nat} (h0 : 0 < d) (hd : d < l.length) : pCy l i ≠ pCy l (i + d) := by
  have hn : 0 < l.length := by omega
  have a := Nat.mod_lt i hn
  refine nodup_ne h a (Nat.mod_lt _ hn) fun e => ?_
  have e : i % l.length = (i + d) % l.length := e
  rw [← Nat.mod_add_mod] at e
  generalize i % l.length = r at *
  rcases Nat.lt_or_ge (r + d) l.length with g | g
  · rw [Nat.mod_eq_of_lt g] at e; omega
  · rw [Nat.mod_eq_sub_mod g, Nat.mod_eq_of_lt (by omega)] at e; omega
theorem merge {Q : Pt → Prop} {a w b : Pt} (haw : a ≠ w) (h1 : ∀ q, Q q → 0 ≤ turnZ a w q) (h2 : ∀ q, Q q → 0 ≤ turnZ w b q) (t0 : turnZ a w b = 0) (hex : ∃ q, Q q ∧ turnZ a w q ≠ 0) : ∀ q, Q q → 0 ≤ turnZ a b q := by
  have hN := sq_pos haw
  rw [← phi_b] at hN
  have taa : turnZ a w a = 0 := by unfold turnZ; grind
  have tww : turnZ a w w = 0 := by unfold turnZ; grind
  obtain ⟨q0, hq0, hne⟩ := hex
  have p0 := h1 q0 hq0
  have e1 := (line_turn tww t0 q0).1
  have n2 := nn0 (show 0 ≤ phi a w w by omega) (h2 q0 hq0)
  rw [e1] at n2
  have hb : phi a w w ≤ phi a w b := by
    rcases (show phi a w w ≤ phi a w b ∨ phi a w b - phi a w w < 0 by omega) with g | g
    · exact g
    · have := mp g (show 0 < turnZ a w q0 by omega); omega
  intro q hq
  have e2 := (line_turn taa t0 q).1
  rw [phi_a, Int.sub_zero] at e2
  have := nn0 (show 0 ≤ phi a w b by omega) (h1 q hq)
  rw [← e2] at this
  rcases (show 0 ≤ turnZ a b q ∨ turnZ a b q < 0 by omega) with g | g
  · exact g
  · have := pm hN g; omega
theorem WL.notline {Q : Pt → Prop} {l : List Pt} (h : WL Q l) {a w : Pt} (haw : a ≠ w) : ∃ q, Q q ∧ turnZ a w q ≠ 0 := by
  have hn : 0 < l.length := by have := h.len3; omega
  by_cases hz : ∃ k, turnZ a w (pCy l k) ≠ 0
  · obtain ⟨k, hk⟩ := hz
    exact ⟨_, h.mem _ (pAt_mem (Nat.mod_lt k hn)), hk⟩
  · exfalso
    have z : ∀ k, turnZ a w (pCy l k) = 0 := fun k => by
      rcases Int.lt_trichotomy (turnZ a w (pCy l k)) 0 with g | g | g
      · exact absurd ⟨k, by omega⟩ hz
      · exact g
      · exact absurd ⟨k, by omega⟩ hz
    have hN := sq_pos haw
    rw [← phi_b] at hN
    have ha := h.area
    rw [area_at _ (pCy l 0)] at ha
    have e0 : ∀ k, turnZ (pCy l 0) ((roomP l).v k) ((roomP l).v (k + 1)) = 0 := fun k => by
      have := (line_turn (z 0) (z k) (pCy l (k + 1))).1
      rw [z (k + 1), Int.mul_zero] at this
      rcases Int.mul_eq_zero.1 this with g | g
      · omega
      · exact g
    rw [sumN_congr fun k _ => e0 k] at ha
    have : ∀ n, sumN (fun _ => (0 : Int)) n = 0 := fun n => by
      induction n with
      | zero => rfl
      | succ n ih => simp only [sumN]; omega
    rw [this] at ha
    omega
theorem WL.erase {Q : Pt → Prop} {l : List Pt} (h : WL Q l) {i : Nat} (hi : i < l.length) (t0 : turnZ (pAt l (prvN l.length i)) (pAt l i) (pAt l (nxtN l.length i)) = 0) : WL Q (l.eraseIdx i) ∧ (roomP (l.eraseIdx i)).area = (roomP l).area := by
  have h3 := h.len3
  have hl := List.length_eraseIdx_of_lt hi
  have ha := area_erase h3 hi
  have hpos := h.area
  rw [t0] at ha
  have e := list_erase h3 hi
  have hsub := List.eraseIdx_sublist l i
  have P1 : ∀ d, (roomP l).v (i + l.length - 1 + (2 + d)) = (roomP l).v (i + 1 + d) := fun d => by
    rw [show i + l.length - 1 + (2 + d) = i + 1 + d + l.length by omega]
    exact (roomP l).per _
  have ev : ∀ s, (roomP (l.eraseIdx i)).v (i + s) = (roomP l).v (i + 1 + s % (l.length - 1)) := fun s => by
    have e2 : ((roomP (l.eraseIdx i)).rot i).v s = (partB ((roomP l).rot (i + l.length - 1)) 2).v s := by rw [e]
    have e3 : (partB ((roomP l).rot (i + l.length - 1)) 2).v s = (roomP l).v (i + l.length - 1 + (2 + s % (l.length - 2 + 1))) := rfl
    rw [e3, show l.length - 2 + 1 = l.length - 1 by omega, P1] at e2
    exact e2
  refine ⟨⟨h.nodup.sublist hsub, fun q hq => h.mem q (hsub.mem hq), fun k q hq => ?_, by omega⟩, by omega⟩
  have hle : i ≤ (l.length - 1) * i := Nat.le_mul_of_pos_left _ (by omega)
  have ek : ∀ d, pCy (l.eraseIdx i) (k + d) = (roomP l).v (i + 1 + (k + (l.length - 1) * i - i + d) % (l.length - 1)) := fun d => by
    rw [← ev, show i + (k + (l.length - 1) * i - i + d) = k + d + (l.length - 1) * i by omega]
    have := (roomP (l.eraseIdx i)).per_mul (k + d) i
    rw [show (roomP (l.eraseIdx i)).n = l.length - 1 from hl] at this
    exact this.symm
  have k0 := ek 0
  simp only [Nat.add_zero] at k0
  rw [k0, ek 1]
  generalize k + (l.length - 1) * i - i = s
  have hr : s % (l.length - 1) < l.length - 1 := Nat.mod_lt _ (by omega)
  rw [← Nat.mod_add_mod s (l.length - 1) 1]
  generalize s % (l.length - 1) = r at hr
  rcases (show r + 1 < l.length - 1 ∨ r + 1 = l.length - 1 by omega) with g | g
  · rw [Nat.mod_eq_of_lt g]
    exact h.left (i + 1 + r) q hq
  · rw [g, Nat.mod_self]
    have w0 : (roomP l).v (i + 1 + r) = pAt l (prvN l.length i) := by
      rw [show i + 1 + r = i + l.length - 1 by omega]; rfl
    have w1 : (roomP l).v (i + 1 + 0) = pAt l (nxtN l.length i) := rfl
    rw [w0, w1]
    have hp : prvN l.length i < l.length := prv_lt (by omega)
    have hpi : prvN l.length i ≠ i := (prv_ne (by omega) hi).1
    refine merge (w := pAt l i) (nodup_ne h.nodup hp hi hpi) (fun q hq => ?_) (fun q hq => ?_) t0 (h.notline (nodup_ne h.nodup hp hi hpi)) q hq
    · have := h.left (i + l.length - 1) q hq
      rw [show i + l.length - 1 + 1 = i + l.length by omega] at this
      have e1 : pCy l (i + l.length) = pAt l i := ((roomP l).per i).trans (v_lt hi)
      rw [e1] at this
      exact this
    · have := h.left i q hq
      rw [show pCy l i = pAt l i from pCy_lt hi] at this
      exact this
theorem straight {Q : Pt → Prop} : ∀ (n : Nat) (l : List Pt), l.length = n → WL Q l → ∃ l', WL Q l' ∧ (roomP l').area = (roomP l).area ∧ ∀ k, turnZ (pCy l' k) (pCy l' (k + 1)) (pCy l' (k + 2)) ≠ 0 := fun n => by
  induction n with
  | zero => intro l hl h; have := h.len3; omega
  | succ n ih =>
    intro l hl h
    have h3 := h.len3
    by_cases hz : ∃ i, i < l.length ∧ turnZ (pAt l (prvN l.length i)) (pAt l i) (pAt l (nxtN l.length i)) = 0
    · obtain ⟨i, hi, t0⟩ := hz
      obtain ⟨h', ha⟩ := h.erase hi t0
      obtain ⟨l', g1, g2, g3⟩ := ih (l.eraseIdx i) (by rw [List.length_eraseIdx_of_lt hi]; omega) h'
      exact ⟨l', g1, g2.trans ha, g3⟩
    · refine ⟨l, h, rfl, fun k e => hz ⟨(k + 1) % l.length, Nat.mod_lt _ (by omega), ?_⟩⟩
      have hi : (k + 1) % l.length < l.length := Nat.mod_lt _ (by omega)
      have e0 : pAt l (prvN l.length ((k + 1) % l.length)) = pCy l k := by
        show (roomP l).v ((k + 1) % l.length + l.length - 1) = (roomP l).v k
        have := (roomP l).per_add (k + 1) (l.length - 1)
        rw [show (k + 1) % l.length + l.length - 1 = (k + 1) % l.length + (l.length - 1) by omega]
        refine this.trans ?_
        rw [show k + 1 + (l.length - 1) = k + l.length by omega]
        exact (roomP l).per k
      have e1 : pAt l ((k + 1) % l.length) = pCy l (k + 1) := rfl
      have e2 : pAt l (nxtN l.length ((k + 1) % l.length)) = pCy l (k + 2) := by
        show l.getD (((k + 1) % l.length + 1) % l.length) (0, 0) = l.getD ((k + 2) % l.length) (0, 0)
        rw [Nat.mod_add_mod]
      rw [e0, e1, e2]
      exact e
theorem on_seg {z a b c q : Pt} (t1 : 0 < turnZ z a b) (t2 : 0 < turnZ a b c) (hz : 0 ≤ turnZ z a q) (hc : 0 ≤ turnZ b c q) (h0 : turnZ a b q = 0) : OnZ q a b := by
  have hab : a ≠ b := fun e => by
    subst e
    have : turnZ a a c = 0 := by unfold turnZ; grind
    omega
  have hN := sq_pos hab
  have m1 := line_mean h0 (Aff.turn z a)
  have m2 := line_mean h0 (Aff.turn b c)
  rw [ev_turn, ev_turn, ev_turn] at m1 m2
  have z1 : turnZ z a a = 0 := by unfold turnZ; grind
  have z2 : turnZ b c b = 0 := by unfold turnZ; grind
  have e2 : turnZ b c a = turnZ a b c := by unfold turnZ; grind
  rw [z1, Int.mul_zero, Int.zero_add] at m1
  rw [z2, e2, Int.mul_zero, Int.add_zero] at m2
  obtain ⟨l1, l2⟩ := on_line h0
  generalize (b.1 - a.1) * (b.1 - a.1) + (b.2 - a.2) * (b.2 - a.2) = N at *
  have n1 := nn0 (show 0 ≤ N by omega) hz
  have n2 := nn0 (show 0 ≤ N by omega) hc
  have f1 : 0 ≤ N + dotZ a b q := by
    rcases (show 0 ≤ N + dotZ a b q ∨ N + dotZ a b q < 0 by omega) with g | g
    · exact g
    · have := mp g t1; omega
  have f2 : 0 ≤ - dotZ a b q := by
    rcases (show 0 ≤ - dotZ a b q ∨ - dotZ a b q < 0 by omega) with g | g
    · exact g
    · have := mp g t2; omega
  have hs : N - (N + dotZ a b q) + (N + dotZ a b q) = N := by omega
  refine ⟨h0, mean_between (s := N - (N + dotZ a b q)) (t := N + dotZ a b q) (by omega) f1 (by omega) (by rw [hs]; exact l1), mean_between (s := N - (N + dotZ a b q)) (t := N + dotZ a b q) (by omega) f1 (by omega) (by rw [hs]; exact l2)⟩
theorem WL.edges {Q : Pt → Prop} {l : List Pt} (h : WL Q l) (ht : ∀ k, turnZ (pCy l k) (pCy l (k + 1)) (pCy l (k + 2)) ≠ 0) : EdgeL Q l := by
  have h3 := h.len3
  have hn : 0 < l.length := by omega
  have hm : ∀ k, Q (pCy l k) := fun k => h.mem _ (pAt_mem (Nat.mod_lt k hn))
  have tp : ∀ k, 0 < turnZ (pCy l k) (pCy l (k + 1)) (pCy l (k + 2)) := fun k => by
    have := h.left k _ (hm (k + 2))
    have := ht k
    omega
  refine ⟨fun k hk => ?_, fun j h0 hj => nodup_ne h.nodup hj hn (by omega)⟩
  have e0 : pCy l (k + l.length - 1 + 1) = pCy l k := by
    rw [show k + l.length - 1 + 1 = k + l.length by omega]
    exact (roomP l).per k
  have e1 : pCy l (k + l.length - 1 + 2) = pCy l (k + 1) := by
    rw [show k + l.length - 1 + 2 = k + 1 + l.length by omega]
    exact (roomP l).per (k + 1)
  have t1 := tp (k + l.length - 1)
  rw [e0, e1] at t1
  rw [← show pCy l k = pAt l k from pCy_lt hk]
  refine ⟨hm k, hm (k + 1), cy_ne h.nodup (by omega) (by omega), fun q hq => ⟨h.left k q hq, fun h0 => ?_⟩⟩
  refine on_seg t1 (tp k) ?_ ?_ h0
  · have := h.left (k + l.length - 1) q hq
    rwa [e0] at this
  · exact h.left (k + 1) q hq
theorem lt1 {a b : Pt} : Lt 1 a b ↔ a.2 < b.2 ∨ (a.2 = b.2 ∧ a.1 < b.1) := by
  rw [← pLess_iff]
  unfold pLess
  exact decide_eq_true_iff
theorem EdgeL.low {Q : Pt → Prop} {l : List Pt} (h : EdgeL Q l) (h3 : 3 ≤ l.length) {s : Nat} (hs : s < l.length) (hmin : ∀ j, j < l.length → ¬ Lt 1 (pAt l j) (pAt l s)) : ∀ q, Q q → ¬ Lt 1 q (pAt l s) := fun q hq hlt => by
  have hn : 0 < l.length := by omega
  have e0 : pCy l (s + l.length - 1 + 1) = pAt l s := by
    rw [show s + l.length - 1 + 1 = s + l.length by omega]
    exact ((roomP l).per s).trans (v_lt hs)
  have t := h.turn h3 (s + l.length - 1)
  have a := ((h.at hn (s + l.length - 1)).2.2.2 q hq).1
  have b := ((h.at hn (s + l.length - 1 + 1)).2.2.2 q hq).1
  rw [show s + l.length - 1 + 1 + 1 = s + l.length - 1 + 2 by omega] at b
  rw [e0] at t a b
  have lz := hmin _ (Nat.mod_lt (s + l.length - 1) hn)
  have ly := hmin _ (Nat.mod_lt (s + l.length - 1 + 2) hn)
  have lz : ¬ Lt 1 (pCy l (s + l.length - 1)) (pAt l s) := lz
  have ly : ¬ Lt 1 (pCy l (s + l.length - 1 + 2)) (pAt l s) := ly
  generalize pCy l (s + l.length - 1) = z at *
  generalize pCy l (s + l.length - 1 + 2) = y at *
  generalize pAt l s = c at *
  rw [lt1] at hlt
  rw [lt1] at lz
  rw [lt1] at ly
  have i1 : turnZ z c y * (q.1 - c.1) = turnZ c y q * (z.1 - c.1) + turnZ z c q * (y.1 - c.1) := by unfold turnZ; grind
  have i2 : turnZ z c y * (q.2 - c.2) = turnZ c y q * (z.2 - c.2) + turnZ z c q * (y.2 - c.2) := by unfold turnZ; grind
  have nz : 0 ≤ z.2 - c.2 := by omega
  have ny : 0 ≤ y.2 - c.2 := by omega
  have p1 := nn0 b nz
  have p2 := nn0 a ny
  have q2 : q.2 - c.2 = 0 := by
    rcases (show q.2 - c.2 = 0 ∨ q.2 - c.2 < 0 by omega) with g | g
    · exact g
    · have := pm t g; omega
  have q1 : q.1 - c.1 < 0 := by omega
  rw [q2, Int.mul_zero] at i2
  have z0 : turnZ c y q * (z.2 - c.2) = 0 := by omega
  have y0 : turnZ z c q * (y.2 - c.2) = 0 := by omega
  have s1 : 0 ≤ turnZ c y q * (z.1 - c.1) := by
    rcases Int.mul_eq_zero.1 z0 with g | g
    · rw [g, Int.zero_mul]; exact Int.le_refl _
    · exact nn0 b (by omega)
  have s2 : 0 ≤ turnZ z c q * (y.1 - c.1) := by
    rcases Int.mul_eq_zero.1 y0 with g | g
    · rw [g, Int.zero_mul]; exact Int.le_refl _
    · exact nn0 a (by omega)
  have := pm t q1
  omega
theorem rot_cy {l : List Pt} {s : Nat} (hs : s < l.length) (k : Nat) : pCy (rot l s) k = pCy l (s + k) := by
  have hn : 0 < l.length := by omega
  show pAt (rot l s) (k % (rot l s).length) = _
  rw [rot_len, rot_get hs (Nat.mod_lt _ hn)]
  show l.getD ((s + k % l.length) % l.length) (0, 0) = l.getD ((s + k) % l.length) (0, 0)
  rw [Nat.add_mod_mod]
theorem rot_poly {l : List Pt} {s : Nat} (hs : s < l.length) : roomP (rot l s) = (roomP l).rot s := Poly.ext' (rot_len l s) fun j => rot_cy hs j
theorem EdgeL.rot {Q : Pt → Prop} {l : List Pt} (h : EdgeL Q l) {s : Nat} (hs : s < l.length) : EdgeL Q (rot l s) := by
  have hn : 0 < l.length := by omega
  refine ⟨fun k hk => ?_, fun j h0 hj => ?_⟩
  · rw [rot_len] at hk
    rw [rot_cy hs, rot_get hs hk]
    exact h.at hn (s + k)
  · rw [rot_len] at hj
    rw [rot_get hs hj, rot_get hs hn]
    exact (h.cyne hn h0 hj).symm
theorem hull_of {xs : List Pt} (d : HullD xs) {l : List Pt} (h : EdgeL (· ∈ xs) l) (h3 : 3 ≤ l.length) : ∃ s, s < l.length ∧ rot l s = hullM xs := by
  obtain ⟨s, hs, -, hmin⟩ := lowTo_spec l l.length (by omega)
  refine ⟨s, hs, (h.rot hs).uniq d.edges (by rw [rot_len]; omega) (by have := d.len; omega) ?_⟩
  have e0 : pAt (rot l s) 0 = pAt l s := (rot_get hs (by omega)).trans (by rw [Nat.add_zero]; exact pCy_lt hs)
  rw [e0]
  have a := h.low h3 hs hmin _ (d.edges.edge 0 (by have := d.len; omega)).1
  have b := d.low _ (h.edge s hs).1
  rcases lt_total (.inl rfl) (pAt l s) (pAt (hullM xs) 0) with g | g | g
  · exact g
  · exact absurd g b
  · exact absurd g a
theorem wl_area {xs : List Pt} (hr : roomOk xs = true) {l : List Pt} (h : WL (· ∈ xs) l) : (roomP (hullM xs)).area = (roomP l).area := by
  obtain ⟨l', h', ha, ht⟩ := straight l.length l rfl h
  obtain ⟨s, hs, e⟩ := hull_of (room_hull_d hr) (h'.edges ht) h'.len3
  rw [← e, rot_poly hs, area_rot, ha]
theorem hull_area {xs : List Pt} (hr : roomOk xs = true) : (roomP xs).area ≤ (roomP (hullM xs)).area ∧ (¬ WC (roomP xs) → (roomP xs).area < (roomP (hullM xs)).area) := by
  have hn := room_pos hr
  have hA := (room_area hr).2.1
  have hv : ∀ j, (roomP xs).v j ∈ xs := fun j => pAt_mem (Nat.mod_lt _ hn)
  obtain ⟨C, hC⟩ := around _ (roomP xs) rfl (room_simple hr) hA fun j => List.all_eq_true.1 (roomOk_iff.1 hr).2.1 _ (hv j)
  have h3 := hC.sim.n3
  obtain ⟨L, hL⟩ : ∃ L : List Pt, L = (List.range C.n).map C.v := ⟨_, rfl⟩
  have hLn : L.length = C.n := by rw [hL]; simp
  have hLv : ∀ j, pCy L j = C.v j := fun j => by
    show L.getD (j % L.length) (0, 0) = _
    have hj : j % C.n < C.n := Nat.mod_lt _ (by omega)
    rw [getD_lt _ (Nat.mod_lt _ (by omega))]
    simp only [hL, List.getElem_map, List.getElem_range, List.length_map, List.length_range]
    exact C.per_mod j
  have eP : roomP L = C := Poly.ext' hLn hLv
  have hW : WL (· ∈ xs) L := by
    refine ⟨?_, fun q hq => ?_, fun k q hq => ?_, by rw [eP]; have := hC.le; omega⟩
    · rw [hL]
      refine List.pairwise_iff_getElem.2 fun i j hi hj hij => ?_
      simp only [List.length_map, List.length_range] at hi hj
      simp only [List.getElem_map, List.getElem_range]
      exact hC.sim.inj hi hj (by omega)
    · rw [hL] at hq
      obtain ⟨j, -, rfl⟩ := List.mem_map.1 hq
      obtain ⟨k, e⟩ := hC.mem j
      rw [e]; exact hv k
    · rw [hLv, hLv]
      obtain ⟨j, hj, rfl⟩ := List.getElem_of_mem hq
      have := hC.left k j
      rwa [v_lt hj, show pAt xs j = xs[j] from getD_lt _ hj] at this
  have e := wl_area hr hW
  rw [eP] at e
  rw [e]
  exact ⟨hC.le, hC.lt⟩
theorem wc_iff {xs : List Pt} (hr : roomOk xs = true) : WC (roomP xs) ↔ ∀ j, 0 < turnZ ((roomP xs).v j) ((roomP xs).v (j + 1)) ((roomP xs).v (j + 2)) := by
  constructor
  · intro h j
    have := h j (j + 2)
    have := room_turns hr j
    omega
  · intro h j k
    exact conv_all hr h j k
theorem conv_hull {xs : List Pt} (hr : roomOk xs = true) (h : WC (roomP xs)) : ∃ s, s < xs.length ∧ rot xs s = hullM xs := by
  have hl := room_len hr
  have hW : WL (· ∈ xs) xs := by
    refine ⟨?_, fun q hq => hq, fun k q hq => ?_, (room_area hr).2.1⟩
    · refine List.pairwise_iff_getElem.2 fun i j hi hj hij e => ?_
      rw [← getD_lt (0, 0) hi, ← getD_lt (0, 0) hj] at e
      have := room_inj hr hi hj e
      omega
    · obtain ⟨j, hj, rfl⟩ := List.getElem_of_mem hq
      have := h k j
      rwa [v_lt hj, show pAt xs j = xs[j] from getD_lt _ hj] at this
  exact hull_of (room_hull_d hr) (hW.edges (room_turns hr)) hl.1
theorem hull_area_iff {xs : List Pt} (hr : roomOk xs = true) : (roomP (hullM xs)).area = (roomP xs).area ↔ WC (roomP xs) := by
  constructor
  · intro e
    by_cases h : WC (roomP xs)
    · exact h
    · have := (hull_area hr).2 h; omega
  · intro h
    obtain ⟨s, hs, e⟩ := conv_hull hr h
    rw [← e, rot_poly hs, area_rot]
theorem cix_cy {xs : List Pt} (hr : roomOk xs = true) (k : Nat) : cix xs (pCy xs k) = (k % xs.length : Nat) := by
  have hk : k % xs.length < xs.length := Nat.mod_lt _ (room_pos hr)
  obtain ⟨i, hi, e, hp⟩ := cix_mem (xs := xs) (p := pCy xs k) (pAt_mem hk)
  rw [e, room_inj hr hi hk hp]
theorem pock_zero {xs hs : List Pt} : ∀ {k : Nat}, pockTo xs hs k = 0 → ∀ j, j < k → neighZ xs.length (cix xs (pAt hs j)) (cix xs (pCy hs (j + 1))) = true
  | 0, _, j, h => by omega
  | k + 1, h0, j, hj => by
    have hb := pock_bd xs hs k
    unfold pockTo at h0
    split at h0
    · rename_i g
      rcases (show j = k ∨ j < k by omega) with e | e
      · subst e; exact g
      · exact pock_zero h0 j e
    · omega
theorem pock_none {xs hs : List Pt} : ∀ {k : Nat}, (∀ j, j < k → neighZ xs.length (cix xs (pAt hs j)) (cix xs (pCy hs (j + 1))) = true) → pockTo xs hs k = 0
  | 0, _ => rfl
  | k + 1, h => by
    unfold pockTo
    rw [if_pos (h k (by omega))]
    exact pock_none fun j hj => h j (by omega)
theorem pockets_iff {xs : List Pt} (hr : roomOk xs = true) : pockM xs = 0 ↔ WC (roomP xs) := by
  have d := room_hull_d hr
  have hn := room_pos hr
  have hL : 0 < (hullM xs).length := by have := d.len; omega
  rw [pock_yes hr]
  constructor
  · intro h0
    have hz := pock_zero h0
    have wall : ∀ k, ∃ i, pCy (hullM xs) k = pCy xs i ∧ pCy (hullM xs) (k + 1) = pCy xs (i + 1) := fun k => by
      obtain ⟨e1, e2⟩ := cy_at hL k
      have hk : k % (hullM xs).length < (hullM xs).length := Nat.mod_lt _ hL
      have g := hz _ hk
      rw [hull_forth hr hk] at g
      have g := of_decide_eq_true g
      rw [e1, ← e2]
      obtain ⟨ha, hb, -, -⟩ := hull_edge hn (roomOk_iff.1 hr).2.1 hk
      obtain ⟨i, hi, ei, pi⟩ := cix_mem ha
      obtain ⟨j, hj, ej, pj⟩ := cix_mem hb
      rw [ei, ej, tm1] at g
      have g : (i + 1) % xs.length = j := by omega
      refine ⟨i, by rw [← pi]; exact (pCy_lt hi).symm, ?_⟩
      rw [← pj]
      show xs.getD j (0, 0) = xs.getD ((i + 1) % xs.length) (0, 0)
      rw [g]
    obtain ⟨i0, h0, -⟩ := wall 0
    have step : ∀ t, pCy (hullM xs) t = pCy xs (i0 + t) := fun t => by
      induction t with
      | zero => exact h0
      | succ t ih =>
        obtain ⟨i, a, b⟩ := wall t
        rw [b]
        have e := ih.symm.trans a
        have : (i0 + t) % xs.length = i % xs.length := room_inj hr (Nat.mod_lt _ hn) (Nat.mod_lt _ hn) e
        show xs.getD ((i + 1) % xs.length) (0, 0) = xs.getD ((i0 + (t + 1)) % xs.length) (0, 0)
        rw [show i0 + (t + 1) = i0 + t + 1 by omega, ← Nat.mod_add_mod, ← this, Nat.mod_add_mod]
    refine (wc_iff hr).2 fun j => ?_
    have hle : i0 ≤ xs.length * i0 := Nat.le_mul_of_pos_left _ hn
    have ej : ∀ c, pCy (hullM xs) (j + xs.length * i0 - i0 + c) = (roomP xs).v (j + c) := fun c => by
      rw [step, show i0 + (j + xs.length * i0 - i0 + c) = j + c + xs.length * i0 by omega]
      exact (roomP xs).per_mul (j + c) i0
    have t := d.edges.turn d.len (j + xs.length * i0 - i0)
    have e0 := ej 0
    rw [Nat.add_zero, Nat.add_zero] at e0
    rw [e0, ej 1, ej 2] at t
    exact t
  · intro h
    obtain ⟨s, hs, e⟩ := conv_hull hr h
    refine pock_none fun j hj => ?_
    rw [← e, rot_cy hs]
    rw [← e, rot_len] at hj
    rw [rot_get hs hj, cix_cy hr, cix_cy hr]
    unfold neighZ
    rw [tm1, Nat.mod_add_mod, Bool.or_eq_true]
    left
    exact decide_eq_true rfl
end Go.Proofs.Ytnepfcnlngpchaa.Geo
