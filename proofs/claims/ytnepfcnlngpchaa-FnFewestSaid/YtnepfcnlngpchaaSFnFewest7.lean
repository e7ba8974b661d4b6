/- What the proof of 'FnFewest' needs, part 7: conditions and steps of the functions that it reaches, and the mathematics. -/
import Derived.Test.YtnepfcnlngpchaaRows
import Derived.WalkKit
import Derived.WalkSpells
import Derived.Below
import Derived.Orders
import Derived.Maps.AppendAt
import Derived.Laws.StructEq
import Derived.WideShapes
import Derived.ChangeSlices
import Derived.Deep.Strs
import Derived.ChangeOld
import Derived.Shelf.SlLaysF0
import Derived.Shelf.SlSortCmp.InsertionK
import Derived.Shelf.SlSortCmp.SmallK
import Derived.Shelf.SlSortCmp.Xorshift
import Derived.Sort.LotA
import Derived.Test.YtnepfcnlngpchaaSFnFewest6
set_option linter.unusedSimpArgs false
set_option linter.unusedVariables false
namespace Go.Proofs.Ytnepfcnlngpchaa
open Go.RowKit Go.Proofs.Ytnepfcnlngpchaa.Nm
set_option maxRecDepth 10000
abbrev Cur := List Int × Int × Int
def curL (c : Cur) : List D := [.sl none (.b .u8) c.1, .int .i64 c.2.1, .int .i64 c.2.2]
structure curOk (c : Cur) : Prop where
  len : c.1.length ≤ 1048576
  lo : 0 ≤ c.2.1
  hi : c.2.1 ≤ 1048576
def newH (bs : List Int) : Nat → Int
  | 0 => W (99143 + (bs.length : Int))
  | i + 1 => bitI .and .i64 (W (W (W (newH bs i * 131) + W (bs.getD i 0)) + 7)) 1073741823
def newC (bs : List Int) : Cur := (bs, 0, newH bs (min bs.length 4000))
def byteH (c : Cur) : Int := W (c.2.2 * 6364136223846793005 + 1442695040888963407)
def byte0 (c : Cur) : Int := bitI .and .i64 (bitI .xor .i64 (bitI .shr .i64 (byteH c) 33) (bitI .shr .i64 (byteH c) 45)) 255
def byteX (c : Cur) : Int := if c.2.1 < (c.1.length : Int) then bitI .and .i64 (W (byte0 c + W (c.1.getD c.2.1.toNat 0))) 255 else byte0 c
def byteC (c : Cur) : Cur := (c.1, if c.2.1 < (c.1.length : Int) then c.2.1 + 1 else c.2.1, byteH c)
theorem and255 (x : Int) : 0 ≤ bitI .and .i64 x 255 ∧ bitI .and .i64 x 255 ≤ 255 := by
  have h : (BitVec.ofInt IntKind.i64.bits x &&& BitVec.ofInt IntKind.i64.bits 255).toNat ≤ 255 := by
    rw [BitVec.toNat_and]
    exact Nat.le_trans Nat.and_le_right (by decide)
  have e : bitI .and .i64 x 255 = (((BitVec.ofInt IntKind.i64.bits x &&& BitVec.ofInt IntKind.i64.bits 255).toNat : Nat) : Int) := W_in (by omega) (by omega)
  rw [e]
  omega
theorem byteX_bd (c : Cur) : 0 ≤ byteX c ∧ byteX c ≤ 255 := by
  unfold byteX
  split
  · exact and255 _
  · exact and255 _
theorem byteC_ok {c : Cur} (h : curOk c) : curOk (byteC c) := by
  obtain ⟨h1, h2, h3⟩ := h
  refine ⟨h1, ?_, ?_⟩ <;> (unfold byteC; simp only; split <;> omega)
def belowX (c : Cur) (n : Int) : Int :=
  if n ≤ 0 then 0 else if n ≤ 256 then (byteX c).tmod n
  else (byteX c * 16777216 + byteX (byteC c) * 65536 + byteX (byteC (byteC c)) * 256 + byteX (byteC (byteC (byteC c)))).tmod n
def belowC (c : Cur) (n : Int) : Cur := if n ≤ 0 then c else if n ≤ 256 then byteC c else byteC (byteC (byteC (byteC c)))
theorem below_bd {c : Cur} {n : Int} (h : 0 < n) : 0 ≤ belowX c n ∧ belowX c n < n := by
  unfold belowX
  have h1 := byteX_bd c
  have h2 := byteX_bd (byteC c)
  have h3 := byteX_bd (byteC (byteC c))
  have h4 := byteX_bd (byteC (byteC (byteC c)))
  rw [if_neg (by omega)]
  split
  · exact ⟨Int.tmod_nonneg _ h1.1, Int.tmod_lt_of_pos _ h⟩
  · exact ⟨Int.tmod_nonneg _ (by omega), Int.tmod_lt_of_pos _ h⟩
theorem belowC_ok {c : Cur} {n : Int} (h : curOk c) : curOk (belowC c n) := by
  unfold belowC
  split
  · exact h
  · split
    · exact byteC_ok h
    · exact byteC_ok (byteC_ok (byteC_ok (byteC_ok h)))
theorem newC_ok {bs : List Int} (h : bs.length ≤ 1048576) : curOk (newC bs) := ⟨h, Int.le_refl 0, show (0 : Int) ≤ 1048576 by decide⟩
def l01NewC : ConD := mkConN [.sl (.b .u8)] t_spec_l01Cur (fun x => x.1.length ≤ 1048576) fun x => curL (newC x.1)
set_option maxRecDepth 200000 in
theorem l01New_ok : GoodD Try.prog n_spec_l01New l01NewC := by
  refine good_ofN (tys := tyL) (env := []) (envw := []) (envd := []) [31] [] [] [] [] mixed tys trivial trivial trivial Try.func62 rfl (by kernel_rfl) (by decide) (by kernel_rfl) ?_
  have hG_ := kpz [(0, [0]), (1, [0, 3]), (2, [0, 3, 4]), (3, [0, 3, 4, 15]), (4, [0, 3, 4]), (5, [0, 3, 4]), (6, [2])] [] [] []
  rintro ⟨(bs : List Int), ⟨⟩⟩ (h1 : bs.length ≤ _)
  (repeat' (first | (with_reducible first | exact True.intro | refine zQ ?_ | (refine zG hG_ ?_; intro K_ hK_) | (refine zR ?_; intro K_ hK_) | (refine hK_ _ _ ?_; try clear hK_ K_) | refine sq_n ?_ | refine sq_r ?_ | refine sq_e ?_ | refine bq_n ?_ | refine bq_r ?_ | refine bq_q ?_ | refine zB ?_ | refine zX ?_ | refine zT ?_ | refine zK ?_ | refine gq_n ?_ | refine gq_r ?_ | refine gq_e ?_ | refine lq_n ?_ | refine lq_r ?_ | refine lq_e ?_ | refine bq_e (by decide) ?_) | ((with_reducible refine zC (b := ?b_) ?hb_ ?_ ?_); case hb_ => rfl) | ((conv => whnf); first | (with_reducible refine hK_ _ _ ?_; try clear hK_ K_) | (with_reducible refine fun (g_ : Sl) (o_ : Ow) => ?_) | (with_reducible first | exact True.intro | refine And.intro trivial ?_ | refine And.intro ?_ ?_) | exact Nat.le_of_ble_eq_true rfl | exact Or.inl rfl | (intro h_; cases h_) | (intro h_; (try simp only [vS1] at h_)) | rfl))) <;> (try (conv => whnf)) <;> (try first | change (_ : Int) ≤ _ | change (_ : Nat) ≤ _) <;> (try ((fail_if_success (with_reducible apply Exists.intro)); (try dsimp only); (try simp only [vS1])))
  refine awp'_loopG (α := Nat) (fun i ver_ => [(3, vInt (newH bs i)), (4, vInt i)]) (fun i ver_ => []) (fun i ver_ => []) (fun i => i ≤ bs.length ∧ i ≤ 4000) (fun i => bs.length - i) [0] [] (0) ?_
  conv => whnf
  refine ⟨⟨?inv1_, ?vals1_, ?own1_, ?fix1_⟩, ?body1_⟩
  case' vals1_ => (repeat' (first | (with_reducible first | exact True.intro | refine And.intro ?_ ?_ | refine Head.mk ?_ ?_ ?_ ?_) | ((conv => lhs; whnf); first | (with_reducible first | rfl | exact vInt_s (by omega)) | exact rfl) | ((conv => whnf); first | (with_reducible first | exact True.intro | refine And.intro ?_ ?_)))) <;> (try (conv => lhs; whnf))
  case' own1_ => (repeat' (first | (with_reducible first | exact True.intro | refine And.intro ?_ ?_ | refine Head.mk ?_ ?_ ?_ ?_) | ((conv => lhs; whnf); first | (with_reducible first | rfl | exact vInt_s (by omega)) | exact rfl) | ((conv => whnf); first | (with_reducible first | exact True.intro | refine And.intro ?_ ?_)))) <;> (try (conv => lhs; whnf))
  case' fix1_ => (repeat' (first | (with_reducible first | exact True.intro | refine And.intro ?_ ?_ | refine Head.mk ?_ ?_ ?_ ?_) | ((conv => lhs; whnf); first | (with_reducible first | rfl | exact vInt_s (by omega)) | exact rfl) | ((conv => whnf); first | (with_reducible first | exact True.intro | refine And.intro ?_ ?_)))) <;> (try (conv => lhs; whnf))
  · exact ⟨Nat.zero_le _, Nat.zero_le _⟩
  rintro i g_ o_ v_ ⟨hi, hi2⟩
  have hG_ := kpz [(0, [0]), (1, [0, 3]), (2, [0, 3, 4]), (3, [0, 3, 4, 15]), (4, [0, 3, 4]), (5, [0, 3, 4]), (6, [2])] [(6, [31])] [] []
  (repeat' (first | (with_reducible first | exact True.intro | refine zQ ?_ | (refine zG hG_ ?_; intro K_ hK_) | (refine zR ?_; intro K_ hK_) | (refine hK_ _ _ ?_; try clear hK_ K_) | refine sq_n ?_ | refine sq_r ?_ | refine sq_e ?_ | refine bq_n ?_ | refine bq_r ?_ | refine bq_q ?_ | refine zB ?_ | refine zX ?_ | refine zT ?_ | refine zK ?_ | refine gq_n ?_ | refine gq_r ?_ | refine gq_e ?_ | refine lq_n ?_ | refine lq_r ?_ | refine lq_e ?_ | refine bq_e (by decide) ?_) | ((with_reducible refine zC (b := ?b_) ?hb_ ?_ ?_); case hb_ => rfl) | ((conv => whnf); first | (with_reducible refine hK_ _ _ ?_; try clear hK_ K_) | (with_reducible refine fun (g_ : Sl) (o_ : Ow) => ?_) | (with_reducible first | exact True.intro | refine And.intro trivial ?_ | refine And.intro ?_ ?_) | exact Nat.le_of_ble_eq_true rfl | exact Or.inl rfl | (intro h_; cases h_) | (intro h_; (try simp only [vS1] at h_)) | rfl))) <;> (try (conv => whnf)) <;> (try first | change (_ : Int) ≤ _ | change (_ : Nat) ≤ _) <;> (try ((fail_if_success (with_reducible apply Exists.intro)); (try dsimp only); (try simp only [vS1])))
  all_goals (try (fail_if_success (with_reducible apply Exists.intro)); first | with_reducible assumption | omega | exact mdl (by omega) | exact ilo1 (by omega) | exact ilo2 (by omega) | exact ihi1 (by omega) (by omega) | exact ihi2 (by omega) (by omega))
  · refine ⟨i + 1, by omega, by omega, ?_⟩
    (repeat' (first | (with_reducible first | exact True.intro | refine And.intro ?_ ?_ | refine Head.mk ?_ ?_ ?_ ?_) | ((conv => lhs; whnf); first | (with_reducible first | rfl | exact vInt_s (by omega)) | exact rfl) | ((conv => whnf); first | (with_reducible first | exact True.intro | refine And.intro ?_ ?_)))) <;> (try (conv => lhs; whnf))
  · show dOf _ = some _
    unfold curL newC
    rw [show min bs.length 4000 = i by omega]; rfl
  · show dOf _ = some _
    unfold curL newC
    rw [show min bs.length 4000 = i by omega]; rfl
def l01ByteC : ConD := mkConB [.cur] 0 t_spec_l01Cur (fun x => curOk x.1) (fun x => vInt (byteX x.1)) fun x => curL (byteC x.1)
theorem l01Byte_ok : GoodD Try.prog n_spec_l01Byte l01ByteC := by
  refine good_ofB (tys := tyL) (env := []) (envw := []) (envd := []) [1000] [] [] [] [] mixed tys trivial trivial trivial Try.func116 rfl (by kernel_rfl) ⟨by decide, rfl⟩ (by kernel_rfl) ?_
  have hG_ := kpz [(0, [0]), (1, [0]), (2, [0, 3]), (3, [0, 3, 34]), (4, [0, 3]), (5, [3]), (6, [2])] [(0, [1000]), (1, [1000]), (2, [1000]), (3, [1000]), (4, [1000]), (5, [1000]), (6, [1000])] [] []
  rintro ⟨⟨(bs : List Int), (i : Int), (h : Int)⟩, ⟨⟩⟩ ⟨(h1 : bs.length ≤ _), (h2 : 0 ≤ i), (h3 : i ≤ _)⟩
  (repeat' (first | (with_reducible first | exact True.intro | refine zQ ?_ | (refine zG hG_ ?_; intro K_ hK_) | (refine zR ?_; intro K_ hK_) | (refine hK_ _ _ ?_; try clear hK_ K_) | refine sq_n ?_ | refine sq_r ?_ | refine sq_e ?_ | refine bq_n ?_ | refine bq_r ?_ | refine bq_q ?_ | refine zB ?_ | refine zX ?_ | refine zT ?_ | refine zK ?_ | refine gq_n ?_ | refine gq_r ?_ | refine gq_e ?_ | refine lq_n ?_ | refine lq_r ?_ | refine lq_e ?_ | refine bq_e (by decide) ?_) | ((with_reducible refine zC (b := ?b_) ?hb_ ?_ ?_); case hb_ => rfl) | ((conv => whnf); first | (with_reducible refine hK_ _ _ ?_; try clear hK_ K_) | (with_reducible refine fun (g_ : Sl) (o_ : Ow) => ?_) | (with_reducible first | exact True.intro | refine And.intro trivial ?_ | refine And.intro ?_ ?_) | exact Nat.le_of_ble_eq_true rfl | exact Or.inl rfl | (intro h_; cases h_) | (intro h_; (try simp only [vS1] at h_)) | rfl))) <;> (try (conv => whnf)) <;> (try first | change (_ : Int) ≤ _ | change (_ : Nat) ≤ _) <;> (try ((fail_if_success (with_reducible apply Exists.intro)); (try dsimp only); (try simp only [vS1])))
  all_goals (try (fail_if_success (with_reducible apply Exists.intro)); first | with_reducible assumption | omega | exact mdl (by omega) | exact ilo1 (by omega) | exact ilo2 (by omega) | exact ihi1 (by omega) (by omega) | exact ihi2 (by omega) (by omega))
  · show dOf _ = some _
    unfold curL byteC byteH
    simp only [W_l1, if_pos h_, W_in (show -9223372036854775808 ≤ i + 1 by omega) (show i + 1 ≤ 9223372036854775807 by omega)]; rfl
  · unfold byteX byte0 byteH
    simp only [W_l1, if_pos h_]
  · show dOf _ = some _
    unfold curL byteC byteH
    simp only [W_l1, if_neg h_]; rfl
  · unfold byteX byte0 byteH
    simp only [W_l1, if_neg h_]
def l01BelowC : ConD := mkConB [.cur, .int] 0 t_spec_l01Cur (fun x => curOk x.1) (fun x => vInt (belowX x.1 x.2.1)) fun x => curL (belowC x.1 x.2.1)
theorem l01Below_ok : GoodD Try.prog n_spec_l01Below l01BelowC := by
  refine good_ofB (tys := tyL) (env := []) (envw := []) (envd := [(n_spec_l01Byte, l01ByteC)]) [14, 18, 20, 22, 24, 1000] [14, 18, 20, 22, 24, 1000] [] [] [14, 18, 20, 22, 24] mixed tys trivial trivial ⟨l01Byte_ok, trivial⟩ Try.func77 rfl (by kernel_rfl) ⟨by decide, rfl⟩ (by kernel_rfl) ?_
  have hG_ := kpz [(0, [0, 1]), (1, [0, 1, 10]), (2, [4]), (3, [0, 1, 12]), (4, [4]), (5, [0, 1, 5]), (6, [0, 1, 5, 6]), (7, [0, 1, 5, 6, 7]), (8, [1, 5, 6, 7, 8]), (9, [4])] [(0, [1000]), (1, [1000]), (2, [1000]), (3, [1000]), (4, [1000]), (5, [1000]), (6, [1000]), (7, [1000]), (8, [1000]), (9, [1000])] [] []
  rintro ⟨⟨(bs : List Int), (i : Int), (h : Int)⟩, (n : Int), ⟨⟩⟩ (hc : curOk (bs, i, h))
  have h1 := byteC_ok hc
  have h2 := byteC_ok h1
  have h3 := byteC_ok h2
  have b0 := byteX_bd (bs, i, h)
  have b1 := byteX_bd (byteC (bs, i, h))
  have b2 := byteX_bd (byteC (byteC (bs, i, h)))
  have b3 := byteX_bd (byteC (byteC (byteC (bs, i, h))))
  (repeat' (first | (with_reducible first | exact True.intro | refine zQ ?_ | (refine zG hG_ ?_; intro K_ hK_) | (refine zR ?_; intro K_ hK_) | (refine hK_ _ _ ?_; try clear hK_ K_) | refine sq_n ?_ | refine sq_r ?_ | refine sq_e ?_ | refine bq_n ?_ | refine bq_r ?_ | refine bq_q ?_ | refine zB ?_ | refine zX ?_ | refine zT ?_ | refine zK ?_ | refine gq_n ?_ | refine gq_r ?_ | refine gq_e ?_ | refine lq_n ?_ | refine lq_r ?_ | refine lq_e ?_ | refine bq_e (by decide) ?_) | ((with_reducible refine zC (b := ?b_) ?hb_ ?_ ?_); case hb_ => rfl) | ((conv => whnf); first | (with_reducible refine hK_ _ _ ?_; try clear hK_ K_) | (with_reducible refine fun (g_ : Sl) (o_ : Ow) => ?_) | (with_reducible first | exact True.intro | refine And.intro trivial ?_ | refine And.intro ?_ ?_) | exact Nat.le_of_ble_eq_true rfl | exact Or.inl rfl | (intro h_; cases h_) | (intro h_; (try simp only [vS1] at h_)) | rfl))) <;> (try (conv => whnf)) <;> (try first | change (_ : Int) ≤ _ | change (_ : Nat) ≤ _) <;> (try ((fail_if_success (with_reducible apply Exists.intro)); (try dsimp only); (try simp only [vS1])))
  all_goals (try (fail_if_success (with_reducible apply Exists.intro)); first | with_reducible assumption | omega | exact mdl (by omega) | exact ilo1 (by omega) | exact ilo2 (by omega) | exact ihi1 (by omega) (by omega) | exact ihi2 (by omega) (by omega))
  · show dOf _ = some _
    unfold curL belowC
    simp only [if_pos h_]; rfl
  · unfold belowX
    simp only [if_pos h_]
  · exact ‹¬ Int.ofNat 0 ≤ 0› (by decide)
  · show dOf _ = some _
    unfold curL belowC
    simp only [if_neg ‹¬ n ≤ 0›, if_pos h_]; rfl
  · unfold belowX
    simp only [if_neg ‹¬ n ≤ 0›, if_pos h_]
  · exact ‹¬ Int.ofNat 0 ≤ 0› (by decide)
  · show dOf _ = some _
    unfold curL belowC
    simp only [if_neg ‹¬ n ≤ 0›, if_neg h_]; rfl
  · unfold belowX
    simp only [if_neg ‹¬ n ≤ 0›, if_neg h_, W_l1, W_l2]
    rw [W_in (by omega) (by omega)]
end Go.Proofs.Ytnepfcnlngpchaa
namespace Go.Proofs.Ytnepfcnlngpchaa
open Go.RowKit Go.Proofs.Ytnepfcnlngpchaa.Nm
set_option maxRecDepth 10000
set_option maxHeartbeats 2000000
theorem iFloorPoints_ok : Good1 Try.prog n_impl_FloorPoints floorTC := by
  refine good_ofG (tys := tyL) (env := [(n_impl_RoomOk, roomOkC), (n_impl_floor, floorC)]) (envw := []) (envd := []) [7] [] [] [] [] mixed tys ⟨iRoomOk_ok, floor_ok, trivial⟩ trivial trivial Try.func13 rfl (by kernel_rfl) (by decide) (by kernel_rfl) ?_
  have hG_ := kpz [(0, [1]), (1, [1, 5]), (2, [2]), (3, [2])] [(3, [7])] [] []
  rintro ⟨(xs : List Pt), ⟨⟩⟩ (h1 : xs.length ≤ _)
  (repeat' (first | (with_reducible first | exact True.intro | refine zQ ?_ | (refine zG hG_ ?_; intro K_ hK_) | (refine zR ?_; intro K_ hK_) | (refine hK_ _ _ ?_; try clear hK_ K_) | refine sq_n ?_ | refine sq_r ?_ | refine sq_e ?_ | refine bq_n ?_ | refine bq_r ?_ | refine bq_q ?_ | refine zB ?_ | refine zX ?_ | refine zT ?_ | refine zK ?_ | refine gq_n ?_ | refine gq_r ?_ | refine gq_e ?_ | refine lq_n ?_ | refine lq_r ?_ | refine lq_e ?_ | refine bq_e (by decide) ?_) | ((with_reducible refine zC (b := ?b_) ?hb_ ?_ ?_); case hb_ => rfl) | ((conv => whnf); first | (with_reducible refine hK_ _ _ ?_; try clear hK_ K_) | (with_reducible refine fun (g_ : Sl) (o_ : Ow) => ?_) | (with_reducible first | exact True.intro | refine And.intro trivial ?_ | refine And.intro ?_ ?_) | exact Nat.le_of_ble_eq_true rfl | exact Or.inl rfl | (intro h_; cases h_) | (intro h_; (try simp only [vS1] at h_)) | rfl))) <;> (try (conv => whnf)) <;> (try first | change (_ : Int) ≤ _ | change (_ : Nat) ≤ _) <;> (try ((fail_if_success (with_reducible apply Exists.intro)); (try dsimp only); (try simp only [vS1]))) <;> (try simp (disch := omega) only [vS3, Int.add_sub_cancel, tn1, tnp, tnc, vS2] at *)
  all_goals (try ((fail_if_success (with_reducible apply Exists.intro)); first | with_reducible assumption | omega))
  · unfold floorPts; rw [h_]; rfl
def bigC : Con := mkCon [.sl (.b .u8)] (fun _ => True) fun x => vB (decide ((x.1.length : Int) > 1048576))
theorem big_ok : Good1 Try.prog n_laws_big bigC := by
  refine good_ofG (tys := tyL) (env := []) (envw := []) (envd := []) [] [] [] [] [] mixed tys trivial trivial trivial Try.func11 rfl (by kernel_rfl) (by decide) (by kernel_rfl) ?_
  have hG_ := kpz [(0, [0]), (1, [2])] [] [] []
  rintro ⟨(bs : List Int), ⟨⟩⟩ -
  (repeat' (first | (with_reducible first | exact True.intro | refine zQ ?_ | (refine zG hG_ ?_; intro K_ hK_) | (refine zR ?_; intro K_ hK_) | (refine hK_ _ _ ?_; try clear hK_ K_) | refine sq_n ?_ | refine sq_r ?_ | refine sq_e ?_ | refine bq_n ?_ | refine bq_r ?_ | refine bq_q ?_ | refine zB ?_ | refine zX ?_ | refine zT ?_ | refine zK ?_ | refine gq_n ?_ | refine gq_r ?_ | refine gq_e ?_ | refine lq_n ?_ | refine lq_r ?_ | refine lq_e ?_ | refine bq_e (by decide) ?_) | ((with_reducible refine zC (b := ?b_) ?hb_ ?_ ?_); case hb_ => rfl) | ((conv => whnf); first | (with_reducible refine hK_ _ _ ?_; try clear hK_ K_) | (with_reducible refine fun (g_ : Sl) (o_ : Ow) => ?_) | (with_reducible first | exact True.intro | refine And.intro trivial ?_ | refine And.intro ?_ ?_) | exact Nat.le_of_ble_eq_true rfl | exact Or.inl rfl | (intro h_; cases h_) | (intro h_; (try simp only [vS1] at h_)) | rfl))) <;> (try (conv => whnf)) <;> (try first | change (_ : Int) ≤ _ | change (_ : Nat) ≤ _) <;> (try ((fail_if_success (with_reducible apply Exists.intro)); (try dsimp only); (try simp only [vS1])))
  all_goals (try ((fail_if_success (with_reducible apply Exists.intro)); first | with_reducible assumption | omega))
def atX (bs : List Int) (i : Int) : Int := if bs.length = 0 then 0 else W (bs.getD (Int.tmod (W (W (i * 5) + 1)) bs.length).toNat 0)
def atC : Con := mkCon [.sl (.b .u8), .int] (fun x => x.1.length ≤ 1048576 ∧ 0 ≤ x.2.1 ∧ x.2.1 ≤ 1000) fun x => vI (atX x.1 x.2.1)
theorem at_ok : Good1 Try.prog n_laws_at atC := by
  refine good_ofG (tys := tyL) (env := []) (envw := []) (envd := []) [] [] [] [] [] mixed tys trivial trivial trivial Try.func36 rfl (by kernel_rfl) (by decide) (by kernel_rfl) ?_
  have hG_ := kpz [(0, [0, 1]), (1, [0, 1, 7]), (2, [4]), (3, [4])] [] [] []
  rintro ⟨(bs : List Int), (i : Int), ⟨⟩⟩ ⟨(h1 : bs.length ≤ _), (h2 : 0 ≤ i), (h3 : i ≤ _)⟩
  have hx : 0 < bs.length → 0 ≤ Int.tmod (W (W (i * 5) + 1)) bs.length ∧ Int.tmod (W (W (i * 5) + 1)) bs.length + 1 ≤ bs.length := fun h => by
    unfold W
    rw [W_in (show -9223372036854775808 ≤ i * 5 by omega) (by omega), W_in (by omega) (by omega)]
    have := Int.tmod_nonneg (bs.length : Int) (show 0 ≤ i * 5 + 1 by omega)
    have := Int.tmod_lt_of_pos (i * 5 + 1) (show 0 < (bs.length : Int) by omega)
    omega
  unfold W at hx
  (repeat' (first | (with_reducible first | exact True.intro | refine zQ ?_ | (refine zG hG_ ?_; intro K_ hK_) | (refine zR ?_; intro K_ hK_) | (refine hK_ _ _ ?_; try clear hK_ K_) | refine sq_n ?_ | refine sq_r ?_ | refine sq_e ?_ | refine bq_n ?_ | refine bq_r ?_ | refine bq_q ?_ | refine zB ?_ | refine zX ?_ | refine zT ?_ | refine zK ?_ | refine gq_n ?_ | refine gq_r ?_ | refine gq_e ?_ | refine lq_n ?_ | refine lq_r ?_ | refine lq_e ?_ | refine bq_e (by decide) ?_) | ((with_reducible refine zC (b := ?b_) ?hb_ ?_ ?_); case hb_ => rfl) | ((conv => whnf); first | (with_reducible refine hK_ _ _ ?_; try clear hK_ K_) | (with_reducible refine fun (g_ : Sl) (o_ : Ow) => ?_) | (with_reducible first | exact True.intro | refine And.intro trivial ?_ | refine And.intro ?_ ?_) | exact Nat.le_of_ble_eq_true rfl | exact Or.inl rfl | (intro h_; cases h_) | (intro h_; (try simp only [vS1] at h_)) | rfl))) <;> (try (conv => whnf)) <;> (try first | change (_ : Int) ≤ _ | change (_ : Nat) ≤ _) <;> (try ((fail_if_success (with_reducible apply Exists.intro)); (try dsimp only); (try simp only [vS1])))
  all_goals (try ((fail_if_success (with_reducible apply Exists.intro)); first | with_reducible assumption | omega))
  · unfold atX
    have := eq_of_beq h_
    rw [if_pos (by omega)]
  · exact absurd ‹(bs.length : Int) = 0› (ne_of_beq_false ‹_›)
  · have := ne_of_beq_false h_
    exact (hx (by omega)).1
  · have := ne_of_beq_false h_
    exact (hx (by omega)).2
  · have := ne_of_beq_false h_
    unfold atX W
    rw [if_neg (by omega)]
end Go.Proofs.Ytnepfcnlngpchaa
namespace Go.Proofs.Ytnepfcnlngpchaa
open Go.RowKit Go.Proofs.Ytnepfcnlngpchaa.Nm
set_option maxRecDepth 10000
theorem corner_sees {xs : List Pt} {p : Pt} (hp : p ∈ floorPts xs) : ∃ k, k < xs.length ∧ seesS xs (pAt xs k) p = true := by
  obtain ⟨hr, hpt, hi⟩ := Geo.mem_floor.1 hp
  have hn := room_pos hr
  obtain ⟨j, hj⟩ := Geo.sees_corner (Geo.room_simple hr) (Geo.room_area hr).2.1 (p := p) fun o => hi ((Geo.out_iff hr (bd_of_ok hpt)).2 o)
  have hm : j % xs.length < xs.length := Nat.mod_lt _ hn
  refine ⟨j % xs.length, hm, ?_⟩
  rw [seesS_comm hr (Geo.corner_ok hr hm) hpt]
  exact (Geo.seesS_noout hr hpt (Geo.corner_ok hr hm) hi (Geo.corner_in hr hm)).2 hj
def Rise (n : Nat) : Nat → List Int → Prop
  | _, [] => True
  | a, x :: r => ∃ k : Nat, x = (k : Int) ∧ a ≤ k ∧ k < n ∧ Rise n (k + 1) r
theorem fsN_some {α : Type} {f : Nat → Option α} : ∀ {n a r}, fsN f n a = some r → ∃ k, a ≤ k ∧ k < a + n ∧ f k = some r
  | 0, a, r, h => by cases h
  | n + 1, a, r, h => by
    unfold fsN at h
    cases hf : f a with
    | some x => rw [hf] at h; exact ⟨a, Nat.le_refl _, by omega, by rw [hf]; exact h⟩
    | none =>
      rw [hf] at h
      obtain ⟨k, h1, h2, h3⟩ := fsN_some (n := n) (a := a + 1) h
      exact ⟨k, by omega, by omega, h3⟩
theorem fsR_some {α : Type} {f : Nat → Option α} {a b : Nat} {r : α} (h : fsR f a b = some r) : ∃ k, a ≤ k ∧ k < b ∧ f k = some r := by
  obtain ⟨k, h1, h2, h3⟩ := fsN_some h
  exact ⟨k, h1, by omega, h3⟩
theorem fsN_first {α : Type} {f : Nat → Option α} : ∀ {n a r}, fsN f n a = some r → ∃ k, a ≤ k ∧ k < a + n ∧ f k = some r ∧ ∀ j, a ≤ j → j < k → f j = none
  | 0, a, r, h => by cases h
  | n + 1, a, r, h => by
    unfold fsN at h
    cases hf : f a with
    | some x => rw [hf] at h; exact ⟨a, Nat.le_refl _, by omega, by rw [hf]; exact h, fun j h1 h2 => by omega⟩
    | none =>
      rw [hf] at h
      obtain ⟨k, h1, h2, h3, h4⟩ := fsN_first (n := n) (a := a + 1) h
      refine ⟨k, by omega, by omega, h3, fun j g1 g2 => ?_⟩
      rcases (show j = a ∨ a + 1 ≤ j by omega) with e | e
      · rw [e]; exact hf
      · exact h4 j e g2
theorem ch_some (M : Msk) : ∀ m l a r, chM M m l a = some r → ∃ l', r = l ++ l' ∧ l'.length = m ∧ Rise M.length a l' ∧ covM M r = true
  | 0, l, a, r, h => by
    rw [chM] at h
    split at h
    · rename_i hc
      injection h with h
      exact ⟨[], by rw [← h]; simp, rfl, trivial, by rw [← h]; exact hc⟩
    · cases h
  | m + 1, l, a, r, h => by
    rw [chM] at h
    obtain ⟨k, h1, h2, h3⟩ := fsR_some h
    obtain ⟨l', e, hl, hr, hc⟩ := ch_some M m _ _ r h3
    exact ⟨(k : Int) :: l', by rw [e]; simp, by simp [hl], ⟨k, rfl, h1, h2, hr⟩, hc⟩
theorem fsR_ne {α : Type} {f : Nat → Option α} {a b k : Nat} (h1 : a ≤ k) (h2 : k < b) (h : f k ≠ none) : fsR f a b ≠ none := fun e => h (fsR_none e h1 h2)
theorem ch_find (M : Msk) : ∀ l' l a, Rise M.length a l' → covM M (l ++ l') = true → chM M l'.length l a ≠ none
  | [], l, a, _, hc => by
    rw [List.append_nil] at hc
    show chM M 0 l a ≠ none
    rw [chM, if_pos hc]; simp
  | x :: r, l, a, ⟨k, e, h1, h2, h3⟩, hc => by
    show chM M (r.length + 1) l a ≠ none
    rw [chM]
    refine fsR_ne h1 h2 ?_
    subst e
    exact ch_find M r _ _ h3 (by simpa using hc)
theorem Rise.mem {n : Nat} : ∀ {a : Nat} {l : List Int}, Rise n a l → ∀ x ∈ l, ∃ k : Nat, x = (k : Int) ∧ a ≤ k ∧ k < n
  | _, [], _, x, hx => by cases hx
  | a, y :: r, ⟨k, e, h1, h2, h3⟩, x, hx => by
    rcases List.mem_cons.1 hx with rfl | hx
    · exact ⟨k, e, h1, h2⟩
    · obtain ⟨j, e', g1, g2⟩ := h3.mem x hx
      exact ⟨j, e', by omega, g2⟩
def covF (xs : List Pt) (l : List Int) : Prop := ∀ p ∈ floorPts xs, ∃ k ∈ l, seesS xs (pAt xs k.toNat) p = true
theorem cov_iff {xs : List Pt} (hr : roomOk xs = true) {l : List Int} (hl : ∀ x ∈ l, ∃ k : Nat, x = (k : Int) ∧ k < xs.length) : covM (masksM xs) l = true ↔ covF xs l := by
  have hn := room_pos hr
  have hw : wid (masksM xs) = (floorPts xs).length := by
    unfold wid
    rw [masks_get hn, mask_yes hr hn, List.length_map]
  have hs : ∀ x ∈ l, ∀ i, i < (floorPts xs).length → ((masksM xs).getD x.toNat []).getD i false = seesS xs (pAt xs x.toNat) (pAt (floorPts xs) i) := fun x hx i hi => by
    obtain ⟨k, rfl, hk⟩ := hl x hx
    rw [Int.toNat_natCast, masks_get hk, mask_yes hr hk, List.getD_eq_getElem?_getD, List.getElem?_map, List.getElem?_eq_getElem hi]
    show seesS xs _ (floorPts xs)[i] = seesS xs _ ((floorPts xs).getD i (0, 0))
    rw [getD_lt _ hi]
  unfold covM seenOf covF
  rw [hw, List.all_eq_true]
  constructor
  · intro h p hp
    obtain ⟨i, hi, rfl⟩ := List.getElem_of_mem hp
    obtain ⟨k, hk, hg⟩ := List.any_eq_true.1 (h i (List.mem_range.2 hi))
    rw [hs k hk i hi] at hg
    refine ⟨k, hk, ?_⟩
    rw [← getD_lt (0, 0) hi]; exact hg
  · intro h i hi
    have hi := List.mem_range.1 hi
    obtain ⟨k, hk, hg⟩ := h _ (List.getElem_mem hi)
    refine List.any_eq_true.2 ⟨k, hk, ?_⟩
    rw [hs k hk i hi]
    show seesS xs _ ((floorPts xs).getD i (0, 0)) = true
    rw [getD_lt _ hi]; exact hg
theorem rise_range (n a : Nat) : ∀ m, a + m ≤ n → Rise n a ((List.range' a m).map fun k : Nat => (k : Int))
  | 0, _ => trivial
  | m + 1, h => ⟨a, rfl, Nat.le_refl _, by omega, rise_range n (a + 1) m (by omega)⟩
theorem few_spec {xs : List Pt} (hr : roomOk xs = true) : 1 ≤ (fewM xs).length ∧ Rise xs.length 0 (fewM xs) ∧ covF xs (fewM xs) ∧ ∀ l, 1 ≤ l.length → Rise xs.length 0 l → covF xs l → (fewM xs).length ≤ l.length := by
  have hn := room_pos hr
  have hM : (masksM xs).length = xs.length := masks_len xs
  have mem : ∀ {l : List Int}, Rise xs.length 0 l → ∀ x ∈ l, ∃ k : Nat, x = (k : Int) ∧ k < xs.length := fun h x hx => by
    obtain ⟨k, e, _, g⟩ := h.mem x hx
    exact ⟨k, e, g⟩
  have all : fewO (masksM xs) ≠ none := by
    unfold fewO
    refine fsR_ne (k := xs.length) (by omega) (by omega) ?_
    have hri := rise_range xs.length 0 xs.length (by omega)
    have := ch_find (masksM xs) ((List.range' 0 xs.length).map fun k : Nat => (k : Int)) [] 0 (by rw [hM]; exact hri) (by
      rw [List.nil_append, cov_iff hr (mem hri)]
      intro p hp
      obtain ⟨k, hk, hs⟩ := corner_sees hp
      exact ⟨(k : Int), List.mem_map.2 ⟨k, by simp [List.mem_range']; exact hk, rfl⟩, by rw [Int.toNat_natCast]; exact hs⟩)
    rwa [List.length_map, List.length_range'] at this
  obtain ⟨r, hr'⟩ : ∃ r, fewO (masksM xs) = some r := by
    cases h : fewO (masksM xs) with
    | none => exact absurd h all
    | some r => exact ⟨r, rfl⟩
  have hf : fewM xs = r := by rw [few_ok hr, hr']; rfl
  rw [hf]
  unfold fewO at hr'
  obtain ⟨n, n1, n2, n3, n4⟩ := fsN_first hr'
  obtain ⟨l', e, hl, hri, hc⟩ := ch_some _ _ _ _ _ n3
  rw [List.nil_append] at e
  subst e
  rw [hM] at hri
  refine ⟨by omega, hri, (cov_iff hr (mem hri)).1 hc, fun l h1 h2 h3 => ?_⟩
  rcases (show r.length ≤ l.length ∨ l.length < n by omega) with g | g
  · exact g
  · exfalso
    refine ch_find (masksM xs) l [] 0 (by rw [hM]; exact h2) ?_ (n4 l.length h1 g)
    rw [List.nil_append, cov_iff hr (mem h2)]; exact h3
theorem floor_pos' {xs : List Pt} (hr : roomOk xs = true) : 0 < (floorPts xs).length := List.length_pos_of_mem (Geo.corner_floor hr (room_pos hr))
theorem Cutd.mem {l : List Int} {ts : List Tri} (h : Cutd l ts) : ∀ t ∈ ts, t.1 ∈ l ∧ t.2.1 ∈ l ∧ t.2.2 ∈ l := by
  induction h with
  | last h3 =>
    rename_i l
    intro t ht
    rw [List.mem_singleton.1 ht]
    have m0 := gI_mem (l := l) (k := 0) (by omega)
    have m1 := gI_mem (l := l) (k := 1) (by omega)
    have m2 := gI_mem (l := l) (k := 2) (by omega)
    rcases triS_six (gI l 0) (gI l 1) (gI l 2) with e | e | e | e | e | e <;> rw [e] <;> exact ⟨by assumption, by assumption, by assumption⟩
  | step h4 hi hr ih =>
    rename_i l ts i
    intro t ht
    rcases List.mem_cons.1 ht with rfl | ht
    · have m0 := gI_mem (l := l) (k := prvN l.length i) (prv_lt (by omega))
      have m1 := gI_mem (l := l) (k := i) hi
      have m2 := gI_mem (l := l) (k := nxtN l.length i) (nxt_lt (by omega))
      unfold triAt
      rcases triS_six (gI l (prvN l.length i)) (gI l i) (gI l (nxtN l.length i)) with e | e | e | e | e | e <;> rw [e] <;> exact ⟨by assumption, by assumption, by assumption⟩
    · obtain ⟨h1, h2, h3⟩ := ih t ht
      have sub := List.eraseIdx_sublist l i
      exact ⟨sub.mem h1, sub.mem h2, sub.mem h3⟩
def Dif (cs : List Int) (a b c : Int) : Prop := cI cs a ≠ cI cs b ∧ cI cs b ≠ cI cs c ∧ cI cs a ≠ cI cs c
theorem dif_triS {cs : List Int} {a b c : Int} (h : Dif cs a b c) : Dif cs (triS a b c).1 (triS a b c).2.1 (triS a b c).2.2 := by
  obtain ⟨h1, h2, h3⟩ := h
  rcases triS_six a b c with e | e | e | e | e | e <;> rw [e]
  · exact ⟨h1, h2, h3⟩
  · exact ⟨h3, h2.symm, h1⟩
  · exact ⟨h1.symm, h3, h2⟩
  · exact ⟨h2, h3.symm, h1.symm⟩
  · exact ⟨h3.symm, h1, h2.symm⟩
  · exact ⟨h2.symm, h1.symm, h3.symm⟩
theorem Cutd.dif {n : Nat} {l : List Int} {ts : List Tri} (h : Cutd l ts) (hl : Left n l) : ∀ t ∈ ts, Dif (colF n ts) t.1 t.2.1 t.2.2 := by
  induction h with
  | last h3 =>
    rename_i l
    intro t ht
    rw [List.mem_singleton.1 ht]
    have hc := (Cutd.last h3).col hl
    have q := hc.ne
    rw [h3] at q
    exact dif_triS ⟨q 0 (by decide), q 1 (by decide), (q 2 (by decide)).symm⟩
  | step h4 hi hr ih =>
    rename_i l ts i
    intro t ht
    have hle := hl.erase h4 hi
    obtain ⟨⟨hc, hp, hq⟩, hC⟩ := Col.step hl h4 hi (hr.col hle)
    rw [colF_cons hr.ne]
    have hout := (hr.col hle).len
    have hpl := prv_lt (n := l.length) (i := i) (by omega)
    have hnl := nxt_lt (n := l.length) (i := i) (by omega)
    obtain ⟨e1, e2, e3⟩ := prv_ne (n := l.length) (by omega) hi
    have hs : colStep (colF n ts) (triAt l i) = (colF n ts).set (gI l i).toNat (3 - cI (colF n ts) (gI l (prvN l.length i)) - cI (colF n ts) (gI l (nxtN l.length i))) := colStep_cut (by omega) hp.1 hq.1
    have hcx : 0 ≤ gI l i ∧ gI l i < (colF n ts).length := by rw [hout]; exact hl.at hi
    have hget : ∀ y, 0 ≤ y → cI (colStep (colF n ts) (triAt l i)) y = if y = gI l i then 3 - cI (colF n ts) (gI l (prvN l.length i)) - cI (colF n ts) (gI l (nxtN l.length i)) else cI (colF n ts) y := fun y hy => by rw [hs]; exact cI_set hcx hy
    rcases List.mem_cons.1 ht with rfl | ht
    · have b := hC.yes _ (gI_mem hi)
      have gc := hget _ (hl.at hi).1
      have gp := hget _ (hl.at hpl).1
      have gq := hget _ (hl.at hnl).1
      rw [if_pos rfl] at gc
      rw [if_neg fun e => e1 (hl.inj hpl hi e)] at gp
      rw [if_neg fun e => e2 (hl.inj hnl hi e)] at gq
      have n1 := hC.ne i hi
      have n0 := hC.ne _ hpl
      have en : nxtN l.length (prvN l.length i) = i := by
        rcases prv_eq hi with ⟨h1, h2⟩ | ⟨h1, h2⟩ <;> rw [h2]
        · rcases nxt_eq (n := l.length) (i := l.length - 1) (by omega) with ⟨g1, g2⟩ | ⟨g1, g2⟩ <;> omega
        · rcases nxt_eq (n := l.length) (i := i - 1) (by omega) with ⟨g1, g2⟩ | ⟨g1, g2⟩ <;> omega
      rw [en] at n0
      exact dif_triS ⟨n0, n1, by omega⟩
    · obtain ⟨d1, d2, d3⟩ := ih hle t ht
      obtain ⟨m1, m2, m3⟩ := hr.mem t ht
      have same : ∀ y, y ∈ l.eraseIdx i → cI (colStep (colF n ts) (triAt l i)) y = cI (colF n ts) y := fun y hy => by
        rw [hget y (hle.ge y hy), if_neg ((hl.mem_erase hi).1 hy).2]
      exact ⟨by rw [same _ m1, same _ m2]; exact d1, by rw [same _ m2, same _ m3]; exact d2, by rw [same _ m1, same _ m3]; exact d3⟩
theorem tris_cut {xs : List Pt} (hr : roomOk xs = true) : Cutd (allC xs.length) (trisM xs) := (Geo.tris_good hr).cut
theorem colors_dif {xs : List Pt} (hr : roomOk xs = true) : ∀ t ∈ trisM xs, Dif (colorsM xs) t.1 t.2.1 t.2.2 := (tris_cut hr).dif (left_all (room_len hr).1)
theorem colors_at {xs : List Pt} (hr : roomOk xs = true) {k : Int} (h0 : 0 ≤ k) (h : k < xs.length) : 0 ≤ cI (colorsM xs) k ∧ cI (colorsM xs) k ≤ 2 := by
  have hl := colors_len (Geo.tris_ne hr)
  refine colors_bd (xs := xs) ?_
  show (colorsM xs).getD k.toNat 0 ∈ _
  rw [getD_lt _ (by omega)]
  exact List.getElem_mem _
def colL (xs : List Pt) (c : Int) : List Int := ((List.range xs.length).filter fun j => decide ((colorsM xs).getD j 0 = c)).map fun j : Nat => (j : Int)
theorem mem_colL {xs : List Pt} {c x : Int} : x ∈ colL xs c ↔ ∃ k : Nat, x = (k : Int) ∧ k < xs.length ∧ cI (colorsM xs) k = c := by
  unfold colL
  rw [List.mem_map]
  constructor
  · rintro ⟨k, hk, rfl⟩
    obtain ⟨h1, h2⟩ := List.mem_filter.1 hk
    exact ⟨k, rfl, List.mem_range.1 h1, of_decide_eq_true h2⟩
  · rintro ⟨k, rfl, h1, h2⟩
    exact ⟨k, List.mem_filter.2 ⟨List.mem_range.2 h1, decide_eq_true h2⟩, rfl⟩
theorem Rise.weak {n : Nat} : ∀ {a : Nat} {l : List Int}, Rise n (a + 1) l → Rise n a l
  | _, [], _ => trivial
  | a, x :: r, ⟨k, e, h1, h2, h3⟩ => ⟨k, e, by omega, h2, h3⟩
theorem rise_filter (n : Nat) (f : Nat → Bool) : ∀ m a, a + m ≤ n → Rise n a (((List.range' a m).filter f).map fun k : Nat => (k : Int))
  | 0, a, _ => trivial
  | m + 1, a, h => by
    have ih := rise_filter n f m (a + 1) (by omega)
    rw [List.range'_succ, List.filter_cons]
    split
    · exact ⟨a, rfl, Nat.le_refl _, by omega, ih⟩
    · exact ih.weak
theorem colL_rise (xs : List Pt) (c : Int) : Rise xs.length 0 (colL xs c) := by
  unfold colL
  rw [List.range_eq_range']
  exact rise_filter _ _ _ _ (by omega)
theorem colL_cov {xs : List Pt} (hr : roomOk xs = true) {c : Int} (hc : 0 ≤ c ∧ c ≤ 2) : covF xs (colL xs c) := fun p hp => by
  obtain ⟨t, ht, hI⟩ := Geo.tris_all hp
  obtain ⟨s1, s2, s3⟩ := ((Geo.tris_good hr).tri t ht).see p hI
  obtain ⟨d1, d2, d3⟩ := colors_dif hr t ht
  obtain ⟨i0, i1, i2, i3⟩ := tris_in ht
  have b1 := colors_at hr (k := t.1) (by omega) (by omega)
  have b2 := colors_at hr (k := t.2.1) (by omega) (by omega)
  have b3 := colors_at hr (k := t.2.2) (by omega) (by omega)
  obtain ⟨-, hpt, hpi⟩ := Geo.mem_floor.1 hp
  have key : ∀ k : Int, 0 ≤ k → k < xs.length → cI (colorsM xs) k = c → Geo.NoOut (Geo.roomP xs) (Geo.tv xs k) p → ∃ g ∈ colL xs c, seesS xs (pAt xs g.toNat) p = true := fun k h0 h1 h2 h3 => by
    refine ⟨k, mem_colL.2 ⟨k.toNat, by omega, by omega, by rw [Int.toNat_of_nonneg h0]; exact h2⟩, ?_⟩
    rw [Geo.seesS_noout hr (Geo.corner_ok hr (by omega)) hpt (Geo.corner_in hr (by omega)) hpi]
    rwa [show Geo.tv xs k = pAt xs k.toNat from Geo.v_lt (by omega)] at h3
  rcases (show cI (colorsM xs) t.1 = c ∨ cI (colorsM xs) t.2.1 = c ∨ cI (colorsM xs) t.2.2 = c by omega) with g | g | g
  · exact key _ (by omega) (by omega) g s1
  · exact key _ (by omega) (by omega) g s2
  · exact key _ (by omega) (by omega) g s3
theorem split3 (f : Nat → Int) : ∀ n, (∀ j, j < n → 0 ≤ f j ∧ f j ≤ 2) → ((List.range n).filter fun j => decide (f j = 0)).length + ((List.range n).filter fun j => decide (f j = 1)).length + ((List.range n).filter fun j => decide (f j = 2)).length = n
  | 0, _ => rfl
  | n + 1, h => by
    have ih := split3 f n fun j hj => h j (by omega)
    have hn := h n (by omega)
    rw [List.range_succ]
    simp only [List.filter_append, List.length_append, List.filter_cons, List.filter_nil]
    rcases (show f n = 0 ∨ f n = 1 ∨ f n = 2 by omega) with e | e | e <;> simp [e] <;> omega
theorem colL_sum {xs : List Pt} (hr : roomOk xs = true) : (colL xs 0).length + (colL xs 1).length + (colL xs 2).length = xs.length := by
  unfold colL
  rw [List.length_map, List.length_map, List.length_map]
  exact split3 (fun j => (colorsM xs).getD j 0) xs.length fun j hj => colors_at hr (k := (j : Int)) (by omega) (by omega)
theorem cov_pos {xs : List Pt} (hr : roomOk xs = true) {l : List Int} (h : covF xs l) : 1 ≤ l.length := by
  obtain ⟨k, hk, -⟩ := h _ (pAt_mem (L := floorPts xs) (u := 0) (floor_pos' hr))
  exact List.length_pos_of_mem hk
theorem few_third {xs : List Pt} (hr : roomOk xs = true) : 3 * (fewM xs).length ≤ xs.length := by
  obtain ⟨-, -, -, hm⟩ := few_spec hr
  have key : ∀ c : Int, 0 ≤ c ∧ c ≤ 2 → (fewM xs).length ≤ (colL xs c).length := fun c hc => hm _ (cov_pos hr (colL_cov hr hc)) (colL_rise xs c) (colL_cov hr hc)
  have h0 := key 0 (by decide)
  have h1 := key 1 (by decide)
  have h2 := key 2 (by decide)
  have := colL_sum hr
  omega
theorem Rise.erase {n : Nat} : ∀ {a : Nat} {l : List Int} (k : Nat), Rise n a l → Rise n a (l.eraseIdx k)
  | _, [], _, _ => trivial
  | a, x :: r, 0, ⟨j, e, h1, h2, h3⟩ => by
    show Rise n a r
    have : ∀ d, Rise n (a + d) r → Rise n a r := fun d => by
      induction d with
      | zero => exact id
      | succ d ih => exact fun h => ih (Rise.weak (a := a + d) h)
    exact this (j + 1 - a) (by rw [show a + (j + 1 - a) = j + 1 by omega]; exact h3)
  | a, x :: r, k + 1, ⟨j, e, h1, h2, h3⟩ => ⟨j, e, h1, h2, h3.erase k⟩
theorem Rise.corners {n : Nat} {l : List Int} (h : Rise n 0 l) : ∀ x ∈ l, ∃ k : Nat, x = (k : Int) ∧ k < n := fun x hx => by
  obtain ⟨k, e, _, g⟩ := h.mem x hx
  exact ⟨k, e, g⟩
theorem seesAll_iff {xs : List Pt} (hr : roomOk xs = true) {l : List Int} (hl : ∀ x ∈ l, ∃ k : Nat, x = (k : Int) ∧ k < xs.length) : seesAllM xs (l.map (pI xs)) = true ↔ covF xs l := by
  unfold seesAllM covF seesAny
  rw [Bool.and_eq_true, List.all_eq_true]
  have hin : allInM xs (l.map (pI xs)) = true := by
    unfold allInM
    rw [hr, Bool.true_and, List.all_eq_true]
    intro p hp
    obtain ⟨x, hx, rfl⟩ := List.mem_map.1 hp
    obtain ⟨k, rfl, hk⟩ := hl x hx
    exact corner_in hr hk
  rw [hin]
  constructor
  · rintro ⟨-, h⟩ p hp
    obtain ⟨g, hg, hs⟩ := List.any_eq_true.1 (h p hp)
    obtain ⟨x, hx, rfl⟩ := List.mem_map.1 hg
    exact ⟨x, hx, hs⟩
  · intro h
    refine ⟨rfl, fun p hp => ?_⟩
    obtain ⟨x, hx, hs⟩ := h p hp
    exact List.any_eq_true.2 ⟨pI xs x, List.mem_map.2 ⟨x, hx, rfl⟩, hs⟩
theorem pts_map {xs : List Pt} (hr : roomOk xs = true) {l : List Int} (hl : ∀ x ∈ l, ∃ k : Nat, x = (k : Int) ∧ k < xs.length) : ptsOf xs l = l.map (pI xs) := ptsOf_ok hr (List.all_eq_true.2 fun x hx => by
  obtain ⟨k, rfl, hk⟩ := hl x hx
  rw [btw_iff]; omega)
theorem few_needed {xs : List Pt} (hr : roomOk xs = true) {k : Nat} (hk : k < (fewM xs).length) : seesAllM xs ((ptsOf xs (fewM xs)).eraseIdx k) = false := by
  obtain ⟨-, hri, hco, hm⟩ := few_spec hr
  have hl := List.length_eraseIdx_of_lt hk
  rw [pts_map hr hri.corners, show ((fewM xs).map (pI xs)).eraseIdx k = ((fewM xs).eraseIdx k).map (pI xs) by simp only [List.eraseIdx_eq_take_drop_succ, List.map_take, List.map_drop, List.map_append]]
  rw [Bool.eq_false_iff]
  intro h
  have hco' := (seesAll_iff hr (hri.erase k).corners).1 h
  have := hm _ (cov_pos hr hco') (hri.erase k) hco'
  omega
theorem few_sees {xs : List Pt} (hr : roomOk xs = true) : seesAllM xs (ptsOf xs (fewM xs)) = true := by
  obtain ⟨-, hri, hco, -⟩ := few_spec hr
  rw [pts_map hr hri.corners]
  exact (seesAll_iff hr hri.corners).2 hco
theorem few_one {xs : List Pt} (hr : roomOk xs = true) (h : (fewM xs).length = 1) : 0 < (kerPts xs).length := by
  obtain ⟨-, hri, hco, -⟩ := few_spec hr
  obtain ⟨x, hx⟩ := List.length_eq_one_iff.1 h
  rw [hx] at hri hco
  obtain ⟨k, rfl, hk⟩ := hri.corners x (by simp)
  have hf := Geo.corner_floor hr hk
  refine List.length_pos_of_mem (a := pAt xs k) (List.mem_filter.2 ⟨hf, (Geo.ker_iff_all hf).2 fun q hq => ?_⟩)
  obtain ⟨y, hy, hs⟩ := hco q hq
  rw [List.mem_singleton.1 hy] at hs
  exact hs
end Go.Proofs.Ytnepfcnlngpchaa
namespace Go.Proofs.Ytnepfcnlngpchaa
open Go.RowKit
section
variable {H : Type} {enc : TypeId × Value → H} {P : Program} {w : World} {base : Nat} {spare : Nat → Bool} {held : Bool} {fuel : Nat} {t : TypeId} {cs : List Value} {x : DataW H × List MemPlace}
theorem u8_cellsQ (ht : U8T P t) (h : DataW.trod enc P w base spare held fuel t cs = some x) : ∃ n : Int, cs = [.int .u8 n] ∧ 0 ≤ n ∧ n ≤ 255 := by
  obtain ⟨n, h1, _, hw⟩ := DataW.trod_int ht.1 h
  refine ⟨n, h1, ?_⟩
  simp only [Lit.wf, Bool.and_eq_true, decide_eq_true_eq] at hw
  exact hw
theorem sl_cellsQ {e : TypeId} {k : ElB} {Q : k.T → Prop} (hu : P.underlying t = some (.slice e)) (hs : P.cellsOf e = k.size)
    (hel : ∀ {n : Nat} {cs : List Value} {x : DataW H × List MemPlace}, DataW.trod enc P w base spare held n e cs = some x → ∃ y : k.T, cs = k.encV y ∧ Q y) {F : Nat → Prop}
    (hF : ∀ a l c, cs = [.slice (some a) l c] → l = 0 ∨ F a.block) (h : DataW.trod enc P w base spare held fuel t cs = some x) :
    ∃ (v : Value) (xs : List k.T), cs = [v] ∧ SLK w F (.b k) xs v ∧ xs.length ≤ 9223372036854775807 ∧ ∀ y ∈ xs, Q y := by
  rcases DataW.trod_slice hu h with ⟨rfl, _⟩ | ⟨a, len, cap, elems, rest, n, _, rfl, _, _, hl, hm, hlen, hE, _⟩
  · exact ⟨_, [], rfl, .inl ⟨rfl, rfl⟩, by simp, fun y hy => by cases hy⟩
  · have each : ∀ i, i < len → ∃ y : k.T, w.cells? base (a.add (i * k.size)) k.size = some (k.encV y) ∧ Q y := by
      intro i hi
      have h1 := hE i hi
      obtain ⟨hlt⟩ : i < elems.length ∧ True := ⟨by omega, trivial⟩
      rw [List.getElem?_eq_getElem hlt, Option.bind_eq_some_iff] at h1
      obtain ⟨us, h2, h3⟩ := h1
      obtain ⟨y, rfl, hq⟩ := hel h3
      rw [hs] at h2
      exact ⟨y, h2, hq⟩
    obtain ⟨xs, hxl, hxs⟩ := list_of each
    refine ⟨_, xs, rfl, .inr ⟨a, cap, by rw [hxl], by omega, (hF a len cap rfl).imp (fun e => List.eq_nil_of_length_eq_zero (by omega)) id, fun i y hy => ?_⟩, by unfold maxLen at hm; omega, fun y hy => ?_⟩
    · obtain ⟨_, h2, h3⟩ := World.cells?_some (hxs i y hy).1
      refine ⟨k.encV y, h2, rfl, fun j u hj => ?_⟩
      have hlt := (List.getElem?_eq_some_iff.1 hj).1
      have := h3 j (by omega)
      rw [hj] at this
      rwa [add_add'] at this
    · obtain ⟨i, hi, rfl⟩ := List.getElem_of_mem hy
      exact (hxs i _ (List.getElem?_eq_getElem hi)).2
theorem open_u8 {r : Reach} {b0 : Nat} {v : Value} {d : DataW H} {p : List MemPlace} (hs : SlU8T P t) (hk : Value.okWide P w r b0 t v) (hd : DataW.Trod enc P w base spare held t v d p) :
    ∃ x : List Int, (Ty.sl (.b .u8)).lenOk x ∧ (∀ b ∈ x, 0 ≤ b ∧ b ≤ 255) ∧ AVC w (fun b => b < w.heap.size) noRho deadOwn ((Ty.sl (.b .u8)).enc x) v := by
  obtain ⟨fuel, hf⟩ := hd
  have slice : ∀ {e : TypeId}, P.underlying t = some (.slice e) → (∀ a l c, v = .slice (some a) l c → a.block < w.heap.size) := by
    intro e hu a l c hv
    subst hv
    refine cell_lt (u := t) (P := P) (r := r) (base := b0) (l := l) (c := c) ?_
    simpa only [Value.okWide, hu] using hk
  obtain ⟨h1, e, hue, hpe⟩ := hs
  obtain ⟨a, l, c, rfl⟩ := Go.WideShapes.okWide_slice hue hk
  obtain ⟨v, xs, hv, hsl, hlen, hq⟩ := sl_cellsQ (k := .u8) (Q := fun n : Int => 0 ≤ n ∧ n ≤ 255) (F := fun b => b < w.heap.size) hue hpe.2 (fun h => u8_cellsQ hpe h) (fun a' l' c' he => by
    simp [Value.cells] at he
    exact .inr (slice hue a' l' c' (by rw [he.1, he.2.1, he.2.2]))) hf
  simp [Value.cells] at hv
  subst hv
  exact ⟨xs, hlen, hq, dc_weak (k := .b .u8) hsl⟩
end
def lawCon8 : Con := mkCon [.sl (.b .u8)] (fun x => x.1.length ≤ 9223372036854775807 ∧ ∀ b ∈ (x.1 : List Int), 0 ≤ b ∧ b ≤ 255) fun _ => .val (.one (.d (.bool true)))
end Go.Proofs.Ytnepfcnlngpchaa
namespace Go.Proofs.Ytnepfcnlngpchaa
open Go.RowKit Go.Proofs.Ytnepfcnlngpchaa.Nm
set_option maxRecDepth 10000
set_option maxHeartbeats 2000000
theorem kers_len (xs : List Pt) : (kerPts xs).length ≤ 6561 := Nat.le_trans (List.length_filter_le _ _) (floor_len xs)
theorem kers_corners (xs : List Pt) : kerPts xs = (floorPts xs).filter (seesCs xs) := List.filter_congr fun p hp => by
  rw [Bool.eq_iff_iff, seesCs_iff]; exact Geo.ker_iff_corners hp
theorem kers_bad {xs : List Pt} (h : roomOk xs = false) : kerPts xs = [] := by unfold kerPts floorPts; rw [h]; rfl
theorem iOneGuard_ok : Good1 Try.prog n_impl_OneGuard kerPtsC := by
  refine good_ofG (tys := tyL) (env := [(n_impl_RoomOk, roomOkC), (n_impl_floor, floorC), (n_impl_seesCorners, seesCsC)]) (envw := []) (envd := []) [9] [] [] [] [] mixed tys ⟨iRoomOk_ok, floor_ok, seesCorners_ok, trivial⟩ trivial trivial Try.func15 rfl (by kernel_rfl) (by decide) (by kernel_rfl) ?_
  have hG_ := kpz [(0, [1]), (1, [1, 8]), (2, [2]), (3, [1, 3]), (4, [1, 3, 11, 12, 13]), (5, [1, 3, 11, 12, 13, 14]), (6, [1, 3, 5, 11, 12, 13]), (7, [1, 3, 5, 11, 12, 13, 19]), (8, [1, 3, 11, 12, 13]), (9, [1, 3, 11, 12, 13]), (10, [2])] [(3, [9]), (4, [9]), (5, [9]), (6, [5, 9]), (7, [5, 9]), (8, [9]), (9, [9]), (10, [9])] [] []
  rintro ⟨(xs : List Pt), ⟨⟩⟩ (h1 : xs.length ≤ _)
  have hf := floor_len xs
  (repeat' (first | (with_reducible first | exact True.intro | refine zQ ?_ | (refine zG hG_ ?_; intro K_ hK_) | (refine zR ?_; intro K_ hK_) | (refine hK_ _ _ ?_; try clear hK_ K_) | refine sq_n ?_ | refine sq_r ?_ | refine sq_e ?_ | refine bq_n ?_ | refine bq_r ?_ | refine bq_q ?_ | refine zB ?_ | refine zX ?_ | refine zT ?_ | refine zK ?_ | refine gq_n ?_ | refine gq_r ?_ | refine gq_e ?_ | refine lq_n ?_ | refine lq_r ?_ | refine lq_e ?_ | refine bq_e (by decide) ?_) | ((with_reducible refine zC (b := ?b_) ?hb_ ?_ ?_); case hb_ => rfl) | ((conv => whnf); first | (with_reducible refine hK_ _ _ ?_; try clear hK_ K_) | (with_reducible refine fun (g_ : Sl) (o_ : Ow) => ?_) | (with_reducible first | exact True.intro | refine And.intro trivial ?_ | refine And.intro ?_ ?_) | exact Nat.le_of_ble_eq_true rfl | exact Or.inl rfl | (intro h_; cases h_) | (intro h_; (try simp only [vS1] at h_)) | rfl))) <;> (try (conv => whnf)) <;> (try first | change (_ : Int) ≤ _ | change (_ : Nat) ≤ _) <;> (try ((fail_if_success (with_reducible apply Exists.intro)); (try dsimp only); (try simp only [vS1]))) <;> (try simp (disch := omega) only [vS3, Int.add_sub_cancel, tn1, tnp, tnc, vS2] at *)
  all_goals (try (fail_if_success (with_reducible apply Exists.intro)); first | with_reducible assumption | omega | exact mdl (by omega) | exact ilo1 (by omega) | exact ilo2 (by omega) | exact ihi1 (by omega) (by omega) | exact ihi2 (by omega) (by omega))
  · exact kers_bad ‹_›
  have hr : roomOk xs = true := by assumption
  refine awp'_loopG (α := Nat) (fun k ver_ => [(13, vInt k)]) (fun k ver_ => [(3, 9, false, .row t_impl_Point (.b .pt) (((floorPts xs).take k).filter (seesCs xs)))]) (fun k ver_ => []) (fun k => k ≤ (floorPts xs).length) (fun k => (floorPts xs).length - k) [1, 11, 12] [] (0) ?_
  conv => whnf
  refine ⟨⟨?inv1_, ?vals1_, ?own1_, ?fix1_⟩, ?body1_⟩
  case' vals1_ => (repeat' (first | (with_reducible first | exact True.intro | refine And.intro ?_ ?_ | refine Head.mk ?_ ?_ ?_ ?_) | ((conv => lhs; whnf); first | (with_reducible first | rfl | exact vInt_s (by omega)) | exact rfl) | ((conv => whnf); first | (with_reducible first | exact True.intro | refine And.intro ?_ ?_)))) <;> (try (conv => lhs; whnf))
  case' own1_ => (repeat' (first | (with_reducible first | exact True.intro | refine And.intro ?_ ?_ | refine Head.mk ?_ ?_ ?_ ?_) | ((conv => lhs; whnf); first | (with_reducible first | rfl | exact vInt_s (by omega)) | exact rfl) | ((conv => whnf); first | (with_reducible first | exact True.intro | refine And.intro ?_ ?_)))) <;> (try (conv => lhs; whnf))
  case' fix1_ => (repeat' (first | (with_reducible first | exact True.intro | refine And.intro ?_ ?_ | refine Head.mk ?_ ?_ ?_ ?_) | ((conv => lhs; whnf); first | (with_reducible first | rfl | exact vInt_s (by omega)) | exact rfl) | ((conv => whnf); first | (with_reducible first | exact True.intro | refine And.intro ?_ ?_)))) <;> (try (conv => lhs; whnf))
  · exact Nat.zero_le _
  rintro k g_ o_ v_ hk
  have hl : (((floorPts xs).take k).filter (seesCs xs)).length ≤ 6561 := Nat.le_trans (List.length_filter_le _ _) (by rw [List.length_take]; omega)
  (repeat' (first | (with_reducible first | exact True.intro | refine zQ ?_ | (refine zG hG_ ?_; intro K_ hK_) | (refine zR ?_; intro K_ hK_) | (refine hK_ _ _ ?_; try clear hK_ K_) | refine sq_n ?_ | refine sq_r ?_ | refine sq_e ?_ | refine bq_n ?_ | refine bq_r ?_ | refine bq_q ?_ | refine zB ?_ | refine zX ?_ | refine zT ?_ | refine zK ?_ | refine gq_n ?_ | refine gq_r ?_ | refine gq_e ?_ | refine lq_n ?_ | refine lq_r ?_ | refine lq_e ?_ | refine bq_e (by decide) ?_) | ((with_reducible refine zC (b := ?b_) ?hb_ ?_ ?_); case hb_ => rfl) | ((conv => whnf); first | (with_reducible refine hK_ _ _ ?_; try clear hK_ K_) | (with_reducible refine fun (g_ : Sl) (o_ : Ow) => ?_) | (with_reducible first | exact True.intro | refine And.intro trivial ?_ | refine And.intro ?_ ?_) | exact Nat.le_of_ble_eq_true rfl | exact Or.inl rfl | (intro h_; cases h_) | (intro h_; (try simp only [vS1] at h_)) | rfl))) <;> (try (conv => whnf)) <;> (try first | change (_ : Int) ≤ _ | change (_ : Nat) ≤ _) <;> (try ((fail_if_success (with_reducible apply Exists.intro)); (try dsimp only); (try simp only [vS1]))) <;> (try simp (disch := omega) only [vS3, Int.add_sub_cancel, tn1, tnp, tnc, vS2] at *)
  all_goals (try (fail_if_success (with_reducible apply Exists.intro)); first | with_reducible assumption | omega | exact mdl (by omega) | exact ilo1 (by omega) | exact ilo2 (by omega) | exact ihi1 (by omega) (by omega) | exact ihi2 (by omega) (by omega))
  · exact (floor_mem (pAt_mem (by omega))).2.1
  · refine ⟨k + 1, by omega, by omega, ?_⟩
    (repeat' (first | (with_reducible first | exact True.intro | refine And.intro ?_ ?_ | refine Head.mk ?_ ?_ ?_ ?_) | ((conv => lhs; whnf); first | (with_reducible first | rfl | exact vInt_s (by omega)) | exact rfl) | ((conv => whnf); first | (with_reducible first | exact True.intro | refine And.intro ?_ ?_)))) <;> (try (conv => lhs; whnf))
    exact congrArg (Own.row _ _) (by rw [filter_take_succ _ (0, 0) (by assumption), if_pos ‹_›])
  · refine ⟨k + 1, by omega, by omega, ?_⟩
    (repeat' (first | (with_reducible first | exact True.intro | refine And.intro ?_ ?_ | refine Head.mk ?_ ?_ ?_ ?_) | ((conv => lhs; whnf); first | (with_reducible first | rfl | exact vInt_s (by omega)) | exact rfl) | ((conv => whnf); first | (with_reducible first | exact True.intro | refine And.intro ?_ ?_)))) <;> (try (conv => lhs; whnf))
    exact congrArg (Own.row _ _) (by rw [filter_take_succ _ (0, 0) (by assumption), if_neg (by rw [Bool.not_eq_true]; assumption), List.append_nil])
  · rw [List.take_of_length_le (by omega), kers_corners]; rfl
end Go.Proofs.Ytnepfcnlngpchaa
namespace Go.Proofs.Ytnepfcnlngpchaa
open Go.RowKit Go.Proofs.Ytnepfcnlngpchaa.Nm
set_option maxRecDepth 10000
theorem l04Copy_ok : Good1 Try.prog n_spec_l04Copy (roomRoomC id) := by
  refine good_ofG (tys := tyL) (env := []) (envw := []) (envd := []) [3] [] [] [] [] mixed tys trivial trivial trivial Try.func111 rfl (by kernel_rfl) (by decide) (by kernel_rfl) ?_
  have hG_ := kpz [(0, [1, 2]), (1, [2])] [(0, [2]), (1, [2, 3])] [] []
  rintro ⟨(xs : List Pt), ⟨⟩⟩ (h1 : xs.length ≤ _)
  (repeat' (first | (with_reducible first | exact True.intro | refine zQ ?_ | (refine zG hG_ ?_; intro K_ hK_) | (refine zR ?_; intro K_ hK_) | (refine hK_ _ _ ?_; try clear hK_ K_) | refine sq_n ?_ | refine sq_r ?_ | refine sq_e ?_ | refine bq_n ?_ | refine bq_r ?_ | refine bq_q ?_ | refine zB ?_ | refine zX ?_ | refine zT ?_ | refine zK ?_ | refine gq_n ?_ | refine gq_r ?_ | refine gq_e ?_ | refine lq_n ?_ | refine lq_r ?_ | refine lq_e ?_ | refine bq_e (by decide) ?_) | ((with_reducible refine zC (b := ?b_) ?hb_ ?_ ?_); case hb_ => rfl) | ((conv => whnf); first | (with_reducible refine hK_ _ _ ?_; try clear hK_ K_) | (with_reducible refine fun (g_ : Sl) (o_ : Ow) => ?_) | (with_reducible first | exact True.intro | refine And.intro trivial ?_ | refine And.intro ?_ ?_) | exact Nat.le_of_ble_eq_true rfl | exact Or.inl rfl | (intro h_; cases h_) | (intro h_; (try simp only [vS1] at h_)) | rfl))) <;> (try (conv => whnf)) <;> (try first | change (_ : Int) ≤ _ | change (_ : Nat) ≤ _) <;> (try ((fail_if_success (with_reducible apply Exists.intro)); (try dsimp only); (try simp only [vS1]))) <;> (try simp (disch := omega) only [vS3, vS2] at *)
  all_goals (try (fail_if_success (with_reducible apply Exists.intro)); first | with_reducible assumption | omega | exact mdl (by omega) | exact ilo1 (by omega) | exact ilo2 (by omega) | exact ihi1 (by omega) (by omega) | exact ihi2 (by omega) (by omega))
end Go.Proofs.Ytnepfcnlngpchaa
namespace Go.Proofs.Ytnepfcnlngpchaa
open Go.RowKit Go.Proofs.Ytnepfcnlngpchaa.Nm
set_option maxRecDepth 10000
set_option maxHeartbeats 4000000
def shapeM (k : Int) : List Pt :=
  if k = 0 then [(0, 0), (4, 0), (4, 4), (0, 4)] else
  if k = 1 then [(0, 0), (5, 0), (2, 4)] else
  if k = 2 then [(0, 0), (6, 0), (6, 2), (2, 2), (2, 6), (0, 6)] else
  if k = 3 then [(0, 0), (8, 0), (8, 6), (4, 2), (0, 6)] else
  if k = 4 then [(0, 0), (10, 0), (10, 5), (8, 1), (5, 5), (2, 1), (0, 5)] else
  if k = 5 then [(0, 0), (7, 0), (7, 7), (1, 7), (1, 3), (3, 3), (3, 5), (5, 5), (5, 2), (0, 2)] else
  if k = 6 then [(0, 0), (4, 2), (8, 0), (5, 3), (4, 7), (3, 3)] else [(0, 0), (6, 1), (7, 4), (3, 6), (1, 3)]
def l04ShapeC : Con := mkCon [.int] (fun _ => True) fun x => .val (.agg [.d (.sl none (.b .pt) (shapeM x.1))])
theorem l04Shape_ok : Good1 Try.prog n_spec_l04Shape l04ShapeC := by
  refine good_ofG (tys := tyL) (env := []) (envw := []) (envd := []) [] [] [] [] [] mixed tys trivial trivial trivial Try.func110 rfl (by kernel_rfl) (by decide) (by kernel_rfl) ?_
  have hG_ := kpz [(0, [0, 2]), (1, [2, 3]), (2, [2, 3, 4]), (3, [2]), (4, [2, 3, 12]), (5, [2]), (6, [2, 3, 19]), (7, [2]), (8, [2, 3, 29]), (9, [2]), (10, [2, 3, 38]), (11, [2]), (12, [2, 3, 49]), (13, [2]), (14, [2, 63]), (15, [2]), (16, [2])] [(0, [2]), (1, [2]), (2, [2]), (3, [2]), (4, [2]), (5, [2]), (6, [2]), (7, [2]), (8, [2]), (9, [2]), (10, [2]), (11, [2]), (12, [2]), (13, [2]), (14, [2]), (15, [2]), (16, [2])] [] []
  rintro ⟨(k : Int), ⟨⟩⟩ -
  (repeat' (first | (with_reducible first | exact True.intro | refine zQ ?_ | (refine zG hG_ ?_; intro K_ hK_) | (refine zR ?_; intro K_ hK_) | (refine hK_ _ _ ?_; try clear hK_ K_) | refine sq_n ?_ | refine sq_r ?_ | refine sq_e ?_ | refine bq_n ?_ | refine bq_r ?_ | refine bq_q ?_ | refine zB ?_ | refine zX ?_ | refine zT ?_ | refine zK ?_ | refine gq_n ?_ | refine gq_r ?_ | refine gq_e ?_ | refine lq_n ?_ | refine lq_r ?_ | refine lq_e ?_ | refine bq_e (by decide) ?_) | ((with_reducible refine zC (b := ?b_) ?hb_ ?_ ?_); case hb_ => rfl) | ((conv => whnf); first | (with_reducible refine hK_ _ _ ?_; try clear hK_ K_) | (with_reducible refine fun (g_ : Sl) (o_ : Ow) => ?_) | (with_reducible first | exact True.intro | refine And.intro trivial ?_ | refine And.intro ?_ ?_) | exact Nat.le_of_ble_eq_true rfl | exact Or.inl rfl | (intro h_; cases h_) | (intro h_; (try simp only [vS1] at h_)) | rfl))) <;> (try (conv => whnf)) <;> (try first | change (_ : Int) ≤ _ | change (_ : Nat) ≤ _) <;> (try ((fail_if_success (with_reducible apply Exists.intro)); (try dsimp only); (try simp only [vS1])))
  all_goals (try (fail_if_success (with_reducible apply Exists.intro)); first | with_reducible assumption | omega | exact mdl (by omega) | exact ilo1 (by omega) | exact ilo2 (by omega) | exact ihi1 (by omega) (by omega) | exact ihi2 (by omega) (by omega))
  all_goals first
    | (have e := eq_of_beq h_; subst e; rfl)
    | (unfold shapeM; simp_all; rfl)
def stepX (xs : List Pt) (c : Cur) : List Pt :=
  xs.set (belowX c xs.length).toNat ((xs.getD (belowX c xs.length).toNat (0, 0)).1 + belowX (belowC c xs.length) 3 - 1, (xs.getD (belowX c xs.length).toNat (0, 0)).2 + belowX (belowC (belowC c xs.length) 3) 3 - 1)
def stepC (n : Int) (c : Cur) : Cur := belowC (belowC (belowC c n) 3) 3
def stepR (s : List Pt × Cur) : List Pt × Cur := (if roomOk (stepX s.1 s.2) then stepX s.1 s.2 else s.1, stepC s.1.length s.2)
def iterR (s : List Pt × Cur) : Nat → List Pt × Cur
  | 0 => s
  | j + 1 => stepR (iterR s j)
def turnP (turn : Int) (p : Pt) : Pt := if turn = 1 then (-p.2, p.1) else if turn = 2 then (-p.1, -p.2) else p
def laidP (turn dx : Int) (p : Pt) : Pt := ((turnP turn p).1 + dx, (turnP turn p).2)
def laidAt (xs : List Pt) (turn first dx : Int) (k : Nat) : Pt := laidP turn dx (xs.getD ((first.toNat + k) % xs.length) (0, 0))
def laidR (xs : List Pt) (turn first dx : Int) : List Pt := (List.range xs.length).map (laidAt xs turn first dx)
def room0 (c : Cur) : List Pt × Cur := (shapeM (belowX c 8), belowC (belowC c 8) 4)
def roomK (c : Cur) : Int := belowX (belowC c 8) 4
def roomS (c : Cur) : List Pt × Cur := iterR (room0 c) (roomK c).toNat
def roomX (c : Cur) : List Pt :=
  laidR (roomS c).1 (belowX (roomS c).2 4) (belowX (belowC (roomS c).2 4) (roomS c).1.length) (belowX (belowC (belowC (roomS c).2 4) (roomS c).1.length) 5 - 2)
def roomC (c : Cur) : Cur := belowC (belowC (belowC (roomS c).2 4) (roomS c).1.length) 5
theorem stepX_len (xs : List Pt) (c : Cur) : (stepX xs c).length = xs.length := List.length_set ..
theorem stepR_len (s : List Pt × Cur) : (stepR s).1.length = s.1.length := by
  unfold stepR
  simp only
  split
  · exact stepX_len _ _
  · rfl
theorem iterR_len (s : List Pt × Cur) : ∀ j, (iterR s j).1.length = s.1.length
  | 0 => rfl
  | j + 1 => (stepR_len _).trans (iterR_len s j)
theorem stepC_ok {n : Int} {c : Cur} (h : curOk c) : curOk (stepC n c) := belowC_ok (belowC_ok (belowC_ok h))
theorem iterR_cur {s : List Pt × Cur} (h : curOk s.2) : ∀ j, curOk (iterR s j).2
  | 0 => h
  | j + 1 => stepC_ok (iterR_cur h j)
theorem shape_len (k : Int) : 3 ≤ (shapeM k).length ∧ (shapeM k).length ≤ 10 := by
  unfold shapeM
  repeat' split
  all_goals decide
def setXY (xs : List Pt) (i : Nat) (a b : Int) : List Pt :=
  (xs.set i (W (W ((xs.getD i (0, 0)).1 + a) - 1), (xs.getD i (0, 0)).2)).set i
    (((xs.set i (W (W ((xs.getD i (0, 0)).1 + a) - 1), (xs.getD i (0, 0)).2)).getD i (0, 0)).1,
      W (W (((xs.set i (W (W ((xs.getD i (0, 0)).1 + a) - 1), (xs.getD i (0, 0)).2)).getD i (0, 0)).2 + b) - 1))
theorem pt_room {xs : List Pt} (hr : roomOk xs = true) {i : Nat} (hi : i < xs.length) : -40 ≤ (xs.getD i (0, 0)).1 ∧ (xs.getD i (0, 0)).1 ≤ 40 ∧ -40 ≤ (xs.getD i (0, 0)).2 ∧ (xs.getD i (0, 0)).2 ≤ 40 := by
  rw [getD_lt _ hi]
  exact ptOk_iff.1 (List.all_eq_true.1 (roomOk_iff.1 hr).2.1 _ (List.getElem_mem hi))
theorem setXY_eq {xs : List Pt} (hr : roomOk xs = true) {i : Nat} (hi : i < xs.length) {a b : Int} (ha : 0 ≤ a ∧ a < 3) (hb : 0 ≤ b ∧ b < 3) :
    setXY xs i a b = xs.set i ((xs.getD i (0, 0)).1 + a - 1, (xs.getD i (0, 0)).2 + b - 1) := by
  have h := pt_room hr hi
  have g : ∀ x : Pt, (xs.set i x).getD i (0, 0) = x := fun x => by rw [getD_lt _ (by rw [List.length_set]; exact hi), List.getElem_set_self]
  unfold setXY
  rw [List.set_set, g]
  simp only [W_l3]
  rw [W_in (by omega) (by omega), W_in (by omega) (by omega)]
theorem shape_ok (k : Int) : roomOk (shapeM k) = true := by
  unfold shapeM
  repeat' split
  all_goals decide +kernel
theorem iterR_ok {s : List Pt × Cur} (h : roomOk s.1 = true) : ∀ j, roomOk (iterR s j).1 = true
  | 0 => h
  | j + 1 => by
    show roomOk (stepR (iterR s j)).1 = true
    unfold stepR
    simp only
    split
    · assumption
    · exact iterR_ok h j
theorem stepX_setXY {xs : List Pt} (hr : roomOk xs = true) (c : Cur) : setXY xs (belowX c xs.length).toNat (belowX (belowC c xs.length) 3) (belowX (belowC (belowC c xs.length) 3) 3) = stepX xs c := by
  have h3 := (roomOk_iff.1 hr).1
  have hb := below_bd (c := c) (n := (xs.length : Int)) (by omega)
  exact setXY_eq hr (by omega) (below_bd (by decide)) (below_bd (by decide))
theorem rng1 {f : Nat → Pt} {x : Pt} (h : x = f 0) : [x] = (List.range (0 + 1)).map f := by rw [h]; rfl
theorem rngS {f : Nat → Pt} {k : Nat} {x : Pt} (h : x = f k) : (List.range k).map f ++ [x] = (List.range (k + 1)).map f := by
  rw [List.range_succ, List.map_append, h]; rfl
theorem laid_1 {xs : List Pt} (hr : roomOk xs = true) {turn first dx : Int} {k m : Nat} (ht : (turn == 1) = true) (hm : m = (first.toNat + k) % xs.length) (hdx : -2 ≤ dx ∧ dx ≤ 2) :
    (W (W (0 - (xs.getD m (0, 0)).2) + dx), (xs.getD m (0, 0)).1) = laidAt xs turn first dx k := by
  have h3 := (roomOk_iff.1 hr).1
  have h := pt_room hr (i := m) (by rw [hm]; exact Nat.mod_lt _ (by omega))
  unfold laidAt laidP turnP W
  rw [← hm, if_pos (eq_of_beq ht), W_l1, W_in (by omega) (by omega)]
  simp
theorem laid_2 {xs : List Pt} (hr : roomOk xs = true) {turn first dx : Int} {k m : Nat} (hn : (turn == 1) = false) (ht : (turn == 2) = true) (hm : m = (first.toNat + k) % xs.length) (hdx : -2 ≤ dx ∧ dx ≤ 2) :
    (W (W (0 - (xs.getD m (0, 0)).1) + dx), W (0 - (xs.getD m (0, 0)).2)) = laidAt xs turn first dx k := by
  have h3 := (roomOk_iff.1 hr).1
  have h := pt_room hr (i := m) (by rw [hm]; exact Nat.mod_lt _ (by omega))
  unfold laidAt laidP turnP W
  rw [← hm, if_neg (ne_of_beq_false hn), if_pos (eq_of_beq ht), W_l1, W_in (by omega) (by omega), W_in (by omega) (by omega)]
  simp
theorem laid_0 {xs : List Pt} (hr : roomOk xs = true) {turn first dx : Int} {k m : Nat} (hn : (turn == 1) = false) (ht : (turn == 2) = false) (hm : m = (first.toNat + k) % xs.length) (hdx : -2 ≤ dx ∧ dx ≤ 2) :
    (W ((xs.getD m (0, 0)).1 + dx), (xs.getD m (0, 0)).2) = laidAt xs turn first dx k := by
  have h3 := (roomOk_iff.1 hr).1
  have h := pt_room hr (i := m) (by rw [hm]; exact Nat.mod_lt _ (by omega))
  unfold laidAt laidP turnP W
  rw [← hm, if_neg (ne_of_beq_false hn), if_neg (ne_of_beq_false ht), W_in (by omega) (by omega)]
def l04RoomC : ConD := mkConB [.cur] 0 t_spec_l01Cur (fun x => curOk x.1) (fun x => .agg [.d (.sl none (.b .pt) (roomX x.1))]) fun x => curL (roomC x.1)
theorem l04Room_ok : GoodD Try.prog n_spec_l04Room l04RoomC := by
  refine good_ofB (tys := tyL) (env := [(n_spec_l04Shape, l04ShapeC), (n_spec_l04Copy, (roomRoomC id)), (n_spec_RoomOk, roomOkC)]) (envw := []) (envd := [(n_spec_l01Below, l01BelowC)]) [15, 21, 28, 30, 41, 56, 66, 69, 71, 1000] [13, 15, 21, 28, 41, 56, 66, 69, 71, 1000] [31, 32, 34, 35, 37, 38, 39, 44, 45, 46, 47, 49, 50, 52, 53, 54, 59, 60] [] [15, 21, 28, 41, 56, 66, 69, 71] mixed tys ⟨l04Shape_ok, l04Copy_ok, sRoomOk_ok, trivial⟩ trivial ⟨l01Below_ok, trivial⟩ Try.func61 rfl (by kernel_rfl) ⟨by decide, rfl⟩ (by kernel_rfl) ?_
  have hG_ := kpz [(0, [0, 2]), (1, [0, 2, 3]), (2, [0, 2, 3, 4]), (3, [0, 2, 3, 4, 5]), (4, [0, 2, 3, 4, 5, 23]), (5, [0, 2, 3, 4, 5]), (6, [0, 2, 3, 4, 5, 6]), (7, [0, 2, 3, 4, 5, 6, 7]), (8, [0, 2, 3, 4, 5, 6, 7]), (9, [0, 2, 3, 4, 5, 7]), (10, [0, 2, 3, 4, 5, 7, 62]), (11, [0, 2, 3, 4, 5]), (12, [0, 2, 3, 4, 8]), (13, [0, 2, 3, 4, 8, 9]), (14, [0, 2, 3, 4, 8, 9, 10]), (15, [2, 3, 4, 8, 9, 10, 11]), (16, [2, 3, 4, 8, 9, 10, 11, 12]), (17, [2, 3, 4, 8, 9, 10, 11, 12, 75]), (18, [2, 3, 4, 8, 9, 10, 11, 12]), (19, [2, 3, 4, 8, 9, 10, 11, 12, 13]), (20, [2, 3, 4, 8, 9, 10, 11, 12, 13, 87]), (21, [2, 3, 4, 8, 9, 10, 11, 12, 13, 87, 88]), (22, [2, 3, 4, 8, 9, 10, 11, 12, 13]), (23, [2, 3, 4, 8, 9, 10, 11, 12, 13, 96]), (24, [2, 3, 4, 8, 9, 10, 11, 12, 13]), (25, [2, 3, 4, 8, 9, 10, 11, 12, 13]), (26, [2, 3, 4, 8, 9, 10, 11, 12]), (27, [2])] [(0, [2, 1000]), (1, [2, 3, 1000]), (2, [2, 3, 1000]), (3, [2, 3, 1000]), (4, [2, 3, 1000]), (5, [2, 3, 30, 1000]), (6, [2, 3, 1000]), (7, [2, 3, 7, 30, 1000]), (8, [2, 3, 7, 30, 1000]), (9, [2, 3, 7, 30, 1000]), (10, [2, 3, 7, 30, 1000]), (11, [2, 3, 30, 1000]), (12, [2, 3, 8, 1000]), (13, [2, 3, 8, 1000]), (14, [2, 3, 8, 1000]), (15, [2, 3, 8, 1000]), (16, [2, 3, 8, 1000]), (17, [2, 3, 8, 1000]), (18, [2, 3, 8, 1000]), (19, [2, 3, 8, 13, 1000]), (20, [2, 3, 8, 13, 1000]), (21, [2, 3, 8, 13, 1000]), (22, [2, 3, 8, 13, 1000]), (23, [2, 3, 8, 13, 1000]), (24, [2, 3, 8, 13, 1000]), (25, [2, 3, 8, 13, 1000]), (26, [2, 3, 8, 1000]), (27, [2, 1000])] [(11, [30])] []
  rintro ⟨⟨(bs : List Int), (i : Int), (h : Int)⟩, ⟨⟩⟩ (hc : curOk (bs, i, h))
  have hb1 : 0 ≤ roomK (bs, i, h) ∧ roomK (bs, i, h) < 4 := below_bd (c := belowC (bs, i, h) 8) (n := 4) (by decide)
  have hl0 : 3 ≤ (room0 (bs, i, h)).1.length ∧ (room0 (bs, i, h)).1.length ≤ 10 := shape_len _
  have h1 : curOk (belowC (bs, i, h) 8) := belowC_ok hc
  have hlen := iterR_len (room0 (bs, i, h))
  have hcur : ∀ j, curOk (iterR (room0 (bs, i, h)) j).2 := iterR_cur (s := room0 (bs, i, h)) (show curOk (belowC (belowC (bs, i, h) 8) 4) from belowC_ok (belowC_ok hc))
  (repeat' (first | (with_reducible first | exact True.intro | refine zQ ?_ | (refine zG hG_ ?_; intro K_ hK_) | (refine zR ?_; intro K_ hK_) | (refine hK_ _ _ ?_; try clear hK_ K_) | refine sq_n ?_ | refine sq_r ?_ | refine sq_e ?_ | refine bq_n ?_ | refine bq_r ?_ | refine bq_q ?_ | refine zB ?_ | refine zX ?_ | refine zT ?_ | refine zK ?_ | refine gq_n ?_ | refine gq_r ?_ | refine gq_e ?_ | refine lq_n ?_ | refine lq_r ?_ | refine lq_e ?_ | refine bq_e (by decide) ?_) | ((with_reducible refine zC (b := ?b_) ?hb_ ?_ ?_); case hb_ => rfl) | ((conv => whnf); first | (with_reducible refine hK_ _ _ ?_; try clear hK_ K_) | (with_reducible refine fun (g_ : Sl) (o_ : Ow) => ?_) | (with_reducible first | exact True.intro | refine And.intro trivial ?_ | refine And.intro ?_ ?_) | exact Nat.le_of_ble_eq_true rfl | exact Or.inl rfl | (intro h_; cases h_) | (intro h_; (try simp only [vS1] at h_)) | rfl))) <;> (try (conv => whnf)) <;> (try first | change (_ : Int) ≤ _ | change (_ : Nat) ≤ _) <;> (try ((fail_if_success (with_reducible apply Exists.intro)); (try dsimp only); (try simp only [vS1])))
  all_goals (try (fail_if_success (with_reducible apply Exists.intro)); first | with_reducible assumption | omega | exact mdl (by omega) | exact ilo1 (by omega) | exact ilo2 (by omega) | exact ihi1 (by omega) (by omega) | exact ihi2 (by omega) (by omega))
  refine awp'_loopG (α := Nat) (fun j ver_ => [(5, vInt (roomK (bs, i, h) - j)), (4, vInt ((iterR (room0 (bs, i, h)) j).1.length : Nat))]) (fun j ver_ => [(3, 3, true, .box t_impl_Room [.d (.sl none (.b .pt) (iterR (room0 (bs, i, h)) j).1)])]) (fun j ver_ => [(1000, ⟨0, .box t_spec_l01Cur ((curL (iterR (room0 (bs, i, h)) j).2).map .d)⟩), (13, ⟨ver_ 13, .dead⟩)]) (fun j => j ≤ (roomK (bs, i, h)).toNat) (fun j => (roomK (bs, i, h)).toNat - j) [0, 2] [2] (0) ?_
  conv => whnf
  refine ⟨⟨?inv1_, ?vals1_, ?own1_, ?fix1_⟩, ?body1_⟩
  case' vals1_ => (repeat' (first | (with_reducible first | exact True.intro | refine And.intro ?_ ?_ | refine Head.mk ?_ ?_ ?_ ?_) | ((conv => lhs; whnf); first | (with_reducible first | rfl | exact vInt_s (by omega)) | exact rfl) | ((conv => whnf); first | (with_reducible first | exact True.intro | refine And.intro ?_ ?_)))) <;> (try (conv => lhs; whnf))
  case' own1_ => (repeat' (first | (with_reducible first | exact True.intro | refine And.intro ?_ ?_ | refine Head.mk ?_ ?_ ?_ ?_) | ((conv => lhs; whnf); first | (with_reducible first | rfl | exact vInt_s (by omega)) | exact rfl) | ((conv => whnf); first | (with_reducible first | exact True.intro | refine And.intro ?_ ?_)))) <;> (try (conv => lhs; whnf))
  case' fix1_ => (repeat' (first | (with_reducible first | exact True.intro | refine And.intro ?_ ?_ | refine Head.mk ?_ ?_ ?_ ?_) | ((conv => lhs; whnf); first | (with_reducible first | rfl | exact vInt_s (by omega)) | exact rfl) | ((conv => whnf); first | (with_reducible first | exact True.intro | refine And.intro ?_ ?_)))) <;> (try (conv => lhs; whnf))
  · exact (Int.sub_zero _).symm ▸ rfl
  · exact Nat.zero_le _
  rintro j g_ o_ v_ hj
  have hn := hlen j
  have hcj := hcur j
  have hrj := iterR_ok (s := room0 (bs, i, h)) (shape_ok _) j
  generalize hs : iterR (room0 (bs, i, h)) j = s at *
  have hstep : iterR (room0 (bs, i, h)) (j + 1) = stepR s := by show stepR _ = _; rw [hs]
  obtain ⟨xs, c⟩ := s
  have hc1 : curOk (belowC c (xs.length : Int)) := belowC_ok hcj
  have hc2 : curOk (belowC (belowC c (xs.length : Int)) 3) := belowC_ok hc1
  have hx3 : 3 ≤ xs.length ∧ xs.length ≤ 10 := by have : xs.length = _ := hn; omega
  have hbx := below_bd (c := c) (n := (xs.length : Int)) (by omega)
  (repeat' (first | (with_reducible first | exact True.intro | refine zQ ?_ | (refine zG hG_ ?_; intro K_ hK_) | (refine zR ?_; intro K_ hK_) | (refine hK_ _ _ ?_; try clear hK_ K_) | refine sq_n ?_ | refine sq_r ?_ | refine sq_e ?_ | refine bq_n ?_ | refine bq_r ?_ | refine bq_q ?_ | refine zB ?_ | refine zX ?_ | refine zT ?_ | refine zK ?_ | refine gq_n ?_ | refine gq_r ?_ | refine gq_e ?_ | refine lq_n ?_ | refine lq_r ?_ | refine lq_e ?_ | refine bq_e (by decide) ?_) | ((with_reducible refine zC (b := ?b_) ?hb_ ?_ ?_); case hb_ => rfl) | ((conv => whnf); first | (with_reducible refine hK_ _ _ ?_; try clear hK_ K_) | (with_reducible refine fun (g_ : Sl) (o_ : Ow) => ?_) | (with_reducible first | exact True.intro | refine And.intro trivial ?_ | refine And.intro ?_ ?_) | exact Nat.le_of_ble_eq_true rfl | exact Or.inl rfl | (intro h_; cases h_) | (intro h_; (try simp only [vS1] at h_)) | rfl))) <;> (try (conv => whnf)) <;> (try first | change (_ : Int) ≤ _ | change (_ : Nat) ≤ _) <;> (try ((fail_if_success (with_reducible apply Exists.intro)); (try dsimp only); (try simp only [vS1])))
  all_goals (try (fail_if_success (with_reducible apply Exists.intro)); first | with_reducible assumption | omega | exact mdl (by omega) | exact ilo1 (by omega) | exact ilo2 (by omega) | exact ihi1 (by omega) (by omega) | exact ihi2 (by omega) (by omega))
  all_goals (try (simp only [id_eq, List.length_set]; omega))
  · have hE := stepX_setXY hrj c
    have h_ : roomOk (setXY xs (belowX c xs.length).toNat (belowX (belowC c xs.length) 3) (belowX (belowC (belowC c xs.length) 3) 3)) = true := h_
    rw [hE] at h_
    have e1 : iterR (room0 (bs, i, h)) (j + 1) = (stepX xs c, stepC xs.length c) := by rw [hstep]; unfold stepR; simp only; rw [if_pos h_]
    refine ⟨j + 1, by omega, by omega, ?_⟩
    rw [e1]
    (repeat' (first | (with_reducible first | exact True.intro | refine And.intro ?_ ?_ | refine Head.mk ?_ ?_ ?_ ?_) | ((conv => lhs; whnf); first | (with_reducible first | rfl | exact vInt_s (by omega)) | exact rfl) | ((conv => whnf); first | (with_reducible first | exact True.intro | refine And.intro ?_ ?_)))) <;> (try (conv => lhs; whnf))
    · exact congrArg vInt (by rw [W_in (by omega) (by omega)]; omega)
    · exact congrArg vInt (by show ((xs.length : Nat) : Int) = ((stepX xs c).length : Int); rw [stepX_len])
    · exact congrArg (fun l => Own.box t_impl_Room [.d (.sl none (.b .pt) l)]) hE
  · have hE := stepX_setXY hrj c
    have h_ : roomOk (setXY xs (belowX c xs.length).toNat (belowX (belowC c xs.length) 3) (belowX (belowC (belowC c xs.length) 3) 3)) = false := h_
    rw [hE] at h_
    have e1 : iterR (room0 (bs, i, h)) (j + 1) = (xs, stepC xs.length c) := by rw [hstep]; unfold stepR; simp only; rw [if_neg (by rw [h_]; decide)]
    refine ⟨j + 1, by omega, by omega, ?_⟩
    rw [e1]
    (repeat' (first | (with_reducible first | exact True.intro | refine And.intro ?_ ?_ | refine Head.mk ?_ ?_ ?_ ?_) | ((conv => lhs; whnf); first | (with_reducible first | rfl | exact vInt_s (by omega)) | exact rfl) | ((conv => whnf); first | (with_reducible first | exact True.intro | refine And.intro ?_ ?_)))) <;> (try (conv => lhs; whnf))
    · exact congrArg vInt (by rw [W_in (by omega) (by omega)]; omega)
  · exact belowC_ok hcj
  · exact belowC_ok (belowC_ok hcj)
  have hj2 : j = (roomK (bs, i, h)).toNat := by omega
  have hS : roomS (bs, i, h) = (xs, c) := by unfold roomS; rw [← hj2]; exact hs
  have b1 := below_bd (c := c) (n := 4) (by decide)
  have b2 := below_bd (c := belowC c 4) (n := (xs.length : Int)) (by omega)
  have b3 := below_bd (c := belowC (belowC c 4) xs.length) (n := 5) (by decide)
  have hX : roomX (bs, i, h) = laidR xs (belowX c 4) (belowX (belowC c 4) xs.length) (belowX (belowC (belowC c 4) xs.length) 5 - 2) := by unfold roomX; rw [hS]
  have hC : roomC (bs, i, h) = belowC (belowC (belowC c 4) xs.length) 5 := by unfold roomC; rw [hS]
  generalize hT : belowX c 4 = turn at *
  generalize hF : belowX (belowC c 4) xs.length = first at *
  generalize hD : belowX (belowC (belowC c 4) xs.length) 5 = dx at *
  refine awp'_loopG (α := Nat) (fun k ver_ => [(4, vInt (xs.length : Nat)), (9, vInt turn), (10, vInt first), (11, vInt (dx - 2)), (12, vInt k)]) (fun k ver_ => [(8, 8, true, .box t_impl_Room [match k with | 0 => .d .nil | _ + 1 => .own 114 (ver_ 114)])]) (fun k ver_ => match k with | 0 => [] | _ + 1 => [(114, ⟨ver_ 114, .row t_impl_Point (.b .pt) ((List.range k).map (laidAt xs turn first (dx - 2)))⟩)]) (fun k => k ≤ xs.length) (fun k => xs.length - k) [2, 3] [2, 3, 1000] (0) ?_
  conv => whnf
  refine ⟨⟨?inv2_, ?vals2_, ?own2_, ?fix2_⟩, ?body2_⟩
  case' vals2_ => (repeat' (first | (with_reducible first | exact True.intro | refine And.intro ?_ ?_ | refine Head.mk ?_ ?_ ?_ ?_) | ((conv => lhs; whnf); first | (with_reducible first | rfl | exact vInt_s (by omega)) | exact rfl) | ((conv => whnf); first | (with_reducible first | exact True.intro | refine And.intro ?_ ?_)))) <;> (try (conv => lhs; whnf))
  case' own2_ => (repeat' (first | (with_reducible first | exact True.intro | refine And.intro ?_ ?_ | refine Head.mk ?_ ?_ ?_ ?_) | ((conv => lhs; whnf); first | (with_reducible first | rfl | exact vInt_s (by omega)) | exact rfl) | ((conv => whnf); first | (with_reducible first | exact True.intro | refine And.intro ?_ ?_)))) <;> (try (conv => lhs; whnf))
  case' fix2_ => (repeat' (first | (with_reducible first | exact True.intro | refine And.intro ?_ ?_ | refine Head.mk ?_ ?_ ?_ ?_) | ((conv => lhs; whnf); first | (with_reducible first | rfl | exact vInt_s (by omega)) | exact rfl) | ((conv => whnf); first | (with_reducible first | exact True.intro | refine And.intro ?_ ?_)))) <;> (try (conv => lhs; whnf))
  · exact congrArg vInt (W_in (by omega) (by omega))
  · exact Nat.zero_le _
  have hix : ∀ k : Nat, k < xs.length → Int.tmod (W (first + (k : Int))) (xs.length : Int) = (((first.toNat + k) % xs.length : Nat) : Int) := fun k hk => by
    rw [show first = ((first.toNat : Nat) : Int) by omega]
    exact mod_nat (by omega)
  have hlt : ∀ k : Nat, ((first.toNat + k) % xs.length) < xs.length := fun k => Nat.mod_lt _ (by omega)
  have hin : ∀ k : Nat, k < xs.length → 0 ≤ Int.tmod (W (first + (k : Int))) (xs.length : Int) ∧ Int.tmod (W (first + (k : Int))) (xs.length : Int) + 1 ≤ (xs.length : Int) := fun k hk => by
    have := hlt k
    rw [hix k hk]; omega
  have him : ∀ k : Nat, k < xs.length → (Int.tmod (W (first + (k : Int))) (xs.length : Int)).toNat = (first.toNat + k) % xs.length := fun k hk => by rw [hix k hk]; exact Int.toNat_natCast _
  rintro (_ | k) g_ o_ v_ hk
  ·
    have hG_ := kpz [(0, [0, 2]), (1, [0, 2, 3]), (2, [0, 2, 3, 4]), (3, [0, 2, 3, 4, 5]), (4, [0, 2, 3, 4, 5, 23]), (5, [0, 2, 3, 4, 5]), (6, [0, 2, 3, 4, 5, 6]), (7, [0, 2, 3, 4, 5, 6, 7]), (8, [0, 2, 3, 4, 5, 6, 7]), (9, [0, 2, 3, 4, 5, 7]), (10, [0, 2, 3, 4, 5, 7, 62]), (11, [0, 2, 3, 4, 5]), (12, [0, 2, 3, 4, 8]), (13, [0, 2, 3, 4, 8, 9]), (14, [0, 2, 3, 4, 8, 9, 10]), (15, [2, 3, 4, 8, 9, 10, 11]), (16, [2, 3, 4, 8, 9, 10, 11, 12]), (17, [2, 3, 4, 8, 9, 10, 11, 12, 75]), (18, [2, 3, 4, 8, 9, 10, 11, 12]), (19, [2, 3, 4, 8, 9, 10, 11, 12, 13]), (20, [2, 3, 4, 8, 9, 10, 11, 12, 13, 87]), (21, [2, 3, 4, 8, 9, 10, 11, 12, 13, 87, 88]), (22, [2, 3, 4, 8, 9, 10, 11, 12, 13]), (23, [2, 3, 4, 8, 9, 10, 11, 12, 13, 96]), (24, [2, 3, 4, 8, 9, 10, 11, 12, 13]), (25, [2, 3, 4, 8, 9, 10, 11, 12, 13]), (26, [2, 3, 4, 8, 9, 10, 11, 12]), (27, [2])] [(0, [2, 1000]), (1, [2, 3, 1000]), (2, [2, 3, 1000]), (3, [2, 3, 1000]), (4, [2, 3, 1000]), (5, [2, 3, 30, 1000]), (6, [2, 3, 1000]), (7, [2, 3, 7, 30, 1000]), (8, [2, 3, 7, 30, 1000]), (9, [2, 3, 7, 30, 1000]), (10, [2, 3, 7, 30, 1000]), (11, [2, 3, 30, 1000]), (12, [2, 3, 8, 1000]), (13, [2, 3, 8, 1000]), (14, [2, 3, 8, 1000]), (15, [2, 3, 8, 1000]), (16, [2, 3, 8, 1000]), (17, [2, 3, 8, 1000]), (18, [2, 3, 8, 114, 1000]), (19, [2, 3, 8, 13, 1000]), (20, [2, 3, 8, 13, 1000]), (21, [2, 3, 8, 13, 1000]), (22, [2, 3, 8, 13, 1000]), (23, [2, 3, 8, 13, 1000]), (24, [2, 3, 8, 13, 1000]), (25, [2, 3, 8, 13, 1000]), (26, [2, 3, 8, 114, 1000]), (27, [2, 1000])] [(11, [30])] []
    (repeat' (first | (with_reducible first | exact True.intro | refine zQ ?_ | (refine zG hG_ ?_; intro K_ hK_) | (refine zR ?_; intro K_ hK_) | (refine hK_ _ _ ?_; try clear hK_ K_) | refine sq_n ?_ | refine sq_r ?_ | refine sq_e ?_ | refine bq_n ?_ | refine bq_r ?_ | refine bq_q ?_ | refine zB ?_ | refine zX ?_ | refine zT ?_ | refine zK ?_ | refine gq_n ?_ | refine gq_r ?_ | refine gq_e ?_ | refine lq_n ?_ | refine lq_r ?_ | refine lq_e ?_ | refine bq_e (by decide) ?_) | ((with_reducible refine zC (b := ?b_) ?hb_ ?_ ?_); case hb_ => rfl) | ((conv => whnf); first | (with_reducible refine hK_ _ _ ?_; try clear hK_ K_) | (with_reducible refine fun (g_ : Sl) (o_ : Ow) => ?_) | (with_reducible first | exact True.intro | refine And.intro trivial ?_ | refine And.intro ?_ ?_) | exact Nat.le_of_ble_eq_true rfl | exact Or.inl rfl | (intro h_; cases h_) | (intro h_; (try simp only [vS1] at h_)) | rfl))) <;> (try (conv => whnf)) <;> (try first | change (_ : Int) ≤ _ | change (_ : Nat) ≤ _) <;> (try ((fail_if_success (with_reducible apply Exists.intro)); (try dsimp only); (try simp only [vS1])))
    all_goals (try ((fail_if_success (with_reducible apply Exists.intro)); first | with_reducible assumption | exact (hin _ (by omega)).1 | exact (hin _ (by omega)).2 | (simp only [List.length_map, List.length_range, List.length_singleton]; omega) | omega))
    · refine ⟨1, by omega, by omega, ?_⟩
      (repeat' (first | (with_reducible first | exact True.intro | refine And.intro ?_ ?_ | refine Head.mk ?_ ?_ ?_ ?_) | ((conv => lhs; whnf); first | (with_reducible first | rfl | exact vInt_s (by omega)) | exact rfl) | ((conv => whnf); first | (with_reducible first | exact True.intro | refine And.intro ?_ ?_)))) <;> (try (conv => lhs; whnf))
      exact locRow_eq (rng1 (laid_1 hrj ‹_› (him 0 (by omega)) (by omega)))
    · refine ⟨1, by omega, by omega, ?_⟩
      (repeat' (first | (with_reducible first | exact True.intro | refine And.intro ?_ ?_ | refine Head.mk ?_ ?_ ?_ ?_) | ((conv => lhs; whnf); first | (with_reducible first | rfl | exact vInt_s (by omega)) | exact rfl) | ((conv => whnf); first | (with_reducible first | exact True.intro | refine And.intro ?_ ?_)))) <;> (try (conv => lhs; whnf))
      exact locRow_eq (rng1 (laid_2 hrj ‹_› ‹_› (him 0 (by omega)) (by omega)))
    · refine ⟨1, by omega, by omega, ?_⟩
      (repeat' (first | (with_reducible first | exact True.intro | refine And.intro ?_ ?_ | refine Head.mk ?_ ?_ ?_ ?_) | ((conv => lhs; whnf); first | (with_reducible first | rfl | exact vInt_s (by omega)) | exact rfl) | ((conv => whnf); first | (with_reducible first | exact True.intro | refine And.intro ?_ ?_)))) <;> (try (conv => lhs; whnf))
      exact locRow_eq (rng1 (laid_0 hrj ‹_› ‹_› (him 0 (by omega)) (by omega)))
  ·
    have hG_ := kpz [(0, [0, 2]), (1, [0, 2, 3]), (2, [0, 2, 3, 4]), (3, [0, 2, 3, 4, 5]), (4, [0, 2, 3, 4, 5, 23]), (5, [0, 2, 3, 4, 5]), (6, [0, 2, 3, 4, 5, 6]), (7, [0, 2, 3, 4, 5, 6, 7]), (8, [0, 2, 3, 4, 5, 6, 7]), (9, [0, 2, 3, 4, 5, 7]), (10, [0, 2, 3, 4, 5, 7, 62]), (11, [0, 2, 3, 4, 5]), (12, [0, 2, 3, 4, 8]), (13, [0, 2, 3, 4, 8, 9]), (14, [0, 2, 3, 4, 8, 9, 10]), (15, [2, 3, 4, 8, 9, 10, 11]), (16, [2, 3, 4, 8, 9, 10, 11, 12]), (17, [2, 3, 4, 8, 9, 10, 11, 12, 75]), (18, [2, 3, 4, 8, 9, 10, 11, 12]), (19, [2, 3, 4, 8, 9, 10, 11, 12, 13]), (20, [2, 3, 4, 8, 9, 10, 11, 12, 13, 87]), (21, [2, 3, 4, 8, 9, 10, 11, 12, 13, 87, 88]), (22, [2, 3, 4, 8, 9, 10, 11, 12, 13]), (23, [2, 3, 4, 8, 9, 10, 11, 12, 13, 96]), (24, [2, 3, 4, 8, 9, 10, 11, 12, 13]), (25, [2, 3, 4, 8, 9, 10, 11, 12, 13]), (26, [2, 3, 4, 8, 9, 10, 11, 12]), (27, [2])] [(0, [2, 114, 1000]), (1, [2, 3, 114, 1000]), (2, [2, 3, 114, 1000]), (3, [2, 3, 114, 1000]), (4, [2, 3, 114, 1000]), (5, [2, 3, 30, 114, 1000]), (6, [2, 3, 114, 1000]), (7, [2, 3, 7, 30, 114, 1000]), (8, [2, 3, 7, 30, 114, 1000]), (9, [2, 3, 7, 30, 114, 1000]), (10, [2, 3, 7, 30, 114, 1000]), (11, [2, 3, 30, 114, 1000]), (12, [2, 3, 8, 114, 1000]), (13, [2, 3, 8, 114, 1000]), (14, [2, 3, 8, 114, 1000]), (15, [2, 3, 8, 114, 1000]), (16, [2, 3, 8, 114, 1000]), (17, [2, 3, 8, 114, 1000]), (18, [2, 3, 8, 114, 1000]), (19, [2, 3, 8, 13, 114, 1000]), (20, [2, 3, 8, 13, 114, 1000]), (21, [2, 3, 8, 13, 114, 1000]), (22, [2, 3, 8, 13, 114, 1000]), (23, [2, 3, 8, 13, 114, 1000]), (24, [2, 3, 8, 13, 114, 1000]), (25, [2, 3, 8, 13, 114, 1000]), (26, [2, 3, 8, 114, 1000]), (27, [2, 114, 1000])] [(11, [30])] []
    (repeat' (first | (with_reducible first | exact True.intro | refine zQ ?_ | (refine zG hG_ ?_; intro K_ hK_) | (refine zR ?_; intro K_ hK_) | (refine hK_ _ _ ?_; try clear hK_ K_) | refine sq_n ?_ | refine sq_r ?_ | refine sq_e ?_ | refine bq_n ?_ | refine bq_r ?_ | refine bq_q ?_ | refine zB ?_ | refine zX ?_ | refine zT ?_ | refine zK ?_ | refine gq_n ?_ | refine gq_r ?_ | refine gq_e ?_ | refine lq_n ?_ | refine lq_r ?_ | refine lq_e ?_ | refine bq_e (by decide) ?_) | ((with_reducible refine zC (b := ?b_) ?hb_ ?_ ?_); case hb_ => rfl) | ((conv => whnf); first | (with_reducible refine hK_ _ _ ?_; try clear hK_ K_) | (with_reducible refine fun (g_ : Sl) (o_ : Ow) => ?_) | (with_reducible first | exact True.intro | refine And.intro trivial ?_ | refine And.intro ?_ ?_) | exact Nat.le_of_ble_eq_true rfl | exact Or.inl rfl | (intro h_; cases h_) | (intro h_; (try simp only [vS1] at h_)) | rfl))) <;> (try (conv => whnf)) <;> (try first | change (_ : Int) ≤ _ | change (_ : Nat) ≤ _) <;> (try ((fail_if_success (with_reducible apply Exists.intro)); (try dsimp only); (try simp only [vS1])))
    all_goals (try ((fail_if_success (with_reducible apply Exists.intro)); first | with_reducible assumption | exact (hin _ (by omega)).1 | exact (hin _ (by omega)).2 | (simp only [List.length_map, List.length_range, List.length_singleton]; omega) | omega))
    · refine ⟨k + 2, by omega, by omega, ?_⟩
      (repeat' (first | (with_reducible first | exact True.intro | refine And.intro ?_ ?_ | refine Head.mk ?_ ?_ ?_ ?_) | ((conv => lhs; whnf); first | (with_reducible first | rfl | exact vInt_s (by omega)) | exact rfl) | ((conv => whnf); first | (with_reducible first | exact True.intro | refine And.intro ?_ ?_)))) <;> (try (conv => lhs; whnf))
      exact locRow_eq (rngS (laid_1 hrj ‹_› (him (k + 1) (by omega)) (by omega)))
    · refine ⟨k + 2, by omega, by omega, ?_⟩
      (repeat' (first | (with_reducible first | exact True.intro | refine And.intro ?_ ?_ | refine Head.mk ?_ ?_ ?_ ?_) | ((conv => lhs; whnf); first | (with_reducible first | rfl | exact vInt_s (by omega)) | exact rfl) | ((conv => whnf); first | (with_reducible first | exact True.intro | refine And.intro ?_ ?_)))) <;> (try (conv => lhs; whnf))
      exact locRow_eq (rngS (laid_2 hrj ‹_› ‹_› (him (k + 1) (by omega)) (by omega)))
    · refine ⟨k + 2, by omega, by omega, ?_⟩
      (repeat' (first | (with_reducible first | exact True.intro | refine And.intro ?_ ?_ | refine Head.mk ?_ ?_ ?_ ?_) | ((conv => lhs; whnf); first | (with_reducible first | rfl | exact vInt_s (by omega)) | exact rfl) | ((conv => whnf); first | (with_reducible first | exact True.intro | refine And.intro ?_ ?_)))) <;> (try (conv => lhs; whnf))
      exact locRow_eq (rngS (laid_0 hrj ‹_› ‹_› (him (k + 1) (by omega)) (by omega)))
    · show dOf _ = some _
      rw [hC]; rfl
    · rw [hX, show k + 1 = xs.length by omega]; rfl
def drawRoomM (bs : List Int) : List Pt := roomX (newC bs)
def drawRoomC : Con := mkCon [.sl (.b .u8)] (fun x => x.1.length ≤ 1048576) fun x => .val (.agg [.d (.sl none (.b .pt) (drawRoomM x.1))])
theorem drawRoom_ok : Good1 Try.prog n_spec_DrawRoom drawRoomC := by
  refine good_ofG (tys := tyL) (env := []) (envw := []) (envd := [(n_spec_l01New, l01NewC), (n_spec_l04Room, l04RoomC)]) [4, 5] [4, 5] [] [] [4, 5] mixed tys trivial trivial ⟨l01New_ok, l04Room_ok, trivial⟩ Try.func12 rfl (by kernel_rfl) (by decide) (by kernel_rfl) ?_
  have hG_ := kpz [(0, [0, 2]), (1, [2])] [(0, [2]), (1, [2, 4])] [] []
  rintro ⟨(bs : List Int), ⟨⟩⟩ (h1 : bs.length ≤ _)
  have hc := newC_ok h1
  (repeat' (first | (with_reducible first | exact True.intro | refine zQ ?_ | (refine zG hG_ ?_; intro K_ hK_) | (refine zR ?_; intro K_ hK_) | (refine hK_ _ _ ?_; try clear hK_ K_) | refine sq_n ?_ | refine sq_r ?_ | refine sq_e ?_ | refine bq_n ?_ | refine bq_r ?_ | refine bq_q ?_ | refine zB ?_ | refine zX ?_ | refine zT ?_ | refine zK ?_ | refine gq_n ?_ | refine gq_r ?_ | refine gq_e ?_ | refine lq_n ?_ | refine lq_r ?_ | refine lq_e ?_ | refine bq_e (by decide) ?_) | ((with_reducible refine zC (b := ?b_) ?hb_ ?_ ?_); case hb_ => rfl) | ((conv => whnf); first | (with_reducible refine hK_ _ _ ?_; try clear hK_ K_) | (with_reducible refine fun (g_ : Sl) (o_ : Ow) => ?_) | (with_reducible first | exact True.intro | refine And.intro trivial ?_ | refine And.intro ?_ ?_) | exact Nat.le_of_ble_eq_true rfl | exact Or.inl rfl | (intro h_; cases h_) | (intro h_; (try simp only [vS1] at h_)) | rfl))) <;> (try (conv => whnf)) <;> (try first | change (_ : Int) ≤ _ | change (_ : Nat) ≤ _) <;> (try ((fail_if_success (with_reducible apply Exists.intro)); (try dsimp only); (try simp only [vS1])))
  all_goals (try (fail_if_success (with_reducible apply Exists.intro)); first | with_reducible assumption | omega | exact mdl (by omega) | exact ilo1 (by omega) | exact ilo2 (by omega) | exact ihi1 (by omega) (by omega) | exact ihi2 (by omega) (by omega))
end Go.Proofs.Ytnepfcnlngpchaa
namespace Go.Proofs.Ytnepfcnlngpchaa
open Go.RowKit Go.Proofs.Ytnepfcnlngpchaa.Nm
set_option maxRecDepth 10000
theorem shape_bd (k : Int) : ∀ q ∈ shapeM k, 0 ≤ q.1 ∧ q.1 ≤ 10 ∧ 0 ≤ q.2 ∧ q.2 ≤ 10 := by
  unfold shapeM
  repeat' split
  all_goals decide
theorem stepR_bd {s : List Pt × Cur} {j : Int} (hr : roomOk s.1 = true) (h : ∀ q ∈ s.1, -j ≤ q.1 ∧ q.1 ≤ 10 + j ∧ -j ≤ q.2 ∧ q.2 ≤ 10 + j) : ∀ q ∈ (stepR s).1, -(j + 1) ≤ q.1 ∧ q.1 ≤ 10 + (j + 1) ∧ -(j + 1) ≤ q.2 ∧ q.2 ≤ 10 + (j + 1) := by
  have h3 := (roomOk_iff.1 hr).1
  intro q hq
  have old : q ∈ s.1 → -(j + 1) ≤ q.1 ∧ q.1 ≤ 10 + (j + 1) ∧ -(j + 1) ≤ q.2 ∧ q.2 ≤ 10 + (j + 1) := fun hq => by have := h q hq; omega
  unfold stepR at hq
  simp only at hq
  split at hq
  · unfold stepX at hq
    rcases List.mem_or_eq_of_mem_set hq with hq | rfl
    · exact old hq
    · have hb := below_bd (c := s.2) (n := (s.1.length : Int)) (by omega)
      have hi : (belowX s.2 s.1.length).toNat < s.1.length := by omega
      have := h _ (List.getElem_mem hi)
      rw [← getD_lt (0, 0) hi] at this
      have b1 := below_bd (c := belowC s.2 s.1.length) (n := 3) (by decide)
      have b2 := below_bd (c := belowC (belowC s.2 s.1.length) 3) (n := 3) (by decide)
      simp only
      omega
  · exact old hq
theorem iterR_bd (c : Cur) : ∀ j : Nat, ∀ q ∈ (iterR (room0 c) j).1, -(j : Int) ≤ q.1 ∧ q.1 ≤ 10 + (j : Int) ∧ -(j : Int) ≤ q.2 ∧ q.2 ≤ 10 + (j : Int)
  | 0 => fun q hq => by have := shape_bd _ q hq; omega
  | j + 1 => stepR_bd (iterR_ok (shape_ok _) j) (iterR_bd c j)
def laidMv (turn dx : Int) : Geo.Mv := if turn = 1 then ⟨0, 1, dx, 0, rfl⟩ else if turn = 2 then ⟨-1, 0, dx, 0, rfl⟩ else ⟨1, 0, dx, 0, rfl⟩
theorem laidMv_app (turn dx : Int) (p : Pt) : laidP turn dx p = (laidMv turn dx).app p := by
  unfold laidP turnP laidMv Geo.Mv.app
  split
  · refine Prod.ext ?_ ?_ <;> simp only <;> omega
  · split
    · refine Prod.ext ?_ ?_ <;> simp only <;> omega
    · refine Prod.ext ?_ ?_ <;> simp only <;> omega
theorem laidR_len (xs : List Pt) (turn first dx : Int) : (laidR xs turn first dx).length = xs.length := by unfold laidR; simp
theorem laid_ok {xs : List Pt} (hr : roomOk xs = true) {turn first dx : Int} (hb : ∀ q ∈ xs, -30 ≤ q.1 ∧ q.1 ≤ 30 ∧ -30 ≤ q.2 ∧ q.2 ≤ 30) (hd : -2 ≤ dx ∧ dx ≤ 2) : roomOk (laidR xs turn first dx) = true := by
  have h3 := (roomOk_iff.1 hr).1
  have hn : 0 < xs.length := by omega
  refine Geo.room_moved hr first.toNat (laidMv turn dx) (laidR_len _ _ _ _) (fun j => ?_) fun q hq => ?_
  · show (laidR xs turn first dx).getD (j % (laidR xs turn first dx).length) (0, 0) = _
    rw [laidR_len]
    have hj := Nat.mod_lt j hn
    rw [getD_lt _ (by rw [laidR_len]; exact hj)]
    unfold laidR
    rw [List.getElem_map, List.getElem_range]
    show laidP turn dx (xs.getD ((first.toNat + j % xs.length) % xs.length) (0, 0)) = _
    rw [laidMv_app, Nat.add_mod_mod]
  · unfold laidR at hq
    obtain ⟨k, -, rfl⟩ := List.mem_map.1 hq
    have hm : (first.toNat + k) % xs.length < xs.length := Nat.mod_lt _ hn
    have := hb _ (List.getElem_mem hm)
    rw [← getD_lt (0, 0) hm] at this
    show ptOk (laidP turn dx (xs.getD _ _)) = true
    refine ptOk_iff.2 ?_
    unfold laidP turnP
    repeat' split
    all_goals simp only; omega
theorem roomX_ok (c : Cur) : roomOk (roomX c) = true := by
  have hK : 0 ≤ roomK c ∧ roomK c < 4 := below_bd (by decide)
  refine laid_ok (iterR_ok (s := room0 c) (shape_ok _) _) (fun q hq => ?_) ?_
  · have := iterR_bd c _ q hq
    omega
  · have := below_bd (c := belowC (belowC (roomS c).2 4) (roomS c).1.length) (n := 5) (by decide)
    omega
theorem drawRoom_room (bs : List Int) : roomOk (drawRoomM bs) = true := roomX_ok _
end Go.Proofs.Ytnepfcnlngpchaa
namespace Go.Proofs.Ytnepfcnlngpchaa
open Go.RowKit Go.Proofs.Ytnepfcnlngpchaa.Nm
set_option maxRecDepth 10000
set_option maxHeartbeats 4000000
theorem at_bd {bs : List Int} (h : ∀ b ∈ bs, 0 ≤ b ∧ b ≤ 255) (i : Int) : 0 ≤ atX bs i ∧ atX bs i ≤ 255 := by
  unfold atX
  split
  · omega
  · have : 0 ≤ bs.getD (Int.tmod (W (W (i * 5) + 1)) bs.length).toNat 0 ∧ bs.getD (Int.tmod (W (W (i * 5) + 1)) bs.length).toNat 0 ≤ 255 := by
      rcases Nat.lt_or_ge (Int.tmod (W (W (i * 5) + 1)) bs.length).toNat bs.length with g | g
      · rw [getD_lt _ g]; exact h _ (List.getElem_mem g)
      · rw [List.getD_eq_getElem?_getD, List.getElem?_eq_none g]; exact ⟨by decide, by decide⟩
    show 0 ≤ IntKind.i64.wrap _ ∧ IntKind.i64.wrap _ ≤ 255
    rw [W_in (by omega) (by omega)]; exact this
theorem mask_len {xs : List Pt} (hr : roomOk xs = true) {z : Int} (h0 : 0 ≤ z) (h : z < xs.length) : (maskM xs z).length = (floorPts xs).length := by
  obtain ⟨k, rfl⟩ := Int.eq_ofNat_of_zero_le h0
  rw [mask_yes hr (by omega), List.length_map]
theorem fnFewest_ok : Good1 Try.prog n_laws_FnFewest lawCon8 := by
  refine good_ofG (tys := tyL) (env := [(n_laws_big, bigC), (n_spec_DrawRoom, drawRoomC), (n_impl_FewestCorners, fewC), (n_impl_IsNeeded, needC), (n_laws_at, atC), (n_impl_SeenMask, maskC), (n_impl_CountGuards, cntC), (n_impl_PointsOf, ptsOfC), (n_impl_SeesAll, seesAllC), (n_impl_FloorPoints, floorTC), (n_impl_OneGuard, kerPtsC)]) (envw := []) (envd := []) [] [] [] [] [] mixed tys ⟨big_ok, drawRoom_ok, iFewest_ok, iIsNeeded_ok, at_ok, iSeenMask_ok, iCount_ok, iPointsOf_ok, iSeesAll_ok, iFloorPoints_ok, iOneGuard_ok, trivial⟩ trivial trivial Try.func6 rfl (by kernel_rfl) (by decide) (by kernel_rfl) ?_
  have hG_ := kpz [(0, [0]), (1, [0, 9]), (2, [2]), (3, [0, 3]), (4, [0, 3, 4]), (5, [0, 3, 4, 5]), (6, [0, 3, 4, 5, 17]), (7, [0, 3, 4, 5]), (8, [0, 3, 4, 5, 24]), (9, [2]), (10, [3, 4, 6]), (11, [3, 4, 6, 7]), (12, [2])] [(3, [3]), (4, [3]), (5, [3]), (6, [3]), (7, [3]), (8, [3]), (10, [3]), (11, [3])] [] []
  rintro ⟨(bs : List Int), ⟨⟩⟩ ⟨(h0 : bs.length ≤ _), (hby : ∀ b ∈ bs, 0 ≤ b ∧ b ≤ 255)⟩
  have hr := drawRoom_room bs
  have hl := room_len hr
  have hf := floor_len (drawRoomM bs)
  have hat := at_bd hby 0
  (repeat' (first | (with_reducible first | exact True.intro | refine zQ ?_ | (refine zG hG_ ?_; intro K_ hK_) | (refine zR ?_; intro K_ hK_) | (refine hK_ _ _ ?_; try clear hK_ K_) | refine sq_n ?_ | refine sq_r ?_ | refine sq_e ?_ | refine bq_n ?_ | refine bq_r ?_ | refine bq_q ?_ | refine zB ?_ | refine zX ?_ | refine zT ?_ | refine zK ?_ | refine gq_n ?_ | refine gq_r ?_ | refine gq_e ?_ | refine lq_n ?_ | refine lq_r ?_ | refine lq_e ?_ | refine bq_e (by decide) ?_) | ((with_reducible refine zC (b := ?b_) ?hb_ ?_ ?_); case hb_ => rfl) | ((conv => whnf); first | (with_reducible refine hK_ _ _ ?_; try clear hK_ K_) | (with_reducible refine fun (g_ : Sl) (o_ : Ow) => ?_) | (with_reducible first | exact True.intro | refine And.intro trivial ?_ | refine And.intro ?_ ?_) | exact Nat.le_of_ble_eq_true rfl | exact Or.inl rfl | (intro h_; cases h_) | (intro h_; (try simp only [vS1] at h_)) | rfl))) <;> (try (conv => whnf)) <;> (try first | change (_ : Int) ≤ _ | change (_ : Nat) ≤ _) <;> (try ((fail_if_success (with_reducible apply Exists.intro)); (try dsimp only); (try simp only [vS1]))) <;> (try simp (disch := omega) only [vS3, Int.add_sub_cancel, tn1, tnp, tnc, vS2] at *)
  all_goals (try ((fail_if_success (with_reducible apply Exists.intro)); first | with_reducible assumption | omega))
  generalize drawRoomM bs = xs at *
  have d1 := few_third hr
  have d2 := few_sees hr
  obtain ⟨d3, hri, -, -⟩ := few_spec hr
  have d4 : ∀ k, k < (fewM xs).length → needM xs (fewM xs) (k : Int) = true := fun k hk => by
    have e := pts_map hr hri.corners
    unfold needM
    rw [btw_iff.2 (by rw [e, List.length_map]; omega), d2, Int.toNat_natCast, few_needed hr hk]; rfl
  have d5 : (maskM xs (Int.tmod (atX bs 0) xs.length)).length = (floorPts xs).length := mask_len hr (Int.tmod_nonneg _ hat.1) (Int.tmod_lt_of_pos _ (by omega))
  have d6 : (fewM xs).length = 1 → 0 < (kerPts xs).length := few_one hr
  have d7 := kers_len xs
  have d8 : (ptsOf xs (fewM xs)).length ≤ 10 := ptsOf_len (by omega)
  refine awp'_loopG (α := Nat) (fun k ver_ => [(5, vInt k)]) (fun k ver_ => []) (fun k ver_ => []) (fun k => k ≤ (fewM xs).length) (fun k => (fewM xs).length - k) [0, 3, 4] [3] (0) ?_
  conv => whnf
  refine ⟨⟨?inv1_, ?vals1_, ?own1_, ?fix1_⟩, ?body1_⟩
  case' vals1_ => (repeat' (first | (with_reducible first | exact True.intro | refine And.intro ?_ ?_ | refine Head.mk ?_ ?_ ?_ ?_) | ((conv => lhs; whnf); first | (with_reducible first | rfl | exact vInt_s (by omega)) | exact rfl) | ((conv => whnf); first | (with_reducible first | exact True.intro | refine And.intro ?_ ?_)))) <;> (try (conv => lhs; whnf))
  case' own1_ => (repeat' (first | (with_reducible first | exact True.intro | refine And.intro ?_ ?_ | refine Head.mk ?_ ?_ ?_ ?_) | ((conv => lhs; whnf); first | (with_reducible first | rfl | exact vInt_s (by omega)) | exact rfl) | ((conv => whnf); first | (with_reducible first | exact True.intro | refine And.intro ?_ ?_)))) <;> (try (conv => lhs; whnf))
  case' fix1_ => (repeat' (first | (with_reducible first | exact True.intro | refine And.intro ?_ ?_ | refine Head.mk ?_ ?_ ?_ ?_) | ((conv => lhs; whnf); first | (with_reducible first | rfl | exact vInt_s (by omega)) | exact rfl) | ((conv => whnf); first | (with_reducible first | exact True.intro | refine And.intro ?_ ?_)))) <;> (try (conv => lhs; whnf))
  · exact Nat.zero_le _
  rintro k g_ o_ v_ hk
  (repeat' (first | (with_reducible first | exact True.intro | refine zQ ?_ | (refine zG hG_ ?_; intro K_ hK_) | (refine zR ?_; intro K_ hK_) | (refine hK_ _ _ ?_; try clear hK_ K_) | refine sq_n ?_ | refine sq_r ?_ | refine sq_e ?_ | refine bq_n ?_ | refine bq_r ?_ | refine bq_q ?_ | refine zB ?_ | refine zX ?_ | refine zT ?_ | refine zK ?_ | refine gq_n ?_ | refine gq_r ?_ | refine gq_e ?_ | refine lq_n ?_ | refine lq_r ?_ | refine lq_e ?_ | refine bq_e (by decide) ?_) | ((with_reducible refine zC (b := ?b_) ?hb_ ?_ ?_); case hb_ => rfl) | ((conv => whnf); first | (with_reducible refine hK_ _ _ ?_; try clear hK_ K_) | (with_reducible refine fun (g_ : Sl) (o_ : Ow) => ?_) | (with_reducible first | exact True.intro | refine And.intro trivial ?_ | refine And.intro ?_ ?_) | exact Nat.le_of_ble_eq_true rfl | exact Or.inl rfl | (intro h_; cases h_) | (intro h_; (try simp only [vS1] at h_)) | rfl))) <;> (try (conv => whnf)) <;> (try first | change (_ : Int) ≤ _ | change (_ : Nat) ≤ _) <;> (try ((fail_if_success (with_reducible apply Exists.intro)); (try dsimp only); (try simp only [vS1]))) <;> (try simp (disch := omega) only [vS3, Int.add_sub_cancel, tn1, tnp, tnc, vS2] at *)
  all_goals (try ((fail_if_success (with_reducible apply Exists.intro)); first | with_reducible assumption | omega))
  · exact absurd ((d4 k (by assumption)).symm.trans ‹needM xs _ _ = false›) (by decide)
  · refine ⟨k + 1, by omega, by omega, ?_⟩
    (repeat' (first | (with_reducible first | exact True.intro | refine And.intro ?_ ?_ | refine Head.mk ?_ ?_ ?_ ?_) | ((conv => lhs; whnf); first | (with_reducible first | rfl | exact vInt_s (by omega)) | exact rfl) | ((conv => whnf); first | (with_reducible first | exact True.intro | refine And.intro ?_ ?_)))) <;> (try (conv => lhs; whnf))
  · exact absurd (d2.symm.trans ‹seesAllM xs _ = false›) (by decide)
  · exact absurd trivial ‹¬ True›
end Go.Proofs.Ytnepfcnlngpchaa
