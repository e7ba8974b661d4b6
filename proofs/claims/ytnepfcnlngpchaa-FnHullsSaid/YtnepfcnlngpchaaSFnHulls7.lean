/- What the proof of 'FnHulls' needs, part 7: conditions and steps of the functions that it reaches, and the mathematics. -/
import Derived.Test.YtnepfcnlngpchaaRows
import Derived.WalkKit
import Derived.WalkSpells
import Derived.Below
import Derived.Orders
import Derived.Maps.AppendAt
import Derived.Laws.StructEq
import Derived.WideShapes
import Derived.ChangeSlices
import Derived.Deep.Strs
import Derived.ChangeOld
import Derived.Shelf.SlLaysF0
import Derived.Shelf.SlSortCmp.InsertionK
import Derived.Shelf.SlSortCmp.SmallK
import Derived.Shelf.SlSortCmp.Xorshift
import Derived.Sort.LotA
import Derived.Shelf.SlSortCmp.NoneTotal
import Derived.Shelf.Slices.Delete
import Derived.Shelf.Sort.Plain
import Derived.Test.YtnepfcnlngpchaaSFnHulls6
set_option linter.unusedSimpArgs false
set_option linter.unusedVariables false
namespace Go.Proofs.Ytnepfcnlngpchaa
open Go.RowKit Go.Proofs.Ytnepfcnlngpchaa.Nm
set_option maxRecDepth 10000
abbrev Cur := List Int × Int × Int
def curL (c : Cur) : List D := [.sl none (.b .u8) c.1, .int .i64 c.2.1, .int .i64 c.2.2]
structure curOk (c : Cur) : Prop where
  len : c.1.length ≤ 1048576
  lo : 0 ≤ c.2.1
  hi : c.2.1 ≤ 1048576
def newH (bs : List Int) : Nat → Int
  | 0 => W (99143 + (bs.length : Int))
  | i + 1 => bitI .and .i64 (W (W (W (newH bs i * 131) + W (bs.getD i 0)) + 7)) 1073741823
def newC (bs : List Int) : Cur := (bs, 0, newH bs (min bs.length 4000))
def byteH (c : Cur) : Int := W (c.2.2 * 6364136223846793005 + 1442695040888963407)
def byte0 (c : Cur) : Int := bitI .and .i64 (bitI .xor .i64 (bitI .shr .i64 (byteH c) 33) (bitI .shr .i64 (byteH c) 45)) 255
def byteX (c : Cur) : Int := if c.2.1 < (c.1.length : Int) then bitI .and .i64 (W (byte0 c + W (c.1.getD c.2.1.toNat 0))) 255 else byte0 c
def byteC (c : Cur) : Cur := (c.1, if c.2.1 < (c.1.length : Int) then c.2.1 + 1 else c.2.1, byteH c)
theorem and255 (x : Int) : 0 ≤ bitI .and .i64 x 255 ∧ bitI .and .i64 x 255 ≤ 255 := by
  have h : (BitVec.ofInt IntKind.i64.bits x &&& BitVec.ofInt IntKind.i64.bits 255).toNat ≤ 255 := by
    rw [BitVec.toNat_and]
    exact Nat.le_trans Nat.and_le_right (by decide)
  have e : bitI .and .i64 x 255 = (((BitVec.ofInt IntKind.i64.bits x &&& BitVec.ofInt IntKind.i64.bits 255).toNat : Nat) : Int) := W_in (by omega) (by omega)
  rw [e]
  omega
theorem byteX_bd (c : Cur) : 0 ≤ byteX c ∧ byteX c ≤ 255 := by
  unfold byteX
  split
  · exact and255 _
  · exact and255 _
theorem byteC_ok {c : Cur} (h : curOk c) : curOk (byteC c) := by
  obtain ⟨h1, h2, h3⟩ := h
  refine ⟨h1, ?_, ?_⟩ <;> (unfold byteC; simp only; split <;> omega)
def belowX (c : Cur) (n : Int) : Int :=
  if n ≤ 0 then 0 else if n ≤ 256 then (byteX c).tmod n
  else (byteX c * 16777216 + byteX (byteC c) * 65536 + byteX (byteC (byteC c)) * 256 + byteX (byteC (byteC (byteC c)))).tmod n
def belowC (c : Cur) (n : Int) : Cur := if n ≤ 0 then c else if n ≤ 256 then byteC c else byteC (byteC (byteC (byteC c)))
theorem below_bd {c : Cur} {n : Int} (h : 0 < n) : 0 ≤ belowX c n ∧ belowX c n < n := by
  unfold belowX
  have h1 := byteX_bd c
  have h2 := byteX_bd (byteC c)
  have h3 := byteX_bd (byteC (byteC c))
  have h4 := byteX_bd (byteC (byteC (byteC c)))
  rw [if_neg (by omega)]
  split
  · exact ⟨Int.tmod_nonneg _ h1.1, Int.tmod_lt_of_pos _ h⟩
  · exact ⟨Int.tmod_nonneg _ (by omega), Int.tmod_lt_of_pos _ h⟩
theorem belowC_ok {c : Cur} {n : Int} (h : curOk c) : curOk (belowC c n) := by
  unfold belowC
  split
  · exact h
  · split
    · exact byteC_ok h
    · exact byteC_ok (byteC_ok (byteC_ok (byteC_ok h)))
theorem newC_ok {bs : List Int} (h : bs.length ≤ 1048576) : curOk (newC bs) := ⟨h, Int.le_refl 0, show (0 : Int) ≤ 1048576 by decide⟩
def l01NewC : ConD := mkConN [.sl (.b .u8)] t_spec_l01Cur (fun x => x.1.length ≤ 1048576) fun x => curL (newC x.1)
set_option maxRecDepth 200000 in
theorem l01New_ok : GoodD Try.prog n_spec_l01New l01NewC := by
  refine good_ofN (tys := tyL) (env := []) (envw := []) (envd := []) [31] [] [] [] [] mixed tys trivial trivial trivial Try.func62 rfl (by kernel_rfl) (by decide) (by kernel_rfl) ?_
  have hG_ := kpz [(0, [0]), (1, [0, 3]), (2, [0, 3, 4]), (3, [0, 3, 4, 15]), (4, [0, 3, 4]), (5, [0, 3, 4]), (6, [2])] [] [] []
  rintro ⟨(bs : List Int), ⟨⟩⟩ (h1 : bs.length ≤ _)
  (repeat' (first | (with_reducible first | exact True.intro | refine zQ ?_ | (refine zG hG_ ?_; intro K_ hK_) | (refine zR ?_; intro K_ hK_) | (refine hK_ _ _ ?_; try clear hK_ K_) | refine sq_n ?_ | refine sq_r ?_ | refine sq_e ?_ | refine bq_n ?_ | refine bq_r ?_ | refine bq_q ?_ | refine zB ?_ | refine zX ?_ | refine zT ?_ | refine zK ?_ | refine gq_n ?_ | refine gq_r ?_ | refine gq_e ?_ | refine lq_n ?_ | refine lq_r ?_ | refine lq_e ?_ | refine bq_e (by decide) ?_) | ((with_reducible refine zC (b := ?b_) ?hb_ ?_ ?_); case hb_ => rfl) | ((conv => whnf); first | (with_reducible refine hK_ _ _ ?_; try clear hK_ K_) | (with_reducible refine fun (g_ : Sl) (o_ : Ow) => ?_) | (with_reducible first | exact True.intro | refine And.intro trivial ?_ | refine And.intro ?_ ?_) | exact Nat.le_of_ble_eq_true rfl | exact Or.inl rfl | (intro h_; cases h_) | (intro h_; (try simp only [vS1] at h_)) | rfl))) <;> (try (conv => whnf)) <;> (try first | change (_ : Int) ≤ _ | change (_ : Nat) ≤ _) <;> (try ((fail_if_success (with_reducible apply Exists.intro)); (try dsimp only); (try simp only [vS1])))
  refine awp'_loopG (α := Nat) (fun i ver_ => [(3, vInt (newH bs i)), (4, vInt i)]) (fun i ver_ => []) (fun i ver_ => []) (fun i => i ≤ bs.length ∧ i ≤ 4000) (fun i => bs.length - i) [0] [] (0) ?_
  conv => whnf
  refine ⟨⟨?inv1_, ?vals1_, ?own1_, ?fix1_⟩, ?body1_⟩
  case' vals1_ => (repeat' (first | (with_reducible first | exact True.intro | refine And.intro ?_ ?_ | refine Head.mk ?_ ?_ ?_ ?_) | ((conv => lhs; whnf); first | (with_reducible first | rfl | exact vInt_s (by omega)) | exact rfl) | ((conv => whnf); first | (with_reducible first | exact True.intro | refine And.intro ?_ ?_)))) <;> (try (conv => lhs; whnf))
  case' own1_ => (repeat' (first | (with_reducible first | exact True.intro | refine And.intro ?_ ?_ | refine Head.mk ?_ ?_ ?_ ?_) | ((conv => lhs; whnf); first | (with_reducible first | rfl | exact vInt_s (by omega)) | exact rfl) | ((conv => whnf); first | (with_reducible first | exact True.intro | refine And.intro ?_ ?_)))) <;> (try (conv => lhs; whnf))
  case' fix1_ => (repeat' (first | (with_reducible first | exact True.intro | refine And.intro ?_ ?_ | refine Head.mk ?_ ?_ ?_ ?_) | ((conv => lhs; whnf); first | (with_reducible first | rfl | exact vInt_s (by omega)) | exact rfl) | ((conv => whnf); first | (with_reducible first | exact True.intro | refine And.intro ?_ ?_)))) <;> (try (conv => lhs; whnf))
  · exact ⟨Nat.zero_le _, Nat.zero_le _⟩
  rintro i g_ o_ v_ ⟨hi, hi2⟩
  have hG_ := kpz [(0, [0]), (1, [0, 3]), (2, [0, 3, 4]), (3, [0, 3, 4, 15]), (4, [0, 3, 4]), (5, [0, 3, 4]), (6, [2])] [(6, [31])] [] []
  (repeat' (first | (with_reducible first | exact True.intro | refine zQ ?_ | (refine zG hG_ ?_; intro K_ hK_) | (refine zR ?_; intro K_ hK_) | (refine hK_ _ _ ?_; try clear hK_ K_) | refine sq_n ?_ | refine sq_r ?_ | refine sq_e ?_ | refine bq_n ?_ | refine bq_r ?_ | refine bq_q ?_ | refine zB ?_ | refine zX ?_ | refine zT ?_ | refine zK ?_ | refine gq_n ?_ | refine gq_r ?_ | refine gq_e ?_ | refine lq_n ?_ | refine lq_r ?_ | refine lq_e ?_ | refine bq_e (by decide) ?_) | ((with_reducible refine zC (b := ?b_) ?hb_ ?_ ?_); case hb_ => rfl) | ((conv => whnf); first | (with_reducible refine hK_ _ _ ?_; try clear hK_ K_) | (with_reducible refine fun (g_ : Sl) (o_ : Ow) => ?_) | (with_reducible first | exact True.intro | refine And.intro trivial ?_ | refine And.intro ?_ ?_) | exact Nat.le_of_ble_eq_true rfl | exact Or.inl rfl | (intro h_; cases h_) | (intro h_; (try simp only [vS1] at h_)) | rfl))) <;> (try (conv => whnf)) <;> (try first | change (_ : Int) ≤ _ | change (_ : Nat) ≤ _) <;> (try ((fail_if_success (with_reducible apply Exists.intro)); (try dsimp only); (try simp only [vS1])))
  all_goals (try (fail_if_success (with_reducible apply Exists.intro)); first | with_reducible assumption | omega | exact mdl (by omega) | exact ilo1 (by omega) | exact ilo2 (by omega) | exact ihi1 (by omega) (by omega) | exact ihi2 (by omega) (by omega))
  · refine ⟨i + 1, by omega, by omega, ?_⟩
    (repeat' (first | (with_reducible first | exact True.intro | refine And.intro ?_ ?_ | refine Head.mk ?_ ?_ ?_ ?_) | ((conv => lhs; whnf); first | (with_reducible first | rfl | exact vInt_s (by omega)) | exact rfl) | ((conv => whnf); first | (with_reducible first | exact True.intro | refine And.intro ?_ ?_)))) <;> (try (conv => lhs; whnf))
  · show dOf _ = some _
    unfold curL newC
    rw [show min bs.length 4000 = i by omega]; rfl
  · show dOf _ = some _
    unfold curL newC
    rw [show min bs.length 4000 = i by omega]; rfl
def l01ByteC : ConD := mkConB [.cur] 0 t_spec_l01Cur (fun x => curOk x.1) (fun x => vInt (byteX x.1)) fun x => curL (byteC x.1)
theorem l01Byte_ok : GoodD Try.prog n_spec_l01Byte l01ByteC := by
  refine good_ofB (tys := tyL) (env := []) (envw := []) (envd := []) [1000] [] [] [] [] mixed tys trivial trivial trivial Try.func116 rfl (by kernel_rfl) ⟨by decide, rfl⟩ (by kernel_rfl) ?_
  have hG_ := kpz [(0, [0]), (1, [0]), (2, [0, 3]), (3, [0, 3, 34]), (4, [0, 3]), (5, [3]), (6, [2])] [(0, [1000]), (1, [1000]), (2, [1000]), (3, [1000]), (4, [1000]), (5, [1000]), (6, [1000])] [] []
  rintro ⟨⟨(bs : List Int), (i : Int), (h : Int)⟩, ⟨⟩⟩ ⟨(h1 : bs.length ≤ _), (h2 : 0 ≤ i), (h3 : i ≤ _)⟩
  (repeat' (first | (with_reducible first | exact True.intro | refine zQ ?_ | (refine zG hG_ ?_; intro K_ hK_) | (refine zR ?_; intro K_ hK_) | (refine hK_ _ _ ?_; try clear hK_ K_) | refine sq_n ?_ | refine sq_r ?_ | refine sq_e ?_ | refine bq_n ?_ | refine bq_r ?_ | refine bq_q ?_ | refine zB ?_ | refine zX ?_ | refine zT ?_ | refine zK ?_ | refine gq_n ?_ | refine gq_r ?_ | refine gq_e ?_ | refine lq_n ?_ | refine lq_r ?_ | refine lq_e ?_ | refine bq_e (by decide) ?_) | ((with_reducible refine zC (b := ?b_) ?hb_ ?_ ?_); case hb_ => rfl) | ((conv => whnf); first | (with_reducible refine hK_ _ _ ?_; try clear hK_ K_) | (with_reducible refine fun (g_ : Sl) (o_ : Ow) => ?_) | (with_reducible first | exact True.intro | refine And.intro trivial ?_ | refine And.intro ?_ ?_) | exact Nat.le_of_ble_eq_true rfl | exact Or.inl rfl | (intro h_; cases h_) | (intro h_; (try simp only [vS1] at h_)) | rfl))) <;> (try (conv => whnf)) <;> (try first | change (_ : Int) ≤ _ | change (_ : Nat) ≤ _) <;> (try ((fail_if_success (with_reducible apply Exists.intro)); (try dsimp only); (try simp only [vS1])))
  all_goals (try (fail_if_success (with_reducible apply Exists.intro)); first | with_reducible assumption | omega | exact mdl (by omega) | exact ilo1 (by omega) | exact ilo2 (by omega) | exact ihi1 (by omega) (by omega) | exact ihi2 (by omega) (by omega))
  · show dOf _ = some _
    unfold curL byteC byteH
    simp only [W_l1, if_pos h_, W_in (show -9223372036854775808 ≤ i + 1 by omega) (show i + 1 ≤ 9223372036854775807 by omega)]; rfl
  · unfold byteX byte0 byteH
    simp only [W_l1, if_pos h_]
  · show dOf _ = some _
    unfold curL byteC byteH
    simp only [W_l1, if_neg h_]; rfl
  · unfold byteX byte0 byteH
    simp only [W_l1, if_neg h_]
def l01BelowC : ConD := mkConB [.cur, .int] 0 t_spec_l01Cur (fun x => curOk x.1) (fun x => vInt (belowX x.1 x.2.1)) fun x => curL (belowC x.1 x.2.1)
theorem l01Below_ok : GoodD Try.prog n_spec_l01Below l01BelowC := by
  refine good_ofB (tys := tyL) (env := []) (envw := []) (envd := [(n_spec_l01Byte, l01ByteC)]) [14, 18, 20, 22, 24, 1000] [14, 18, 20, 22, 24, 1000] [] [] [14, 18, 20, 22, 24] mixed tys trivial trivial ⟨l01Byte_ok, trivial⟩ Try.func77 rfl (by kernel_rfl) ⟨by decide, rfl⟩ (by kernel_rfl) ?_
  have hG_ := kpz [(0, [0, 1]), (1, [0, 1, 10]), (2, [4]), (3, [0, 1, 12]), (4, [4]), (5, [0, 1, 5]), (6, [0, 1, 5, 6]), (7, [0, 1, 5, 6, 7]), (8, [1, 5, 6, 7, 8]), (9, [4])] [(0, [1000]), (1, [1000]), (2, [1000]), (3, [1000]), (4, [1000]), (5, [1000]), (6, [1000]), (7, [1000]), (8, [1000]), (9, [1000])] [] []
  rintro ⟨⟨(bs : List Int), (i : Int), (h : Int)⟩, (n : Int), ⟨⟩⟩ (hc : curOk (bs, i, h))
  have h1 := byteC_ok hc
  have h2 := byteC_ok h1
  have h3 := byteC_ok h2
  have b0 := byteX_bd (bs, i, h)
  have b1 := byteX_bd (byteC (bs, i, h))
  have b2 := byteX_bd (byteC (byteC (bs, i, h)))
  have b3 := byteX_bd (byteC (byteC (byteC (bs, i, h))))
  (repeat' (first | (with_reducible first | exact True.intro | refine zQ ?_ | (refine zG hG_ ?_; intro K_ hK_) | (refine zR ?_; intro K_ hK_) | (refine hK_ _ _ ?_; try clear hK_ K_) | refine sq_n ?_ | refine sq_r ?_ | refine sq_e ?_ | refine bq_n ?_ | refine bq_r ?_ | refine bq_q ?_ | refine zB ?_ | refine zX ?_ | refine zT ?_ | refine zK ?_ | refine gq_n ?_ | refine gq_r ?_ | refine gq_e ?_ | refine lq_n ?_ | refine lq_r ?_ | refine lq_e ?_ | refine bq_e (by decide) ?_) | ((with_reducible refine zC (b := ?b_) ?hb_ ?_ ?_); case hb_ => rfl) | ((conv => whnf); first | (with_reducible refine hK_ _ _ ?_; try clear hK_ K_) | (with_reducible refine fun (g_ : Sl) (o_ : Ow) => ?_) | (with_reducible first | exact True.intro | refine And.intro trivial ?_ | refine And.intro ?_ ?_) | exact Nat.le_of_ble_eq_true rfl | exact Or.inl rfl | (intro h_; cases h_) | (intro h_; (try simp only [vS1] at h_)) | rfl))) <;> (try (conv => whnf)) <;> (try first | change (_ : Int) ≤ _ | change (_ : Nat) ≤ _) <;> (try ((fail_if_success (with_reducible apply Exists.intro)); (try dsimp only); (try simp only [vS1])))
  all_goals (try (fail_if_success (with_reducible apply Exists.intro)); first | with_reducible assumption | omega | exact mdl (by omega) | exact ilo1 (by omega) | exact ilo2 (by omega) | exact ihi1 (by omega) (by omega) | exact ihi2 (by omega) (by omega))
  · show dOf _ = some _
    unfold curL belowC
    simp only [if_pos h_]; rfl
  · unfold belowX
    simp only [if_pos h_]
  · exact ‹¬ Int.ofNat 0 ≤ 0› (by decide)
  · show dOf _ = some _
    unfold curL belowC
    simp only [if_neg ‹¬ n ≤ 0›, if_pos h_]; rfl
  · unfold belowX
    simp only [if_neg ‹¬ n ≤ 0›, if_pos h_]
  · exact ‹¬ Int.ofNat 0 ≤ 0› (by decide)
  · show dOf _ = some _
    unfold curL belowC
    simp only [if_neg ‹¬ n ≤ 0›, if_neg h_]; rfl
  · unfold belowX
    simp only [if_neg ‹¬ n ≤ 0›, if_neg h_, W_l1, W_l2]
    rw [W_in (by omega) (by omega)]
def l02PointX (c : Cur) : Pt := (belowX c 9 - 2, belowX (belowC c 9) 9 - 2)
def l02PointC : Cur → Cur := fun c => belowC (belowC c 9) 9
def l02PointCo : ConD := mkConB [.cur] 0 t_spec_l01Cur (fun x => curOk x.1) (fun x => .agg (cPt (l02PointX x.1))) fun x => curL (l02PointC x.1)
theorem l02Point_ok : GoodD Try.prog n_spec_l02Point l02PointCo := by
  refine good_ofB (tys := tyL) (env := []) (envw := []) (envd := [(n_spec_l01Below, l01BelowC)]) [4, 7, 1000] [4, 7, 1000] [] [] [4, 7] mixed tys trivial trivial ⟨l01Below_ok, trivial⟩ Try.func78 rfl (by kernel_rfl) ⟨by decide, rfl⟩ (by kernel_rfl) ?_
  have hG_ := kpz [(0, [0, 2]), (1, [2])] [(0, [2, 1000]), (1, [2, 1000])] [] []
  rintro ⟨⟨(bs : List Int), (i : Int), (h : Int)⟩, ⟨⟩⟩ (hc : curOk (bs, i, h))
  have h1 := belowC_ok (n := 9) hc
  have b0 := below_bd (c := (bs, i, h)) (n := 9) (by decide)
  have b1 := below_bd (c := belowC (bs, i, h) 9) (n := 9) (by decide)
  (repeat' (first | (with_reducible first | exact True.intro | refine zQ ?_ | (refine zG hG_ ?_; intro K_ hK_) | (refine zR ?_; intro K_ hK_) | (refine hK_ _ _ ?_; try clear hK_ K_) | refine sq_n ?_ | refine sq_r ?_ | refine sq_e ?_ | refine bq_n ?_ | refine bq_r ?_ | refine bq_q ?_ | refine zB ?_ | refine zX ?_ | refine zT ?_ | refine zK ?_ | refine gq_n ?_ | refine gq_r ?_ | refine gq_e ?_ | refine lq_n ?_ | refine lq_r ?_ | refine lq_e ?_ | refine bq_e (by decide) ?_) | ((with_reducible refine zC (b := ?b_) ?hb_ ?_ ?_); case hb_ => rfl) | ((conv => whnf); first | (with_reducible refine hK_ _ _ ?_; try clear hK_ K_) | (with_reducible refine fun (g_ : Sl) (o_ : Ow) => ?_) | (with_reducible first | exact True.intro | refine And.intro trivial ?_ | refine And.intro ?_ ?_) | exact Nat.le_of_ble_eq_true rfl | exact Or.inl rfl | (intro h_; cases h_) | (intro h_; (try simp only [vS1] at h_)) | rfl))) <;> (try (conv => whnf)) <;> (try first | change (_ : Int) ≤ _ | change (_ : Nat) ≤ _) <;> (try ((fail_if_success (with_reducible apply Exists.intro)); (try dsimp only); (try simp only [vS1])))
  all_goals (try (fail_if_success (with_reducible apply Exists.intro)); first | with_reducible assumption | omega | exact mdl (by omega) | exact ilo1 (by omega) | exact ilo2 (by omega) | exact ihi1 (by omega) (by omega) | exact ihi2 (by omega) (by omega))
  · exact W_in (by omega) (by omega)
  · exact W_in (by omega) (by omega)
end Go.Proofs.Ytnepfcnlngpchaa
namespace Go.Proofs.Ytnepfcnlngpchaa
open Go.RowKit Go.Proofs.Ytnepfcnlngpchaa.Nm
set_option maxRecDepth 10000
set_option maxHeartbeats 2000000
def reflexM (xs : List Pt) (k : Nat) : Bool := decide (turn (pCy xs (k + xs.length - 1)) (pAt xs k) (pCy xs (k + 1)) < 0)
theorem mod_back {k n : Nat} (hk : k < n) (hn : n ≤ 1048576) : Int.tmod (W (W ((k : Int) + (n : Int)) - 1)) (n : Int) = (((k + n - 1) % n : Nat) : Int) := by
  unfold W
  rw [W_in (show -9223372036854775808 ≤ (k : Int) + n by omega) (by omega), W_in (by omega) (by omega), show (k : Int) + n - 1 = ((k + n - 1 : Nat) : Int) by omega, ← Int.ofNat_tmod]
def reflexC : Con := mkCon [.room, .int] (fun x => roomOk x.1 = true ∧ ∃ k : Nat, x.2.1 = k ∧ k < x.1.length) fun x => vB (reflexM x.1 x.2.1.toNat)
theorem reflex_ok : Good1 Try.prog n_impl_reflex reflexC := by
  refine good_ofG (tys := tyL) (env := [(n_impl_turn, turnC)]) (envw := []) (envd := []) [] [] [] [] [] mixed tys ⟨turn_ok, trivial⟩ trivial trivial Try.func76 rfl (by kernel_rfl) (by decide) (by kernel_rfl) ?_
  have hG_ := kpz [(0, [1, 2]), (1, [1, 2, 5]), (2, [4])] [] [] []
  rintro ⟨(xs : List Pt), (z : Int), ⟨⟩⟩ ⟨(hr : roomOk xs = true), k, (rfl : z = _), (hk : k < xs.length)⟩
  have hl := room_len hr
  have hb := mod_back hk (by omega)
  have hm := Nat.mod_lt (k + xs.length - 1) (show 0 < xs.length by omega)
  unfold W at hb
  (repeat' (first | (with_reducible first | exact True.intro | refine zQ ?_ | (refine zG hG_ ?_; intro K_ hK_) | (refine zR ?_; intro K_ hK_) | (refine hK_ _ _ ?_; try clear hK_ K_) | refine sq_n ?_ | refine sq_r ?_ | refine sq_e ?_ | refine bq_n ?_ | refine bq_r ?_ | refine bq_q ?_ | refine zB ?_ | refine zX ?_ | refine zT ?_ | refine zK ?_ | refine gq_n ?_ | refine gq_r ?_ | refine gq_e ?_ | refine lq_n ?_ | refine lq_r ?_ | refine lq_e ?_ | refine bq_e (by decide) ?_) | ((with_reducible refine zC (b := ?b_) ?hb_ ?_ ?_); case hb_ => rfl) | ((conv => whnf); first | (with_reducible refine hK_ _ _ ?_; try clear hK_ K_) | (with_reducible refine fun (g_ : Sl) (o_ : Ow) => ?_) | (with_reducible first | exact True.intro | refine And.intro trivial ?_ | refine And.intro ?_ ?_) | exact Nat.le_of_ble_eq_true rfl | exact Or.inl rfl | (intro h_; cases h_) | (intro h_; (try simp only [vS1] at h_)) | rfl))) <;> (try (conv => whnf)) <;> (try first | change (_ : Int) ≤ _ | change (_ : Nat) ≤ _) <;> (try ((fail_if_success (with_reducible apply Exists.intro)); (try dsimp only); (try simp only [vS1])))
  all_goals (try ((fail_if_success (with_reducible apply Exists.intro)); first | with_reducible assumption | omega))
  · exact ilo1 (by omega)
  · exact ihi1 (by omega) (by omega)
  · unfold reflexM
    rw [hb, mod_nat1 (by omega), Int.toNat_natCast, Int.toNat_natCast]
def reflK (xs : List Pt) (k : Nat) : List Int := ((List.range k).filter (reflexM xs)).map fun j : Nat => (j : Int)
theorem reflK_succ (xs : List Pt) (k : Nat) : reflK xs (k + 1) = reflK xs k ++ (if reflexM xs k then [(k : Int)] else []) := by
  unfold reflK
  rw [List.range_succ, List.filter_append, List.map_append, List.filter_cons, List.filter_nil]
  cases reflexM xs k <;> rfl
theorem reflK_len (xs : List Pt) (k : Nat) : (reflK xs k).length ≤ k := by
  unfold reflK
  rw [List.length_map]
  exact Nat.le_trans (List.length_filter_le _ _) (by rw [List.length_range]; omega)
theorem beq_dec (a b : Int) : (a == b) = decide (a = b) := by rw [Bool.eq_iff_iff]; simp
def reflM (xs : List Pt) : List Int := if roomOk xs then reflK xs xs.length else []
def convM (xs : List Pt) : Bool := roomOk xs && decide (((reflM xs).length : Int) = 0)
theorem convM_iff {xs : List Pt} : convM xs = true ↔ roomOk xs = true ∧ ∀ k, k < xs.length → reflexM xs k = false := by
  unfold convM
  rw [Bool.and_eq_true, decide_eq_true_eq]
  refine and_congr_right fun hr => ?_
  unfold reflM
  rw [if_pos hr]
  unfold reflK
  rw [List.length_map]
  constructor
  · intro h k hk
    have : (List.filter (reflexM xs) (List.range xs.length)) = [] := List.eq_nil_of_length_eq_zero (by omega)
    have := List.filter_eq_nil_iff.1 this k (List.mem_range.2 hk)
    simpa using this
  · intro h
    rw [List.filter_eq_nil_iff.2 fun k hk => by rw [h k (List.mem_range.1 hk)]; decide]
    rfl
def reflC : Con := mkCon [.room] (fun x => x.1.length ≤ 1048576) fun x => rowI (reflM x.1)
theorem reflCorners_ok : Good1 Try.prog n_impl_ReflexCorners reflC := by
  refine good_ofG (tys := tyL) (env := [(n_impl_RoomOk, roomOkC), (n_impl_reflex, reflexC)]) (envw := []) (envd := []) [8] [] [] [] [] mixed tys ⟨iRoomOk_ok, reflex_ok, trivial⟩ trivial trivial Try.func68 rfl (by kernel_rfl) (by decide) (by kernel_rfl) ?_
  have hG_ := kpz [(0, [1]), (1, [1, 7]), (2, [2]), (3, [1, 3]), (4, [1, 3, 11, 12]), (5, [1, 3, 11, 12, 13]), (6, [1, 3, 4, 11, 12]), (7, [1, 3, 4, 11, 12, 17]), (8, [1, 3, 11, 12]), (9, [1, 3, 11, 12]), (10, [2])] [(3, [8]), (4, [8]), (5, [8]), (6, [8]), (7, [8]), (8, [8]), (9, [8]), (10, [8])] [] []
  rintro ⟨(xs : List Pt), ⟨⟩⟩ (h1 : xs.length ≤ _)
  (repeat' (first | (with_reducible first | exact True.intro | refine zQ ?_ | (refine zG hG_ ?_; intro K_ hK_) | (refine zR ?_; intro K_ hK_) | (refine hK_ _ _ ?_; try clear hK_ K_) | refine sq_n ?_ | refine sq_r ?_ | refine sq_e ?_ | refine bq_n ?_ | refine bq_r ?_ | refine bq_q ?_ | refine zB ?_ | refine zX ?_ | refine zT ?_ | refine zK ?_ | refine gq_n ?_ | refine gq_r ?_ | refine gq_e ?_ | refine lq_n ?_ | refine lq_r ?_ | refine lq_e ?_ | refine bq_e (by decide) ?_) | ((with_reducible refine zC (b := ?b_) ?hb_ ?_ ?_); case hb_ => rfl) | ((conv => whnf); first | (with_reducible refine hK_ _ _ ?_; try clear hK_ K_) | (with_reducible refine fun (g_ : Sl) (o_ : Ow) => ?_) | (with_reducible first | exact True.intro | refine And.intro trivial ?_ | refine And.intro ?_ ?_) | exact Nat.le_of_ble_eq_true rfl | exact Or.inl rfl | (intro h_; cases h_) | (intro h_; (try simp only [vS1] at h_)) | rfl))) <;> (try (conv => whnf)) <;> (try first | change (_ : Int) ≤ _ | change (_ : Nat) ≤ _) <;> (try ((fail_if_success (with_reducible apply Exists.intro)); (try dsimp only); (try simp only [vS1]))) <;> (try simp (disch := omega) only [vS3, Int.add_sub_cancel, tn1, tnp, tnc, vS2] at *)
  all_goals (try ((fail_if_success (with_reducible apply Exists.intro)); first | with_reducible assumption | omega))
  · unfold reflM; rw [h_]; rfl
  have hr : roomOk xs = true := by assumption
  have hl := room_len hr
  refine awp'_loopG (α := Nat) (fun k ver_ => [(12, vInt k)]) (fun k ver_ => [(3, 8, false, .row t_int (.b .int) (reflK xs k))]) (fun k ver_ => []) (fun k => k ≤ xs.length) (fun k => xs.length - k) [1, 11] [] (0) ?_
  conv => whnf
  refine ⟨⟨?inv1_, ?vals1_, ?own1_, ?fix1_⟩, ?body1_⟩
  case' vals1_ => (repeat' (first | (with_reducible first | exact True.intro | refine And.intro ?_ ?_ | refine Head.mk ?_ ?_ ?_ ?_) | ((conv => lhs; whnf); first | (with_reducible first | rfl | exact vInt_s (by omega)) | exact rfl) | ((conv => whnf); first | (with_reducible first | exact True.intro | refine And.intro ?_ ?_)))) <;> (try (conv => lhs; whnf))
  case' own1_ => (repeat' (first | (with_reducible first | exact True.intro | refine And.intro ?_ ?_ | refine Head.mk ?_ ?_ ?_ ?_) | ((conv => lhs; whnf); first | (with_reducible first | rfl | exact vInt_s (by omega)) | exact rfl) | ((conv => whnf); first | (with_reducible first | exact True.intro | refine And.intro ?_ ?_)))) <;> (try (conv => lhs; whnf))
  case' fix1_ => (repeat' (first | (with_reducible first | exact True.intro | refine And.intro ?_ ?_ | refine Head.mk ?_ ?_ ?_ ?_) | ((conv => lhs; whnf); first | (with_reducible first | rfl | exact vInt_s (by omega)) | exact rfl) | ((conv => whnf); first | (with_reducible first | exact True.intro | refine And.intro ?_ ?_)))) <;> (try (conv => lhs; whnf))
  · exact Nat.zero_le _
  rintro k g_ o_ v_ hk
  have hlen := reflK_len xs k
  (repeat' (first | (with_reducible first | exact True.intro | refine zQ ?_ | (refine zG hG_ ?_; intro K_ hK_) | (refine zR ?_; intro K_ hK_) | (refine hK_ _ _ ?_; try clear hK_ K_) | refine sq_n ?_ | refine sq_r ?_ | refine sq_e ?_ | refine bq_n ?_ | refine bq_r ?_ | refine bq_q ?_ | refine zB ?_ | refine zX ?_ | refine zT ?_ | refine zK ?_ | refine gq_n ?_ | refine gq_r ?_ | refine gq_e ?_ | refine lq_n ?_ | refine lq_r ?_ | refine lq_e ?_ | refine bq_e (by decide) ?_) | ((with_reducible refine zC (b := ?b_) ?hb_ ?_ ?_); case hb_ => rfl) | ((conv => whnf); first | (with_reducible refine hK_ _ _ ?_; try clear hK_ K_) | (with_reducible refine fun (g_ : Sl) (o_ : Ow) => ?_) | (with_reducible first | exact True.intro | refine And.intro trivial ?_ | refine And.intro ?_ ?_) | exact Nat.le_of_ble_eq_true rfl | exact Or.inl rfl | (intro h_; cases h_) | (intro h_; (try simp only [vS1] at h_)) | rfl))) <;> (try (conv => whnf)) <;> (try first | change (_ : Int) ≤ _ | change (_ : Nat) ≤ _) <;> (try ((fail_if_success (with_reducible apply Exists.intro)); (try dsimp only); (try simp only [vS1]))) <;> (try simp (disch := omega) only [vS3, Int.add_sub_cancel, tn1, tnp, tnc, vS2] at *)
  all_goals (try ((fail_if_success (with_reducible apply Exists.intro)); first | with_reducible assumption | omega))
  · exact ⟨k, rfl, by omega⟩
  · refine ⟨k + 1, by omega, by omega, ?_⟩
    (repeat' (first | (with_reducible first | exact True.intro | refine And.intro ?_ ?_ | refine Head.mk ?_ ?_ ?_ ?_) | ((conv => lhs; whnf); first | (with_reducible first | rfl | exact vInt_s (by omega)) | exact rfl) | ((conv => whnf); first | (with_reducible first | exact True.intro | refine And.intro ?_ ?_)))) <;> (try (conv => lhs; whnf))
    exact congrArg (Own.row _ _) (by rw [reflK_succ, if_pos (by assumption)])
  · refine ⟨k + 1, by omega, by omega, ?_⟩
    (repeat' (first | (with_reducible first | exact True.intro | refine And.intro ?_ ?_ | refine Head.mk ?_ ?_ ?_ ?_) | ((conv => lhs; whnf); first | (with_reducible first | rfl | exact vInt_s (by omega)) | exact rfl) | ((conv => whnf); first | (with_reducible first | exact True.intro | refine And.intro ?_ ?_)))) <;> (try (conv => lhs; whnf))
    exact congrArg (Own.row _ _) (by rw [reflK_succ, if_neg (by rw [Bool.not_eq_true]; assumption), List.append_nil])
  · unfold reflM
    rw [if_pos hr, show k = xs.length by omega]; rfl
def convC : Con := mkCon [.room] (fun x => x.1.length ≤ 1048576) fun x => vB (convM x.1)
theorem isConvex_ok : Good1 Try.prog n_impl_IsConvex convC := by
  refine good_ofG (tys := tyL) (env := [(n_impl_RoomOk, roomOkC), (n_impl_ReflexCorners, reflC)]) (envw := []) (envd := []) [] [] [] [] [] mixed tys ⟨iRoomOk_ok, reflCorners_ok, trivial⟩ trivial trivial Try.func19 rfl (by kernel_rfl) (by decide) (by kernel_rfl) ?_
  have hG_ := kpz [(0, [1]), (1, [2])] [] [] []
  rintro ⟨(xs : List Pt), ⟨⟩⟩ (h1 : xs.length ≤ _)
  (repeat' (first | (with_reducible first | exact True.intro | refine zQ ?_ | (refine zG hG_ ?_; intro K_ hK_) | (refine zR ?_; intro K_ hK_) | (refine hK_ _ _ ?_; try clear hK_ K_) | refine sq_n ?_ | refine sq_r ?_ | refine sq_e ?_ | refine bq_n ?_ | refine bq_r ?_ | refine bq_q ?_ | refine zB ?_ | refine zX ?_ | refine zT ?_ | refine zK ?_ | refine gq_n ?_ | refine gq_r ?_ | refine gq_e ?_ | refine lq_n ?_ | refine lq_r ?_ | refine lq_e ?_ | refine bq_e (by decide) ?_) | ((with_reducible refine zC (b := ?b_) ?hb_ ?_ ?_); case hb_ => rfl) | ((conv => whnf); first | (with_reducible refine hK_ _ _ ?_; try clear hK_ K_) | (with_reducible refine fun (g_ : Sl) (o_ : Ow) => ?_) | (with_reducible first | exact True.intro | refine And.intro trivial ?_ | refine And.intro ?_ ?_) | exact Nat.le_of_ble_eq_true rfl | exact Or.inl rfl | (intro h_; cases h_) | (intro h_; (try simp only [vS1] at h_)) | rfl))) <;> (try (conv => whnf)) <;> (try first | change (_ : Int) ≤ _ | change (_ : Nat) ≤ _) <;> (try ((fail_if_success (with_reducible apply Exists.intro)); (try dsimp only); (try simp only [vS1]))) <;> (try simp (disch := omega) only [vS3, Int.add_sub_cancel, tn1, tnp, tnc, vS2] at *)
  all_goals (try ((fail_if_success (with_reducible apply Exists.intro)); first | with_reducible assumption | omega))
  · unfold convM
    rw [h_, Bool.true_and]
    exact beq_dec _ _
  · unfold convM; rw [h_]; rfl
def bigC : Con := mkCon [.sl (.b .u8)] (fun _ => True) fun x => vB (decide ((x.1.length : Int) > 1048576))
theorem big_ok : Good1 Try.prog n_laws_big bigC := by
  refine good_ofG (tys := tyL) (env := []) (envw := []) (envd := []) [] [] [] [] [] mixed tys trivial trivial trivial Try.func11 rfl (by kernel_rfl) (by decide) (by kernel_rfl) ?_
  have hG_ := kpz [(0, [0]), (1, [2])] [] [] []
  rintro ⟨(bs : List Int), ⟨⟩⟩ -
  (repeat' (first | (with_reducible first | exact True.intro | refine zQ ?_ | (refine zG hG_ ?_; intro K_ hK_) | (refine zR ?_; intro K_ hK_) | (refine hK_ _ _ ?_; try clear hK_ K_) | refine sq_n ?_ | refine sq_r ?_ | refine sq_e ?_ | refine bq_n ?_ | refine bq_r ?_ | refine bq_q ?_ | refine zB ?_ | refine zX ?_ | refine zT ?_ | refine zK ?_ | refine gq_n ?_ | refine gq_r ?_ | refine gq_e ?_ | refine lq_n ?_ | refine lq_r ?_ | refine lq_e ?_ | refine bq_e (by decide) ?_) | ((with_reducible refine zC (b := ?b_) ?hb_ ?_ ?_); case hb_ => rfl) | ((conv => whnf); first | (with_reducible refine hK_ _ _ ?_; try clear hK_ K_) | (with_reducible refine fun (g_ : Sl) (o_ : Ow) => ?_) | (with_reducible first | exact True.intro | refine And.intro trivial ?_ | refine And.intro ?_ ?_) | exact Nat.le_of_ble_eq_true rfl | exact Or.inl rfl | (intro h_; cases h_) | (intro h_; (try simp only [vS1] at h_)) | rfl))) <;> (try (conv => whnf)) <;> (try first | change (_ : Int) ≤ _ | change (_ : Nat) ≤ _) <;> (try ((fail_if_success (with_reducible apply Exists.intro)); (try dsimp only); (try simp only [vS1])))
  all_goals (try ((fail_if_success (with_reducible apply Exists.intro)); first | with_reducible assumption | omega))
end Go.Proofs.Ytnepfcnlngpchaa
namespace Go.Proofs.Ytnepfcnlngpchaa
open Go.RowKit Go.Proofs.Ytnepfcnlngpchaa.Nm
set_option maxRecDepth 10000
theorem l04Copy_ok : Good1 Try.prog n_spec_l04Copy (roomRoomC id) := by
  refine good_ofG (tys := tyL) (env := []) (envw := []) (envd := []) [3] [] [] [] [] mixed tys trivial trivial trivial Try.func111 rfl (by kernel_rfl) (by decide) (by kernel_rfl) ?_
  have hG_ := kpz [(0, [1, 2]), (1, [2])] [(0, [2]), (1, [2, 3])] [] []
  rintro ⟨(xs : List Pt), ⟨⟩⟩ (h1 : xs.length ≤ _)
  (repeat' (first | (with_reducible first | exact True.intro | refine zQ ?_ | (refine zG hG_ ?_; intro K_ hK_) | (refine zR ?_; intro K_ hK_) | (refine hK_ _ _ ?_; try clear hK_ K_) | refine sq_n ?_ | refine sq_r ?_ | refine sq_e ?_ | refine bq_n ?_ | refine bq_r ?_ | refine bq_q ?_ | refine zB ?_ | refine zX ?_ | refine zT ?_ | refine zK ?_ | refine gq_n ?_ | refine gq_r ?_ | refine gq_e ?_ | refine lq_n ?_ | refine lq_r ?_ | refine lq_e ?_ | refine bq_e (by decide) ?_) | ((with_reducible refine zC (b := ?b_) ?hb_ ?_ ?_); case hb_ => rfl) | ((conv => whnf); first | (with_reducible refine hK_ _ _ ?_; try clear hK_ K_) | (with_reducible refine fun (g_ : Sl) (o_ : Ow) => ?_) | (with_reducible first | exact True.intro | refine And.intro trivial ?_ | refine And.intro ?_ ?_) | exact Nat.le_of_ble_eq_true rfl | exact Or.inl rfl | (intro h_; cases h_) | (intro h_; (try simp only [vS1] at h_)) | rfl))) <;> (try (conv => whnf)) <;> (try first | change (_ : Int) ≤ _ | change (_ : Nat) ≤ _) <;> (try ((fail_if_success (with_reducible apply Exists.intro)); (try dsimp only); (try simp only [vS1]))) <;> (try simp (disch := omega) only [vS3, vS2] at *)
  all_goals (try (fail_if_success (with_reducible apply Exists.intro)); first | with_reducible assumption | omega | exact mdl (by omega) | exact ilo1 (by omega) | exact ilo2 (by omega) | exact ihi1 (by omega) (by omega) | exact ihi2 (by omega) (by omega))
end Go.Proofs.Ytnepfcnlngpchaa
namespace Go.Proofs.Ytnepfcnlngpchaa
open Go.RowKit Go.Proofs.Ytnepfcnlngpchaa.Nm
set_option maxRecDepth 10000
set_option maxHeartbeats 4000000
def shapeM (k : Int) : List Pt :=
  if k = 0 then [(0, 0), (4, 0), (4, 4), (0, 4)] else
  if k = 1 then [(0, 0), (5, 0), (2, 4)] else
  if k = 2 then [(0, 0), (6, 0), (6, 2), (2, 2), (2, 6), (0, 6)] else
  if k = 3 then [(0, 0), (8, 0), (8, 6), (4, 2), (0, 6)] else
  if k = 4 then [(0, 0), (10, 0), (10, 5), (8, 1), (5, 5), (2, 1), (0, 5)] else
  if k = 5 then [(0, 0), (7, 0), (7, 7), (1, 7), (1, 3), (3, 3), (3, 5), (5, 5), (5, 2), (0, 2)] else
  if k = 6 then [(0, 0), (4, 2), (8, 0), (5, 3), (4, 7), (3, 3)] else [(0, 0), (6, 1), (7, 4), (3, 6), (1, 3)]
def l04ShapeC : Con := mkCon [.int] (fun _ => True) fun x => .val (.agg [.d (.sl none (.b .pt) (shapeM x.1))])
theorem l04Shape_ok : Good1 Try.prog n_spec_l04Shape l04ShapeC := by
  refine good_ofG (tys := tyL) (env := []) (envw := []) (envd := []) [] [] [] [] [] mixed tys trivial trivial trivial Try.func110 rfl (by kernel_rfl) (by decide) (by kernel_rfl) ?_
  have hG_ := kpz [(0, [0, 2]), (1, [2, 3]), (2, [2, 3, 4]), (3, [2]), (4, [2, 3, 12]), (5, [2]), (6, [2, 3, 19]), (7, [2]), (8, [2, 3, 29]), (9, [2]), (10, [2, 3, 38]), (11, [2]), (12, [2, 3, 49]), (13, [2]), (14, [2, 63]), (15, [2]), (16, [2])] [(0, [2]), (1, [2]), (2, [2]), (3, [2]), (4, [2]), (5, [2]), (6, [2]), (7, [2]), (8, [2]), (9, [2]), (10, [2]), (11, [2]), (12, [2]), (13, [2]), (14, [2]), (15, [2]), (16, [2])] [] []
  rintro ⟨(k : Int), ⟨⟩⟩ -
  (repeat' (first | (with_reducible first | exact True.intro | refine zQ ?_ | (refine zG hG_ ?_; intro K_ hK_) | (refine zR ?_; intro K_ hK_) | (refine hK_ _ _ ?_; try clear hK_ K_) | refine sq_n ?_ | refine sq_r ?_ | refine sq_e ?_ | refine bq_n ?_ | refine bq_r ?_ | refine bq_q ?_ | refine zB ?_ | refine zX ?_ | refine zT ?_ | refine zK ?_ | refine gq_n ?_ | refine gq_r ?_ | refine gq_e ?_ | refine lq_n ?_ | refine lq_r ?_ | refine lq_e ?_ | refine bq_e (by decide) ?_) | ((with_reducible refine zC (b := ?b_) ?hb_ ?_ ?_); case hb_ => rfl) | ((conv => whnf); first | (with_reducible refine hK_ _ _ ?_; try clear hK_ K_) | (with_reducible refine fun (g_ : Sl) (o_ : Ow) => ?_) | (with_reducible first | exact True.intro | refine And.intro trivial ?_ | refine And.intro ?_ ?_) | exact Nat.le_of_ble_eq_true rfl | exact Or.inl rfl | (intro h_; cases h_) | (intro h_; (try simp only [vS1] at h_)) | rfl))) <;> (try (conv => whnf)) <;> (try first | change (_ : Int) ≤ _ | change (_ : Nat) ≤ _) <;> (try ((fail_if_success (with_reducible apply Exists.intro)); (try dsimp only); (try simp only [vS1])))
  all_goals (try (fail_if_success (with_reducible apply Exists.intro)); first | with_reducible assumption | omega | exact mdl (by omega) | exact ilo1 (by omega) | exact ilo2 (by omega) | exact ihi1 (by omega) (by omega) | exact ihi2 (by omega) (by omega))
  all_goals first
    | (have e := eq_of_beq h_; subst e; rfl)
    | (unfold shapeM; simp_all; rfl)
def stepX (xs : List Pt) (c : Cur) : List Pt :=
  xs.set (belowX c xs.length).toNat ((xs.getD (belowX c xs.length).toNat (0, 0)).1 + belowX (belowC c xs.length) 3 - 1, (xs.getD (belowX c xs.length).toNat (0, 0)).2 + belowX (belowC (belowC c xs.length) 3) 3 - 1)
def stepC (n : Int) (c : Cur) : Cur := belowC (belowC (belowC c n) 3) 3
def stepR (s : List Pt × Cur) : List Pt × Cur := (if roomOk (stepX s.1 s.2) then stepX s.1 s.2 else s.1, stepC s.1.length s.2)
def iterR (s : List Pt × Cur) : Nat → List Pt × Cur
  | 0 => s
  | j + 1 => stepR (iterR s j)
def turnP (turn : Int) (p : Pt) : Pt := if turn = 1 then (-p.2, p.1) else if turn = 2 then (-p.1, -p.2) else p
def laidP (turn dx : Int) (p : Pt) : Pt := ((turnP turn p).1 + dx, (turnP turn p).2)
def laidAt (xs : List Pt) (turn first dx : Int) (k : Nat) : Pt := laidP turn dx (xs.getD ((first.toNat + k) % xs.length) (0, 0))
def laidR (xs : List Pt) (turn first dx : Int) : List Pt := (List.range xs.length).map (laidAt xs turn first dx)
def room0 (c : Cur) : List Pt × Cur := (shapeM (belowX c 8), belowC (belowC c 8) 4)
def roomK (c : Cur) : Int := belowX (belowC c 8) 4
def roomS (c : Cur) : List Pt × Cur := iterR (room0 c) (roomK c).toNat
def roomX (c : Cur) : List Pt :=
  laidR (roomS c).1 (belowX (roomS c).2 4) (belowX (belowC (roomS c).2 4) (roomS c).1.length) (belowX (belowC (belowC (roomS c).2 4) (roomS c).1.length) 5 - 2)
def roomC (c : Cur) : Cur := belowC (belowC (belowC (roomS c).2 4) (roomS c).1.length) 5
theorem stepX_len (xs : List Pt) (c : Cur) : (stepX xs c).length = xs.length := List.length_set ..
theorem stepR_len (s : List Pt × Cur) : (stepR s).1.length = s.1.length := by
  unfold stepR
  simp only
  split
  · exact stepX_len _ _
  · rfl
theorem iterR_len (s : List Pt × Cur) : ∀ j, (iterR s j).1.length = s.1.length
  | 0 => rfl
  | j + 1 => (stepR_len _).trans (iterR_len s j)
theorem stepC_ok {n : Int} {c : Cur} (h : curOk c) : curOk (stepC n c) := belowC_ok (belowC_ok (belowC_ok h))
theorem iterR_cur {s : List Pt × Cur} (h : curOk s.2) : ∀ j, curOk (iterR s j).2
  | 0 => h
  | j + 1 => stepC_ok (iterR_cur h j)
theorem shape_len (k : Int) : 3 ≤ (shapeM k).length ∧ (shapeM k).length ≤ 10 := by
  unfold shapeM
  repeat' split
  all_goals decide
def setXY (xs : List Pt) (i : Nat) (a b : Int) : List Pt :=
  (xs.set i (W (W ((xs.getD i (0, 0)).1 + a) - 1), (xs.getD i (0, 0)).2)).set i
    (((xs.set i (W (W ((xs.getD i (0, 0)).1 + a) - 1), (xs.getD i (0, 0)).2)).getD i (0, 0)).1,
      W (W (((xs.set i (W (W ((xs.getD i (0, 0)).1 + a) - 1), (xs.getD i (0, 0)).2)).getD i (0, 0)).2 + b) - 1))
theorem pt_room {xs : List Pt} (hr : roomOk xs = true) {i : Nat} (hi : i < xs.length) : -40 ≤ (xs.getD i (0, 0)).1 ∧ (xs.getD i (0, 0)).1 ≤ 40 ∧ -40 ≤ (xs.getD i (0, 0)).2 ∧ (xs.getD i (0, 0)).2 ≤ 40 := by
  rw [getD_lt _ hi]
  exact ptOk_iff.1 (List.all_eq_true.1 (roomOk_iff.1 hr).2.1 _ (List.getElem_mem hi))
theorem setXY_eq {xs : List Pt} (hr : roomOk xs = true) {i : Nat} (hi : i < xs.length) {a b : Int} (ha : 0 ≤ a ∧ a < 3) (hb : 0 ≤ b ∧ b < 3) :
    setXY xs i a b = xs.set i ((xs.getD i (0, 0)).1 + a - 1, (xs.getD i (0, 0)).2 + b - 1) := by
  have h := pt_room hr hi
  have g : ∀ x : Pt, (xs.set i x).getD i (0, 0) = x := fun x => by rw [getD_lt _ (by rw [List.length_set]; exact hi), List.getElem_set_self]
  unfold setXY
  rw [List.set_set, g]
  simp only [W_l3]
  rw [W_in (by omega) (by omega), W_in (by omega) (by omega)]
theorem shape_ok (k : Int) : roomOk (shapeM k) = true := by
  unfold shapeM
  repeat' split
  all_goals decide +kernel
theorem iterR_ok {s : List Pt × Cur} (h : roomOk s.1 = true) : ∀ j, roomOk (iterR s j).1 = true
  | 0 => h
  | j + 1 => by
    show roomOk (stepR (iterR s j)).1 = true
    unfold stepR
    simp only
    split
    · assumption
    · exact iterR_ok h j
theorem stepX_setXY {xs : List Pt} (hr : roomOk xs = true) (c : Cur) : setXY xs (belowX c xs.length).toNat (belowX (belowC c xs.length) 3) (belowX (belowC (belowC c xs.length) 3) 3) = stepX xs c := by
  have h3 := (roomOk_iff.1 hr).1
  have hb := below_bd (c := c) (n := (xs.length : Int)) (by omega)
  exact setXY_eq hr (by omega) (below_bd (by decide)) (below_bd (by decide))
theorem rng1 {f : Nat → Pt} {x : Pt} (h : x = f 0) : [x] = (List.range (0 + 1)).map f := by rw [h]; rfl
theorem rngS {f : Nat → Pt} {k : Nat} {x : Pt} (h : x = f k) : (List.range k).map f ++ [x] = (List.range (k + 1)).map f := by
  rw [List.range_succ, List.map_append, h]; rfl
theorem laid_1 {xs : List Pt} (hr : roomOk xs = true) {turn first dx : Int} {k m : Nat} (ht : (turn == 1) = true) (hm : m = (first.toNat + k) % xs.length) (hdx : -2 ≤ dx ∧ dx ≤ 2) :
    (W (W (0 - (xs.getD m (0, 0)).2) + dx), (xs.getD m (0, 0)).1) = laidAt xs turn first dx k := by
  have h3 := (roomOk_iff.1 hr).1
  have h := pt_room hr (i := m) (by rw [hm]; exact Nat.mod_lt _ (by omega))
  unfold laidAt laidP turnP W
  rw [← hm, if_pos (eq_of_beq ht), W_l1, W_in (by omega) (by omega)]
  simp
theorem laid_2 {xs : List Pt} (hr : roomOk xs = true) {turn first dx : Int} {k m : Nat} (hn : (turn == 1) = false) (ht : (turn == 2) = true) (hm : m = (first.toNat + k) % xs.length) (hdx : -2 ≤ dx ∧ dx ≤ 2) :
    (W (W (0 - (xs.getD m (0, 0)).1) + dx), W (0 - (xs.getD m (0, 0)).2)) = laidAt xs turn first dx k := by
  have h3 := (roomOk_iff.1 hr).1
  have h := pt_room hr (i := m) (by rw [hm]; exact Nat.mod_lt _ (by omega))
  unfold laidAt laidP turnP W
  rw [← hm, if_neg (ne_of_beq_false hn), if_pos (eq_of_beq ht), W_l1, W_in (by omega) (by omega), W_in (by omega) (by omega)]
  simp
theorem laid_0 {xs : List Pt} (hr : roomOk xs = true) {turn first dx : Int} {k m : Nat} (hn : (turn == 1) = false) (ht : (turn == 2) = false) (hm : m = (first.toNat + k) % xs.length) (hdx : -2 ≤ dx ∧ dx ≤ 2) :
    (W ((xs.getD m (0, 0)).1 + dx), (xs.getD m (0, 0)).2) = laidAt xs turn first dx k := by
  have h3 := (roomOk_iff.1 hr).1
  have h := pt_room hr (i := m) (by rw [hm]; exact Nat.mod_lt _ (by omega))
  unfold laidAt laidP turnP W
  rw [← hm, if_neg (ne_of_beq_false hn), if_neg (ne_of_beq_false ht), W_in (by omega) (by omega)]
def l04RoomC : ConD := mkConB [.cur] 0 t_spec_l01Cur (fun x => curOk x.1) (fun x => .agg [.d (.sl none (.b .pt) (roomX x.1))]) fun x => curL (roomC x.1)
theorem l04Room_ok : GoodD Try.prog n_spec_l04Room l04RoomC := by
  refine good_ofB (tys := tyL) (env := [(n_spec_l04Shape, l04ShapeC), (n_spec_l04Copy, (roomRoomC id)), (n_spec_RoomOk, roomOkC)]) (envw := []) (envd := [(n_spec_l01Below, l01BelowC)]) [15, 21, 28, 30, 41, 56, 66, 69, 71, 1000] [13, 15, 21, 28, 41, 56, 66, 69, 71, 1000] [31, 32, 34, 35, 37, 38, 39, 44, 45, 46, 47, 49, 50, 52, 53, 54, 59, 60] [] [15, 21, 28, 41, 56, 66, 69, 71] mixed tys ⟨l04Shape_ok, l04Copy_ok, sRoomOk_ok, trivial⟩ trivial ⟨l01Below_ok, trivial⟩ Try.func61 rfl (by kernel_rfl) ⟨by decide, rfl⟩ (by kernel_rfl) ?_
  have hG_ := kpz [(0, [0, 2]), (1, [0, 2, 3]), (2, [0, 2, 3, 4]), (3, [0, 2, 3, 4, 5]), (4, [0, 2, 3, 4, 5, 23]), (5, [0, 2, 3, 4, 5]), (6, [0, 2, 3, 4, 5, 6]), (7, [0, 2, 3, 4, 5, 6, 7]), (8, [0, 2, 3, 4, 5, 6, 7]), (9, [0, 2, 3, 4, 5, 7]), (10, [0, 2, 3, 4, 5, 7, 62]), (11, [0, 2, 3, 4, 5]), (12, [0, 2, 3, 4, 8]), (13, [0, 2, 3, 4, 8, 9]), (14, [0, 2, 3, 4, 8, 9, 10]), (15, [2, 3, 4, 8, 9, 10, 11]), (16, [2, 3, 4, 8, 9, 10, 11, 12]), (17, [2, 3, 4, 8, 9, 10, 11, 12, 75]), (18, [2, 3, 4, 8, 9, 10, 11, 12]), (19, [2, 3, 4, 8, 9, 10, 11, 12, 13]), (20, [2, 3, 4, 8, 9, 10, 11, 12, 13, 87]), (21, [2, 3, 4, 8, 9, 10, 11, 12, 13, 87, 88]), (22, [2, 3, 4, 8, 9, 10, 11, 12, 13]), (23, [2, 3, 4, 8, 9, 10, 11, 12, 13, 96]), (24, [2, 3, 4, 8, 9, 10, 11, 12, 13]), (25, [2, 3, 4, 8, 9, 10, 11, 12, 13]), (26, [2, 3, 4, 8, 9, 10, 11, 12]), (27, [2])] [(0, [2, 1000]), (1, [2, 3, 1000]), (2, [2, 3, 1000]), (3, [2, 3, 1000]), (4, [2, 3, 1000]), (5, [2, 3, 30, 1000]), (6, [2, 3, 1000]), (7, [2, 3, 7, 30, 1000]), (8, [2, 3, 7, 30, 1000]), (9, [2, 3, 7, 30, 1000]), (10, [2, 3, 7, 30, 1000]), (11, [2, 3, 30, 1000]), (12, [2, 3, 8, 1000]), (13, [2, 3, 8, 1000]), (14, [2, 3, 8, 1000]), (15, [2, 3, 8, 1000]), (16, [2, 3, 8, 1000]), (17, [2, 3, 8, 1000]), (18, [2, 3, 8, 1000]), (19, [2, 3, 8, 13, 1000]), (20, [2, 3, 8, 13, 1000]), (21, [2, 3, 8, 13, 1000]), (22, [2, 3, 8, 13, 1000]), (23, [2, 3, 8, 13, 1000]), (24, [2, 3, 8, 13, 1000]), (25, [2, 3, 8, 13, 1000]), (26, [2, 3, 8, 1000]), (27, [2, 1000])] [(11, [30])] []
  rintro ⟨⟨(bs : List Int), (i : Int), (h : Int)⟩, ⟨⟩⟩ (hc : curOk (bs, i, h))
  have hb1 : 0 ≤ roomK (bs, i, h) ∧ roomK (bs, i, h) < 4 := below_bd (c := belowC (bs, i, h) 8) (n := 4) (by decide)
  have hl0 : 3 ≤ (room0 (bs, i, h)).1.length ∧ (room0 (bs, i, h)).1.length ≤ 10 := shape_len _
  have h1 : curOk (belowC (bs, i, h) 8) := belowC_ok hc
  have hlen := iterR_len (room0 (bs, i, h))
  have hcur : ∀ j, curOk (iterR (room0 (bs, i, h)) j).2 := iterR_cur (s := room0 (bs, i, h)) (show curOk (belowC (belowC (bs, i, h) 8) 4) from belowC_ok (belowC_ok hc))
  (repeat' (first | (with_reducible first | exact True.intro | refine zQ ?_ | (refine zG hG_ ?_; intro K_ hK_) | (refine zR ?_; intro K_ hK_) | (refine hK_ _ _ ?_; try clear hK_ K_) | refine sq_n ?_ | refine sq_r ?_ | refine sq_e ?_ | refine bq_n ?_ | refine bq_r ?_ | refine bq_q ?_ | refine zB ?_ | refine zX ?_ | refine zT ?_ | refine zK ?_ | refine gq_n ?_ | refine gq_r ?_ | refine gq_e ?_ | refine lq_n ?_ | refine lq_r ?_ | refine lq_e ?_ | refine bq_e (by decide) ?_) | ((with_reducible refine zC (b := ?b_) ?hb_ ?_ ?_); case hb_ => rfl) | ((conv => whnf); first | (with_reducible refine hK_ _ _ ?_; try clear hK_ K_) | (with_reducible refine fun (g_ : Sl) (o_ : Ow) => ?_) | (with_reducible first | exact True.intro | refine And.intro trivial ?_ | refine And.intro ?_ ?_) | exact Nat.le_of_ble_eq_true rfl | exact Or.inl rfl | (intro h_; cases h_) | (intro h_; (try simp only [vS1] at h_)) | rfl))) <;> (try (conv => whnf)) <;> (try first | change (_ : Int) ≤ _ | change (_ : Nat) ≤ _) <;> (try ((fail_if_success (with_reducible apply Exists.intro)); (try dsimp only); (try simp only [vS1])))
  all_goals (try (fail_if_success (with_reducible apply Exists.intro)); first | with_reducible assumption | omega | exact mdl (by omega) | exact ilo1 (by omega) | exact ilo2 (by omega) | exact ihi1 (by omega) (by omega) | exact ihi2 (by omega) (by omega))
  refine awp'_loopG (α := Nat) (fun j ver_ => [(5, vInt (roomK (bs, i, h) - j)), (4, vInt ((iterR (room0 (bs, i, h)) j).1.length : Nat))]) (fun j ver_ => [(3, 3, true, .box t_impl_Room [.d (.sl none (.b .pt) (iterR (room0 (bs, i, h)) j).1)])]) (fun j ver_ => [(1000, ⟨0, .box t_spec_l01Cur ((curL (iterR (room0 (bs, i, h)) j).2).map .d)⟩), (13, ⟨ver_ 13, .dead⟩)]) (fun j => j ≤ (roomK (bs, i, h)).toNat) (fun j => (roomK (bs, i, h)).toNat - j) [0, 2] [2] (0) ?_
  conv => whnf
  refine ⟨⟨?inv1_, ?vals1_, ?own1_, ?fix1_⟩, ?body1_⟩
  case' vals1_ => (repeat' (first | (with_reducible first | exact True.intro | refine And.intro ?_ ?_ | refine Head.mk ?_ ?_ ?_ ?_) | ((conv => lhs; whnf); first | (with_reducible first | rfl | exact vInt_s (by omega)) | exact rfl) | ((conv => whnf); first | (with_reducible first | exact True.intro | refine And.intro ?_ ?_)))) <;> (try (conv => lhs; whnf))
  case' own1_ => (repeat' (first | (with_reducible first | exact True.intro | refine And.intro ?_ ?_ | refine Head.mk ?_ ?_ ?_ ?_) | ((conv => lhs; whnf); first | (with_reducible first | rfl | exact vInt_s (by omega)) | exact rfl) | ((conv => whnf); first | (with_reducible first | exact True.intro | refine And.intro ?_ ?_)))) <;> (try (conv => lhs; whnf))
  case' fix1_ => (repeat' (first | (with_reducible first | exact True.intro | refine And.intro ?_ ?_ | refine Head.mk ?_ ?_ ?_ ?_) | ((conv => lhs; whnf); first | (with_reducible first | rfl | exact vInt_s (by omega)) | exact rfl) | ((conv => whnf); first | (with_reducible first | exact True.intro | refine And.intro ?_ ?_)))) <;> (try (conv => lhs; whnf))
  · exact (Int.sub_zero _).symm ▸ rfl
  · exact Nat.zero_le _
  rintro j g_ o_ v_ hj
  have hn := hlen j
  have hcj := hcur j
  have hrj := iterR_ok (s := room0 (bs, i, h)) (shape_ok _) j
  generalize hs : iterR (room0 (bs, i, h)) j = s at *
  have hstep : iterR (room0 (bs, i, h)) (j + 1) = stepR s := by show stepR _ = _; rw [hs]
  obtain ⟨xs, c⟩ := s
  have hc1 : curOk (belowC c (xs.length : Int)) := belowC_ok hcj
  have hc2 : curOk (belowC (belowC c (xs.length : Int)) 3) := belowC_ok hc1
  have hx3 : 3 ≤ xs.length ∧ xs.length ≤ 10 := by have : xs.length = _ := hn; omega
  have hbx := below_bd (c := c) (n := (xs.length : Int)) (by omega)
  (repeat' (first | (with_reducible first | exact True.intro | refine zQ ?_ | (refine zG hG_ ?_; intro K_ hK_) | (refine zR ?_; intro K_ hK_) | (refine hK_ _ _ ?_; try clear hK_ K_) | refine sq_n ?_ | refine sq_r ?_ | refine sq_e ?_ | refine bq_n ?_ | refine bq_r ?_ | refine bq_q ?_ | refine zB ?_ | refine zX ?_ | refine zT ?_ | refine zK ?_ | refine gq_n ?_ | refine gq_r ?_ | refine gq_e ?_ | refine lq_n ?_ | refine lq_r ?_ | refine lq_e ?_ | refine bq_e (by decide) ?_) | ((with_reducible refine zC (b := ?b_) ?hb_ ?_ ?_); case hb_ => rfl) | ((conv => whnf); first | (with_reducible refine hK_ _ _ ?_; try clear hK_ K_) | (with_reducible refine fun (g_ : Sl) (o_ : Ow) => ?_) | (with_reducible first | exact True.intro | refine And.intro trivial ?_ | refine And.intro ?_ ?_) | exact Nat.le_of_ble_eq_true rfl | exact Or.inl rfl | (intro h_; cases h_) | (intro h_; (try simp only [vS1] at h_)) | rfl))) <;> (try (conv => whnf)) <;> (try first | change (_ : Int) ≤ _ | change (_ : Nat) ≤ _) <;> (try ((fail_if_success (with_reducible apply Exists.intro)); (try dsimp only); (try simp only [vS1])))
  all_goals (try (fail_if_success (with_reducible apply Exists.intro)); first | with_reducible assumption | omega | exact mdl (by omega) | exact ilo1 (by omega) | exact ilo2 (by omega) | exact ihi1 (by omega) (by omega) | exact ihi2 (by omega) (by omega))
  all_goals (try (simp only [id_eq, List.length_set]; omega))
  · have hE := stepX_setXY hrj c
    have h_ : roomOk (setXY xs (belowX c xs.length).toNat (belowX (belowC c xs.length) 3) (belowX (belowC (belowC c xs.length) 3) 3)) = true := h_
    rw [hE] at h_
    have e1 : iterR (room0 (bs, i, h)) (j + 1) = (stepX xs c, stepC xs.length c) := by rw [hstep]; unfold stepR; simp only; rw [if_pos h_]
    refine ⟨j + 1, by omega, by omega, ?_⟩
    rw [e1]
    (repeat' (first | (with_reducible first | exact True.intro | refine And.intro ?_ ?_ | refine Head.mk ?_ ?_ ?_ ?_) | ((conv => lhs; whnf); first | (with_reducible first | rfl | exact vInt_s (by omega)) | exact rfl) | ((conv => whnf); first | (with_reducible first | exact True.intro | refine And.intro ?_ ?_)))) <;> (try (conv => lhs; whnf))
    · exact congrArg vInt (by rw [W_in (by omega) (by omega)]; omega)
    · exact congrArg vInt (by show ((xs.length : Nat) : Int) = ((stepX xs c).length : Int); rw [stepX_len])
    · exact congrArg (fun l => Own.box t_impl_Room [.d (.sl none (.b .pt) l)]) hE
  · have hE := stepX_setXY hrj c
    have h_ : roomOk (setXY xs (belowX c xs.length).toNat (belowX (belowC c xs.length) 3) (belowX (belowC (belowC c xs.length) 3) 3)) = false := h_
    rw [hE] at h_
    have e1 : iterR (room0 (bs, i, h)) (j + 1) = (xs, stepC xs.length c) := by rw [hstep]; unfold stepR; simp only; rw [if_neg (by rw [h_]; decide)]
    refine ⟨j + 1, by omega, by omega, ?_⟩
    rw [e1]
    (repeat' (first | (with_reducible first | exact True.intro | refine And.intro ?_ ?_ | refine Head.mk ?_ ?_ ?_ ?_) | ((conv => lhs; whnf); first | (with_reducible first | rfl | exact vInt_s (by omega)) | exact rfl) | ((conv => whnf); first | (with_reducible first | exact True.intro | refine And.intro ?_ ?_)))) <;> (try (conv => lhs; whnf))
    · exact congrArg vInt (by rw [W_in (by omega) (by omega)]; omega)
  · exact belowC_ok hcj
  · exact belowC_ok (belowC_ok hcj)
  have hj2 : j = (roomK (bs, i, h)).toNat := by omega
  have hS : roomS (bs, i, h) = (xs, c) := by unfold roomS; rw [← hj2]; exact hs
  have b1 := below_bd (c := c) (n := 4) (by decide)
  have b2 := below_bd (c := belowC c 4) (n := (xs.length : Int)) (by omega)
  have b3 := below_bd (c := belowC (belowC c 4) xs.length) (n := 5) (by decide)
  have hX : roomX (bs, i, h) = laidR xs (belowX c 4) (belowX (belowC c 4) xs.length) (belowX (belowC (belowC c 4) xs.length) 5 - 2) := by unfold roomX; rw [hS]
  have hC : roomC (bs, i, h) = belowC (belowC (belowC c 4) xs.length) 5 := by unfold roomC; rw [hS]
  generalize hT : belowX c 4 = turn at *
  generalize hF : belowX (belowC c 4) xs.length = first at *
  generalize hD : belowX (belowC (belowC c 4) xs.length) 5 = dx at *
  refine awp'_loopG (α := Nat) (fun k ver_ => [(4, vInt (xs.length : Nat)), (9, vInt turn), (10, vInt first), (11, vInt (dx - 2)), (12, vInt k)]) (fun k ver_ => [(8, 8, true, .box t_impl_Room [match k with | 0 => .d .nil | _ + 1 => .own 114 (ver_ 114)])]) (fun k ver_ => match k with | 0 => [] | _ + 1 => [(114, ⟨ver_ 114, .row t_impl_Point (.b .pt) ((List.range k).map (laidAt xs turn first (dx - 2)))⟩)]) (fun k => k ≤ xs.length) (fun k => xs.length - k) [2, 3] [2, 3, 1000] (0) ?_
  conv => whnf
  refine ⟨⟨?inv2_, ?vals2_, ?own2_, ?fix2_⟩, ?body2_⟩
  case' vals2_ => (repeat' (first | (with_reducible first | exact True.intro | refine And.intro ?_ ?_ | refine Head.mk ?_ ?_ ?_ ?_) | ((conv => lhs; whnf); first | (with_reducible first | rfl | exact vInt_s (by omega)) | exact rfl) | ((conv => whnf); first | (with_reducible first | exact True.intro | refine And.intro ?_ ?_)))) <;> (try (conv => lhs; whnf))
  case' own2_ => (repeat' (first | (with_reducible first | exact True.intro | refine And.intro ?_ ?_ | refine Head.mk ?_ ?_ ?_ ?_) | ((conv => lhs; whnf); first | (with_reducible first | rfl | exact vInt_s (by omega)) | exact rfl) | ((conv => whnf); first | (with_reducible first | exact True.intro | refine And.intro ?_ ?_)))) <;> (try (conv => lhs; whnf))
  case' fix2_ => (repeat' (first | (with_reducible first | exact True.intro | refine And.intro ?_ ?_ | refine Head.mk ?_ ?_ ?_ ?_) | ((conv => lhs; whnf); first | (with_reducible first | rfl | exact vInt_s (by omega)) | exact rfl) | ((conv => whnf); first | (with_reducible first | exact True.intro | refine And.intro ?_ ?_)))) <;> (try (conv => lhs; whnf))
  · exact congrArg vInt (W_in (by omega) (by omega))
  · exact Nat.zero_le _
  have hix : ∀ k : Nat, k < xs.length → Int.tmod (W (first + (k : Int))) (xs.length : Int) = (((first.toNat + k) % xs.length : Nat) : Int) := fun k hk => by
    rw [show first = ((first.toNat : Nat) : Int) by omega]
    exact mod_nat (by omega)
  have hlt : ∀ k : Nat, ((first.toNat + k) % xs.length) < xs.length := fun k => Nat.mod_lt _ (by omega)
  have hin : ∀ k : Nat, k < xs.length → 0 ≤ Int.tmod (W (first + (k : Int))) (xs.length : Int) ∧ Int.tmod (W (first + (k : Int))) (xs.length : Int) + 1 ≤ (xs.length : Int) := fun k hk => by
    have := hlt k
    rw [hix k hk]; omega
  have him : ∀ k : Nat, k < xs.length → (Int.tmod (W (first + (k : Int))) (xs.length : Int)).toNat = (first.toNat + k) % xs.length := fun k hk => by rw [hix k hk]; exact Int.toNat_natCast _
  rintro (_ | k) g_ o_ v_ hk
  ·
    have hG_ := kpz [(0, [0, 2]), (1, [0, 2, 3]), (2, [0, 2, 3, 4]), (3, [0, 2, 3, 4, 5]), (4, [0, 2, 3, 4, 5, 23]), (5, [0, 2, 3, 4, 5]), (6, [0, 2, 3, 4, 5, 6]), (7, [0, 2, 3, 4, 5, 6, 7]), (8, [0, 2, 3, 4, 5, 6, 7]), (9, [0, 2, 3, 4, 5, 7]), (10, [0, 2, 3, 4, 5, 7, 62]), (11, [0, 2, 3, 4, 5]), (12, [0, 2, 3, 4, 8]), (13, [0, 2, 3, 4, 8, 9]), (14, [0, 2, 3, 4, 8, 9, 10]), (15, [2, 3, 4, 8, 9, 10, 11]), (16, [2, 3, 4, 8, 9, 10, 11, 12]), (17, [2, 3, 4, 8, 9, 10, 11, 12, 75]), (18, [2, 3, 4, 8, 9, 10, 11, 12]), (19, [2, 3, 4, 8, 9, 10, 11, 12, 13]), (20, [2, 3, 4, 8, 9, 10, 11, 12, 13, 87]), (21, [2, 3, 4, 8, 9, 10, 11, 12, 13, 87, 88]), (22, [2, 3, 4, 8, 9, 10, 11, 12, 13]), (23, [2, 3, 4, 8, 9, 10, 11, 12, 13, 96]), (24, [2, 3, 4, 8, 9, 10, 11, 12, 13]), (25, [2, 3, 4, 8, 9, 10, 11, 12, 13]), (26, [2, 3, 4, 8, 9, 10, 11, 12]), (27, [2])] [(0, [2, 1000]), (1, [2, 3, 1000]), (2, [2, 3, 1000]), (3, [2, 3, 1000]), (4, [2, 3, 1000]), (5, [2, 3, 30, 1000]), (6, [2, 3, 1000]), (7, [2, 3, 7, 30, 1000]), (8, [2, 3, 7, 30, 1000]), (9, [2, 3, 7, 30, 1000]), (10, [2, 3, 7, 30, 1000]), (11, [2, 3, 30, 1000]), (12, [2, 3, 8, 1000]), (13, [2, 3, 8, 1000]), (14, [2, 3, 8, 1000]), (15, [2, 3, 8, 1000]), (16, [2, 3, 8, 1000]), (17, [2, 3, 8, 1000]), (18, [2, 3, 8, 114, 1000]), (19, [2, 3, 8, 13, 1000]), (20, [2, 3, 8, 13, 1000]), (21, [2, 3, 8, 13, 1000]), (22, [2, 3, 8, 13, 1000]), (23, [2, 3, 8, 13, 1000]), (24, [2, 3, 8, 13, 1000]), (25, [2, 3, 8, 13, 1000]), (26, [2, 3, 8, 114, 1000]), (27, [2, 1000])] [(11, [30])] []
    (repeat' (first | (with_reducible first | exact True.intro | refine zQ ?_ | (refine zG hG_ ?_; intro K_ hK_) | (refine zR ?_; intro K_ hK_) | (refine hK_ _ _ ?_; try clear hK_ K_) | refine sq_n ?_ | refine sq_r ?_ | refine sq_e ?_ | refine bq_n ?_ | refine bq_r ?_ | refine bq_q ?_ | refine zB ?_ | refine zX ?_ | refine zT ?_ | refine zK ?_ | refine gq_n ?_ | refine gq_r ?_ | refine gq_e ?_ | refine lq_n ?_ | refine lq_r ?_ | refine lq_e ?_ | refine bq_e (by decide) ?_) | ((with_reducible refine zC (b := ?b_) ?hb_ ?_ ?_); case hb_ => rfl) | ((conv => whnf); first | (with_reducible refine hK_ _ _ ?_; try clear hK_ K_) | (with_reducible refine fun (g_ : Sl) (o_ : Ow) => ?_) | (with_reducible first | exact True.intro | refine And.intro trivial ?_ | refine And.intro ?_ ?_) | exact Nat.le_of_ble_eq_true rfl | exact Or.inl rfl | (intro h_; cases h_) | (intro h_; (try simp only [vS1] at h_)) | rfl))) <;> (try (conv => whnf)) <;> (try first | change (_ : Int) ≤ _ | change (_ : Nat) ≤ _) <;> (try ((fail_if_success (with_reducible apply Exists.intro)); (try dsimp only); (try simp only [vS1])))
    all_goals (try ((fail_if_success (with_reducible apply Exists.intro)); first | with_reducible assumption | exact (hin _ (by omega)).1 | exact (hin _ (by omega)).2 | (simp only [List.length_map, List.length_range, List.length_singleton]; omega) | omega))
    · refine ⟨1, by omega, by omega, ?_⟩
      (repeat' (first | (with_reducible first | exact True.intro | refine And.intro ?_ ?_ | refine Head.mk ?_ ?_ ?_ ?_) | ((conv => lhs; whnf); first | (with_reducible first | rfl | exact vInt_s (by omega)) | exact rfl) | ((conv => whnf); first | (with_reducible first | exact True.intro | refine And.intro ?_ ?_)))) <;> (try (conv => lhs; whnf))
      exact locRow_eq (rng1 (laid_1 hrj ‹_› (him 0 (by omega)) (by omega)))
    · refine ⟨1, by omega, by omega, ?_⟩
      (repeat' (first | (with_reducible first | exact True.intro | refine And.intro ?_ ?_ | refine Head.mk ?_ ?_ ?_ ?_) | ((conv => lhs; whnf); first | (with_reducible first | rfl | exact vInt_s (by omega)) | exact rfl) | ((conv => whnf); first | (with_reducible first | exact True.intro | refine And.intro ?_ ?_)))) <;> (try (conv => lhs; whnf))
      exact locRow_eq (rng1 (laid_2 hrj ‹_› ‹_› (him 0 (by omega)) (by omega)))
    · refine ⟨1, by omega, by omega, ?_⟩
      (repeat' (first | (with_reducible first | exact True.intro | refine And.intro ?_ ?_ | refine Head.mk ?_ ?_ ?_ ?_) | ((conv => lhs; whnf); first | (with_reducible first | rfl | exact vInt_s (by omega)) | exact rfl) | ((conv => whnf); first | (with_reducible first | exact True.intro | refine And.intro ?_ ?_)))) <;> (try (conv => lhs; whnf))
      exact locRow_eq (rng1 (laid_0 hrj ‹_› ‹_› (him 0 (by omega)) (by omega)))
  ·
    have hG_ := kpz [(0, [0, 2]), (1, [0, 2, 3]), (2, [0, 2, 3, 4]), (3, [0, 2, 3, 4, 5]), (4, [0, 2, 3, 4, 5, 23]), (5, [0, 2, 3, 4, 5]), (6, [0, 2, 3, 4, 5, 6]), (7, [0, 2, 3, 4, 5, 6, 7]), (8, [0, 2, 3, 4, 5, 6, 7]), (9, [0, 2, 3, 4, 5, 7]), (10, [0, 2, 3, 4, 5, 7, 62]), (11, [0, 2, 3, 4, 5]), (12, [0, 2, 3, 4, 8]), (13, [0, 2, 3, 4, 8, 9]), (14, [0, 2, 3, 4, 8, 9, 10]), (15, [2, 3, 4, 8, 9, 10, 11]), (16, [2, 3, 4, 8, 9, 10, 11, 12]), (17, [2, 3, 4, 8, 9, 10, 11, 12, 75]), (18, [2, 3, 4, 8, 9, 10, 11, 12]), (19, [2, 3, 4, 8, 9, 10, 11, 12, 13]), (20, [2, 3, 4, 8, 9, 10, 11, 12, 13, 87]), (21, [2, 3, 4, 8, 9, 10, 11, 12, 13, 87, 88]), (22, [2, 3, 4, 8, 9, 10, 11, 12, 13]), (23, [2, 3, 4, 8, 9, 10, 11, 12, 13, 96]), (24, [2, 3, 4, 8, 9, 10, 11, 12, 13]), (25, [2, 3, 4, 8, 9, 10, 11, 12, 13]), (26, [2, 3, 4, 8, 9, 10, 11, 12]), (27, [2])] [(0, [2, 114, 1000]), (1, [2, 3, 114, 1000]), (2, [2, 3, 114, 1000]), (3, [2, 3, 114, 1000]), (4, [2, 3, 114, 1000]), (5, [2, 3, 30, 114, 1000]), (6, [2, 3, 114, 1000]), (7, [2, 3, 7, 30, 114, 1000]), (8, [2, 3, 7, 30, 114, 1000]), (9, [2, 3, 7, 30, 114, 1000]), (10, [2, 3, 7, 30, 114, 1000]), (11, [2, 3, 30, 114, 1000]), (12, [2, 3, 8, 114, 1000]), (13, [2, 3, 8, 114, 1000]), (14, [2, 3, 8, 114, 1000]), (15, [2, 3, 8, 114, 1000]), (16, [2, 3, 8, 114, 1000]), (17, [2, 3, 8, 114, 1000]), (18, [2, 3, 8, 114, 1000]), (19, [2, 3, 8, 13, 114, 1000]), (20, [2, 3, 8, 13, 114, 1000]), (21, [2, 3, 8, 13, 114, 1000]), (22, [2, 3, 8, 13, 114, 1000]), (23, [2, 3, 8, 13, 114, 1000]), (24, [2, 3, 8, 13, 114, 1000]), (25, [2, 3, 8, 13, 114, 1000]), (26, [2, 3, 8, 114, 1000]), (27, [2, 114, 1000])] [(11, [30])] []
    (repeat' (first | (with_reducible first | exact True.intro | refine zQ ?_ | (refine zG hG_ ?_; intro K_ hK_) | (refine zR ?_; intro K_ hK_) | (refine hK_ _ _ ?_; try clear hK_ K_) | refine sq_n ?_ | refine sq_r ?_ | refine sq_e ?_ | refine bq_n ?_ | refine bq_r ?_ | refine bq_q ?_ | refine zB ?_ | refine zX ?_ | refine zT ?_ | refine zK ?_ | refine gq_n ?_ | refine gq_r ?_ | refine gq_e ?_ | refine lq_n ?_ | refine lq_r ?_ | refine lq_e ?_ | refine bq_e (by decide) ?_) | ((with_reducible refine zC (b := ?b_) ?hb_ ?_ ?_); case hb_ => rfl) | ((conv => whnf); first | (with_reducible refine hK_ _ _ ?_; try clear hK_ K_) | (with_reducible refine fun (g_ : Sl) (o_ : Ow) => ?_) | (with_reducible first | exact True.intro | refine And.intro trivial ?_ | refine And.intro ?_ ?_) | exact Nat.le_of_ble_eq_true rfl | exact Or.inl rfl | (intro h_; cases h_) | (intro h_; (try simp only [vS1] at h_)) | rfl))) <;> (try (conv => whnf)) <;> (try first | change (_ : Int) ≤ _ | change (_ : Nat) ≤ _) <;> (try ((fail_if_success (with_reducible apply Exists.intro)); (try dsimp only); (try simp only [vS1])))
    all_goals (try ((fail_if_success (with_reducible apply Exists.intro)); first | with_reducible assumption | exact (hin _ (by omega)).1 | exact (hin _ (by omega)).2 | (simp only [List.length_map, List.length_range, List.length_singleton]; omega) | omega))
    · refine ⟨k + 2, by omega, by omega, ?_⟩
      (repeat' (first | (with_reducible first | exact True.intro | refine And.intro ?_ ?_ | refine Head.mk ?_ ?_ ?_ ?_) | ((conv => lhs; whnf); first | (with_reducible first | rfl | exact vInt_s (by omega)) | exact rfl) | ((conv => whnf); first | (with_reducible first | exact True.intro | refine And.intro ?_ ?_)))) <;> (try (conv => lhs; whnf))
      exact locRow_eq (rngS (laid_1 hrj ‹_› (him (k + 1) (by omega)) (by omega)))
    · refine ⟨k + 2, by omega, by omega, ?_⟩
      (repeat' (first | (with_reducible first | exact True.intro | refine And.intro ?_ ?_ | refine Head.mk ?_ ?_ ?_ ?_) | ((conv => lhs; whnf); first | (with_reducible first | rfl | exact vInt_s (by omega)) | exact rfl) | ((conv => whnf); first | (with_reducible first | exact True.intro | refine And.intro ?_ ?_)))) <;> (try (conv => lhs; whnf))
      exact locRow_eq (rngS (laid_2 hrj ‹_› ‹_› (him (k + 1) (by omega)) (by omega)))
    · refine ⟨k + 2, by omega, by omega, ?_⟩
      (repeat' (first | (with_reducible first | exact True.intro | refine And.intro ?_ ?_ | refine Head.mk ?_ ?_ ?_ ?_) | ((conv => lhs; whnf); first | (with_reducible first | rfl | exact vInt_s (by omega)) | exact rfl) | ((conv => whnf); first | (with_reducible first | exact True.intro | refine And.intro ?_ ?_)))) <;> (try (conv => lhs; whnf))
      exact locRow_eq (rngS (laid_0 hrj ‹_› ‹_› (him (k + 1) (by omega)) (by omega)))
    · show dOf _ = some _
      rw [hC]; rfl
    · rw [hX, show k + 1 = xs.length by omega]; rfl
def drawRoomM (bs : List Int) : List Pt := roomX (newC bs)
def drawRoomC : Con := mkCon [.sl (.b .u8)] (fun x => x.1.length ≤ 1048576) fun x => .val (.agg [.d (.sl none (.b .pt) (drawRoomM x.1))])
theorem drawRoom_ok : Good1 Try.prog n_spec_DrawRoom drawRoomC := by
  refine good_ofG (tys := tyL) (env := []) (envw := []) (envd := [(n_spec_l01New, l01NewC), (n_spec_l04Room, l04RoomC)]) [4, 5] [4, 5] [] [] [4, 5] mixed tys trivial trivial ⟨l01New_ok, l04Room_ok, trivial⟩ Try.func12 rfl (by kernel_rfl) (by decide) (by kernel_rfl) ?_
  have hG_ := kpz [(0, [0, 2]), (1, [2])] [(0, [2]), (1, [2, 4])] [] []
  rintro ⟨(bs : List Int), ⟨⟩⟩ (h1 : bs.length ≤ _)
  have hc := newC_ok h1
  (repeat' (first | (with_reducible first | exact True.intro | refine zQ ?_ | (refine zG hG_ ?_; intro K_ hK_) | (refine zR ?_; intro K_ hK_) | (refine hK_ _ _ ?_; try clear hK_ K_) | refine sq_n ?_ | refine sq_r ?_ | refine sq_e ?_ | refine bq_n ?_ | refine bq_r ?_ | refine bq_q ?_ | refine zB ?_ | refine zX ?_ | refine zT ?_ | refine zK ?_ | refine gq_n ?_ | refine gq_r ?_ | refine gq_e ?_ | refine lq_n ?_ | refine lq_r ?_ | refine lq_e ?_ | refine bq_e (by decide) ?_) | ((with_reducible refine zC (b := ?b_) ?hb_ ?_ ?_); case hb_ => rfl) | ((conv => whnf); first | (with_reducible refine hK_ _ _ ?_; try clear hK_ K_) | (with_reducible refine fun (g_ : Sl) (o_ : Ow) => ?_) | (with_reducible first | exact True.intro | refine And.intro trivial ?_ | refine And.intro ?_ ?_) | exact Nat.le_of_ble_eq_true rfl | exact Or.inl rfl | (intro h_; cases h_) | (intro h_; (try simp only [vS1] at h_)) | rfl))) <;> (try (conv => whnf)) <;> (try first | change (_ : Int) ≤ _ | change (_ : Nat) ≤ _) <;> (try ((fail_if_success (with_reducible apply Exists.intro)); (try dsimp only); (try simp only [vS1])))
  all_goals (try (fail_if_success (with_reducible apply Exists.intro)); first | with_reducible assumption | omega | exact mdl (by omega) | exact ilo1 (by omega) | exact ilo2 (by omega) | exact ihi1 (by omega) (by omega) | exact ihi2 (by omega) (by omega))
def listTo (c : Cur) : Nat → List Pt × Cur
  | 0 => ([], c)
  | k + 1 => ((listTo c k).1 ++ [l02PointX (listTo c k).2], l02PointC (listTo c k).2)
def drawListM (bs : List Int) : List Pt := (listTo (belowC (newC bs) 10) (belowX (newC bs) 10).toNat).1
def drawListC : Con := mkCon [.sl (.b .u8)] (fun x => x.1.length ≤ 1048576) fun x => ptRow (drawListM x.1)
theorem listTo_cur {c : Cur} (h : curOk c) : ∀ k, curOk (listTo c k).2
  | 0 => h
  | k + 1 => show curOk (belowC (belowC (listTo c k).2 9) 9) from belowC_ok (belowC_ok (listTo_cur h k))
theorem listTo_len (c : Cur) : ∀ k, (listTo c k).1.length = k
  | 0 => rfl
  | k + 1 => by
    show ((listTo c k).1 ++ [_]).length = _
    rw [List.length_append, listTo_len c k]; rfl
theorem drawList_ok : Good1 Try.prog n_spec_DrawList drawListC := by
  refine good_ofG (tys := tyL) (env := []) (envw := []) (envd := [(n_spec_l01New, l01NewC), (n_spec_l01Below, l01BelowC), (n_spec_l02Point, l02PointCo)]) [9, 10, 12, 19] [9, 12, 19] [] [] [9, 12, 19] mixed tys trivial trivial ⟨l01New_ok, l01Below_ok, l02Point_ok, trivial⟩ Try.func26 rfl (by kernel_rfl) (by decide) (by kernel_rfl) ?_
  have hG_ := kpz [(0, [0]), (1, [3]), (2, [3, 4]), (3, [3, 4, 5]), (4, [3, 4, 5, 6]), (5, [3, 4, 5, 6, 15]), (6, [3, 4, 5, 6]), (7, [3, 4, 5, 6, 7]), (8, [3, 4, 5, 6]), (9, [2])] [(1, [9]), (2, [9, 10]), (3, [9, 10]), (4, [9, 10]), (5, [9, 10]), (6, [9, 10]), (7, [7, 9, 10]), (8, [9, 10]), (9, [9, 10])] [] []
  rintro ⟨(bs : List Int), ⟨⟩⟩ (h1 : bs.length ≤ _)
  have hc := newC_ok h1
  have hc2 : curOk (belowC (newC bs) 10) := belowC_ok hc
  have hcur := listTo_cur hc2
  have hlen := listTo_len (belowC (newC bs) 10)
  have hb := below_bd (c := newC bs) (n := 10) (by decide)
  (repeat' (first | (with_reducible first | exact True.intro | refine zQ ?_ | (refine zG hG_ ?_; intro K_ hK_) | (refine zR ?_; intro K_ hK_) | (refine hK_ _ _ ?_; try clear hK_ K_) | refine sq_n ?_ | refine sq_r ?_ | refine sq_e ?_ | refine bq_n ?_ | refine bq_r ?_ | refine bq_q ?_ | refine zB ?_ | refine zX ?_ | refine zT ?_ | refine zK ?_ | refine gq_n ?_ | refine gq_r ?_ | refine gq_e ?_ | refine lq_n ?_ | refine lq_r ?_ | refine lq_e ?_ | refine bq_e (by decide) ?_) | ((with_reducible refine zC (b := ?b_) ?hb_ ?_ ?_); case hb_ => rfl) | ((conv => whnf); first | (with_reducible refine hK_ _ _ ?_; try clear hK_ K_) | (with_reducible refine fun (g_ : Sl) (o_ : Ow) => ?_) | (with_reducible first | exact True.intro | refine And.intro trivial ?_ | refine And.intro ?_ ?_) | exact Nat.le_of_ble_eq_true rfl | exact Or.inl rfl | (intro h_; cases h_) | (intro h_; (try simp only [vS1] at h_)) | rfl))) <;> (try (conv => whnf)) <;> (try first | change (_ : Int) ≤ _ | change (_ : Nat) ≤ _) <;> (try ((fail_if_success (with_reducible apply Exists.intro)); (try dsimp only); (try simp only [vS1])))
  all_goals (try (fail_if_success (with_reducible apply Exists.intro)); first | with_reducible assumption | omega | exact mdl (by omega) | exact ilo1 (by omega) | exact ilo2 (by omega) | exact ihi1 (by omega) (by omega) | exact ihi2 (by omega) (by omega))
  refine awp'_loopG (α := Nat) (fun k ver_ => [(6, vInt k)]) (fun k ver_ => [(4, 10, false, .row t_impl_Point (.b .pt) (listTo (belowC (newC bs) 10) k).1), (3, 9, true, .box t_spec_l01Cur ((curL (listTo (belowC (newC bs) 10) k).2).map .d))]) (fun k ver_ => []) (fun k => k ≤ (belowX (newC bs) 10).toNat) (fun k => (belowX (newC bs) 10).toNat - k) [5] [] (0) ?_
  conv => whnf
  refine ⟨⟨?inv1_, ?vals1_, ?own1_, ?fix1_⟩, ?body1_⟩
  case' vals1_ => (repeat' (first | (with_reducible first | exact True.intro | refine And.intro ?_ ?_ | refine Head.mk ?_ ?_ ?_ ?_) | ((conv => lhs; whnf); first | (with_reducible first | rfl | exact vInt_s (by omega)) | exact rfl) | ((conv => whnf); first | (with_reducible first | exact True.intro | refine And.intro ?_ ?_)))) <;> (try (conv => lhs; whnf))
  case' own1_ => (repeat' (first | (with_reducible first | exact True.intro | refine And.intro ?_ ?_ | refine Head.mk ?_ ?_ ?_ ?_) | ((conv => lhs; whnf); first | (with_reducible first | rfl | exact vInt_s (by omega)) | exact rfl) | ((conv => whnf); first | (with_reducible first | exact True.intro | refine And.intro ?_ ?_)))) <;> (try (conv => lhs; whnf))
  case' fix1_ => (repeat' (first | (with_reducible first | exact True.intro | refine And.intro ?_ ?_ | refine Head.mk ?_ ?_ ?_ ?_) | ((conv => lhs; whnf); first | (with_reducible first | rfl | exact vInt_s (by omega)) | exact rfl) | ((conv => whnf); first | (with_reducible first | exact True.intro | refine And.intro ?_ ?_)))) <;> (try (conv => lhs; whnf))
  · exact Nat.zero_le _
  rintro k g_ o_ v_ hk
  have hlk := hlen k
  have hck := hcur k
  (repeat' (first | (with_reducible first | exact True.intro | refine zQ ?_ | (refine zG hG_ ?_; intro K_ hK_) | (refine zR ?_; intro K_ hK_) | (refine hK_ _ _ ?_; try clear hK_ K_) | refine sq_n ?_ | refine sq_r ?_ | refine sq_e ?_ | refine bq_n ?_ | refine bq_r ?_ | refine bq_q ?_ | refine zB ?_ | refine zX ?_ | refine zT ?_ | refine zK ?_ | refine gq_n ?_ | refine gq_r ?_ | refine gq_e ?_ | refine lq_n ?_ | refine lq_r ?_ | refine lq_e ?_ | refine bq_e (by decide) ?_) | ((with_reducible refine zC (b := ?b_) ?hb_ ?_ ?_); case hb_ => rfl) | ((conv => whnf); first | (with_reducible refine hK_ _ _ ?_; try clear hK_ K_) | (with_reducible refine fun (g_ : Sl) (o_ : Ow) => ?_) | (with_reducible first | exact True.intro | refine And.intro trivial ?_ | refine And.intro ?_ ?_) | exact Nat.le_of_ble_eq_true rfl | exact Or.inl rfl | (intro h_; cases h_) | (intro h_; (try simp only [vS1] at h_)) | rfl))) <;> (try (conv => whnf)) <;> (try first | change (_ : Int) ≤ _ | change (_ : Nat) ≤ _) <;> (try ((fail_if_success (with_reducible apply Exists.intro)); (try dsimp only); (try simp only [vS1])))
  all_goals (try (fail_if_success (with_reducible apply Exists.intro)); first | with_reducible assumption | omega | exact mdl (by omega) | exact ilo1 (by omega) | exact ilo2 (by omega) | exact ihi1 (by omega) (by omega) | exact ihi2 (by omega) (by omega))
  · rw [hlk]; simp only [List.length_singleton]; omega
  · refine ⟨k + 1, by omega, by omega, ?_⟩
    (repeat' (first | (with_reducible first | exact True.intro | refine And.intro ?_ ?_ | refine Head.mk ?_ ?_ ?_ ?_) | ((conv => lhs; whnf); first | (with_reducible first | rfl | exact vInt_s (by omega)) | exact rfl) | ((conv => whnf); first | (with_reducible first | exact True.intro | refine And.intro ?_ ?_)))) <;> (try (conv => lhs; whnf))
  · rw [show k = (belowX (newC bs) 10).toNat by omega]; rfl
end Go.Proofs.Ytnepfcnlngpchaa
namespace Go.Proofs.Ytnepfcnlngpchaa
open Go.RowKit Go.Proofs.Ytnepfcnlngpchaa.Nm
set_option maxRecDepth 10000
theorem shape_bd (k : Int) : ∀ q ∈ shapeM k, 0 ≤ q.1 ∧ q.1 ≤ 10 ∧ 0 ≤ q.2 ∧ q.2 ≤ 10 := by
  unfold shapeM
  repeat' split
  all_goals decide
theorem stepR_bd {s : List Pt × Cur} {j : Int} (hr : roomOk s.1 = true) (h : ∀ q ∈ s.1, -j ≤ q.1 ∧ q.1 ≤ 10 + j ∧ -j ≤ q.2 ∧ q.2 ≤ 10 + j) : ∀ q ∈ (stepR s).1, -(j + 1) ≤ q.1 ∧ q.1 ≤ 10 + (j + 1) ∧ -(j + 1) ≤ q.2 ∧ q.2 ≤ 10 + (j + 1) := by
  have h3 := (roomOk_iff.1 hr).1
  intro q hq
  have old : q ∈ s.1 → -(j + 1) ≤ q.1 ∧ q.1 ≤ 10 + (j + 1) ∧ -(j + 1) ≤ q.2 ∧ q.2 ≤ 10 + (j + 1) := fun hq => by have := h q hq; omega
  unfold stepR at hq
  simp only at hq
  split at hq
  · unfold stepX at hq
    rcases List.mem_or_eq_of_mem_set hq with hq | rfl
    · exact old hq
    · have hb := below_bd (c := s.2) (n := (s.1.length : Int)) (by omega)
      have hi : (belowX s.2 s.1.length).toNat < s.1.length := by omega
      have := h _ (List.getElem_mem hi)
      rw [← getD_lt (0, 0) hi] at this
      have b1 := below_bd (c := belowC s.2 s.1.length) (n := 3) (by decide)
      have b2 := below_bd (c := belowC (belowC s.2 s.1.length) 3) (n := 3) (by decide)
      simp only
      omega
  · exact old hq
theorem iterR_bd (c : Cur) : ∀ j : Nat, ∀ q ∈ (iterR (room0 c) j).1, -(j : Int) ≤ q.1 ∧ q.1 ≤ 10 + (j : Int) ∧ -(j : Int) ≤ q.2 ∧ q.2 ≤ 10 + (j : Int)
  | 0 => fun q hq => by have := shape_bd _ q hq; omega
  | j + 1 => stepR_bd (iterR_ok (shape_ok _) j) (iterR_bd c j)
def laidMv (turn dx : Int) : Geo.Mv := if turn = 1 then ⟨0, 1, dx, 0, rfl⟩ else if turn = 2 then ⟨-1, 0, dx, 0, rfl⟩ else ⟨1, 0, dx, 0, rfl⟩
theorem laidMv_app (turn dx : Int) (p : Pt) : laidP turn dx p = (laidMv turn dx).app p := by
  unfold laidP turnP laidMv Geo.Mv.app
  split
  · refine Prod.ext ?_ ?_ <;> simp only <;> omega
  · split
    · refine Prod.ext ?_ ?_ <;> simp only <;> omega
    · refine Prod.ext ?_ ?_ <;> simp only <;> omega
theorem laidR_len (xs : List Pt) (turn first dx : Int) : (laidR xs turn first dx).length = xs.length := by unfold laidR; simp
theorem laid_ok {xs : List Pt} (hr : roomOk xs = true) {turn first dx : Int} (hb : ∀ q ∈ xs, -30 ≤ q.1 ∧ q.1 ≤ 30 ∧ -30 ≤ q.2 ∧ q.2 ≤ 30) (hd : -2 ≤ dx ∧ dx ≤ 2) : roomOk (laidR xs turn first dx) = true := by
  have h3 := (roomOk_iff.1 hr).1
  have hn : 0 < xs.length := by omega
  refine Geo.room_moved hr first.toNat (laidMv turn dx) (laidR_len _ _ _ _) (fun j => ?_) fun q hq => ?_
  · show (laidR xs turn first dx).getD (j % (laidR xs turn first dx).length) (0, 0) = _
    rw [laidR_len]
    have hj := Nat.mod_lt j hn
    rw [getD_lt _ (by rw [laidR_len]; exact hj)]
    unfold laidR
    rw [List.getElem_map, List.getElem_range]
    show laidP turn dx (xs.getD ((first.toNat + j % xs.length) % xs.length) (0, 0)) = _
    rw [laidMv_app, Nat.add_mod_mod]
  · unfold laidR at hq
    obtain ⟨k, -, rfl⟩ := List.mem_map.1 hq
    have hm : (first.toNat + k) % xs.length < xs.length := Nat.mod_lt _ hn
    have := hb _ (List.getElem_mem hm)
    rw [← getD_lt (0, 0) hm] at this
    show ptOk (laidP turn dx (xs.getD _ _)) = true
    refine ptOk_iff.2 ?_
    unfold laidP turnP
    repeat' split
    all_goals simp only; omega
theorem roomX_ok (c : Cur) : roomOk (roomX c) = true := by
  have hK : 0 ≤ roomK c ∧ roomK c < 4 := below_bd (by decide)
  refine laid_ok (iterR_ok (s := room0 c) (shape_ok _) _) (fun q hq => ?_) ?_
  · have := iterR_bd c _ q hq
    omega
  · have := below_bd (c := belowC (belowC (roomS c).2 4) (roomS c).1.length) (n := 5) (by decide)
    omega
theorem drawRoom_room (bs : List Int) : roomOk (drawRoomM bs) = true := roomX_ok _
end Go.Proofs.Ytnepfcnlngpchaa
namespace Go.Proofs.Ytnepfcnlngpchaa
open Go.RowKit Go.Proofs.Ytnepfcnlngpchaa.Nm
set_option maxRecDepth 10000
set_option maxHeartbeats 4000000
theorem conv_turns {xs : List Pt} (h : convM xs = true) (j : Nat) : 0 < turnZ ((Geo.roomP xs).v j) ((Geo.roomP xs).v (j + 1)) ((Geo.roomP xs).v (j + 2)) := by
  obtain ⟨hr, hc⟩ := convM_iff.1 h
  have h3 := room_len hr
  have hb := bd_of_room hr
  have hn : (Geo.roomP xs).n = xs.length := rfl
  have hm := Nat.mod_lt (j + 1) (show 0 < xs.length by omega)
  have h1 := hc _ hm
  unfold reflexM at h1
  rw [decide_eq_false_iff_not, turn_exact (pCy_bd hb (by omega)) (pAt_bd hb hm) (pCy_bd hb (by omega))] at h1
  have e1 : pAt xs ((j + 1) % xs.length) = (Geo.roomP xs).v (j + 1) := rfl
  have e2 : pCy xs ((j + 1) % xs.length + 1) = (Geo.roomP xs).v (j + 2) := by
    show (Geo.roomP xs).v ((j + 1) % (Geo.roomP xs).n + 1) = _
    rw [(Geo.roomP xs).per_add]
  have e0 : pCy xs ((j + 1) % xs.length + xs.length - 1) = (Geo.roomP xs).v j := by
    show (Geo.roomP xs).v ((j + 1) % (Geo.roomP xs).n + xs.length - 1) = _
    rw [show (j + 1) % (Geo.roomP xs).n + xs.length - 1 = (j + 1) % (Geo.roomP xs).n + (xs.length - 1) by omega, (Geo.roomP xs).per_add, show j + 1 + (xs.length - 1) = j + (Geo.roomP xs).n by rw [hn]; omega, (Geo.roomP xs).per]
  rw [e0, e1, e2] at h1
  have := Geo.room_turns hr j
  omega
end Go.Proofs.Ytnepfcnlngpchaa
namespace Go.Proofs.Ytnepfcnlngpchaa
open Go.RowKit Go.Proofs.Ytnepfcnlngpchaa.Nm
set_option maxRecDepth 10000
set_option maxHeartbeats 2000000
def AcAt (cs : List Int) (t : Tri) : Prop := cs.getD t.1.toNat 0 ≠ cs.getD t.2.1.toNat 0 ∧ cs.getD t.2.1.toNat 0 ≠ cs.getD t.2.2.toNat 0 ∧ cs.getD t.1.toNat 0 ≠ cs.getD t.2.2.toNat 0
instance (cs : List Int) (t : Tri) : Decidable (AcAt cs t) := by unfold AcAt; infer_instance
end Go.Proofs.Ytnepfcnlngpchaa
namespace Go.Proofs.Ytnepfcnlngpchaa
open Go.RowKit Go.Proofs.Ytnepfcnlngpchaa.Nm
set_option maxRecDepth 10000
set_option maxHeartbeats 4000000
def dArea (xs : List Pt) : Int := if (decide ((xs.length : Int) ≤ 10) && xs.all ptOk) = true then IntKind.i64.wrap (dbl xs) else 0
def dAreaC : Con := mkCon [.sl (.b .pt)] (fun x => x.1.length ≤ 1048576) fun x => vI (dArea x.1)
theorem dArea_ok : Good1 Try.prog n_impl_DoubleArea dAreaC := by
  refine good_ofG (tys := tyL) (env := [(n_impl_pointsOk, pointsOkC), (n_impl_area, areaC)]) (envw := []) (envd := []) [] [] [] [] [] mixed tys ⟨pointsOk_ok, area_ok, trivial⟩ trivial trivial Try.func23 rfl (by kernel_rfl) (by decide) (by kernel_rfl) ?_
  have hG_ := kpz [(0, [0]), (1, [0, 10]), (2, [2]), (3, [2])] [] [] []
  rintro ⟨(xs : List Pt), ⟨⟩⟩ (h1 : xs.length ≤ _)
  (repeat' (first | (with_reducible first | exact True.intro | refine zQ ?_ | (refine zG hG_ ?_; intro K_ hK_) | (refine zR ?_; intro K_ hK_) | (refine hK_ _ _ ?_; try clear hK_ K_) | refine sq_n ?_ | refine sq_r ?_ | refine sq_e ?_ | refine bq_n ?_ | refine bq_r ?_ | refine bq_q ?_ | refine zB ?_ | refine zX ?_ | refine zT ?_ | refine zK ?_ | refine gq_n ?_ | refine gq_r ?_ | refine gq_e ?_ | refine lq_n ?_ | refine lq_r ?_ | refine lq_e ?_ | refine bq_e (by decide) ?_) | ((with_reducible refine zC (b := ?b_) ?hb_ ?_ ?_); case hb_ => rfl) | ((conv => whnf); first | (with_reducible refine hK_ _ _ ?_; try clear hK_ K_) | (with_reducible refine fun (g_ : Sl) (o_ : Ow) => ?_) | (with_reducible first | exact True.intro | refine And.intro trivial ?_ | refine And.intro ?_ ?_) | exact Nat.le_of_ble_eq_true rfl | exact Or.inl rfl | (intro h_; cases h_) | (intro h_; (try simp only [vS1] at h_)) | rfl))) <;> (try (conv => whnf)) <;> (try first | change (_ : Int) ≤ _ | change (_ : Nat) ≤ _) <;> (try ((fail_if_success (with_reducible apply Exists.intro)); (try dsimp only); (try simp only [vS1]))) <;> (try simp (disch := omega) only [vS3, Int.add_sub_cancel, tn1, tnp, tnc, vS2] at *)
  all_goals (try ((fail_if_success (with_reducible apply Exists.intro)); first | with_reducible assumption | omega))
  · unfold dArea
    rw [decide_eq_false (by omega)]; rfl
  · unfold dArea
    rw [‹xs.all ptOk = false›, Bool.and_false]; rfl
  · unfold dArea
    rw [decide_eq_true (show (xs.length : Int) ≤ 10 by omega), ‹xs.all ptOk = true›]; rfl
theorem dArea_room {xs : List Pt} (hr : roomOk xs = true) : dArea xs = dbl xs := by
  have hl := room_len hr
  have h2 := (Geo.room_area hr).2
  rw [← (Geo.room_area hr).1] at h2
  unfold dArea
  rw [if_pos (by rw [decide_eq_true (by omega), (roomOk_iff.1 hr).2.1]; rfl)]
  exact W_in (by omega) (by omega)
def cntIn (xs l : List Pt) : Int := if roomOk xs then ((l.countP (inP xs) : Nat) : Int) else 0
def cntInC : Con := mkCon [.room, .sl (.b .pt)] (fun x => x.1.length ≤ 1048576 ∧ x.2.1.length ≤ 1048576) fun x => vI (cntIn x.1 x.2.1)
theorem cntTo_succ {xs l : List Pt} {k : Nat} (h : k < l.length) : (l.take (k + 1)).countP (inP xs) = (l.take k).countP (inP xs) + if inP xs (pAt l k) then 1 else 0 := by
  rw [List.take_succ_eq_append_getElem h, List.countP_append, pAt, getD_lt _ h]
  simp [List.countP_cons]
theorem cntIn_ok : Good1 Try.prog n_impl_CountIn cntInC := by
  refine good_ofG (tys := tyL) (env := [(n_impl_RoomOk, roomOkC), (n_impl_PointOk, ptOkC), (n_impl_place, placeC)]) (envw := []) (envd := []) [] [] [] [] [] mixed tys ⟨iRoomOk_ok, iPointOk_ok, place_ok, trivial⟩ trivial trivial Try.func31 rfl (by kernel_rfl) (by decide) (by kernel_rfl) ?_
  have hG_ := kpz [(0, [1, 2]), (1, [1, 2, 10]), (2, [4]), (3, [1, 2, 5]), (4, [2, 5, 11, 12, 13]), (5, [2, 5, 11, 12, 13, 14]), (6, [2, 5, 7, 11, 12, 13]), (7, [2, 5, 11, 12, 13, 25]), (8, [2, 5, 11, 12, 13]), (9, [2, 5, 11, 12, 13]), (10, [4])] [(6, [7])] [] []
  rintro ⟨(xs : List Pt), (l : List Pt), ⟨⟩⟩ ⟨(h1 : xs.length ≤ _), (h2 : l.length ≤ _)⟩
  (repeat' (first | (with_reducible first | exact True.intro | refine zQ ?_ | (refine zG hG_ ?_; intro K_ hK_) | (refine zR ?_; intro K_ hK_) | (refine hK_ _ _ ?_; try clear hK_ K_) | refine sq_n ?_ | refine sq_r ?_ | refine sq_e ?_ | refine bq_n ?_ | refine bq_r ?_ | refine bq_q ?_ | refine zB ?_ | refine zX ?_ | refine zT ?_ | refine zK ?_ | refine gq_n ?_ | refine gq_r ?_ | refine gq_e ?_ | refine lq_n ?_ | refine lq_r ?_ | refine lq_e ?_ | refine bq_e (by decide) ?_) | ((with_reducible refine zC (b := ?b_) ?hb_ ?_ ?_); case hb_ => rfl) | ((conv => whnf); first | (with_reducible refine hK_ _ _ ?_; try clear hK_ K_) | (with_reducible refine fun (g_ : Sl) (o_ : Ow) => ?_) | (with_reducible first | exact True.intro | refine And.intro trivial ?_ | refine And.intro ?_ ?_) | exact Nat.le_of_ble_eq_true rfl | exact Or.inl rfl | (intro h_; cases h_) | (intro h_; (try simp only [vS1] at h_)) | rfl))) <;> (try (conv => whnf)) <;> (try first | change (_ : Int) ≤ _ | change (_ : Nat) ≤ _) <;> (try ((fail_if_success (with_reducible apply Exists.intro)); (try dsimp only); (try simp only [vS1]))) <;> (try simp (disch := omega) only [vS3, Int.add_sub_cancel, tn1, tnp, tnc, vS2] at *)
  all_goals (try ((fail_if_success (with_reducible apply Exists.intro)); first | with_reducible assumption | omega))
  · unfold cntIn; rw [‹roomOk xs = false›]; rfl
  refine awp'_loopG (α := Nat) (fun k ver_ => [(5, vInt ((l.take k).countP (inP xs) : Nat)), (13, vInt k)]) (fun k ver_ => []) (fun k ver_ => []) (fun k => k ≤ l.length) (fun k => l.length - k) [2, 11, 12] [] (0) ?_
  conv => whnf
  refine ⟨⟨?inv1_, ?vals1_, ?own1_, ?fix1_⟩, ?body1_⟩
  case' vals1_ => (repeat' (first | (with_reducible first | exact True.intro | refine And.intro ?_ ?_ | refine Head.mk ?_ ?_ ?_ ?_) | ((conv => lhs; whnf); first | (with_reducible first | rfl | exact vInt_s (by omega)) | exact rfl) | ((conv => whnf); first | (with_reducible first | exact True.intro | refine And.intro ?_ ?_)))) <;> (try (conv => lhs; whnf))
  case' own1_ => (repeat' (first | (with_reducible first | exact True.intro | refine And.intro ?_ ?_ | refine Head.mk ?_ ?_ ?_ ?_) | ((conv => lhs; whnf); first | (with_reducible first | rfl | exact vInt_s (by omega)) | exact rfl) | ((conv => whnf); first | (with_reducible first | exact True.intro | refine And.intro ?_ ?_)))) <;> (try (conv => lhs; whnf))
  case' fix1_ => (repeat' (first | (with_reducible first | exact True.intro | refine And.intro ?_ ?_ | refine Head.mk ?_ ?_ ?_ ?_) | ((conv => lhs; whnf); first | (with_reducible first | rfl | exact vInt_s (by omega)) | exact rfl) | ((conv => whnf); first | (with_reducible first | exact True.intro | refine And.intro ?_ ?_)))) <;> (try (conv => lhs; whnf))
  · exact Nat.zero_le _
  rintro k g_ o_ v_ hk
  have hb : (l.take k).countP (inP xs) ≤ k := Nat.le_trans List.countP_le_length (by rw [List.length_take]; omega)
  (repeat' (first | (with_reducible first | exact True.intro | refine zQ ?_ | (refine zG hG_ ?_; intro K_ hK_) | (refine zR ?_; intro K_ hK_) | (refine hK_ _ _ ?_; try clear hK_ K_) | refine sq_n ?_ | refine sq_r ?_ | refine sq_e ?_ | refine bq_n ?_ | refine bq_r ?_ | refine bq_q ?_ | refine zB ?_ | refine zX ?_ | refine zT ?_ | refine zK ?_ | refine gq_n ?_ | refine gq_r ?_ | refine gq_e ?_ | refine lq_n ?_ | refine lq_r ?_ | refine lq_e ?_ | refine bq_e (by decide) ?_) | ((with_reducible refine zC (b := ?b_) ?hb_ ?_ ?_); case hb_ => rfl) | ((conv => whnf); first | (with_reducible refine hK_ _ _ ?_; try clear hK_ K_) | (with_reducible refine fun (g_ : Sl) (o_ : Ow) => ?_) | (with_reducible first | exact True.intro | refine And.intro trivial ?_ | refine And.intro ?_ ?_) | exact Nat.le_of_ble_eq_true rfl | exact Or.inl rfl | (intro h_; cases h_) | (intro h_; (try simp only [vS1] at h_)) | rfl))) <;> (try (conv => whnf)) <;> (try first | change (_ : Int) ≤ _ | change (_ : Nat) ≤ _) <;> (try ((fail_if_success (with_reducible apply Exists.intro)); (try dsimp only); (try simp only [vS1]))) <;> (try simp (disch := omega) only [vS3, Int.add_sub_cancel, tn1, tnp, tnc, vS2] at *)
  all_goals (try ((fail_if_success (with_reducible apply Exists.intro)); first | with_reducible assumption | omega))
  · have hi : inP xs (pAt l k) = true := inP_iff.2 ⟨by assumption, by assumption⟩
    refine ⟨k + 1, by omega, by omega, ?_⟩
    (repeat' (first | (with_reducible first | exact True.intro | refine And.intro ?_ ?_ | refine Head.mk ?_ ?_ ?_ ?_) | ((conv => lhs; whnf); first | (with_reducible first | rfl | exact vInt_s (by omega)) | exact rfl) | ((conv => whnf); first | (with_reducible first | exact True.intro | refine And.intro ?_ ?_)))) <;> (try (conv => lhs; whnf))
    exact congrArg vInt (by rw [cntTo_succ ‹k < l.length›, hi]; rfl)
  · have hi : inP xs (pAt l k) = false := by
      rw [Bool.eq_false_iff]
      exact fun hc => (inP_iff.1 hc).2 (by assumption)
    refine ⟨k + 1, by omega, by omega, ?_⟩
    (repeat' (first | (with_reducible first | exact True.intro | refine And.intro ?_ ?_ | refine Head.mk ?_ ?_ ?_ ?_) | ((conv => lhs; whnf); first | (with_reducible first | rfl | exact vInt_s (by omega)) | exact rfl) | ((conv => whnf); first | (with_reducible first | exact True.intro | refine And.intro ?_ ?_)))) <;> (try (conv => lhs; whnf))
    exact congrArg vInt (by rw [cntTo_succ ‹k < l.length›, hi]; rfl)
  · have hi : inP xs (pAt l k) = false := by
      rw [Bool.eq_false_iff]
      exact fun hc => absurd ((inP_iff.1 hc).1.symm.trans ‹ptOk _ = false›) (by decide)
    refine ⟨k + 1, by omega, by omega, ?_⟩
    (repeat' (first | (with_reducible first | exact True.intro | refine And.intro ?_ ?_ | refine Head.mk ?_ ?_ ?_ ?_) | ((conv => lhs; whnf); first | (with_reducible first | rfl | exact vInt_s (by omega)) | exact rfl) | ((conv => whnf); first | (with_reducible first | exact True.intro | refine And.intro ?_ ?_)))) <;> (try (conv => lhs; whnf))
    exact congrArg vInt (by rw [cntTo_succ ‹k < l.length›, hi]; rfl)
  · unfold cntIn
    rw [if_pos ‹roomOk xs = true›, List.take_of_length_le (by omega)]
def turnOfM (a b c : Pt) : Int := if [a, b, c].all ptOk then turn a b c else 0
def turnOfC : Con := mkCon [.pt, .pt, .pt] (fun _ => True) fun x => vI (turnOfM x.1 x.2.1 x.2.2.1)
theorem turnOf_ok : Good1 Try.prog n_impl_TurnOf turnOfC := by
  refine good_ofG (tys := tyL) (env := [(n_impl_pointsOk, pointsOkC), (n_impl_turn, turnC)]) (envw := []) (envd := []) [] [] [] [] [] mixed tys ⟨pointsOk_ok, turn_ok, trivial⟩ trivial trivial Try.func29 rfl (by kernel_rfl) (by decide) (by kernel_rfl) ?_
  have hG_ := kpz [(0, [3, 4, 5]), (1, [3, 4, 5, 12]), (2, [6]), (3, [6])] [] [] []
  rintro ⟨⟨(a : Int), (b : Int)⟩, ⟨(c : Int), (d : Int)⟩, ⟨(e : Int), (f : Int)⟩, ⟨⟩⟩ -
  (repeat' (first | (with_reducible first | exact True.intro | refine zQ ?_ | (refine zG hG_ ?_; intro K_ hK_) | (refine zR ?_; intro K_ hK_) | (refine hK_ _ _ ?_; try clear hK_ K_) | refine sq_n ?_ | refine sq_r ?_ | refine sq_e ?_ | refine bq_n ?_ | refine bq_r ?_ | refine bq_q ?_ | refine zB ?_ | refine zX ?_ | refine zT ?_ | refine zK ?_ | refine gq_n ?_ | refine gq_r ?_ | refine gq_e ?_ | refine lq_n ?_ | refine lq_r ?_ | refine lq_e ?_ | refine bq_e (by decide) ?_) | ((with_reducible refine zC (b := ?b_) ?hb_ ?_ ?_); case hb_ => rfl) | ((conv => whnf); first | (with_reducible refine hK_ _ _ ?_; try clear hK_ K_) | (with_reducible refine fun (g_ : Sl) (o_ : Ow) => ?_) | (with_reducible first | exact True.intro | refine And.intro trivial ?_ | refine And.intro ?_ ?_) | exact Nat.le_of_ble_eq_true rfl | exact Or.inl rfl | (intro h_; cases h_) | (intro h_; (try simp only [vS1] at h_)) | rfl))) <;> (try (conv => whnf)) <;> (try first | change (_ : Int) ≤ _ | change (_ : Nat) ≤ _) <;> (try ((fail_if_success (with_reducible apply Exists.intro)); (try dsimp only); (try simp only [vS1]))) <;> (try simp (disch := omega) only [vS3, Int.add_sub_cancel, tn1, tnp, tnc, vS2] at *)
  all_goals (try ((fail_if_success (with_reducible apply Exists.intro)); first | with_reducible assumption | omega))
  · unfold turnOfM; rw [h_]; rfl
  · unfold turnOfM; rw [h_]; rfl
theorem conv_wc {xs : List Pt} (hr : roomOk xs = true) : convM xs = true ↔ Geo.WC (Geo.roomP xs) := by
  rw [Geo.wc_iff hr]
  constructor
  · exact conv_turns
  · intro h
    refine convM_iff.2 ⟨hr, fun k hk => ?_⟩
    have hl := room_len hr
    unfold reflexM
    have t := h (k + xs.length - 1)
    have e1 : (Geo.roomP xs).v (k + xs.length - 1 + 1) = pAt xs k := by
      rw [show k + xs.length - 1 + 1 = k + xs.length by omega]
      exact ((Geo.roomP xs).per k).trans (Geo.v_lt hk)
    have e2 : (Geo.roomP xs).v (k + xs.length - 1 + 2) = pCy xs (k + 1) := by
      rw [show k + xs.length - 1 + 2 = k + 1 + xs.length by omega]
      exact (Geo.roomP xs).per (k + 1)
    rw [e1, e2] at t
    have hb := bd_of_room hr
    rw [turn_exact (pCy_bd hb (by omega)) (pAt_bd hb hk) (pCy_bd hb (by omega))]
    have t : 0 < turnZ (pCy xs (k + xs.length - 1)) (pAt xs k) (pCy xs (k + 1)) := t
    exact decide_eq_false (by omega)
structure HulX (xs : List Pt) : Prop where
  len : (hullRoomM xs).length ≤ 1048576
  conv : convM (hullRoomM xs) = true
  inn : cntIn (hullRoomM xs) xs = xs.length
  pos : pocM xs ≥ 0
  zero : (pocM xs == 0) = convM xs
  pock : (pockM xs == 0) = convM xs
  area : dArea (hullRoomM xs) = IntKind.i64.wrap (dArea xs + pocM xs)
theorem hulX {xs : List Pt} (hr : roomOk xs = true) : HulX xs := by
  have hh := Geo.hull_room hr
  have e := hr_yes hr
  have hl := room_len hh
  have a1 := (Geo.room_area hr).2
  have a2 := (Geo.room_area hh).2
  have ep : pocM xs = (Geo.roomP (hullM xs)).area - (Geo.roomP xs).area := by
    unfold pocM
    rw [if_pos hr, (Geo.room_area hr).1, (Geo.room_area hh).1, W_in (n := (Geo.roomP (hullM xs)).area) (by omega) (by omega), W_in (n := (Geo.roomP xs).area) (by omega) (by omega), W_in (by omega) (by omega)]
  have ha := Geo.hull_area hr
  refine ⟨by rw [e]; omega, ?_, ?_, by rw [ep]; omega, ?_, ?_, ?_⟩
  · rw [e]
    exact (conv_wc hh).2 ((Geo.wc_iff hh).2 (Geo.hull_convex hr))
  · unfold cntIn
    rw [e, if_pos hh]
    have : xs.countP (inP (hullM xs)) = xs.length := List.countP_eq_length.2 fun q hq => inP_iff.2 ⟨List.all_eq_true.1 (roomOk_iff.1 hr).2.1 q hq, Geo.hull_in hr hq⟩
    rw [this]
  · rw [Bool.eq_iff_iff, conv_wc hr, ← Geo.hull_area_iff hr, beq_iff_eq, ep]
    omega
  · rw [Bool.eq_iff_iff, conv_wc hr, ← Geo.pockets_iff hr, beq_iff_eq]
  · rw [e, dArea_room hh, dArea_room hr, ep, (Geo.room_area hr).1, (Geo.room_area hh).1, W_in (by omega) (by omega)]
    omega
theorem turnOf_pt {a b c : Pt} (ha : ptOk a = true) (hb : ptOk b = true) (hc : ptOk c = true) : turnOfM a b c = turnZ a b c := by
  unfold turnOfM
  rw [List.all_cons, List.all_cons, List.all_cons, ha, hb, hc]
  exact turn_exact (bd_of_ok ha) (bd_of_ok hb) (bd_of_ok hc)
structure LisX (L x : List Pt) : Prop where
  back : 0 < x.length → hullM x = x
  turn : ∀ {k}, k < x.length → 0 < turnOfM (pAt x k) (pAt x ((k + 1) % x.length)) (pAt x ((k + 2) % x.length))
  left : ∀ {k i}, k < x.length → i < L.length → 0 ≤ turnOfM (pAt x k) (pAt x ((k + 1) % x.length)) (pAt L i)
theorem lisX (L : List Pt) : LisX L (hullM L) := by
  have ok : 0 < (hullM L).length → ∀ j, ptOk (pCy (hullM L) j) = true := fun h j => by
    have d := Geo.hull_d h
    exact List.all_eq_true.1 d.ok _ (d.mem _ (pAt_mem (Nat.mod_lt _ h)))
  refine ⟨Geo.hull_hull, fun {k} hk => ?_, fun {k i} hk hi => ?_⟩
  · have h : 0 < (hullM L).length := by omega
    have d := Geo.hull_d h
    have t := d.edges.turn d.len k
    rw [← show pCy (hullM L) k = pAt (hullM L) k from pCy_lt hk]
    show 0 < turnOfM (pCy (hullM L) k) (pCy (hullM L) (k + 1)) (pCy (hullM L) (k + 2))
    rw [turnOf_pt (ok h _) (ok h _) (ok h _)]
    exact t
  · have h : 0 < (hullM L).length := by omega
    have d := Geo.hull_d h
    rw [← show pCy (hullM L) k = pAt (hullM L) k from pCy_lt hk]
    show 0 ≤ turnOfM (pCy (hullM L) k) (pCy (hullM L) (k + 1)) (pAt L i)
    have hq : pAt L i ∈ L := pAt_mem hi
    rw [turnOf_pt (ok h _) (ok h _) (List.all_eq_true.1 d.ok _ hq)]
    exact ((d.edges.at h k).2.2.2 _ hq).1
theorem drawList_len (bs : List Int) : (drawListM bs).length ≤ 10 := by
  have hb := below_bd (c := newC bs) (n := 10) (by decide)
  unfold drawListM
  rw [listTo_len]
  omega
theorem fnHulls_ok : Good1 Try.prog n_laws_FnHulls (lawCon [.sl (.b .u8)]) := by
  refine good_ofG (tys := tyL) (env := [(n_laws_big, bigC), (n_spec_DrawRoom, drawRoomC), (n_spec_DrawList, drawListC), (n_impl_HullRoom, hullRoomC), (n_impl_HullOf, hullC), (n_impl_TurnOf, turnOfC), (n_impl_PocketArea, pocC), (n_impl_IsConvex, convC), (n_impl_CountIn, cntInC), (n_impl_CountPockets, pockC), (n_impl_DoubleArea, dAreaC)]) (envw := []) (envd := []) [] [] [] [] [] mixed tys ⟨big_ok, drawRoom_ok, drawList_ok, iHullRoom_ok, iHullOf_ok, turnOf_ok, iPocketArea_ok, isConvex_ok, cntIn_ok, iCountPockets_ok, dArea_ok, trivial⟩ trivial trivial Try.func5 rfl (by kernel_rfl) (by decide) (by kernel_rfl) ?_
  have hG_ := kpz [(0, [0]), (1, [0, 12]), (2, [2]), (3, [0, 3]), (4, [3, 4]), (5, [3, 4, 5]), (6, [3, 4, 5, 6]), (7, [3, 4, 5, 6, 23]), (8, [3, 4, 5, 6, 7]), (9, [3, 4, 5, 6, 7, 30]), (10, [2]), (11, [3, 4, 5, 6, 7, 8]), (12, [3, 4, 5, 6, 7, 8, 34]), (13, [3, 4, 5, 6, 7, 8]), (14, [3, 4, 5, 6, 7, 8, 69]), (15, [2]), (16, [3, 4, 5, 6, 7, 8, 9]), (17, [3, 4, 5, 6, 7, 8, 9, 73]), (18, [3, 4, 5, 6, 7, 8, 9]), (19, [3, 4, 5, 6, 7, 8, 9, 93]), (20, [2]), (21, [3, 5, 10]), (22, [2])] [(3, [3]), (4, [3]), (5, [3, 5]), (6, [3, 5]), (7, [3, 5]), (8, [3, 5]), (9, [3, 5]), (11, [3, 5]), (12, [3, 5]), (13, [3, 5]), (14, [3, 5]), (16, [3, 5]), (17, [3, 5]), (18, [3, 5]), (19, [3, 5]), (21, [3, 5])] [] []
  rintro ⟨(bs : List Int), ⟨⟩⟩ ⟨(h0 : bs.length ≤ _), -⟩
  have hr := drawRoom_room bs
  have hl := room_len hr
  have hlist := drawList_len bs
  have hhl := hull_len (drawListM bs)
  have hX := hulX hr
  have hXl := hX.len
  have hY := lisX (drawListM bs)
  (repeat' (first | (with_reducible first | exact True.intro | refine zQ ?_ | (refine zG hG_ ?_; intro K_ hK_) | (refine zR ?_; intro K_ hK_) | (refine hK_ _ _ ?_; try clear hK_ K_) | refine sq_n ?_ | refine sq_r ?_ | refine sq_e ?_ | refine bq_n ?_ | refine bq_r ?_ | refine bq_q ?_ | refine zB ?_ | refine zX ?_ | refine zT ?_ | refine zK ?_ | refine gq_n ?_ | refine gq_r ?_ | refine gq_e ?_ | refine lq_n ?_ | refine lq_r ?_ | refine lq_e ?_ | refine bq_e (by decide) ?_) | ((with_reducible refine zC (b := ?b_) ?hb_ ?_ ?_); case hb_ => rfl) | ((conv => whnf); first | (with_reducible refine hK_ _ _ ?_; try clear hK_ K_) | (with_reducible refine fun (g_ : Sl) (o_ : Ow) => ?_) | (with_reducible first | exact True.intro | refine And.intro trivial ?_ | refine And.intro ?_ ?_) | exact Nat.le_of_ble_eq_true rfl | exact Or.inl rfl | (intro h_; cases h_) | (intro h_; (try simp only [vS1] at h_)) | rfl))) <;> (try (conv => whnf)) <;> (try first | change (_ : Int) ≤ _ | change (_ : Nat) ≤ _) <;> (try ((fail_if_success (with_reducible apply Exists.intro)); (try dsimp only); (try simp only [vS1]))) <;> (try simp (disch := omega) only [vS3, Int.add_sub_cancel, tn1, tnp, tnc, vS2] at *)
  all_goals (try ((fail_if_success (with_reducible apply Exists.intro)); first | with_reducible assumption | omega))
  all_goals first
    | exact hX.area
    | exact absurd hX.conv (by rw [Bool.not_eq_true]; assumption)
    | exact absurd hX.inn (by assumption)
    | exact absurd hX.pos (by assumption)
    | exact absurd hX.zero (by assumption)
    | exact absurd hX.pock (by assumption)
    | exact absurd (congrArg List.length (hY.back (by omega))) (by assumption)
    | skip
  generalize drawListM bs = L at *
  refine awp'_loopG (α := Nat) (fun k ver_ => [(8, vInt k)]) (fun k ver_ => []) (fun k ver_ => []) (fun k => k ≤ (hullM L).length) (fun k => (hullM L).length - k) [3, 4, 5, 6, 7] [3, 5] (0) ?_
  conv => whnf
  refine ⟨⟨?inv2_, ?vals2_, ?own2_, ?fix2_⟩, ?body2_⟩
  case' vals2_ => (repeat' (first | (with_reducible first | exact True.intro | refine And.intro ?_ ?_ | refine Head.mk ?_ ?_ ?_ ?_) | ((conv => lhs; whnf); first | (with_reducible first | rfl | exact vInt_s (by omega)) | exact rfl) | ((conv => whnf); first | (with_reducible first | exact True.intro | refine And.intro ?_ ?_)))) <;> (try (conv => lhs; whnf))
  case' own2_ => (repeat' (first | (with_reducible first | exact True.intro | refine And.intro ?_ ?_ | refine Head.mk ?_ ?_ ?_ ?_) | ((conv => lhs; whnf); first | (with_reducible first | rfl | exact vInt_s (by omega)) | exact rfl) | ((conv => whnf); first | (with_reducible first | exact True.intro | refine And.intro ?_ ?_)))) <;> (try (conv => lhs; whnf))
  case' fix2_ => (repeat' (first | (with_reducible first | exact True.intro | refine And.intro ?_ ?_ | refine Head.mk ?_ ?_ ?_ ?_) | ((conv => lhs; whnf); first | (with_reducible first | rfl | exact vInt_s (by omega)) | exact rfl) | ((conv => whnf); first | (with_reducible first | exact True.intro | refine And.intro ?_ ?_)))) <;> (try (conv => lhs; whnf))
  · exact Nat.zero_le _
  rintro k g_ o_ v_ hk
  (repeat' (first | (with_reducible first | exact True.intro | refine zQ ?_ | (refine zG hG_ ?_; intro K_ hK_) | (refine zR ?_; intro K_ hK_) | (refine hK_ _ _ ?_; try clear hK_ K_) | refine sq_n ?_ | refine sq_r ?_ | refine sq_e ?_ | refine bq_n ?_ | refine bq_r ?_ | refine bq_q ?_ | refine zB ?_ | refine zX ?_ | refine zT ?_ | refine zK ?_ | refine gq_n ?_ | refine gq_r ?_ | refine gq_e ?_ | refine lq_n ?_ | refine lq_r ?_ | refine lq_e ?_ | refine bq_e (by decide) ?_) | ((with_reducible refine zC (b := ?b_) ?hb_ ?_ ?_); case hb_ => rfl) | ((conv => whnf); first | (with_reducible refine hK_ _ _ ?_; try clear hK_ K_) | (with_reducible refine fun (g_ : Sl) (o_ : Ow) => ?_) | (with_reducible first | exact True.intro | refine And.intro trivial ?_ | refine And.intro ?_ ?_) | exact Nat.le_of_ble_eq_true rfl | exact Or.inl rfl | (intro h_; cases h_) | (intro h_; (try simp only [vS1] at h_)) | rfl))) <;> (try (conv => whnf)) <;> (try first | change (_ : Int) ≤ _ | change (_ : Nat) ≤ _) <;> (try ((fail_if_success (with_reducible apply Exists.intro)); (try dsimp only); (try simp only [vS1]))) <;> (try simp (disch := omega) only [vS3, Int.add_sub_cancel, tn1, tnp, tnc, vS2] at *)
  all_goals (try ((fail_if_success (with_reducible apply Exists.intro)); first | with_reducible assumption | omega))
  all_goals first
      | exact hX.area
      | exact absurd hX.conv (by rw [Bool.not_eq_true]; assumption)
      | exact absurd hX.inn (by assumption)
      | exact absurd hX.pos (by assumption)
      | exact absurd hX.zero (by assumption)
      | exact absurd hX.pock (by assumption)
      | (rw [hY.back (by omega)] at h_; exact absurd rfl h_)
      | (have := Nat.mod_lt (k + 1) (show 0 < (hullM L).length by omega); omega)
      | (have := Nat.mod_lt (k + 2) (show 0 < (hullM L).length by omega); omega)
      | exact absurd (hY.turn ‹k < (hullM L).length›) (Int.not_lt.2 h_)
      | skip
  refine awp'_loopG (α := Nat) (fun i ver_ => [(8, vInt k), (9, vInt i)]) (fun i ver_ => []) (fun i ver_ => []) (fun i => i ≤ L.length) (fun i => L.length - i) [3, 4, 5, 6, 7] [3, 5] (0) ?_
  conv => whnf
  refine ⟨⟨?inv3_, ?vals3_, ?own3_, ?fix3_⟩, ?body3_⟩
  case' vals3_ => (repeat' (first | (with_reducible first | exact True.intro | refine And.intro ?_ ?_ | refine Head.mk ?_ ?_ ?_ ?_) | ((conv => lhs; whnf); first | (with_reducible first | rfl | exact vInt_s (by omega)) | exact rfl) | ((conv => whnf); first | (with_reducible first | exact True.intro | refine And.intro ?_ ?_)))) <;> (try (conv => lhs; whnf))
  case' own3_ => (repeat' (first | (with_reducible first | exact True.intro | refine And.intro ?_ ?_ | refine Head.mk ?_ ?_ ?_ ?_) | ((conv => lhs; whnf); first | (with_reducible first | rfl | exact vInt_s (by omega)) | exact rfl) | ((conv => whnf); first | (with_reducible first | exact True.intro | refine And.intro ?_ ?_)))) <;> (try (conv => lhs; whnf))
  case' fix3_ => (repeat' (first | (with_reducible first | exact True.intro | refine And.intro ?_ ?_ | refine Head.mk ?_ ?_ ?_ ?_) | ((conv => lhs; whnf); first | (with_reducible first | rfl | exact vInt_s (by omega)) | exact rfl) | ((conv => whnf); first | (with_reducible first | exact True.intro | refine And.intro ?_ ?_)))) <;> (try (conv => lhs; whnf))
  · exact Nat.zero_le _
  rintro i g_ o_ v_ hi
  (repeat' (first | (with_reducible first | exact True.intro | refine zQ ?_ | (refine zG hG_ ?_; intro K_ hK_) | (refine zR ?_; intro K_ hK_) | (refine hK_ _ _ ?_; try clear hK_ K_) | refine sq_n ?_ | refine sq_r ?_ | refine sq_e ?_ | refine bq_n ?_ | refine bq_r ?_ | refine bq_q ?_ | refine zB ?_ | refine zX ?_ | refine zT ?_ | refine zK ?_ | refine gq_n ?_ | refine gq_r ?_ | refine gq_e ?_ | refine lq_n ?_ | refine lq_r ?_ | refine lq_e ?_ | refine bq_e (by decide) ?_) | ((with_reducible refine zC (b := ?b_) ?hb_ ?_ ?_); case hb_ => rfl) | ((conv => whnf); first | (with_reducible refine hK_ _ _ ?_; try clear hK_ K_) | (with_reducible refine fun (g_ : Sl) (o_ : Ow) => ?_) | (with_reducible first | exact True.intro | refine And.intro trivial ?_ | refine And.intro ?_ ?_) | exact Nat.le_of_ble_eq_true rfl | exact Or.inl rfl | (intro h_; cases h_) | (intro h_; (try simp only [vS1] at h_)) | rfl))) <;> (try (conv => whnf)) <;> (try first | change (_ : Int) ≤ _ | change (_ : Nat) ≤ _) <;> (try ((fail_if_success (with_reducible apply Exists.intro)); (try dsimp only); (try simp only [vS1]))) <;> (try simp (disch := omega) only [vS3, Int.add_sub_cancel, tn1, tnp, tnc, vS2] at *)
  all_goals (try ((fail_if_success (with_reducible apply Exists.intro)); first | with_reducible assumption | omega))
  · have := Nat.mod_lt (k + 1) (show 0 < (hullM L).length by omega)
    omega
  · exact absurd (hY.left ‹k < (hullM L).length› ‹i < L.length›) (Int.not_le.2 h_)
  · exact ⟨i + 1, by omega, by omega, by (repeat' (first | (with_reducible first | exact True.intro | refine And.intro ?_ ?_ | refine Head.mk ?_ ?_ ?_ ?_) | ((conv => lhs; whnf); first | (with_reducible first | rfl | exact vInt_s (by omega)) | exact rfl) | ((conv => whnf); first | (with_reducible first | exact True.intro | refine And.intro ?_ ?_)))) <;> (try (conv => lhs; whnf))⟩
  · exact ⟨k + 1, by omega, by omega, by (repeat' (first | (with_reducible first | exact True.intro | refine And.intro ?_ ?_ | refine Head.mk ?_ ?_ ?_ ?_) | ((conv => lhs; whnf); first | (with_reducible first | rfl | exact vInt_s (by omega)) | exact rfl) | ((conv => whnf); first | (with_reducible first | exact True.intro | refine And.intro ?_ ?_)))) <;> (try (conv => lhs; whnf))⟩
end Go.Proofs.Ytnepfcnlngpchaa
