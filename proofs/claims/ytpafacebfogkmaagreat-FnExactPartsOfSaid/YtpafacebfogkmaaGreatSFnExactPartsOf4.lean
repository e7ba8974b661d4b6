/- What the proof of 'FnExactPartsOf' needs, part 4: conditions and steps of the functions that it reaches, and the mathematics. -/
import Derived.Test.YtpafacebfogkmaaGreatRows
import Derived.WalkKit
import Derived.WalkSpells
import Derived.Below
import Derived.Orders
import Derived.Maps.AppendAt
import Derived.Laws.StructEq
import Derived.WideShapes
import Derived.ChangeSlices
import Derived.Deep.Strs
import Derived.ChangeOld
import Derived.Shelf.SlLaysF0
import Derived.Shelf.SlSortCmp.InsertionK
import Derived.Shelf.SlSortCmp.SmallK
import Derived.Shelf.SlSortCmp.Xorshift
import Derived.Sort.LotA
import Derived.Test.YtpafacebfogkmaaGreatSFnExactPartsOf3
set_option linter.unusedSimpArgs false
set_option linter.unusedVariables false
namespace Go.Proofs.YtpafacebfogkmaaGreat
open Go.RowKit Go.Proofs.YtpafacebfogkmaaGreat.Nm
set_option maxRecDepth 10000
def vI (n:Int):RV:=.val (.one (.d (.int .i64 n)))
def vB (b:Bool):RV:=.val (.one (.d (.bool b)))
def btwC:Con:=mkCon [.int,.int,.int] (fun _=>True) fun x=>vB (btw x.1 x.2.1 x.2.2.1)
theorem _root_.Go.Proofs.YtpafacebfogkmaaGreat.vS1:type_of% (And.intro @cond_true.{1} (And.intro @cond_false.{1} (And.intro @decide_eq_true_eq (And.intro @decide_eq_false_iff_not (And.intro @Bool.not_eq_true' (And.intro @Bool.not_eq_false' (And.intro @Int.toNat_natCast @prodEta))))))):=⟨cond_true,cond_false,decide_eq_true_eq,decide_eq_false_iff_not,Bool.not_eq_true',Bool.not_eq_false',Int.toNat_natCast,prodEta⟩
theorem between_ok:Good1 Tryz.prog n_impl_between btwC:=by
 refine good_of (tys:=tyL) (env:=[]) [] [] mixed tys trivial Tryz.func28 rfl (by kernel_rfl) (by decide) (by kernel_rfl) ?_
 rintro ⟨x,lo,hi,⟨⟩⟩ _
 (repeat' (first|(with_reducible first|exact True.intro|refine zQ ?_|(refine zG hG_ ?_;intro K_ hK_)|(refine zR ?_;intro K_ hK_)|(refine hK_ _ _ ?_;try clear hK_ K_)|refine sq_n ?_|refine sq_r ?_|refine sq_e ?_|refine bq_n ?_|refine bq_r ?_|refine bq_q ?_|refine zB ?_|refine zX ?_|refine zT ?_|refine zK ?_|refine gq_n ?_|refine gq_r ?_|refine gq_e ?_|refine lq_n ?_|refine lq_r ?_|refine lq_e ?_|refine bq_e (by decide) ?_)|((with_reducible refine zC (b:=?b_) ?hb_ ?_ ?_);case hb_=>rfl)|((conv=>whnf);first|(with_reducible refine hK_ _ _ ?_;try clear hK_ K_)|(with_reducible refine fun (g_:Sl) (o_:Ow)=>?_)|(with_reducible first|exact True.intro|refine And.intro trivial ?_|refine And.intro ?_ ?_)|exact Nat.le_of_ble_eq_true rfl|exact Or.inl rfl|(intro h_;cases h_)|(intro h_;(try simp only [vS1] at h_))|rfl))) <;> (try (conv=>whnf)) <;> (try first|change (_:Int)≤_|change (_:Nat)≤_) <;> simp_all [btw] <;> omega
theorem l01In_ok:Good1 Tryz.prog n_spec_l01In btwC:=by
 refine good_of (tys:=tyL) (env:=[]) [] [] mixed tys trivial Tryz.func78 rfl (by kernel_rfl) (by decide) (by kernel_rfl) ?_
 rintro ⟨x,lo,hi,⟨⟩⟩ _
 (repeat' (first|(with_reducible first|exact True.intro|refine zQ ?_|(refine zG hG_ ?_;intro K_ hK_)|(refine zR ?_;intro K_ hK_)|(refine hK_ _ _ ?_;try clear hK_ K_)|refine sq_n ?_|refine sq_r ?_|refine sq_e ?_|refine bq_n ?_|refine bq_r ?_|refine bq_q ?_|refine zB ?_|refine zX ?_|refine zT ?_|refine zK ?_|refine gq_n ?_|refine gq_r ?_|refine gq_e ?_|refine lq_n ?_|refine lq_r ?_|refine lq_e ?_|refine bq_e (by decide) ?_)|((with_reducible refine zC (b:=?b_) ?hb_ ?_ ?_);case hb_=>rfl)|((conv=>whnf);first|(with_reducible refine hK_ _ _ ?_;try clear hK_ K_)|(with_reducible refine fun (g_:Sl) (o_:Ow)=>?_)|(with_reducible first|exact True.intro|refine And.intro trivial ?_|refine And.intro ?_ ?_)|exact Nat.le_of_ble_eq_true rfl|exact Or.inl rfl|(intro h_;cases h_)|(intro h_;(try simp only [vS1] at h_))|rfl))) <;> (try (conv=>whnf)) <;> (try first|change (_:Int)≤_|change (_:Nat)≤_) <;> simp_all [btw] <;> omega
def ptOkC:Con:=mkCon [.pt] (fun _=>True) fun x=>vB (ptOk x.1)
theorem iPointOk_ok:Good1 Tryz.prog n_impl_PointOk ptOkC:=by
 refine good_of (tys:=tyL) (env:=[(n_impl_between,btwC)]) [] [] mixed tys ⟨between_ok,trivial⟩ Tryz.func72 rfl (by kernel_rfl) (by decide) (by kernel_rfl) ?_
 rintro ⟨⟨x,y⟩,⟨⟩⟩ _
 (repeat' (first|(with_reducible first|exact True.intro|refine zQ ?_|(refine zG hG_ ?_;intro K_ hK_)|(refine zR ?_;intro K_ hK_)|(refine hK_ _ _ ?_;try clear hK_ K_)|refine sq_n ?_|refine sq_r ?_|refine sq_e ?_|refine bq_n ?_|refine bq_r ?_|refine bq_q ?_|refine zB ?_|refine zX ?_|refine zT ?_|refine zK ?_|refine gq_n ?_|refine gq_r ?_|refine gq_e ?_|refine lq_n ?_|refine lq_r ?_|refine lq_e ?_|refine bq_e (by decide) ?_)|((with_reducible refine zC (b:=?b_) ?hb_ ?_ ?_);case hb_=>rfl)|((conv=>whnf);first|(with_reducible refine hK_ _ _ ?_;try clear hK_ K_)|(with_reducible refine fun (g_:Sl) (o_:Ow)=>?_)|(with_reducible first|exact True.intro|refine And.intro trivial ?_|refine And.intro ?_ ?_)|exact Nat.le_of_ble_eq_true rfl|exact Or.inl rfl|(intro h_;cases h_)|(intro h_;(try simp only [vS1] at h_))|rfl))) <;> (try (conv=>whnf)) <;> (try first|change (_:Int)≤_|change (_:Nat)≤_) <;> simp_all [ptOk]
theorem sPointOk_ok:Good1 Tryz.prog n_spec_PointOk ptOkC:=by
 refine good_of (tys:=tyL) (env:=[(n_spec_l01In,btwC)]) [] [] mixed tys ⟨l01In_ok,trivial⟩ Tryz.func79 rfl (by kernel_rfl) (by decide) (by kernel_rfl) ?_
 rintro ⟨⟨x,y⟩,⟨⟩⟩ _
 (repeat' (first|(with_reducible first|exact True.intro|refine zQ ?_|(refine zG hG_ ?_;intro K_ hK_)|(refine zR ?_;intro K_ hK_)|(refine hK_ _ _ ?_;try clear hK_ K_)|refine sq_n ?_|refine sq_r ?_|refine sq_e ?_|refine bq_n ?_|refine bq_r ?_|refine bq_q ?_|refine zB ?_|refine zX ?_|refine zT ?_|refine zK ?_|refine gq_n ?_|refine gq_r ?_|refine gq_e ?_|refine lq_n ?_|refine lq_r ?_|refine lq_e ?_|refine bq_e (by decide) ?_)|((with_reducible refine zC (b:=?b_) ?hb_ ?_ ?_);case hb_=>rfl)|((conv=>whnf);first|(with_reducible refine hK_ _ _ ?_;try clear hK_ K_)|(with_reducible refine fun (g_:Sl) (o_:Ow)=>?_)|(with_reducible first|exact True.intro|refine And.intro trivial ?_|refine And.intro ?_ ?_)|exact Nat.le_of_ble_eq_true rfl|exact Or.inl rfl|(intro h_;cases h_)|(intro h_;(try simp only [vS1] at h_))|rfl))) <;> (try (conv=>whnf)) <;> (try first|change (_:Int)≤_|change (_:Nat)≤_) <;> simp_all [ptOk]
def turnC:Con:=mkCon [.pt,.pt,.pt] (fun _=>True) fun x=>vI (turn x.1 x.2.1 x.2.2.1)
theorem turn_ok:Good1 Tryz.prog n_impl_turn turnC:=by
 refine good_of (tys:=tyL) (env:=[]) [] [] mixed tys trivial Tryz.func64 rfl (by kernel_rfl) (by decide) (by kernel_rfl) ?_
 rintro ⟨⟨a,b⟩,⟨c,d⟩,⟨e,f⟩,⟨⟩⟩ _
 (repeat' (first|(with_reducible first|exact True.intro|refine zQ ?_|(refine zG hG_ ?_;intro K_ hK_)|(refine zR ?_;intro K_ hK_)|(refine hK_ _ _ ?_;try clear hK_ K_)|refine sq_n ?_|refine sq_r ?_|refine sq_e ?_|refine bq_n ?_|refine bq_r ?_|refine bq_q ?_|refine zB ?_|refine zX ?_|refine zT ?_|refine zK ?_|refine gq_n ?_|refine gq_r ?_|refine gq_e ?_|refine lq_n ?_|refine lq_r ?_|refine lq_e ?_|refine bq_e (by decide) ?_)|((with_reducible refine zC (b:=?b_) ?hb_ ?_ ?_);case hb_=>rfl)|((conv=>whnf);first|(with_reducible refine hK_ _ _ ?_;try clear hK_ K_)|(with_reducible refine fun (g_:Sl) (o_:Ow)=>?_)|(with_reducible first|exact True.intro|refine And.intro trivial ?_|refine And.intro ?_ ?_)|exact Nat.le_of_ble_eq_true rfl|exact Or.inl rfl|(intro h_;cases h_)|(intro h_;(try simp only [vS1] at h_))|rfl))) <;> (try (conv=>whnf)) <;> (try first|change (_:Int)≤_|change (_:Nat)≤_)
 simp only [turn];simp only [W_l1,W_l2,W_l3,W_l4,W_m1,W_m2,W_w]
theorem l02Turn_ok:Good1 Tryz.prog n_spec_l02Turn turnC:=by
 refine good_of (tys:=tyL) (env:=[]) [] [] mixed tys trivial Tryz.func80 rfl (by kernel_rfl) (by decide) (by kernel_rfl) ?_
 rintro ⟨⟨a,b⟩,⟨c,d⟩,⟨e,f⟩,⟨⟩⟩ _
 (repeat' (first|(with_reducible first|exact True.intro|refine zQ ?_|(refine zG hG_ ?_;intro K_ hK_)|(refine zR ?_;intro K_ hK_)|(refine hK_ _ _ ?_;try clear hK_ K_)|refine sq_n ?_|refine sq_r ?_|refine sq_e ?_|refine bq_n ?_|refine bq_r ?_|refine bq_q ?_|refine zB ?_|refine zX ?_|refine zT ?_|refine zK ?_|refine gq_n ?_|refine gq_r ?_|refine gq_e ?_|refine lq_n ?_|refine lq_r ?_|refine lq_e ?_|refine bq_e (by decide) ?_)|((with_reducible refine zC (b:=?b_) ?hb_ ?_ ?_);case hb_=>rfl)|((conv=>whnf);first|(with_reducible refine hK_ _ _ ?_;try clear hK_ K_)|(with_reducible refine fun (g_:Sl) (o_:Ow)=>?_)|(with_reducible first|exact True.intro|refine And.intro trivial ?_|refine And.intro ?_ ?_)|exact Nat.le_of_ble_eq_true rfl|exact Or.inl rfl|(intro h_;cases h_)|(intro h_;(try simp only [vS1] at h_))|rfl))) <;> (try (conv=>whnf)) <;> (try first|change (_:Int)≤_|change (_:Nat)≤_)
 simp only [turn];simp only [W_l1,W_l2,W_l3,W_l4,W_m1,W_m2,W_w]
def onC:Con:=mkCon [.pt,.pt,.pt] (fun _=>True) fun x=>vB (onS x.1 x.2.1 x.2.2.1)
theorem on_ok:Good1 Tryz.prog n_impl_on onC:=by
 refine good_of (tys:=tyL) (env:=[(n_impl_turn,turnC),(n_impl_between,btwC)]) [] [] mixed tys ⟨turn_ok,between_ok,trivial⟩ Tryz.func97 rfl (by kernel_rfl) (by decide) (by kernel_rfl) ?_
 rintro ⟨⟨a,b⟩,⟨c,d⟩,⟨e,f⟩,⟨⟩⟩ _
 (repeat' (first|(with_reducible first|exact True.intro|refine zQ ?_|(refine zG hG_ ?_;intro K_ hK_)|(refine zR ?_;intro K_ hK_)|(refine hK_ _ _ ?_;try clear hK_ K_)|refine sq_n ?_|refine sq_r ?_|refine sq_e ?_|refine bq_n ?_|refine bq_r ?_|refine bq_q ?_|refine zB ?_|refine zX ?_|refine zT ?_|refine zK ?_|refine gq_n ?_|refine gq_r ?_|refine gq_e ?_|refine lq_n ?_|refine lq_r ?_|refine lq_e ?_|refine bq_e (by decide) ?_)|((with_reducible refine zC (b:=?b_) ?hb_ ?_ ?_);case hb_=>rfl)|((conv=>whnf);first|(with_reducible refine hK_ _ _ ?_;try clear hK_ K_)|(with_reducible refine fun (g_:Sl) (o_:Ow)=>?_)|(with_reducible first|exact True.intro|refine And.intro trivial ?_|refine And.intro ?_ ?_)|exact Nat.le_of_ble_eq_true rfl|exact Or.inl rfl|(intro h_;cases h_)|(intro h_;(try simp only [vS1] at h_))|rfl))) <;> (try (conv=>whnf)) <;> (try first|change (_:Int)≤_|change (_:Nat)≤_) <;> simp_all [onS]
theorem l02Between_ok:Good1 Tryz.prog n_spec_l02Between onC:=by
 refine good_of (tys:=tyL) (env:=[(n_spec_l02Turn,turnC),(n_spec_l01In,btwC)]) [] [] mixed tys ⟨l02Turn_ok,l01In_ok,trivial⟩ Tryz.func115 rfl (by kernel_rfl) (by decide) (by kernel_rfl) ?_
 rintro ⟨⟨a,b⟩,⟨c,d⟩,⟨e,f⟩,⟨⟩⟩ _
 (repeat' (first|(with_reducible first|exact True.intro|refine zQ ?_|(refine zG hG_ ?_;intro K_ hK_)|(refine zR ?_;intro K_ hK_)|(refine hK_ _ _ ?_;try clear hK_ K_)|refine sq_n ?_|refine sq_r ?_|refine sq_e ?_|refine bq_n ?_|refine bq_r ?_|refine bq_q ?_|refine zB ?_|refine zX ?_|refine zT ?_|refine zK ?_|refine gq_n ?_|refine gq_r ?_|refine gq_e ?_|refine lq_n ?_|refine lq_r ?_|refine lq_e ?_|refine bq_e (by decide) ?_)|((with_reducible refine zC (b:=?b_) ?hb_ ?_ ?_);case hb_=>rfl)|((conv=>whnf);first|(with_reducible refine hK_ _ _ ?_;try clear hK_ K_)|(with_reducible refine fun (g_:Sl) (o_:Ow)=>?_)|(with_reducible first|exact True.intro|refine And.intro trivial ?_|refine And.intro ?_ ?_)|exact Nat.le_of_ble_eq_true rfl|exact Or.inl rfl|(intro h_;cases h_)|(intro h_;(try simp only [vS1] at h_))|rfl))) <;> (try (conv=>whnf)) <;> (try first|change (_:Int)≤_|change (_:Nat)≤_) <;> simp_all [onS]
def pointsOkC:Con:=mkCon [.sl (.b .pt)] (fun x=>x.1.length≤1073741824) fun x=>vB (x.1.all ptOk)
theorem pointsOk_ok:Good1 Tryz.prog n_impl_pointsOk pointsOkC:=by
 refine good_of (tys:=tyL) (env:=[(n_impl_PointOk,ptOkC)]) [] [] mixed tys ⟨iPointOk_ok,trivial⟩ Tryz.func40 rfl (by kernel_rfl) (by decide) (by kernel_rfl) ?_
 rintro ⟨xs,⟨⟩⟩ hlen
 change xs.length≤_ at hlen
 (repeat' (first|(with_reducible first|exact True.intro|refine zQ ?_|(refine zG hG_ ?_;intro K_ hK_)|(refine zR ?_;intro K_ hK_)|(refine hK_ _ _ ?_;try clear hK_ K_)|refine sq_n ?_|refine sq_r ?_|refine sq_e ?_|refine bq_n ?_|refine bq_r ?_|refine bq_q ?_|refine zB ?_|refine zX ?_|refine zT ?_|refine zK ?_|refine gq_n ?_|refine gq_r ?_|refine gq_e ?_|refine lq_n ?_|refine lq_r ?_|refine lq_e ?_|refine bq_e (by decide) ?_)|((with_reducible refine zC (b:=?b_) ?hb_ ?_ ?_);case hb_=>rfl)|((conv=>whnf);first|(with_reducible refine hK_ _ _ ?_;try clear hK_ K_)|(with_reducible refine fun (g_:Sl) (o_:Ow)=>?_)|(with_reducible first|exact True.intro|refine And.intro trivial ?_|refine And.intro ?_ ?_)|exact Nat.le_of_ble_eq_true rfl|exact Or.inl rfl|(intro h_;cases h_)|(intro h_;(try simp only [vS1] at h_))|rfl))) <;> (try (conv=>whnf)) <;> (try first|change (_:Int)≤_|change (_:Nat)≤_)
 refine awp'_loop (fun k σ=>k≤xs.length∧(xs.take k).all ptOk=true∧Has σ [(5,vPts xs),(6,vInt xs.length),(7,vInt k)]) (fun k=>xs.length - k) 0 ⟨Nat.zero_le _,by simp,?_⟩ ?_
 ·(repeat' (first|(with_reducible first|exact True.intro|refine zQ ?_|(refine zG hG_ ?_;intro K_ hK_)|(refine zR ?_;intro K_ hK_)|(refine hK_ _ _ ?_;try clear hK_ K_)|refine sq_n ?_|refine sq_r ?_|refine sq_e ?_|refine bq_n ?_|refine bq_r ?_|refine bq_q ?_|refine zB ?_|refine zX ?_|refine zT ?_|refine zK ?_|refine gq_n ?_|refine gq_r ?_|refine gq_e ?_|refine lq_n ?_|refine lq_r ?_|refine lq_e ?_|refine bq_e (by decide) ?_)|((with_reducible refine zC (b:=?b_) ?hb_ ?_ ?_);case hb_=>rfl)|((conv=>whnf);first|(with_reducible refine hK_ _ _ ?_;try clear hK_ K_)|(with_reducible refine fun (g_:Sl) (o_:Ow)=>?_)|(with_reducible first|exact True.intro|refine And.intro trivial ?_|refine And.intro ?_ ?_)|exact Nat.le_of_ble_eq_true rfl|exact Or.inl rfl|(intro h_;cases h_)|(intro h_;(try simp only [vS1] at h_))|rfl))) <;> (try (conv=>whnf)) <;> (try first|change (_:Int)≤_|change (_:Nat)≤_)
 rintro k s_ w_ ⟨hk,hall,h⟩
 obtain ⟨g,rfl⟩:=has_ex h
 clear h
 (repeat' (first|(with_reducible first|exact True.intro|refine zQ ?_|(refine zG hG_ ?_;intro K_ hK_)|(refine zR ?_;intro K_ hK_)|(refine hK_ _ _ ?_;try clear hK_ K_)|refine sq_n ?_|refine sq_r ?_|refine sq_e ?_|refine bq_n ?_|refine bq_r ?_|refine bq_q ?_|refine zB ?_|refine zX ?_|refine zT ?_|refine zK ?_|refine gq_n ?_|refine gq_r ?_|refine gq_e ?_|refine lq_n ?_|refine lq_r ?_|refine lq_e ?_|refine bq_e (by decide) ?_)|((with_reducible refine zC (b:=?b_) ?hb_ ?_ ?_);case hb_=>rfl)|((conv=>whnf);first|(with_reducible refine hK_ _ _ ?_;try clear hK_ K_)|(with_reducible refine fun (g_:Sl) (o_:Ow)=>?_)|(with_reducible first|exact True.intro|refine And.intro trivial ?_|refine And.intro ?_ ?_)|exact Nat.le_of_ble_eq_true rfl|exact Or.inl rfl|(intro h_;cases h_)|(intro h_;(try simp only [vS1] at h_))|rfl))) <;> (try (conv=>whnf)) <;> (try first|change (_:Int)≤_|change (_:Nat)≤_) <;> (try ((fail_if_success (with_reducible apply Exists.intro));(try dsimp only);(try simp only [vS1])))
 ·omega
 ·omega
 ·exact (all_no (k:=k) _ (by omega) ‹_›).symm
 ·refine ⟨k + 1,by omega,by omega,?_,?_⟩
  ·rw [all_succ (0,0) (by omega),hall];simpa using ‹_›
  ·rw [← W_nat (by omega)];(repeat' (first|(with_reducible first|exact True.intro|refine zQ ?_|(refine zG hG_ ?_;intro K_ hK_)|(refine zR ?_;intro K_ hK_)|(refine hK_ _ _ ?_;try clear hK_ K_)|refine sq_n ?_|refine sq_r ?_|refine sq_e ?_|refine bq_n ?_|refine bq_r ?_|refine bq_q ?_|refine zB ?_|refine zX ?_|refine zT ?_|refine zK ?_|refine gq_n ?_|refine gq_r ?_|refine gq_e ?_|refine lq_n ?_|refine lq_r ?_|refine lq_e ?_|refine bq_e (by decide) ?_)|((with_reducible refine zC (b:=?b_) ?hb_ ?_ ?_);case hb_=>rfl)|((conv=>whnf);first|(with_reducible refine hK_ _ _ ?_;try clear hK_ K_)|(with_reducible refine fun (g_:Sl) (o_:Ow)=>?_)|(with_reducible first|exact True.intro|refine And.intro trivial ?_|refine And.intro ?_ ?_)|exact Nat.le_of_ble_eq_true rfl|exact Or.inl rfl|(intro h_;cases h_)|(intro h_;(try simp only [vS1] at h_))|rfl))) <;> (try (conv=>whnf)) <;> (try first|change (_:Int)≤_|change (_:Nat)≤_)
 ·exact (take_all (by omega) hall).symm
def wallOkC:Con:=mkCon [.wall] (fun _=>True) fun x=>vB (wallOk x.1)
theorem iWallOk_ok:Good1 Tryz.prog n_impl_WallOk wallOkC:=by
 refine good_of (tys:=tyL) (env:=[(n_impl_pointsOk,pointsOkC)]) [] [] mixed tys ⟨pointsOk_ok,trivial⟩ Tryz.func96 rfl (by kernel_rfl) (by decide) (by kernel_rfl) ?_
 rintro ⟨⟨⟨a,b⟩,⟨c,d⟩⟩,⟨⟩⟩ _
 (repeat' (first|(with_reducible first|exact True.intro|refine zQ ?_|(refine zG hG_ ?_;intro K_ hK_)|(refine zR ?_;intro K_ hK_)|(refine hK_ _ _ ?_;try clear hK_ K_)|refine sq_n ?_|refine sq_r ?_|refine sq_e ?_|refine bq_n ?_|refine bq_r ?_|refine bq_q ?_|refine zB ?_|refine zX ?_|refine zT ?_|refine zK ?_|refine gq_n ?_|refine gq_r ?_|refine gq_e ?_|refine lq_n ?_|refine lq_r ?_|refine lq_e ?_|refine bq_e (by decide) ?_)|((with_reducible refine zC (b:=?b_) ?hb_ ?_ ?_);case hb_=>rfl)|((conv=>whnf);first|(with_reducible refine hK_ _ _ ?_;try clear hK_ K_)|(with_reducible refine fun (g_:Sl) (o_:Ow)=>?_)|(with_reducible first|exact True.intro|refine And.intro trivial ?_|refine And.intro ?_ ?_)|exact Nat.le_of_ble_eq_true rfl|exact Or.inl rfl|(intro h_;cases h_)|(intro h_;(try simp only [vS1] at h_))|rfl))) <;> (try (conv=>whnf)) <;> (try first|change (_:Int)≤_|change (_:Nat)≤_) <;> simp_all [wallOk,ptEq]
theorem sWallOk_ok:Good1 Tryz.prog n_spec_WallOk wallOkC:=by
 refine good_of (tys:=tyL) (env:=[(n_spec_PointOk,ptOkC)]) [] [] mixed tys ⟨sPointOk_ok,trivial⟩ Tryz.func104 rfl (by kernel_rfl) (by decide) (by kernel_rfl) ?_
 rintro ⟨⟨⟨a,b⟩,⟨c,d⟩⟩,⟨⟩⟩ _
 (repeat' (first|(with_reducible first|exact True.intro|refine zQ ?_|(refine zG hG_ ?_;intro K_ hK_)|(refine zR ?_;intro K_ hK_)|(refine hK_ _ _ ?_;try clear hK_ K_)|refine sq_n ?_|refine sq_r ?_|refine sq_e ?_|refine bq_n ?_|refine bq_r ?_|refine bq_q ?_|refine zB ?_|refine zX ?_|refine zT ?_|refine zK ?_|refine gq_n ?_|refine gq_r ?_|refine gq_e ?_|refine lq_n ?_|refine lq_r ?_|refine lq_e ?_|refine bq_e (by decide) ?_)|((with_reducible refine zC (b:=?b_) ?hb_ ?_ ?_);case hb_=>rfl)|((conv=>whnf);first|(with_reducible refine hK_ _ _ ?_;try clear hK_ K_)|(with_reducible refine fun (g_:Sl) (o_:Ow)=>?_)|(with_reducible first|exact True.intro|refine And.intro trivial ?_|refine And.intro ?_ ?_)|exact Nat.le_of_ble_eq_true rfl|exact Or.inl rfl|(intro h_;cases h_)|(intro h_;(try simp only [vS1] at h_))|rfl))) <;> (try (conv=>whnf)) <;> (try first|change (_:Int)≤_|change (_:Nat)≤_) <;> simp_all [wallOk,ptEq]
def sgnC:Con:=mkCon [.int] (fun _=>True) fun x=>vI (sgn x.1)
theorem sign_ok:Good1 Tryz.prog n_impl_sign sgnC:=by
 refine good_of (tys:=tyL) (env:=[]) [] [] mixed tys trivial Tryz.func66 rfl (by kernel_rfl) (by decide) (by kernel_rfl) ?_
 rintro ⟨n,⟨⟩⟩ _
 (repeat' (first|(with_reducible first|exact True.intro|refine zQ ?_|(refine zG hG_ ?_;intro K_ hK_)|(refine zR ?_;intro K_ hK_)|(refine hK_ _ _ ?_;try clear hK_ K_)|refine sq_n ?_|refine sq_r ?_|refine sq_e ?_|refine bq_n ?_|refine bq_r ?_|refine bq_q ?_|refine zB ?_|refine zX ?_|refine zT ?_|refine zK ?_|refine gq_n ?_|refine gq_r ?_|refine gq_e ?_|refine lq_n ?_|refine lq_r ?_|refine lq_e ?_|refine bq_e (by decide) ?_)|((with_reducible refine zC (b:=?b_) ?hb_ ?_ ?_);case hb_=>rfl)|((conv=>whnf);first|(with_reducible refine hK_ _ _ ?_;try clear hK_ K_)|(with_reducible refine fun (g_:Sl) (o_:Ow)=>?_)|(with_reducible first|exact True.intro|refine And.intro trivial ?_|refine And.intro ?_ ?_)|exact Nat.le_of_ble_eq_true rfl|exact Or.inl rfl|(intro h_;cases h_)|(intro h_;(try simp only [vS1] at h_))|rfl))) <;> (try (conv=>whnf)) <;> (try first|change (_:Int)≤_|change (_:Nat)≤_) <;> simp_all [sgn] <;> omega
theorem l03Sign_ok:Good1 Tryz.prog n_spec_l03Sign sgnC:=by
 refine good_of (tys:=tyL) (env:=[]) [] [] mixed tys trivial Tryz.func107 rfl (by kernel_rfl) (by decide) (by kernel_rfl) ?_
 rintro ⟨n,⟨⟩⟩ _
 (repeat' (first|(with_reducible first|exact True.intro|refine zQ ?_|(refine zG hG_ ?_;intro K_ hK_)|(refine zR ?_;intro K_ hK_)|(refine hK_ _ _ ?_;try clear hK_ K_)|refine sq_n ?_|refine sq_r ?_|refine sq_e ?_|refine bq_n ?_|refine bq_r ?_|refine bq_q ?_|refine zB ?_|refine zX ?_|refine zT ?_|refine zK ?_|refine gq_n ?_|refine gq_r ?_|refine gq_e ?_|refine lq_n ?_|refine lq_r ?_|refine lq_e ?_|refine bq_e (by decide) ?_)|((with_reducible refine zC (b:=?b_) ?hb_ ?_ ?_);case hb_=>rfl)|((conv=>whnf);first|(with_reducible refine hK_ _ _ ?_;try clear hK_ K_)|(with_reducible refine fun (g_:Sl) (o_:Ow)=>?_)|(with_reducible first|exact True.intro|refine And.intro trivial ?_|refine And.intro ?_ ?_)|exact Nat.le_of_ble_eq_true rfl|exact Or.inl rfl|(intro h_;cases h_)|(intro h_;(try simp only [vS1] at h_))|rfl))) <;> (try (conv=>whnf)) <;> (try first|change (_:Int)≤_|change (_:Nat)≤_) <;> simp_all [sgn] <;> omega
def crossesC:Con:=mkCon [.wall,.wall] (fun _=>True) fun x=>vB (crs x.2.1.1 x.2.1.2 x.1.1 x.1.2)
theorem crosses_ok:Good1 Tryz.prog n_impl_crosses crossesC:=by
 refine good_of (tys:=tyL) (env:=[(n_impl_turn,turnC),(n_impl_sign,sgnC)]) [] [] mixed tys ⟨turn_ok,sign_ok,trivial⟩ Tryz.func34 rfl (by kernel_rfl) (by decide) (by kernel_rfl) ?_
 rintro ⟨⟨⟨a,b⟩,⟨c,d⟩⟩,⟨⟨e,f⟩,⟨g,h⟩⟩,⟨⟩⟩ _
 (repeat' (first|(with_reducible first|exact True.intro|refine zQ ?_|(refine zG hG_ ?_;intro K_ hK_)|(refine zR ?_;intro K_ hK_)|(refine hK_ _ _ ?_;try clear hK_ K_)|refine sq_n ?_|refine sq_r ?_|refine sq_e ?_|refine bq_n ?_|refine bq_r ?_|refine bq_q ?_|refine zB ?_|refine zX ?_|refine zT ?_|refine zK ?_|refine gq_n ?_|refine gq_r ?_|refine gq_e ?_|refine lq_n ?_|refine lq_r ?_|refine lq_e ?_|refine bq_e (by decide) ?_)|((with_reducible refine zC (b:=?b_) ?hb_ ?_ ?_);case hb_=>rfl)|((conv=>whnf);first|(with_reducible refine hK_ _ _ ?_;try clear hK_ K_)|(with_reducible refine fun (g_:Sl) (o_:Ow)=>?_)|(with_reducible first|exact True.intro|refine And.intro trivial ?_|refine And.intro ?_ ?_)|exact Nat.le_of_ble_eq_true rfl|exact Or.inl rfl|(intro h_;cases h_)|(intro h_;(try simp only [vS1] at h_))|rfl))) <;> (try (conv=>whnf)) <;> (try first|change (_:Int)≤_|change (_:Nat)≤_) <;> (try ((fail_if_success (with_reducible apply Exists.intro));(try dsimp only);(try simp only [vS1]))) <;> (try simp only [sgn_w] at *) <;> grind [crs]
def l03CrossC:Con:=mkCon [.pt,.pt,.pt,.pt] (fun _=>True) fun x=>vB (crs x.1 x.2.1 x.2.2.1 x.2.2.2.1)
theorem l03Cross_ok:Good1 Tryz.prog n_spec_l03Cross l03CrossC:=by
 refine good_of (tys:=tyL) (env:=[(n_spec_l02Turn,turnC),(n_spec_l03Sign,sgnC)]) [] [] mixed tys ⟨l02Turn_ok,l03Sign_ok,trivial⟩ Tryz.func84 rfl (by kernel_rfl) (by decide) (by kernel_rfl) ?_
 rintro ⟨⟨a,b⟩,⟨c,d⟩,⟨e,f⟩,⟨g,h⟩,⟨⟩⟩ _
 (repeat' (first|(with_reducible first|exact True.intro|refine zQ ?_|(refine zG hG_ ?_;intro K_ hK_)|(refine zR ?_;intro K_ hK_)|(refine hK_ _ _ ?_;try clear hK_ K_)|refine sq_n ?_|refine sq_r ?_|refine sq_e ?_|refine bq_n ?_|refine bq_r ?_|refine bq_q ?_|refine zB ?_|refine zX ?_|refine zT ?_|refine zK ?_|refine gq_n ?_|refine gq_r ?_|refine gq_e ?_|refine lq_n ?_|refine lq_r ?_|refine lq_e ?_|refine bq_e (by decide) ?_)|((with_reducible refine zC (b:=?b_) ?hb_ ?_ ?_);case hb_=>rfl)|((conv=>whnf);first|(with_reducible refine hK_ _ _ ?_;try clear hK_ K_)|(with_reducible refine fun (g_:Sl) (o_:Ow)=>?_)|(with_reducible first|exact True.intro|refine And.intro trivial ?_|refine And.intro ?_ ?_)|exact Nat.le_of_ble_eq_true rfl|exact Or.inl rfl|(intro h_;cases h_)|(intro h_;(try simp only [vS1] at h_))|rfl))) <;> (try (conv=>whnf)) <;> (try first|change (_:Int)≤_|change (_:Nat)≤_) <;> (try ((fail_if_success (with_reducible apply Exists.intro));(try dsimp only);(try simp only [vS1]))) <;> (try simp only [sgn_w] at *) <;> grind [crs]
def meetC:Con:=mkCon [.wall,.wall] (fun _=>True) fun x=>vB (meet x.1 x.2.1)
theorem iDoMeet_ok:Good1 Tryz.prog n_impl_DoMeet meetC:=by
 refine good_of (tys:=tyL) (env:=[(n_impl_WallOk,wallOkC),(n_impl_crosses,crossesC),(n_impl_on,onC)]) [] [] mixed tys ⟨iWallOk_ok,crosses_ok,on_ok,trivial⟩ Tryz.func65 rfl (by kernel_rfl) (by decide) (by kernel_rfl) ?_
 rintro ⟨⟨⟨a,b⟩,⟨c,d⟩⟩,⟨⟨e,f⟩,⟨g,h⟩⟩,⟨⟩⟩ _
 (repeat' (first|(with_reducible first|exact True.intro|refine zQ ?_|(refine zG hG_ ?_;intro K_ hK_)|(refine zR ?_;intro K_ hK_)|(refine hK_ _ _ ?_;try clear hK_ K_)|refine sq_n ?_|refine sq_r ?_|refine sq_e ?_|refine bq_n ?_|refine bq_r ?_|refine bq_q ?_|refine zB ?_|refine zX ?_|refine zT ?_|refine zK ?_|refine gq_n ?_|refine gq_r ?_|refine gq_e ?_|refine lq_n ?_|refine lq_r ?_|refine lq_e ?_|refine bq_e (by decide) ?_)|((with_reducible refine zC (b:=?b_) ?hb_ ?_ ?_);case hb_=>rfl)|((conv=>whnf);first|(with_reducible refine hK_ _ _ ?_;try clear hK_ K_)|(with_reducible refine fun (g_:Sl) (o_:Ow)=>?_)|(with_reducible first|exact True.intro|refine And.intro trivial ?_|refine And.intro ?_ ?_)|exact Nat.le_of_ble_eq_true rfl|exact Or.inl rfl|(intro h_;cases h_)|(intro h_;(try simp only [vS1] at h_))|rfl))) <;> (try (conv=>whnf)) <;> (try first|change (_:Int)≤_|change (_:Nat)≤_) <;> (try ((fail_if_success (with_reducible apply Exists.intro));(try dsimp only);(try simp only [vS1]))) <;> grind [meet]
def crossC:Con:=mkCon [.wall,.wall] (fun _=>True) fun x=>vB (wallOk x.1 && (wallOk x.2.1 && crs x.2.1.1 x.2.1.2 x.1.1 x.1.2))
theorem sDoCross_ok:Good1 Tryz.prog n_spec_DoCross crossC:=by
 refine good_of (tys:=tyL) (env:=[(n_spec_WallOk,wallOkC),(n_spec_l03Cross,l03CrossC)]) [] [] mixed tys ⟨sWallOk_ok,l03Cross_ok,trivial⟩ Tryz.func105 rfl (by kernel_rfl) (by decide) (by kernel_rfl) ?_
 rintro ⟨⟨⟨a,b⟩,⟨c,d⟩⟩,⟨⟨e,f⟩,⟨g,h⟩⟩,⟨⟩⟩ _
 (repeat' (first|(with_reducible first|exact True.intro|refine zQ ?_|(refine zG hG_ ?_;intro K_ hK_)|(refine zR ?_;intro K_ hK_)|(refine hK_ _ _ ?_;try clear hK_ K_)|refine sq_n ?_|refine sq_r ?_|refine sq_e ?_|refine bq_n ?_|refine bq_r ?_|refine bq_q ?_|refine zB ?_|refine zX ?_|refine zT ?_|refine zK ?_|refine gq_n ?_|refine gq_r ?_|refine gq_e ?_|refine lq_n ?_|refine lq_r ?_|refine lq_e ?_|refine bq_e (by decide) ?_)|((with_reducible refine zC (b:=?b_) ?hb_ ?_ ?_);case hb_=>rfl)|((conv=>whnf);first|(with_reducible refine hK_ _ _ ?_;try clear hK_ K_)|(with_reducible refine fun (g_:Sl) (o_:Ow)=>?_)|(with_reducible first|exact True.intro|refine And.intro trivial ?_|refine And.intro ?_ ?_)|exact Nat.le_of_ble_eq_true rfl|exact Or.inl rfl|(intro h_;cases h_)|(intro h_;(try simp only [vS1] at h_))|rfl))) <;> (try (conv=>whnf)) <;> (try first|change (_:Int)≤_|change (_:Nat)≤_) <;> (try ((fail_if_success (with_reducible apply Exists.intro));(try dsimp only);(try simp only [vS1]))) <;> grind [crs_comm (a,b) (c,d) (e,f) (g,h)]
def isBtwC:Con:=mkCon [.pt,.pt,.pt] (fun _=>True) fun x=>vB (ptOk x.1 && (ptOk x.2.1 && (ptOk x.2.2.1 && onS x.1 x.2.1 x.2.2.1)))
theorem sIsBetween_ok:Good1 Tryz.prog n_spec_IsBetween isBtwC:=by
 refine good_of (tys:=tyL) (env:=[(n_spec_PointOk,ptOkC),(n_spec_l02Between,onC)]) [] [] mixed tys ⟨sPointOk_ok,l02Between_ok,trivial⟩ Tryz.func118 rfl (by kernel_rfl) (by decide) (by kernel_rfl) ?_
 rintro ⟨⟨a,b⟩,⟨c,d⟩,⟨e,f⟩,⟨⟩⟩ _
 (repeat' (first|(with_reducible first|exact True.intro|refine zQ ?_|(refine zG hG_ ?_;intro K_ hK_)|(refine zR ?_;intro K_ hK_)|(refine hK_ _ _ ?_;try clear hK_ K_)|refine sq_n ?_|refine sq_r ?_|refine sq_e ?_|refine bq_n ?_|refine bq_r ?_|refine bq_q ?_|refine zB ?_|refine zX ?_|refine zT ?_|refine zK ?_|refine gq_n ?_|refine gq_r ?_|refine gq_e ?_|refine lq_n ?_|refine lq_r ?_|refine lq_e ?_|refine bq_e (by decide) ?_)|((with_reducible refine zC (b:=?b_) ?hb_ ?_ ?_);case hb_=>rfl)|((conv=>whnf);first|(with_reducible refine hK_ _ _ ?_;try clear hK_ K_)|(with_reducible refine fun (g_:Sl) (o_:Ow)=>?_)|(with_reducible first|exact True.intro|refine And.intro trivial ?_|refine And.intro ?_ ?_)|exact Nat.le_of_ble_eq_true rfl|exact Or.inl rfl|(intro h_;cases h_)|(intro h_;(try simp only [vS1] at h_))|rfl))) <;> (try (conv=>whnf)) <;> (try first|change (_:Int)≤_|change (_:Nat)≤_) <;> (try ((fail_if_success (with_reducible apply Exists.intro));(try dsimp only);(try simp only [vS1]))) <;> grind
def isOnWallC:Con:=mkCon [.wall,.pt] (fun _=>True) fun x=>vB (wallOk x.1 && (ptOk x.2.1 && onS x.2.1 x.1.1 x.1.2))
theorem sIsOnWall_ok:Good1 Tryz.prog n_spec_IsOnWall isOnWallC:=by
 refine good_of (tys:=tyL) (env:=[(n_spec_WallOk,wallOkC),(n_spec_IsBetween,isBtwC)]) [] [] mixed tys ⟨sWallOk_ok,sIsBetween_ok,trivial⟩ Tryz.func106 rfl (by kernel_rfl) (by decide) (by kernel_rfl) ?_
 rintro ⟨⟨⟨a,b⟩,⟨c,d⟩⟩,⟨e,f⟩,⟨⟩⟩ _
 (repeat' (first|(with_reducible first|exact True.intro|refine zQ ?_|(refine zG hG_ ?_;intro K_ hK_)|(refine zR ?_;intro K_ hK_)|(refine hK_ _ _ ?_;try clear hK_ K_)|refine sq_n ?_|refine sq_r ?_|refine sq_e ?_|refine bq_n ?_|refine bq_r ?_|refine bq_q ?_|refine zB ?_|refine zX ?_|refine zT ?_|refine zK ?_|refine gq_n ?_|refine gq_r ?_|refine gq_e ?_|refine lq_n ?_|refine lq_r ?_|refine lq_e ?_|refine bq_e (by decide) ?_)|((with_reducible refine zC (b:=?b_) ?hb_ ?_ ?_);case hb_=>rfl)|((conv=>whnf);first|(with_reducible refine hK_ _ _ ?_;try clear hK_ K_)|(with_reducible refine fun (g_:Sl) (o_:Ow)=>?_)|(with_reducible first|exact True.intro|refine And.intro trivial ?_|refine And.intro ?_ ?_)|exact Nat.le_of_ble_eq_true rfl|exact Or.inl rfl|(intro h_;cases h_)|(intro h_;(try simp only [vS1] at h_))|rfl))) <;> (try (conv=>whnf)) <;> (try first|change (_:Int)≤_|change (_:Nat)≤_) <;> (try ((fail_if_success (with_reducible apply Exists.intro));(try dsimp only);(try simp only [vS1]))) <;> grind [wallOk]
theorem sDoMeet_ok:Good1 Tryz.prog n_spec_DoMeet meetC:=by
 refine good_of (tys:=tyL) (env:=[(n_spec_WallOk,wallOkC),(n_spec_DoCross,crossC),(n_spec_IsOnWall,isOnWallC)]) [] [] mixed tys ⟨sWallOk_ok,sDoCross_ok,sIsOnWall_ok,trivial⟩ Tryz.func81 rfl (by kernel_rfl) (by decide) (by kernel_rfl) ?_
 rintro ⟨⟨⟨a,b⟩,⟨c,d⟩⟩,⟨⟨e,f⟩,⟨g,h⟩⟩,⟨⟩⟩ _
 (repeat' (first|(with_reducible first|exact True.intro|refine zQ ?_|(refine zG hG_ ?_;intro K_ hK_)|(refine zR ?_;intro K_ hK_)|(refine hK_ _ _ ?_;try clear hK_ K_)|refine sq_n ?_|refine sq_r ?_|refine sq_e ?_|refine bq_n ?_|refine bq_r ?_|refine bq_q ?_|refine zB ?_|refine zX ?_|refine zT ?_|refine zK ?_|refine gq_n ?_|refine gq_r ?_|refine gq_e ?_|refine lq_n ?_|refine lq_r ?_|refine lq_e ?_|refine bq_e (by decide) ?_)|((with_reducible refine zC (b:=?b_) ?hb_ ?_ ?_);case hb_=>rfl)|((conv=>whnf);first|(with_reducible refine hK_ _ _ ?_;try clear hK_ K_)|(with_reducible refine fun (g_:Sl) (o_:Ow)=>?_)|(with_reducible first|exact True.intro|refine And.intro trivial ?_|refine And.intro ?_ ?_)|exact Nat.le_of_ble_eq_true rfl|exact Or.inl rfl|(intro h_;cases h_)|(intro h_;(try simp only [vS1] at h_))|rfl))) <;> (try (conv=>whnf)) <;> (try first|change (_:Int)≤_|change (_:Nat)≤_) <;> (try ((fail_if_success (with_reducible apply Exists.intro));(try dsimp only);(try simp only [vS1]))) <;> grind [meet_spec]
def wallsOfC:Con:=mkCon [.sl (.b .pt)] (fun x=>x.1.length≤1048576) fun x=>⟨.one (.own 0 0),some ⟨t_impl_Wall,none,.b .wall,walls x.1⟩⟩
theorem wallsOf_ok:Good1 Tryz.prog n_impl_wallsOf wallsOfC:=by
 refine good_of (tys:=tyL) (env:=[]) [6] [] mixed tys trivial Tryz.func63 rfl (by kernel_rfl) (by decide) (by kernel_rfl) ?_
 rintro ⟨xs,⟨⟩⟩ hlen
 change xs.length≤_ at hlen
 (repeat' (first|(with_reducible first|exact True.intro|refine zQ ?_|(refine zG hG_ ?_;intro K_ hK_)|(refine zR ?_;intro K_ hK_)|(refine hK_ _ _ ?_;try clear hK_ K_)|refine sq_n ?_|refine sq_r ?_|refine sq_e ?_|refine bq_n ?_|refine bq_r ?_|refine bq_q ?_|refine zB ?_|refine zX ?_|refine zT ?_|refine zK ?_|refine gq_n ?_|refine gq_r ?_|refine gq_e ?_|refine lq_n ?_|refine lq_r ?_|refine lq_e ?_|refine bq_e (by decide) ?_)|((with_reducible refine zC (b:=?b_) ?hb_ ?_ ?_);case hb_=>rfl)|((conv=>whnf);first|(with_reducible refine hK_ _ _ ?_;try clear hK_ K_)|(with_reducible refine fun (g_:Sl) (o_:Ow)=>?_)|(with_reducible first|exact True.intro|refine And.intro trivial ?_|refine And.intro ?_ ?_)|exact Nat.le_of_ble_eq_true rfl|exact Or.inl rfl|(intro h_;cases h_)|(intro h_;(try simp only [vS1] at h_))|rfl))) <;> (try (conv=>whnf)) <;> (try first|change (_:Int)≤_|change (_:Nat)≤_)
 refine awp'_loop (fun k σ=>k≤xs.length∧Has1 σ [(0,vPts xs),(7,vPts xs),(8,vInt xs.length),(9,vInt k)] 3 6 (.row t_impl_Wall (.b .wall) ((walls xs).take k))) (fun k=>xs.length - k) 0 ⟨Nat.zero_le _,⟨?_,?_,?_⟩⟩ ?_
 ·(repeat' (first|(with_reducible first|exact True.intro|refine zQ ?_|(refine zG hG_ ?_;intro K_ hK_)|(refine zR ?_;intro K_ hK_)|(refine hK_ _ _ ?_;try clear hK_ K_)|refine sq_n ?_|refine sq_r ?_|refine sq_e ?_|refine bq_n ?_|refine bq_r ?_|refine bq_q ?_|refine zB ?_|refine zX ?_|refine zT ?_|refine zK ?_|refine gq_n ?_|refine gq_r ?_|refine gq_e ?_|refine lq_n ?_|refine lq_r ?_|refine lq_e ?_|refine bq_e (by decide) ?_)|((with_reducible refine zC (b:=?b_) ?hb_ ?_ ?_);case hb_=>rfl)|((conv=>whnf);first|(with_reducible refine hK_ _ _ ?_;try clear hK_ K_)|(with_reducible refine fun (g_:Sl) (o_:Ow)=>?_)|(with_reducible first|exact True.intro|refine And.intro trivial ?_|refine And.intro ?_ ?_)|exact Nat.le_of_ble_eq_true rfl|exact Or.inl rfl|(intro h_;cases h_)|(intro h_;(try simp only [vS1] at h_))|rfl))) <;> (try (conv=>whnf)) <;> (try first|change (_:Int)≤_|change (_:Nat)≤_)
 ·rfl
 ·rfl
 rintro k s_ w_ ⟨hk,h⟩
 obtain ⟨g,o,v,rfl,rfl⟩:=has1_ex h
 clear h
 have hpos:(k:Int) < xs.length→0 < xs.length:=fun h=>by omega
 (repeat' (first|(with_reducible first|exact True.intro|refine zQ ?_|(refine zG hG_ ?_;intro K_ hK_)|(refine zR ?_;intro K_ hK_)|(refine hK_ _ _ ?_;try clear hK_ K_)|refine sq_n ?_|refine sq_r ?_|refine sq_e ?_|refine bq_n ?_|refine bq_r ?_|refine bq_q ?_|refine zB ?_|refine zX ?_|refine zT ?_|refine zK ?_|refine gq_n ?_|refine gq_r ?_|refine gq_e ?_|refine lq_n ?_|refine lq_r ?_|refine lq_e ?_|refine bq_e (by decide) ?_)|((with_reducible refine zC (b:=?b_) ?hb_ ?_ ?_);case hb_=>rfl)|((conv=>whnf);first|(with_reducible refine hK_ _ _ ?_;try clear hK_ K_)|(with_reducible refine fun (g_:Sl) (o_:Ow)=>?_)|(with_reducible first|exact True.intro|refine And.intro trivial ?_|refine And.intro ?_ ?_)|exact Nat.le_of_ble_eq_true rfl|exact Or.inl rfl|(intro h_;cases h_)|(intro h_;(try simp only [vS1] at h_))|rfl))) <;> (try (conv=>whnf)) <;> (try first|change (_:Int)≤_|change (_:Nat)≤_) <;> (try ((fail_if_success (with_reducible apply Exists.intro));(try dsimp only);(try simp only [vS1])))
 ·omega
 ·omega
 ·have:=hpos (by omega);omega
 ·rw [mod_nat1 (by omega)];omega
 ·have:=Nat.mod_lt (k + 1) (hpos (by omega));rw [mod_nat1 (by omega)];omega
 ·simp only [List.length_take,List.length_cons,List.length_nil];omega
 ·refine ⟨k + 1,by omega,by omega,⟨?_,rfl,?_⟩⟩
  ·rw [← W_nat (by omega)];(repeat' (first|(with_reducible first|exact True.intro|refine zQ ?_|(refine zG hG_ ?_;intro K_ hK_)|(refine zR ?_;intro K_ hK_)|(refine hK_ _ _ ?_;try clear hK_ K_)|refine sq_n ?_|refine sq_r ?_|refine sq_e ?_|refine bq_n ?_|refine bq_r ?_|refine bq_q ?_|refine zB ?_|refine zX ?_|refine zT ?_|refine zK ?_|refine gq_n ?_|refine gq_r ?_|refine gq_e ?_|refine lq_n ?_|refine lq_r ?_|refine lq_e ?_|refine bq_e (by decide) ?_)|((with_reducible refine zC (b:=?b_) ?hb_ ?_ ?_);case hb_=>rfl)|((conv=>whnf);first|(with_reducible refine hK_ _ _ ?_;try clear hK_ K_)|(with_reducible refine fun (g_:Sl) (o_:Ow)=>?_)|(with_reducible first|exact True.intro|refine And.intro trivial ?_|refine And.intro ?_ ?_)|exact Nat.le_of_ble_eq_true rfl|exact Or.inl rfl|(intro h_;cases h_)|(intro h_;(try simp only [vS1] at h_))|rfl))) <;> (try (conv=>whnf)) <;> (try first|change (_:Int)≤_|change (_:Nat)≤_)
  ·rw [walls_take (by omega)]
   show Own.row _ _ (_ ++ [(_,_)])=_
   rw [mod_nat1 (by omega)];rfl
 ·rw [List.take_of_length_le (by rw [walls_len];omega)];rfl
def areaC:Con:=mkCon [.sl (.b .pt)] (fun x=>x.1.length≤1048576) fun x=>vI (IntKind.i64.wrap (dbl x.1))
theorem area_ok:Good1 Tryz.prog n_impl_area areaC:=by
 refine good_of (tys:=tyL) (env:=[(n_impl_wallsOf,wallsOfC)]) [] [] mixed tys ⟨wallsOf_ok,trivial⟩ Tryz.func35 rfl (by kernel_rfl) (by decide) (by kernel_rfl) ?_
 rintro ⟨xs,⟨⟩⟩ hlen
 change xs.length≤_ at hlen
 have hl:=walls_len xs
 (repeat' (first|(with_reducible first|exact True.intro|refine zQ ?_|(refine zG hG_ ?_;intro K_ hK_)|(refine zR ?_;intro K_ hK_)|(refine hK_ _ _ ?_;try clear hK_ K_)|refine sq_n ?_|refine sq_r ?_|refine sq_e ?_|refine bq_n ?_|refine bq_r ?_|refine bq_q ?_|refine zB ?_|refine zX ?_|refine zT ?_|refine zK ?_|refine gq_n ?_|refine gq_r ?_|refine gq_e ?_|refine lq_n ?_|refine lq_r ?_|refine lq_e ?_|refine bq_e (by decide) ?_)|((with_reducible refine zC (b:=?b_) ?hb_ ?_ ?_);case hb_=>rfl)|((conv=>whnf);first|(with_reducible refine hK_ _ _ ?_;try clear hK_ K_)|(with_reducible refine fun (g_:Sl) (o_:Ow)=>?_)|(with_reducible first|exact True.intro|refine And.intro trivial ?_|refine And.intro ?_ ?_)|exact Nat.le_of_ble_eq_true rfl|exact Or.inl rfl|(intro h_;cases h_)|(intro h_;(try simp only [vS1] at h_))|rfl))) <;> (try (conv=>whnf)) <;> (try first|change (_:Int)≤_|change (_:Nat)≤_)
 ·assumption
 refine awp'_loop (fun k σ=>k≤xs.length∧Has σ [(7,.one (.d (.sl none (.b .wall) (walls xs)))),(8,vInt (walls xs).length),(9,vInt k),(3,vInt (IntKind.i64.wrap (dblTo xs k)))]) (fun k=>xs.length - k) 0 ⟨Nat.zero_le _,?_⟩ ?_
 ·(repeat' (first|(with_reducible first|exact True.intro|refine zQ ?_|(refine zG hG_ ?_;intro K_ hK_)|(refine zR ?_;intro K_ hK_)|(refine hK_ _ _ ?_;try clear hK_ K_)|refine sq_n ?_|refine sq_r ?_|refine sq_e ?_|refine bq_n ?_|refine bq_r ?_|refine bq_q ?_|refine zB ?_|refine zX ?_|refine zT ?_|refine zK ?_|refine gq_n ?_|refine gq_r ?_|refine gq_e ?_|refine lq_n ?_|refine lq_r ?_|refine lq_e ?_|refine bq_e (by decide) ?_)|((with_reducible refine zC (b:=?b_) ?hb_ ?_ ?_);case hb_=>rfl)|((conv=>whnf);first|(with_reducible refine hK_ _ _ ?_;try clear hK_ K_)|(with_reducible refine fun (g_:Sl) (o_:Ow)=>?_)|(with_reducible first|exact True.intro|refine And.intro trivial ?_|refine And.intro ?_ ?_)|exact Nat.le_of_ble_eq_true rfl|exact Or.inl rfl|(intro h_;cases h_)|(intro h_;(try simp only [vS1] at h_))|rfl))) <;> (try (conv=>whnf)) <;> (try first|change (_:Int)≤_|change (_:Nat)≤_)
 rintro k s_ w_ ⟨hk,h⟩
 obtain ⟨g,rfl⟩:=has_ex h
 clear h
 (repeat' (first|(with_reducible first|exact True.intro|refine zQ ?_|(refine zG hG_ ?_;intro K_ hK_)|(refine zR ?_;intro K_ hK_)|(refine hK_ _ _ ?_;try clear hK_ K_)|refine sq_n ?_|refine sq_r ?_|refine sq_e ?_|refine bq_n ?_|refine bq_r ?_|refine bq_q ?_|refine zB ?_|refine zX ?_|refine zT ?_|refine zK ?_|refine gq_n ?_|refine gq_r ?_|refine gq_e ?_|refine lq_n ?_|refine lq_r ?_|refine lq_e ?_|refine bq_e (by decide) ?_)|((with_reducible refine zC (b:=?b_) ?hb_ ?_ ?_);case hb_=>rfl)|((conv=>whnf);first|(with_reducible refine hK_ _ _ ?_;try clear hK_ K_)|(with_reducible refine fun (g_:Sl) (o_:Ow)=>?_)|(with_reducible first|exact True.intro|refine And.intro trivial ?_|refine And.intro ?_ ?_)|exact Nat.le_of_ble_eq_true rfl|exact Or.inl rfl|(intro h_;cases h_)|(intro h_;(try simp only [vS1] at h_))|rfl))) <;> (try (conv=>whnf)) <;> (try first|change (_:Int)≤_|change (_:Nat)≤_) <;> (try ((fail_if_success (with_reducible apply Exists.intro));(try dsimp only);(try simp only [vS1])))
 ·omega
 ·omega
 ·refine ⟨k + 1,by omega,by omega,?_⟩
  rw [← W_nat (by omega)];(repeat' (first|(with_reducible first|exact True.intro|refine zQ ?_|(refine zG hG_ ?_;intro K_ hK_)|(refine zR ?_;intro K_ hK_)|(refine hK_ _ _ ?_;try clear hK_ K_)|refine sq_n ?_|refine sq_r ?_|refine sq_e ?_|refine bq_n ?_|refine bq_r ?_|refine bq_q ?_|refine zB ?_|refine zX ?_|refine zT ?_|refine zK ?_|refine gq_n ?_|refine gq_r ?_|refine gq_e ?_|refine lq_n ?_|refine lq_r ?_|refine lq_e ?_|refine bq_e (by decide) ?_)|((with_reducible refine zC (b:=?b_) ?hb_ ?_ ?_);case hb_=>rfl)|((conv=>whnf);first|(with_reducible refine hK_ _ _ ?_;try clear hK_ K_)|(with_reducible refine fun (g_:Sl) (o_:Ow)=>?_)|(with_reducible first|exact True.intro|refine And.intro trivial ?_|refine And.intro ?_ ?_)|exact Nat.le_of_ble_eq_true rfl|exact Or.inl rfl|(intro h_;cases h_)|(intro h_;(try simp only [vS1] at h_))|rfl))) <;> (try (conv=>whnf)) <;> (try first|change (_:Int)≤_|change (_:Nat)≤_)
  rw [walls_get (by omega)]
  exact congrArg vInt (W_cr _ _ _ _ _)
 ·rw [show k=xs.length by omega];rfl
theorem l04Double_ok:Good1 Tryz.prog n_spec_l04Double areaC:=by
 refine good_of (tys:=tyL) (env:=[]) [] [] mixed tys trivial Tryz.func82 rfl (by kernel_rfl) (by decide) (by kernel_rfl) ?_
 rintro ⟨xs,⟨⟩⟩ hlen
 change xs.length≤_ at hlen
 (repeat' (first|(with_reducible first|exact True.intro|refine zQ ?_|(refine zG hG_ ?_;intro K_ hK_)|(refine zR ?_;intro K_ hK_)|(refine hK_ _ _ ?_;try clear hK_ K_)|refine sq_n ?_|refine sq_r ?_|refine sq_e ?_|refine bq_n ?_|refine bq_r ?_|refine bq_q ?_|refine zB ?_|refine zX ?_|refine zT ?_|refine zK ?_|refine gq_n ?_|refine gq_r ?_|refine gq_e ?_|refine lq_n ?_|refine lq_r ?_|refine lq_e ?_|refine bq_e (by decide) ?_)|((with_reducible refine zC (b:=?b_) ?hb_ ?_ ?_);case hb_=>rfl)|((conv=>whnf);first|(with_reducible refine hK_ _ _ ?_;try clear hK_ K_)|(with_reducible refine fun (g_:Sl) (o_:Ow)=>?_)|(with_reducible first|exact True.intro|refine And.intro trivial ?_|refine And.intro ?_ ?_)|exact Nat.le_of_ble_eq_true rfl|exact Or.inl rfl|(intro h_;cases h_)|(intro h_;(try simp only [vS1] at h_))|rfl))) <;> (try (conv=>whnf)) <;> (try first|change (_:Int)≤_|change (_:Nat)≤_)
 refine awp'_loop (fun k σ=>k≤xs.length∧Has σ [(0,vPts xs),(4,vInt k),(3,vInt (IntKind.i64.wrap (dblTo xs k)))]) (fun k=>xs.length - k) 0 ⟨Nat.zero_le _,?_⟩ ?_
 ·(repeat' (first|(with_reducible first|exact True.intro|refine zQ ?_|(refine zG hG_ ?_;intro K_ hK_)|(refine zR ?_;intro K_ hK_)|(refine hK_ _ _ ?_;try clear hK_ K_)|refine sq_n ?_|refine sq_r ?_|refine sq_e ?_|refine bq_n ?_|refine bq_r ?_|refine bq_q ?_|refine zB ?_|refine zX ?_|refine zT ?_|refine zK ?_|refine gq_n ?_|refine gq_r ?_|refine gq_e ?_|refine lq_n ?_|refine lq_r ?_|refine lq_e ?_|refine bq_e (by decide) ?_)|((with_reducible refine zC (b:=?b_) ?hb_ ?_ ?_);case hb_=>rfl)|((conv=>whnf);first|(with_reducible refine hK_ _ _ ?_;try clear hK_ K_)|(with_reducible refine fun (g_:Sl) (o_:Ow)=>?_)|(with_reducible first|exact True.intro|refine And.intro trivial ?_|refine And.intro ?_ ?_)|exact Nat.le_of_ble_eq_true rfl|exact Or.inl rfl|(intro h_;cases h_)|(intro h_;(try simp only [vS1] at h_))|rfl))) <;> (try (conv=>whnf)) <;> (try first|change (_:Int)≤_|change (_:Nat)≤_)
 rintro k s_ w_ ⟨hk,h⟩
 obtain ⟨g,rfl⟩:=has_ex h
 clear h
 (repeat' (first|(with_reducible first|exact True.intro|refine zQ ?_|(refine zG hG_ ?_;intro K_ hK_)|(refine zR ?_;intro K_ hK_)|(refine hK_ _ _ ?_;try clear hK_ K_)|refine sq_n ?_|refine sq_r ?_|refine sq_e ?_|refine bq_n ?_|refine bq_r ?_|refine bq_q ?_|refine zB ?_|refine zX ?_|refine zT ?_|refine zK ?_|refine gq_n ?_|refine gq_r ?_|refine gq_e ?_|refine lq_n ?_|refine lq_r ?_|refine lq_e ?_|refine bq_e (by decide) ?_)|((with_reducible refine zC (b:=?b_) ?hb_ ?_ ?_);case hb_=>rfl)|((conv=>whnf);first|(with_reducible refine hK_ _ _ ?_;try clear hK_ K_)|(with_reducible refine fun (g_:Sl) (o_:Ow)=>?_)|(with_reducible first|exact True.intro|refine And.intro trivial ?_|refine And.intro ?_ ?_)|exact Nat.le_of_ble_eq_true rfl|exact Or.inl rfl|(intro h_;cases h_)|(intro h_;(try simp only [vS1] at h_))|rfl))) <;> (try (conv=>whnf)) <;> (try first|change (_:Int)≤_|change (_:Nat)≤_) <;> (try ((fail_if_success (with_reducible apply Exists.intro));(try dsimp only);(try simp only [vS1])))
 all_goals (try (fail_if_success (with_reducible apply Exists.intro));first|with_reducible assumption|omega|exact mdl (by omega)|exact ilo1 (by omega)|exact ilo2 (by omega)|exact ihi1 (by omega) (by omega)|exact ihi2 (by omega) (by omega))
 ·refine ⟨k + 1,by omega,by omega,?_⟩
  rw [← W_nat (by omega)];(repeat' (first|(with_reducible first|exact True.intro|refine zQ ?_|(refine zG hG_ ?_;intro K_ hK_)|(refine zR ?_;intro K_ hK_)|(refine hK_ _ _ ?_;try clear hK_ K_)|refine sq_n ?_|refine sq_r ?_|refine sq_e ?_|refine bq_n ?_|refine bq_r ?_|refine bq_q ?_|refine zB ?_|refine zX ?_|refine zT ?_|refine zK ?_|refine gq_n ?_|refine gq_r ?_|refine gq_e ?_|refine lq_n ?_|refine lq_r ?_|refine lq_e ?_|refine bq_e (by decide) ?_)|((with_reducible refine zC (b:=?b_) ?hb_ ?_ ?_);case hb_=>rfl)|((conv=>whnf);first|(with_reducible refine hK_ _ _ ?_;try clear hK_ K_)|(with_reducible refine fun (g_:Sl) (o_:Ow)=>?_)|(with_reducible first|exact True.intro|refine And.intro trivial ?_|refine And.intro ?_ ?_)|exact Nat.le_of_ble_eq_true rfl|exact Or.inl rfl|(intro h_;cases h_)|(intro h_;(try simp only [vS1] at h_))|rfl))) <;> (try (conv=>whnf)) <;> (try first|change (_:Int)≤_|change (_:Nat)≤_)
  rw [mod_nat1 (by omega)]
  exact congrArg vInt (W_cr' _ _ _ _ _)
 ·rw [show k=xs.length by omega];rfl
def roomOkC:Con:=mkCon [.room] (fun x=>x.1.length≤1048576) fun x=>vB (roomOk x.1)
theorem iRoomOk_ok:Good1 Tryz.prog n_impl_RoomOk roomOkC:=by
 refine good_of (tys:=tyL) (env:=[(n_impl_between,btwC),(n_impl_pointsOk,pointsOkC),(n_impl_wallsOf,wallsOfC),(n_impl_turn,turnC),(n_impl_DoMeet,meetC),(n_impl_area,areaC)]) [] [] mixed tys ⟨between_ok,pointsOk_ok,wallsOf_ok,turn_ok,iDoMeet_ok,area_ok,trivial⟩ Tryz.func32 rfl (by kernel_rfl) (by decide) (by kernel_rfl) ?_
 rintro ⟨xs,⟨⟩⟩ hlen
 change xs.length≤_ at hlen
 have hl:=walls_len xs
 (repeat' (first|(with_reducible first|exact True.intro|refine zQ ?_|(refine zG hG_ ?_;intro K_ hK_)|(refine zR ?_;intro K_ hK_)|(refine hK_ _ _ ?_;try clear hK_ K_)|refine sq_n ?_|refine sq_r ?_|refine sq_e ?_|refine bq_n ?_|refine bq_r ?_|refine bq_q ?_|refine zB ?_|refine zX ?_|refine zT ?_|refine zK ?_|refine gq_n ?_|refine gq_r ?_|refine gq_e ?_|refine lq_n ?_|refine lq_r ?_|refine lq_e ?_|refine bq_e (by decide) ?_)|((with_reducible refine zC (b:=?b_) ?hb_ ?_ ?_);case hb_=>rfl)|((conv=>whnf);first|(with_reducible refine hK_ _ _ ?_;try clear hK_ K_)|(with_reducible refine fun (g_:Sl) (o_:Ow)=>?_)|(with_reducible first|exact True.intro|refine And.intro trivial ?_|refine And.intro ?_ ?_)|exact Nat.le_of_ble_eq_true rfl|exact Or.inl rfl|(intro h_;cases h_)|(intro h_;(try simp only [vS1] at h_))|rfl))) <;> (try (conv=>whnf)) <;> (try first|change (_:Int)≤_|change (_:Nat)≤_) <;> (try ((fail_if_success (with_reducible apply Exists.intro));(try dsimp only);(try simp only [vS1])))
 all_goals (try (fail_if_success (with_reducible apply Exists.intro));first|with_reducible assumption|omega|exact mdl (by omega)|exact ilo1 (by omega)|exact ilo2 (by omega)|exact ihi1 (by omega) (by omega)|exact ihi2 (by omega) (by omega))
 ·symm;rw [← Bool.not_eq_true,roomOk_iff];simp [btw] at *;omega
 ·symm;rw [← Bool.not_eq_true,roomOk_iff];simp [*]
 refine awp'_loop (fun k σ=>k≤xs.length∧(∀ i,i < k→turn (pAt xs i) (pCy xs (i + 1)) (pCy xs (i + 2))≠0 ∧
  ∀ k,i + 2≤k→k < xs.length→(k + 1) % xs.length≠i→meet (wl xs i) (wl xs k)=false)∧HasX σ [(1,vRoom xs),(3,vInt xs.length),(4,vWalls (walls xs)),(23,vWalls (walls xs)),(24,vInt (walls xs).length),(25,vInt k)] []) (fun k=>xs.length - k) 0 ⟨Nat.zero_le _,fun i hi=>absurd hi (by omega),?_⟩ ?_
 ·(repeat' (first|(with_reducible first|exact True.intro|refine zQ ?_|(refine zG hG_ ?_;intro K_ hK_)|(refine zR ?_;intro K_ hK_)|(refine hK_ _ _ ?_;try clear hK_ K_)|refine sq_n ?_|refine sq_r ?_|refine sq_e ?_|refine bq_n ?_|refine bq_r ?_|refine bq_q ?_|refine zB ?_|refine zX ?_|refine zT ?_|refine zK ?_|refine gq_n ?_|refine gq_r ?_|refine gq_e ?_|refine lq_n ?_|refine lq_r ?_|refine lq_e ?_|refine bq_e (by decide) ?_)|((with_reducible refine zC (b:=?b_) ?hb_ ?_ ?_);case hb_=>rfl)|((conv=>whnf);first|(with_reducible refine hK_ _ _ ?_;try clear hK_ K_)|(with_reducible refine fun (g_:Sl) (o_:Ow)=>?_)|(with_reducible first|exact True.intro|refine And.intro trivial ?_|refine And.intro ?_ ?_)|exact Nat.le_of_ble_eq_true rfl|exact Or.inl rfl|(intro h_;cases h_)|(intro h_;(try simp only [vS1] at h_))|rfl))) <;> (try (conv=>whnf)) <;> (try first|change (_:Int)≤_|change (_:Nat)≤_)
 rintro i s_ w_ ⟨hi,hall,h⟩
 obtain ⟨g,o,v,rfl,rfl⟩:=hasX_ex h
 clear h
 (repeat' (first|(with_reducible first|exact True.intro|refine zQ ?_|(refine zG hG_ ?_;intro K_ hK_)|(refine zR ?_;intro K_ hK_)|(refine hK_ _ _ ?_;try clear hK_ K_)|refine sq_n ?_|refine sq_r ?_|refine sq_e ?_|refine bq_n ?_|refine bq_r ?_|refine bq_q ?_|refine zB ?_|refine zX ?_|refine zT ?_|refine zK ?_|refine gq_n ?_|refine gq_r ?_|refine gq_e ?_|refine lq_n ?_|refine lq_r ?_|refine lq_e ?_|refine bq_e (by decide) ?_)|((with_reducible refine zC (b:=?b_) ?hb_ ?_ ?_);case hb_=>rfl)|((conv=>whnf);first|(with_reducible refine hK_ _ _ ?_;try clear hK_ K_)|(with_reducible refine fun (g_:Sl) (o_:Ow)=>?_)|(with_reducible first|exact True.intro|refine And.intro trivial ?_|refine And.intro ?_ ?_)|exact Nat.le_of_ble_eq_true rfl|exact Or.inl rfl|(intro h_;cases h_)|(intro h_;(try simp only [vS1] at h_))|rfl))) <;> (try (conv=>whnf)) <;> (try first|change (_:Int)≤_|change (_:Nat)≤_) <;> (try ((fail_if_success (with_reducible apply Exists.intro));(try dsimp only);(try simp only [vS1])))
 all_goals (try (fail_if_success (with_reducible apply Exists.intro));first|with_reducible assumption|omega|exact mdl (by omega)|exact ilo1 (by omega)|exact ilo2 (by omega)|exact ihi1 (by omega) (by omega)|exact ihi2 (by omega) (by omega))
 ·symm;rw [← Bool.not_eq_true,roomOk_iff,okAt_half]
  rintro ⟨-,-,h,-⟩
  have h1:=(h i (by omega)).1
  rw [walls_get (by omega)] at *
  simp only [mod_nat2 (show i + 2≤4611686018427387904 by omega),Int.toNat_natCast] at *
  simp_all [wl]
 ·have hin:(i:Int) < (walls xs).length:=by omega
  have ht:turn (pAt xs i) (pCy xs (i + 1)) (pCy xs (i + 2))≠0:=by
   have:=h_
   rw [walls_get (by omega),mod_nat2 (by omega),Int.toNat_natCast] at this
   exact fun e=>by simp_all [wl]
  refine awp'_loop (fun k σ=>i + 2≤k∧(∀ j,i + 2≤j→j < k→j < xs.length→(j + 1) % xs.length≠i→meet (wl xs i) (wl xs j)=false)∧HasX σ [(1,vRoom xs),(3,vInt xs.length),(4,vWalls (walls xs)),(23,vWalls (walls xs)),(24,vInt (walls xs).length),(25,vInt i),(5,vInt i),(7,vInt k)]
   [(6,6,true,.box t_impl_Wall (cWall ((walls xs).getD i ((0,0),(0,0)))))]) (fun k=>xs.length - k) (i + 2) ⟨Nat.le_refl _,fun j h1 h2=>absurd h1 (by omega),?_⟩ ?_
  ·(repeat' (first|(with_reducible first|exact True.intro|refine zQ ?_|(refine zG hG_ ?_;intro K_ hK_)|(refine zR ?_;intro K_ hK_)|(refine hK_ _ _ ?_;try clear hK_ K_)|refine sq_n ?_|refine sq_r ?_|refine sq_e ?_|refine bq_n ?_|refine bq_r ?_|refine bq_q ?_|refine zB ?_|refine zX ?_|refine zT ?_|refine zK ?_|refine gq_n ?_|refine gq_r ?_|refine gq_e ?_|refine lq_n ?_|refine lq_r ?_|refine lq_e ?_|refine bq_e (by decide) ?_)|((with_reducible refine zC (b:=?b_) ?hb_ ?_ ?_);case hb_=>rfl)|((conv=>whnf);first|(with_reducible refine hK_ _ _ ?_;try clear hK_ K_)|(with_reducible refine fun (g_:Sl) (o_:Ow)=>?_)|(with_reducible first|exact True.intro|refine And.intro trivial ?_|refine And.intro ?_ ?_)|exact Nat.le_of_ble_eq_true rfl|exact Or.inl rfl|(intro h_;cases h_)|(intro h_;(try simp only [vS1] at h_))|rfl))) <;> (try (conv=>whnf)) <;> (try first|change (_:Int)≤_|change (_:Nat)≤_)
   exact congrArg vInt (by rw [W_in (by omega) (by omega)];rfl)
  rintro k s_ w_ ⟨hk,hin2,h⟩
  obtain ⟨g,o,v,rfl,rfl⟩:=hasX_ex h
  clear h
  have hk2:(k:Int) < xs.length→IntKind.i64.wrap ((k:Int) + 1)=((k + 1:Nat):Int):=fun _=>W_nat (by omega)
  have hk3:(k:Int) < xs.length→(IntKind.i64.wrap ((k:Int) + 1)).tmod xs.length=(((k + 1) % xs.length:Nat):Int):=fun _=>mod_nat1 (by omega)
  (repeat' (first|(with_reducible first|exact True.intro|refine zQ ?_|(refine zG hG_ ?_;intro K_ hK_)|(refine zR ?_;intro K_ hK_)|(refine hK_ _ _ ?_;try clear hK_ K_)|refine sq_n ?_|refine sq_r ?_|refine sq_e ?_|refine bq_n ?_|refine bq_r ?_|refine bq_q ?_|refine zB ?_|refine zX ?_|refine zT ?_|refine zK ?_|refine gq_n ?_|refine gq_r ?_|refine gq_e ?_|refine lq_n ?_|refine lq_r ?_|refine lq_e ?_|refine bq_e (by decide) ?_)|((with_reducible refine zC (b:=?b_) ?hb_ ?_ ?_);case hb_=>rfl)|((conv=>whnf);first|(with_reducible refine hK_ _ _ ?_;try clear hK_ K_)|(with_reducible refine fun (g_:Sl) (o_:Ow)=>?_)|(with_reducible first|exact True.intro|refine And.intro trivial ?_|refine And.intro ?_ ?_)|exact Nat.le_of_ble_eq_true rfl|exact Or.inl rfl|(intro h_;cases h_)|(intro h_;(try simp only [vS1] at h_))|rfl))) <;> (try (conv=>whnf)) <;> (try first|change (_:Int)≤_|change (_:Nat)≤_) <;> (try ((fail_if_success (with_reducible apply Exists.intro));(try dsimp only);(try simp only [vS1])))
  all_goals (try (fail_if_success (with_reducible apply Exists.intro));first|with_reducible assumption|omega|exact mdl (by omega)|exact ilo1 (by omega)|exact ilo2 (by omega)|exact ihi1 (by omega) (by omega)|exact ihi2 (by omega) (by omega))
  ·rename_i hlt hne
   have hm:=h_
   symm;rw [← Bool.not_eq_true,roomOk_iff,okAt_half]
   rintro ⟨-,-,h,-⟩
   rw [hk3 hlt] at hne
   rw [walls_get (by omega),walls_get (by omega)] at hm
   rw [(h i (by omega)).2 k hk (by omega) (fun e=>by simp [e] at hne)] at hm
   cases hm
  ·rename_i hlt hne
   have hm:=h_
   rw [walls_get (by omega),walls_get (by omega)] at hm
   refine ⟨k + 1,by omega,by omega,fun j h1 h2 h3 h4=>?_,?_⟩
   ·rcases Nat.lt_or_ge j k with h5|h5
    ·exact hin2 j h1 h5 h3 h4
    ·rw [show j=k by omega];exact hm
   ·rw [← hk2 hlt];(repeat' (first|(with_reducible first|exact True.intro|refine zQ ?_|(refine zG hG_ ?_;intro K_ hK_)|(refine zR ?_;intro K_ hK_)|(refine hK_ _ _ ?_;try clear hK_ K_)|refine sq_n ?_|refine sq_r ?_|refine sq_e ?_|refine bq_n ?_|refine bq_r ?_|refine bq_q ?_|refine zB ?_|refine zX ?_|refine zT ?_|refine zK ?_|refine gq_n ?_|refine gq_r ?_|refine gq_e ?_|refine lq_n ?_|refine lq_r ?_|refine lq_e ?_|refine bq_e (by decide) ?_)|((with_reducible refine zC (b:=?b_) ?hb_ ?_ ?_);case hb_=>rfl)|((conv=>whnf);first|(with_reducible refine hK_ _ _ ?_;try clear hK_ K_)|(with_reducible refine fun (g_:Sl) (o_:Ow)=>?_)|(with_reducible first|exact True.intro|refine And.intro trivial ?_|refine And.intro ?_ ?_)|exact Nat.le_of_ble_eq_true rfl|exact Or.inl rfl|(intro h_;cases h_)|(intro h_;(try simp only [vS1] at h_))|rfl))) <;> (try (conv=>whnf)) <;> (try first|change (_:Int)≤_|change (_:Nat)≤_)
  ·rename_i hlt
   have hne:=h_
   rw [hk3 hlt] at hne
   refine ⟨k + 1,by omega,by omega,fun j h1 h2 h3 h4=>?_,?_⟩
   ·rcases Nat.lt_or_ge j k with h5|h5
    ·exact hin2 j h1 h5 h3 h4
    ·exact absurd (by rw [show j=k by omega];exact Int.ofNat_inj.1 (bne_eq_false_iff_eq.1 hne)) h4
   ·rw [← hk2 hlt];(repeat' (first|(with_reducible first|exact True.intro|refine zQ ?_|(refine zG hG_ ?_;intro K_ hK_)|(refine zR ?_;intro K_ hK_)|(refine hK_ _ _ ?_;try clear hK_ K_)|refine sq_n ?_|refine sq_r ?_|refine sq_e ?_|refine bq_n ?_|refine bq_r ?_|refine bq_q ?_|refine zB ?_|refine zX ?_|refine zT ?_|refine zK ?_|refine gq_n ?_|refine gq_r ?_|refine gq_e ?_|refine lq_n ?_|refine lq_r ?_|refine lq_e ?_|refine bq_e (by decide) ?_)|((with_reducible refine zC (b:=?b_) ?hb_ ?_ ?_);case hb_=>rfl)|((conv=>whnf);first|(with_reducible refine hK_ _ _ ?_;try clear hK_ K_)|(with_reducible refine fun (g_:Sl) (o_:Ow)=>?_)|(with_reducible first|exact True.intro|refine And.intro trivial ?_|refine And.intro ?_ ?_)|exact Nat.le_of_ble_eq_true rfl|exact Or.inl rfl|(intro h_;cases h_)|(intro h_;(try simp only [vS1] at h_))|rfl))) <;> (try (conv=>whnf)) <;> (try first|change (_:Int)≤_|change (_:Nat)≤_)
  ·have hge:=h_
   refine ⟨i + 1,by omega,by omega,fun j hj=>?_,?_⟩
   ·rcases Nat.lt_or_ge j i with h5|h5
    ·exact hall j h5
    ·rw [show j=i by omega]
     refine ⟨?_,fun m h1 h2 h3=>hin2 m h1 (by omega) h2 h3⟩
     exact ht
   ·rw [← W_nat (by omega)];(repeat' (first|(with_reducible first|exact True.intro|refine zQ ?_|(refine zG hG_ ?_;intro K_ hK_)|(refine zR ?_;intro K_ hK_)|(refine hK_ _ _ ?_;try clear hK_ K_)|refine sq_n ?_|refine sq_r ?_|refine sq_e ?_|refine bq_n ?_|refine bq_r ?_|refine bq_q ?_|refine zB ?_|refine zX ?_|refine zT ?_|refine zK ?_|refine gq_n ?_|refine gq_r ?_|refine gq_e ?_|refine lq_n ?_|refine lq_r ?_|refine lq_e ?_|refine bq_e (by decide) ?_)|((with_reducible refine zC (b:=?b_) ?hb_ ?_ ?_);case hb_=>rfl)|((conv=>whnf);first|(with_reducible refine hK_ _ _ ?_;try clear hK_ K_)|(with_reducible refine fun (g_:Sl) (o_:Ow)=>?_)|(with_reducible first|exact True.intro|refine And.intro trivial ?_|refine And.intro ?_ ?_)|exact Nat.le_of_ble_eq_true rfl|exact Or.inl rfl|(intro h_;cases h_)|(intro h_;(try simp only [vS1] at h_))|rfl))) <;> (try (conv=>whnf)) <;> (try first|change (_:Int)≤_|change (_:Nat)≤_)
 ·have hin:i=xs.length:=by omega
  subst hin
  have hb:=btw_iff.1 ‹btw _ _ _=true›
  have hb2:3≤xs.length∧xs.length≤10:=by omega
  rw [Bool.eq_iff_iff,roomOk_iff,okAt_half]
  simp_all [btw]
theorem _root_.Go.Proofs.YtpafacebfogkmaaGreat.vS2:type_of% (And.intro @List.length_append.{0} (And.intro @List.length_take.{0} (And.intro @List.length_replicate.{0} (And.intro @List.length_set.{0} (And.intro @List.length_map.{0,0} (And.intro @List.length_cons.{0} (And.intro @List.length_nil.{0} (And.intro @prodEta (And.intro @Int.toNat_natCast (And.intro @beq_iff_eq.{0} (And.intro @beq_eq_false_iff_ne.{0} (And.intro @bne_iff_ne.{0} (And.intro @bne_eq_false_iff_eq.{0} (And.intro @ne_eq.{1} (And.intro @Int.natCast_inj (And.intro @Int.ofNat_lt @Int.ofNat_le)))))))))))))))):=⟨List.length_append,List.length_take,List.length_replicate,List.length_set,List.length_map,List.length_cons,List.length_nil,prodEta,Int.toNat_natCast,beq_iff_eq,beq_eq_false_iff_ne,bne_iff_ne,bne_eq_false_iff_eq,ne_eq,Int.natCast_inj,Int.ofNat_lt,Int.ofNat_le⟩
theorem _root_.Go.Proofs.YtpafacebfogkmaaGreat.vS3:type_of% (And.intro @ptEq2 (And.intro @cond_true.{1} (And.intro @cond_false.{1} (And.intro @decide_eq_true_eq (And.intro @decide_eq_false_iff_not (And.intro @List.length_drop.{0} (And.intro @List.take_length.{0} (And.intro @Int.toNat_zero (And.intro @List.drop_zero.{0} (And.intro @Nat.zero_add (And.intro @List.nil_append.{0} (And.intro @mod_nat1 (And.intro @mod_nat2 (And.intro @tm1 (And.intro @tm2 (And.intro @tmj @W_in)))))))))))))))):=⟨ptEq2,cond_true,cond_false,decide_eq_true_eq,decide_eq_false_iff_not,List.length_drop,List.take_length,Int.toNat_zero,List.drop_zero,Nat.zero_add,List.nil_append,mod_nat1,mod_nat2,tm1,tm2,tmj,W_in⟩
set_option maxHeartbeats 4000000 in
theorem sRoomOk_ok:Good1 Tryz.prog n_spec_RoomOk roomOkC:=by
 refine good_ofG (tys:=tyL) (env:=[(n_spec_l01In,btwC),(n_spec_PointOk,ptOkC),(n_spec_l02Turn,turnC),(n_spec_DoMeet,meetC),(n_spec_l04Double,areaC)]) (envw:=[]) (envd:=[]) [] [37,38,43,44] [] [] [] mixed tys ⟨l01In_ok,sPointOk_ok,l02Turn_ok,sDoMeet_ok,l04Double_ok,trivial⟩ trivial trivial Tryz.func56 rfl (by kernel_rfl) (by decide) (by kernel_rfl) ?_
 have hG_:=kpz [(0,[1]),(1,[1,3]),(2,[1,3,14]),(3,[2]),(4,[1,3,4]),(5,[1,3,4,17]),(6,[1,3,4]),(7,[1,3,4,26]),(8,[2]),(9,[1,3,5]),(10,[1,3,5,29]),(11,[1,3,5]),(12,[1,3,5,6]),(13,[1,3,5,6,7]),(14,[1,3,5,6,7,56]),(15,[2]),(16,[1,3,5,6,7,8]),(17,[1,3,5,6,7,8,59]),(18,[1,3,5,6,7,8]),(19,[1,3,5,6,7,8,80]),(20,[1,3,5,6,7,8,98]),(21,[2]),(22,[2])] [(12,[6]),(13,[6,7]),(14,[6,7]),(16,[6,7]),(17,[6,7]),(18,[6,7]),(19,[6,7]),(20,[6,7])] [] []
 rintro ⟨xs,⟨⟩⟩ hlen
 change xs.length≤_ at hlen
 (repeat' (first|(with_reducible first|exact True.intro|refine zQ ?_|(refine zG hG_ ?_;intro K_ hK_)|(refine zR ?_;intro K_ hK_)|(refine hK_ _ _ ?_;try clear hK_ K_)|refine sq_n ?_|refine sq_r ?_|refine sq_e ?_|refine bq_n ?_|refine bq_r ?_|refine bq_q ?_|refine zB ?_|refine zX ?_|refine zT ?_|refine zK ?_|refine gq_n ?_|refine gq_r ?_|refine gq_e ?_|refine lq_n ?_|refine lq_r ?_|refine lq_e ?_|refine bq_e (by decide) ?_)|((with_reducible refine zC (b:=?b_) ?hb_ ?_ ?_);case hb_=>rfl)|((conv=>whnf);first|(with_reducible refine hK_ _ _ ?_;try clear hK_ K_)|(with_reducible refine fun (g_:Sl) (o_:Ow)=>?_)|(with_reducible first|exact True.intro|refine And.intro trivial ?_|refine And.intro ?_ ?_)|exact Nat.le_of_ble_eq_true rfl|exact Or.inl rfl|(intro h_;cases h_)|(intro h_;(try simp only [vS1] at h_))|rfl))) <;> (try (conv=>whnf)) <;> (try first|change (_:Int)≤_|change (_:Nat)≤_) <;> (try ((fail_if_success (with_reducible apply Exists.intro));(try dsimp only);(try simp only [vS1])))
 all_goals (try (fail_if_success (with_reducible apply Exists.intro));first|with_reducible assumption|omega|exact mdl (by omega)|exact ilo1 (by omega)|exact ilo2 (by omega)|exact ihi1 (by omega) (by omega)|exact ihi2 (by omega) (by omega))
 ·symm;rw [← Bool.not_eq_true,roomOk_iff];simp [btw] at *;omega
 have hb:=btw_iff.1 ‹btw _ _ _=true›
 refine awp'_loopG (α:=Nat) (fun k ver_=>[(4,vInt k)]) (fun k ver_=>[]) (fun k ver_=>[]) (fun k=>k≤xs.length∧(xs.take k).all ptOk=true) (fun k=>xs.length - k) [1,3] [] (0) ?_
 conv=>whnf
 refine ⟨⟨?inv1_,?vals1_,?own1_,?fix1_⟩,?body1_⟩
 case' vals1_=>(repeat' (first|(with_reducible first|exact True.intro|refine And.intro ?_ ?_|refine Head.mk ?_ ?_ ?_ ?_)|((conv=>lhs;whnf);first|(with_reducible first|rfl|exact vInt_s (by omega))|exact rfl)|((conv=>whnf);first|(with_reducible first|exact True.intro|refine And.intro ?_ ?_)))) <;> (try (conv=>lhs;whnf))
 case' own1_=>(repeat' (first|(with_reducible first|exact True.intro|refine And.intro ?_ ?_|refine Head.mk ?_ ?_ ?_ ?_)|((conv=>lhs;whnf);first|(with_reducible first|rfl|exact vInt_s (by omega))|exact rfl)|((conv=>whnf);first|(with_reducible first|exact True.intro|refine And.intro ?_ ?_)))) <;> (try (conv=>lhs;whnf))
 case' fix1_=>(repeat' (first|(with_reducible first|exact True.intro|refine And.intro ?_ ?_|refine Head.mk ?_ ?_ ?_ ?_)|((conv=>lhs;whnf);first|(with_reducible first|rfl|exact vInt_s (by omega))|exact rfl)|((conv=>whnf);first|(with_reducible first|exact True.intro|refine And.intro ?_ ?_)))) <;> (try (conv=>lhs;whnf))
 ·exact ⟨Nat.zero_le _,by simp⟩
 rintro k g_ o_ v_ ⟨hk,hall⟩
 (repeat' (first|(with_reducible first|exact True.intro|refine zQ ?_|(refine zG hG_ ?_;intro K_ hK_)|(refine zR ?_;intro K_ hK_)|(refine hK_ _ _ ?_;try clear hK_ K_)|refine sq_n ?_|refine sq_r ?_|refine sq_e ?_|refine bq_n ?_|refine bq_r ?_|refine bq_q ?_|refine zB ?_|refine zX ?_|refine zT ?_|refine zK ?_|refine gq_n ?_|refine gq_r ?_|refine gq_e ?_|refine lq_n ?_|refine lq_r ?_|refine lq_e ?_|refine bq_e (by decide) ?_)|((with_reducible refine zC (b:=?b_) ?hb_ ?_ ?_);case hb_=>rfl)|((conv=>whnf);first|(with_reducible refine hK_ _ _ ?_;try clear hK_ K_)|(with_reducible refine fun (g_:Sl) (o_:Ow)=>?_)|(with_reducible first|exact True.intro|refine And.intro trivial ?_|refine And.intro ?_ ?_)|exact Nat.le_of_ble_eq_true rfl|exact Or.inl rfl|(intro h_;cases h_)|(intro h_;(try simp only [vS1] at h_))|rfl))) <;> (try (conv=>whnf)) <;> (try first|change (_:Int)≤_|change (_:Nat)≤_) <;> (try ((fail_if_success (with_reducible apply Exists.intro));(try dsimp only);(try simp only [vS1])))
 all_goals (try (fail_if_success (with_reducible apply Exists.intro));first|with_reducible assumption|omega|exact mdl (by omega)|exact ilo1 (by omega)|exact ilo2 (by omega)|exact ihi1 (by omega) (by omega)|exact ihi2 (by omega) (by omega))
 ·symm;rw [← Bool.not_eq_true,roomOk_iff,all_no (k:=k) _ (by omega) h_];simp
 ·refine ⟨k + 1,by omega,⟨by omega,?_⟩,?_⟩
  ·rw [all_succ (0,0) (by omega),hall];simpa using h_
  ·(repeat' (first|(with_reducible first|exact True.intro|refine And.intro ?_ ?_|refine Head.mk ?_ ?_ ?_ ?_)|((conv=>lhs;whnf);first|(with_reducible first|rfl|exact vInt_s (by omega))|exact rfl)|((conv=>whnf);first|(with_reducible first|exact True.intro|refine And.intro ?_ ?_)))) <;> (try (conv=>lhs;whnf))
 have hpts:=take_all (by omega) hall
 clear hall
 refine awp'_loopG (α:=Nat) (fun i ver_=>[(5,vInt i)]) (fun i ver_=>[]) (fun i ver_=>[]) (fun i=>i≤xs.length∧∀ j,j < i→okAt xs j=true) (fun i=>xs.length - i) [1,3] [] (0) ?_
 conv=>whnf
 refine ⟨⟨?inv2_,?vals2_,?own2_,?fix2_⟩,?body2_⟩
 case' vals2_=>(repeat' (first|(with_reducible first|exact True.intro|refine And.intro ?_ ?_|refine Head.mk ?_ ?_ ?_ ?_)|((conv=>lhs;whnf);first|(with_reducible first|rfl|exact vInt_s (by omega))|exact rfl)|((conv=>whnf);first|(with_reducible first|exact True.intro|refine And.intro ?_ ?_)))) <;> (try (conv=>lhs;whnf))
 case' own2_=>(repeat' (first|(with_reducible first|exact True.intro|refine And.intro ?_ ?_|refine Head.mk ?_ ?_ ?_ ?_)|((conv=>lhs;whnf);first|(with_reducible first|rfl|exact vInt_s (by omega))|exact rfl)|((conv=>whnf);first|(with_reducible first|exact True.intro|refine And.intro ?_ ?_)))) <;> (try (conv=>lhs;whnf))
 case' fix2_=>(repeat' (first|(with_reducible first|exact True.intro|refine And.intro ?_ ?_|refine Head.mk ?_ ?_ ?_ ?_)|((conv=>lhs;whnf);first|(with_reducible first|rfl|exact vInt_s (by omega))|exact rfl)|((conv=>whnf);first|(with_reducible first|exact True.intro|refine And.intro ?_ ?_)))) <;> (try (conv=>lhs;whnf))
 ·exact ⟨Nat.zero_le _,fun i hi=>absurd hi (by omega)⟩
 rintro i g_ o_ v_ ⟨hi,hall⟩
 (repeat' (first|(with_reducible first|exact True.intro|refine zQ ?_|(refine zG hG_ ?_;intro K_ hK_)|(refine zR ?_;intro K_ hK_)|(refine hK_ _ _ ?_;try clear hK_ K_)|refine sq_n ?_|refine sq_r ?_|refine sq_e ?_|refine bq_n ?_|refine bq_r ?_|refine bq_q ?_|refine zB ?_|refine zX ?_|refine zT ?_|refine zK ?_|refine gq_n ?_|refine gq_r ?_|refine gq_e ?_|refine lq_n ?_|refine lq_r ?_|refine lq_e ?_|refine bq_e (by decide) ?_)|((with_reducible refine zC (b:=?b_) ?hb_ ?_ ?_);case hb_=>rfl)|((conv=>whnf);first|(with_reducible refine hK_ _ _ ?_;try clear hK_ K_)|(with_reducible refine fun (g_:Sl) (o_:Ow)=>?_)|(with_reducible first|exact True.intro|refine And.intro trivial ?_|refine And.intro ?_ ?_)|exact Nat.le_of_ble_eq_true rfl|exact Or.inl rfl|(intro h_;cases h_)|(intro h_;(try simp only [vS1] at h_))|rfl))) <;> (try (conv=>whnf)) <;> (try first|change (_:Int)≤_|change (_:Nat)≤_) <;> (try ((fail_if_success (with_reducible apply Exists.intro));(try dsimp only);(try simp only [vS1])))
 all_goals (try (fail_if_success (with_reducible apply Exists.intro));first|with_reducible assumption|omega|exact mdl (by omega)|exact ilo1 (by omega)|exact ilo2 (by omega)|exact ihi1 (by omega) (by omega)|exact ihi2 (by omega) (by omega))
 ·symm;rw [← Bool.not_eq_true,roomOk_iff]
  rintro ⟨-,-,h,-⟩
  have h1:=(okAt_iff.1 (h i (by omega))).1
  rw [mod_nat1 (by omega),mod_nat2 (by omega),Int.toNat_natCast,Int.toNat_natCast] at h_
  exact h1 (eq_of_beq h_)
 ·have ht:turn (pAt xs i) (pCy xs (i + 1)) (pCy xs (i + 2))≠0:=by
   have:=h_
   rw [mod_nat1 (by omega),mod_nat2 (by omega),Int.toNat_natCast,Int.toNat_natCast] at this
   exact fun e=>(beq_eq_false_iff_ne.1 this) e
  have hin:(i:Int) < xs.length:=by omega
  have hi3:(IntKind.i64.wrap ((i:Int) + 1)).tmod xs.length=(((i + 1) % xs.length:Nat):Int):=mod_nat1 (by omega)
  clear h_
  refine awp'_loopG (α:=Nat) (fun k ver_=>[(8,vInt k)]) (fun k ver_=>[]) (fun k ver_=>[]) (fun k=>k≤xs.length∧∀ j,j < k→j≠i→(j + 1) % xs.length≠i→(i + 1) % xs.length≠j→meet (wl xs i) (wl xs j)=false) (fun k=>xs.length - k) [1,3,5,6,7] [6,7] (0) ?_
  conv=>whnf
  refine ⟨⟨?inv3_,?vals3_,?own3_,?fix3_⟩,?body3_⟩
  case' vals3_=>(repeat' (first|(with_reducible first|exact True.intro|refine And.intro ?_ ?_|refine Head.mk ?_ ?_ ?_ ?_)|((conv=>lhs;whnf);first|(with_reducible first|rfl|exact vInt_s (by omega))|exact rfl)|((conv=>whnf);first|(with_reducible first|exact True.intro|refine And.intro ?_ ?_)))) <;> (try (conv=>lhs;whnf))
  case' own3_=>(repeat' (first|(with_reducible first|exact True.intro|refine And.intro ?_ ?_|refine Head.mk ?_ ?_ ?_ ?_)|((conv=>lhs;whnf);first|(with_reducible first|rfl|exact vInt_s (by omega))|exact rfl)|((conv=>whnf);first|(with_reducible first|exact True.intro|refine And.intro ?_ ?_)))) <;> (try (conv=>lhs;whnf))
  case' fix3_=>(repeat' (first|(with_reducible first|exact True.intro|refine And.intro ?_ ?_|refine Head.mk ?_ ?_ ?_ ?_)|((conv=>lhs;whnf);first|(with_reducible first|rfl|exact vInt_s (by omega))|exact rfl)|((conv=>whnf);first|(with_reducible first|exact True.intro|refine And.intro ?_ ?_)))) <;> (try (conv=>lhs;whnf))
  ·exact ⟨Nat.zero_le _,fun j h1=>absurd h1 (by omega)⟩
  rintro k g_ o_ v_ ⟨hk,hin2⟩
  (repeat' (first|(with_reducible first|exact True.intro|refine zQ ?_|(refine zG hG_ ?_;intro K_ hK_)|(refine zR ?_;intro K_ hK_)|(refine hK_ _ _ ?_;try clear hK_ K_)|refine sq_n ?_|refine sq_r ?_|refine sq_e ?_|refine bq_n ?_|refine bq_r ?_|refine bq_q ?_|refine zB ?_|refine zX ?_|refine zT ?_|refine zK ?_|refine gq_n ?_|refine gq_r ?_|refine gq_e ?_|refine lq_n ?_|refine lq_r ?_|refine lq_e ?_|refine bq_e (by decide) ?_)|((with_reducible refine zC (b:=?b_) ?hb_ ?_ ?_);case hb_=>rfl)|((conv=>whnf);first|(with_reducible refine hK_ _ _ ?_;try clear hK_ K_)|(with_reducible refine fun (g_:Sl) (o_:Ow)=>?_)|(with_reducible first|exact True.intro|refine And.intro trivial ?_|refine And.intro ?_ ?_)|exact Nat.le_of_ble_eq_true rfl|exact Or.inl rfl|(intro h_;cases h_)|(intro h_;(try simp only [vS1] at h_))|rfl))) <;> (try (conv=>whnf)) <;> (try first|change (_:Int)≤_|change (_:Nat)≤_) <;> (try ((fail_if_success (with_reducible apply Exists.intro));(try dsimp only);(try simp only [vS1])))
  all_goals (try (fail_if_success (with_reducible apply Exists.intro));first|with_reducible assumption|omega|exact mdl (by omega)|exact ilo1 (by omega)|exact ilo2 (by omega)|exact ihi1 (by omega) (by omega)|exact ihi2 (by omega) (by omega))
  all_goals (try simp (disch:=omega) only [vS3,vS2] at *)
  ·refine ⟨k + 1,by omega,⟨by omega,fun j h1 h2 h3 h4=>?_⟩,by (repeat' (first|(with_reducible first|exact True.intro|refine And.intro ?_ ?_|refine Head.mk ?_ ?_ ?_ ?_)|((conv=>lhs;whnf);first|(with_reducible first|rfl|exact vInt_s (by omega))|exact rfl)|((conv=>whnf);first|(with_reducible first|exact True.intro|refine And.intro ?_ ?_)))) <;> (try (conv=>lhs;whnf))⟩
   rcases Nat.lt_or_ge j k with h5|h5
   ·exact hin2 j h5 h2 h3 h4
   ·exact absurd (by omega) h2
  ·refine ⟨k + 1,by omega,⟨by omega,fun j h1 h2 h3 h4=>?_⟩,by (repeat' (first|(with_reducible first|exact True.intro|refine And.intro ?_ ?_|refine Head.mk ?_ ?_ ?_ ?_)|((conv=>lhs;whnf);first|(with_reducible first|rfl|exact vInt_s (by omega))|exact rfl)|((conv=>whnf);first|(with_reducible first|exact True.intro|refine And.intro ?_ ?_)))) <;> (try (conv=>lhs;whnf))⟩
   rcases Nat.lt_or_ge j k with h5|h5
   ·exact hin2 j h5 h2 h3 h4
   ·rw [show j=k by omega] at h3;exact absurd (by assumption) h3
  ·refine ⟨k + 1,by omega,⟨by omega,fun j h1 h2 h3 h4=>?_⟩,by (repeat' (first|(with_reducible first|exact True.intro|refine And.intro ?_ ?_|refine Head.mk ?_ ?_ ?_ ?_)|((conv=>lhs;whnf);first|(with_reducible first|rfl|exact vInt_s (by omega))|exact rfl)|((conv=>whnf);first|(with_reducible first|exact True.intro|refine And.intro ?_ ?_)))) <;> (try (conv=>lhs;whnf))⟩
   rcases Nat.lt_or_ge j k with h5|h5
   ·exact hin2 j h5 h2 h3 h4
   ·rw [show j=k by omega] at h4;exact absurd (by assumption) h4
  ·symm;rw [← Bool.not_eq_true,roomOk_iff]
   rintro ⟨-,-,h,-⟩
   have h2:=(okAt_iff.1 (h i (by omega))).2 k (by omega) ‹_› ‹_› ‹_›
   exact absurd (show meet (wl xs i) (wl xs k)=true by assumption) (by rw [h2];decide)
  ·refine ⟨k + 1,by omega,⟨by omega,fun j h1 h2 h3 h4=>?_⟩,by (repeat' (first|(with_reducible first|exact True.intro|refine And.intro ?_ ?_|refine Head.mk ?_ ?_ ?_ ?_)|((conv=>lhs;whnf);first|(with_reducible first|rfl|exact vInt_s (by omega))|exact rfl)|((conv=>whnf);first|(with_reducible first|exact True.intro|refine And.intro ?_ ?_)))) <;> (try (conv=>lhs;whnf))⟩
   rcases Nat.lt_or_ge j k with h5|h5
   ·exact hin2 j h5 h2 h3 h4
   ·rw [show j=k by omega];assumption
  ·refine ⟨i + 1,by omega,⟨by omega,fun j hj=>?_⟩,by (repeat' (first|(with_reducible first|exact True.intro|refine And.intro ?_ ?_|refine Head.mk ?_ ?_ ?_ ?_)|((conv=>lhs;whnf);first|(with_reducible first|rfl|exact vInt_s (by omega))|exact rfl)|((conv=>whnf);first|(with_reducible first|exact True.intro|refine And.intro ?_ ?_)))) <;> (try (conv=>lhs;whnf))⟩
   rcases Nat.lt_or_ge j i with h5|h5
   ·exact hall j h5
   ·rw [show j=i by omega]
    exact okAt_iff.2 ⟨ht,fun m h1 h2 h3 h4=>hin2 m (by omega) h2 h3 h4⟩
 ·rw [Bool.eq_iff_iff,roomOk_iff]
  simp only [decide_eq_true_eq]
  exact ⟨fun h=>⟨by omega,hpts,fun k hk=>hall k (by omega),h⟩,fun h=>h.2.2.2⟩
theorem fill_set {α:Type} (xs:List α) (z d:α) {k:Nat} (h:k < xs.length) :
  (xs.take k ++ List.replicate (xs.length - k) z).set k (xs.getD k d)=xs.take (k + 1) ++ List.replicate (xs.length - (k + 1)) z:=by
 rw [List.set_append_right _ _ (by simp;omega),List.take_succ_eq_append_getElem h,getD_lt _ h,List.append_assoc]
 congr 1
 rw [List.length_take,Nat.min_eq_left (by omega),Nat.sub_self,show xs.length - k=(xs.length - (k + 1)) + 1 by omega,List.replicate_succ]
 rfl
theorem fill_end {α:Type} (xs:List α) (z:α) {k:Nat} (h:xs.length≤k):xs.take k ++ List.replicate (xs.length - k) z=xs:=by
 rw [List.take_of_length_le h,show xs.length - k=0 by omega];simp
def szF (n:Int) (m:Nat):Int:=if n < m then -1 else n - m
theorem szF_neg1 (m:Nat):szF 1048576 m < 0↔1048576 < m:=by unfold szF;split <;> omega
theorem szF_nn (m:Nat):0≤szF 1048576 m↔m≤1048576:=by unfold szF;split <;> omega
theorem szF_hi1 (m:Nat):szF 1048576 m≤1048576↔True:=by unfold szF;split <;> simp;omega
theorem szF_neg2 (m n:Nat):szF (szF 1048576 m) n < 0↔1048576 < m + n:=by unfold szF;split <;> split <;> omega
def szC:Con:=mkCon [.sl (.b .pt),.int] (fun x=>x.1.length≤9223372036854775807∧0≤x.2.1∧x.2.1≤1048576) fun x=>vI (szF x.2.1 x.1.length)
theorem szPointS_ok:Good1 Tryz.prog n_laws_szPointS szC:=by
 refine good_ofG (tys:=tyL) (env:=[]) (envw:=[]) (envd:=[]) [] [] [] [] [] mixed tys trivial trivial trivial Tryz.func41 rfl (by kernel_rfl) (by decide) (by kernel_rfl) ?_
 have hG_:=kpz [(0,[0,1]),(1,[1]),(2,[1,10]),(3,[4]),(4,[4])] [] [] []
 rintro ⟨(xs:List Pt),(n:Int),⟨⟩⟩ ⟨(h1:xs.length≤_),(h2:0≤n),(h3:n≤_)⟩
 (repeat' (first|(with_reducible first|exact True.intro|refine zQ ?_|(refine zG hG_ ?_;intro K_ hK_)|(refine zR ?_;intro K_ hK_)|(refine hK_ _ _ ?_;try clear hK_ K_)|refine sq_n ?_|refine sq_r ?_|refine sq_e ?_|refine bq_n ?_|refine bq_r ?_|refine bq_q ?_|refine zB ?_|refine zX ?_|refine zT ?_|refine zK ?_|refine gq_n ?_|refine gq_r ?_|refine gq_e ?_|refine lq_n ?_|refine lq_r ?_|refine lq_e ?_|refine bq_e (by decide) ?_)|((with_reducible refine zC (b:=?b_) ?hb_ ?_ ?_);case hb_=>rfl)|((conv=>whnf);first|(with_reducible refine hK_ _ _ ?_;try clear hK_ K_)|(with_reducible refine fun (g_:Sl) (o_:Ow)=>?_)|(with_reducible first|exact True.intro|refine And.intro trivial ?_|refine And.intro ?_ ?_)|exact Nat.le_of_ble_eq_true rfl|exact Or.inl rfl|(intro h_;cases h_)|(intro h_;(try simp only [vS1] at h_))|rfl))) <;> (try (conv=>whnf)) <;> (try first|change (_:Int)≤_|change (_:Nat)≤_) <;> (try ((fail_if_success (with_reducible apply Exists.intro));(try dsimp only);(try simp only [vS1]))) <;> (try simp (disch:=omega) only [vS3,vS2] at *) <;> unfold szF <;> split <;> first|rfl|(exfalso;omega)
def szRC:Con:=mkCon [.room,.int] (fun x=>x.1.length≤9223372036854775807∧0≤x.2.1∧x.2.1≤1048576) fun x=>vI (szF x.2.1 x.1.length)
theorem szRoom_ok:Good1 Tryz.prog n_laws_szRoom szRC:=by
 refine good_ofG (tys:=tyL) (env:=[(n_laws_szPointS,szC)]) (envw:=[]) (envd:=[]) [] [] [] [] [] mixed tys ⟨szPointS_ok,trivial⟩ trivial trivial Tryz.func12 rfl (by kernel_rfl) (by decide) (by kernel_rfl) ?_
 have hG_:=kpz [(0,[1,2]),(1,[1]),(2,[1,10]),(3,[4]),(4,[4])] [] [] []
 rintro ⟨(xs:List Pt),(n:Int),⟨⟩⟩ ⟨(h1:xs.length≤_),(h2:0≤n),(h3:n≤_)⟩
 (repeat' (first|(with_reducible first|exact True.intro|refine zQ ?_|(refine zG hG_ ?_;intro K_ hK_)|(refine zR ?_;intro K_ hK_)|(refine hK_ _ _ ?_;try clear hK_ K_)|refine sq_n ?_|refine sq_r ?_|refine sq_e ?_|refine bq_n ?_|refine bq_r ?_|refine bq_q ?_|refine zB ?_|refine zX ?_|refine zT ?_|refine zK ?_|refine gq_n ?_|refine gq_r ?_|refine gq_e ?_|refine lq_n ?_|refine lq_r ?_|refine lq_e ?_|refine bq_e (by decide) ?_)|((with_reducible refine zC (b:=?b_) ?hb_ ?_ ?_);case hb_=>rfl)|((conv=>whnf);first|(with_reducible refine hK_ _ _ ?_;try clear hK_ K_)|(with_reducible refine fun (g_:Sl) (o_:Ow)=>?_)|(with_reducible first|exact True.intro|refine And.intro trivial ?_|refine And.intro ?_ ?_)|exact Nat.le_of_ble_eq_true rfl|exact Or.inl rfl|(intro h_;cases h_)|(intro h_;(try simp only [vS1] at h_))|rfl))) <;> (try (conv=>whnf)) <;> (try first|change (_:Int)≤_|change (_:Nat)≤_) <;> (try ((fail_if_success (with_reducible apply Exists.intro));(try dsimp only);(try simp only [vS1])))
 all_goals (try (fail_if_success (with_reducible apply Exists.intro));first|with_reducible assumption|omega|exact mdl (by omega)|exact ilo1 (by omega)|exact ilo2 (by omega)|exact ihi1 (by omega) (by omega)|exact ihi2 (by omega) (by omega))
 ·unfold szF at *;split at h_ <;> split <;> first|rfl|(exfalso;omega)
def eqPC:Con:=mkCon [.pt,.pt] (fun _=>True) fun x=>vB (decide (x.1=x.2.1))
theorem eqPoint_ok:Good1 Tryz.prog n_laws_eqPoint eqPC:=by
 refine good_ofG (tys:=tyL) (env:=[]) (envw:=[]) (envd:=[]) [] [] [] [] [] mixed tys trivial trivial trivial Tryz.func76 rfl (by kernel_rfl) (by decide) (by kernel_rfl) ?_
 have hG_:=kpz [(0,[2,3]),(1,[2,3,9]),(2,[4]),(3,[14]),(4,[4]),(5,[4])] [] [] []
 rintro ⟨⟨(a:Int),(b:Int)⟩,⟨(c:Int),(d:Int)⟩,⟨⟩⟩ _
 (repeat' (first|(with_reducible first|exact True.intro|refine zQ ?_|(refine zG hG_ ?_;intro K_ hK_)|(refine zR ?_;intro K_ hK_)|(refine hK_ _ _ ?_;try clear hK_ K_)|refine sq_n ?_|refine sq_r ?_|refine sq_e ?_|refine bq_n ?_|refine bq_r ?_|refine bq_q ?_|refine zB ?_|refine zX ?_|refine zT ?_|refine zK ?_|refine gq_n ?_|refine gq_r ?_|refine gq_e ?_|refine lq_n ?_|refine lq_r ?_|refine lq_e ?_|refine bq_e (by decide) ?_)|((with_reducible refine zC (b:=?b_) ?hb_ ?_ ?_);case hb_=>rfl)|((conv=>whnf);first|(with_reducible refine hK_ _ _ ?_;try clear hK_ K_)|(with_reducible refine fun (g_:Sl) (o_:Ow)=>?_)|(with_reducible first|exact True.intro|refine And.intro trivial ?_|refine And.intro ?_ ?_)|exact Nat.le_of_ble_eq_true rfl|exact Or.inl rfl|(intro h_;cases h_)|(intro h_;(try simp only [vS1] at h_))|rfl))) <;> (try (conv=>whnf)) <;> (try first|change (_:Int)≤_|change (_:Nat)≤_) <;> (try ((fail_if_success (with_reducible apply Exists.intro));(try dsimp only);(try simp only [vS1]))) <;> simp_all
def eqPsC:Con:=mkCon [.sl (.b .pt),.sl (.b .pt)] (fun x=>x.1.length≤1048576) fun x=>vB (decide (x.1=x.2.1))
theorem eqPointS_ok:Good1 Tryz.prog n_laws_eqPointS eqPsC:=by
 refine good_ofG (tys:=tyL) (env:=[(n_laws_eqPoint,eqPC)]) (envw:=[]) (envd:=[]) [] [] [] [] [] mixed tys ⟨eqPoint_ok,trivial⟩ trivial trivial Tryz.func49 rfl (by kernel_rfl) (by decide) (by kernel_rfl) ?_
 have hG_:=kpz [(0,[0,1]),(1,[0,1,10]),(2,[4]),(3,[0,1,5]),(4,[0,1,5,14]),(5,[0,1,5]),(6,[0,1,5,26]),(7,[4]),(8,[4])] [] [] []
 rintro ⟨(xs:List Pt),(ys:List Pt),⟨⟩⟩ (h1:xs.length≤_)
 (repeat' (first|(with_reducible first|exact True.intro|refine zQ ?_|(refine zG hG_ ?_;intro K_ hK_)|(refine zR ?_;intro K_ hK_)|(refine hK_ _ _ ?_;try clear hK_ K_)|refine sq_n ?_|refine sq_r ?_|refine sq_e ?_|refine bq_n ?_|refine bq_r ?_|refine bq_q ?_|refine zB ?_|refine zX ?_|refine zT ?_|refine zK ?_|refine gq_n ?_|refine gq_r ?_|refine gq_e ?_|refine lq_n ?_|refine lq_r ?_|refine lq_e ?_|refine bq_e (by decide) ?_)|((with_reducible refine zC (b:=?b_) ?hb_ ?_ ?_);case hb_=>rfl)|((conv=>whnf);first|(with_reducible refine hK_ _ _ ?_;try clear hK_ K_)|(with_reducible refine fun (g_:Sl) (o_:Ow)=>?_)|(with_reducible first|exact True.intro|refine And.intro trivial ?_|refine And.intro ?_ ?_)|exact Nat.le_of_ble_eq_true rfl|exact Or.inl rfl|(intro h_;cases h_)|(intro h_;(try simp only [vS1] at h_))|rfl))) <;> (try (conv=>whnf)) <;> (try first|change (_:Int)≤_|change (_:Nat)≤_) <;> (try ((fail_if_success (with_reducible apply Exists.intro));(try dsimp only);(try simp only [vS1]))) <;> (try simp (disch:=omega) only [vS3,vS2] at *)
 ·symm;rw [decide_eq_false_iff_not];rintro rfl;exact h_ rfl
 have hl:=h_
 refine awp'_loopG (α:=Nat) (fun k ver_=>[(5,vInt k)]) (fun k ver_=>[]) (fun k ver_=>[]) (fun k=>k≤xs.length∧∀ j,j < k→pAt xs j=pAt ys j) (fun k=>xs.length - k) [0,1] [] (0) ?_
 conv=>whnf
 refine ⟨⟨?inv1_,?vals1_,?own1_,?fix1_⟩,?body1_⟩
 case' vals1_=>(repeat' (first|(with_reducible first|exact True.intro|refine And.intro ?_ ?_|refine Head.mk ?_ ?_ ?_ ?_)|((conv=>lhs;whnf);first|(with_reducible first|rfl|exact vInt_s (by omega))|exact rfl)|((conv=>whnf);first|(with_reducible first|exact True.intro|refine And.intro ?_ ?_)))) <;> (try (conv=>lhs;whnf))
 case' own1_=>(repeat' (first|(with_reducible first|exact True.intro|refine And.intro ?_ ?_|refine Head.mk ?_ ?_ ?_ ?_)|((conv=>lhs;whnf);first|(with_reducible first|rfl|exact vInt_s (by omega))|exact rfl)|((conv=>whnf);first|(with_reducible first|exact True.intro|refine And.intro ?_ ?_)))) <;> (try (conv=>lhs;whnf))
 case' fix1_=>(repeat' (first|(with_reducible first|exact True.intro|refine And.intro ?_ ?_|refine Head.mk ?_ ?_ ?_ ?_)|((conv=>lhs;whnf);first|(with_reducible first|rfl|exact vInt_s (by omega))|exact rfl)|((conv=>whnf);first|(with_reducible first|exact True.intro|refine And.intro ?_ ?_)))) <;> (try (conv=>lhs;whnf))
 ·exact ⟨Nat.zero_le _,fun j hj=>absurd hj (by omega)⟩
 rintro k g_ o_ v_ ⟨hk,hall⟩
 (repeat' (first|(with_reducible first|exact True.intro|refine zQ ?_|(refine zG hG_ ?_;intro K_ hK_)|(refine zR ?_;intro K_ hK_)|(refine hK_ _ _ ?_;try clear hK_ K_)|refine sq_n ?_|refine sq_r ?_|refine sq_e ?_|refine bq_n ?_|refine bq_r ?_|refine bq_q ?_|refine zB ?_|refine zX ?_|refine zT ?_|refine zK ?_|refine gq_n ?_|refine gq_r ?_|refine gq_e ?_|refine lq_n ?_|refine lq_r ?_|refine lq_e ?_|refine bq_e (by decide) ?_)|((with_reducible refine zC (b:=?b_) ?hb_ ?_ ?_);case hb_=>rfl)|((conv=>whnf);first|(with_reducible refine hK_ _ _ ?_;try clear hK_ K_)|(with_reducible refine fun (g_:Sl) (o_:Ow)=>?_)|(with_reducible first|exact True.intro|refine And.intro trivial ?_|refine And.intro ?_ ?_)|exact Nat.le_of_ble_eq_true rfl|exact Or.inl rfl|(intro h_;cases h_)|(intro h_;(try simp only [vS1] at h_))|rfl))) <;> (try (conv=>whnf)) <;> (try first|change (_:Int)≤_|change (_:Nat)≤_) <;> (try ((fail_if_success (with_reducible apply Exists.intro));(try dsimp only);(try simp only [vS1]))) <;> (try simp (disch:=omega) only [vS3,vS2] at *)
 all_goals (try (fail_if_success (with_reducible apply Exists.intro));first|with_reducible assumption|omega|exact mdl (by omega)|exact ilo1 (by omega)|exact ilo2 (by omega)|exact ihi1 (by omega) (by omega)|exact ihi2 (by omega) (by omega))
 ·symm;rw [decide_eq_false_iff_not];rintro rfl;exact h_ rfl
 ·refine ⟨k + 1,by omega,⟨by omega,fun j hj=>?_⟩,by (repeat' (first|(with_reducible first|exact True.intro|refine And.intro ?_ ?_|refine Head.mk ?_ ?_ ?_ ?_)|((conv=>lhs;whnf);first|(with_reducible first|rfl|exact vInt_s (by omega))|exact rfl)|((conv=>whnf);first|(with_reducible first|exact True.intro|refine And.intro ?_ ?_)))) <;> (try (conv=>lhs;whnf))⟩
  rcases Nat.lt_or_ge j k with h5|h5
  ·exact hall j h5
  ·rw [show j=k by omega];assumption
 ·symm;rw [decide_eq_true_eq]
  refine List.ext_getElem hl fun j h1 h2=>?_
  have:=hall j (by omega)
  rwa [pAt,pAt,getD_lt _ h1,getD_lt _ h2] at this
def toPtC:Con:=mkCon [.pt] (fun _=>True) fun x=>.val (.agg (cPt x.1))
theorem toPoint_ok:Good1 Tryz.prog n_laws_toPoint toPtC:=by
 refine good_ofG (tys:=tyL) (env:=[]) (envw:=[]) (envd:=[]) [] [] [] [] [] mixed tys trivial trivial trivial Tryz.func75 rfl (by kernel_rfl) (by decide) (by kernel_rfl) ?_
 have hG_:=kpz [(0,[1,2]),(1,[1,2,3]),(2,[1,2,3]),(3,[2,3]),(4,[2])] [(0,[2]),(1,[2,3]),(2,[2,3]),(3,[2,3]),(4,[2])] [] []
 rintro ⟨⟨(a:Int),(b:Int)⟩,⟨⟩⟩ _
 (repeat' (first|(with_reducible first|exact True.intro|refine zQ ?_|(refine zG hG_ ?_;intro K_ hK_)|(refine zR ?_;intro K_ hK_)|(refine hK_ _ _ ?_;try clear hK_ K_)|refine sq_n ?_|refine sq_r ?_|refine sq_e ?_|refine bq_n ?_|refine bq_r ?_|refine bq_q ?_|refine zB ?_|refine zX ?_|refine zT ?_|refine zK ?_|refine gq_n ?_|refine gq_r ?_|refine gq_e ?_|refine lq_n ?_|refine lq_r ?_|refine lq_e ?_|refine bq_e (by decide) ?_)|((with_reducible refine zC (b:=?b_) ?hb_ ?_ ?_);case hb_=>rfl)|((conv=>whnf);first|(with_reducible refine hK_ _ _ ?_;try clear hK_ K_)|(with_reducible refine fun (g_:Sl) (o_:Ow)=>?_)|(with_reducible first|exact True.intro|refine And.intro trivial ?_|refine And.intro ?_ ?_)|exact Nat.le_of_ble_eq_true rfl|exact Or.inl rfl|(intro h_;cases h_)|(intro h_;(try simp only [vS1] at h_))|rfl))) <;> (try (conv=>whnf)) <;> (try first|change (_:Int)≤_|change (_:Nat)≤_)
def toPsC:Con:=mkCon [.sl (.b .pt)] (fun x=>x.1.length≤1048576) fun x=>⟨.one (.own 0 0),some ⟨t_impl_Point,none,.b .pt,x.1⟩⟩
theorem toPointS_ok:Good1 Tryz.prog n_laws_toPointS toPsC:=by
 refine good_ofG (tys:=tyL) (env:=[(n_laws_toPoint,toPtC)]) (envw:=[]) (envd:=[]) [] [] [] [] [] mixed tys ⟨toPoint_ok,trivial⟩ trivial trivial Tryz.func46 rfl (by kernel_rfl) (by decide) (by kernel_rfl) ?_
 have hG_:=kpz [(0,[0]),(1,[0,3]),(2,[0,3,4]),(3,[0,3,4,11]),(4,[0,3,4]),(5,[0,3,4]),(6,[2])] [(1,[7]),(2,[7]),(3,[7]),(4,[7]),(5,[7]),(6,[7])] [] []
 rintro ⟨(xs:List Pt),⟨⟩⟩ (h1:xs.length≤_)
 (repeat' (first|(with_reducible first|exact True.intro|refine zQ ?_|(refine zG hG_ ?_;intro K_ hK_)|(refine zR ?_;intro K_ hK_)|(refine hK_ _ _ ?_;try clear hK_ K_)|refine sq_n ?_|refine sq_r ?_|refine sq_e ?_|refine bq_n ?_|refine bq_r ?_|refine bq_q ?_|refine zB ?_|refine zX ?_|refine zT ?_|refine zK ?_|refine gq_n ?_|refine gq_r ?_|refine gq_e ?_|refine lq_n ?_|refine lq_r ?_|refine lq_e ?_|refine bq_e (by decide) ?_)|((with_reducible refine zC (b:=?b_) ?hb_ ?_ ?_);case hb_=>rfl)|((conv=>whnf);first|(with_reducible refine hK_ _ _ ?_;try clear hK_ K_)|(with_reducible refine fun (g_:Sl) (o_:Ow)=>?_)|(with_reducible first|exact True.intro|refine And.intro trivial ?_|refine And.intro ?_ ?_)|exact Nat.le_of_ble_eq_true rfl|exact Or.inl rfl|(intro h_;cases h_)|(intro h_;(try simp only [vS1] at h_))|rfl))) <;> (try (conv=>whnf)) <;> (try first|change (_:Int)≤_|change (_:Nat)≤_) <;> (try ((fail_if_success (with_reducible apply Exists.intro));(try dsimp only);(try simp only [vS1])))
 all_goals (try (fail_if_success (with_reducible apply Exists.intro));first|with_reducible assumption|omega|exact mdl (by omega)|exact ilo1 (by omega)|exact ilo2 (by omega)|exact ihi1 (by omega) (by omega)|exact ihi2 (by omega) (by omega))
 refine awp'_loopG (α:=Nat) (fun k ver_=>[(4,vInt k)]) (fun k ver_=>[(3,7,false,.row t_impl_Point (.b .pt) (xs.take k ++ List.replicate (xs.length - k) (0,0)))]) (fun k ver_=>[]) (fun k=>k≤xs.length) (fun k=>xs.length - k) [0] [] (0) ?_
 conv=>whnf
 refine ⟨⟨?inv2_,?vals2_,?own2_,?fix2_⟩,?body2_⟩
 case' vals2_=>(repeat' (first|(with_reducible first|exact True.intro|refine And.intro ?_ ?_|refine Head.mk ?_ ?_ ?_ ?_)|((conv=>lhs;whnf);first|(with_reducible first|rfl|exact vInt_s (by omega))|exact rfl)|((conv=>whnf);first|(with_reducible first|exact True.intro|refine And.intro ?_ ?_)))) <;> (try (conv=>lhs;whnf))
 case' own2_=>(repeat' (first|(with_reducible first|exact True.intro|refine And.intro ?_ ?_|refine Head.mk ?_ ?_ ?_ ?_)|((conv=>lhs;whnf);first|(with_reducible first|rfl|exact vInt_s (by omega))|exact rfl)|((conv=>whnf);first|(with_reducible first|exact True.intro|refine And.intro ?_ ?_)))) <;> (try (conv=>lhs;whnf))
 case' fix2_=>(repeat' (first|(with_reducible first|exact True.intro|refine And.intro ?_ ?_|refine Head.mk ?_ ?_ ?_ ?_)|((conv=>lhs;whnf);first|(with_reducible first|rfl|exact vInt_s (by omega))|exact rfl)|((conv=>whnf);first|(with_reducible first|exact True.intro|refine And.intro ?_ ?_)))) <;> (try (conv=>lhs;whnf))
 ·exact Nat.zero_le _
 rintro k g_ o_ v_ hk
 (repeat' (first|(with_reducible first|exact True.intro|refine zQ ?_|(refine zG hG_ ?_;intro K_ hK_)|(refine zR ?_;intro K_ hK_)|(refine hK_ _ _ ?_;try clear hK_ K_)|refine sq_n ?_|refine sq_r ?_|refine sq_e ?_|refine bq_n ?_|refine bq_r ?_|refine bq_q ?_|refine zB ?_|refine zX ?_|refine zT ?_|refine zK ?_|refine gq_n ?_|refine gq_r ?_|refine gq_e ?_|refine lq_n ?_|refine lq_r ?_|refine lq_e ?_|refine bq_e (by decide) ?_)|((with_reducible refine zC (b:=?b_) ?hb_ ?_ ?_);case hb_=>rfl)|((conv=>whnf);first|(with_reducible refine hK_ _ _ ?_;try clear hK_ K_)|(with_reducible refine fun (g_:Sl) (o_:Ow)=>?_)|(with_reducible first|exact True.intro|refine And.intro trivial ?_|refine And.intro ?_ ?_)|exact Nat.le_of_ble_eq_true rfl|exact Or.inl rfl|(intro h_;cases h_)|(intro h_;(try simp only [vS1] at h_))|rfl))) <;> (try (conv=>whnf)) <;> (try first|change (_:Int)≤_|change (_:Nat)≤_) <;> (try ((fail_if_success (with_reducible apply Exists.intro));(try dsimp only);(try simp only [vS1]))) <;> (try simp (disch:=omega) only [vS3,vS2] at *)
 all_goals (try (fail_if_success (with_reducible apply Exists.intro));first|with_reducible assumption|omega|exact mdl (by omega)|exact ilo1 (by omega)|exact ilo2 (by omega)|exact ihi1 (by omega) (by omega)|exact ihi2 (by omega) (by omega))
 ·refine ⟨k + 1,by omega,by omega,?_⟩
  (repeat' (first|(with_reducible first|exact True.intro|refine And.intro ?_ ?_|refine Head.mk ?_ ?_ ?_ ?_)|((conv=>lhs;whnf);first|(with_reducible first|rfl|exact vInt_s (by omega))|exact rfl)|((conv=>whnf);first|(with_reducible first|exact True.intro|refine And.intro ?_ ?_)))) <;> (try (conv=>lhs;whnf))
  exact congrArg (Own.row _ _) (fill_set xs _ _ h_)
 ·exact congrArg some (fill_end xs _ (by omega))
def toRoomC:Con:=mkCon [.room] (fun x=>x.1.length≤1048576) fun x=>⟨.agg [.own 0 0],some ⟨t_impl_Point,none,.b .pt,x.1⟩⟩
theorem toRoom_ok:Good1 Tryz.prog n_laws_toRoom toRoomC:=by
 refine good_ofG (tys:=tyL) (env:=[(n_laws_toPointS,toPsC)]) (envw:=[]) (envd:=[]) [6] [] [] [] [] mixed tys ⟨toPointS_ok,trivial⟩ trivial trivial Tryz.func15 rfl (by kernel_rfl) (by decide) (by kernel_rfl) ?_
 have hG_:=kpz [(0,[1,2]),(1,[1,2,3]),(2,[2,3]),(3,[2])] [(0,[2]),(1,[2,3]),(2,[2,3,6]),(3,[2,6])] [] []
 rintro ⟨(xs:List Pt),⟨⟩⟩ (h1:xs.length≤_)
 (repeat' (first|(with_reducible first|exact True.intro|refine zQ ?_|(refine zG hG_ ?_;intro K_ hK_)|(refine zR ?_;intro K_ hK_)|(refine hK_ _ _ ?_;try clear hK_ K_)|refine sq_n ?_|refine sq_r ?_|refine sq_e ?_|refine bq_n ?_|refine bq_r ?_|refine bq_q ?_|refine zB ?_|refine zX ?_|refine zT ?_|refine zK ?_|refine gq_n ?_|refine gq_r ?_|refine gq_e ?_|refine lq_n ?_|refine lq_r ?_|refine lq_e ?_|refine bq_e (by decide) ?_)|((with_reducible refine zC (b:=?b_) ?hb_ ?_ ?_);case hb_=>rfl)|((conv=>whnf);first|(with_reducible refine hK_ _ _ ?_;try clear hK_ K_)|(with_reducible refine fun (g_:Sl) (o_:Ow)=>?_)|(with_reducible first|exact True.intro|refine And.intro trivial ?_|refine And.intro ?_ ?_)|exact Nat.le_of_ble_eq_true rfl|exact Or.inl rfl|(intro h_;cases h_)|(intro h_;(try simp only [vS1] at h_))|rfl))) <;> (try (conv=>whnf)) <;> (try first|change (_:Int)≤_|change (_:Nat)≤_) <;> (try ((fail_if_success (with_reducible apply Exists.intro));(try dsimp only);(try simp only [vS1])))
 all_goals (try (fail_if_success (with_reducible apply Exists.intro));first|with_reducible assumption|omega|exact mdl (by omega)|exact ilo1 (by omega)|exact ilo2 (by omega)|exact ihi1 (by omega) (by omega)|exact ihi2 (by omega) (by omega))
abbrev Tri:=Int × Int × Int
abbrev pI (xs:List Pt) (k:Int):Pt:=xs.getD k.toNat (0,0)
def eqRC:Con:=mkCon [.room,.room] (fun x=>x.1.length≤1048576) fun x=>vB (decide (x.1=x.2.1))
theorem eqRoom_ok:Good1 Tryz.prog n_laws_eqRoom eqRC:=by
 refine good_ofG (tys:=tyL) (env:=[(n_laws_eqPointS,eqPsC)]) (envw:=[]) (envd:=[]) [] [] [] [] [] mixed tys ⟨eqPointS_ok,trivial⟩ trivial trivial Tryz.func18 rfl (by kernel_rfl) (by decide) (by kernel_rfl) ?_
 have hG_:=kpz [(0,[2,3]),(1,[10]),(2,[4]),(3,[4])] [] [] []
 rintro ⟨(xs:List Pt),(ys:List Pt),⟨⟩⟩ (h1:xs.length≤_)
 (repeat' (first|(with_reducible first|exact True.intro|refine zQ ?_|(refine zG hG_ ?_;intro K_ hK_)|(refine zR ?_;intro K_ hK_)|(refine hK_ _ _ ?_;try clear hK_ K_)|refine sq_n ?_|refine sq_r ?_|refine sq_e ?_|refine bq_n ?_|refine bq_r ?_|refine bq_q ?_|refine zB ?_|refine zX ?_|refine zT ?_|refine zK ?_|refine gq_n ?_|refine gq_r ?_|refine gq_e ?_|refine lq_n ?_|refine lq_r ?_|refine lq_e ?_|refine bq_e (by decide) ?_)|((with_reducible refine zC (b:=?b_) ?hb_ ?_ ?_);case hb_=>rfl)|((conv=>whnf);first|(with_reducible refine hK_ _ _ ?_;try clear hK_ K_)|(with_reducible refine fun (g_:Sl) (o_:Ow)=>?_)|(with_reducible first|exact True.intro|refine And.intro trivial ?_|refine And.intro ?_ ?_)|exact Nat.le_of_ble_eq_true rfl|exact Or.inl rfl|(intro h_;cases h_)|(intro h_;(try simp only [vS1] at h_))|rfl))) <;> (try (conv=>whnf)) <;> (try first|change (_:Int)≤_|change (_:Nat)≤_) <;> (try ((fail_if_success (with_reducible apply Exists.intro));(try dsimp only);(try simp only [vS1])))
 all_goals (try (fail_if_success (with_reducible apply Exists.intro));first|with_reducible assumption|omega|exact mdl (by omega)|exact ilo1 (by omega)|exact ilo2 (by omega)|exact ihi1 (by omega) (by omega)|exact ihi2 (by omega) (by omega))
 all_goals (simp_all)
def inTri (a b c p:Pt):Bool:=decide (0≤turn a b p) && (decide (0≤turn b c p) && decide (0≤turn c a p))
def rot {α:Type} (xs:List α) (k:Nat):List α:=xs.drop k ++ xs.take k
theorem find_none {n:Nat} {f:Nat→Bool} (h:∀ j,j < n→f j=false):(List.range n).find? f=none:=by
 rw [List.find?_eq_none];intro x hx;rw [h x (List.mem_range.1 hx)];decide
theorem find_some {n k:Nat} {f:Nat→Bool} (hk:k < n) (h:∀ j,j < k→f j=false) (hf:f k=true):(List.range n).find? f=some k:=by
 rw [List.find?_eq_some_iff_getElem]
 refine ⟨hf,k,by simpa using hk,by simp,fun j hj=>?_⟩
 simp [h j hj]
def toIsC:Con:=mkCon [.sl (.b .int)] (fun x=>x.1.length≤1048576) fun x=>⟨.one (.own 0 0),some ⟨t_int,none,.b .int,x.1⟩⟩
theorem toIntS_ok:Good1 Tryz.prog n_laws_toIntS toIsC:=by
 refine good_ofG (tys:=tyL) (env:=[]) (envw:=[]) (envd:=[]) [] [] [] [] [] mixed tys trivial trivial trivial Tryz.func47 rfl (by kernel_rfl) (by decide) (by kernel_rfl) ?_
 have hG_:=kpz [(0,[0]),(1,[0,3]),(2,[0,3,4]),(3,[0,3,4,11]),(4,[0,3,4]),(5,[0,3,4]),(6,[2])] [(1,[7]),(2,[7]),(3,[7]),(4,[7]),(5,[7]),(6,[7])] [] []
 rintro ⟨(xs:List Int),⟨⟩⟩ (h1:xs.length≤_)
 (repeat' (first|(with_reducible first|exact True.intro|refine zQ ?_|(refine zG hG_ ?_;intro K_ hK_)|(refine zR ?_;intro K_ hK_)|(refine hK_ _ _ ?_;try clear hK_ K_)|refine sq_n ?_|refine sq_r ?_|refine sq_e ?_|refine bq_n ?_|refine bq_r ?_|refine bq_q ?_|refine zB ?_|refine zX ?_|refine zT ?_|refine zK ?_|refine gq_n ?_|refine gq_r ?_|refine gq_e ?_|refine lq_n ?_|refine lq_r ?_|refine lq_e ?_|refine bq_e (by decide) ?_)|((with_reducible refine zC (b:=?b_) ?hb_ ?_ ?_);case hb_=>rfl)|((conv=>whnf);first|(with_reducible refine hK_ _ _ ?_;try clear hK_ K_)|(with_reducible refine fun (g_:Sl) (o_:Ow)=>?_)|(with_reducible first|exact True.intro|refine And.intro trivial ?_|refine And.intro ?_ ?_)|exact Nat.le_of_ble_eq_true rfl|exact Or.inl rfl|(intro h_;cases h_)|(intro h_;(try simp only [vS1] at h_))|rfl))) <;> (try (conv=>whnf)) <;> (try first|change (_:Int)≤_|change (_:Nat)≤_) <;> (try ((fail_if_success (with_reducible apply Exists.intro));(try dsimp only);(try simp only [vS1])))
 all_goals (try (fail_if_success (with_reducible apply Exists.intro));first|with_reducible assumption|omega|exact mdl (by omega)|exact ilo1 (by omega)|exact ilo2 (by omega)|exact ihi1 (by omega) (by omega)|exact ihi2 (by omega) (by omega))
 refine awp'_loopG (α:=Nat) (fun k ver_=>[(4,vInt k)]) (fun k ver_=>[(3,7,false,.row t_int (.b .int) (xs.take k ++ List.replicate (xs.length - k) 0))]) (fun k ver_=>[]) (fun k=>k≤xs.length) (fun k=>xs.length - k) [0] [] (0) ?_
 conv=>whnf
 refine ⟨⟨?inv1_,?vals1_,?own1_,?fix1_⟩,?body1_⟩
 case' vals1_=>(repeat' (first|(with_reducible first|exact True.intro|refine And.intro ?_ ?_|refine Head.mk ?_ ?_ ?_ ?_)|((conv=>lhs;whnf);first|(with_reducible first|rfl|exact vInt_s (by omega))|exact rfl)|((conv=>whnf);first|(with_reducible first|exact True.intro|refine And.intro ?_ ?_)))) <;> (try (conv=>lhs;whnf))
 case' own1_=>(repeat' (first|(with_reducible first|exact True.intro|refine And.intro ?_ ?_|refine Head.mk ?_ ?_ ?_ ?_)|((conv=>lhs;whnf);first|(with_reducible first|rfl|exact vInt_s (by omega))|exact rfl)|((conv=>whnf);first|(with_reducible first|exact True.intro|refine And.intro ?_ ?_)))) <;> (try (conv=>lhs;whnf))
 case' fix1_=>(repeat' (first|(with_reducible first|exact True.intro|refine And.intro ?_ ?_|refine Head.mk ?_ ?_ ?_ ?_)|((conv=>lhs;whnf);first|(with_reducible first|rfl|exact vInt_s (by omega))|exact rfl)|((conv=>whnf);first|(with_reducible first|exact True.intro|refine And.intro ?_ ?_)))) <;> (try (conv=>lhs;whnf))
 ·exact Nat.zero_le _
 rintro k g_ o_ v_ hk
 (repeat' (first|(with_reducible first|exact True.intro|refine zQ ?_|(refine zG hG_ ?_;intro K_ hK_)|(refine zR ?_;intro K_ hK_)|(refine hK_ _ _ ?_;try clear hK_ K_)|refine sq_n ?_|refine sq_r ?_|refine sq_e ?_|refine bq_n ?_|refine bq_r ?_|refine bq_q ?_|refine zB ?_|refine zX ?_|refine zT ?_|refine zK ?_|refine gq_n ?_|refine gq_r ?_|refine gq_e ?_|refine lq_n ?_|refine lq_r ?_|refine lq_e ?_|refine bq_e (by decide) ?_)|((with_reducible refine zC (b:=?b_) ?hb_ ?_ ?_);case hb_=>rfl)|((conv=>whnf);first|(with_reducible refine hK_ _ _ ?_;try clear hK_ K_)|(with_reducible refine fun (g_:Sl) (o_:Ow)=>?_)|(with_reducible first|exact True.intro|refine And.intro trivial ?_|refine And.intro ?_ ?_)|exact Nat.le_of_ble_eq_true rfl|exact Or.inl rfl|(intro h_;cases h_)|(intro h_;(try simp only [vS1] at h_))|rfl))) <;> (try (conv=>whnf)) <;> (try first|change (_:Int)≤_|change (_:Nat)≤_) <;> (try ((fail_if_success (with_reducible apply Exists.intro));(try dsimp only);(try simp only [vS1]))) <;> (try simp (disch:=omega) only [vS3,vS2] at *)
 all_goals (try (fail_if_success (with_reducible apply Exists.intro));first|with_reducible assumption|omega|exact mdl (by omega)|exact ilo1 (by omega)|exact ilo2 (by omega)|exact ihi1 (by omega) (by omega)|exact ihi2 (by omega) (by omega))
 ·refine ⟨k + 1,by omega,by omega,?_⟩
  (repeat' (first|(with_reducible first|exact True.intro|refine And.intro ?_ ?_|refine Head.mk ?_ ?_ ?_ ?_)|((conv=>lhs;whnf);first|(with_reducible first|rfl|exact vInt_s (by omega))|exact rfl)|((conv=>whnf);first|(with_reducible first|exact True.intro|refine And.intro ?_ ?_)))) <;> (try (conv=>lhs;whnf))
  exact congrArg (Own.row _ _) (fill_set xs _ _ h_)
 ·exact congrArg some (fill_end xs _ (by omega))
def eqIsC:Con:=mkCon [.sl (.b .int),.sl (.b .int)] (fun x=>x.1.length≤1048576) fun x=>vB (decide (x.1=x.2.1))
theorem eqIntS_ok:Good1 Tryz.prog n_laws_eqIntS eqIsC:=by
 refine good_ofG (tys:=tyL) (env:=[]) (envw:=[]) (envd:=[]) [] [] [] [] [] mixed tys trivial trivial trivial Tryz.func48 rfl (by kernel_rfl) (by decide) (by kernel_rfl) ?_
 have hG_:=kpz [(0,[0,1]),(1,[0,1,10]),(2,[4]),(3,[0,1,5]),(4,[0,1,5,14]),(5,[0,1,5]),(6,[0,1,5,25]),(7,[4]),(8,[4])] [] [] []
 rintro ⟨(xs:List Int),(ys:List Int),⟨⟩⟩ (h1:xs.length≤_)
 (repeat' (first|(with_reducible first|exact True.intro|refine zQ ?_|(refine zG hG_ ?_;intro K_ hK_)|(refine zR ?_;intro K_ hK_)|(refine hK_ _ _ ?_;try clear hK_ K_)|refine sq_n ?_|refine sq_r ?_|refine sq_e ?_|refine bq_n ?_|refine bq_r ?_|refine bq_q ?_|refine zB ?_|refine zX ?_|refine zT ?_|refine zK ?_|refine gq_n ?_|refine gq_r ?_|refine gq_e ?_|refine lq_n ?_|refine lq_r ?_|refine lq_e ?_|refine bq_e (by decide) ?_)|((with_reducible refine zC (b:=?b_) ?hb_ ?_ ?_);case hb_=>rfl)|((conv=>whnf);first|(with_reducible refine hK_ _ _ ?_;try clear hK_ K_)|(with_reducible refine fun (g_:Sl) (o_:Ow)=>?_)|(with_reducible first|exact True.intro|refine And.intro trivial ?_|refine And.intro ?_ ?_)|exact Nat.le_of_ble_eq_true rfl|exact Or.inl rfl|(intro h_;cases h_)|(intro h_;(try simp only [vS1] at h_))|rfl))) <;> (try (conv=>whnf)) <;> (try first|change (_:Int)≤_|change (_:Nat)≤_) <;> (try ((fail_if_success (with_reducible apply Exists.intro));(try dsimp only);(try simp only [vS1]))) <;> (try simp (disch:=omega) only [vS3,vS2] at *)
 ·symm;rw [decide_eq_false_iff_not];rintro rfl;exact h_ rfl
 have hl:=h_
 refine awp'_loopG (α:=Nat) (fun k ver_=>[(5,vInt k)]) (fun k ver_=>[]) (fun k ver_=>[]) (fun k=>k≤xs.length∧∀ j,j < k→xs.getD j 0=ys.getD j 0) (fun k=>xs.length - k) [0,1] [] (0) ?_
 conv=>whnf
 refine ⟨⟨?inv2_,?vals2_,?own2_,?fix2_⟩,?body2_⟩
 case' vals2_=>(repeat' (first|(with_reducible first|exact True.intro|refine And.intro ?_ ?_|refine Head.mk ?_ ?_ ?_ ?_)|((conv=>lhs;whnf);first|(with_reducible first|rfl|exact vInt_s (by omega))|exact rfl)|((conv=>whnf);first|(with_reducible first|exact True.intro|refine And.intro ?_ ?_)))) <;> (try (conv=>lhs;whnf))
 case' own2_=>(repeat' (first|(with_reducible first|exact True.intro|refine And.intro ?_ ?_|refine Head.mk ?_ ?_ ?_ ?_)|((conv=>lhs;whnf);first|(with_reducible first|rfl|exact vInt_s (by omega))|exact rfl)|((conv=>whnf);first|(with_reducible first|exact True.intro|refine And.intro ?_ ?_)))) <;> (try (conv=>lhs;whnf))
 case' fix2_=>(repeat' (first|(with_reducible first|exact True.intro|refine And.intro ?_ ?_|refine Head.mk ?_ ?_ ?_ ?_)|((conv=>lhs;whnf);first|(with_reducible first|rfl|exact vInt_s (by omega))|exact rfl)|((conv=>whnf);first|(with_reducible first|exact True.intro|refine And.intro ?_ ?_)))) <;> (try (conv=>lhs;whnf))
 ·exact ⟨Nat.zero_le _,fun j hj=>absurd hj (by omega)⟩
 rintro k g_ o_ v_ ⟨hk,hall⟩
 (repeat' (first|(with_reducible first|exact True.intro|refine zQ ?_|(refine zG hG_ ?_;intro K_ hK_)|(refine zR ?_;intro K_ hK_)|(refine hK_ _ _ ?_;try clear hK_ K_)|refine sq_n ?_|refine sq_r ?_|refine sq_e ?_|refine bq_n ?_|refine bq_r ?_|refine bq_q ?_|refine zB ?_|refine zX ?_|refine zT ?_|refine zK ?_|refine gq_n ?_|refine gq_r ?_|refine gq_e ?_|refine lq_n ?_|refine lq_r ?_|refine lq_e ?_|refine bq_e (by decide) ?_)|((with_reducible refine zC (b:=?b_) ?hb_ ?_ ?_);case hb_=>rfl)|((conv=>whnf);first|(with_reducible refine hK_ _ _ ?_;try clear hK_ K_)|(with_reducible refine fun (g_:Sl) (o_:Ow)=>?_)|(with_reducible first|exact True.intro|refine And.intro trivial ?_|refine And.intro ?_ ?_)|exact Nat.le_of_ble_eq_true rfl|exact Or.inl rfl|(intro h_;cases h_)|(intro h_;(try simp only [vS1] at h_))|rfl))) <;> (try (conv=>whnf)) <;> (try first|change (_:Int)≤_|change (_:Nat)≤_) <;> (try ((fail_if_success (with_reducible apply Exists.intro));(try dsimp only);(try simp only [vS1]))) <;> (try simp (disch:=omega) only [vS3,vS2] at *)
 all_goals (try (fail_if_success (with_reducible apply Exists.intro));first|with_reducible assumption|omega|exact mdl (by omega)|exact ilo1 (by omega)|exact ilo2 (by omega)|exact ihi1 (by omega) (by omega)|exact ihi2 (by omega) (by omega))
 ·symm;rw [decide_eq_false_iff_not];rintro rfl;exact absurd rfl (by assumption)
 ·refine ⟨k + 1,by omega,⟨by omega,fun j hj=>?_⟩,by (repeat' (first|(with_reducible first|exact True.intro|refine And.intro ?_ ?_|refine Head.mk ?_ ?_ ?_ ?_)|((conv=>lhs;whnf);first|(with_reducible first|rfl|exact vInt_s (by omega))|exact rfl)|((conv=>whnf);first|(with_reducible first|exact True.intro|refine And.intro ?_ ?_)))) <;> (try (conv=>lhs;whnf))⟩
  rcases Nat.lt_or_ge j k with h5|h5
  ·exact hall j h5
  ·rw [show j=k by omega];assumption
 ·symm;rw [decide_eq_true_eq]
  refine List.ext_getElem hl fun j h1 h2=>?_
  have:=hall j (by omega)
  rwa [getD_lt _ h1,getD_lt _ h2] at this
def marks (k:Int):Nat→List Pt
 | 0=>[]
 | n + 1=>(k,k + 1) :: marks (k + 2) n
theorem marks_len:∀ (n:Nat) (k:Int),(marks k n).length=n
 | 0,_=>rfl
 | n + 1,k=>by simp [marks,marks_len n]
theorem marks_get:∀ {n j:Nat} (k:Int),j < n→(marks k n).getD j (0,0)=(k + 2 * j,k + 2 * j + 1)
 | n + 1,0,k,_=>by simp [marks]
 | n + 1,j + 1,k,h=>by
  have:=marks_get (n:=n) (j:=j) (k + 2) (by omega)
  simp only [marks,List.getD_cons_succ,this,Prod.mk.injEq]
  omega
theorem mix_set {α:Type} {xs ys:List α} {k:Nat} (h:k < xs.length) (hl:xs.length=ys.length) (d:α):(ys.take k ++ xs.drop k).set k (ys.getD k d)=ys.take (k + 1) ++ xs.drop (k + 1):=by
 rw [List.set_append_right _ _ (by simp;omega),List.take_succ_eq_append_getElem (by omega),getD_lt _ (by omega),List.append_assoc]
 congr 1
 rw [List.length_take,Nat.min_eq_left (by omega),Nat.sub_self,List.drop_eq_getElem_cons h]
 rfl
theorem getD_set_self {α:Type} {xs:List α} {k:Nat} {x d:α} (h:k < xs.length):(xs.set k x).getD k d=x:=by simp [List.getD,h]
def markPsC:ConW:=mkConW [.sl (.b .pt),.int] 0 t_impl_Point (fun x=>x.1.length≤1048576∧0≤x.2.1∧x.2.1≤1073741824) (fun x=>vInt (x.2.1 + 2 * x.1.length)) fun x=>⟨.b .pt,marks x.2.1 x.1.length,false⟩
theorem markPointS_ok:GoodW Tryz.prog n_laws_markPointS markPsC:=by
 refine good_ofW (tys:=tyL) (env:=[]) (envw:=[]) (envd:=[]) [] [] [] [] [] mixed tys trivial trivial trivial Tryz.func50 rfl (by kernel_rfl) (by decide) (by kernel_rfl) ?_
 have hG_:=kpz [(0,[0,1]),(1,[0,1,5]),(2,[0,1,5,9]),(3,[0,1,5]),(4,[0,1,5]),(5,[0,1,5]),(6,[0,1,5]),(7,[0,1,5]),(8,[4])] [(0,[1000]),(1,[1000]),(2,[1000]),(3,[1000]),(4,[1000]),(5,[1000]),(6,[1000]),(7,[1000]),(8,[1000])] [] []
 rintro ⟨(xs:List Pt),(n:Int),⟨⟩⟩ ⟨(h1:xs.length≤_),(h2:0≤n),(h3:n≤_)⟩
 (repeat' (first|(with_reducible first|exact True.intro|refine zQ ?_|(refine zG hG_ ?_;intro K_ hK_)|(refine zR ?_;intro K_ hK_)|(refine hK_ _ _ ?_;try clear hK_ K_)|refine sq_n ?_|refine sq_r ?_|refine sq_e ?_|refine bq_n ?_|refine bq_r ?_|refine bq_q ?_|refine zB ?_|refine zX ?_|refine zT ?_|refine zK ?_|refine gq_n ?_|refine gq_r ?_|refine gq_e ?_|refine lq_n ?_|refine lq_r ?_|refine lq_e ?_|refine bq_e (by decide) ?_)|((with_reducible refine zC (b:=?b_) ?hb_ ?_ ?_);case hb_=>rfl)|((conv=>whnf);first|(with_reducible refine hK_ _ _ ?_;try clear hK_ K_)|(with_reducible refine fun (g_:Sl) (o_:Ow)=>?_)|(with_reducible first|exact True.intro|refine And.intro trivial ?_|refine And.intro ?_ ?_)|exact Nat.le_of_ble_eq_true rfl|exact Or.inl rfl|(intro h_;cases h_)|(intro h_;(try simp only [vS1] at h_))|rfl))) <;> (try (conv=>whnf)) <;> (try first|change (_:Int)≤_|change (_:Nat)≤_) <;> (try ((fail_if_success (with_reducible apply Exists.intro));(try dsimp only);(try simp only [vS1]))) <;> (try simp (disch:=omega) only [vS3,vS2] at *)
 refine awp'_loopG (α:=Nat) (fun k ver_=>[(5,vInt k),(1,vInt (n + 2 * k))]) (fun k ver_=>[]) (fun k ver_=>[(1000,⟨0,.row t_impl_Point (.b .pt) ((marks n xs.length).take k ++ xs.drop k)⟩)]) (fun k=>k≤xs.length) (fun k=>xs.length - k) [0] [] (0) ?_
 conv=>whnf
 refine ⟨⟨?inv1_,?vals1_,?own1_,?fix1_⟩,?body1_⟩
 case' vals1_=>(repeat' (first|(with_reducible first|exact True.intro|refine And.intro ?_ ?_|refine Head.mk ?_ ?_ ?_ ?_)|((conv=>lhs;whnf);first|(with_reducible first|rfl|exact vInt_s (by omega))|exact rfl)|((conv=>whnf);first|(with_reducible first|exact True.intro|refine And.intro ?_ ?_)))) <;> (try (conv=>lhs;whnf))
 case' own1_=>(repeat' (first|(with_reducible first|exact True.intro|refine And.intro ?_ ?_|refine Head.mk ?_ ?_ ?_ ?_)|((conv=>lhs;whnf);first|(with_reducible first|rfl|exact vInt_s (by omega))|exact rfl)|((conv=>whnf);first|(with_reducible first|exact True.intro|refine And.intro ?_ ?_)))) <;> (try (conv=>lhs;whnf))
 case' fix1_=>(repeat' (first|(with_reducible first|exact True.intro|refine And.intro ?_ ?_|refine Head.mk ?_ ?_ ?_ ?_)|((conv=>lhs;whnf);first|(with_reducible first|rfl|exact vInt_s (by omega))|exact rfl)|((conv=>whnf);first|(with_reducible first|exact True.intro|refine And.intro ?_ ?_)))) <;> (try (conv=>lhs;whnf))
 ·exact congrArg vInt (by simp)
 ·exact Nat.zero_le _
 rintro k g_ o_ v_ hk
 have hml:=marks_len xs.length n
 (repeat' (first|(with_reducible first|exact True.intro|refine zQ ?_|(refine zG hG_ ?_;intro K_ hK_)|(refine zR ?_;intro K_ hK_)|(refine hK_ _ _ ?_;try clear hK_ K_)|refine sq_n ?_|refine sq_r ?_|refine sq_e ?_|refine bq_n ?_|refine bq_r ?_|refine bq_q ?_|refine zB ?_|refine zX ?_|refine zT ?_|refine zK ?_|refine gq_n ?_|refine gq_r ?_|refine gq_e ?_|refine lq_n ?_|refine lq_r ?_|refine lq_e ?_|refine bq_e (by decide) ?_)|((with_reducible refine zC (b:=?b_) ?hb_ ?_ ?_);case hb_=>rfl)|((conv=>whnf);first|(with_reducible refine hK_ _ _ ?_;try clear hK_ K_)|(with_reducible refine fun (g_:Sl) (o_:Ow)=>?_)|(with_reducible first|exact True.intro|refine And.intro trivial ?_|refine And.intro ?_ ?_)|exact Nat.le_of_ble_eq_true rfl|exact Or.inl rfl|(intro h_;cases h_)|(intro h_;(try simp only [vS1] at h_))|rfl))) <;> (try (conv=>whnf)) <;> (try first|change (_:Int)≤_|change (_:Nat)≤_) <;> (try ((fail_if_success (with_reducible apply Exists.intro));(try dsimp only);(try simp only [vS1]))) <;> (try simp (disch:=omega) only [vS3,vS2] at *)
 all_goals (try (fail_if_success (with_reducible apply Exists.intro));first|with_reducible assumption|omega|exact mdl (by omega)|exact ilo1 (by omega)|exact ilo2 (by omega)|exact ihi1 (by omega) (by omega)|exact ihi2 (by omega) (by omega))
 ·refine ⟨k + 1,by omega,by omega,?_⟩
  (repeat' (first|(with_reducible first|exact True.intro|refine And.intro ?_ ?_|refine Head.mk ?_ ?_ ?_ ?_)|((conv=>lhs;whnf);first|(with_reducible first|rfl|exact vInt_s (by omega))|exact rfl)|((conv=>whnf);first|(with_reducible first|exact True.intro|refine And.intro ?_ ?_)))) <;> (try (conv=>lhs;whnf))
  ·exact congrArg vInt (by omega)
  ·refine congrArg (fun l=>(⟨0,.row t_impl_Point (.b .pt) l⟩:Loc)) ?_
   rw [← mix_set (by omega) hml.symm (0,0),List.set_set,marks_get _ (by omega)]
   congr 1
   rw [getD_set_self (by simp;omega)]
 ·refine congrArg some ?_
  rw [List.take_of_length_le (by omega),List.drop_eq_nil_of_le (by omega),List.append_nil]
def markRC:ConW:=mkConW [.room,.int] 0 t_impl_Point (fun x=>x.1.length≤1048576∧0≤x.2.1∧x.2.1≤1073741824) (fun x=>vInt (x.2.1 + 2 * x.1.length)) fun x=>⟨.b .pt,marks x.2.1 x.1.length,false⟩
theorem markRoom_ok:GoodW Tryz.prog n_laws_markRoom markRC:=by
 refine good_ofW (tys:=tyL) (env:=[]) (envw:=[(n_laws_markPointS,markPsC)]) (envd:=[]) [2,8] [] [] [] [] mixed tys trivial ⟨markPointS_ok,trivial⟩ trivial Tryz.func19 rfl (by kernel_rfl) (by decide) (by kernel_rfl) ?_
 have hG_:=kpz [(0,[1,2]),(1,[1]),(2,[4])] [(0,[2,1000]),(1,[1000]),(2,[1000])] [] []
 rintro ⟨(xs:List Pt),(n:Int),⟨⟩⟩ ⟨(h1:xs.length≤_),(h2:0≤n),(h3:n≤_)⟩
 (repeat' (first|(with_reducible first|exact True.intro|refine zQ ?_|(refine zG hG_ ?_;intro K_ hK_)|(refine zR ?_;intro K_ hK_)|(refine hK_ _ _ ?_;try clear hK_ K_)|refine sq_n ?_|refine sq_r ?_|refine sq_e ?_|refine bq_n ?_|refine bq_r ?_|refine bq_q ?_|refine zB ?_|refine zX ?_|refine zT ?_|refine zK ?_|refine gq_n ?_|refine gq_r ?_|refine gq_e ?_|refine lq_n ?_|refine lq_r ?_|refine lq_e ?_|refine bq_e (by decide) ?_)|((with_reducible refine zC (b:=?b_) ?hb_ ?_ ?_);case hb_=>rfl)|((conv=>whnf);first|(with_reducible refine hK_ _ _ ?_;try clear hK_ K_)|(with_reducible refine fun (g_:Sl) (o_:Ow)=>?_)|(with_reducible first|exact True.intro|refine And.intro trivial ?_|refine And.intro ?_ ?_)|exact Nat.le_of_ble_eq_true rfl|exact Or.inl rfl|(intro h_;cases h_)|(intro h_;(try simp only [vS1] at h_))|rfl))) <;> (try (conv=>whnf)) <;> (try first|change (_:Int)≤_|change (_:Nat)≤_) <;> (try ((fail_if_success (with_reducible apply Exists.intro));(try dsimp only);(try simp only [vS1]))) <;> (try simp (disch:=omega) only [vS3,vS2] at *)
 all_goals (try (fail_if_success (with_reducible apply Exists.intro));first|with_reducible assumption|omega|exact mdl (by omega)|exact ilo1 (by omega)|exact ilo2 (by omega)|exact ihi1 (by omega) (by omega)|exact ihi2 (by omega) (by omega))
def heldF (k:Int) (xs:List Pt):Int:=if xs=marks k xs.length then k + 2 * xs.length else -1
def mirP (p:Pt):Pt:=(IntKind.i64.wrap (0 - p.1),p.2)
theorem ext_getD {α:Type} (d:α) {xs ys:List α} (hl:xs.length=ys.length) (h:∀ p,p < xs.length→xs.getD p d=ys.getD p d):xs=ys:=by
 refine List.ext_getElem hl fun p h1 h2=>?_
 have:=h p h1
 rwa [getD_lt _ h1,getD_lt _ h2] at this
theorem getD_set {α:Type} {xs:List α} {i p:Nat} {x d:α} (hi:i < xs.length):(xs.set i x).getD p d=if p=i then x else xs.getD p d:=by
 rw [List.getD_eq_getElem?_getD,List.getElem?_set]
 by_cases h:i=p
 ·subst h;simp [hi]
 ·rw [if_neg h,if_neg (Ne.symm h)];rfl
theorem heldF_marks (k:Int) (n:Nat):heldF k (marks k n)=k + 2 * n:=by unfold heldF;rw [marks_len,if_pos rfl]
end Go.Proofs.YtpafacebfogkmaaGreat
namespace Go.Proofs.YtpafacebfogkmaaGreat
open Go.RowKit
def upI (p a b:Pt):Bool:=((decide (p.2 < a.2)) != (decide (p.2 < b.2))) && ((decide (0 < turn a b p)) == decide (a.2 < b.2))
def upS (p a b:Pt):Bool:=(decide (a.2≤p.2) && (decide (p.2 < b.2) && decide (0 < turn a b p))) || (decide (b.2≤p.2) && (decide (p.2 < a.2) && decide (turn a b p < 0)))
def par (f:Nat→Bool):Nat→Bool
 | 0=>false
 | k + 1=>par f k != f k
abbrev onAt (xs:List Pt) (p:Pt) (k:Nat):Bool:=onS p (pAt xs k) (pCy xs (k + 1))
abbrev upIAt (xs:List Pt) (p:Pt) (k:Nat):Bool:=upI p (pAt xs k) (pCy xs (k + 1))
abbrev upSAt (xs:List Pt) (p:Pt) (k:Nat):Bool:=upS p (pAt xs k) (pCy xs (k + 1))
def onAny (xs:List Pt) (p:Pt):Bool:=(List.range xs.length).any (onAt xs p)
def placeM (xs:List Pt) (p:Pt):Int:=if onAny xs p then 1 else if par (upIAt xs p) xs.length then 2 else 0
def holdsM (xs:List Pt) (p:Pt):Int:=if onAny xs p then 0 else if par (upSAt xs p) xs.length then 1 else -1
theorem onAny_yes {xs:List Pt} {p:Pt} {k:Nat} (hk:k < xs.length) (h:onAt xs p k=true):onAny xs p=true:=by
 unfold onAny;rw [List.any_eq_true];exact ⟨k,List.mem_range.2 hk,h⟩
theorem onAny_no {xs:List Pt} {p:Pt} (h:∀ k,k < xs.length→onAt xs p k=false):onAny xs p=false:=by
 unfold onAny;rw [List.any_eq_false];intro k hk;rw [h k (List.mem_range.1 hk)];decide
theorem onAny_off {xs:List Pt} {p:Pt} (h:onAny xs p=false) {k:Nat} (hk:k < xs.length):onAt xs p k=false:=by
 unfold onAny at h;rw [List.any_eq_false] at h
 simpa using h k (List.mem_range.2 hk)
theorem par_congr {f g:Nat→Bool}:∀ {n:Nat},(∀ k,k < n→f k=g k)→par f n=par g n
 | 0,_=>rfl
 | n + 1,h=>by unfold par;rw [par_congr (n:=n) fun k hk=>h k (by omega),h n (by omega)]
def Bd (p:Pt):Prop:=(-1000≤p.1∧p.1≤1000)∧-1000≤p.2∧p.2≤1000
theorem mul_bd {a b:Int} (h1:-2000≤a) (h2:a≤2000) (h3:-2000≤b) (h4:b≤2000):-4000000≤a * b∧a * b≤4000000:=by
 have h5:(a + 2000) * (b + 2000) ≥ 0:=Int.mul_nonneg (by omega) (by omega)
 have h6:(2000 - a) * (2000 - b) ≥ 0:=Int.mul_nonneg (by omega) (by omega)
 have h7:(a + 2000) * (2000 - b) ≥ 0:=Int.mul_nonneg (by omega) (by omega)
 have h8:(2000 - a) * (b + 2000) ≥ 0:=Int.mul_nonneg (by omega) (by omega)
 simp only [Int.add_mul,Int.mul_add,Int.sub_mul,Int.mul_sub] at h5 h6 h7 h8
 omega
def turnZ (a b c:Pt):Int:=(b.1 - a.1) * (c.2 - a.2) - (b.2 - a.2) * (c.1 - a.1)
theorem turn_exact {a b c:Pt} (ha:Bd a) (hb:Bd b) (hc:Bd c):turn a b c=turnZ a b c:=by
 obtain ⟨⟨a1,a2⟩,a3,a4⟩:=ha
 obtain ⟨⟨b1,b2⟩,b3,b4⟩:=hb
 obtain ⟨⟨c1,c2⟩,c3,c4⟩:=hc
 unfold turn turnZ
 have h1:=mul_bd (a:=b.1 - a.1) (b:=c.2 - a.2) (by omega) (by omega) (by omega) (by omega)
 have h2:=mul_bd (a:=b.2 - a.2) (b:=c.1 - a.1) (by omega) (by omega) (by omega) (by omega)
 exact W_in (by omega) (by omega)
theorem prop_btw {u v d e:Int} (he:0 < e) (hed:e≤d) (h:u * e=d * v):(0≤u→0≤v∧v≤u)∧(u≤0→u≤v∧v≤0):=by
 constructor
 ·intro hu
  have h1:0≤u * e:=Int.mul_nonneg hu (by omega)
  have h2:u * e≤u * d:=Int.mul_le_mul_of_nonneg_left hed hu
  refine ⟨?_,?_⟩
  ·rcases Int.lt_or_le v 0 with hv|hv
   ·have:=Int.mul_le_mul_of_nonneg_left (show v≤-1 by omega) (show 0≤d by omega)
    omega
   ·exact hv
  ·rcases Int.lt_or_le u v with hv|hv
   ·have:=Int.mul_le_mul_of_nonneg_left (show u + 1≤v by omega) (show 0≤d by omega)
    rw [Int.mul_add,Int.mul_comm d u] at this
    omega
   ·exact hv
 ·intro hu
  have h1:u * e≤0:=Int.mul_nonpos_of_nonpos_of_nonneg hu (by omega)
  have h2:u * d≤u * e:=Int.mul_le_mul_of_nonpos_left hu hed
  refine ⟨?_,?_⟩
  ·rcases Int.lt_or_le v u with hv|hv
   ·have:=Int.mul_le_mul_of_nonneg_left (show v + 1≤u by omega) (show 0≤d by omega)
    rw [Int.mul_add,Int.mul_comm d u] at this
    omega
   ·exact hv
  ·rcases Int.lt_or_le 0 v with hv|hv
   ·have:=Int.mul_le_mul_of_nonneg_left (show 1≤v by omega) (show 0≤d by omega)
    omega
   ·exact hv
theorem on_of_flat {p a b:Pt} (h0:turnZ a b p=0) (ht:turn a b p=0) (h1:b.2≤p.2) (h2:p.2 < a.2):onS p a b=true:=by
 have h3:(b.1 - a.1) * (a.2 - p.2)=(a.2 - b.2) * (p.1 - a.1):=by
  unfold turnZ at h0
  have e1:(b.1 - a.1) * (a.2 - p.2)=-((b.1 - a.1) * (p.2 - a.2)):=by rw [← Int.mul_neg];congr 1;omega
  have e2:(a.2 - b.2) * (p.1 - a.1)=-((b.2 - a.2) * (p.1 - a.1)):=by rw [← Int.neg_mul];congr 1;omega
  omega
 have h4:=prop_btw (u:=b.1 - a.1) (v:=p.1 - a.1) (d:=a.2 - b.2) (e:=a.2 - p.2) (by omega) (by omega) h3
 unfold onS
 simp only [ht,decide_true,Bool.true_and,Bool.and_eq_true,btw_iff]
 rcases Int.le_total 0 (b.1 - a.1) with h5|h5
 ·have:=h4.1 h5
  refine ⟨?_,?_⟩ <;> omega
 ·have:=h4.2 h5
  refine ⟨?_,?_⟩ <;> omega
theorem up_eq {p a b:Pt} (hp:Bd p) (ha:Bd a) (hb:Bd b) (hon:onS p a b=false):upI p a b=upS p a b:=by
 have hT:=turn_exact ha hb hp
 unfold upI upS
 by_cases h1:p.2 < a.2
 ·by_cases h2:p.2 < b.2
  ·have e1:¬ a.2≤p.2:=by omega
   have e2:¬ b.2≤p.2:=by omega
   simp [h1,h2,e1,e2]
  ·have e1:¬ a.2≤p.2:=by omega
   have e2:b.2≤p.2:=by omega
   have e3:¬ a.2 < b.2:=by omega
   have hne:turn a b p≠0:=fun h=>by
    rw [on_of_flat (by rw [← hT,h]) h e2 h1] at hon;cases hon
   have e4:(¬ 0 < turn a b p)↔turn a b p < 0:=by omega
   simp [h1,h2,e1,e2,e3]
   rcases Int.lt_trichotomy (turn a b p) 0 with h|h|h
   ·simp [h,show ¬ 0 < turn a b p by omega]
   ·exact absurd h hne
   ·simp [h,show ¬ turn a b p < 0 by omega]
 ·by_cases h2:p.2 < b.2
  ·have e1:a.2≤p.2:=by omega
   have e2:¬ b.2≤p.2:=by omega
   have e3:a.2 < b.2:=by omega
   simp [h1,h2,e1,e2,e3]
  ·simp [h1,h2]
theorem pAt_bd {xs:List Pt} (h:∀ q∈xs,Bd q) {k:Nat} (hk:k < xs.length):Bd (pAt xs k):=by
 unfold pAt;rw [getD_lt _ hk];exact h _ (List.getElem_mem hk)
theorem pCy_bd {xs:List Pt} (h:∀ q∈xs,Bd q) {k:Nat} (hn:0 < xs.length):Bd (pCy xs k):=by
 unfold pCy;exact pAt_bd h (Nat.mod_lt _ hn)
theorem place_holds {xs:List Pt} {p:Pt} (h:∀ q∈xs,Bd q) (hp:Bd p):placeM xs p=holdsM xs p + 1:=by
 unfold placeM holdsM
 cases hon:onAny xs p with
 | true=>rfl
 | false=>
  have:par (upIAt xs p) xs.length=par (upSAt xs p) xs.length:=par_congr fun k hk=>up_eq hp (pAt_bd h hk) (pCy_bd h (by omega)) (onAny_off hon hk)
  rw [this]
  cases par (upSAt xs p) xs.length <;> rfl
theorem bd_of_ok {p:Pt} (h:ptOk p=true):Bd p:=by
 have:=ptOk_iff.1 h;unfold Bd;omega
theorem bd_of_room {xs:List Pt} (h:roomOk xs=true):∀ q∈xs,Bd q:=fun q hq=>bd_of_ok (List.all_eq_true.1 (roomOk_iff.1 h).2.1 q hq)
theorem pt_of_room {xs:List Pt} (h:roomOk xs=true):∀ q∈xs,-40≤q.1∧q.1≤40∧-40≤q.2∧q.2≤40:=fun q hq=>ptOk_iff.1 (List.all_eq_true.1 (roomOk_iff.1 h).2.1 q hq)
theorem room_pos {xs:List Pt} (h:roomOk xs=true):0 < xs.length:=by have:=(roomOk_iff.1 h).1;omega
theorem room_len {xs:List Pt} (h:roomOk xs=true):3≤xs.length∧xs.length≤10:=(roomOk_iff.1 h).1
theorem filter_take_succ {α:Type} (f:α→Bool) (d:α) {l:List α} {k:Nat} (h:k < l.length):(l.take (k + 1)).filter f=(l.take k).filter f ++ (if f (l.getD k d) then [l.getD k d] else []):=by
 rw [List.take_succ_eq_append_getElem h,List.filter_append,getD_lt _ h]
 congr 1
 simp [List.filter_cons]
end Go.Proofs.YtpafacebfogkmaaGreat
namespace Go.Proofs.YtpafacebfogkmaaGreat
open Go.RowKit Go.Proofs.YtpafacebfogkmaaGreat.Nm
set_option maxRecDepth 10000
def ptRow (xs:List Pt):RV:=⟨.one (.own 0 0),some ⟨t_impl_Point,none,.b .pt,xs⟩⟩
def placeC:Con:=mkCon [.sl (.b .pt),.pt] (fun x=>x.1.length≤1048576) fun x=>vI (placeM x.1 x.2.1)
theorem placeM_on {xs:List Pt} {p:Pt} {k:Nat} (hk:k < xs.length) (h:onAt xs p k=true):placeM xs p=1:=by unfold placeM;rw [onAny_yes hk h];rfl
theorem placeM_off {xs:List Pt} {p:Pt} (h:∀ k,k < xs.length→onAt xs p k=false):placeM xs p=if par (upIAt xs p) xs.length then 2 else 0:=by unfold placeM;rw [onAny_no h];rfl
theorem holdsM_on {xs:List Pt} {p:Pt} {k:Nat} (hk:k < xs.length) (h:onAt xs p k=true):holdsM xs p=0:=by unfold holdsM;rw [onAny_yes hk h];rfl
theorem holdsM_off {xs:List Pt} {p:Pt} (h:∀ k,k < xs.length→onAt xs p k=false):holdsM xs p=if par (upSAt xs p) xs.length then 1 else -1:=by unfold holdsM;rw [onAny_no h];rfl
theorem par_t {f:Nat→Bool} {k:Nat} (h:f k=true):par f (k + 1)=!par f k:=by show (par f k != f k)=_;rw [h];cases par f k <;> rfl
theorem par_f {f:Nat→Bool} {k:Nat} (h:f k=false):par f (k + 1)=par f k:=by show (par f k != f k)=_;rw [h];cases par f k <;> rfl
theorem place_ok:Good1 Tryz.prog n_impl_place placeC:=by
 refine good_ofG (tys:=tyL) (env:=[(n_impl_on,onC),(n_impl_turn,turnC)]) (envw:=[]) (envd:=[]) [] [] [] [] [] mixed tys ⟨on_ok,turn_ok,trivial⟩ trivial trivial Tryz.func102 rfl (by kernel_rfl) (by decide) (by kernel_rfl) ?_
 have hG_:=kpz [(0,[0,3]),(1,[0,3,5]),(2,[0,3,5,9,10,11]),(3,[0,3,5,9,10,11,12]),(4,[0,3,5,6,7,9,10,11]),(5,[0,3,5,7,8,9,10,11]),(6,[0,3,5,7,8,9,10,11,27]),(7,[4]),(8,[0,3,5,9,10,11,51]),(9,[0,3,5,9,10,11]),(10,[0,3,5,9,10,11]),(11,[55]),(12,[4]),(13,[4])] [(4,[7]),(5,[7,8]),(6,[7,8])] [] []
 rintro ⟨(xs:List Pt),⟨(p:Int),(q:Int)⟩,⟨⟩⟩ (h1:xs.length≤_)
 (repeat' (first|(with_reducible first|exact True.intro|refine zQ ?_|(refine zG hG_ ?_;intro K_ hK_)|(refine zR ?_;intro K_ hK_)|(refine hK_ _ _ ?_;try clear hK_ K_)|refine sq_n ?_|refine sq_r ?_|refine sq_e ?_|refine bq_n ?_|refine bq_r ?_|refine bq_q ?_|refine zB ?_|refine zX ?_|refine zT ?_|refine zK ?_|refine gq_n ?_|refine gq_r ?_|refine gq_e ?_|refine lq_n ?_|refine lq_r ?_|refine lq_e ?_|refine bq_e (by decide) ?_)|((with_reducible refine zC (b:=?b_) ?hb_ ?_ ?_);case hb_=>rfl)|((conv=>whnf);first|(with_reducible refine hK_ _ _ ?_;try clear hK_ K_)|(with_reducible refine fun (g_:Sl) (o_:Ow)=>?_)|(with_reducible first|exact True.intro|refine And.intro trivial ?_|refine And.intro ?_ ?_)|exact Nat.le_of_ble_eq_true rfl|exact Or.inl rfl|(intro h_;cases h_)|(intro h_;(try simp only [vS1] at h_))|rfl))) <;> (try (conv=>whnf)) <;> (try first|change (_:Int)≤_|change (_:Nat)≤_) <;> (try ((fail_if_success (with_reducible apply Exists.intro));(try dsimp only);(try simp only [vS1]))) <;> (try simp (disch:=omega) only [vS3,vS2] at *)
 refine awp'_loopG (α:=Nat) (fun k ver_=>[(11,vInt k),(5,vBool (par (upIAt xs (p,q)) k))]) (fun k ver_=>[]) (fun k ver_=>[]) (fun k=>k≤xs.length∧∀ j,j < k→onAt xs (p,q) j=false) (fun k=>xs.length - k) [0,3,9,10] [] (0) ?_
 conv=>whnf
 refine ⟨⟨?inv1_,?vals1_,?own1_,?fix1_⟩,?body1_⟩
 case' vals1_=>(repeat' (first|(with_reducible first|exact True.intro|refine And.intro ?_ ?_|refine Head.mk ?_ ?_ ?_ ?_)|((conv=>lhs;whnf);first|(with_reducible first|rfl|exact vInt_s (by omega))|exact rfl)|((conv=>whnf);first|(with_reducible first|exact True.intro|refine And.intro ?_ ?_)))) <;> (try (conv=>lhs;whnf))
 case' own1_=>(repeat' (first|(with_reducible first|exact True.intro|refine And.intro ?_ ?_|refine Head.mk ?_ ?_ ?_ ?_)|((conv=>lhs;whnf);first|(with_reducible first|rfl|exact vInt_s (by omega))|exact rfl)|((conv=>whnf);first|(with_reducible first|exact True.intro|refine And.intro ?_ ?_)))) <;> (try (conv=>lhs;whnf))
 case' fix1_=>(repeat' (first|(with_reducible first|exact True.intro|refine And.intro ?_ ?_|refine Head.mk ?_ ?_ ?_ ?_)|((conv=>lhs;whnf);first|(with_reducible first|rfl|exact vInt_s (by omega))|exact rfl)|((conv=>whnf);first|(with_reducible first|exact True.intro|refine And.intro ?_ ?_)))) <;> (try (conv=>lhs;whnf))
 ·exact ⟨Nat.zero_le _,fun j hj=>absurd hj (by omega)⟩
 rintro k g_ o_ v_ ⟨hk,hall⟩
 have hinv:onAt xs (p,q) k=false→∀ j,j < k + 1→onAt xs (p,q) j=false:=fun h j hj=>by
  rcases Nat.lt_or_ge j k with h5|h5
  ·exact hall j h5
  ·rw [show j=k by omega];exact h
 (repeat' (first|(with_reducible first|exact True.intro|refine zQ ?_|(refine zG hG_ ?_;intro K_ hK_)|(refine zR ?_;intro K_ hK_)|(refine hK_ _ _ ?_;try clear hK_ K_)|refine sq_n ?_|refine sq_r ?_|refine sq_e ?_|refine bq_n ?_|refine bq_r ?_|refine bq_q ?_|refine zB ?_|refine zX ?_|refine zT ?_|refine zK ?_|refine gq_n ?_|refine gq_r ?_|refine gq_e ?_|refine lq_n ?_|refine lq_r ?_|refine lq_e ?_|refine bq_e (by decide) ?_)|((with_reducible refine zC (b:=?b_) ?hb_ ?_ ?_);case hb_=>rfl)|((conv=>whnf);first|(with_reducible refine hK_ _ _ ?_;try clear hK_ K_)|(with_reducible refine fun (g_:Sl) (o_:Ow)=>?_)|(with_reducible first|exact True.intro|refine And.intro trivial ?_|refine And.intro ?_ ?_)|exact Nat.le_of_ble_eq_true rfl|exact Or.inl rfl|(intro h_;cases h_)|(intro h_;(try simp only [vS1] at h_))|rfl))) <;> (try (conv=>whnf)) <;> (try first|change (_:Int)≤_|change (_:Nat)≤_) <;> (try ((fail_if_success (with_reducible apply Exists.intro));(try dsimp only);(try simp only [vS1]))) <;> (try simp (disch:=omega) only [vS3,vS2] at *)
 all_goals (try (fail_if_success (with_reducible apply Exists.intro));first|with_reducible assumption|omega|exact mdl (by omega)|exact ilo1 (by omega)|exact ilo2 (by omega)|exact ihi1 (by omega) (by omega)|exact ihi2 (by omega) (by omega))
 ·exact (placeM_on ‹k < xs.length› h_).symm
 ·refine ⟨k + 1,by omega,⟨by omega,hinv (by assumption)⟩,?_⟩
  (repeat' (first|(with_reducible first|exact True.intro|refine And.intro ?_ ?_|refine Head.mk ?_ ?_ ?_ ?_)|((conv=>lhs;whnf);first|(with_reducible first|rfl|exact vInt_s (by omega))|exact rfl)|((conv=>whnf);first|(with_reducible first|exact True.intro|refine And.intro ?_ ?_)))) <;> (try (conv=>lhs;whnf))
  refine congrArg vBool (par_t ?_).symm
  simp only [upI,Bool.and_eq_true,bne_iff_ne,beq_iff_eq]
  exact ⟨by assumption,by assumption⟩
 ·refine ⟨k + 1,by omega,⟨by omega,hinv (by assumption)⟩,?_⟩
  (repeat' (first|(with_reducible first|exact True.intro|refine And.intro ?_ ?_|refine Head.mk ?_ ?_ ?_ ?_)|((conv=>lhs;whnf);first|(with_reducible first|rfl|exact vInt_s (by omega))|exact rfl)|((conv=>whnf);first|(with_reducible first|exact True.intro|refine And.intro ?_ ?_)))) <;> (try (conv=>lhs;whnf))
  refine congrArg vBool (par_f ?_).symm
  rw [← Bool.not_eq_true]
  simp only [upI,Bool.and_eq_true,bne_iff_ne,beq_iff_eq]
  exact fun h=>h_ h.2
 ·refine ⟨k + 1,by omega,⟨by omega,hinv (by assumption)⟩,?_⟩
  (repeat' (first|(with_reducible first|exact True.intro|refine And.intro ?_ ?_|refine Head.mk ?_ ?_ ?_ ?_)|((conv=>lhs;whnf);first|(with_reducible first|rfl|exact vInt_s (by omega))|exact rfl)|((conv=>whnf);first|(with_reducible first|exact True.intro|refine And.intro ?_ ?_)))) <;> (try (conv=>lhs;whnf))
  refine congrArg vBool (par_f ?_).symm
  rw [← Bool.not_eq_true]
  simp only [upI,Bool.and_eq_true,bne_iff_ne,beq_iff_eq]
  exact fun h=>h.1 h_
 ·rw [placeM_off fun j hj=>hall j (by omega),show xs.length=k by omega,if_pos (by assumption)]
 ·rw [placeM_off fun j hj=>hall j (by omega),show xs.length=k by omega,if_neg (by simp [*])]
def holdsC:Con:=mkCon [.sl (.b .pt),.pt] (fun x=>x.1.length≤1048576) fun x=>vI (holdsM x.1 x.2.1)
theorem upS_iff {p a b:Pt}:upS p a b=true↔(a.2≤p.2∧p.2 < b.2∧0 < turn a b p)∨(b.2≤p.2∧p.2 < a.2∧turn a b p < 0):=by
 unfold upS
 simp only [Bool.or_eq_true,Bool.and_eq_true,decide_eq_true_eq]
theorem sg_t {f:Nat→Bool} {k:Nat} (h:f k=true):0 - (if par f k then (1:Int) else -1)=if par f (k + 1) then 1 else -1:=by rw [par_t h];cases par f k <;> rfl
theorem sg_f {f:Nat→Bool} {k:Nat} (h:¬ f k=true):(if par f k then (1:Int) else -1)=if par f (k + 1) then 1 else -1:=by rw [par_f (by simpa using h)]
theorem l05Holds_ok:Good1 Tryz.prog n_spec_l05Holds holdsC:=by
  refine good_ofG (tys:=tyL) (env:=[(n_spec_l02Between,onC),(n_spec_l02Turn,turnC)]) (envw:=[]) (envd:=[]) [] [] [] [] [] mixed tys ⟨l02Between_ok,l02Turn_ok,trivial⟩ trivial trivial Tryz.func117 rfl (by kernel_rfl) (by decide) (by kernel_rfl) ?_
  have hG_:=kpz [(0,[0,3]),(1,[0,3,5]),(2,[0,3,5,6]),(3,[0,3,5,6,7]),(4,[0,3,5,6,7,14]),(5,[0,3,5,6,7]),(6,[0,3,5,6,7,8]),(7,[0,3,5,6,7,8,9]),(8,[0,3,5,6,7,8,9,31]),(9,[4]),(10,[0,3,5,6,7,71]),(11,[0,3,5,6,7]),(12,[4])] [(6,[8]),(7,[8,9]),(8,[8,9])] [] []
  rintro ⟨(xs:List Pt),⟨(p:Int),(q:Int)⟩,⟨⟩⟩ (h1:xs.length≤_)
  (repeat' (first|(with_reducible first|exact True.intro|refine zQ ?_|(refine zG hG_ ?_;intro K_ hK_)|(refine zR ?_;intro K_ hK_)|(refine hK_ _ _ ?_;try clear hK_ K_)|refine sq_n ?_|refine sq_r ?_|refine sq_e ?_|refine bq_n ?_|refine bq_r ?_|refine bq_q ?_|refine zB ?_|refine zX ?_|refine zT ?_|refine zK ?_|refine gq_n ?_|refine gq_r ?_|refine gq_e ?_|refine lq_n ?_|refine lq_r ?_|refine lq_e ?_|refine bq_e (by decide) ?_)|((with_reducible refine zC (b:=?b_) ?hb_ ?_ ?_);case hb_=>rfl)|((conv=>whnf);first|(with_reducible refine hK_ _ _ ?_;try clear hK_ K_)|(with_reducible refine fun (g_:Sl) (o_:Ow)=>?_)|(with_reducible first|exact True.intro|refine And.intro trivial ?_|refine And.intro ?_ ?_)|exact Nat.le_of_ble_eq_true rfl|exact Or.inl rfl|(intro h_;cases h_)|(intro h_;(try simp only [vS1] at h_))|rfl))) <;> (try (conv=>whnf)) <;> (try first|change (_:Int)≤_|change (_:Nat)≤_) <;> (try ((fail_if_success (with_reducible apply Exists.intro));(try dsimp only);(try simp only [vS1]))) <;> (try simp (disch:=omega) only [vS3,vS2] at *)
  refine awp'_loopG (α:=Nat) (fun k ver_=>[(7,vInt k),(5,vInt (if par (upSAt xs (p,q)) k then 1 else -1))]) (fun k ver_=>[]) (fun k ver_=>[]) (fun k=>k≤xs.length∧∀ j,j < k→onAt xs (p,q) j=false) (fun k=>xs.length - k) [0,3,6] [] (0) ?_
  conv=>whnf
  refine ⟨⟨?inv2_,?vals2_,?own2_,?fix2_⟩,?body2_⟩
  case' vals2_=>(repeat' (first|(with_reducible first|exact True.intro|refine And.intro ?_ ?_|refine Head.mk ?_ ?_ ?_ ?_)|((conv=>lhs;whnf);first|(with_reducible first|rfl|exact vInt_s (by omega))|exact rfl)|((conv=>whnf);first|(with_reducible first|exact True.intro|refine And.intro ?_ ?_)))) <;> (try (conv=>lhs;whnf))
  case' own2_=>(repeat' (first|(with_reducible first|exact True.intro|refine And.intro ?_ ?_|refine Head.mk ?_ ?_ ?_ ?_)|((conv=>lhs;whnf);first|(with_reducible first|rfl|exact vInt_s (by omega))|exact rfl)|((conv=>whnf);first|(with_reducible first|exact True.intro|refine And.intro ?_ ?_)))) <;> (try (conv=>lhs;whnf))
  case' fix2_=>(repeat' (first|(with_reducible first|exact True.intro|refine And.intro ?_ ?_|refine Head.mk ?_ ?_ ?_ ?_)|((conv=>lhs;whnf);first|(with_reducible first|rfl|exact vInt_s (by omega))|exact rfl)|((conv=>whnf);first|(with_reducible first|exact True.intro|refine And.intro ?_ ?_)))) <;> (try (conv=>lhs;whnf))
  · exact ⟨Nat.zero_le _,fun j hj=>absurd hj (by omega)⟩
  rintro k g_ o_ v_ ⟨hk,hall⟩
  have hinv:onAt xs (p,q) k=false→∀ j,j < k + 1→onAt xs (p,q) j=false:=fun h j hj=>by
    rcases Nat.lt_or_ge j k with h5|h5
    · exact hall j h5
    · rw [show j=k by omega];exact h
  have hup:upSAt xs (p,q) k=true↔((xs.getD k (ElK.b ElB.pt).dflt).2≤q∧q < (xs.getD ((k + 1) % xs.length) (ElK.b ElB.pt).dflt).2∧0 < turn (xs.getD k (ElK.b ElB.pt).dflt) (xs.getD ((k + 1) % xs.length) (ElK.b ElB.pt).dflt) (p,q))∨((xs.getD ((k + 1) % xs.length) (ElK.b ElB.pt).dflt).2≤q∧q < (xs.getD k (ElK.b ElB.pt).dflt).2∧turn (xs.getD k (ElK.b ElB.pt).dflt) (xs.getD ((k + 1) % xs.length) (ElK.b ElB.pt).dflt) (p,q) < 0):=upS_iff
  (repeat' (first|(with_reducible first|exact True.intro|refine zQ ?_|(refine zG hG_ ?_;intro K_ hK_)|(refine zR ?_;intro K_ hK_)|(refine hK_ _ _ ?_;try clear hK_ K_)|refine sq_n ?_|refine sq_r ?_|refine sq_e ?_|refine bq_n ?_|refine bq_r ?_|refine bq_q ?_|refine zB ?_|refine zX ?_|refine zT ?_|refine zK ?_|refine gq_n ?_|refine gq_r ?_|refine gq_e ?_|refine lq_n ?_|refine lq_r ?_|refine lq_e ?_|refine bq_e (by decide) ?_)|((with_reducible refine zC (b:=?b_) ?hb_ ?_ ?_);case hb_=>rfl)|((conv=>whnf);first|(with_reducible refine hK_ _ _ ?_;try clear hK_ K_)|(with_reducible refine fun (g_:Sl) (o_:Ow)=>?_)|(with_reducible first|exact True.intro|refine And.intro trivial ?_|refine And.intro ?_ ?_)|exact Nat.le_of_ble_eq_true rfl|exact Or.inl rfl|(intro h_;cases h_)|(intro h_;(try simp only [vS1] at h_))|rfl))) <;> (try (conv=>whnf)) <;> (try first|change (_:Int)≤_|change (_:Nat)≤_) <;> (try ((fail_if_success (with_reducible apply Exists.intro));(try dsimp only);(try simp only [vS1]))) <;> (try simp (disch:=omega) only [vS3,vS2] at *)
  all_goals (try (fail_if_success (with_reducible apply Exists.intro));first|with_reducible assumption|omega|exact mdl (by omega)|exact ilo1 (by omega)|exact ilo2 (by omega)|exact ihi1 (by omega) (by omega)|exact ihi2 (by omega) (by omega))
  · exact (holdsM_on ‹k < xs.length› h_).symm
  all_goals first
    | (exfalso;omega)
    | (rw [holdsM_off fun j hj=>hall j (by omega),show xs.length=k by omega])
    | (refine ⟨k + 1,by omega,⟨by omega,hinv (by assumption)⟩,?_⟩
       (repeat' (first|(with_reducible first|exact True.intro|refine And.intro ?_ ?_|refine Head.mk ?_ ?_ ?_ ?_)|((conv=>lhs;whnf);first|(with_reducible first|rfl|exact vInt_s (by omega))|exact rfl)|((conv=>whnf);first|(with_reducible first|exact True.intro|refine And.intro ?_ ?_)))) <;> (try (conv=>lhs;whnf))
       first|exact congrArg vInt (sg_t (hup.2 (by omega)))|exact congrArg vInt (sg_f (fun h=>by have:=hup.1 h;omega)))
theorem hold_vals (xs:List Pt) (p:Pt):holdsM xs p=0∨holdsM xs p=1∨holdsM xs p=-1:=by unfold holdsM;split <;> (try split) <;> simp
def marksI (k:Int):Nat→List Int
 | 0=>[]
 | n + 1=>k :: marksI (k + 1) n
theorem marksI_len:∀ (n:Nat) (k:Int),(marksI k n).length=n
 | 0,_=>rfl
 | n + 1,k=>by simp [marksI,marksI_len n]
theorem marksI_get:∀ {n j:Nat} (k:Int),j < n→(marksI k n).getD j 0=k + j
 | n + 1,0,k,_=>by simp [marksI]
 | n + 1,j + 1,k,h=>by
  have:=marksI_get (n:=n) (j:=j) (k + 1) (by omega)
  simp only [marksI,List.getD_cons_succ,this]
  omega
def markIsC:ConW:=mkConW [.sl (.b .int),.int] 0 t_int (fun x=>x.1.length≤1048576∧0≤x.2.1∧x.2.1≤1073741824) (fun x=>vInt (x.2.1 + x.1.length)) fun x=>⟨.b .int,marksI x.2.1 x.1.length,false⟩
theorem markIntS_ok:GoodW Tryz.prog n_laws_markIntS markIsC:=by
 refine good_ofW (tys:=tyL) (env:=[]) (envw:=[]) (envd:=[]) [] [] [] [] [] mixed tys trivial trivial trivial Tryz.func51 rfl (by kernel_rfl) (by decide) (by kernel_rfl) ?_
 have hG_:=kpz [(0,[0,1]),(1,[0,1,5]),(2,[0,1,5,9]),(3,[0,1,5]),(4,[0,1,5]),(5,[0,1,5]),(6,[4])] [(0,[1000]),(1,[1000]),(2,[1000]),(3,[1000]),(4,[1000]),(5,[1000]),(6,[1000])] [] []
 rintro ⟨(xs:List Int),(n:Int),⟨⟩⟩ ⟨(h1:xs.length≤_),(h2:0≤n),(h3:n≤_)⟩
 (repeat' (first|(with_reducible first|exact True.intro|refine zQ ?_|(refine zG hG_ ?_;intro K_ hK_)|(refine zR ?_;intro K_ hK_)|(refine hK_ _ _ ?_;try clear hK_ K_)|refine sq_n ?_|refine sq_r ?_|refine sq_e ?_|refine bq_n ?_|refine bq_r ?_|refine bq_q ?_|refine zB ?_|refine zX ?_|refine zT ?_|refine zK ?_|refine gq_n ?_|refine gq_r ?_|refine gq_e ?_|refine lq_n ?_|refine lq_r ?_|refine lq_e ?_|refine bq_e (by decide) ?_)|((with_reducible refine zC (b:=?b_) ?hb_ ?_ ?_);case hb_=>rfl)|((conv=>whnf);first|(with_reducible refine hK_ _ _ ?_;try clear hK_ K_)|(with_reducible refine fun (g_:Sl) (o_:Ow)=>?_)|(with_reducible first|exact True.intro|refine And.intro trivial ?_|refine And.intro ?_ ?_)|exact Nat.le_of_ble_eq_true rfl|exact Or.inl rfl|(intro h_;cases h_)|(intro h_;(try simp only [vS1] at h_))|rfl))) <;> (try (conv=>whnf)) <;> (try first|change (_:Int)≤_|change (_:Nat)≤_) <;> (try ((fail_if_success (with_reducible apply Exists.intro));(try dsimp only);(try simp only [vS1]))) <;> (try simp (disch:=omega) only [vS3,vS2] at *)
 refine awp'_loopG (α:=Nat) (fun k ver_=>[(5,vInt k),(1,vInt (n + k))]) (fun k ver_=>[]) (fun k ver_=>[(1000,⟨0,.row t_int (.b .int) ((marksI n xs.length).take k ++ xs.drop k)⟩)]) (fun k=>k≤xs.length) (fun k=>xs.length - k) [0] [] (0) ?_
 conv=>whnf
 refine ⟨⟨?inv1_,?vals1_,?own1_,?fix1_⟩,?body1_⟩
 case' vals1_=>(repeat' (first|(with_reducible first|exact True.intro|refine And.intro ?_ ?_|refine Head.mk ?_ ?_ ?_ ?_)|((conv=>lhs;whnf);first|(with_reducible first|rfl|exact vInt_s (by omega))|exact rfl)|((conv=>whnf);first|(with_reducible first|exact True.intro|refine And.intro ?_ ?_)))) <;> (try (conv=>lhs;whnf))
 case' own1_=>(repeat' (first|(with_reducible first|exact True.intro|refine And.intro ?_ ?_|refine Head.mk ?_ ?_ ?_ ?_)|((conv=>lhs;whnf);first|(with_reducible first|rfl|exact vInt_s (by omega))|exact rfl)|((conv=>whnf);first|(with_reducible first|exact True.intro|refine And.intro ?_ ?_)))) <;> (try (conv=>lhs;whnf))
 case' fix1_=>(repeat' (first|(with_reducible first|exact True.intro|refine And.intro ?_ ?_|refine Head.mk ?_ ?_ ?_ ?_)|((conv=>lhs;whnf);first|(with_reducible first|rfl|exact vInt_s (by omega))|exact rfl)|((conv=>whnf);first|(with_reducible first|exact True.intro|refine And.intro ?_ ?_)))) <;> (try (conv=>lhs;whnf))
 ·exact congrArg vInt (by simp)
 ·exact Nat.zero_le _
 rintro k g_ o_ v_ hk
 have hml:=marksI_len xs.length n
 (repeat' (first|(with_reducible first|exact True.intro|refine zQ ?_|(refine zG hG_ ?_;intro K_ hK_)|(refine zR ?_;intro K_ hK_)|(refine hK_ _ _ ?_;try clear hK_ K_)|refine sq_n ?_|refine sq_r ?_|refine sq_e ?_|refine bq_n ?_|refine bq_r ?_|refine bq_q ?_|refine zB ?_|refine zX ?_|refine zT ?_|refine zK ?_|refine gq_n ?_|refine gq_r ?_|refine gq_e ?_|refine lq_n ?_|refine lq_r ?_|refine lq_e ?_|refine bq_e (by decide) ?_)|((with_reducible refine zC (b:=?b_) ?hb_ ?_ ?_);case hb_=>rfl)|((conv=>whnf);first|(with_reducible refine hK_ _ _ ?_;try clear hK_ K_)|(with_reducible refine fun (g_:Sl) (o_:Ow)=>?_)|(with_reducible first|exact True.intro|refine And.intro trivial ?_|refine And.intro ?_ ?_)|exact Nat.le_of_ble_eq_true rfl|exact Or.inl rfl|(intro h_;cases h_)|(intro h_;(try simp only [vS1] at h_))|rfl))) <;> (try (conv=>whnf)) <;> (try first|change (_:Int)≤_|change (_:Nat)≤_) <;> (try ((fail_if_success (with_reducible apply Exists.intro));(try dsimp only);(try simp only [vS1]))) <;> (try simp (disch:=omega) only [vS3,vS2] at *)
 all_goals (try (fail_if_success (with_reducible apply Exists.intro));first|with_reducible assumption|omega|exact mdl (by omega)|exact ilo1 (by omega)|exact ilo2 (by omega)|exact ihi1 (by omega) (by omega)|exact ihi2 (by omega) (by omega))
 ·refine ⟨k + 1,by omega,by omega,?_⟩
  (repeat' (first|(with_reducible first|exact True.intro|refine And.intro ?_ ?_|refine Head.mk ?_ ?_ ?_ ?_)|((conv=>lhs;whnf);first|(with_reducible first|rfl|exact vInt_s (by omega))|exact rfl)|((conv=>whnf);first|(with_reducible first|exact True.intro|refine And.intro ?_ ?_)))) <;> (try (conv=>lhs;whnf))
  ·exact congrArg vInt (by omega)
  ·refine congrArg (fun l=>(⟨0,.row t_int (.b .int) l⟩:Loc)) ?_
   rw [← mix_set (by omega) hml.symm 0,marksI_get _ (by omega)]
 ·refine congrArg some ?_
  rw [List.take_of_length_le (by omega),List.drop_eq_nil_of_le (by omega),List.append_nil]
end Go.Proofs.YtpafacebfogkmaaGreat
namespace Go.Proofs.YtpafacebfogkmaaGreat
open Go.RowKit Go.Proofs.YtpafacebfogkmaaGreat.Nm
set_option maxRecDepth 10000
set_option maxHeartbeats 2000000
def heldI (k:Int) (xs:List Int):Int:=if xs=marksI k xs.length then k + xs.length else -1
theorem heldI_marks (k:Int) (n:Nat):heldI k (marksI k n)=k + n:=by unfold heldI;rw [marksI_len,if_pos rfl]
def heldIsC:Con:=mkCon [.sl (.b .int),.int] (fun x=>x.1.length≤1048576∧0≤x.2.1∧x.2.1≤1073741824) fun x=>vI (heldI x.2.1 x.1)
theorem heldI_no {n:Int} {xs:List Int} {k:Nat} (hk:k < xs.length) (h:xs.getD k 0≠n + k):heldI n xs=-1:=by
 unfold heldI
 rw [if_neg]
 intro e
 rw [← marksI_get n hk,← e] at h
 exact h rfl
theorem heldI_yes {n:Int} {xs:List Int} (h:∀ k,k < xs.length→xs.getD k 0=n + k):heldI n xs=n + xs.length:=by
 unfold heldI
 rw [if_pos]
 refine List.ext_getElem (marksI_len _ _).symm fun j h1 h2=>?_
 have:=h j h1
 rw [← marksI_get n h1,getD_lt _ h1,getD_lt _ h2] at this
 exact this
theorem heldIntS_ok:Good1 Tryz.prog n_laws_heldIntS heldIsC:=by
 refine good_ofG (tys:=tyL) (env:=[]) (envw:=[]) (envd:=[]) [] [] [] [] [] mixed tys trivial trivial trivial Tryz.func52 rfl (by kernel_rfl) (by decide) (by kernel_rfl) ?_
 have hG_:=kpz [(0,[0,1]),(1,[0,1,5]),(2,[0,1,5,9]),(3,[0,1,5]),(4,[0,1,5,17]),(5,[4]),(6,[0,1,5]),(7,[4])] [] [] []
 rintro ⟨(xs:List Int),(n:Int),⟨⟩⟩ ⟨(h1:xs.length≤_),(h2:0≤n),(h3:n≤_)⟩
 (repeat' (first|(with_reducible first|exact True.intro|refine zQ ?_|(refine zG hG_ ?_;intro K_ hK_)|(refine zR ?_;intro K_ hK_)|(refine hK_ _ _ ?_;try clear hK_ K_)|refine sq_n ?_|refine sq_r ?_|refine sq_e ?_|refine bq_n ?_|refine bq_r ?_|refine bq_q ?_|refine zB ?_|refine zX ?_|refine zT ?_|refine zK ?_|refine gq_n ?_|refine gq_r ?_|refine gq_e ?_|refine lq_n ?_|refine lq_r ?_|refine lq_e ?_|refine bq_e (by decide) ?_)|((with_reducible refine zC (b:=?b_) ?hb_ ?_ ?_);case hb_=>rfl)|((conv=>whnf);first|(with_reducible refine hK_ _ _ ?_;try clear hK_ K_)|(with_reducible refine fun (g_:Sl) (o_:Ow)=>?_)|(with_reducible first|exact True.intro|refine And.intro trivial ?_|refine And.intro ?_ ?_)|exact Nat.le_of_ble_eq_true rfl|exact Or.inl rfl|(intro h_;cases h_)|(intro h_;(try simp only [vS1] at h_))|rfl))) <;> (try (conv=>whnf)) <;> (try first|change (_:Int)≤_|change (_:Nat)≤_) <;> (try ((fail_if_success (with_reducible apply Exists.intro));(try dsimp only);(try simp only [vS1]))) <;> (try simp (disch:=omega) only [vS3,vS2] at *)
 refine awp'_loopG (α:=Nat) (fun k ver_=>[(5,vInt k),(1,vInt (n + k))]) (fun k ver_=>[]) (fun k ver_=>[]) (fun k=>k≤xs.length∧∀ j,j < k→xs.getD j 0=n + j) (fun k=>xs.length - k) [0] [] (0) ?_
 conv=>whnf
 refine ⟨⟨?inv1_,?vals1_,?own1_,?fix1_⟩,?body1_⟩
 case' vals1_=>(repeat' (first|(with_reducible first|exact True.intro|refine And.intro ?_ ?_|refine Head.mk ?_ ?_ ?_ ?_)|((conv=>lhs;whnf);first|(with_reducible first|rfl|exact vInt_s (by omega))|exact rfl)|((conv=>whnf);first|(with_reducible first|exact True.intro|refine And.intro ?_ ?_)))) <;> (try (conv=>lhs;whnf))
 case' own1_=>(repeat' (first|(with_reducible first|exact True.intro|refine And.intro ?_ ?_|refine Head.mk ?_ ?_ ?_ ?_)|((conv=>lhs;whnf);first|(with_reducible first|rfl|exact vInt_s (by omega))|exact rfl)|((conv=>whnf);first|(with_reducible first|exact True.intro|refine And.intro ?_ ?_)))) <;> (try (conv=>lhs;whnf))
 case' fix1_=>(repeat' (first|(with_reducible first|exact True.intro|refine And.intro ?_ ?_|refine Head.mk ?_ ?_ ?_ ?_)|((conv=>lhs;whnf);first|(with_reducible first|rfl|exact vInt_s (by omega))|exact rfl)|((conv=>whnf);first|(with_reducible first|exact True.intro|refine And.intro ?_ ?_)))) <;> (try (conv=>lhs;whnf))
 ·exact congrArg vInt (by simp)
 ·exact ⟨Nat.zero_le _,fun j hj=>absurd hj (by omega)⟩
 rintro k g_ o_ v_ ⟨hk,hall⟩
 (repeat' (first|(with_reducible first|exact True.intro|refine zQ ?_|(refine zG hG_ ?_;intro K_ hK_)|(refine zR ?_;intro K_ hK_)|(refine hK_ _ _ ?_;try clear hK_ K_)|refine sq_n ?_|refine sq_r ?_|refine sq_e ?_|refine bq_n ?_|refine bq_r ?_|refine bq_q ?_|refine zB ?_|refine zX ?_|refine zT ?_|refine zK ?_|refine gq_n ?_|refine gq_r ?_|refine gq_e ?_|refine lq_n ?_|refine lq_r ?_|refine lq_e ?_|refine bq_e (by decide) ?_)|((with_reducible refine zC (b:=?b_) ?hb_ ?_ ?_);case hb_=>rfl)|((conv=>whnf);first|(with_reducible refine hK_ _ _ ?_;try clear hK_ K_)|(with_reducible refine fun (g_:Sl) (o_:Ow)=>?_)|(with_reducible first|exact True.intro|refine And.intro trivial ?_|refine And.intro ?_ ?_)|exact Nat.le_of_ble_eq_true rfl|exact Or.inl rfl|(intro h_;cases h_)|(intro h_;(try simp only [vS1] at h_))|rfl))) <;> (try (conv=>whnf)) <;> (try first|change (_:Int)≤_|change (_:Nat)≤_) <;> (try ((fail_if_success (with_reducible apply Exists.intro));(try dsimp only);(try simp only [vS1]))) <;> (try simp (disch:=omega) only [vS3,vS2] at *)
 all_goals (try (fail_if_success (with_reducible apply Exists.intro));first|with_reducible assumption|omega|exact mdl (by omega)|exact ilo1 (by omega)|exact ilo2 (by omega)|exact ihi1 (by omega) (by omega)|exact ihi2 (by omega) (by omega))
 ·exact (heldI_no ‹k < xs.length› (by assumption)).symm
 ·refine ⟨k + 1,by omega,⟨by omega,fun j hj=>?_⟩,?_⟩
  ·rcases Nat.lt_or_ge j k with h5|h5
   ·exact hall j h5
   ·rw [show j=k by omega];assumption
  ·(repeat' (first|(with_reducible first|exact True.intro|refine And.intro ?_ ?_|refine Head.mk ?_ ?_ ?_ ?_)|((conv=>lhs;whnf);first|(with_reducible first|rfl|exact vInt_s (by omega))|exact rfl)|((conv=>whnf);first|(with_reducible first|exact True.intro|refine And.intro ?_ ?_)))) <;> (try (conv=>lhs;whnf))
   exact congrArg vInt (by omega)
 ·rw [heldI_yes fun j hj=>hall j (by omega)];omega
def marksB (k:Int):Nat→List Bool
 | 0=>[]
 | n + 1=>(Int.tmod k 3 == 0) :: marksB (k + 1) n
theorem marksB_len:∀ (n:Nat) (k:Int),(marksB k n).length=n
 | 0,_=>rfl
 | n + 1,k=>by simp [marksB,marksB_len n]
def heldB (k:Int) (xs:List Bool):Int:=if xs=marksB k xs.length then k + xs.length else -1
theorem heldB_marks (k:Int) (n:Nat):heldB k (marksB k n)=k + n:=by unfold heldB;rw [marksB_len,if_pos rfl]
def markBsC:ConW:=mkConW [.sl (.b .bool),.int] 0 t_bool (fun x=>x.1.length≤1048576∧0≤x.2.1∧x.2.1≤1073741824) (fun x=>vInt (x.2.1 + x.1.length)) fun x=>⟨.b .bool,marksB x.2.1 x.1.length,false⟩
def totI:List (List Int)→Nat
 | []=>0
 | x :: r=>x.length + totI r
def heldSS:Int→List (List Int)→Int
 | k,[]=>k
 | k,x :: r=>if heldI k x < 0 then -1 else heldSS (heldI k x) r
def marksSS:Int→List (List Int)→List (List Int)
 | _,[]=>[]
 | k,x :: r=>marksI k x.length :: marksSS (k + x.length) r
theorem marksSS_len:∀ (k:Int) (xs:List (List Int)),(marksSS k xs).length=xs.length
 | _,[]=>rfl
 | k,x :: r=>by simp [marksSS,marksSS_len _ r]
theorem heldSS_marks:∀ (k:Int) (xs:List (List Int)),0≤k→heldSS k (marksSS k xs)=k + totI xs
 | k,[],_=>by simp [heldSS,marksSS,totI]
 | k,x :: r,h=>by
  unfold marksSS heldSS
  rw [heldI_marks,if_neg (by omega),heldSS_marks _ r (by omega)]
  simp only [totI];omega
theorem heldSS_marks1 (xs:List (List Int)):heldSS 1 (marksSS 1 xs)=1 + totI xs:=heldSS_marks 1 xs (by decide)
theorem totI_le:∀ {xs:List (List Int)} {m:Nat},(∀ y∈xs,y.length≤m)→totI xs≤xs.length * m
 | [],m,_=>Nat.zero_le _
 | x :: r,m,h=>by
  have h1:=h x (by simp)
  have h2:=totI_le (xs:=r) (m:=m) fun y hy=>h y (by simp [hy])
  simp only [totI,List.length_cons,Nat.add_mul];omega
theorem totI_take {xs:List (List Int)} {i:Nat} (h:i < xs.length):totI (xs.take (i + 1))=totI (xs.take i) + (xs.getD i []).length:=by
 induction xs generalizing i with
 | nil=>simp at h
 | cons x r ih=>cases i with
  | zero=>simp [totI]
  | succ i=>simp only [List.take_succ_cons,totI,List.getD_cons_succ];rw [ih (by simpa using h)];omega
theorem marksSS_get {k:Int} {xs:List (List Int)} {i:Nat} (h:i < xs.length):(marksSS k xs).getD i []=marksI (k + totI (xs.take i)) (xs.getD i []).length:=by
 induction xs generalizing k i with
 | nil=>simp at h
 | cons x r ih=>cases i with
  | zero=>simp [marksSS,totI]
  | succ i=>
   simp only [marksSS,List.getD_cons_succ,List.take_succ_cons,totI]
   rw [ih (by simpa using h)]
   congr 1;omega
theorem heldSS_drop {k:Int} {xs:List (List Int)} {i:Nat} (h:i < xs.length):heldSS k (xs.drop i)=if heldI k (xs.getD i []) < 0 then -1 else heldSS (heldI k (xs.getD i [])) (xs.drop (i + 1)):=by
 have e:xs.drop i=xs.getD i [] :: xs.drop (i + 1):=by
  rw [List.drop_eq_getElem_cons h,getD_lt _ h]
 rw [e];rfl
theorem heldI_range (k:Int) (xs:List Int):heldI k xs=-1∨heldI k xs=k + xs.length:=by unfold heldI;split <;> simp
theorem mem_getD {α:Type} {xs:List α} {i:Nat} {d:α} (h:i < xs.length):xs.getD i d∈xs:=by rw [getD_lt _ h];exact List.getElem_mem h
def okSS (xs:List (List Int)):Prop:=xs.length≤1024∧∀ y∈xs,y.length≤1024
theorem marksSS_le {m:Nat}:∀ {k:Int} {xs:List (List Int)},(∀ y∈xs,y.length≤m)→∀ y∈marksSS k xs,y.length≤m
 | _,[],_,y,hy=>by simp [marksSS] at hy
 | k,x :: r,h,y,hy=>by
  unfold marksSS at hy
  rcases List.mem_cons.1 hy with e|hy
  ·rw [e,marksI_len];exact h x (by simp)
  ·exact marksSS_le (fun z hz=>h z (by simp [hz])) y hy
def heldSSC:Con:=mkCon [.sl (.s .int),.int] (fun x=>okSS x.1∧0≤x.2.1∧x.2.1≤1024) fun x=>vI (heldSS x.2.1 x.1)
theorem heldIntSS_ok:Good1 Tryz.prog n_laws_heldIntSS heldSSC:=by
 refine good_ofG (tys:=tyL) (env:=[(n_laws_heldIntS,heldIsC)]) (envw:=[]) (envd:=[]) [] [] [] [] [] mixed tys ⟨heldIntS_ok,trivial⟩ trivial trivial Tryz.func21 rfl (by kernel_rfl) (by decide) (by kernel_rfl) ?_
 have hG_:=kpz [(0,[0,1]),(1,[0,1,5]),(2,[0,1,5,9]),(3,[0,1,5]),(4,[0,1,5]),(5,[0,1,5,19]),(6,[4]),(7,[4])] [] [] []
 rintro ⟨(xs:List (List Int)),(n:Int),⟨⟩⟩ ⟨⟨(h1:xs.length≤_),h2⟩,(h3:0≤n),(h4:n≤_)⟩
 have h2:PLift (∀ y∈xs,y.length≤1024):=⟨h2⟩
 (repeat' (first|(with_reducible first|exact True.intro|refine zQ ?_|(refine zG hG_ ?_;intro K_ hK_)|(refine zR ?_;intro K_ hK_)|(refine hK_ _ _ ?_;try clear hK_ K_)|refine sq_n ?_|refine sq_r ?_|refine sq_e ?_|refine bq_n ?_|refine bq_r ?_|refine bq_q ?_|refine zB ?_|refine zX ?_|refine zT ?_|refine zK ?_|refine gq_n ?_|refine gq_r ?_|refine gq_e ?_|refine lq_n ?_|refine lq_r ?_|refine lq_e ?_|refine bq_e (by decide) ?_)|((with_reducible refine zC (b:=?b_) ?hb_ ?_ ?_);case hb_=>rfl)|((conv=>whnf);first|(with_reducible refine hK_ _ _ ?_;try clear hK_ K_)|(with_reducible refine fun (g_:Sl) (o_:Ow)=>?_)|(with_reducible first|exact True.intro|refine And.intro trivial ?_|refine And.intro ?_ ?_)|exact Nat.le_of_ble_eq_true rfl|exact Or.inl rfl|(intro h_;cases h_)|(intro h_;(try simp only [vS1] at h_))|rfl))) <;> (try (conv=>whnf)) <;> (try first|change (_:Int)≤_|change (_:Nat)≤_) <;> (try ((fail_if_success (with_reducible apply Exists.intro));(try dsimp only);(try simp only [vS1]))) <;> (try simp (disch:=omega) only [vS3,vS2] at *)
 refine awp'_loopG (α:=Nat × Int) (fun s ver_=>[(5,vInt s.1),(1,vInt s.2)]) (fun s ver_=>[]) (fun s ver_=>[]) (fun s=>s.1≤xs.length∧(0≤s.2∧s.2≤n + 1024 * s.1)∧heldSS n xs=heldSS s.2 (xs.drop s.1)) (fun s=>xs.length - s.1) [0] [] ((0,n)) ?_
 conv=>whnf
 refine ⟨⟨?inv1_,?vals1_,?own1_,?fix1_⟩,?body1_⟩
 case' vals1_=>(repeat' (first|(with_reducible first|exact True.intro|refine And.intro ?_ ?_|refine Head.mk ?_ ?_ ?_ ?_)|((conv=>lhs;whnf);first|(with_reducible first|rfl|exact vInt_s (by omega))|exact rfl)|((conv=>whnf);first|(with_reducible first|exact True.intro|refine And.intro ?_ ?_)))) <;> (try (conv=>lhs;whnf))
 case' own1_=>(repeat' (first|(with_reducible first|exact True.intro|refine And.intro ?_ ?_|refine Head.mk ?_ ?_ ?_ ?_)|((conv=>lhs;whnf);first|(with_reducible first|rfl|exact vInt_s (by omega))|exact rfl)|((conv=>whnf);first|(with_reducible first|exact True.intro|refine And.intro ?_ ?_)))) <;> (try (conv=>lhs;whnf))
 case' fix1_=>(repeat' (first|(with_reducible first|exact True.intro|refine And.intro ?_ ?_|refine Head.mk ?_ ?_ ?_ ?_)|((conv=>lhs;whnf);first|(with_reducible first|rfl|exact vInt_s (by omega))|exact rfl)|((conv=>whnf);first|(with_reducible first|exact True.intro|refine And.intro ?_ ?_)))) <;> (try (conv=>lhs;whnf))
 ·exact ⟨Nat.zero_le _,⟨h3,by omega⟩,rfl⟩
 rintro ⟨k,v⟩ g_ o_ v_ ⟨hk,⟨hv0,hv1⟩,hall⟩
 simp only at hk hv0 hv1 hall
 have hle:∀ h:k < xs.length,(xs.getD k []).length≤1024:=fun h=>h2.down _ (mem_getD h)
 (repeat' (first|(with_reducible first|exact True.intro|refine zQ ?_|(refine zG hG_ ?_;intro K_ hK_)|(refine zR ?_;intro K_ hK_)|(refine hK_ _ _ ?_;try clear hK_ K_)|refine sq_n ?_|refine sq_r ?_|refine sq_e ?_|refine bq_n ?_|refine bq_r ?_|refine bq_q ?_|refine zB ?_|refine zX ?_|refine zT ?_|refine zK ?_|refine gq_n ?_|refine gq_r ?_|refine gq_e ?_|refine lq_n ?_|refine lq_r ?_|refine lq_e ?_|refine bq_e (by decide) ?_)|((with_reducible refine zC (b:=?b_) ?hb_ ?_ ?_);case hb_=>rfl)|((conv=>whnf);first|(with_reducible refine hK_ _ _ ?_;try clear hK_ K_)|(with_reducible refine fun (g_:Sl) (o_:Ow)=>?_)|(with_reducible first|exact True.intro|refine And.intro trivial ?_|refine And.intro ?_ ?_)|exact Nat.le_of_ble_eq_true rfl|exact Or.inl rfl|(intro h_;cases h_)|(intro h_;(try simp only [vS1] at h_))|rfl))) <;> (try (conv=>whnf)) <;> (try first|change (_:Int)≤_|change (_:Nat)≤_) <;> (try ((fail_if_success (with_reducible apply Exists.intro));(try dsimp only);(try simp only [vS1]))) <;> (try simp (disch:=omega) only [vS3,vS2] at *)
 all_goals (try (fail_if_success (with_reducible apply Exists.intro));first|with_reducible assumption|omega|exact mdl (by omega)|exact ilo1 (by omega)|exact ilo2 (by omega)|exact ihi1 (by omega) (by omega)|exact ihi2 (by omega) (by omega))
 ·exact Nat.le_trans (hle h_) (by decide)
 ·rw [hall,heldSS_drop h_,if_pos (by assumption)]
 ·have hr:=heldI_range v (xs.getD k [])
  have hl:=hle h_
  have hnn:¬ heldI v (xs.getD k []) < 0:=by assumption
  refine ⟨(k + 1,heldI v (xs.getD k [])),by simp only;omega,⟨by simp only;omega,⟨by simp only;omega,by simp only;omega⟩,?_⟩,?_⟩
  ·rw [hall,heldSS_drop h_,if_neg hnn]
  ·(repeat' (first|(with_reducible first|exact True.intro|refine And.intro ?_ ?_|refine Head.mk ?_ ?_ ?_ ?_)|((conv=>lhs;whnf);first|(with_reducible first|rfl|exact vInt_s (by omega))|exact rfl)|((conv=>whnf);first|(with_reducible first|exact True.intro|refine And.intro ?_ ?_)))) <;> (try (conv=>lhs;whnf))
 ·rw [hall,List.drop_eq_nil_of_le (by omega)];rfl
def markSSC:ConD:=mkConDW [.sl (.s .int),.int] 0 t_sl_int t_int (fun x=>okSS x.1∧0≤x.2.1∧x.2.1≤1024) (fun x=>vInt (x.2.1 + totI x.1)) fun x=>marksSS x.2.1 x.1
def mixSS (n:Int) (xs:List (List Int)) (k:Nat):List (List Int):=(marksSS n xs).take k ++ xs.drop k
theorem mixSS_len (n:Int) (xs:List (List Int)) {k:Nat} (h:k≤xs.length):(mixSS n xs k).length=xs.length:=by
 unfold mixSS
 rw [List.length_append,List.length_take,List.length_drop,marksSS_len];omega
theorem mixSS_get {n:Int} {xs:List (List Int)} {k:Nat} (h:k < xs.length):(mixSS n xs k).getD k []=xs.getD k []:=by
 unfold mixSS
 have h1:((marksSS n xs).take k).length=k:=by rw [List.length_take,marksSS_len];omega
 rw [List.getD_eq_getElem?_getD,List.getElem?_append_right (by omega),h1,Nat.sub_self,List.getElem?_drop,Nat.add_zero,← List.getD_eq_getElem?_getD]
theorem mixSS_set {n:Int} {xs:List (List Int)} {k:Nat} (h:k < xs.length):(mixSS n xs k).set k (marksI (n + totI (xs.take k)) (xs.getD k []).length)=mixSS n xs (k + 1):=by
 unfold mixSS
 rw [← marksSS_get h]
 exact mix_set h (marksSS_len n xs).symm []
end Go.Proofs.YtpafacebfogkmaaGreat
namespace Go.Proofs.YtpafacebfogkmaaGreat
def amid (a b c:Pt):Bool:=!(c.1 == a.1 && c.2 == a.2) && (!(c.1 == b.1 && c.2 == b.2) && onS c a b)
theorem amid_yes {a b c:Pt} (h1:(c.1 == a.1 && c.2 == a.2)=false) (h2:(c.1 == b.1 && c.2 == b.2)=false) (h3:onS c a b=true):amid a b c=true:=by unfold amid;rw [h1,h2,h3];rfl
theorem amid_iff {a b c:Pt}:amid a b c=true↔c≠a∧c≠b∧onS c a b=true:=by
 unfold amid
 rw [ptEq2,ptEq2]
 simp
abbrev cutsOf (xs:List Pt) (a b:Pt):List Pt:=[a,b] ++ xs.filter (amid a b)
def twP (p:Pt):Pt:=(IntKind.i64.wrap (2 * p.1),IntKind.i64.wrap (2 * p.2))
def sumP (a b:Pt):Pt:=(IntKind.i64.wrap (a.1 + b.1),IntKind.i64.wrap (a.2 + b.2))
def midM (xs:List Pt) (a b:Pt):Int:=placeM (xs.map twP) (sumP a b)
def sqd (a p:Pt):Int:=(a.1 - p.1) * (a.1 - p.1) + (a.2 - p.2) * (a.2 - p.2)
def OnZ (p a b:Pt):Prop:=turnZ a b p=0∧(min a.1 b.1≤p.1∧p.1≤max a.1 b.1)∧min a.2 b.2≤p.2∧p.2≤max a.2 b.2
theorem onS_iff {p a b:Pt} (hp:Bd p) (ha:Bd a) (hb:Bd b):onS p a b=true↔OnZ p a b:=by
 unfold onS OnZ
 rw [turn_exact ha hb hp]
 simp [btw]
theorem bd_on {p a b:Pt} (ha:Bd a) (hb:Bd b) (h:onS p a b=true):Bd p:=by
 unfold onS btw at h
 simp only [Bool.and_eq_true,decide_eq_true_eq] at h
 unfold Bd at *
 omega
structure Way (A B x y:Int):Prop where
 x0:0≤x
 xA:x≤A
 y0:0≤y
 yB:y≤B
 eq:A * y=B * x
theorem way_le {A B x y u v:Int} (h:Way A B x y) (k:Way A B u v):(x≤u∧y≤v)∨(u≤x∧v≤y):=by
 obtain ⟨h1,h2,h3,h4,h5⟩:=h
 obtain ⟨k1,k2,k3,k4,k5⟩:=k
 rcases Int.le_total x u with hx|hx
 ·rcases Int.le_total y v with hy|hy
  ·exact .inl ⟨hx,hy⟩
  ·by_cases hA:A=0
   ·subst hA;exact .inr ⟨by omega,hy⟩
   ·refine .inl ⟨hx,?_⟩
    have hB:0≤B:=by omega
    have:=Int.mul_le_mul_of_nonneg_left hx hB
    rw [← h5,← k5] at this
    exact Int.le_of_mul_le_mul_left this (by omega)
 ·rcases Int.le_total v y with hy|hy
  ·exact .inr ⟨hx,hy⟩
  ·by_cases hA:A=0
   ·subst hA;exact .inl ⟨by omega,hy⟩
   ·refine .inr ⟨hx,?_⟩
    have hB:0≤B:=by omega
    have:=Int.mul_le_mul_of_nonneg_left hx hB
    rw [← h5,← k5] at this
    exact Int.le_of_mul_le_mul_left this (by omega)
theorem sq_mono {x u:Int} (h0:0≤x) (h:x≤u):x * x≤u * u:=Int.mul_le_mul h h h0 (by omega)
theorem sq_strict {x u:Int} (h0:0≤x) (h:x < u):x * x < u * u:=by
 have h1:=sq_mono h0 (show x≤u - 1 by omega)
 have h2:(u - 1) * (u - 1)=u * u - 2 * u + 1:=by grind
 omega
theorem way_key {A B x y u v:Int} (h:Way A B x y) (k:Way A B u v) (hk:x * x + y * y≤u * u + v * v):x≤u∧y≤v:=by
 rcases way_le h k with c|⟨c1,c2⟩
 ·exact c
 ·have e1:=sq_mono k.x0 c1
  have e2:=sq_mono k.y0 c2
  refine ⟨?_,?_⟩
  ·rcases Int.lt_or_le u x with hlt|hge
   ·have:=sq_strict k.x0 hlt;omega
   ·exact hge
  ·rcases Int.lt_or_le v y with hlt|hge
   ·have:=sq_strict k.y0 hlt;omega
   ·exact hge
theorem way_turn {A B x y u v s t:Int} (h:Way A B x y) (k:Way A B u v) (l:Way A B s t):(u - x) * (t - y) - (v - y) * (s - x)=0:=by
 have h5:=h.eq
 have k5:=k.eq
 have l5:=l.eq
 by_cases hA:A=0
 ·have h1:=h.x0;have h2:=h.xA;have k1:=k.x0;have k2:=k.xA;have l1:=l.x0;have l2:=l.xA
  have e1:x=0:=by omega
  have e2:u=0:=by omega
  have e3:s=0:=by omega
  subst e1 e2 e3
  simp
 ·have e1:A * ((u - x) * (t - y) - (v - y) * (s - x))=0:=by grind
  exact (Int.mul_eq_zero.1 e1).resolve_left hA
theorem way_of {a b:Pt} (ha:Bd a) (hb:Bd b):∃ s t:Int,(s=1∨s=-1)∧(t=1∨t=-1)∧∀ p,onS p a b=true→Way (s * (b.1 - a.1)) (t * (b.2 - a.2)) (s * (p.1 - a.1)) (t * (p.2 - a.2)):=by
 have key:∀ s t:Int,(s=1∨s=-1)→(t=1∨t=-1)→0≤s * (b.1 - a.1)→0≤t * (b.2 - a.2)→∀ p,onS p a b=true→Way (s * (b.1 - a.1)) (t * (b.2 - a.2)) (s * (p.1 - a.1)) (t * (p.2 - a.2)):=by
  intro s t hs ht h1 h2 p hp
  obtain ⟨e0,e1,e2⟩:=(onS_iff (bd_on ha hb hp) ha hb).1 hp
  unfold turnZ at e0
  have e3:(s * (b.1 - a.1)) * (t * (p.2 - a.2))=(t * (b.2 - a.2)) * (s * (p.1 - a.1)):=by grind
  refine ⟨?_,?_,?_,?_,e3⟩ <;> rcases hs with rfl|rfl <;> rcases ht with rfl|rfl <;> omega
 rcases Int.le_total a.1 b.1 with h1|h1 <;> rcases Int.le_total a.2 b.2 with h2|h2
 ·exact ⟨1,1,.inl rfl,.inl rfl,key 1 1 (.inl rfl) (.inl rfl) (by omega) (by omega)⟩
 ·exact ⟨1,-1,.inl rfl,.inr rfl,key 1 (-1) (.inl rfl) (.inr rfl) (by omega) (by omega)⟩
 ·exact ⟨-1,1,.inr rfl,.inl rfl,key (-1) 1 (.inr rfl) (.inl rfl) (by omega) (by omega)⟩
 ·exact ⟨-1,-1,.inr rfl,.inr rfl,key (-1) (-1) (.inr rfl) (.inr rfl) (by omega) (by omega)⟩
theorem sqd_way {s t:Int} (hs:s=1∨s=-1) (ht:t=1∨t=-1) (a p:Pt):sqd a p=(s * (p.1 - a.1)) * (s * (p.1 - a.1)) + (t * (p.2 - a.2)) * (t * (p.2 - a.2)):=by
 unfold sqd
 rcases hs with rfl|rfl <;> rcases ht with rfl|rfl <;> grind
theorem key_inj {a b p q:Pt} (ha:Bd a) (hb:Bd b) (hp:onS p a b=true) (hq:onS q a b=true) (h:sqd a p=sqd a q):p=q:=by
 obtain ⟨s,t,hs,ht,hw⟩:=way_of ha hb
 rw [sqd_way hs ht,sqd_way hs ht] at h
 have h1:=way_key (hw p hp) (hw q hq) (by omega)
 have h2:=way_key (hw q hq) (hw p hp) (by omega)
 apply Prod.ext
 ·rcases hs with rfl|rfl <;> omega
 ·rcases ht with rfl|rfl <;> omega
theorem key_btw {a b p q r:Pt} (ha:Bd a) (hb:Bd b) (hp:onS p a b=true) (hq:onS q a b=true) (hr:onS r a b=true) (h:sqd a p≤sqd a q) :
  onS r p q=true↔sqd a p≤sqd a r∧sqd a r≤sqd a q:=by
 obtain ⟨s,t,hs,ht,hw⟩:=way_of ha hb
 rw [onS_iff (bd_on ha hb hr) (bd_on ha hb hp) (bd_on ha hb hq)]
 have wp:=hw p hp
 have wq:=hw q hq
 have wr:=hw r hr
 rw [sqd_way hs ht a p,sqd_way hs ht a q] at *
 have hpq:=way_key wp wq h
 have h0:=way_turn wp wq wr
 unfold OnZ turnZ
 rw [sqd_way hs ht a r]
 constructor
 ·rintro ⟨-,h1,h2⟩
  have k1:s * (p.1 - a.1)≤s * (r.1 - a.1)∧s * (r.1 - a.1)≤s * (q.1 - a.1):=by rcases hs with rfl|rfl <;> omega
  have k2:t * (p.2 - a.2)≤t * (r.2 - a.2)∧t * (r.2 - a.2)≤t * (q.2 - a.2):=by rcases ht with rfl|rfl <;> omega
  have:=sq_mono wp.x0 k1.1
  have:=sq_mono wp.y0 k2.1
  have:=sq_mono wr.x0 k1.2
  have:=sq_mono wr.y0 k2.2
  omega
 ·rintro ⟨h1,h2⟩
  have k1:=way_key wp wr h1
  have k2:=way_key wr wq h2
  refine ⟨?_,?_,?_⟩
  ·rcases hs with rfl|rfl <;> rcases ht with rfl|rfl <;> grind
  ·rcases hs with rfl|rfl <;> omega
  ·rcases ht with rfl|rfl <;> omega
theorem next_of {L:List Pt} {key:Pt→Int} (hs:L.Pairwise fun p q=>key p≤key q) (hn:L.Nodup) (hi:∀ p∈L,∀ q∈L,key p=key q→p=q) {p q:Pt} (hp:p∈L) (hq:q∈L) (hlt:key p < key q)
  (hf:∀ r∈L,r≠p→r≠q→¬ (key p≤key r∧key r≤key q)):∃ L1 L2,L=L1 ++ p :: q :: L2:=by
 obtain ⟨L1,R,rfl⟩:=List.append_of_mem hp
 obtain ⟨s1,s2,s3⟩:=List.pairwise_append.1 hs
 obtain ⟨n1,n2,n3⟩:=List.nodup_append.1 hn
 have hqR:q∈R:=by
  rcases List.mem_append.1 hq with h|h
  ·have:=s3 q h p (by simp);omega
  ·rcases List.mem_cons.1 h with h|h
   ·subst h;omega
   ·exact h
 cases R with
 | nil=>simp at hqR
 | cons r R=>
  have h1:key p≤key r:=(List.pairwise_cons.1 s2).1 r (by simp)
  have hrp:r≠p:=fun e=>(List.nodup_cons.1 n2).1 (by simp [e])
  have h2:key r≤key q:=by
   rcases List.mem_cons.1 hqR with h|h
   ·rw [h];exact Int.le_refl _
   ·exact (List.pairwise_cons.1 (List.pairwise_cons.1 s2).2).1 q h
  by_cases hrq:r=q
  ·subst hrq;exact ⟨L1,R,rfl⟩
  ·exact absurd ⟨h1,h2⟩ (hf r (by simp) hrp hrq)
theorem of_next {L L1 L2:List Pt} {key:Pt→Int} {p q:Pt} (e:L=L1 ++ p :: q :: L2) (hs:L.Pairwise fun p q=>key p≤key q) (hn:L.Nodup) (hi:∀ p∈L,∀ q∈L,key p=key q→p=q) :
  p≠q∧key p≤key q∧∀ r∈L,r≠p→r≠q→¬ (key p≤key r∧key r≤key q):=by
 subst e
 obtain ⟨s1,s2,s3⟩:=List.pairwise_append.1 hs
 obtain ⟨n1,n2,n3⟩:=List.nodup_append.1 hn
 refine ⟨fun e=>(List.nodup_cons.1 n2).1 (by simp [e]),(List.pairwise_cons.1 s2).1 q (by simp),fun r hr hrp hrq ⟨h1,h2⟩=>?_⟩
 rcases List.mem_append.1 hr with h|h
 ·have:=s3 r h p (by simp)
  exact hrp (hi r hr p (by simp) (by omega))
 ·rcases List.mem_cons.1 h with h|h
  ·exact hrp h
  ·rcases List.mem_cons.1 h with h|h
   ·exact hrq h
   ·have:=(List.pairwise_cons.1 (List.pairwise_cons.1 s2).2).1 r h
    exact hrq (hi r hr q (by simp) (by omega))
theorem split_at {L:List Pt} {u:Nat} (h:u + 1 < L.length):L=L.take u ++ pAt L u :: pAt L (u + 1) :: L.drop (u + 2):=by
 have e1:pAt L u=L[u]:=getD_lt _ (by omega)
 have e2:pAt L (u + 1)=L[u + 1]:=getD_lt _ h
 rw [e1,e2,← List.drop_eq_getElem_cons h,← List.drop_eq_getElem_cons (by omega),List.take_append_drop]
theorem at_split {L L1 L2:List Pt} {p q:Pt} (e:L=L1 ++ p :: q :: L2):L1.length + 1 < L.length∧pAt L L1.length=p∧pAt L (L1.length + 1)=q:=by
 subst e
 refine ⟨by simp,by simp [List.getD],by simp [List.getD,List.getElem?_append_right]⟩
theorem turn_same (a c:Pt):turn a a c=0:=by unfold turn;simp;rfl
theorem onS_self {a b:Pt}:onS a a b=true:=by
 have h0:turn a b a=0:=by
  unfold turn
  rw [show (b.1 - a.1) * (a.2 - a.2) - (b.2 - a.2) * (a.1 - a.1)=0 by simp]
  rfl
 unfold onS btw
 rw [h0]
 simp only [Bool.and_eq_true,decide_eq_true_eq]
 exact ⟨trivial,⟨by omega,by omega⟩,by omega,by omega⟩
theorem pCy_lt {xs:List Pt} {k:Nat} (h:k < xs.length):pCy xs k=pAt xs k:=by show xs.getD (k % xs.length) _=_;rw [Nat.mod_eq_of_lt h]
theorem room_ne {xs:List Pt} (h:roomOk xs=true) {k:Nat} (hk:k < xs.length):pAt xs k≠pCy xs (k + 1):=fun e=>by
 have:=(okAt_iff.1 ((roomOk_iff.1 h).2.2.1 k hk)).1
 rw [e,turn_same] at this
 exact this rfl
theorem room_pt {xs:List Pt} (h:roomOk xs=true) {k:Nat} (hk:k < xs.length):ptOk (pAt xs k)=true:=by
 rw [show pAt xs k=xs[k] from getD_lt _ hk]
 exact List.all_eq_true.1 (roomOk_iff.1 h).2.1 _ (List.getElem_mem hk)
theorem room_wallOk {xs:List Pt} (h:roomOk xs=true) {k:Nat} (hk:k < xs.length):wallOk (wl xs k)=true:=by
 have hn:0 < xs.length:=by omega
 unfold wallOk wl
 rw [room_pt h hk,show pCy xs (k + 1)=pAt xs ((k + 1) % xs.length) from rfl,room_pt h (Nat.mod_lt _ hn)]
 simp only [Bool.true_and,Bool.not_eq_true',decide_eq_false_iff_not]
 exact room_ne h hk
theorem room_nodup {xs:List Pt} (h:roomOk xs=true):xs.Nodup:=by
 have key:∀ i k,i < k→k < xs.length→pAt xs i≠pAt xs k:=by
  intro i k hik hk e
  have hok:=(roomOk_iff.1 h).2.2.1
  by_cases h1:k=i + 1
  ·subst h1
   exact room_ne h (k:=i) (by omega) (by rw [pCy_lt hk];exact e)
  ·by_cases h2:(k + 1) % xs.length=i
   ·exact room_ne h hk (by show _=xs.getD _ _;rw [h2];exact e.symm)
   ·have:=(okAt_iff.1 (hok i (by omega))).2 k hk (by omega) h2 (by rw [Nat.mod_eq_of_lt (by omega)];omega)
    unfold meet at this
    rw [room_wallOk h (by omega),room_wallOk h hk,show (wl xs i).1=(wl xs k).1 from e,onS_self] at this
    simp at this
 rw [List.nodup_iff_pairwise_ne,List.pairwise_iff_getElem]
 intro i j hi hj hij e
 have:=key i j hij hj
 rw [show pAt xs i=xs[i] from getD_lt _ hi,show pAt xs j=xs[j] from getD_lt _ hj] at this
 exact this e
def Sees (xs:List Pt) (a b:Pt):Prop:=(∀ k,k < xs.length→crs a b (wl xs k).1 (wl xs k).2=false) ∧
 ∀ p q,p∈cutsOf xs a b→q∈cutsOf xs a b→(p≠q∨a=b)→(∀ r∈cutsOf xs a b,r≠p→r≠q→onS r p q=false)→midM xs p q≠0
theorem cuts_mem {xs:List Pt} {a b p:Pt}:p∈cutsOf xs a b↔p=a∨p=b∨(p∈xs∧p≠a∧p≠b∧onS p a b=true):=by
 simp only [cutsOf,List.cons_append,List.nil_append,List.mem_cons,List.mem_filter,amid_iff]
theorem onS_end {a b:Pt}:onS b a b=true:=by rw [onS_comm];exact onS_self
theorem cuts_on {xs:List Pt} {a b p:Pt} (h:p∈cutsOf xs a b):onS p a b=true:=by
 rcases cuts_mem.1 h with rfl|rfl|h
 ·exact onS_self
 ·exact onS_end
 ·exact h.2.2.2
theorem cuts_nodup {xs:List Pt} {a b:Pt} (h:roomOk xs=true) (hab:a≠b):(cutsOf xs a b).Nodup:=by
 have h1:(xs.filter (amid a b)).Nodup:=(room_nodup h).filter _
 simp only [cutsOf,List.cons_append,List.nil_append,List.nodup_cons,List.mem_cons,List.mem_filter,amid_iff,not_or]
 exact ⟨⟨hab,fun h=>h.2.1 rfl⟩,fun h=>h.2.2.1 rfl,h1⟩
theorem on_point {a c:Pt} (h:onS c a a=true):c=a:=by
 unfold onS btw at h
 simp only [Bool.and_eq_true,decide_eq_true_eq] at h
 apply Prod.ext <;> omega
theorem cuts_same {xs:List Pt} {a:Pt}:cutsOf xs a a=[a,a]:=by
 have:xs.filter (amid a a)=[]:=List.filter_eq_nil_iff.2 fun c _ h=>(amid_iff.1 h).1 (on_point (amid_iff.1 h).2.2)
 rw [cutsOf,this];rfl
theorem sees_sorted {xs:List Pt} {a b:Pt} (hr:roomOk xs=true) (ha:ptOk a=true) (hb:ptOk b=true) {L:List Pt} (hp:L.Perm (cutsOf xs a b)) (hs:L.Pairwise fun p q=>sqd a p≤sqd a q) :
  (∀ u,u + 1 < L.length→midM xs (pAt L u) (pAt L (u + 1))≠0)↔∀ p q,p∈cutsOf xs a b→q∈cutsOf xs a b→(p≠q∨a=b)→(∀ r∈cutsOf xs a b,r≠p→r≠q→onS r p q=false)→midM xs p q≠0:=by
 have ba:=bd_of_ok ha
 have bb:=bd_of_ok hb
 have comm:∀ p q,midM xs p q=midM xs q p:=fun p q=>by unfold midM sumP;rw [Int.add_comm p.1,Int.add_comm p.2]
 by_cases hab:a=b
 ·subst hab
  rw [cuts_same] at hp ⊢
  have hL:L=[a,a]:=(List.perm_replicate (n:=2) (a:=a)).1 hp
  subst hL
  constructor
  ·intro h p q hp hq _ _
   have e1:p=a:=by simpa using hp
   have e2:q=a:=by simpa using hq
   subst e1 e2
   exact h 0 (by simp)
  ·intro h u hu
   have:u=0:=by simp at hu;omega
   subst this
   exact h a a (by simp) (by simp) (.inr rfl) (fun r hr h1=>absurd (by simpa using hr) h1)
 ·have hn:L.Nodup:=hp.nodup_iff.2 (cuts_nodup hr hab)
  have hmem:∀ p,p∈L↔p∈cutsOf xs a b:=fun p=>hp.mem_iff
  have hon:∀ p∈L,onS p a b=true:=fun p h=>cuts_on ((hmem p).1 h)
  have hi:∀ p∈L,∀ q∈L,sqd a p=sqd a q→p=q:=fun p hp q hq e=>key_inj ba bb (hon p hp) (hon q hq) e
  constructor
  ·intro h p q hp hq hpq hf
   have hpq:p≠q:=hpq.resolve_right hab
   have go:∀ p q,p∈L→q∈L→sqd a p < sqd a q→(∀ r∈L,r≠p→r≠q→onS r p q=false)→midM xs p q≠0:=by
    intro p q hp hq hlt hf
    obtain ⟨L1,L2,e⟩:=next_of (key:=sqd a) hs hn hi hp hq hlt fun r hr h1 h2 hk=>by
     have:=(key_btw ba bb (hon p hp) (hon q hq) (hon r hr) (by omega)).2 hk
     rw [hf r hr h1 h2] at this
     cases this
    obtain ⟨k1,k2,k3⟩:=at_split e
    have:=h _ k1
    rwa [k2,k3] at this
   have hp:=(hmem p).2 hp
   have hq:=(hmem q).2 hq
   rcases Int.lt_trichotomy (sqd a p) (sqd a q) with h1|h1|h1
   ·exact go p q hp hq h1 fun r hr=>hf r ((hmem r).1 hr)
   ·exact absurd (hi p hp q hq h1) hpq
   ·rw [comm]
    exact go q p hq hp h1 fun r hr h1 h2=>by rw [onS_comm];exact hf r ((hmem r).1 hr) h2 h1
  ·intro h u hu
   have e:=split_at hu
   obtain ⟨h1,h2,h3⟩:=of_next (key:=sqd a) e hs hn hi
   have m1:pAt L u∈L:=by rw [show pAt L u=L[u] from getD_lt _ (by omega)];exact List.getElem_mem _
   have m2:pAt L (u + 1)∈L:=by rw [show pAt L (u + 1)=L[u + 1] from getD_lt _ hu];exact List.getElem_mem _
   refine h _ _ ((hmem _).1 m1) ((hmem _).1 m2) (.inl h1) fun r hr k1 k2=>?_
   rw [← Bool.not_eq_true]
   intro k3
   exact h3 r ((hmem r).2 hr) k1 k2 ((key_btw ba bb (hon _ m1) (hon _ m2) (hon r ((hmem r).2 hr)) h2).1 k3)
def freeAt (ps:List Pt) (i k j:Nat):Bool:=decide (j=i) || (decide (j=k) || !onS (pAt ps j) (pAt ps i) (pAt ps k))
def freeTo (ps:List Pt) (i k j:Nat):Bool:=(List.range j).all (freeAt ps i k)
def midS (xs ps:List Pt) (i k:Nat):Int:=holdsM (xs.map twP) (sumP (pAt ps i) (pAt ps k))
def badPair (xs ps:List Pt) (i k:Nat):Bool:=freeTo ps i k ps.length && decide (midS xs ps i k < 0)
def seesS (xs:List Pt) (a b:Pt):Bool:=(List.range xs.length).all (fun k=>!crs a b (wl xs k).1 (wl xs k).2) && (List.range (cutsOf xs a b).length).all fun i=>(List.range i).all fun k=>!badPair xs (cutsOf xs a b) i k
theorem seesS_no1 {xs:List Pt} {a b:Pt} {k:Nat} (hk:k < xs.length) (h:crs a b (wl xs k).1 (wl xs k).2=true):seesS xs a b=false:=by
 unfold seesS
 rw [show (List.range xs.length).all (fun k=>!crs a b (wl xs k).1 (wl xs k).2)=false from List.all_eq_false.2 ⟨k,List.mem_range.2 hk,by rw [h];decide⟩]
 rfl
theorem seesS_no2 {xs:List Pt} {a b:Pt} {i k:Nat} (hi:i < (cutsOf xs a b).length) (hk:k < i) (h:badPair xs (cutsOf xs a b) i k=true):seesS xs a b=false:=by
 unfold seesS
 rw [show ((List.range (cutsOf xs a b).length).all fun i=>(List.range i).all fun k=>!badPair xs (cutsOf xs a b) i k)=false from
  List.all_eq_false.2 ⟨i,List.mem_range.2 hi,by rw [show ((List.range i).all fun k=>!badPair xs (cutsOf xs a b) i k)=false from List.all_eq_false.2 ⟨k,List.mem_range.2 hk,by rw [h];decide⟩];decide⟩]
 exact Bool.and_false _
theorem seesS_iff' {xs:List Pt} {a b:Pt}:seesS xs a b=true↔(∀ k,k < xs.length→crs a b (wl xs k).1 (wl xs k).2=false)∧∀ i,i < (cutsOf xs a b).length→∀ k,k < i→badPair xs (cutsOf xs a b) i k=false:=by
 unfold seesS
 simp only [Bool.and_eq_true,List.all_eq_true,List.mem_range,Bool.not_eq_true']
theorem seesS_yes {xs:List Pt} {a b:Pt} (h1:∀ k,k < xs.length→crs a b (wl xs k).1 (wl xs k).2=false) (h2:∀ i,i < (cutsOf xs a b).length→∀ k,k < i→badPair xs (cutsOf xs a b) i k=false):seesS xs a b=true:=seesS_iff'.2 ⟨h1,h2⟩
theorem freeTo_succ (ps:List Pt) (i k j:Nat):freeTo ps i k (j + 1)=(freeTo ps i k j && freeAt ps i k j):=by
 unfold freeTo
 rw [List.range_succ,List.all_append]
 simp
theorem freeTo_iff {ps:List Pt} {i k:Nat} {n:Nat}:freeTo ps i k n=true↔∀ j,j < n→j=i∨j=k∨onS (pAt ps j) (pAt ps i) (pAt ps k)=false:=by
 unfold freeTo freeAt
 simp only [List.all_eq_true,List.mem_range,Bool.or_eq_true,decide_eq_true_eq,Bool.not_eq_true']
theorem placeM_nonneg (xs:List Pt) (p:Pt):0≤placeM xs p:=by unfold placeM;split <;> (try split) <;> omega
theorem mid_holds {xs:List Pt} (h:∀ q∈xs,-40≤q.1∧q.1≤40∧-40≤q.2∧q.2≤40) {p q:Pt} (hp:-40≤p.1∧p.1≤40∧-40≤p.2∧p.2≤40) (hq:-40≤q.1∧q.1≤40∧-40≤q.2∧q.2≤40) :
  midM xs p q=holdsM (xs.map twP) (sumP p q) + 1:=by
 refine place_holds (fun c' hc'=>?_) ?_
 ·obtain ⟨c,hc,rfl⟩:=List.mem_map.1 hc'
  have:=h c hc
  unfold twP
  rw [W_in (by omega) (by omega),W_in (by omega) (by omega)]
  unfold Bd
  simp only
  omega
 ·unfold sumP
  rw [W_in (by omega) (by omega),W_in (by omega) (by omega)]
  unfold Bd
  simp only
  omega
theorem on_pt40 {p a b:Pt} (ha:ptOk a=true) (hb:ptOk b=true) (h:onS p a b=true):-40≤p.1∧p.1≤40∧-40≤p.2∧p.2≤40:=by
 rw [ptOk_iff] at ha hb
 unfold onS btw at h
 simp only [Bool.and_eq_true,decide_eq_true_eq] at h
 omega
theorem pAt_mem {L:List Pt} {u:Nat} (h:u < L.length):pAt L u∈L:=by rw [show pAt L u=L[u] from getD_lt _ h];exact List.getElem_mem _
theorem seesS_iff {xs:List Pt} {a b:Pt} (hr:roomOk xs=true) (ha:ptOk a=true) (hb:ptOk b=true):seesS xs a b=true↔Sees xs a b:=by
 rw [seesS_iff']
 refine and_congr_right fun _=>?_
 have hb40:∀ p∈cutsOf xs a b,-40≤p.1∧p.1≤40∧-40≤p.2∧p.2≤40:=fun p h=>on_pt40 ha hb (cuts_on h)
 have hmid:∀ p q,p∈cutsOf xs a b→q∈cutsOf xs a b→midM xs p q=holdsM (xs.map twP) (sumP p q) + 1:=fun p q hp hq=>mid_holds (pt_of_room hr) (hb40 p hp) (hb40 q hq)
 have comm:∀ p q,midM xs p q=midM xs q p:=fun p q=>by unfold midM sumP;rw [Int.add_comm p.1,Int.add_comm p.2]
 have hbad:∀ i k,i < (cutsOf xs a b).length→k < (cutsOf xs a b).length→(badPair xs (cutsOf xs a b) i k=false↔((∀ j,j < (cutsOf xs a b).length→j=i∨j=k∨onS (pAt (cutsOf xs a b) j) (pAt (cutsOf xs a b) i) (pAt (cutsOf xs a b) k)=false)→midM xs (pAt (cutsOf xs a b) i) (pAt (cutsOf xs a b) k)≠0)):=by
  intro i k hi hk
  have h1:=hmid _ _ (pAt_mem hi) (pAt_mem hk)
  have h2:=placeM_nonneg (xs.map twP) (sumP (pAt (cutsOf xs a b) i) (pAt (cutsOf xs a b) k))
  have h2:0≤midM xs (pAt (cutsOf xs a b) i) (pAt (cutsOf xs a b) k):=h2
  unfold badPair midS
  rw [← freeTo_iff,Bool.and_eq_false_iff,decide_eq_false_iff_not]
  constructor
  ·rintro (h|h) hf
   ·rw [hf] at h;cases h
   ·omega
  ·intro h
   cases hf:freeTo (cutsOf xs a b) i k (cutsOf xs a b).length with
   | false=>exact .inl rfl
   | true=>have:=h hf;exact .inr (by omega)
 by_cases hab:a=b
 ·subst hab
  constructor
  ·intro h p q hp hq _ _
   have h10:=(hbad 1 0 (by rw [cuts_same];simp) (by rw [cuts_same];simp)).1 (h 1 (by rw [cuts_same];simp) 0 (by omega))
   rw [cuts_same] at hp hq h10
   have e1:p=a:=by simpa using hp
   have e2:q=a:=by simpa using hq
   subst e1 e2
   exact h10 fun j hj=>by
    have:j < 2:=hj
    omega
  ·intro h i hi k hk
   have hi':i < 2:=by rw [cuts_same] at hi;exact hi
   have e1:i=1:=by omega
   have e2:k=0:=by omega
   subst e1 e2
   refine (hbad 1 0 hi (by omega)).2 fun _=>?_
   have:=h a a (by rw [cuts_same];simp) (by rw [cuts_same];simp) (.inr rfl) (fun r hr h1=>by rw [cuts_same] at hr;exact absurd (by simpa using hr) h1)
   rw [cuts_same]
   exact this
 ·have hn:=cuts_nodup hr hab
  have inj:∀ i j,i < (cutsOf xs a b).length→j < (cutsOf xs a b).length→pAt (cutsOf xs a b) i=pAt (cutsOf xs a b) j→i=j:=fun i j hi hj e=>by
   rw [show pAt (cutsOf xs a b) i=(cutsOf xs a b)[i] from getD_lt _ hi,show pAt (cutsOf xs a b) j=(cutsOf xs a b)[j] from getD_lt _ hj] at e
   exact (List.getElem_inj hn).1 e
  have idx:∀ p∈cutsOf xs a b,∃ i,i < (cutsOf xs a b).length∧pAt (cutsOf xs a b) i=p:=fun p hp=>by
   obtain ⟨i,hi,e⟩:=List.getElem_of_mem hp
   exact ⟨i,hi,(getD_lt _ hi).trans e⟩
  constructor
  ·intro h p q hp hq hpq hf
   obtain ⟨i,hi,rfl⟩:=idx p hp
   obtain ⟨k,hk,rfl⟩:=idx q hq
   have hne:i≠k:=fun e=>(hpq.resolve_right hab) (by rw [e])
   have go:∀ i k,i < (cutsOf xs a b).length→k < i→(∀ r∈cutsOf xs a b,r≠pAt (cutsOf xs a b) i→r≠pAt (cutsOf xs a b) k→onS r (pAt (cutsOf xs a b) i) (pAt (cutsOf xs a b) k)=false)→midM xs (pAt (cutsOf xs a b) i) (pAt (cutsOf xs a b) k)≠0:=by
    intro i k hi hk hf
    refine (hbad i k hi (by omega)).1 (h i hi k hk) fun j hj=>?_
    by_cases h1:j=i
    ·exact .inl h1
    ·by_cases h2:j=k
     ·exact .inr (.inl h2)
     ·exact .inr (.inr (hf _ (pAt_mem hj) (fun e=>h1 (inj _ _ hj hi e)) fun e=>h2 (inj _ _ hj (by omega) e)))
   rcases Nat.lt_or_ge k i with hlt|hge
   ·exact go i k hi hlt hf
   ·rw [comm]
    exact go k i hk (by omega) fun r hr h1 h2=>by rw [onS_comm];exact hf r hr h2 h1
  ·intro h i hi k hk
   refine (hbad i k hi (by omega)).2 fun hf=>?_
   refine h _ _ (pAt_mem hi) (pAt_mem (by omega)) (.inl fun e=>by have:=inj _ _ hi (by omega) e;omega) fun r hr h1 h2=>?_
   obtain ⟨j,hj,rfl⟩:=idx r hr
   rcases hf j hj with e|e|e
   ·exact absurd (by rw [e]) h1
   ·exact absurd (by rw [e]) h2
   ·exact e
theorem turn_swap {a b c:Pt} (ha:Bd a) (hb:Bd b) (hc:Bd c):turn b a c=- turn a b c:=by
 rw [turn_exact ha hb hc,turn_exact hb ha hc];unfold turnZ;grind
theorem sgn_neg (n:Int):sgn (-n)=- sgn n:=by unfold sgn;split <;> split <;> (try split) <;> omega
theorem crs_swap {a b c d:Pt} (ha:Bd a) (hb:Bd b) (hc:Bd c) (hd:Bd d):crs b a c d=crs a b c d:=by
 unfold crs
 rw [turn_swap ha hb hc,turn_swap ha hb hd,sgn_neg,sgn_neg,Int.neg_mul_neg,Int.mul_comm (sgn (turn c d b))]
theorem cuts_swap {xs:List Pt} {a b p:Pt}:p∈cutsOf xs b a↔p∈cutsOf xs a b:=by
 rw [cuts_mem,cuts_mem,onS_comm p b a]
 constructor <;> (rintro (h|h|h);exact .inr (.inl h);exact .inl h;exact .inr (.inr ⟨h.1,h.2.2.1,h.2.1,h.2.2.2⟩))
theorem Sees.swap {xs:List Pt} {a b:Pt} (hr:roomOk xs=true) (ha:ptOk a=true) (hb:ptOk b=true) (h:Sees xs a b):Sees xs b a:=by
 refine ⟨fun k hk=>?_,fun p q hp hq hpq hf=>h.2 p q (cuts_swap.1 hp) (cuts_swap.1 hq) (hpq.imp id Eq.symm) fun r hr=>hf r (cuts_swap.2 hr)⟩
 have hbd:=bd_of_room hr
 show crs b a (pAt xs k) (pCy xs (k + 1))=false
 rw [crs_swap (bd_of_ok ha) (bd_of_ok hb) (pAt_bd hbd hk) (pCy_bd hbd (by omega))]
 exact h.1 k hk
end Go.Proofs.YtpafacebfogkmaaGreat
namespace Go.Proofs.YtpafacebfogkmaaGreat
open Go.Shelf Go.RowKit Go.Lib Go.Sort Go.Proofs.YtpafacebfogkmaaGreat.Nm
def sort_ren:Go.Shelf.Ren:=⟨fun|6=>98|14=>113|15=>61|20=>120|21=>121|22=>122|23=>123|24=>124|25=>125|26=>126|27=>127|28=>93|29=>94|46=>128|47=>109|48=>110|49=>129|50=>130|57=>131|n=>n,fun|0=>0|3=>3|4=>4|5=>5|9=>9|22=>24|24=>60|25=>113|39=>82|45=>98|46=>99|50=>103|53=>106|55=>108|66=>118|70=>122|76=>126|77=>127|n=>n,fun n=>n⟩
theorem sort_lay:SlLaysF0.n6 Tryz.prog sort_ren:={
 mixed:=by kernel_rfl
 f6:=⟨Tryz.f98.name,by decide,Tryz.func98.trans (congrArg some (by kernel_rfl))⟩
 f14:=⟨Tryz.f113.name,by decide,Tryz.func113.trans (congrArg some (by kernel_rfl))⟩
 f15:=Tryz.func61.trans (congrArg some (by kernel_rfl))
 f20:=⟨Tryz.f120.name,by decide,Tryz.func120.trans (congrArg some (by kernel_rfl))⟩
 f21:=⟨Tryz.f121.name,by decide,Tryz.func121.trans (congrArg some (by kernel_rfl))⟩
 f22:=⟨Tryz.f122.name,by decide,Tryz.func122.trans (congrArg some (by kernel_rfl))⟩
 f23:=⟨Tryz.f123.name,by decide,Tryz.func123.trans (congrArg some (by kernel_rfl))⟩
 f24:=⟨Tryz.f124.name,by decide,Tryz.func124.trans (congrArg some (by kernel_rfl))⟩
 f25:=⟨Tryz.f125.name,by decide,Tryz.func125.trans (congrArg some (by kernel_rfl))⟩
 f26:=⟨Tryz.f126.name,by decide,Tryz.func126.trans (congrArg some (by kernel_rfl))⟩
 f27:=⟨Tryz.f127.name,by decide,Tryz.func127.trans (congrArg some (by kernel_rfl))⟩
 f28:=Tryz.func93.trans (congrArg some (by kernel_rfl))
 f29:=Tryz.func94.trans (congrArg some (by kernel_rfl))
 f46:=⟨Tryz.f128.name,by decide,Tryz.func128.trans (congrArg some (by kernel_rfl))⟩
 f47:=Tryz.func109.trans (congrArg some (by kernel_rfl))
 f48:=Tryz.func110.trans (congrArg some (by kernel_rfl))
 f49:=⟨Tryz.f129.name,by decide,Tryz.func129.trans (congrArg some (by kernel_rfl))⟩
 f50:=⟨Tryz.f130.name,by decide,Tryz.func130.trans (congrArg some (by kernel_rfl))⟩
 f57:=⟨Tryz.f131.name,by decide,Tryz.func131.trans (congrArg some (by kernel_rfl))⟩
 t0:=Tryz.underlying0
 a0:=Tryz.isAgg0
 z0:=Tryz.sizeOf0
 v0:=Tryz.zeroValue0
 t3:=Tryz.underlying3
 a3:=Tryz.isAgg3
 z3:=Tryz.sizeOf3
 v3:=Tryz.zeroValue3
 t4:=Tryz.underlying4
 a4:=Tryz.isAgg4
 z4:=Tryz.sizeOf4
 v4:=Tryz.zeroValue4
 t5:=Tryz.underlying5
 a5:=Tryz.isAgg5
 z5:=Tryz.sizeOf5
 v5:=Tryz.zeroValue5
 t9:=Tryz.underlying9
 a9:=Tryz.isAgg9
 z9:=Tryz.sizeOf9
 v9:=Tryz.zeroValue9
 t22:=Tryz.underlying24
 a22:=Tryz.isAgg24
 z22:=Tryz.sizeOf24
 v22:=Tryz.zeroValue24
 t25:=Tryz.underlying113
 a25:=Tryz.isAgg113
 z25:=Tryz.sizeOf113
 v25:=Tryz.zeroValue113
 t39:=Tryz.underlying82
 a39:=Tryz.isAgg82
 z39:=Tryz.sizeOf82
 v39:=Tryz.zeroValue82
 t45:=Tryz.underlying98
 a45:=Tryz.isAgg98
 z45:=Tryz.sizeOf98
 v45:=Tryz.zeroValue98
 t46:=Tryz.underlying99
 a46:=Tryz.isAgg99
 z46:=Tryz.sizeOf99
 v46:=Tryz.zeroValue99
 t50:=Tryz.underlying103
 a50:=Tryz.isAgg103
 z50:=Tryz.sizeOf103
 v50:=Tryz.zeroValue103
 t53:=Tryz.underlying106
 a53:=Tryz.isAgg106
 z53:=Tryz.sizeOf106
 v53:=Tryz.zeroValue106
 t55:=Tryz.underlying108
 a55:=Tryz.isAgg108
 z55:=Tryz.sizeOf108
 v55:=Tryz.zeroValue108
 t66:=Tryz.underlying118
 a66:=Tryz.isAgg118
 z66:=Tryz.sizeOf118
 v66:=Tryz.zeroValue118
 t70:=Tryz.underlying122
 a70:=Tryz.isAgg122
 z70:=Tryz.sizeOf122
 v70:=Tryz.zeroValue122
 t76:=Tryz.underlying126
 a76:=Tryz.isAgg126
 z76:=Tryz.sizeOf126
 v76:=Tryz.zeroValue126
 t77:=Tryz.underlying127
 a77:=Tryz.isAgg127
 z77:=Tryz.sizeOf127
 v77:=Tryz.zeroValue127
}
theorem sort_agg:∀ w,(isAgg (sort_ren.t 24)).run Tryz.prog w=.ok true w:=Tryz.isAgg60
theorem sort_size:∀ w,(Go.sizeOf (sort_ren.t 24)).run Tryz.prog w=.ok 2 w:=Tryz.sizeOf60
abbrev Pt2:=Int × Int
def encP (x:Pt2):List Value:=[.int .i64 x.1,.int .i64 x.2]
theorem encP_len (x:Pt2):(encP x).length=2:=rfl
theorem encP_one (x:Pt2):∀ v∈encP x,v.oneCell'=true:=by
 intro v hv
 simp only [encP,List.mem_cons,List.not_mem_nil,or_false] at hv
 rcases hv with rfl|rfl <;> rfl
theorem flatP_get {xs:List Pt2} {i:Nat} {x:Pt2} (h:xs[i]?=some x) {j:Nat} {u:Value} (hu:(encP x)[j]?=some u):(flatK encP 2 xs.toArray).toList[i * 2 + j]?=some u:=by
 have hi:i < xs.length:=(List.getElem?_eq_some_iff.1 h).1
 have hj:j < 2:=by have:=(List.getElem?_eq_some_iff.1 hu).1;simpa [encP] using this
 have hlt:i * 2 + j < xs.toArray.size * 2:=by simp;omega
 have hg:=get_flatK encP 2 xs.toArray (i * 2 + j) hlt
 rw [show (i * 2 + j) / 2=i by omega,show (i * 2 + j) % 2=j by omega] at hg
 rw [Array.getElem?_toList]
 have hs:i * 2 + j < (flatK encP 2 xs.toArray).size:=by rw [size_flatK];exact hlt
 rw [getElem!_pos (flatK encP 2 xs.toArray) (i * 2 + j) hs] at hg
 rw [Array.getElem?_eq_getElem hs,hg]
 have hx:xs.toArray[i]! = x:=by rw [getElem!_pos xs.toArray i (by simpa using hi)];simp [(List.getElem?_eq_some_iff.1 h).2]
 rw [hx]
 rw [getElem!_pos (encP x) j (by simpa [encP] using hj)]
 rw [List.getElem?_eq_getElem (by simpa [encP] using hj)] at hu
 exact hu
theorem flat_one (xs:List Pt2):∀ v∈(flatK encP 2 xs.toArray).toList,v.oneCell'=true:=by
 intro v hv
 obtain ⟨t,ht,rfl⟩:=Array.getElem_of_mem (Array.mem_toList_iff.1 hv)
 have ht':t < xs.toArray.size * 2:=by rw [size_flatK] at ht;exact ht
 have hg:=get_flatK encP 2 xs.toArray t ht'
 rw [getElem!_pos (flatK encP 2 xs.toArray) t ht] at hg
 rw [hg]
 have:t % 2 < 2:=Nat.mod_lt _ (by omega)
 have hm:t % 2=0∨t % 2=1:=by omega
 rcases hm with h|h <;> rw [h] <;> rfl
theorem rowC_flat (w:World) (F:Nat→Prop) (xs:List Pt2):RowC w F (.b .pt) xs (flatK encP 2 xs.toArray).toList:=
 ⟨flat_one xs,fun i x hx=>⟨encP x,rfl,rfl,fun j u hu=>flatP_get hx hu⟩⟩
theorem holds_of_own {w:World} {F:Nat→Prop} {ty:TypeId} {s:Value} {xs:List Pt2} {cells:List Value} (hw:w.ownsRow 0 ty 2 s xs.length cells) (hr:RowC w F (.b .pt) xs cells) (hne:0 < xs.length) :
  ∃ g cap cur,s=.slice (some ⟨g,0,none⟩) xs.length cap∧w.heap[g]?=some (.cells cur ty (0,0))∧xs.length≤cap∧cap≤maxLen∧cur.size=cap * 2∧HoldsK encP 2 w g 0 xs.toArray:=by
 rcases hw.2 with ⟨_,h0⟩|⟨g,cap,cur,hv,_,hh,hn,hm,hs,ht⟩
 ·omega
 refine ⟨g,cap,cur,hv,hh,hn,hm,hs,fun t ht'=>?_⟩
 rw [size_flatK] at ht'
 have ht2:t < xs.length * 2:=by simpa using ht'
 have hlt:t < cur.size:=by rw [hs];exact Nat.lt_of_lt_of_le ht2 (Nat.mul_le_mul_right 2 hn)
 have hi:t / 2 < xs.length:=by omega
 obtain ⟨us,hul,hue,hus⟩:=hr.2 (t / 2) xs[t / 2] (List.getElem?_eq_getElem hi)
 have hue:us=encP xs[t / 2]:=hue
 subst hue
 have hj:t % 2 < 2:=Nat.mod_lt _ (by omega)
 have hc:=hus (t % 2) (encP xs[t / 2])[t % 2] (List.getElem?_eq_getElem (by exact hj))
 rw [show t / 2 * (ElK.b ElB.pt).size + t % 2=t by show t / 2 * 2 + t % 2=t;omega,← ht,List.getElem?_take_of_lt (by exact ht2),Array.getElem?_toList] at hc
 have hfl:=flatP_get (xs:=xs) (i:=t / 2) (List.getElem?_eq_getElem hi) (j:=t % 2) (List.getElem?_eq_getElem (by exact hj))
 rw [show t / 2 * 2 + t % 2=t by omega,Array.getElem?_toList] at hfl
 have hsz:t < (flatK encP 2 xs.toArray).size:=by rw [size_flatK];exact ht'
 rw [Array.getElem?_eq_getElem hsz] at hfl
 rw [getElem!_pos (flatK encP 2 xs.toArray) t hsz,Option.some.inj hfl]
 constructor
 ·simp only [World.cell?,hh,Nat.zero_add]
  simpa using hc
 ·simp [World.frozen?,hh]
theorem after_sort {w:World} {ty:TypeId} {g cap n:Nat} {cur:Array Value} {ys:List Pt2} {os:Array Obj} (hh:w.heap[g]?=some (.cells cur ty (0,0))) (hn:ys.length≤cap) (hm:cap≤maxLen) (hs:cur.size=cap * 2) :
  w.grownBy (sortWorldK encP 2 w g 0 n ys.toArray os) (some g)∧(sortWorldK encP 2 w g 0 n ys.toArray os).ownsRow 0 ty 2 (.slice (some ⟨g,0,none⟩) ys.length cap) ys.length (flatK encP 2 ys.toArray).toList:=by
 have hg:g < w.heap.size:=lt_of_block hh
 have hheap:(sortWorldK encP 2 w g 0 n ys.toArray os).heap=w.heap.modify g (onCells (Go.Sort.putCells id 0 (flatK encP 2 ys.toArray))) ++ os:=rfl
 have hfs:(flatK encP 2 ys.toArray).size=ys.length * 2:=by rw [size_flatK];simp
 have hpre:∀ k,k < w.heap.size→(sortWorldK encP 2 w g 0 n ys.toArray os).heap[k]?=(w.heap.modify g (onCells (Go.Sort.putCells id 0 (flatK encP 2 ys.toArray))))[k]?:=fun k hk=>by
  rw [hheap,Array.getElem?_append_left (by rw [Array.size_modify];exact hk)]
 refine ⟨⟨rfl,rfl,rfl,by rw [hheap,Array.size_append,Array.size_modify];omega,fun k hk hne=>?_⟩,by rw [Array.length_toList,hfs],.inr ⟨g,cap,Go.Sort.putCells id 0 (flatK encP 2 ys.toArray) cur,rfl,Nat.zero_le _,?_,hn,hm,?_,?_⟩⟩
 ·rw [hpre k hk,Array.getElem?_modify,if_neg (fun e=>hne (by rw [e]))]
 ·rw [hpre g hg,Array.getElem?_modify,if_pos rfl,hh];rfl
 ·rw [← hs];simp [Go.Sort.putCells]
 ·refine List.ext_getElem? fun i=>?_
  rcases Nat.lt_or_ge i (ys.length * 2) with hi|hi
  ·rw [List.getElem?_take_of_lt hi,Array.getElem?_toList,Array.getElem?_toList]
   have hc:i < cur.size:=by rw [hs];exact Nat.lt_of_lt_of_le hi (Nat.mul_le_mul_right 2 hn)
   have hf:i < (flatK encP 2 ys.toArray).size:=by rw [hfs];exact hi
   simp only [Go.Sort.putCells,Array.getElem?_mapIdx,Array.getElem?_eq_getElem hc,Array.getElem?_eq_getElem hf,Option.map_some,Nat.zero_le,true_and,Nat.zero_add,hf,if_true,id,Nat.sub_zero]
   rw [getElem!_pos (flatK encP 2 ys.toArray) i hf]
  ·rw [List.getElem?_eq_none (by rw [List.length_take];omega),List.getElem?_eq_none (by rw [Array.length_toList,hfs];exact hi)]
def sqM (a b:Pt2):Int:=wrap64 (wrap64 (wrap64 (a.1 - b.1) * wrap64 (a.1 - b.1)) + wrap64 (wrap64 (a.2 - b.2) * wrap64 (a.2 - b.2)))
set_option maxHeartbeats 1000000 in
theorem square_k (x y:Pt2) (W:World):Calls Tryz.prog 100 #[.agg #[.int .i64 x.1,.int .i64 x.2],.agg #[.int .i64 y.1,.int .i64 y.2]] W fun e w'=>e=.returned (.int .i64 (sqM x y))∧∃ q os',w'=grow (W.drewN q) os':=by
 go_enter Tryz.func100,Tryz.ntmps100
 go_wp2
 go_ret
 exact ⟨rfl,0,_,by rw [alloc_eq_grow,alloc_eq_grow,grow_grow];rfl⟩
def cbCmp (a x y:Pt2):Int:=IntKind.i64.wrap (sqM a x - sqM a y)
theorem addr_plain {W:World} {ad:Addr} {v:Value} (h:W.cell? ad=some v):∃ b o,ad=⟨b,o,none⟩:=by
 obtain ⟨b,o,sp⟩:=ad
 cases sp with
 | none=>exact ⟨b,o,rfl⟩
 | some s=>simp only [World.cell?] at h;split at h <;> simp at h
set_option maxHeartbeats 2000000 in
theorem cb_k (a x y:Pt2) (ad:Addr) (W:World) (h0:W.cell? ad=some (.int .i64 a.1)) (h1:W.cell? (ad.add 1)=some (.int .i64 a.2)) (hl:ad.block < W.heap.size) :
  Calls Tryz.prog 99 #[.agg #[.int .i64 x.1,.int .i64 x.2],.agg #[.int .i64 y.1,.int .i64 y.2],.pointer (some ad)] W fun e w'=>e=.returned (.int .i64 (cbCmp a x y))∧∃ q os',w'=grow (W.drewN q) os':=by
 obtain ⟨b,o,rfl⟩:=addr_plain h0
 have h1:W.cell? ⟨b,o + 1,none⟩=some (.int .i64 a.2):=h1
 have hl:b < W.heap.size:=hl
 have mixed:Tryz.prog.follows .mixedOrders=true:=by kernel_rfl
 have hcon:=fun x y W'=>square_k x y W'
 go_enter Tryz.func99,Tryz.ntmps99
 go_wp2
 have hwq:∃ W2:World,W2=(W.alloc (.cells #[.int .i64 x.1,.int .i64 x.2] 60)).alloc (.cells #[.int .i64 y.1,.int .i64 y.2] 60):=⟨_,rfl⟩
 obtain ⟨W2,hW2⟩:=hwq
 have hgr:W2=grow W #[.cells #[.int .i64 x.1,.int .i64 x.2] 60,.cells #[.int .i64 y.1,.int .i64 y.2] 60]:=by rw [hW2,alloc_eq_grow,alloc_eq_grow,grow_grow];rfl
 have hsz:W2.heap.size=W.heap.size + 2:=by rw [hgr,size_grow];rfl
 have ca0:∀ n os,(grow (W2.drewN n) os).cell? ⟨b,o,none⟩=some (.int .i64 a.1):=cell_grown (by rw [hsz];show b < _;omega) (by rw [hgr,cell?_grow _ _ _ hl];exact h0)
 have ca1:∀ n os,(grow (W2.drewN n) os).cell? ⟨b,o + 1,none⟩=some (.int .i64 a.2):=cell_grown (by rw [hsz];show b < _;omega) (by rw [hgr,cell?_grow _ _ _ hl];exact h1)
 have cx0:∀ n os,(grow (W2.drewN n) os).cell? ⟨W.heap.size,0,none⟩=some (.int .i64 x.1):=cell_grown (by rw [hsz];show W.heap.size < _;omega) (by rw [hW2];simp)
 have cx1:∀ n os,(grow (W2.drewN n) os).cell? ⟨W.heap.size,1,none⟩=some (.int .i64 x.2):=cell_grown (by rw [hsz];show W.heap.size < _;omega) (by rw [hW2];simp)
 have cy0:∀ n os,(grow (W2.drewN n) os).cell? ⟨W.heap.size + 1,0,none⟩=some (.int .i64 y.1):=cell_grown (by rw [hsz];show W.heap.size + 1 < _;omega) (by rw [hW2];simp)
 have cy1:∀ n os,(grow (W2.drewN n) os).cell? ⟨W.heap.size + 1,1,none⟩=some (.int .i64 y.2):=cell_grown (by rw [hsz];show W.heap.size + 1 < _;omega) (by rw [hW2];simp)
 rw [← hW2]
 have HGR:Hid (W2=grow W #[.cells #[.int .i64 x.1,.int .i64 x.2] 60,.cells #[.int .i64 y.1,.int .i64 y.2] 60]):=hgr
 clear hW2 hgr hsz h0 h1
 have eg:∀ args w,(callFunc 100 args).run Tryz.prog w=.ok (.enter 100 args) w:=enters_of Tryz.func100 (by kernel_rfl) rfl
 go_quiet_grown (first|(go_at_fn 100;refine Calls.grown_of (hcon _ _ _)))
 go_wp2_with fail
 go_ret
 exact ⟨rfl,nq,_,by rw [HGR.out];show grow (grow (W.drewN nq) _) _=_;rw [grow_grow]⟩
def distSort (a:Pt2) (xs:List Pt2):List Pt2:=(Sort.insertionSort (ltOf (cbCmp a)) xs.toArray 0 xs.length).toList
def cloPt (f:FuncId × List D):Pt2:=match f.2 with|[.ptr [.int _ x,.int _ y]]=>(x,y)|_=>(0,0)
def sortC:ConW:=mkConW [.sl (.b .pt),.clo] 0 t_impl_Point (fun x=>0 < x.1.length∧x.1.length≤12∧∃ a:Pt2,x.2.1=(n_impl_cornersBetween_1,[.ptr [.int .i64 a.1,.int .i64 a.2]])) (fun _=>.tup []) fun x=>⟨.b .pt,distSort (cloPt x.2.1) x.1,false⟩
theorem cell_sortW {w:World} {g n:Nat} {d:Array Pt2} {os:Array Obj} {ad:Addr} (hne:ad.block≠g) (hl:ad.block < w.heap.size):(sortWorldK encP 2 w g 0 n d os).cell? ad=w.cell? ad:=by
 unfold sortWorldK
 rw [cell?_grow _ _ _ (by rw [size_putRowK];exact hl),cell?_putRowK_other _ _ _ _ _ _ _ hne]
 rfl
theorem insInner_size (lt:Pt2→Pt2→Bool) (a:Nat):∀ (j:Nat) (d:Array Pt2),(insInner lt a j d).size=d.size
 | 0,_=>rfl
 | j + 1,d=>by
  unfold insInner
  split
  ·rw [insInner_size lt a j,size_swp]
  ·rfl
theorem insOuter_size (lt:Pt2→Pt2→Bool) (a b:Nat):∀ (n i:Nat) (d:Array Pt2),b - i≤n→(insOuter lt a b i d).size=d.size
 | 0,i,d,h=>by unfold insOuter;rw [if_neg (by omega)]
 | n + 1,i,d,h=>by
  unfold insOuter
  split
  ·rw [insOuter_size lt a b n (i + 1) _ (by omega),insInner_size]
  ·rfl
theorem distSort_len (a:Pt2) (xs:List Pt2):(distSort a xs).length=xs.length:=by
 unfold distSort Sort.insertionSort
 rw [Array.length_toList,insOuter_size _ _ _ _ _ _ (Nat.le_refl _)]
 simp
theorem decs_sort {k:ElK} {xs:List k.T} {c:AV} {x:Args [.sl (.b .pt),.clo]} (h:decs [.sl (.b .pt),.clo] [.one (.d (.sl none k xs)),c]=some x) :
  (∃ e:k=.b .pt,e ▸ xs=x.1)∧c=.one (.d (.clo x.2.1.1 x.2.1.2)):=by
 simp only [decs] at h
 split at h
 next a b e1 e2=>
  injection h with h
  subst h
  refine ⟨castL_ok e1,?_⟩
  split at e2
  next a' b' e3 e4=>
   injection e2 with e2
   subst e2
   cases c with
   | one cc=>
    cases cc with
    | d dd=>cases dd <;> first|(cases e3;rfl)|(simp only [Ty.dec] at e3;cases e3;done)
    | own _ _=>simp only [Ty.dec] at e3;cases e3
    | ptr _ _ _ _=>simp only [Ty.dec] at e3;cases e3
    | sub _ _ _ _=>simp only [Ty.dec] at e3;cases e3
   | agg _=>simp only [Ty.dec] at e3;cases e3
   | tup _=>simp only [Ty.dec] at e3;cases e3
   | junk=>simp only [Ty.dec] at e3;cases e3
  next=>cases e2
 next=>cases h
theorem sort_snd:SoundW0 Tryz.prog n_slices_SortFunc_impl_Point sortC:=by
 intro w F args vs a0 l ver (x:Args [.sl (.b .pt),.clo]) s k xs ys cells ha hoc hoth hpat hpre hcast hbase hF hlen hargs hw hrow hs hone
 have hpat:decs [.sl (.b .pt),.clo] (setA args 0 (ownAs a0 (.d (.sl none k xs))))=some x:=hpat
 have ha:nthA args 0=some a0:=ha
 match args,vs,ha,hpat,hlen,hargs with
 | [],_,ha,_,_,_=>cases ha
 | [z],_,_,hpat,_,_=>simp only [setA,decs] at hpat;split at hpat <;> simp_all
 | z :: c :: e :: r,_,_,hpat,_,_=>simp only [setA,decs] at hpat;split at hpat <;> simp_all
 | [z,c],[v0,v1],ha,hpat,hlen,hargs=>
  obtain rfl:z=a0:=Option.some.inj ha
  have h0:=hargs 0 z v0 rfl rfl
  have h1:=hargs 1 c v1 rfl rfl
  have hd:decs [.sl (.b .pt),.clo] [ownAs z (.d (.sl none k xs)),c]=some x:=hpat
  obtain ⟨x1,⟨xf,xc⟩,⟨⟩⟩:=x
  obtain ⟨hp1,hp2,⟨p,q⟩,hp3⟩:=hpre
  have hp1:0 < x1.length:=hp1
  have hp2:x1.length≤12:=hp2
  have hp3:(xf,xc)=(n_impl_cornersBetween_1,[D.ptr [.int .i64 p,.int .i64 q]]):=hp3
  injection hp3 with hf hc
  subst hf hc
  have hz:z=.one (.own l ver):=by
   unfold ownCell at hoc
   split at hoc
   ·injection hoc with hoc;injection hoc with e1 e2;rw [e1,e2]
   ·simp only [ownAs,decs,Ty.dec] at hd;cases hd
   ·cases hoc
  subst hz
  obtain ⟨⟨ek,he⟩,hcc⟩:=decs_sort hd
  subst ek
  have he:xs=x1:=he
  subst he
  subst hcc
  have hv0:v0=s:=h0
  subst hv0
  obtain ⟨us,hul,hud,rfl⟩:∃ us:List Value,us.length=1∧(∀ (j:Nat) x u,[D.ptr [.int .i64 p,.int .i64 q]][j]?=some x→us[j]?=some u→DC w F x u)∧v1=.func (.func n_impl_cornersBetween_1) #[] us.toArray:=by
   have h1:DC w F (.clo n_impl_cornersBetween_1 [D.ptr [.int .i64 p,.int .i64 q]]) v1:=h1
   cases h1 with
   | clo us hl h=>exact ⟨us,hl,h,rfl⟩
  match us,hul with
  | [u],_=>
  have hu:=hud 0 _ u rfl rfl
  obtain ⟨ad,rfl,hFa,hc0,hc1⟩:∃ ad,u=.pointer (some ad)∧F ad.block∧w.cell? (ad.add 0)=some (.int .i64 p)∧w.cell? (ad.add 1)=some (.int .i64 q):=by
   cases hu with
   | ptr ad us hl hF h1 h2=>
    match us,hl with
    | [u0,u1],_=>
     have k0:=h2 0 _ u0 rfl rfl
     have k1:=h2 1 _ u1 rfl rfl
     cases k0
     cases k1
     exact ⟨ad,rfl,hF,h1 0 _ rfl,h1 1 _ rfl⟩
  have e0:ad.add 0=ad:=by unfold Addr.add;split <;> first|rfl|(exfalso;rename_i h;exact h rfl)|simp_all
  rw [e0] at hc0
  have hys:ys=distSort (p,q) xs:=by
   have:castL (.b .pt) (.b .pt) (distSort (p,q) xs)=some ys:=hcast
   exact (Option.some.inj this).symm
  subst hys
  have hw:w.ownsRow 0 t_impl_Point 2 v0 xs.length cells:=hw
  obtain ⟨g,cap,cur,hv0,hh,hn,hm,hcs,hK⟩:=holds_of_own hw hrow hp1
  subst hv0
  obtain ⟨hg,hgF⟩:=hs g rfl
  have hne:ad.block≠g:=fun e=>hgF (e ▸ hFa)
  have hal:=hF _ hFa
  have eg:∀ args w,(callFunc n_impl_cornersBetween_1 args).run Tryz.prog w=.ok (.enter n_impl_cornersBetween_1 args) w:=enters_of Tryz.func99 (by kernel_rfl) rfl
  have hcmp:CmpLays Tryz.prog n_impl_cornersBetween_1 #[.pointer (some ad)] encP 2 (cbCmp (p,q)) g 0 xs.toArray.size w:=fun m os dk hdk x y=>by
   have hsz:=size_sortWorldK_c encP 2 w g 0 m dk os
   exact cb_k (p,q) x y ad _ (by rw [cell_sortW hne hal];exact hc0) (by rw [cell_sortW (by rw [block_add];exact hne) (by rw [block_add];exact hal)];exact hc1) (Nat.lt_of_lt_of_le hal hsz)
  have hlen2:∀ (n:Nat) (W:World),n≤12→Calls Tryz.prog (sort_ren.f 15) #[.int .u64 n] W fun e w'=>(∃ l:Int,e=.returned (.int .i64 l))∧w'=W:=fun n W hn=>
   (Any.bits_Len (SlLaysF0.n15.bits (P:=Tryz.prog) (ρ:=sort_ren) { sort_lay with }) (n:Int) W (by omega) (by omega)).mono fun _ _ ⟨he,hw⟩=>⟨⟨_,he⟩,hw⟩
  have hmain:=AnyQ.slices_SortFunc_small sort_lay 2 sort_agg sort_size encP encP_len encP_one (cbCmp (p,q)) n_impl_cornersBetween_1 #[.pointer (some ad)] g 0 cap xs.toArray w eg hcmp hK hg (by simpa using hp2) hlen2
  have hmain':Calls Tryz.prog n_slices_SortFunc_impl_Point #[.slice (some ⟨g,0,none⟩) xs.length cap,.func (.func n_impl_cornersBetween_1) #[] #[.pointer (some ad)]] w fun e w'=>e=.returned (.tuple #[])∧∃ n os,w'=sortWorldK encP 2 w g 0 n (Sort.insertionSort (ltOf (cbCmp (p,q))) xs.toArray 0 xs.toArray.size) os:=hmain
  refine hmain'.mono ?_
  rintro e w' ⟨rfl,n,os,rfl⟩
  have hys:(Sort.insertionSort (ltOf (cbCmp (p,q))) xs.toArray 0 xs.toArray.size)=(distSort (p,q) xs).toArray:=by unfold distSort;simp
  rw [hys]
  have hdl:=distSort_len (p,q) xs
  obtain ⟨ha1,ha2⟩:=after_sort (n:=n) (os:=os) (ys:=distSort (p,q) xs) hh (by rw [hdl];exact hn) hm hcs
  rw [hdl] at ha2
  exact ⟨.tuple #[],.slice (some ⟨g,0,none⟩) xs.length cap,_,rfl,ha1,fun b hb=>.inl hb,by rw [hdl];exact ha2,rowC_flat _ F _,rfl,rfl,[],rfl,rfl,fun j x u hx=>by simp at hx⟩
theorem sortFunc_ok:GoodW Tryz.prog n_slices_SortFunc_impl_Point sortC:=by
 exact ⟨sort_snd.to fun _=>rfl,_,Tryz.func98,by decide,rfl⟩
end Go.Proofs.YtpafacebfogkmaaGreat
namespace Go.Proofs.YtpafacebfogkmaaGreat
open Go.RowKit Go.Proofs.YtpafacebfogkmaaGreat.Nm
set_option maxRecDepth 10000
def cornersB (xs:List Pt) (a b:Pt):List Pt:=distSort a (cutsOf xs a b)
theorem filter_len_le {xs:List Pt} {f:Pt→Bool} {n:Nat} (h:xs.length≤n) (k:Nat):((xs.take k).filter f).length≤n:=Nat.le_trans (List.length_filter_le _ _) (by rw [List.length_take];omega)
def cornersBC:Con:=mkCon [.room,.pt,.pt] (fun x=>x.1.length≤10) fun x=>ptRow (cornersB x.1 x.2.1 x.2.2.1)
theorem cornersBetween_ok:Good1 Tryz.prog n_impl_cornersBetween cornersBC:=by
 refine good_ofG (tys:=tyL) (env:=[(n_impl_on,onC)]) (envw:=[(n_slices_SortFunc_impl_Point,sortC)]) (envd:=[]) [12,41] [] [] [] [] mixed tys ⟨on_ok,trivial⟩ ⟨sortFunc_ok,trivial⟩ trivial Tryz.func68 rfl (by kernel_rfl) (by decide) (by kernel_rfl) ?_
 have hG_:=kpz [(0,[3,4,5]),(1,[3,4,5,7]),(2,[4,5,7,14,15,16]),(3,[4,5,7,14,15,16,17]),(4,[4,5,7,9,14,15,16]),(5,[4,5,7,9,14,15,16,33]),(6,[4,5,7,14,15,16]),(7,[4,5,7,14,15,16]),(8,[7]),(9,[6])] [(1,[12]),(2,[12]),(3,[12]),(4,[9,12]),(5,[9,12]),(6,[12]),(7,[12]),(8,[12]),(9,[12])] [] []
 rintro ⟨(xs:List Pt),⟨(ax:Int),(ay:Int)⟩,⟨(bx:Int),(b_y:Int)⟩,⟨⟩⟩ (h1:xs.length≤_)
 (repeat' (first|(with_reducible first|exact True.intro|refine zQ ?_|(refine zG hG_ ?_;intro K_ hK_)|(refine zR ?_;intro K_ hK_)|(refine hK_ _ _ ?_;try clear hK_ K_)|refine sq_n ?_|refine sq_r ?_|refine sq_e ?_|refine bq_n ?_|refine bq_r ?_|refine bq_q ?_|refine zB ?_|refine zX ?_|refine zT ?_|refine zK ?_|refine gq_n ?_|refine gq_r ?_|refine gq_e ?_|refine lq_n ?_|refine lq_r ?_|refine lq_e ?_|refine bq_e (by decide) ?_)|((with_reducible refine zC (b:=?b_) ?hb_ ?_ ?_);case hb_=>rfl)|((conv=>whnf);first|(with_reducible refine hK_ _ _ ?_;try clear hK_ K_)|(with_reducible refine fun (g_:Sl) (o_:Ow)=>?_)|(with_reducible first|exact True.intro|refine And.intro trivial ?_|refine And.intro ?_ ?_)|exact Nat.le_of_ble_eq_true rfl|exact Or.inl rfl|(intro h_;cases h_)|(intro h_;(try simp only [vS1] at h_))|rfl))) <;> (try (conv=>whnf)) <;> (try first|change (_:Int)≤_|change (_:Nat)≤_) <;> (try ((fail_if_success (with_reducible apply Exists.intro));(try dsimp only);(try simp only [vS1]))) <;> (try simp (disch:=omega) only [vS3,vS2] at *)
 all_goals (try (fail_if_success (with_reducible apply Exists.intro));first|with_reducible assumption|omega|exact mdl (by omega)|exact ilo1 (by omega)|exact ilo2 (by omega)|exact ihi1 (by omega) (by omega)|exact ihi2 (by omega) (by omega))
 refine awp'_loopG (α:=Nat) (fun k ver_=>[(16,vInt k)]) (fun k ver_=>[(7,12,false,.row t_impl_Point (.b .pt) ([(ax,ay),(bx,b_y)] ++ (xs.take k).filter (amid (ax,ay) (bx,b_y))))]) (fun k ver_=>[]) (fun k=>k≤xs.length) (fun k=>xs.length - k) [4,5,14,15] [] (0) ?_
 conv=>whnf
 refine ⟨⟨?inv1_,?vals1_,?own1_,?fix1_⟩,?body1_⟩
 case' vals1_=>(repeat' (first|(with_reducible first|exact True.intro|refine And.intro ?_ ?_|refine Head.mk ?_ ?_ ?_ ?_)|((conv=>lhs;whnf);first|(with_reducible first|rfl|exact vInt_s (by omega))|exact rfl)|((conv=>whnf);first|(with_reducible first|exact True.intro|refine And.intro ?_ ?_)))) <;> (try (conv=>lhs;whnf))
 case' own1_=>(repeat' (first|(with_reducible first|exact True.intro|refine And.intro ?_ ?_|refine Head.mk ?_ ?_ ?_ ?_)|((conv=>lhs;whnf);first|(with_reducible first|rfl|exact vInt_s (by omega))|exact rfl)|((conv=>whnf);first|(with_reducible first|exact True.intro|refine And.intro ?_ ?_)))) <;> (try (conv=>lhs;whnf))
 case' fix1_=>(repeat' (first|(with_reducible first|exact True.intro|refine And.intro ?_ ?_|refine Head.mk ?_ ?_ ?_ ?_)|((conv=>lhs;whnf);first|(with_reducible first|rfl|exact vInt_s (by omega))|exact rfl)|((conv=>whnf);first|(with_reducible first|exact True.intro|refine And.intro ?_ ?_)))) <;> (try (conv=>lhs;whnf))
 ·exact Nat.zero_le _
 rintro k g_ o_ v_ hk
 have hl:=filter_len_le (f:=amid (ax,ay) (bx,b_y)) h1 k
 (repeat' (first|(with_reducible first|exact True.intro|refine zQ ?_|(refine zG hG_ ?_;intro K_ hK_)|(refine zR ?_;intro K_ hK_)|(refine hK_ _ _ ?_;try clear hK_ K_)|refine sq_n ?_|refine sq_r ?_|refine sq_e ?_|refine bq_n ?_|refine bq_r ?_|refine bq_q ?_|refine zB ?_|refine zX ?_|refine zT ?_|refine zK ?_|refine gq_n ?_|refine gq_r ?_|refine gq_e ?_|refine lq_n ?_|refine lq_r ?_|refine lq_e ?_|refine bq_e (by decide) ?_)|((with_reducible refine zC (b:=?b_) ?hb_ ?_ ?_);case hb_=>rfl)|((conv=>whnf);first|(with_reducible refine hK_ _ _ ?_;try clear hK_ K_)|(with_reducible refine fun (g_:Sl) (o_:Ow)=>?_)|(with_reducible first|exact True.intro|refine And.intro trivial ?_|refine And.intro ?_ ?_)|exact Nat.le_of_ble_eq_true rfl|exact Or.inl rfl|(intro h_;cases h_)|(intro h_;(try simp only [vS1] at h_))|rfl))) <;> (try (conv=>whnf)) <;> (try first|change (_:Int)≤_|change (_:Nat)≤_) <;> (try ((fail_if_success (with_reducible apply Exists.intro));(try dsimp only);(try simp only [vS1]))) <;> (try simp (disch:=omega) only [vS3,vS2] at *)
 all_goals (try (fail_if_success (with_reducible apply Exists.intro));first|with_reducible assumption|omega|exact mdl (by omega)|exact ilo1 (by omega)|exact ilo2 (by omega)|exact ihi1 (by omega) (by omega)|exact ihi2 (by omega) (by omega))
 ·refine ⟨k + 1,by omega,by omega,?_⟩
  (repeat' (first|(with_reducible first|exact True.intro|refine And.intro ?_ ?_|refine Head.mk ?_ ?_ ?_ ?_)|((conv=>lhs;whnf);first|(with_reducible first|rfl|exact vInt_s (by omega))|exact rfl)|((conv=>whnf);first|(with_reducible first|exact True.intro|refine And.intro ?_ ?_)))) <;> (try (conv=>lhs;whnf))
  refine congrArg (Own.row _ _) ?_
  rw [filter_take_succ _ (0,0) ‹k < xs.length›,if_pos (amid_yes ‹_› ‹_› ‹_›),List.append_assoc]
 ·refine ⟨k + 1,by omega,by omega,?_⟩
  (repeat' (first|(with_reducible first|exact True.intro|refine And.intro ?_ ?_|refine Head.mk ?_ ?_ ?_ ?_)|((conv=>lhs;whnf);first|(with_reducible first|rfl|exact vInt_s (by omega))|exact rfl)|((conv=>whnf);first|(with_reducible first|exact True.intro|refine And.intro ?_ ?_)))) <;> (try (conv=>lhs;whnf))
  refine congrArg (Own.row _ _) ?_
  rw [filter_take_succ _ (0,0) ‹k < xs.length›,if_neg (by unfold amid;simp_all),List.append_nil]
 ·refine ⟨k + 1,by omega,by omega,?_⟩
  (repeat' (first|(with_reducible first|exact True.intro|refine And.intro ?_ ?_|refine Head.mk ?_ ?_ ?_ ?_)|((conv=>lhs;whnf);first|(with_reducible first|rfl|exact vInt_s (by omega))|exact rfl)|((conv=>whnf);first|(with_reducible first|exact True.intro|refine And.intro ?_ ?_)))) <;> (try (conv=>lhs;whnf))
  refine congrArg (Own.row _ _) ?_
  rw [filter_take_succ _ (0,0) ‹k < xs.length›,if_neg (by unfold amid;simp_all),List.append_nil]
 ·refine ⟨k + 1,by omega,by omega,?_⟩
  (repeat' (first|(with_reducible first|exact True.intro|refine And.intro ?_ ?_|refine Head.mk ?_ ?_ ?_ ?_)|((conv=>lhs;whnf);first|(with_reducible first|rfl|exact vInt_s (by omega))|exact rfl)|((conv=>whnf);first|(with_reducible first|exact True.intro|refine And.intro ?_ ?_)))) <;> (try (conv=>lhs;whnf))
  refine congrArg (Own.row _ _) ?_
  rw [filter_take_succ _ (0,0) ‹k < xs.length›,if_neg (by unfold amid;simp_all),List.append_nil]
 ·exact ⟨(ax,ay),rfl⟩
 ·rw [List.take_of_length_le (by omega)];rfl
theorem map_take_succ' {α β:Type} (f:α→β) {xs:List α} {k:Nat} (d:α) (h:k < xs.length):(xs.take (k + 1)).map f=(xs.take k).map f ++ [f (xs.getD k d)]:=by
 rw [List.take_succ_eq_append_getElem h,List.map_append,getD_lt _ h];rfl
def twiceC:Con:=mkCon [.pt] (fun _=>True) fun x=>.val (.agg (cPt (twP x.1)))
theorem twice_ok:Good1 Tryz.prog n_impl_twice twiceC:=by
 refine good_ofG (tys:=tyL) (env:=[]) (envw:=[]) (envd:=[]) [] [] [] [] [] mixed tys trivial trivial trivial Tryz.func101 rfl (by kernel_rfl) (by decide) (by kernel_rfl) ?_
 have hG_:=kpz [(0,[1,2]),(1,[2])] [(0,[2]),(1,[2])] [] []
 rintro ⟨⟨(p:Int),(q:Int)⟩,⟨⟩⟩ _
 (repeat' (first|(with_reducible first|exact True.intro|refine zQ ?_|(refine zG hG_ ?_;intro K_ hK_)|(refine zR ?_;intro K_ hK_)|(refine hK_ _ _ ?_;try clear hK_ K_)|refine sq_n ?_|refine sq_r ?_|refine sq_e ?_|refine bq_n ?_|refine bq_r ?_|refine bq_q ?_|refine zB ?_|refine zX ?_|refine zT ?_|refine zK ?_|refine gq_n ?_|refine gq_r ?_|refine gq_e ?_|refine lq_n ?_|refine lq_r ?_|refine lq_e ?_|refine bq_e (by decide) ?_)|((with_reducible refine zC (b:=?b_) ?hb_ ?_ ?_);case hb_=>rfl)|((conv=>whnf);first|(with_reducible refine hK_ _ _ ?_;try clear hK_ K_)|(with_reducible refine fun (g_:Sl) (o_:Ow)=>?_)|(with_reducible first|exact True.intro|refine And.intro trivial ?_|refine And.intro ?_ ?_)|exact Nat.le_of_ble_eq_true rfl|exact Or.inl rfl|(intro h_;cases h_)|(intro h_;(try simp only [vS1] at h_))|rfl))) <;> (try (conv=>whnf)) <;> (try first|change (_:Int)≤_|change (_:Nat)≤_)
def middleC:Con:=mkCon [.room,.pt,.pt] (fun x=>x.1.length≤10) fun x=>vI (midM x.1 x.2.1 x.2.2.1)
theorem middle_ok:Good1 Tryz.prog n_impl_middle middleC:=by
 refine good_ofG (tys:=tyL) (env:=[(n_impl_twice,twiceC),(n_impl_place,placeC)]) (envw:=[]) (envd:=[]) [10] [] [] [] [] mixed tys ⟨twice_ok,place_ok,trivial⟩ trivial trivial Tryz.func70 rfl (by kernel_rfl) (by decide) (by kernel_rfl) ?_
 have hG_:=kpz [(0,[3,4,5]),(1,[3,4,5,7]),(2,[4,5,7,12,13,14]),(3,[4,5,7,12,13,14,15]),(4,[4,5,7,9,12,13,14]),(5,[4,5,7,12,13,14]),(6,[4,5,7,12,13,14]),(7,[6])] [(1,[10]),(2,[10]),(3,[10]),(4,[9,10]),(5,[10]),(6,[10]),(7,[10])] [] []
 rintro ⟨(xs:List Pt),⟨(ax:Int),(ay:Int)⟩,⟨(bx:Int),(b_y:Int)⟩,⟨⟩⟩ (h1:xs.length≤_)
 (repeat' (first|(with_reducible first|exact True.intro|refine zQ ?_|(refine zG hG_ ?_;intro K_ hK_)|(refine zR ?_;intro K_ hK_)|(refine hK_ _ _ ?_;try clear hK_ K_)|refine sq_n ?_|refine sq_r ?_|refine sq_e ?_|refine bq_n ?_|refine bq_r ?_|refine bq_q ?_|refine zB ?_|refine zX ?_|refine zT ?_|refine zK ?_|refine gq_n ?_|refine gq_r ?_|refine gq_e ?_|refine lq_n ?_|refine lq_r ?_|refine lq_e ?_|refine bq_e (by decide) ?_)|((with_reducible refine zC (b:=?b_) ?hb_ ?_ ?_);case hb_=>rfl)|((conv=>whnf);first|(with_reducible refine hK_ _ _ ?_;try clear hK_ K_)|(with_reducible refine fun (g_:Sl) (o_:Ow)=>?_)|(with_reducible first|exact True.intro|refine And.intro trivial ?_|refine And.intro ?_ ?_)|exact Nat.le_of_ble_eq_true rfl|exact Or.inl rfl|(intro h_;cases h_)|(intro h_;(try simp only [vS1] at h_))|rfl))) <;> (try (conv=>whnf)) <;> (try first|change (_:Int)≤_|change (_:Nat)≤_) <;> (try ((fail_if_success (with_reducible apply Exists.intro));(try dsimp only);(try simp only [vS1]))) <;> (try simp (disch:=omega) only [vS3,vS2] at *)
 all_goals (try (fail_if_success (with_reducible apply Exists.intro));first|with_reducible assumption|omega|exact mdl (by omega)|exact ilo1 (by omega)|exact ilo2 (by omega)|exact ihi1 (by omega) (by omega)|exact ihi2 (by omega) (by omega))
 refine awp'_loopG (α:=Nat) (fun k ver_=>[(14,vInt k)]) (fun k ver_=>[(7,10,false,.row t_impl_Point (.b .pt) ((xs.take k).map twP))]) (fun k ver_=>[]) (fun k=>k≤xs.length) (fun k=>xs.length - k) [4,5,12,13] [] (0) ?_
 conv=>whnf
 refine ⟨⟨?inv2_,?vals2_,?own2_,?fix2_⟩,?body2_⟩
 case' vals2_=>(repeat' (first|(with_reducible first|exact True.intro|refine And.intro ?_ ?_|refine Head.mk ?_ ?_ ?_ ?_)|((conv=>lhs;whnf);first|(with_reducible first|rfl|exact vInt_s (by omega))|exact rfl)|((conv=>whnf);first|(with_reducible first|exact True.intro|refine And.intro ?_ ?_)))) <;> (try (conv=>lhs;whnf))
 case' own2_=>(repeat' (first|(with_reducible first|exact True.intro|refine And.intro ?_ ?_|refine Head.mk ?_ ?_ ?_ ?_)|((conv=>lhs;whnf);first|(with_reducible first|rfl|exact vInt_s (by omega))|exact rfl)|((conv=>whnf);first|(with_reducible first|exact True.intro|refine And.intro ?_ ?_)))) <;> (try (conv=>lhs;whnf))
 case' fix2_=>(repeat' (first|(with_reducible first|exact True.intro|refine And.intro ?_ ?_|refine Head.mk ?_ ?_ ?_ ?_)|((conv=>lhs;whnf);first|(with_reducible first|rfl|exact vInt_s (by omega))|exact rfl)|((conv=>whnf);first|(with_reducible first|exact True.intro|refine And.intro ?_ ?_)))) <;> (try (conv=>lhs;whnf))
 ·exact Nat.zero_le _
 rintro k g_ o_ v_ hk
 (repeat' (first|(with_reducible first|exact True.intro|refine zQ ?_|(refine zG hG_ ?_;intro K_ hK_)|(refine zR ?_;intro K_ hK_)|(refine hK_ _ _ ?_;try clear hK_ K_)|refine sq_n ?_|refine sq_r ?_|refine sq_e ?_|refine bq_n ?_|refine bq_r ?_|refine bq_q ?_|refine zB ?_|refine zX ?_|refine zT ?_|refine zK ?_|refine gq_n ?_|refine gq_r ?_|refine gq_e ?_|refine lq_n ?_|refine lq_r ?_|refine lq_e ?_|refine bq_e (by decide) ?_)|((with_reducible refine zC (b:=?b_) ?hb_ ?_ ?_);case hb_=>rfl)|((conv=>whnf);first|(with_reducible refine hK_ _ _ ?_;try clear hK_ K_)|(with_reducible refine fun (g_:Sl) (o_:Ow)=>?_)|(with_reducible first|exact True.intro|refine And.intro trivial ?_|refine And.intro ?_ ?_)|exact Nat.le_of_ble_eq_true rfl|exact Or.inl rfl|(intro h_;cases h_)|(intro h_;(try simp only [vS1] at h_))|rfl))) <;> (try (conv=>whnf)) <;> (try first|change (_:Int)≤_|change (_:Nat)≤_) <;> (try ((fail_if_success (with_reducible apply Exists.intro));(try dsimp only);(try simp only [vS1]))) <;> (try simp (disch:=omega) only [vS3,vS2] at *)
 all_goals (try (fail_if_success (with_reducible apply Exists.intro));first|with_reducible assumption|omega|exact mdl (by omega)|exact ilo1 (by omega)|exact ilo2 (by omega)|exact ihi1 (by omega) (by omega)|exact ihi2 (by omega) (by omega))
 ·refine ⟨k + 1,by omega,by omega,?_⟩
  (repeat' (first|(with_reducible first|exact True.intro|refine And.intro ?_ ?_|refine Head.mk ?_ ?_ ?_ ?_)|((conv=>lhs;whnf);first|(with_reducible first|rfl|exact vInt_s (by omega))|exact rfl)|((conv=>whnf);first|(with_reducible first|exact True.intro|refine And.intro ?_ ?_)))) <;> (try (conv=>lhs;whnf))
  exact congrArg (Own.row _ _) (map_take_succ' twP (0,0) h_).symm
 ·rw [List.take_of_length_le (by omega)];rfl
def seesI (xs:List Pt) (a b:Pt):Bool:=(List.range xs.length).all (fun k=>!crs a b (wl xs k).1 (wl xs k).2) && (List.range ((cornersB xs a b).length - 1)).all fun k=>midM xs (pAt (cornersB xs a b) k) (pAt (cornersB xs a b) (k + 1)) != 0
def seesC:Con:=mkCon [.room,.pt,.pt] (fun x=>x.1.length≤10) fun x=>vB (seesI x.1 x.2.1 x.2.2.1)
theorem cornersB_len (xs:List Pt) (a b:Pt):(cornersB xs a b).length=2 + (xs.filter (amid a b)).length:=by unfold cornersB;rw [distSort_len];simp;omega
theorem seesI_no1 {xs:List Pt} {a b:Pt} {k:Nat} (hk:k < xs.length) (h:crs a b (wl xs k).1 (wl xs k).2=true):seesI xs a b=false:=by
 unfold seesI
 rw [show (List.range xs.length).all (fun k=>!crs a b (wl xs k).1 (wl xs k).2)=false from List.all_eq_false.2 ⟨k,List.mem_range.2 hk,by rw [h];decide⟩]
 rfl
theorem seesI_no2 {xs:List Pt} {a b:Pt} {k:Nat} (hk:k + 1 < (cornersB xs a b).length) (h:midM xs (pAt (cornersB xs a b) k) (pAt (cornersB xs a b) (k + 1))=0):seesI xs a b=false:=by
 unfold seesI
 rw [show ((List.range ((cornersB xs a b).length - 1)).all fun k=>midM xs (pAt (cornersB xs a b) k) (pAt (cornersB xs a b) (k + 1)) != 0)=false from List.all_eq_false.2 ⟨k,List.mem_range.2 (by omega),by rw [h];decide⟩]
 exact Bool.and_false _
theorem seesI_yes {xs:List Pt} {a b:Pt} (h1:∀ k,k < xs.length→crs a b (wl xs k).1 (wl xs k).2=false) (h2:∀ k,k + 1 < (cornersB xs a b).length→midM xs (pAt (cornersB xs a b) k) (pAt (cornersB xs a b) (k + 1))≠0):seesI xs a b=true:=by
 unfold seesI
 rw [Bool.and_eq_true,List.all_eq_true,List.all_eq_true]
 exact ⟨fun k hk=>by rw [h1 k (List.mem_range.1 hk)];rfl,fun k hk=>by simpa using h2 k (by have:=List.mem_range.1 hk;omega)⟩
theorem sees_ok:Good1 Tryz.prog n_impl_sees seesC:=by
 refine good_ofG (tys:=tyL) (env:=[(n_impl_wallsOf,wallsOfC),(n_impl_crosses,crossesC),(n_impl_cornersBetween,cornersBC),(n_impl_middle,middleC)]) (envw:=[]) (envd:=[]) [] [] [] [] [] mixed tys ⟨wallsOf_ok,crosses_ok,cornersBetween_ok,middle_ok,trivial⟩ trivial trivial Tryz.func69 rfl (by kernel_rfl) (by decide) (by kernel_rfl) ?_
 have hG_:=kpz [(0,[3,4,5]),(1,[3,4,5,13,14,15]),(2,[3,4,5,13,14,15,16]),(3,[3,4,5,8,13,14,15]),(4,[3,4,5,13,14,15,23]),(5,[6]),(6,[3,4,5,13,14,15]),(7,[3,9]),(8,[3,9,10]),(9,[3,9,10,32]),(10,[3,9,10]),(11,[3,9,10,46]),(12,[6]),(13,[6])] [(3,[8])] [] []
 rintro ⟨(xs:List Pt),⟨(ax:Int),(ay:Int)⟩,⟨(bx:Int),(b_y:Int)⟩,⟨⟩⟩ (h1:xs.length≤_)
 have hw:=walls_len xs
 have hc:=cornersB_len xs (ax,ay) (bx,b_y)
 have hfl:=filter_len_le (f:=amid (ax,ay) (bx,b_y)) h1 xs.length
 rw [List.take_of_length_le (Nat.le_refl _)] at hfl
 (repeat' (first|(with_reducible first|exact True.intro|refine zQ ?_|(refine zG hG_ ?_;intro K_ hK_)|(refine zR ?_;intro K_ hK_)|(refine hK_ _ _ ?_;try clear hK_ K_)|refine sq_n ?_|refine sq_r ?_|refine sq_e ?_|refine bq_n ?_|refine bq_r ?_|refine bq_q ?_|refine zB ?_|refine zX ?_|refine zT ?_|refine zK ?_|refine gq_n ?_|refine gq_r ?_|refine gq_e ?_|refine lq_n ?_|refine lq_r ?_|refine lq_e ?_|refine bq_e (by decide) ?_)|((with_reducible refine zC (b:=?b_) ?hb_ ?_ ?_);case hb_=>rfl)|((conv=>whnf);first|(with_reducible refine hK_ _ _ ?_;try clear hK_ K_)|(with_reducible refine fun (g_:Sl) (o_:Ow)=>?_)|(with_reducible first|exact True.intro|refine And.intro trivial ?_|refine And.intro ?_ ?_)|exact Nat.le_of_ble_eq_true rfl|exact Or.inl rfl|(intro h_;cases h_)|(intro h_;(try simp only [vS1] at h_))|rfl))) <;> (try (conv=>whnf)) <;> (try first|change (_:Int)≤_|change (_:Nat)≤_) <;> (try ((fail_if_success (with_reducible apply Exists.intro));(try dsimp only);(try simp only [vS1]))) <;> (try simp (disch:=omega) only [vS3,vS2] at *)
 all_goals (try (fail_if_success (with_reducible apply Exists.intro));first|with_reducible assumption|omega|exact mdl (by omega)|exact ilo1 (by omega)|exact ilo2 (by omega)|exact ihi1 (by omega) (by omega)|exact ihi2 (by omega) (by omega))
 refine awp'_loopG (α:=Nat) (fun k ver_=>[(15,vInt k)]) (fun k ver_=>[]) (fun k ver_=>[]) (fun k=>k≤xs.length∧∀ j,j < k→crs (ax,ay) (bx,b_y) (wl xs j).1 (wl xs j).2=false) (fun k=>xs.length - k) [3,4,5,13,14] [] (0) ?_
 conv=>whnf
 refine ⟨⟨?inv3_,?vals3_,?own3_,?fix3_⟩,?body3_⟩
 case' vals3_=>(repeat' (first|(with_reducible first|exact True.intro|refine And.intro ?_ ?_|refine Head.mk ?_ ?_ ?_ ?_)|((conv=>lhs;whnf);first|(with_reducible first|rfl|exact vInt_s (by omega))|exact rfl)|((conv=>whnf);first|(with_reducible first|exact True.intro|refine And.intro ?_ ?_)))) <;> (try (conv=>lhs;whnf))
 case' own3_=>(repeat' (first|(with_reducible first|exact True.intro|refine And.intro ?_ ?_|refine Head.mk ?_ ?_ ?_ ?_)|((conv=>lhs;whnf);first|(with_reducible first|rfl|exact vInt_s (by omega))|exact rfl)|((conv=>whnf);first|(with_reducible first|exact True.intro|refine And.intro ?_ ?_)))) <;> (try (conv=>lhs;whnf))
 case' fix3_=>(repeat' (first|(with_reducible first|exact True.intro|refine And.intro ?_ ?_|refine Head.mk ?_ ?_ ?_ ?_)|((conv=>lhs;whnf);first|(with_reducible first|rfl|exact vInt_s (by omega))|exact rfl)|((conv=>whnf);first|(with_reducible first|exact True.intro|refine And.intro ?_ ?_)))) <;> (try (conv=>lhs;whnf))
 ·exact ⟨Nat.zero_le _,fun j hj=>absurd hj (by omega)⟩
 rintro k g_ o_ v_ ⟨hk,hall⟩
 (repeat' (first|(with_reducible first|exact True.intro|refine zQ ?_|(refine zG hG_ ?_;intro K_ hK_)|(refine zR ?_;intro K_ hK_)|(refine hK_ _ _ ?_;try clear hK_ K_)|refine sq_n ?_|refine sq_r ?_|refine sq_e ?_|refine bq_n ?_|refine bq_r ?_|refine bq_q ?_|refine zB ?_|refine zX ?_|refine zT ?_|refine zK ?_|refine gq_n ?_|refine gq_r ?_|refine gq_e ?_|refine lq_n ?_|refine lq_r ?_|refine lq_e ?_|refine bq_e (by decide) ?_)|((with_reducible refine zC (b:=?b_) ?hb_ ?_ ?_);case hb_=>rfl)|((conv=>whnf);first|(with_reducible refine hK_ _ _ ?_;try clear hK_ K_)|(with_reducible refine fun (g_:Sl) (o_:Ow)=>?_)|(with_reducible first|exact True.intro|refine And.intro trivial ?_|refine And.intro ?_ ?_)|exact Nat.le_of_ble_eq_true rfl|exact Or.inl rfl|(intro h_;cases h_)|(intro h_;(try simp only [vS1] at h_))|rfl))) <;> (try (conv=>whnf)) <;> (try first|change (_:Int)≤_|change (_:Nat)≤_) <;> (try ((fail_if_success (with_reducible apply Exists.intro));(try dsimp only);(try simp only [vS1]))) <;> (try simp (disch:=omega) only [vS3,vS2] at *)
 all_goals (try (fail_if_success (with_reducible apply Exists.intro));first|with_reducible assumption|omega|exact mdl (by omega)|exact ilo1 (by omega)|exact ilo2 (by omega)|exact ihi1 (by omega) (by omega)|exact ihi2 (by omega) (by omega))
 ·rw [walls_get (by omega)] at *
  exact (seesI_no1 (k:=k) (by omega) (by assumption)).symm
 ·rw [walls_get (by omega)] at *
  refine ⟨k + 1,by omega,⟨by omega,fun j hj=>?_⟩,by (repeat' (first|(with_reducible first|exact True.intro|refine And.intro ?_ ?_|refine Head.mk ?_ ?_ ?_ ?_)|((conv=>lhs;whnf);first|(with_reducible first|rfl|exact vInt_s (by omega))|exact rfl)|((conv=>whnf);first|(with_reducible first|exact True.intro|refine And.intro ?_ ?_)))) <;> (try (conv=>lhs;whnf))⟩
  rcases Nat.lt_or_ge j k with h5|h5
  ·exact hall j h5
  ·rw [show j=k by omega];assumption
 have hall2:∀ j,j < xs.length→crs (ax,ay) (bx,b_y) (wl xs j).1 (wl xs j).2=false:=fun j hj=>hall j (by omega)
 refine awp'_loopG (α:=Nat) (fun i ver_=>[(10,vInt (i + 1))]) (fun i ver_=>[]) (fun i ver_=>[]) (fun i=>i + 1≤(cornersB xs (ax,ay) (bx,b_y)).length∧∀ j,j < i→midM xs (pAt (cornersB xs (ax,ay) (bx,b_y)) j) (pAt (cornersB xs (ax,ay) (bx,b_y)) (j + 1))≠0) (fun i=>20 - i) [3,9] [] (0) ?_
 conv=>whnf
 refine ⟨⟨?inv4_,?vals4_,?own4_,?fix4_⟩,?body4_⟩
 case' vals4_=>(repeat' (first|(with_reducible first|exact True.intro|refine And.intro ?_ ?_|refine Head.mk ?_ ?_ ?_ ?_)|((conv=>lhs;whnf);first|(with_reducible first|rfl|exact vInt_s (by omega))|exact rfl)|((conv=>whnf);first|(with_reducible first|exact True.intro|refine And.intro ?_ ?_)))) <;> (try (conv=>lhs;whnf))
 case' own4_=>(repeat' (first|(with_reducible first|exact True.intro|refine And.intro ?_ ?_|refine Head.mk ?_ ?_ ?_ ?_)|((conv=>lhs;whnf);first|(with_reducible first|rfl|exact vInt_s (by omega))|exact rfl)|((conv=>whnf);first|(with_reducible first|exact True.intro|refine And.intro ?_ ?_)))) <;> (try (conv=>lhs;whnf))
 case' fix4_=>(repeat' (first|(with_reducible first|exact True.intro|refine And.intro ?_ ?_|refine Head.mk ?_ ?_ ?_ ?_)|((conv=>lhs;whnf);first|(with_reducible first|rfl|exact vInt_s (by omega))|exact rfl)|((conv=>whnf);first|(with_reducible first|exact True.intro|refine And.intro ?_ ?_)))) <;> (try (conv=>lhs;whnf))
 ·exact ⟨by omega,fun j hj=>absurd hj (by omega)⟩
 rintro i g_ o_ v_ ⟨hi,hmid⟩
 (repeat' (first|(with_reducible first|exact True.intro|refine zQ ?_|(refine zG hG_ ?_;intro K_ hK_)|(refine zR ?_;intro K_ hK_)|(refine hK_ _ _ ?_;try clear hK_ K_)|refine sq_n ?_|refine sq_r ?_|refine sq_e ?_|refine bq_n ?_|refine bq_r ?_|refine bq_q ?_|refine zB ?_|refine zX ?_|refine zT ?_|refine zK ?_|refine gq_n ?_|refine gq_r ?_|refine gq_e ?_|refine lq_n ?_|refine lq_r ?_|refine lq_e ?_|refine bq_e (by decide) ?_)|((with_reducible refine zC (b:=?b_) ?hb_ ?_ ?_);case hb_=>rfl)|((conv=>whnf);first|(with_reducible refine hK_ _ _ ?_;try clear hK_ K_)|(with_reducible refine fun (g_:Sl) (o_:Ow)=>?_)|(with_reducible first|exact True.intro|refine And.intro trivial ?_|refine And.intro ?_ ?_)|exact Nat.le_of_ble_eq_true rfl|exact Or.inl rfl|(intro h_;cases h_)|(intro h_;(try simp only [vS1] at h_))|rfl))) <;> (try (conv=>whnf)) <;> (try first|change (_:Int)≤_|change (_:Nat)≤_) <;> (try ((fail_if_success (with_reducible apply Exists.intro));(try dsimp only);(try simp only [vS1]))) <;> (try simp (disch:=omega) only [vS3,vS2] at *)
 all_goals (try (fail_if_success (with_reducible apply Exists.intro));first|with_reducible assumption|omega|exact mdl (by omega)|exact ilo1 (by omega)|exact ilo2 (by omega)|exact ihi1 (by omega) (by omega)|exact ihi2 (by omega) (by omega))
 ·rw [show ((i:Int) + 1 - 1).toNat=i by omega,show ((i:Int) + 1).toNat=i + 1 by omega] at h_
  exact (seesI_no2 (by omega) h_).symm
 ·rw [show ((i:Int) + 1 - 1).toNat=i by omega,show ((i:Int) + 1).toNat=i + 1 by omega] at h_
  refine ⟨i + 1,by omega,⟨by omega,fun j hj=>?_⟩,by (repeat' (first|(with_reducible first|exact True.intro|refine And.intro ?_ ?_|refine Head.mk ?_ ?_ ?_ ?_)|((conv=>lhs;whnf);first|(with_reducible first|rfl|exact vInt_s (by omega))|exact rfl)|((conv=>whnf);first|(with_reducible first|exact True.intro|refine And.intro ?_ ?_)))) <;> (try (conv=>lhs;whnf))⟩
  rcases Nat.lt_or_ge j i with h5|h5
  ·exact hmid j h5
  ·rw [show j=i by omega];exact h_
 ·exact (seesI_yes hall2 fun j hj=>hmid j (by omega)).symm
theorem doubled_ok:Good1 Tryz.prog n_spec_l08Doubled twiceC:=by
 refine good_ofG (tys:=tyL) (env:=[]) (envw:=[]) (envd:=[]) [] [] [] [] [] mixed tys trivial trivial trivial Tryz.func116 rfl (by kernel_rfl) (by decide) (by kernel_rfl) ?_
 have hG_:=kpz [(0,[1,2]),(1,[2])] [(0,[2]),(1,[2])] [] []
 rintro ⟨⟨(p:Int),(q:Int)⟩,⟨⟩⟩ _
 (repeat' (first|(with_reducible first|exact True.intro|refine zQ ?_|(refine zG hG_ ?_;intro K_ hK_)|(refine zR ?_;intro K_ hK_)|(refine hK_ _ _ ?_;try clear hK_ K_)|refine sq_n ?_|refine sq_r ?_|refine sq_e ?_|refine bq_n ?_|refine bq_r ?_|refine bq_q ?_|refine zB ?_|refine zX ?_|refine zT ?_|refine zK ?_|refine gq_n ?_|refine gq_r ?_|refine gq_e ?_|refine lq_n ?_|refine lq_r ?_|refine lq_e ?_|refine bq_e (by decide) ?_)|((with_reducible refine zC (b:=?b_) ?hb_ ?_ ?_);case hb_=>rfl)|((conv=>whnf);first|(with_reducible refine hK_ _ _ ?_;try clear hK_ K_)|(with_reducible refine fun (g_:Sl) (o_:Ow)=>?_)|(with_reducible first|exact True.intro|refine And.intro trivial ?_|refine And.intro ?_ ?_)|exact Nat.le_of_ble_eq_true rfl|exact Or.inl rfl|(intro h_;cases h_)|(intro h_;(try simp only [vS1] at h_))|rfl))) <;> (try (conv=>whnf)) <;> (try first|change (_:Int)≤_|change (_:Nat)≤_)
def l08SeesC:Con:=mkCon [.sl (.b .pt),.pt,.pt] (fun x=>x.1.length≤10) fun x=>vB (seesS x.1 x.2.1 x.2.2.1)
theorem l08Sees_ok:Good1 Tryz.prog n_spec_l08Sees l08SeesC:=by
 refine good_ofG (tys:=tyL) (env:=[(n_spec_l03Cross,l03CrossC),(n_spec_l02Between,onC),(n_spec_l08Doubled,twiceC),(n_spec_l05Holds,holdsC)]) (envw:=[]) (envd:=[]) [20,21] [15] [] [] [] mixed tys ⟨l03Cross_ok,l02Between_ok,doubled_ok,l05Holds_ok,trivial⟩ trivial trivial Tryz.func114 rfl (by kernel_rfl) (by decide) (by kernel_rfl) ?_
 have hG_:=kpz [(0,[0,4,5]),(1,[0,4,5,7]),(2,[0,4,5,7,8]),(3,[0,4,5,7,8,9]),(4,[0,4,5,7,8,9,10]),(5,[0,4,5,7,8,9,10,24]),(6,[0,4,5,7,8,9,10]),(7,[0,4,5,7,8,9,10,40]),(8,[6]),(9,[0,4,5,7,8,9,10,63]),(10,[0,4,5,7,8,9,10]),(11,[0,4,5,7,8,9,10]),(12,[8,9,11]),(13,[8,9,11,82]),(14,[8,9,11]),(15,[8,9,11,12]),(16,[8,9,11,12,87]),(17,[8,9,11,12]),(18,[8,9,11,12,13]),(19,[8,9,11,12,13,14]),(20,[8,9,11,12,13,14,93]),(21,[8,9,11,12,13,14]),(22,[8,9,11,12,13,14]),(23,[8,9,11,12,13,15]),(24,[8,9,11,12,152]),(25,[6]),(26,[6])] [(2,[20]),(3,[20,21]),(4,[20,21]),(5,[20,21]),(6,[20,21]),(7,[20,21]),(8,[20,21]),(9,[20,21]),(10,[20,21]),(11,[20,21]),(12,[20,21]),(13,[20,21]),(14,[20,21]),(15,[20,21]),(16,[20,21]),(17,[20,21]),(18,[20,21]),(19,[20,21]),(20,[20,21]),(21,[20,21]),(22,[20,21]),(23,[15,20,21]),(24,[20,21]),(25,[20,21]),(26,[20,21])] [] []
 rintro ⟨(xs:List Pt),⟨(ax:Int),(ay:Int)⟩,⟨(bx:Int),(b_y:Int)⟩,⟨⟩⟩ (h1:xs.length≤_)
 have hfl:=filter_len_le (f:=amid (ax,ay) (bx,b_y)) h1
 (repeat' (first|(with_reducible first|exact True.intro|refine zQ ?_|(refine zG hG_ ?_;intro K_ hK_)|(refine zR ?_;intro K_ hK_)|(refine hK_ _ _ ?_;try clear hK_ K_)|refine sq_n ?_|refine sq_r ?_|refine sq_e ?_|refine bq_n ?_|refine bq_r ?_|refine bq_q ?_|refine zB ?_|refine zX ?_|refine zT ?_|refine zK ?_|refine gq_n ?_|refine gq_r ?_|refine gq_e ?_|refine lq_n ?_|refine lq_r ?_|refine lq_e ?_|refine bq_e (by decide) ?_)|((with_reducible refine zC (b:=?b_) ?hb_ ?_ ?_);case hb_=>rfl)|((conv=>whnf);first|(with_reducible refine hK_ _ _ ?_;try clear hK_ K_)|(with_reducible refine fun (g_:Sl) (o_:Ow)=>?_)|(with_reducible first|exact True.intro|refine And.intro trivial ?_|refine And.intro ?_ ?_)|exact Nat.le_of_ble_eq_true rfl|exact Or.inl rfl|(intro h_;cases h_)|(intro h_;(try simp only [vS1] at h_))|rfl))) <;> (try (conv=>whnf)) <;> (try first|change (_:Int)≤_|change (_:Nat)≤_) <;> (try ((fail_if_success (with_reducible apply Exists.intro));(try dsimp only);(try simp only [vS1]))) <;> (try simp (disch:=omega) only [vS3,vS2] at *)
 all_goals (try (fail_if_success (with_reducible apply Exists.intro));first|with_reducible assumption|omega|exact mdl (by omega)|exact ilo1 (by omega)|exact ilo2 (by omega)|exact ihi1 (by omega) (by omega)|exact ihi2 (by omega) (by omega))
 refine awp'_loopG (α:=Nat) (fun k ver_=>[(10,vInt k)]) (fun k ver_=>[(8,20,false,.row t_impl_Point (.b .pt) ([(ax,ay),(bx,b_y)] ++ (xs.take k).filter (amid (ax,ay) (bx,b_y)))),(9,21,false,.row t_impl_Point (.b .pt) ((xs.take k).map twP))]) (fun k ver_=>[(15,⟨ver_ 15,.dead⟩)]) (fun k=>k≤xs.length∧∀ j,j < k→crs (ax,ay) (bx,b_y) (wl xs j).1 (wl xs j).2=false) (fun k=>xs.length - k) [0,4,5,7] [] (0) ?_
 conv=>whnf
 refine ⟨⟨?inv1_,?vals1_,?own1_,?fix1_⟩,?body1_⟩
 case' vals1_=>(repeat' (first|(with_reducible first|exact True.intro|refine And.intro ?_ ?_|refine Head.mk ?_ ?_ ?_ ?_)|((conv=>lhs;whnf);first|(with_reducible first|rfl|exact vInt_s (by omega))|exact rfl)|((conv=>whnf);first|(with_reducible first|exact True.intro|refine And.intro ?_ ?_)))) <;> (try (conv=>lhs;whnf))
 case' own1_=>(repeat' (first|(with_reducible first|exact True.intro|refine And.intro ?_ ?_|refine Head.mk ?_ ?_ ?_ ?_)|((conv=>lhs;whnf);first|(with_reducible first|rfl|exact vInt_s (by omega))|exact rfl)|((conv=>whnf);first|(with_reducible first|exact True.intro|refine And.intro ?_ ?_)))) <;> (try (conv=>lhs;whnf))
 case' fix1_=>(repeat' (first|(with_reducible first|exact True.intro|refine And.intro ?_ ?_|refine Head.mk ?_ ?_ ?_ ?_)|((conv=>lhs;whnf);first|(with_reducible first|rfl|exact vInt_s (by omega))|exact rfl)|((conv=>whnf);first|(with_reducible first|exact True.intro|refine And.intro ?_ ?_)))) <;> (try (conv=>lhs;whnf))
 ·exact ⟨Nat.zero_le _,fun j hj=>absurd hj (by omega)⟩
 rintro k g_ o_ v_ ⟨hk,hall⟩
 have hl:=hfl k
 (repeat' (first|(with_reducible first|exact True.intro|refine zQ ?_|(refine zG hG_ ?_;intro K_ hK_)|(refine zR ?_;intro K_ hK_)|(refine hK_ _ _ ?_;try clear hK_ K_)|refine sq_n ?_|refine sq_r ?_|refine sq_e ?_|refine bq_n ?_|refine bq_r ?_|refine bq_q ?_|refine zB ?_|refine zX ?_|refine zT ?_|refine zK ?_|refine gq_n ?_|refine gq_r ?_|refine gq_e ?_|refine lq_n ?_|refine lq_r ?_|refine lq_e ?_|refine bq_e (by decide) ?_)|((with_reducible refine zC (b:=?b_) ?hb_ ?_ ?_);case hb_=>rfl)|((conv=>whnf);first|(with_reducible refine hK_ _ _ ?_;try clear hK_ K_)|(with_reducible refine fun (g_:Sl) (o_:Ow)=>?_)|(with_reducible first|exact True.intro|refine And.intro trivial ?_|refine And.intro ?_ ?_)|exact Nat.le_of_ble_eq_true rfl|exact Or.inl rfl|(intro h_;cases h_)|(intro h_;(try simp only [vS1] at h_))|rfl))) <;> (try (conv=>whnf)) <;> (try first|change (_:Int)≤_|change (_:Nat)≤_) <;> (try ((fail_if_success (with_reducible apply Exists.intro));(try dsimp only);(try simp only [vS1]))) <;> (try simp (disch:=omega) only [vS3,vS2] at *)
 all_goals (try (fail_if_success (with_reducible apply Exists.intro));first|with_reducible assumption|omega|exact mdl (by omega)|exact ilo1 (by omega)|exact ilo2 (by omega)|exact ihi1 (by omega) (by omega)|exact ihi2 (by omega) (by omega))
 ·exact (seesS_no1 (k:=k) ‹k < xs.length› h_).symm
 ·have hin:∀ j,j < k + 1→crs (ax,ay) (bx,b_y) (wl xs j).1 (wl xs j).2=false:=fun j hj=>by
   rcases Nat.lt_or_ge j k with h5|h5
   ·exact hall j h5
   ·rw [show j=k by omega];exact h_
  refine ⟨k + 1,by omega,⟨by omega,hin⟩,?_⟩
  (repeat' (first|(with_reducible first|exact True.intro|refine And.intro ?_ ?_|refine Head.mk ?_ ?_ ?_ ?_)|((conv=>lhs;whnf);first|(with_reducible first|rfl|exact vInt_s (by omega))|exact rfl)|((conv=>whnf);first|(with_reducible first|exact True.intro|refine And.intro ?_ ?_)))) <;> (try (conv=>lhs;whnf))
  ·refine congrArg (Own.row _ _) ?_
   rw [filter_take_succ _ (0,0) ‹k < xs.length›,if_pos (amid_yes ‹_› ‹_› ‹_›),List.append_assoc]
  ·exact congrArg (Own.row _ _) (map_take_succ' twP (0,0) ‹k < xs.length›).symm
 ·have hin:∀ j,j < k + 1→crs (ax,ay) (bx,b_y) (wl xs j).1 (wl xs j).2=false:=fun j hj=>by
   rcases Nat.lt_or_ge j k with h5|h5
   ·exact hall j h5
   ·rw [show j=k by omega];exact h_
  refine ⟨k + 1,by omega,⟨by omega,hin⟩,?_⟩
  (repeat' (first|(with_reducible first|exact True.intro|refine And.intro ?_ ?_|refine Head.mk ?_ ?_ ?_ ?_)|((conv=>lhs;whnf);first|(with_reducible first|rfl|exact vInt_s (by omega))|exact rfl)|((conv=>whnf);first|(with_reducible first|exact True.intro|refine And.intro ?_ ?_)))) <;> (try (conv=>lhs;whnf))
  ·refine congrArg (Own.row _ _) ?_
   rw [filter_take_succ _ (0,0) ‹k < xs.length›,if_neg (by unfold amid;simp_all),List.append_nil]
  ·exact congrArg (Own.row _ _) (map_take_succ' twP (0,0) ‹k < xs.length›).symm
 ·have hin:∀ j,j < k + 1→crs (ax,ay) (bx,b_y) (wl xs j).1 (wl xs j).2=false:=fun j hj=>by
   rcases Nat.lt_or_ge j k with h5|h5
   ·exact hall j h5
   ·rw [show j=k by omega];exact h_
  refine ⟨k + 1,by omega,⟨by omega,hin⟩,?_⟩
  (repeat' (first|(with_reducible first|exact True.intro|refine And.intro ?_ ?_|refine Head.mk ?_ ?_ ?_ ?_)|((conv=>lhs;whnf);first|(with_reducible first|rfl|exact vInt_s (by omega))|exact rfl)|((conv=>whnf);first|(with_reducible first|exact True.intro|refine And.intro ?_ ?_)))) <;> (try (conv=>lhs;whnf))
  ·refine congrArg (Own.row _ _) ?_
   rw [filter_take_succ _ (0,0) ‹k < xs.length›,if_neg (by unfold amid;simp_all),List.append_nil]
  ·exact congrArg (Own.row _ _) (map_take_succ' twP (0,0) ‹k < xs.length›).symm
 ·have hin:∀ j,j < k + 1→crs (ax,ay) (bx,b_y) (wl xs j).1 (wl xs j).2=false:=fun j hj=>by
   rcases Nat.lt_or_ge j k with h5|h5
   ·exact hall j h5
   ·rw [show j=k by omega];exact h_
  refine ⟨k + 1,by omega,⟨by omega,hin⟩,?_⟩
  (repeat' (first|(with_reducible first|exact True.intro|refine And.intro ?_ ?_|refine Head.mk ?_ ?_ ?_ ?_)|((conv=>lhs;whnf);first|(with_reducible first|rfl|exact vInt_s (by omega))|exact rfl)|((conv=>whnf);first|(with_reducible first|exact True.intro|refine And.intro ?_ ?_)))) <;> (try (conv=>lhs;whnf))
  ·refine congrArg (Own.row _ _) ?_
   rw [filter_take_succ _ (0,0) ‹k < xs.length›,if_neg (by unfold amid;simp_all),List.append_nil]
  ·exact congrArg (Own.row _ _) (map_take_succ' twP (0,0) ‹k < xs.length›).symm
 obtain rfl:k=xs.length:=by omega
 obtain ⟨ps,hps⟩:∃ ps,ps=cutsOf xs (ax,ay) (bx,b_y):=⟨_,rfl⟩
 have hpl:ps.length≤12:=by rw [hps];have:=hfl xs.length;rw [List.take_of_length_le (Nat.le_refl _)] at this;simp;omega
 refine awp'_loopG (α:=Nat) (fun i ver_=>[(11,vInt i)]) (fun i ver_=>[(8,20,false,.row t_impl_Point (.b .pt) ps),(9,21,false,.row t_impl_Point (.b .pt) (xs.map twP))]) (fun i ver_=>[(15,⟨ver_ 15,.dead⟩)]) (fun i=>i≤ps.length∧∀ j,j < i→∀ k,k < j→badPair xs ps j k=false) (fun i=>ps.length - i) [] [] (0) ?_
 conv=>whnf
 refine ⟨⟨?inv2_,?vals2_,?own2_,?fix2_⟩,?body2_⟩
 case' vals2_=>(repeat' (first|(with_reducible first|exact True.intro|refine And.intro ?_ ?_|refine Head.mk ?_ ?_ ?_ ?_)|((conv=>lhs;whnf);first|(with_reducible first|rfl|exact vInt_s (by omega))|exact rfl)|((conv=>whnf);first|(with_reducible first|exact True.intro|refine And.intro ?_ ?_)))) <;> (try (conv=>lhs;whnf))
 case' own2_=>(repeat' (first|(with_reducible first|exact True.intro|refine And.intro ?_ ?_|refine Head.mk ?_ ?_ ?_ ?_)|((conv=>lhs;whnf);first|(with_reducible first|rfl|exact vInt_s (by omega))|exact rfl)|((conv=>whnf);first|(with_reducible first|exact True.intro|refine And.intro ?_ ?_)))) <;> (try (conv=>lhs;whnf))
 case' fix2_=>(repeat' (first|(with_reducible first|exact True.intro|refine And.intro ?_ ?_|refine Head.mk ?_ ?_ ?_ ?_)|((conv=>lhs;whnf);first|(with_reducible first|rfl|exact vInt_s (by omega))|exact rfl)|((conv=>whnf);first|(with_reducible first|exact True.intro|refine And.intro ?_ ?_)))) <;> (try (conv=>lhs;whnf))
 ·exact congrArg (Own.row _ _) (by rw [hps,List.take_of_length_le (Nat.le_refl _)])
 ·exact congrArg (Own.row _ _) (by rw [List.take_of_length_le (Nat.le_refl _)])
 ·exact ⟨Nat.zero_le _,fun j hj=>absurd hj (by omega)⟩
 rintro i g_ o_ v_ ⟨hi,hbad⟩
 (repeat' (first|(with_reducible first|exact True.intro|refine zQ ?_|(refine zG hG_ ?_;intro K_ hK_)|(refine zR ?_;intro K_ hK_)|(refine hK_ _ _ ?_;try clear hK_ K_)|refine sq_n ?_|refine sq_r ?_|refine sq_e ?_|refine bq_n ?_|refine bq_r ?_|refine bq_q ?_|refine zB ?_|refine zX ?_|refine zT ?_|refine zK ?_|refine gq_n ?_|refine gq_r ?_|refine gq_e ?_|refine lq_n ?_|refine lq_r ?_|refine lq_e ?_|refine bq_e (by decide) ?_)|((with_reducible refine zC (b:=?b_) ?hb_ ?_ ?_);case hb_=>rfl)|((conv=>whnf);first|(with_reducible refine hK_ _ _ ?_;try clear hK_ K_)|(with_reducible refine fun (g_:Sl) (o_:Ow)=>?_)|(with_reducible first|exact True.intro|refine And.intro trivial ?_|refine And.intro ?_ ?_)|exact Nat.le_of_ble_eq_true rfl|exact Or.inl rfl|(intro h_;cases h_)|(intro h_;(try simp only [vS1] at h_))|rfl))) <;> (try (conv=>whnf)) <;> (try first|change (_:Int)≤_|change (_:Nat)≤_) <;> (try ((fail_if_success (with_reducible apply Exists.intro));(try dsimp only);(try simp only [vS1]))) <;> (try simp (disch:=omega) only [vS3,vS2] at *)
 all_goals (try (fail_if_success (with_reducible apply Exists.intro));first|with_reducible assumption|omega|exact mdl (by omega)|exact ilo1 (by omega)|exact ilo2 (by omega)|exact ihi1 (by omega) (by omega)|exact ihi2 (by omega) (by omega))
 refine awp'_loopG (α:=Nat) (fun k ver_=>[(12,vInt k)]) (fun k ver_=>[]) (fun k ver_=>[(15,⟨ver_ 15,.dead⟩)]) (fun k=>k≤i∧∀ j,j < k→badPair xs ps i j=false) (fun k=>i - k) [8,9,11] [20,21] (0) ?_
 conv=>whnf
 refine ⟨⟨?inv3_,?vals3_,?own3_,?fix3_⟩,?body3_⟩
 case' vals3_=>(repeat' (first|(with_reducible first|exact True.intro|refine And.intro ?_ ?_|refine Head.mk ?_ ?_ ?_ ?_)|((conv=>lhs;whnf);first|(with_reducible first|rfl|exact vInt_s (by omega))|exact rfl)|((conv=>whnf);first|(with_reducible first|exact True.intro|refine And.intro ?_ ?_)))) <;> (try (conv=>lhs;whnf))
 case' own3_=>(repeat' (first|(with_reducible first|exact True.intro|refine And.intro ?_ ?_|refine Head.mk ?_ ?_ ?_ ?_)|((conv=>lhs;whnf);first|(with_reducible first|rfl|exact vInt_s (by omega))|exact rfl)|((conv=>whnf);first|(with_reducible first|exact True.intro|refine And.intro ?_ ?_)))) <;> (try (conv=>lhs;whnf))
 case' fix3_=>(repeat' (first|(with_reducible first|exact True.intro|refine And.intro ?_ ?_|refine Head.mk ?_ ?_ ?_ ?_)|((conv=>lhs;whnf);first|(with_reducible first|rfl|exact vInt_s (by omega))|exact rfl)|((conv=>whnf);first|(with_reducible first|exact True.intro|refine And.intro ?_ ?_)))) <;> (try (conv=>lhs;whnf))
 ·exact ⟨Nat.zero_le _,fun j hj=>absurd hj (by omega)⟩
 rintro k g_ o_ v_ ⟨hk,hbk⟩
 (repeat' (first|(with_reducible first|exact True.intro|refine zQ ?_|(refine zG hG_ ?_;intro K_ hK_)|(refine zR ?_;intro K_ hK_)|(refine hK_ _ _ ?_;try clear hK_ K_)|refine sq_n ?_|refine sq_r ?_|refine sq_e ?_|refine bq_n ?_|refine bq_r ?_|refine bq_q ?_|refine zB ?_|refine zX ?_|refine zT ?_|refine zK ?_|refine gq_n ?_|refine gq_r ?_|refine gq_e ?_|refine lq_n ?_|refine lq_r ?_|refine lq_e ?_|refine bq_e (by decide) ?_)|((with_reducible refine zC (b:=?b_) ?hb_ ?_ ?_);case hb_=>rfl)|((conv=>whnf);first|(with_reducible refine hK_ _ _ ?_;try clear hK_ K_)|(with_reducible refine fun (g_:Sl) (o_:Ow)=>?_)|(with_reducible first|exact True.intro|refine And.intro trivial ?_|refine And.intro ?_ ?_)|exact Nat.le_of_ble_eq_true rfl|exact Or.inl rfl|(intro h_;cases h_)|(intro h_;(try simp only [vS1] at h_))|rfl))) <;> (try (conv=>whnf)) <;> (try first|change (_:Int)≤_|change (_:Nat)≤_) <;> (try ((fail_if_success (with_reducible apply Exists.intro));(try dsimp only);(try simp only [vS1]))) <;> (try simp (disch:=omega) only [vS3,vS2] at *)
 all_goals (try (fail_if_success (with_reducible apply Exists.intro));first|with_reducible assumption|omega|exact mdl (by omega)|exact ilo1 (by omega)|exact ilo2 (by omega)|exact ihi1 (by omega) (by omega)|exact ihi2 (by omega) (by omega))
 refine awp'_loopG (α:=Nat) (fun j ver_=>[(14,vInt j),(13,vBool (freeTo ps i k j))]) (fun j ver_=>[]) (fun j ver_=>[(15,⟨ver_ 15,.dead⟩)]) (fun j=>j≤ps.length) (fun j=>ps.length - j) [8,9,11,12] [20,21] (0) ?_
 conv=>whnf
 refine ⟨⟨?inv4_,?vals4_,?own4_,?fix4_⟩,?body4_⟩
 case' vals4_=>(repeat' (first|(with_reducible first|exact True.intro|refine And.intro ?_ ?_|refine Head.mk ?_ ?_ ?_ ?_)|((conv=>lhs;whnf);first|(with_reducible first|rfl|exact vInt_s (by omega))|exact rfl)|((conv=>whnf);first|(with_reducible first|exact True.intro|refine And.intro ?_ ?_)))) <;> (try (conv=>lhs;whnf))
 case' own4_=>(repeat' (first|(with_reducible first|exact True.intro|refine And.intro ?_ ?_|refine Head.mk ?_ ?_ ?_ ?_)|((conv=>lhs;whnf);first|(with_reducible first|rfl|exact vInt_s (by omega))|exact rfl)|((conv=>whnf);first|(with_reducible first|exact True.intro|refine And.intro ?_ ?_)))) <;> (try (conv=>lhs;whnf))
 case' fix4_=>(repeat' (first|(with_reducible first|exact True.intro|refine And.intro ?_ ?_|refine Head.mk ?_ ?_ ?_ ?_)|((conv=>lhs;whnf);first|(with_reducible first|rfl|exact vInt_s (by omega))|exact rfl)|((conv=>whnf);first|(with_reducible first|exact True.intro|refine And.intro ?_ ?_)))) <;> (try (conv=>lhs;whnf))
 ·exact Nat.zero_le _
 rintro j g_ o_ v_ hj
 have hfull:¬ j < ps.length→j=ps.length:=fun h=>by omega
 (repeat' (first|(with_reducible first|exact True.intro|refine zQ ?_|(refine zG hG_ ?_;intro K_ hK_)|(refine zR ?_;intro K_ hK_)|(refine hK_ _ _ ?_;try clear hK_ K_)|refine sq_n ?_|refine sq_r ?_|refine sq_e ?_|refine bq_n ?_|refine bq_r ?_|refine bq_q ?_|refine zB ?_|refine zX ?_|refine zT ?_|refine zK ?_|refine gq_n ?_|refine gq_r ?_|refine gq_e ?_|refine lq_n ?_|refine lq_r ?_|refine lq_e ?_|refine bq_e (by decide) ?_)|((with_reducible refine zC (b:=?b_) ?hb_ ?_ ?_);case hb_=>rfl)|((conv=>whnf);first|(with_reducible refine hK_ _ _ ?_;try clear hK_ K_)|(with_reducible refine fun (g_:Sl) (o_:Ow)=>?_)|(with_reducible first|exact True.intro|refine And.intro trivial ?_|refine And.intro ?_ ?_)|exact Nat.le_of_ble_eq_true rfl|exact Or.inl rfl|(intro h_;cases h_)|(intro h_;(try simp only [vS1] at h_))|rfl))) <;> (try (conv=>whnf)) <;> (try first|change (_:Int)≤_|change (_:Nat)≤_) <;> (try ((fail_if_success (with_reducible apply Exists.intro));(try dsimp only);(try simp only [vS1]))) <;> (try simp (disch:=omega) only [vS3,vS2] at *)
 all_goals (try (fail_if_success (with_reducible apply Exists.intro));first|with_reducible assumption|omega|exact mdl (by omega)|exact ilo1 (by omega)|exact ilo2 (by omega)|exact ihi1 (by omega) (by omega)|exact ihi2 (by omega) (by omega))
 ·refine ⟨j + 1,by omega,by omega,?_⟩
  (repeat' (first|(with_reducible first|exact True.intro|refine And.intro ?_ ?_|refine Head.mk ?_ ?_ ?_ ?_)|((conv=>lhs;whnf);first|(with_reducible first|rfl|exact vInt_s (by omega))|exact rfl)|((conv=>whnf);first|(with_reducible first|exact True.intro|refine And.intro ?_ ?_)))) <;> (try (conv=>lhs;whnf))
  exact congrArg vBool (by rw [freeTo_succ,‹freeTo ps i k j=true›,Bool.true_and];unfold freeAt;rw [decide_eq_true h_,Bool.true_or])
 ·refine ⟨j + 1,by omega,by omega,?_⟩
  (repeat' (first|(with_reducible first|exact True.intro|refine And.intro ?_ ?_|refine Head.mk ?_ ?_ ?_ ?_)|((conv=>lhs;whnf);first|(with_reducible first|rfl|exact vInt_s (by omega))|exact rfl)|((conv=>whnf);first|(with_reducible first|exact True.intro|refine And.intro ?_ ?_)))) <;> (try (conv=>lhs;whnf))
  exact congrArg vBool (by rw [freeTo_succ,‹freeTo ps i k j=true›,Bool.true_and];unfold freeAt;rw [decide_eq_true h_,Bool.true_or,Bool.or_true])
 ·refine ⟨j + 1,by omega,by omega,?_⟩
  (repeat' (first|(with_reducible first|exact True.intro|refine And.intro ?_ ?_|refine Head.mk ?_ ?_ ?_ ?_)|((conv=>lhs;whnf);first|(with_reducible first|rfl|exact vInt_s (by omega))|exact rfl)|((conv=>whnf);first|(with_reducible first|exact True.intro|refine And.intro ?_ ?_)))) <;> (try (conv=>lhs;whnf))
  exact congrArg vBool (by rw [freeTo_succ,‹freeTo ps i k j=true›,Bool.true_and];unfold freeAt;rw [decide_eq_false ‹¬j=i›,decide_eq_false h_,Bool.false_or,Bool.false_or])
 ·refine ⟨j + 1,by omega,by omega,?_⟩
  (repeat' (first|(with_reducible first|exact True.intro|refine And.intro ?_ ?_|refine Head.mk ?_ ?_ ?_ ?_)|((conv=>lhs;whnf);first|(with_reducible first|rfl|exact vInt_s (by omega))|exact rfl)|((conv=>whnf);first|(with_reducible first|exact True.intro|refine And.intro ?_ ?_)))) <;> (try (conv=>lhs;whnf))
  exact congrArg vBool (by rw [freeTo_succ,‹freeTo ps i k j=false›,Bool.false_and])
 ·subst hps
  obtain rfl:=hfull h_
  refine (seesS_no2 ‹i < _› ‹k < i› ?_).symm
  unfold badPair
  rw [‹freeTo _ i k _=true›,Bool.true_and,decide_eq_true]
  assumption
 ·refine ⟨k + 1,by omega,⟨by omega,fun j' hj'=>?_⟩,by (repeat' (first|(with_reducible first|exact True.intro|refine And.intro ?_ ?_|refine Head.mk ?_ ?_ ?_ ?_)|((conv=>lhs;whnf);first|(with_reducible first|rfl|exact vInt_s (by omega))|exact rfl)|((conv=>whnf);first|(with_reducible first|exact True.intro|refine And.intro ?_ ?_)))) <;> (try (conv=>lhs;whnf))⟩
  rcases Nat.lt_or_ge j' k with h5|h5
  ·exact hbk j' h5
  ·rw [show j'=k by omega]
   unfold badPair
   rw [decide_eq_false (by assumption),Bool.and_false]
 ·refine ⟨k + 1,by omega,⟨by omega,fun j' hj'=>?_⟩,by (repeat' (first|(with_reducible first|exact True.intro|refine And.intro ?_ ?_|refine Head.mk ?_ ?_ ?_ ?_)|((conv=>lhs;whnf);first|(with_reducible first|rfl|exact vInt_s (by omega))|exact rfl)|((conv=>whnf);first|(with_reducible first|exact True.intro|refine And.intro ?_ ?_)))) <;> (try (conv=>lhs;whnf))⟩
  rcases Nat.lt_or_ge j' k with h5|h5
  ·exact hbk j' h5
  ·obtain rfl:=hfull h_
   rw [show j'=k by omega]
   unfold badPair
   rw [‹freeTo _ i k _=false›,Bool.false_and]
 ·refine ⟨i + 1,by omega,⟨by omega,fun j' hj'=>?_⟩,by (repeat' (first|(with_reducible first|exact True.intro|refine And.intro ?_ ?_|refine Head.mk ?_ ?_ ?_ ?_)|((conv=>lhs;whnf);first|(with_reducible first|rfl|exact vInt_s (by omega))|exact rfl)|((conv=>whnf);first|(with_reducible first|exact True.intro|refine And.intro ?_ ?_)))) <;> (try (conv=>lhs;whnf))⟩
  rcases Nat.lt_or_ge j' i with h5|h5
  ·exact hbad j' h5
  ·rw [show j'=i by omega]
   exact fun k' hk'=>hbk k' (by omega)
 ·subst hps
  exact (seesS_yes hall fun i' hi'=>hbad i' (by omega)).symm
end Go.Proofs.YtpafacebfogkmaaGreat
namespace Go.Proofs.YtpafacebfogkmaaGreat
open Go.Shelf Go.RowKit Go.Lib Go.Sort Go.Proofs.YtpafacebfogkmaaGreat.Nm
theorem bd_default:Bd (default:Pt):=by unfold Bd;decide
theorem getBang_bd {d:Array Pt} (h:∀ p∈d.toList,Bd p) (i:Nat):Bd d[i]! := by
 by_cases hi:i < d.size
 ·rw [getElem!_pos d i hi];exact h _ (Array.getElem_mem_toList hi)
 ·rw [getElem!_neg d i hi];exact bd_default
theorem swp_mem {d:Array Pt} (h:∀ p∈d.toList,Bd p) {i j:Nat} (hi:i < d.size) (hj:j < d.size):∀ p∈(swp d i j).toList,Bd p:=by
 intro p hp
 have hperm:=swp_permIn d 0 d.size i j (Nat.zero_le _) hi (Nat.zero_le _) hj (Nat.le_refl _)
 have h3:=hperm.2.2
 have h1:=hperm.1
 rw [← h1,Array.extract_size,h1,Array.extract_size] at h3
 exact h p (h3.mem_iff.1 hp)
theorem insInner_congr {lt lt':Pt→Pt→Bool} (hl:∀ x y,Bd x→Bd y→lt x y=lt' x y) (a:Nat):∀ (j:Nat) (d:Array Pt),(∀ p∈d.toList,Bd p)→j < d.size→insInner lt a j d=insInner lt' a j d
 | 0,d,_,_=>rfl
 | j + 1,d,h,hj=>by
  unfold insInner
  rw [hl _ _ (getBang_bd h _) (getBang_bd h _)]
  split
  ·exact insInner_congr hl a j _ (swp_mem h hj (by omega)) (by rw [size_swp];omega)
  ·rfl
theorem insInner_bd {lt:Pt→Pt→Bool} (a:Nat):∀ (j:Nat) (d:Array Pt),(∀ p∈d.toList,Bd p)→j < d.size→∀ p∈(insInner lt a j d).toList,Bd p
 | 0,d,h,_=>h
 | j + 1,d,h,hj=>by
  unfold insInner
  split
  ·exact insInner_bd a j _ (swp_mem h hj (by omega)) (by rw [size_swp];omega)
  ·exact h
theorem insOuter_congr {lt lt':Pt→Pt→Bool} (hl:∀ x y,Bd x→Bd y→lt x y=lt' x y) (a b:Nat):∀ (n i:Nat) (d:Array Pt),b - i≤n→b≤d.size→(∀ p∈d.toList,Bd p)→insOuter lt a b i d=insOuter lt' a b i d
 | 0,i,d,hn,hb,h=>by unfold insOuter;rw [if_neg (by omega),if_neg (by omega)]
 | n + 1,i,d,hn,hb,h=>by
  unfold insOuter
  split
  ·rw [insInner_congr hl a i d h (by omega)]
   exact insOuter_congr hl a b n (i + 1) _ (by omega) (by rw [insInner_size];exact hb) (insInner_bd a i d h (by omega))
  ·rfl
theorem sq_bd {x:Int} (h1:-2000≤x) (h2:x≤2000):0≤x * x∧x * x≤4000000:=by
 have:=mul_bd h1 h2 h1 h2
 refine ⟨?_,this.2⟩
 rcases Int.le_total 0 x with h|h
 ·exact Int.mul_nonneg h h
 ·exact Int.mul_nonneg_of_nonpos_of_nonpos h h
theorem sqM_exact {a x:Pt} (ha:Bd a) (hx:Bd x):sqM a x=sqd a x∧0≤sqd a x∧sqd a x≤8000000:=by
 unfold Bd at ha hx
 have e1:=sq_bd (x:=a.1 - x.1) (by omega) (by omega)
 have e2:=sq_bd (x:=a.2 - x.2) (by omega) (by omega)
 have hw:∀ n:Int,-9223372036854775808≤n→n≤9223372036854775807→wrap64 n=n:=fun n h1 h2=>by unfold wrap64;omega
 unfold sqM sqd
 rw [hw (a.1 - x.1) (by omega) (by omega),hw (a.2 - x.2) (by omega) (by omega),hw ((a.1 - x.1) * _) (by omega) (by omega),hw ((a.2 - x.2) * _) (by omega) (by omega),hw _ (by omega) (by omega)]
 exact ⟨rfl,by omega,by omega⟩
theorem cb_lt {a x y:Pt} (ha:Bd a) (hx:Bd x) (hy:Bd y):ltOf (cbCmp a) x y=decide (sqd a x < sqd a y):=by
 obtain ⟨e1,b1,b2⟩:=sqM_exact ha hx
 obtain ⟨e2,b3,b4⟩:=sqM_exact ha hy
 unfold ltOf cbCmp
 rw [e1,e2,W_in (by omega) (by omega)]
 exact decide_eq_decide.2 (by omega)
theorem swo_key (key:Pt→Int):SWO fun x y=>decide (key x < key y):=
 ⟨fun x=>by simp,fun x y z h1 h2=>by simp at *;omega,fun x y z h1 h2=>by simp at *;omega⟩
theorem distSort_perm {a:Pt} {xs:List Pt} (ha:Bd a) (h:∀ p∈xs,Bd p):(distSort a xs).Perm xs∧(distSort a xs).Pairwise fun p q=>sqd a p≤sqd a q:=by
 have e:distSort a xs=(Sort.insertionSort (fun x y=>decide (sqd a x < sqd a y)) xs.toArray 0 xs.length).toList:=by
  unfold distSort Sort.insertionSort
  rw [insOuter_congr (fun x y hx hy=>cb_lt ha hx hy) 0 xs.length _ _ xs.toArray (Nat.le_refl _) (by simp) (by simpa using h)]
 rw [e]
 obtain ⟨⟨h1,h2,h3⟩,h4⟩:=insertionSort_holds (lt:=fun x y=>decide (sqd a x < sqd a y)) (swo_key (sqd a)) xs.toArray 0 xs.length (Nat.zero_le _) (by simp)
 generalize Sort.insertionSort (fun x y=>decide (sqd a x < sqd a y)) xs.toArray 0 xs.length=D at *
 have hs:D.size=xs.length:=by rw [h1];simp
 refine ⟨?_,?_⟩
 ·have h3:=h3
  rw [← hs,Array.extract_size] at h3
  rw [show D.size=xs.toArray.size by rw [h1],Array.extract_size] at h3
  exact h3
 ·rw [List.pairwise_iff_getElem]
  intro i j hi hj hij
  have hi':i < D.size:=by simpa using hi
  have hj':j < D.size:=by simpa using hj
  have:=h4 i j (Nat.zero_le _) hij (by omega)
  rw [getElem!_pos D i hi',getElem!_pos D j hj'] at this
  simp only [decide_eq_false_iff_not] at this
  simp only [Array.getElem_toList]
  omega
theorem seesI_iff' {xs:List Pt} {a b:Pt}:seesI xs a b=true↔(∀ k,k < xs.length→crs a b (wl xs k).1 (wl xs k).2=false)∧∀ u,u + 1 < (cornersB xs a b).length→midM xs (pAt (cornersB xs a b) u) (pAt (cornersB xs a b) (u + 1))≠0:=by
 unfold seesI
 simp only [Bool.and_eq_true,List.all_eq_true,List.mem_range,Bool.not_eq_true',bne_iff_ne,ne_eq]
 refine and_congr_right fun _=>⟨fun h u hu=>h u (by omega),fun h u hu=>h u (by omega)⟩
theorem cuts_bd {xs:List Pt} {a b:Pt} (ha:ptOk a=true) (hb:ptOk b=true):∀ p∈cutsOf xs a b,Bd p:=fun p h=>bd_on (bd_of_ok ha) (bd_of_ok hb) (cuts_on h)
theorem seesI_iff {xs:List Pt} {a b:Pt} (hr:roomOk xs=true) (ha:ptOk a=true) (hb:ptOk b=true):seesI xs a b=true↔Sees xs a b:=by
 rw [seesI_iff']
 obtain ⟨h1,h2⟩:=distSort_perm (bd_of_ok ha) (cuts_bd (xs:=xs) ha hb)
 exact and_congr_right fun _=>sees_sorted hr ha hb h1 h2
theorem sees_eq {xs:List Pt} {a b:Pt} (hr:roomOk xs=true) (ha:ptOk a=true) (hb:ptOk b=true):seesI xs a b=seesS xs a b:=by
 rw [Bool.eq_iff_iff,seesI_iff hr ha hb,seesS_iff hr ha hb]
theorem cornersB_perm {xs:List Pt} {a b:Pt} (ha:ptOk a=true) (hb:ptOk b=true):(cornersB xs a b).length=(cutsOf xs a b).length:=
 (distSort_perm (bd_of_ok ha) (cuts_bd (xs:=xs) ha hb)).1.length_eq
end Go.Proofs.YtpafacebfogkmaaGreat
