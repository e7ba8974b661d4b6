/- What the proof of 'FnCuts' needs, part 7: conditions and steps of the functions that it reaches, and the mathematics. -/
import Derived.Test.YtpafacebfogkmaaGreatRows
import Derived.WalkKit
import Derived.WalkSpells
import Derived.Below
import Derived.Orders
import Derived.Maps.AppendAt
import Derived.Laws.StructEq
import Derived.WideShapes
import Derived.ChangeSlices
import Derived.Deep.Strs
import Derived.ChangeOld
import Derived.Shelf.SlLaysF0
import Derived.Shelf.SlSortCmp.InsertionK
import Derived.Shelf.SlSortCmp.SmallK
import Derived.Shelf.SlSortCmp.Xorshift
import Derived.Sort.LotA
import Derived.Shelf.Bits.Mul64
import Derived.Test.YtpafacebfogkmaaGreatSFnCuts6
set_option linter.unusedSimpArgs false
set_option linter.unusedVariables false
namespace Go.Proofs.YtpafacebfogkmaaGreat
open Go.RowKit Go.Proofs.YtpafacebfogkmaaGreat.Nm
set_option maxRecDepth 10000
theorem shape_bd (k:Int):∀ q∈shapeM k,0≤q.1∧q.1≤10∧0≤q.2∧q.2≤10:=by
 unfold shapeM
 repeat' split
 all_goals decide
theorem stepR_bd {s:List Pt × Cur} {j:Int} (hr:roomOk s.1=true) (h:∀ q∈s.1,-j≤q.1∧q.1≤10 + j∧-j≤q.2∧q.2≤10 + j):∀ q∈(stepR s).1,-(j + 1)≤q.1∧q.1≤10 + (j + 1)∧-(j + 1)≤q.2∧q.2≤10 + (j + 1):=by
 have h3:=(roomOk_iff.1 hr).1
 intro q hq
 have old:q∈s.1→-(j + 1)≤q.1∧q.1≤10 + (j + 1)∧-(j + 1)≤q.2∧q.2≤10 + (j + 1):=fun hq=>by have:=h q hq;omega
 unfold stepR at hq
 simp only at hq
 split at hq
 ·unfold stepX at hq
  rcases List.mem_or_eq_of_mem_set hq with hq|rfl
  ·exact old hq
  ·have hb:=below_bd (c:=s.2) (n:=(s.1.length:Int)) (by omega)
   have hi:(belowX s.2 s.1.length).toNat < s.1.length:=by omega
   have:=h _ (List.getElem_mem hi)
   rw [← getD_lt (0,0) hi] at this
   have b1:=below_bd (c:=belowC s.2 s.1.length) (n:=3) (by decide)
   have b2:=below_bd (c:=belowC (belowC s.2 s.1.length) 3) (n:=3) (by decide)
   simp only
   omega
 ·exact old hq
theorem iterR_bd (c:Cur):∀ j:Nat,∀ q∈(iterR (room0 c) j).1,-(j:Int)≤q.1∧q.1≤10 + (j:Int)∧-(j:Int)≤q.2∧q.2≤10 + (j:Int)
 | 0=>fun q hq=>by have:=shape_bd _ q hq;omega
 | j + 1=>stepR_bd (iterR_ok (shape_ok _) j) (iterR_bd c j)
def laidMv (turn dx:Int):Geo.Mv:=if turn=1 then ⟨0,1,dx,0,rfl⟩ else if turn=2 then ⟨-1,0,dx,0,rfl⟩ else ⟨1,0,dx,0,rfl⟩
theorem laidMv_app (turn dx:Int) (p:Pt):laidP turn dx p=(laidMv turn dx).app p:=by
 unfold laidP turnP laidMv Geo.Mv.app
 split
 ·refine Prod.ext ?_ ?_ <;> simp only <;> omega
 ·split
  ·refine Prod.ext ?_ ?_ <;> simp only <;> omega
  ·refine Prod.ext ?_ ?_ <;> simp only <;> omega
theorem laidR_len (xs:List Pt) (turn first dx:Int):(laidR xs turn first dx).length=xs.length:=by unfold laidR;simp
theorem laid_ok {xs:List Pt} (hr:roomOk xs=true) {turn first dx:Int} (hb:∀ q∈xs,-30≤q.1∧q.1≤30∧-30≤q.2∧q.2≤30) (hd:-2≤dx∧dx≤2):roomOk (laidR xs turn first dx)=true:=by
 have h3:=(roomOk_iff.1 hr).1
 have hn:0 < xs.length:=by omega
 refine Geo.room_moved hr first.toNat (laidMv turn dx) (laidR_len _ _ _ _) (fun j=>?_) fun q hq=>?_
 ·show (laidR xs turn first dx).getD (j % (laidR xs turn first dx).length) (0,0)=_
  rw [laidR_len]
  have hj:=Nat.mod_lt j hn
  rw [getD_lt _ (by rw [laidR_len];exact hj)]
  unfold laidR
  rw [List.getElem_map,List.getElem_range]
  show laidP turn dx (xs.getD ((first.toNat + j % xs.length) % xs.length) (0,0))=_
  rw [laidMv_app,Nat.add_mod_mod]
 ·unfold laidR at hq
  obtain ⟨k,-,rfl⟩:=List.mem_map.1 hq
  have hm:(first.toNat + k) % xs.length < xs.length:=Nat.mod_lt _ hn
  have:=hb _ (List.getElem_mem hm)
  rw [← getD_lt (0,0) hm] at this
  show ptOk (laidP turn dx (xs.getD _ _))=true
  refine ptOk_iff.2 ?_
  unfold laidP turnP
  repeat' split
  all_goals simp only;omega
theorem roomX_ok (c:Cur):roomOk (roomX c)=true:=by
 have hK:0≤roomK c∧roomK c < 4:=below_bd (by decide)
 refine laid_ok (iterR_ok (s:=room0 c) (shape_ok _) _) (fun q hq=>?_) ?_
 ·have:=iterR_bd c _ q hq
  omega
 ·have:=below_bd (c:=belowC (belowC (roomS c).2 4) (roomS c).1.length) (n:=5) (by decide)
  omega
theorem drawRoom_room (bs:List Int):roomOk (drawRoomM bs)=true:=roomX_ok _
end Go.Proofs.YtpafacebfogkmaaGreat
namespace Go.Proofs.YtpafacebfogkmaaGreat
open Go.RowKit Go.Proofs.YtpafacebfogkmaaGreat.Nm
set_option maxRecDepth 10000
set_option maxHeartbeats 4000000
noncomputable def hidR (bs:List Int):List Pt:=Classical.choose (⟨drawRoomM bs,rfl⟩:∃ y,y=drawRoomM bs)
theorem hidR_eq (bs:List Int):hidR bs=drawRoomM bs:=Classical.choose_spec (⟨drawRoomM bs,rfl⟩:∃ y,y=drawRoomM bs)
theorem hidR_room (bs:List Int):roomOk (hidR bs)=true:=by rw [hidR_eq];exact drawRoom_room bs
def diagsHC:Con:=mkCon [.room] (fun x=>x.1.length≤1048576) fun x=>.val (.one (.d (.sl none (.s .int) (diagsM x.1))))
def greedyHC:Con:=mkCon [.room] (fun x=>x.1.length≤1048576) fun x=>.val (.one (.d (.sl none (.s .int) (greedyM x.1))))
theorem iDiagonalsOfH_ok:Good1 Tryz.prog n_impl_DiagonalsOf diagsHC:=by
 refine good_ofG (tys:=tyL) (env:=[(n_impl_RoomOk,roomOkC),(n_impl_diagonal,diagonalC)]) (envw:=[]) (envd:=[]) [9] [] [] [] [] mixed tys ⟨iRoomOk_ok,diagonal_ok,trivial⟩ trivial trivial Tryz.func33 rfl (by kernel_rfl) (by decide) (by kernel_rfl) ?_
 have hG_:=kpz [(0,[1]),(1,[1,8]),(2,[2]),(3,[1,3]),(4,[1,3,12,13]),(5,[1,3,12,13,14]),(6,[1,3,4,12,13]),(7,[1,3,4,5,12,13]),(8,[1,3,4,5,12,13,22]),(9,[1,3,4,5,12,13]),(10,[1,3,4,5,12,13,28]),(11,[1,3,4,5,12,13]),(12,[1,3,12,13]),(13,[2])] [(3,[9]),(4,[9]),(5,[9]),(6,[9]),(7,[9]),(8,[9]),(9,[9]),(10,[9]),(11,[9]),(12,[9]),(13,[9])] [] []
 rintro ⟨(xs:List Pt),⟨⟩⟩ (h1:xs.length≤_)
 (repeat' (first|(with_reducible first|exact True.intro|refine zQ ?_|(refine zG hG_ ?_;intro K_ hK_)|(refine zR ?_;intro K_ hK_)|(refine hK_ _ _ ?_;try clear hK_ K_)|refine sq_n ?_|refine sq_r ?_|refine sq_e ?_|refine bq_n ?_|refine bq_r ?_|refine bq_q ?_|refine zB ?_|refine zX ?_|refine zT ?_|refine zK ?_|refine gq_n ?_|refine gq_r ?_|refine gq_e ?_|refine lq_n ?_|refine lq_r ?_|refine lq_e ?_|refine bq_e (by decide) ?_)|((with_reducible refine zC (b:=?b_) ?hb_ ?_ ?_);case hb_=>rfl)|((conv=>whnf);first|(with_reducible refine hK_ _ _ ?_;try clear hK_ K_)|(with_reducible refine fun (g_:Sl) (o_:Ow)=>?_)|(with_reducible first|exact True.intro|refine And.intro trivial ?_|refine And.intro ?_ ?_)|exact Nat.le_of_ble_eq_true rfl|exact Or.inl rfl|(intro h_;cases h_)|(intro h_;(try simp only [vS1] at h_))|rfl))) <;> (try (conv=>whnf)) <;> (try first|change (_:Int)≤_|change (_:Nat)≤_) <;> (try ((fail_if_success (with_reducible apply Exists.intro));(try dsimp only);(try simp only [vS1]))) <;> (try simp (disch:=omega) only [vS3,Int.add_sub_cancel,tn1,tnp,tnc,vS2] at *)
 all_goals (try ((fail_if_success (with_reducible apply Exists.intro));first|with_reducible assumption|omega))
 ·unfold diagsM;rw [if_neg (by rw [‹roomOk xs=false›];decide)]
 have hr:roomOk xs=true:=by assumption
 have hn:=room_len hr
 refine awp'_loopG (α:=Nat) (fun i ver_=>[(13,vInt i)]) (fun i ver_=>[(3,9,false,.row t_sl_int (.s .int) (diagTo xs i))]) (fun i ver_=>[]) (fun i=>i≤xs.length) (fun i=>xs.length - i) [1,12] [] (0) ?_
 conv=>whnf
 refine ⟨⟨?inv1_,?vals1_,?own1_,?fix1_⟩,?body1_⟩
 case' vals1_=>(repeat' (first|(with_reducible first|exact True.intro|refine And.intro ?_ ?_|refine Head.mk ?_ ?_ ?_ ?_)|((conv=>lhs;whnf);first|(with_reducible first|rfl|exact vInt_s (by omega))|exact rfl)|((conv=>whnf);first|(with_reducible first|exact True.intro|refine And.intro ?_ ?_)))) <;> (try (conv=>lhs;whnf))
 case' own1_=>(repeat' (first|(with_reducible first|exact True.intro|refine And.intro ?_ ?_|refine Head.mk ?_ ?_ ?_ ?_)|((conv=>lhs;whnf);first|(with_reducible first|rfl|exact vInt_s (by omega))|exact rfl)|((conv=>whnf);first|(with_reducible first|exact True.intro|refine And.intro ?_ ?_)))) <;> (try (conv=>lhs;whnf))
 case' fix1_=>(repeat' (first|(with_reducible first|exact True.intro|refine And.intro ?_ ?_|refine Head.mk ?_ ?_ ?_ ?_)|((conv=>lhs;whnf);first|(with_reducible first|rfl|exact vInt_s (by omega))|exact rfl)|((conv=>whnf);first|(with_reducible first|exact True.intro|refine And.intro ?_ ?_)))) <;> (try (conv=>lhs;whnf))
 ·exact Nat.zero_le _
 rintro i g_ o_ v_ hi
 have hel:=diagTo_len xs i
 have hmul:i * xs.length≤10 * 10:=Nat.mul_le_mul (by omega) hn.2
 (repeat' (first|(with_reducible first|exact True.intro|refine zQ ?_|(refine zG hG_ ?_;intro K_ hK_)|(refine zR ?_;intro K_ hK_)|(refine hK_ _ _ ?_;try clear hK_ K_)|refine sq_n ?_|refine sq_r ?_|refine sq_e ?_|refine bq_n ?_|refine bq_r ?_|refine bq_q ?_|refine zB ?_|refine zX ?_|refine zT ?_|refine zK ?_|refine gq_n ?_|refine gq_r ?_|refine gq_e ?_|refine lq_n ?_|refine lq_r ?_|refine lq_e ?_|refine bq_e (by decide) ?_)|((with_reducible refine zC (b:=?b_) ?hb_ ?_ ?_);case hb_=>rfl)|((conv=>whnf);first|(with_reducible refine hK_ _ _ ?_;try clear hK_ K_)|(with_reducible refine fun (g_:Sl) (o_:Ow)=>?_)|(with_reducible first|exact True.intro|refine And.intro trivial ?_|refine And.intro ?_ ?_)|exact Nat.le_of_ble_eq_true rfl|exact Or.inl rfl|(intro h_;cases h_)|(intro h_;(try simp only [vS1] at h_))|rfl))) <;> (try (conv=>whnf)) <;> (try first|change (_:Int)≤_|change (_:Nat)≤_) <;> (try ((fail_if_success (with_reducible apply Exists.intro));(try dsimp only);(try simp only [vS1]))) <;> (try simp (disch:=omega) only [vS3,Int.add_sub_cancel,tn1,tnp,tnc,vS2] at *)
 all_goals (try ((fail_if_success (with_reducible apply Exists.intro));first|with_reducible assumption|omega))
 ·skip
  refine awp'_loopG (α:=Nat) (fun k ver_=>[(5,vInt k)]) (fun k ver_=>[(3,9,false,.row t_sl_int (.s .int) (diagTo xs i ++ diagL xs i k))]) (fun k ver_=>[]) (fun k=>i < k∧k≤xs.length) (fun k=>xs.length - k) [1,4,12,13] [] (i + 1) ?_
  conv=>whnf
  refine ⟨⟨?inv2_,?vals2_,?own2_,?fix2_⟩,?body2_⟩
  case' vals2_=>(repeat' (first|(with_reducible first|exact True.intro|refine And.intro ?_ ?_|refine Head.mk ?_ ?_ ?_ ?_)|((conv=>lhs;whnf);first|(with_reducible first|rfl|exact vInt_s (by omega))|exact rfl)|((conv=>whnf);first|(with_reducible first|exact True.intro|refine And.intro ?_ ?_)))) <;> (try (conv=>lhs;whnf))
  case' own2_=>(repeat' (first|(with_reducible first|exact True.intro|refine And.intro ?_ ?_|refine Head.mk ?_ ?_ ?_ ?_)|((conv=>lhs;whnf);first|(with_reducible first|rfl|exact vInt_s (by omega))|exact rfl)|((conv=>whnf);first|(with_reducible first|exact True.intro|refine And.intro ?_ ?_)))) <;> (try (conv=>lhs;whnf))
  case' fix2_=>(repeat' (first|(with_reducible first|exact True.intro|refine And.intro ?_ ?_|refine Head.mk ?_ ?_ ?_ ?_)|((conv=>lhs;whnf);first|(with_reducible first|rfl|exact vInt_s (by omega))|exact rfl)|((conv=>whnf);first|(with_reducible first|exact True.intro|refine And.intro ?_ ?_)))) <;> (try (conv=>lhs;whnf))
  ·refine congrArg (Own.row _ _) ?_
   rw [diagL_low _ _ _ (Nat.le_refl _),List.append_nil]
  ·exact ⟨by omega,by omega⟩
  rintro k g_ o_ v_ ⟨hik,hk⟩
  have hl2:=diagL_len xs i k
  have hl3:(diagTo xs i ++ diagL xs i k).length≤200:=by rw [List.length_append];omega
  (repeat' (first|(with_reducible first|exact True.intro|refine zQ ?_|(refine zG hG_ ?_;intro K_ hK_)|(refine zR ?_;intro K_ hK_)|(refine hK_ _ _ ?_;try clear hK_ K_)|refine sq_n ?_|refine sq_r ?_|refine sq_e ?_|refine bq_n ?_|refine bq_r ?_|refine bq_q ?_|refine zB ?_|refine zX ?_|refine zT ?_|refine zK ?_|refine gq_n ?_|refine gq_r ?_|refine gq_e ?_|refine lq_n ?_|refine lq_r ?_|refine lq_e ?_|refine bq_e (by decide) ?_)|((with_reducible refine zC (b:=?b_) ?hb_ ?_ ?_);case hb_=>rfl)|((conv=>whnf);first|(with_reducible refine hK_ _ _ ?_;try clear hK_ K_)|(with_reducible refine fun (g_:Sl) (o_:Ow)=>?_)|(with_reducible first|exact True.intro|refine And.intro trivial ?_|refine And.intro ?_ ?_)|exact Nat.le_of_ble_eq_true rfl|exact Or.inl rfl|(intro h_;cases h_)|(intro h_;(try simp only [vS1] at h_))|rfl))) <;> (try (conv=>whnf)) <;> (try first|change (_:Int)≤_|change (_:Nat)≤_) <;> (try ((fail_if_success (with_reducible apply Exists.intro));(try dsimp only);(try simp only [vS1]))) <;> (try simp (disch:=omega) only [vS3,Int.add_sub_cancel,tn1,tnp,tnc,vS2] at *)
  all_goals (try ((fail_if_success (with_reducible apply Exists.intro));first|with_reducible assumption|omega))
  ·refine ⟨k + 1,by omega,⟨by omega,by omega⟩,?_⟩
   (repeat' (first|(with_reducible first|exact True.intro|refine And.intro ?_ ?_|refine Head.mk ?_ ?_ ?_ ?_)|((conv=>lhs;whnf);first|(with_reducible first|rfl|exact vInt_s (by omega))|exact rfl)|((conv=>whnf);first|(with_reducible first|exact True.intro|refine And.intro ?_ ?_)))) <;> (try (conv=>lhs;whnf))
   refine congrArg (Own.row _ _) ?_
   rw [← diagL_yes hik (by assumption),List.append_assoc]
  ·refine ⟨k + 1,by omega,⟨by omega,by omega⟩,?_⟩
   (repeat' (first|(with_reducible first|exact True.intro|refine And.intro ?_ ?_|refine Head.mk ?_ ?_ ?_ ?_)|((conv=>lhs;whnf);first|(with_reducible first|rfl|exact vInt_s (by omega))|exact rfl)|((conv=>whnf);first|(with_reducible first|exact True.intro|refine And.intro ?_ ?_)))) <;> (try (conv=>lhs;whnf))
   refine congrArg (Own.row _ _) ?_
   rw [← diagL_no (by assumption)]
  ·refine ⟨i + 1,by omega,by omega,?_⟩
   (repeat' (first|(with_reducible first|exact True.intro|refine And.intro ?_ ?_|refine Head.mk ?_ ?_ ?_ ?_)|((conv=>lhs;whnf);first|(with_reducible first|rfl|exact vInt_s (by omega))|exact rfl)|((conv=>whnf);first|(with_reducible first|exact True.intro|refine And.intro ?_ ?_)))) <;> (try (conv=>lhs;whnf))
   refine congrArg (Own.row _ _) ?_
   rw [diagTo_succ,show k=xs.length by omega]
 ·exact congrArg some (by unfold diagsM;rw [if_pos hr,show i=xs.length by omega])
theorem iGreedyCutsH_ok:Good1 Tryz.prog n_impl_GreedyCuts greedyHC:=by
 refine good_ofG (tys:=tyL) (env:=[(n_impl_RoomOk,roomOkC),(n_impl_DiagonalsOf,diagsHC),(n_impl_crosses,crossesC)]) (envw:=[]) (envd:=[]) [12] [] [] [] [] mixed tys ⟨iRoomOk_ok,iDiagonalsOfH_ok,crosses_ok,trivial⟩ trivial trivial Tryz.func8 rfl (by kernel_rfl) (by decide) (by kernel_rfl) ?_
 have hG_:=kpz [(0,[1]),(1,[1,11]),(2,[2]),(3,[1,3]),(4,[1,3,14,15,16]),(5,[1,3,14,15,16,17]),(6,[1,3,5,14,15,16]),(7,[1,3,5,6,14,15,16]),(8,[1,3,5,6,14,15,16,20,21,22]),(9,[1,3,5,6,14,15,16,20,21,22,23]),(10,[1,3,5,6,8,14,15,16,20,21,22]),(11,[1,3,5,6,14,15,16,20,21,22]),(12,[1,3,5,6,14,15,16,20,21,22]),(13,[1,3,5,14,15,16,62]),(14,[1,3,14,15,16]),(15,[1,3,14,15,16]),(16,[2])] [(3,[12]),(4,[12]),(5,[12]),(6,[12]),(7,[12]),(8,[12]),(9,[12]),(10,[12]),(11,[12]),(12,[12]),(13,[12]),(14,[12]),(15,[12]),(16,[12])] [] []
 rintro ⟨(xs:List Pt),⟨⟩⟩ (h1:xs.length≤_)
 have hdl:=diags_len xs
 have hdd:=diags_dg xs
 (repeat' (first|(with_reducible first|exact True.intro|refine zQ ?_|(refine zG hG_ ?_;intro K_ hK_)|(refine zR ?_;intro K_ hK_)|(refine hK_ _ _ ?_;try clear hK_ K_)|refine sq_n ?_|refine sq_r ?_|refine sq_e ?_|refine bq_n ?_|refine bq_r ?_|refine bq_q ?_|refine zB ?_|refine zX ?_|refine zT ?_|refine zK ?_|refine gq_n ?_|refine gq_r ?_|refine gq_e ?_|refine lq_n ?_|refine lq_r ?_|refine lq_e ?_|refine bq_e (by decide) ?_)|((with_reducible refine zC (b:=?b_) ?hb_ ?_ ?_);case hb_=>rfl)|((conv=>whnf);first|(with_reducible refine hK_ _ _ ?_;try clear hK_ K_)|(with_reducible refine fun (g_:Sl) (o_:Ow)=>?_)|(with_reducible first|exact True.intro|refine And.intro trivial ?_|refine And.intro ?_ ?_)|exact Nat.le_of_ble_eq_true rfl|exact Or.inl rfl|(intro h_;cases h_)|(intro h_;(try simp only [vS1] at h_))|rfl))) <;> (try (conv=>whnf)) <;> (try first|change (_:Int)≤_|change (_:Nat)≤_) <;> (try ((fail_if_success (with_reducible apply Exists.intro));(try dsimp only);(try simp only [vS1]))) <;> (try simp (disch:=omega) only [vS3,Int.add_sub_cancel,tn1,tnp,tnc,vS2] at *)
 all_goals (try ((fail_if_success (with_reducible apply Exists.intro));first|with_reducible assumption|omega))
 ·unfold greedyM diagsM;rw [if_neg (by rw [‹roomOk xs=false›];decide)];rfl
 have hr:roomOk xs=true:=by assumption
 have hn:=room_len hr
 refine awp'_loopG (α:=Nat) (fun j ver_=>[(16,vInt j)]) (fun j ver_=>[(3,12,false,.row t_sl_int (.s .int) (greedyF xs (diagsM xs) j))]) (fun j ver_=>[]) (fun j=>j≤(diagsM xs).length) (fun j=>(diagsM xs).length - j) [1,14,15] [] (0) ?_
 conv=>whnf
 refine ⟨⟨?inv3_,?vals3_,?own3_,?fix3_⟩,?body3_⟩
 case' vals3_=>(repeat' (first|(with_reducible first|exact True.intro|refine And.intro ?_ ?_|refine Head.mk ?_ ?_ ?_ ?_)|((conv=>lhs;whnf);first|(with_reducible first|rfl|exact vInt_s (by omega))|exact rfl)|((conv=>whnf);first|(with_reducible first|exact True.intro|refine And.intro ?_ ?_)))) <;> (try (conv=>lhs;whnf))
 case' own3_=>(repeat' (first|(with_reducible first|exact True.intro|refine And.intro ?_ ?_|refine Head.mk ?_ ?_ ?_ ?_)|((conv=>lhs;whnf);first|(with_reducible first|rfl|exact vInt_s (by omega))|exact rfl)|((conv=>whnf);first|(with_reducible first|exact True.intro|refine And.intro ?_ ?_)))) <;> (try (conv=>lhs;whnf))
 case' fix3_=>(repeat' (first|(with_reducible first|exact True.intro|refine And.intro ?_ ?_|refine Head.mk ?_ ?_ ?_ ?_)|((conv=>lhs;whnf);first|(with_reducible first|rfl|exact vInt_s (by omega))|exact rfl)|((conv=>whnf);first|(with_reducible first|exact True.intro|refine And.intro ?_ ?_)))) <;> (try (conv=>lhs;whnf))
 ·exact Nat.zero_le _
 rintro j g_ o_ v_ hj
 have hgl:=greedyF_len xs (diagsM xs) j
 have hgm:=greedyF_mem (xs:=xs) hj
 (repeat' (first|(with_reducible first|exact True.intro|refine zQ ?_|(refine zG hG_ ?_;intro K_ hK_)|(refine zR ?_;intro K_ hK_)|(refine hK_ _ _ ?_;try clear hK_ K_)|refine sq_n ?_|refine sq_r ?_|refine sq_e ?_|refine bq_n ?_|refine bq_r ?_|refine bq_q ?_|refine zB ?_|refine zX ?_|refine zT ?_|refine zK ?_|refine gq_n ?_|refine gq_r ?_|refine gq_e ?_|refine lq_n ?_|refine lq_r ?_|refine lq_e ?_|refine bq_e (by decide) ?_)|((with_reducible refine zC (b:=?b_) ?hb_ ?_ ?_);case hb_=>rfl)|((conv=>whnf);first|(with_reducible refine hK_ _ _ ?_;try clear hK_ K_)|(with_reducible refine fun (g_:Sl) (o_:Ow)=>?_)|(with_reducible first|exact True.intro|refine And.intro trivial ?_|refine And.intro ?_ ?_)|exact Nat.le_of_ble_eq_true rfl|exact Or.inl rfl|(intro h_;cases h_)|(intro h_;(try simp only [vS1] at h_))|rfl))) <;> (try (conv=>whnf)) <;> (try first|change (_:Int)≤_|change (_:Nat)≤_) <;> (try ((fail_if_success (with_reducible apply Exists.intro));(try dsimp only);(try simp only [vS1]))) <;> (try simp (disch:=omega) only [vS3,Int.add_sub_cancel,tn1,tnp,tnc,vS2] at *)
 all_goals (try ((fail_if_success (with_reducible apply Exists.intro));first|with_reducible assumption|omega))
 ·skip
  have hjl:j < (diagsM xs).length:=by assumption
  have hd:=(hdd _ (mem_getD (d:=[]) hjl)).at
  obtain ⟨o,ho⟩:∃ o,greedyF xs (diagsM xs) j=o:=⟨_,rfl⟩
  simp only [ho] at hgl hgm ⊢
  refine awp'_loopG (α:=Nat) (fun i ver_=>[(22,vInt i),(6,vBool (freeX xs ((diagsM xs).getD j []) o i))]) (fun i ver_=>[]) (fun i ver_=>[]) (fun i=>i≤o.length) (fun i=>o.length - i) [1,3,5,14,15,16,20,21] [12] (0) ?_
  conv=>whnf
  refine ⟨⟨?inv4_,?vals4_,?own4_,?fix4_⟩,?body4_⟩
  case' vals4_=>(repeat' (first|(with_reducible first|exact True.intro|refine And.intro ?_ ?_|refine Head.mk ?_ ?_ ?_ ?_)|((conv=>lhs;whnf);first|(with_reducible first|rfl|exact vInt_s (by omega))|exact rfl)|((conv=>whnf);first|(with_reducible first|exact True.intro|refine And.intro ?_ ?_)))) <;> (try (conv=>lhs;whnf))
  case' own4_=>(repeat' (first|(with_reducible first|exact True.intro|refine And.intro ?_ ?_|refine Head.mk ?_ ?_ ?_ ?_)|((conv=>lhs;whnf);first|(with_reducible first|rfl|exact vInt_s (by omega))|exact rfl)|((conv=>whnf);first|(with_reducible first|exact True.intro|refine And.intro ?_ ?_)))) <;> (try (conv=>lhs;whnf))
  case' fix4_=>(repeat' (first|(with_reducible first|exact True.intro|refine And.intro ?_ ?_|refine Head.mk ?_ ?_ ?_ ?_)|((conv=>lhs;whnf);first|(with_reducible first|rfl|exact vInt_s (by omega))|exact rfl)|((conv=>whnf);first|(with_reducible first|exact True.intro|refine And.intro ?_ ?_)))) <;> (try (conv=>lhs;whnf))
  ·exact Nat.zero_le _
  rintro i g_ o_ v_ hi
  have he:∀ h:i < o.length,_:=fun h=>(hdd _ (hgm _ (mem_getD (d:=[]) h))).at
  have f0:(0:Int) + 1≤(((diagsM xs).getD j []).length:Int):=by omega
  have f1:(1:Int) + 1≤(((diagsM xs).getD j []).length:Int):=by omega
  have f2:((diagsM xs).getD j []).getD 0 0 + 1≤(xs.length:Int):=by omega
  have f3:((diagsM xs).getD j []).getD 1 0 + 1≤(xs.length:Int):=by omega
  have g0:i < o.length→(0:Int) + 1≤((o.getD i []).length:Int):=fun h=>by have:=he h;omega
  have g1:i < o.length→(1:Int) + 1≤((o.getD i []).length:Int):=fun h=>by have:=he h;omega
  have g2:i < o.length→(o.getD i []).getD 0 0 + 1≤(xs.length:Int):=fun h=>by have:=he h;omega
  have g3:i < o.length→(o.getD i []).getD 1 0 + 1≤(xs.length:Int):=fun h=>by have:=he h;omega
  (repeat' (first|(with_reducible first|exact True.intro|refine zQ ?_|(refine zG hG_ ?_;intro K_ hK_)|(refine zR ?_;intro K_ hK_)|(refine hK_ _ _ ?_;try clear hK_ K_)|refine sq_n ?_|refine sq_r ?_|refine sq_e ?_|refine bq_n ?_|refine bq_r ?_|refine bq_q ?_|refine zB ?_|refine zX ?_|refine zT ?_|refine zK ?_|refine gq_n ?_|refine gq_r ?_|refine gq_e ?_|refine lq_n ?_|refine lq_r ?_|refine lq_e ?_|refine bq_e (by decide) ?_)|((with_reducible refine zC (b:=?b_) ?hb_ ?_ ?_);case hb_=>rfl)|((conv=>whnf);first|(with_reducible refine hK_ _ _ ?_;try clear hK_ K_)|(with_reducible refine fun (g_:Sl) (o_:Ow)=>?_)|(with_reducible first|exact True.intro|refine And.intro trivial ?_|refine And.intro ?_ ?_)|exact Nat.le_of_ble_eq_true rfl|exact Or.inl rfl|(intro h_;cases h_)|(intro h_;(try simp only [vS1] at h_))|rfl))) <;> (try (conv=>whnf)) <;> (try first|change (_:Int)≤_|change (_:Nat)≤_) <;> (try ((fail_if_success (with_reducible apply Exists.intro));(try dsimp only);(try simp only [vS1]))) <;> (try simp (disch:=omega) only [vS3,Int.add_sub_cancel,tn1,tnp,tnc,vS2] at *)
  all_goals (try (fail_if_success (with_reducible apply Exists.intro));first|with_reducible assumption|omega|exact mdl (by omega)|exact ilo1 (by omega)|exact ilo2 (by omega)|exact ihi1 (by omega) (by omega)|exact ihi2 (by omega) (by omega))
  all_goals first|exact f0|exact f1|exact f2|exact f3|exact hd.2.1.1|exact hd.2.2.1|exact g0 (by assumption)|exact g1 (by assumption)|exact g2 (by assumption)|exact g3 (by assumption)|exact (he (by assumption)).2.1.1|exact (he (by assumption)).2.2.1|skip
  ·have hf:freeX xs ((diagsM xs).getD j []) o i=true:=by assumption
   refine ⟨i + 1,by omega,by omega,?_⟩
   (repeat' (first|(with_reducible first|exact True.intro|refine And.intro ?_ ?_|refine Head.mk ?_ ?_ ?_ ?_)|((conv=>lhs;whnf);first|(with_reducible first|rfl|exact vInt_s (by omega))|exact rfl)|((conv=>whnf);first|(with_reducible first|exact True.intro|refine And.intro ?_ ?_)))) <;> (try (conv=>lhs;whnf))
   refine congrArg vBool ?_
   rw [freeX_succ,hf,Bool.true_and]
   exact congrArg (! ·) (crs_comm _ _ _ _)
  ·have hf:freeX xs ((diagsM xs).getD j []) o i=false:=by assumption
   refine ⟨i + 1,by omega,by omega,?_⟩
   (repeat' (first|(with_reducible first|exact True.intro|refine And.intro ?_ ?_|refine Head.mk ?_ ?_ ?_ ?_)|((conv=>lhs;whnf);first|(with_reducible first|rfl|exact vInt_s (by omega))|exact rfl)|((conv=>whnf);first|(with_reducible first|exact True.intro|refine And.intro ?_ ?_)))) <;> (try (conv=>lhs;whnf))
   refine congrArg vBool ?_
   rw [freeX_succ,hf,Bool.false_and]
  ·have hf:freeX xs ((diagsM xs).getD j []) o o.length=true:=by rw [← show i=o.length by omega];assumption
   refine ⟨j + 1,by omega,by omega,?_⟩
   (repeat' (first|(with_reducible first|exact True.intro|refine And.intro ?_ ?_|refine Head.mk ?_ ?_ ?_ ?_)|((conv=>lhs;whnf);first|(with_reducible first|rfl|exact vInt_s (by omega))|exact rfl)|((conv=>whnf);first|(with_reducible first|exact True.intro|refine And.intro ?_ ?_)))) <;> (try (conv=>lhs;whnf))
   refine congrArg (Own.row _ _) ?_
   unfold greedyF;rw [ho,if_pos hf]
  ·have hf:freeX xs ((diagsM xs).getD j []) o o.length=false:=by rw [← show i=o.length by omega];assumption
   refine ⟨j + 1,by omega,by omega,?_⟩
   (repeat' (first|(with_reducible first|exact True.intro|refine And.intro ?_ ?_|refine Head.mk ?_ ?_ ?_ ?_)|((conv=>lhs;whnf);first|(with_reducible first|rfl|exact vInt_s (by omega))|exact rfl)|((conv=>whnf);first|(with_reducible first|exact True.intro|refine And.intro ?_ ?_)))) <;> (try (conv=>lhs;whnf))
   refine congrArg (Own.row _ _) ?_
   unfold greedyF;rw [ho,hf];rfl
 ·exact congrArg some (by unfold greedyM;rw [show j=(diagsM xs).length by omega])
def cutsTo (c:Cur) (l:List (List Int)):Nat→List (List Int) × Cur
 | 0=>([],c)
 | k + 1=>(if (belowX (cutsTo c l k).2 3 == 0)=true then (cutsTo c l k).1 else (cutsTo c l k).1 ++ [l.getD k []],belowC (cutsTo c l k).2 3)
theorem cutsTo_sub (c:Cur) (l:List (List Int)):∀ {k:Nat},k≤l.length→(cutsTo c l k).1.Sublist (l.take k)
 | 0,_=>List.nil_sublist _
 | k + 1,h=>by
  have ih:=cutsTo_sub c l (k:=k) (by omega)
  show (if _ then _ else _:List (List Int)).Sublist _
  rw [List.take_succ_eq_append_getElem (by omega)]
  split
  ·exact ih.trans (List.sublist_append_left _ _)
  ·rw [getD_lt _ (by omega)]
   exact ih.append (List.Sublist.refl _)
theorem cutsTo_cur {c:Cur} (h:curOk c) (l:List (List Int)):∀ k,curOk (cutsTo c l k).2
 | 0=>h
 | k + 1=>show curOk (belowC (cutsTo c l k).2 3) from belowC_ok (cutsTo_cur h l k)
theorem cutsTo_len (c:Cur) (l:List (List Int)):∀ k,(cutsTo c l k).1.length≤k
 | 0=>Nat.le_refl _
 | k + 1=>by
  have ih:=cutsTo_len c l k
  show (if _ then _ else _:List (List Int)).length≤_
  split
  ·omega
  ·rw [List.length_append,List.length_singleton];omega
def l01OnceC:ConD:=mkConB [.cur,.int] 0 t_spec_l01Cur (fun x=>curOk x.1) (fun x=>vBool (belowX x.1 x.2.1 == 0)) fun x=>curL (belowC x.1 x.2.1)
theorem l01Once_ok:GoodD Tryz.prog n_spec_l01Once l01OnceC:=by
 refine good_ofB (tys:=tyL) (env:=[]) (envw:=[]) (envd:=[(n_spec_l01Below,l01BelowC)]) [7,1000] [7,1000] [] [] [7] mixed tys trivial trivial ⟨l01Below_ok,trivial⟩ Tryz.func58 rfl (by kernel_rfl) ⟨by decide,rfl⟩ (by kernel_rfl) ?_
 have hG_:=kpz [(0,[0,1]),(1,[4])] [(0,[1000]),(1,[1000])] [] []
 rintro ⟨⟨(bs:List Int),(i:Int),(h:Int)⟩,(n:Int),⟨⟩⟩ (hc:curOk (bs,i,h))
 (repeat' (first|(with_reducible first|exact True.intro|refine zQ ?_|(refine zG hG_ ?_;intro K_ hK_)|(refine zR ?_;intro K_ hK_)|(refine hK_ _ _ ?_;try clear hK_ K_)|refine sq_n ?_|refine sq_r ?_|refine sq_e ?_|refine bq_n ?_|refine bq_r ?_|refine bq_q ?_|refine zB ?_|refine zX ?_|refine zT ?_|refine zK ?_|refine gq_n ?_|refine gq_r ?_|refine gq_e ?_|refine lq_n ?_|refine lq_r ?_|refine lq_e ?_|refine bq_e (by decide) ?_)|((with_reducible refine zC (b:=?b_) ?hb_ ?_ ?_);case hb_=>rfl)|((conv=>whnf);first|(with_reducible refine hK_ _ _ ?_;try clear hK_ K_)|(with_reducible refine fun (g_:Sl) (o_:Ow)=>?_)|(with_reducible first|exact True.intro|refine And.intro trivial ?_|refine And.intro ?_ ?_)|exact Nat.le_of_ble_eq_true rfl|exact Or.inl rfl|(intro h_;cases h_)|(intro h_;(try simp only [vS1] at h_))|rfl))) <;> (try (conv=>whnf)) <;> (try first|change (_:Int)≤_|change (_:Nat)≤_) <;> (try ((fail_if_success (with_reducible apply Exists.intro));(try dsimp only);(try simp only [vS1])))
 all_goals (try (fail_if_success (with_reducible apply Exists.intro));first|with_reducible assumption|omega|exact mdl (by omega)|exact ilo1 (by omega)|exact ilo2 (by omega)|exact ihi1 (by omega) (by omega)|exact ihi2 (by omega) (by omega))
def allCuts (c:Cur) (xs:List Pt):List (List Int) × Cur:=cutsTo c (greedyM xs) (greedyM xs).length
def l19CutsC:ConD:=mkConB [.cur,.room] 0 t_spec_l01Cur (fun x=>curOk x.1∧x.2.1.length≤1048576) (fun x=>.one (.d (.sl none (.s .int) (allCuts x.1 x.2.1).1))) fun x=>curL (allCuts x.1 x.2.1).2
theorem l19Cuts_ok:GoodD Tryz.prog n_spec_l19Cuts l19CutsC:=by
 refine good_ofB (tys:=tyL) (env:=[(n_spec_GreedyCuts,sGreedyC)]) (envw:=[]) (envd:=[(n_spec_l01Once,l01OnceC)]) [8,18,1000] [18,1000] [] [10] [18] mixed tys ⟨sGreedyCuts_ok,trivial⟩ trivial ⟨l01Once_ok,trivial⟩ Tryz.func24 rfl (by kernel_rfl) ⟨by decide,rfl⟩ (by kernel_rfl) ?_
 have hG_:=kpz [(0,[0,3]),(1,[0,3,5]),(2,[0,5,6]),(3,[0,5,6,7]),(4,[0,5,6,7,14]),(5,[0,5,6,7]),(6,[0,5,6,7,19]),(7,[0,5,6,7]),(8,[4])] [(0,[1000]),(1,[8,1000]),(2,[8,1000]),(3,[8,1000]),(4,[8,1000]),(5,[8,1000]),(6,[8,1000]),(7,[8,1000]),(8,[8,1000])] [(8,[8])] []
 rintro ⟨⟨(bs:List Int),(i:Int),(h:Int)⟩,(xs:List Pt),⟨⟩⟩ ⟨(hc:curOk (bs,i,h)),(h1:xs.length≤_)⟩
 have hgl:(greedyM xs).length≤1048576:=Nat.le_trans (greedy_ok xs).1 (by decide)
 have hcur:=cutsTo_cur hc (greedyM xs)
 (repeat' (first|(with_reducible first|exact True.intro|refine zQ ?_|(refine zG hG_ ?_;intro K_ hK_)|(refine zR ?_;intro K_ hK_)|(refine hK_ _ _ ?_;try clear hK_ K_)|refine sq_n ?_|refine sq_r ?_|refine sq_e ?_|refine bq_n ?_|refine bq_r ?_|refine bq_q ?_|refine zB ?_|refine zX ?_|refine zT ?_|refine zK ?_|refine gq_n ?_|refine gq_r ?_|refine gq_e ?_|refine lq_n ?_|refine lq_r ?_|refine lq_e ?_|refine bq_e (by decide) ?_)|((with_reducible refine zC (b:=?b_) ?hb_ ?_ ?_);case hb_=>rfl)|((conv=>whnf);first|(with_reducible refine hK_ _ _ ?_;try clear hK_ K_)|(with_reducible refine fun (g_:Sl) (o_:Ow)=>?_)|(with_reducible first|exact True.intro|refine And.intro trivial ?_|refine And.intro ?_ ?_)|exact Nat.le_of_ble_eq_true rfl|exact Or.inl rfl|(intro h_;cases h_)|(intro h_;(try simp only [vS1] at h_))|rfl))) <;> (try (conv=>whnf)) <;> (try first|change (_:Int)≤_|change (_:Nat)≤_) <;> (try ((fail_if_success (with_reducible apply Exists.intro));(try dsimp only);(try simp only [vS1])))
 all_goals (try (fail_if_success (with_reducible apply Exists.intro));first|with_reducible assumption|omega|exact mdl (by omega)|exact ilo1 (by omega)|exact ilo2 (by omega)|exact ihi1 (by omega) (by omega)|exact ihi2 (by omega) (by omega))
 refine awp'_loopG (α:=Nat) (fun k ver_=>[(7,vInt k)]) (fun k ver_=>[(5,8,false,.row t_sl_int (.s .int) (cutsTo (bs,i,h) (greedyM xs) k).1)]) (fun k ver_=>[(1000,⟨0,.box t_spec_l01Cur ((curL (cutsTo (bs,i,h) (greedyM xs) k).2).map .d)⟩)]) (fun k=>k≤(greedyM xs).length) (fun k=>(greedyM xs).length - k) [0,6] [] (0) ?_
 conv=>whnf
 refine ⟨⟨?inv5_,?vals5_,?own5_,?fix5_⟩,?body5_⟩
 case' vals5_=>(repeat' (first|(with_reducible first|exact True.intro|refine And.intro ?_ ?_|refine Head.mk ?_ ?_ ?_ ?_)|((conv=>lhs;whnf);first|(with_reducible first|rfl|exact vInt_s (by omega))|exact rfl)|((conv=>whnf);first|(with_reducible first|exact True.intro|refine And.intro ?_ ?_)))) <;> (try (conv=>lhs;whnf))
 case' own5_=>(repeat' (first|(with_reducible first|exact True.intro|refine And.intro ?_ ?_|refine Head.mk ?_ ?_ ?_ ?_)|((conv=>lhs;whnf);first|(with_reducible first|rfl|exact vInt_s (by omega))|exact rfl)|((conv=>whnf);first|(with_reducible first|exact True.intro|refine And.intro ?_ ?_)))) <;> (try (conv=>lhs;whnf))
 case' fix5_=>(repeat' (first|(with_reducible first|exact True.intro|refine And.intro ?_ ?_|refine Head.mk ?_ ?_ ?_ ?_)|((conv=>lhs;whnf);first|(with_reducible first|rfl|exact vInt_s (by omega))|exact rfl)|((conv=>whnf);first|(with_reducible first|exact True.intro|refine And.intro ?_ ?_)))) <;> (try (conv=>lhs;whnf))
 ·exact Nat.zero_le _
 rintro k g_ o_ v_ hk
 have hck:=hcur k
 have hlk:=cutsTo_len (bs,i,h) (greedyM xs) k
 (repeat' (first|(with_reducible first|exact True.intro|refine zQ ?_|(refine zG hG_ ?_;intro K_ hK_)|(refine zR ?_;intro K_ hK_)|(refine hK_ _ _ ?_;try clear hK_ K_)|refine sq_n ?_|refine sq_r ?_|refine sq_e ?_|refine bq_n ?_|refine bq_r ?_|refine bq_q ?_|refine zB ?_|refine zX ?_|refine zT ?_|refine zK ?_|refine gq_n ?_|refine gq_r ?_|refine gq_e ?_|refine lq_n ?_|refine lq_r ?_|refine lq_e ?_|refine bq_e (by decide) ?_)|((with_reducible refine zC (b:=?b_) ?hb_ ?_ ?_);case hb_=>rfl)|((conv=>whnf);first|(with_reducible refine hK_ _ _ ?_;try clear hK_ K_)|(with_reducible refine fun (g_:Sl) (o_:Ow)=>?_)|(with_reducible first|exact True.intro|refine And.intro trivial ?_|refine And.intro ?_ ?_)|exact Nat.le_of_ble_eq_true rfl|exact Or.inl rfl|(intro h_;cases h_)|(intro h_;(try simp only [vS1] at h_))|rfl))) <;> (try (conv=>whnf)) <;> (try first|change (_:Int)≤_|change (_:Nat)≤_) <;> (try ((fail_if_success (with_reducible apply Exists.intro));(try dsimp only);(try simp only [vS1])))
 all_goals (try (fail_if_success (with_reducible apply Exists.intro));first|with_reducible assumption|omega|exact mdl (by omega)|exact ilo1 (by omega)|exact ilo2 (by omega)|exact ihi1 (by omega) (by omega)|exact ihi2 (by omega) (by omega))
 ·simp only [List.length_singleton];omega
 ·have e:cutsTo (bs,i,h) (greedyM xs) (k + 1)=((cutsTo (bs,i,h) (greedyM xs) k).1 ++ [(greedyM xs).getD k []],belowC (cutsTo (bs,i,h) (greedyM xs) k).2 3):=by
   show (if _ then _ else _,_)=_
   rw [if_neg (by rw [h_];decide)]
  refine ⟨k + 1,by omega,by omega,?_⟩
  rw [e]
  (repeat' (first|(with_reducible first|exact True.intro|refine And.intro ?_ ?_|refine Head.mk ?_ ?_ ?_ ?_)|((conv=>lhs;whnf);first|(with_reducible first|rfl|exact vInt_s (by omega))|exact rfl)|((conv=>whnf);first|(with_reducible first|exact True.intro|refine And.intro ?_ ?_)))) <;> (try (conv=>lhs;whnf))
 ·have e:cutsTo (bs,i,h) (greedyM xs) (k + 1)=((cutsTo (bs,i,h) (greedyM xs) k).1,belowC (cutsTo (bs,i,h) (greedyM xs) k).2 3):=by
   show (if _ then _ else _,_)=_
   rw [if_pos h_]
  refine ⟨k + 1,by omega,by omega,?_⟩
  rw [e]
  (repeat' (first|(with_reducible first|exact True.intro|refine And.intro ?_ ?_|refine Head.mk ?_ ?_ ?_ ?_)|((conv=>lhs;whnf);first|(with_reducible first|rfl|exact vInt_s (by omega))|exact rfl)|((conv=>whnf);first|(with_reducible first|exact True.intro|refine And.intro ?_ ?_)))) <;> (try (conv=>lhs;whnf))
 ·show dOf _=some _
  unfold allCuts
  rw [show k=(greedyM xs).length by omega];rfl
 ·refine congrArg some ?_
  unfold allCuts
  rw [show k=(greedyM xs).length by omega]
def drawCutsM (bs:List Int):List (List Int):=(allCuts (sightC0 bs) (drawRoomM bs)).1
theorem drawCuts_sub (bs:List Int):(drawCutsM bs).Sublist (greedyM (drawRoomM bs)):=by
 have:=cutsTo_sub (sightC0 bs) (greedyM (drawRoomM bs)) (Nat.le_refl _)
 rwa [List.take_of_length_le (Nat.le_refl _)] at this
noncomputable def hidK (bs:List Int):List (List Int):=Classical.choose (⟨drawCutsM bs,rfl⟩:∃ y,y=drawCutsM bs)
theorem hidK_eq (bs:List Int):hidK bs=drawCutsM bs:=Classical.choose_spec (⟨drawCutsM bs,rfl⟩:∃ y,y=drawCutsM bs)
theorem hidK_sub (bs:List Int):(hidK bs).Sublist (greedyM (hidR bs)):=by
 rw [hidK_eq,hidR_eq];exact drawCuts_sub bs
def drawCutsC:Con:=mkCon [.sl (.b .u8)] (fun x=>x.1.length≤1048576∧(drawRoomM x.1).length≤10) fun x=>.val (.tup [.inr [.d (.sl none (.b .pt) (drawRoomM x.1))],.inl (.d (.sl none (.s .int) (drawCutsM x.1)))])
theorem drawCuts_ok:Good1 Tryz.prog n_spec_DrawCuts drawCutsC:=by
 refine good_ofG (tys:=tyL) (env:=[]) (envw:=[]) (envd:=[(n_spec_l01New,l01NewC),(n_spec_l04Room,l04RoomC),(n_spec_l19Cuts,l19CutsC)]) [2,7,9,13] [2,7,9,13] [10,12] [] [7,9,13] mixed tys trivial trivial ⟨l01New_ok,l04Room_ok,l19Cuts_ok,trivial⟩ Tryz.func6 rfl (by kernel_rfl) (by decide) (by kernel_rfl) ?_
 have hG_:=kpz [(0,[0,2]),(1,[2,4]),(2,[2,4,5]),(3,[2,3])] [(0,[2]),(1,[2,7]),(2,[2,5,7]),(3,[2,7])] [] []
 rintro ⟨(bs:List Int),⟨⟩⟩ ⟨(h1:bs.length≤_),(h3:(drawRoomM bs).length≤10)⟩
 have hc:=newC_ok h1
 have hc2:curOk (roomC (newC bs)):=roomC_ok hc
 have h3:(roomX (newC bs)).length≤10:=h3
 (repeat' (first|(with_reducible first|exact True.intro|refine zQ ?_|(refine zG hG_ ?_;intro K_ hK_)|(refine zR ?_;intro K_ hK_)|(refine hK_ _ _ ?_;try clear hK_ K_)|refine sq_n ?_|refine sq_r ?_|refine sq_e ?_|refine bq_n ?_|refine bq_r ?_|refine bq_q ?_|refine zB ?_|refine zX ?_|refine zT ?_|refine zK ?_|refine gq_n ?_|refine gq_r ?_|refine gq_e ?_|refine lq_n ?_|refine lq_r ?_|refine lq_e ?_|refine bq_e (by decide) ?_)|((with_reducible refine zC (b:=?b_) ?hb_ ?_ ?_);case hb_=>rfl)|((conv=>whnf);first|(with_reducible refine hK_ _ _ ?_;try clear hK_ K_)|(with_reducible refine fun (g_:Sl) (o_:Ow)=>?_)|(with_reducible first|exact True.intro|refine And.intro trivial ?_|refine And.intro ?_ ?_)|exact Nat.le_of_ble_eq_true rfl|exact Or.inl rfl|(intro h_;cases h_)|(intro h_;(try simp only [vS1] at h_))|rfl))) <;> (try (conv=>whnf)) <;> (try first|change (_:Int)≤_|change (_:Nat)≤_) <;> (try ((fail_if_success (with_reducible apply Exists.intro));(try dsimp only);(try simp only [vS1])))
 all_goals (try (fail_if_success (with_reducible apply Exists.intro));first|with_reducible assumption|omega|exact mdl (by omega)|exact ilo1 (by omega)|exact ilo2 (by omega)|exact ihi1 (by omega) (by omega)|exact ihi2 (by omega) (by omega))
noncomputable def drawCutsHC:Con:=mkCon [.sl (.b .u8)] (fun x=>x.1.length≤1048576∧(drawRoomM x.1).length≤10) fun x=>.val (.tup [.inr [.d (.sl none (.b .pt) (hidR x.1))],.inl (.d (.sl none (.s .int) (hidK x.1)))])
theorem drawCutsH_ok:Good1 Tryz.prog n_spec_DrawCuts drawCutsHC:=by
 exact Good1.imp drawCuts_ok fun x h=>⟨h,by
  show RV.val (.tup [.inr [.d (.sl none (.b .pt) (hidR x.1))],.inl (.d (.sl none (.s .int) (hidK x.1)))])=_
  rw [hidR_eq,hidK_eq]⟩
def dArea (xs:List Pt):Int:=if (decide ((xs.length:Int)≤10) && xs.all ptOk)=true then IntKind.i64.wrap (dbl xs) else 0
def dAreaC:Con:=mkCon [.sl (.b .pt)] (fun x=>x.1.length≤1048576) fun x=>vI (dArea x.1)
theorem dArea_ok:Good1 Tryz.prog n_impl_DoubleArea dAreaC:=by
 refine good_ofG (tys:=tyL) (env:=[(n_impl_pointsOk,pointsOkC),(n_impl_area,areaC)]) (envw:=[]) (envd:=[]) [] [] [] [] [] mixed tys ⟨pointsOk_ok,area_ok,trivial⟩ trivial trivial Tryz.func11 rfl (by kernel_rfl) (by decide) (by kernel_rfl) ?_
 have hG_:=kpz [(0,[0]),(1,[0,10]),(2,[2]),(3,[2])] [] [] []
 rintro ⟨(xs:List Pt),⟨⟩⟩ (h1:xs.length≤_)
 (repeat' (first|(with_reducible first|exact True.intro|refine zQ ?_|(refine zG hG_ ?_;intro K_ hK_)|(refine zR ?_;intro K_ hK_)|(refine hK_ _ _ ?_;try clear hK_ K_)|refine sq_n ?_|refine sq_r ?_|refine sq_e ?_|refine bq_n ?_|refine bq_r ?_|refine bq_q ?_|refine zB ?_|refine zX ?_|refine zT ?_|refine zK ?_|refine gq_n ?_|refine gq_r ?_|refine gq_e ?_|refine lq_n ?_|refine lq_r ?_|refine lq_e ?_|refine bq_e (by decide) ?_)|((with_reducible refine zC (b:=?b_) ?hb_ ?_ ?_);case hb_=>rfl)|((conv=>whnf);first|(with_reducible refine hK_ _ _ ?_;try clear hK_ K_)|(with_reducible refine fun (g_:Sl) (o_:Ow)=>?_)|(with_reducible first|exact True.intro|refine And.intro trivial ?_|refine And.intro ?_ ?_)|exact Nat.le_of_ble_eq_true rfl|exact Or.inl rfl|(intro h_;cases h_)|(intro h_;(try simp only [vS1] at h_))|rfl))) <;> (try (conv=>whnf)) <;> (try first|change (_:Int)≤_|change (_:Nat)≤_) <;> (try ((fail_if_success (with_reducible apply Exists.intro));(try dsimp only);(try simp only [vS1]))) <;> (try simp (disch:=omega) only [vS3,Int.add_sub_cancel,tn1,tnp,tnc,vS2] at *)
 all_goals (try ((fail_if_success (with_reducible apply Exists.intro));first|with_reducible assumption|omega))
 ·unfold dArea
  rw [decide_eq_false (by omega)];rfl
 ·unfold dArea
  rw [‹xs.all ptOk=false›,Bool.and_false];rfl
 ·unfold dArea
  rw [decide_eq_true (show (xs.length:Int)≤10 by omega),‹xs.all ptOk=true›];rfl
theorem dArea_room {xs:List Pt} (hr:roomOk xs=true):dArea xs=dbl xs:=by
 have hl:=room_len hr
 have h2:=(Geo.room_area hr).2
 rw [← (Geo.room_area hr).1] at h2
 unfold dArea
 rw [if_pos (by rw [decide_eq_true (by omega),(roomOk_iff.1 hr).2.1];rfl)]
 exact W_in (by omega) (by omega)
def psum (xs:List Pt) (ps:List (List Int)) (k:Nat):Int:=((ps.take k).map (partArea xs)).sum
theorem psum_succ {xs:List Pt} {ps:List (List Int)} {k:Nat} (hk:k < ps.length):psum xs ps (k + 1)=psum xs ps k + partArea xs (ps.getD k []):=by
 unfold psum
 rw [List.take_succ_eq_append_getElem hk,getD_lt _ hk,List.map_append,List.sum_append]
 simp only [List.map_cons,List.map_nil,List.sum_cons,List.sum_nil,Int.add_zero]
structure LawX (xs:List Pt) (cuts:List (List Int)):Prop where
 plans:plansM xs cuts=true
 len:(partsM xs cuts).length=cuts.length + 1
 pos:∀ k,k < (partsM xs cuts).length→0 < partArea xs ((partsM xs cuts).getD k (ElK.s ElB.int).dflt)
 step:∀ k,k < (partsM xs cuts).length→IntKind.i64.wrap (psum xs (partsM xs cuts) k + partArea xs ((partsM xs cuts).getD k (ElK.s ElB.int).dflt))=psum xs (partsM xs cuts) (k + 1)
 sum:psum xs (partsM xs cuts) (partsM xs cuts).length=dArea xs
 small:∀ k,((partsM xs cuts).getD k (ElK.s ElB.int).dflt).length≤1048576
 cl:cuts.length≤10
 cb:∀ c∈cuts,c.length≤1048576
 gl:(greedyM xs).length + 3=xs.length
 gb:∀ c∈greedyM xs,c.length≤1048576
 ql:(partsM xs (greedyM xs)).length + 2=xs.length
 three:∀ k,k < (partsM xs (greedyM xs)).length→(((partsM xs (greedyM xs)).getD k (ElK.s ElB.int).dflt).length:Int)=3
theorem lawX_of {xs:List Pt} (hr:roomOk xs=true) {cuts:List (List Int)} (h:cuts.Sublist (greedyM xs)):LawX xs cuts:=by
 have X:=cutX_of hr h
 have G:=cutX_of hr (List.Sublist.refl _)
 have g:=Geo.greedy_count hr
 have hl:=room_len hr
 have ha:=Geo.room_area hr
 have gb:∀ c∈greedyM xs,c.length≤1048576:=fun c hc=>by rw [(greedy_good c hc).1];decide
 have hb:=sum_split_ge (partArea xs) (partsM xs cuts) fun x hx=>by
  obtain ⟨k,hk,rfl⟩:=List.getElem_of_mem hx
  have:=X.pos k hk
  rw [getD_lt _ hk] at this
  omega
 rw [X.sum] at hb
 have:=h.length_le
 have:=G.len
 refine ⟨X.plans,X.len,X.pos,fun k hk=>?_,?_,fun k=>Nat.le_trans (X.small k) (by decide),by omega,fun c hc=>gb c (h.mem hc),g,gb,by omega,fun k hk=>congrArg Nat.cast (greedy_parts hr k hk)⟩
 ·have e:=psum_succ (xs:=xs) hk
  have h1:=hb (k + 1)
  show IntKind.i64.wrap (psum xs (partsM xs cuts) k + partArea xs ((partsM xs cuts).getD k []))=_
  rw [← e]
  unfold psum
  exact W_in (by omega) (by omega)
 ·unfold psum
  rw [List.take_length,X.sum,dArea_room hr]
  exact ha.1.symm
theorem fnCuts_ok:Good1 Tryz.prog n_laws_FnCuts (lawCon [.sl (.b .u8)]):=by
 refine good_ofG (tys:=tyL) (env:=[(n_laws_big,bigC),(n_spec_DrawCuts,drawCutsHC),(n_impl_PartsOf,partsC),(n_impl_GreedyCuts,greedyHC),(n_impl_PartArea,partAreaC),(n_impl_ArePlans,plansC),(n_impl_DoubleArea,dAreaC)]) (envw:=[]) (envd:=[]) [] [] [] [] [] mixed tys ⟨big_ok,drawCutsH_ok,iPartsOf_ok,iGreedyCutsH_ok,iPartArea_ok,iArePlans_ok,dArea_ok,trivial⟩ trivial trivial Tryz.func3 rfl (by kernel_rfl) (by decide) (by kernel_rfl) ?_
 have hG_:=kpz [(0,[0]),(1,[0,13]),(2,[2]),(3,[3,4]),(4,[3,4,5]),(5,[3,4,5,6]),(6,[3,4,5,6,7]),(7,[3,4,5,6,7,8]),(8,[3,4,5,6,7,8,9]),(9,[3,4,5,6,7,8,9,30]),(10,[3,4,5,6,7,8,9]),(11,[3,4,5,6,7,8,9,10]),(12,[3,4,5,6,7,8,9,10,40]),(13,[2]),(14,[3,4,5,6,7,8,9]),(15,[3,4,5,6,7,8,11]),(16,[3,4,5,6,7,8,11,47]),(17,[3,4,5,6,7,8,11]),(18,[3,4,5,6,7,8,11,55]),(19,[2]),(20,[2])] [(3,[3]),(4,[3]),(5,[3]),(6,[3]),(7,[3]),(8,[3]),(9,[3]),(10,[3]),(11,[3]),(12,[3]),(14,[3]),(15,[3]),(16,[3]),(17,[3]),(18,[3])] [] []
 rintro ⟨(bs:List Int),⟨⟩⟩ ⟨(h0:bs.length≤_),-⟩
 have hl0:=room_len (drawRoom_room bs)
 have hl:=room_len (hidR_room bs)
 have hX:=lawX_of (hidR_room bs) (hidK_sub bs)
 have hX1:=hX.len
 have hX2:=hX.cl
 have hX3:=hX.gl
 have hX4:=hX.ql
 (repeat' (first|(with_reducible first|exact True.intro|refine zQ ?_|(refine zG hG_ ?_;intro K_ hK_)|(refine zR ?_;intro K_ hK_)|(refine hK_ _ _ ?_;try clear hK_ K_)|refine sq_n ?_|refine sq_r ?_|refine sq_e ?_|refine bq_n ?_|refine bq_r ?_|refine bq_q ?_|refine zB ?_|refine zX ?_|refine zT ?_|refine zK ?_|refine gq_n ?_|refine gq_r ?_|refine gq_e ?_|refine lq_n ?_|refine lq_r ?_|refine lq_e ?_|refine bq_e (by decide) ?_)|((with_reducible refine zC (b:=?b_) ?hb_ ?_ ?_);case hb_=>rfl)|((conv=>whnf);first|(with_reducible refine hK_ _ _ ?_;try clear hK_ K_)|(with_reducible refine fun (g_:Sl) (o_:Ow)=>?_)|(with_reducible first|exact True.intro|refine And.intro trivial ?_|refine And.intro ?_ ?_)|exact Nat.le_of_ble_eq_true rfl|exact Or.inl rfl|(intro h_;cases h_)|(intro h_;(try simp only [vS1] at h_))|rfl))) <;> (try (conv=>whnf)) <;> (try first|change (_:Int)≤_|change (_:Nat)≤_) <;> (try ((fail_if_success (with_reducible apply Exists.intro));(try dsimp only);(try simp only [vS1]))) <;> (try simp (disch:=omega) only [vS3,Int.add_sub_cancel,tn1,tnp,tnc,vS2] at *)
 all_goals (try ((fail_if_success (with_reducible apply Exists.intro));first|with_reducible assumption|omega))
 ·exact hX.cb _ (by assumption)
 ·exact hX.gb _ (by assumption)
 refine awp'_loopG (α:=Nat) (fun k ver_=>[(8,vInt (psum (hidR bs) (partsM (hidR bs) (hidK bs)) k)),(9,vInt k)]) (fun k ver_=>[]) (fun k ver_=>[]) (fun k=>k≤(partsM (hidR bs) (hidK bs)).length) (fun k=>(partsM (hidR bs) (hidK bs)).length - k) [3,4,5,6,7] [3] (0) ?_
 conv=>whnf
 refine ⟨⟨?inv1_,?vals1_,?own1_,?fix1_⟩,?body1_⟩
 case' vals1_=>(repeat' (first|(with_reducible first|exact True.intro|refine And.intro ?_ ?_|refine Head.mk ?_ ?_ ?_ ?_)|((conv=>lhs;whnf);first|(with_reducible first|rfl|exact vInt_s (by omega))|exact rfl)|((conv=>whnf);first|(with_reducible first|exact True.intro|refine And.intro ?_ ?_)))) <;> (try (conv=>lhs;whnf))
 case' own1_=>(repeat' (first|(with_reducible first|exact True.intro|refine And.intro ?_ ?_|refine Head.mk ?_ ?_ ?_ ?_)|((conv=>lhs;whnf);first|(with_reducible first|rfl|exact vInt_s (by omega))|exact rfl)|((conv=>whnf);first|(with_reducible first|exact True.intro|refine And.intro ?_ ?_)))) <;> (try (conv=>lhs;whnf))
 case' fix1_=>(repeat' (first|(with_reducible first|exact True.intro|refine And.intro ?_ ?_|refine Head.mk ?_ ?_ ?_ ?_)|((conv=>lhs;whnf);first|(with_reducible first|rfl|exact vInt_s (by omega))|exact rfl)|((conv=>whnf);first|(with_reducible first|exact True.intro|refine And.intro ?_ ?_)))) <;> (try (conv=>lhs;whnf))
 ·exact Nat.zero_le _
 rintro k g_ o_ v_ hk
 have hpos:=hX.pos k
 have hstep:=hX.step k
 have hsm:=hX.small k
 (repeat' (first|(with_reducible first|exact True.intro|refine zQ ?_|(refine zG hG_ ?_;intro K_ hK_)|(refine zR ?_;intro K_ hK_)|(refine hK_ _ _ ?_;try clear hK_ K_)|refine sq_n ?_|refine sq_r ?_|refine sq_e ?_|refine bq_n ?_|refine bq_r ?_|refine bq_q ?_|refine zB ?_|refine zX ?_|refine zT ?_|refine zK ?_|refine gq_n ?_|refine gq_r ?_|refine gq_e ?_|refine lq_n ?_|refine lq_r ?_|refine lq_e ?_|refine bq_e (by decide) ?_)|((with_reducible refine zC (b:=?b_) ?hb_ ?_ ?_);case hb_=>rfl)|((conv=>whnf);first|(with_reducible refine hK_ _ _ ?_;try clear hK_ K_)|(with_reducible refine fun (g_:Sl) (o_:Ow)=>?_)|(with_reducible first|exact True.intro|refine And.intro trivial ?_|refine And.intro ?_ ?_)|exact Nat.le_of_ble_eq_true rfl|exact Or.inl rfl|(intro h_;cases h_)|(intro h_;(try simp only [vS1] at h_))|rfl))) <;> (try (conv=>whnf)) <;> (try first|change (_:Int)≤_|change (_:Nat)≤_) <;> (try ((fail_if_success (with_reducible apply Exists.intro));(try dsimp only);(try simp only [vS1]))) <;> (try simp (disch:=omega) only [vS3,Int.add_sub_cancel,tn1,tnp,tnc,vS2] at *)
 all_goals (try ((fail_if_success (with_reducible apply Exists.intro));first|with_reducible assumption|omega))
 ·refine ⟨k + 1,by omega,by omega,?_⟩
  (repeat' (first|(with_reducible first|exact True.intro|refine And.intro ?_ ?_|refine Head.mk ?_ ?_ ?_ ?_)|((conv=>lhs;whnf);first|(with_reducible first|rfl|exact vInt_s (by omega))|exact rfl)|((conv=>whnf);first|(with_reducible first|exact True.intro|refine And.intro ?_ ?_)))) <;> (try (conv=>lhs;whnf))
  exact congrArg vInt (hstep (by assumption))
 refine awp'_loopG (α:=Nat) (fun k ver_=>[(11,vInt k)]) (fun k ver_=>[]) (fun k ver_=>[]) (fun k=>k≤(partsM (hidR bs) (greedyM (hidR bs))).length) (fun k=>(partsM (hidR bs) (greedyM (hidR bs))).length - k) [3,4,5,6,7,8] [3] (0) ?_
 conv=>whnf
 refine ⟨⟨?inv2_,?vals2_,?own2_,?fix2_⟩,?body2_⟩
 case' vals2_=>(repeat' (first|(with_reducible first|exact True.intro|refine And.intro ?_ ?_|refine Head.mk ?_ ?_ ?_ ?_)|((conv=>lhs;whnf);first|(with_reducible first|rfl|exact vInt_s (by omega))|exact rfl)|((conv=>whnf);first|(with_reducible first|exact True.intro|refine And.intro ?_ ?_)))) <;> (try (conv=>lhs;whnf))
 case' own2_=>(repeat' (first|(with_reducible first|exact True.intro|refine And.intro ?_ ?_|refine Head.mk ?_ ?_ ?_ ?_)|((conv=>lhs;whnf);first|(with_reducible first|rfl|exact vInt_s (by omega))|exact rfl)|((conv=>whnf);first|(with_reducible first|exact True.intro|refine And.intro ?_ ?_)))) <;> (try (conv=>lhs;whnf))
 case' fix2_=>(repeat' (first|(with_reducible first|exact True.intro|refine And.intro ?_ ?_|refine Head.mk ?_ ?_ ?_ ?_)|((conv=>lhs;whnf);first|(with_reducible first|rfl|exact vInt_s (by omega))|exact rfl)|((conv=>whnf);first|(with_reducible first|exact True.intro|refine And.intro ?_ ?_)))) <;> (try (conv=>lhs;whnf))
 ·exact Nat.zero_le _
 have hke:¬ k < (partsM (hidR bs) (hidK bs)).length→psum (hidR bs) (partsM (hidR bs) (hidK bs)) k=dArea (hidR bs):=fun h=>by
  rw [show k=(partsM (hidR bs) (hidK bs)).length by omega]
  exact hX.sum
 rintro k g_ o_ v_ hk
 have hth:=hX.three k
 (repeat' (first|(with_reducible first|exact True.intro|refine zQ ?_|(refine zG hG_ ?_;intro K_ hK_)|(refine zR ?_;intro K_ hK_)|(refine hK_ _ _ ?_;try clear hK_ K_)|refine sq_n ?_|refine sq_r ?_|refine sq_e ?_|refine bq_n ?_|refine bq_r ?_|refine bq_q ?_|refine zB ?_|refine zX ?_|refine zT ?_|refine zK ?_|refine gq_n ?_|refine gq_r ?_|refine gq_e ?_|refine lq_n ?_|refine lq_r ?_|refine lq_e ?_|refine bq_e (by decide) ?_)|((with_reducible refine zC (b:=?b_) ?hb_ ?_ ?_);case hb_=>rfl)|((conv=>whnf);first|(with_reducible refine hK_ _ _ ?_;try clear hK_ K_)|(with_reducible refine fun (g_:Sl) (o_:Ow)=>?_)|(with_reducible first|exact True.intro|refine And.intro trivial ?_|refine And.intro ?_ ?_)|exact Nat.le_of_ble_eq_true rfl|exact Or.inl rfl|(intro h_;cases h_)|(intro h_;(try simp only [vS1] at h_))|rfl))) <;> (try (conv=>whnf)) <;> (try first|change (_:Int)≤_|change (_:Nat)≤_) <;> (try ((fail_if_success (with_reducible apply Exists.intro));(try dsimp only);(try simp only [vS1]))) <;> (try simp (disch:=omega) only [vS3,Int.add_sub_cancel,tn1,tnp,tnc,vS2] at *)
 all_goals (try ((fail_if_success (with_reducible apply Exists.intro));first|with_reducible assumption|omega))
 ·refine ⟨k + 1,by omega,by omega,?_⟩
  (repeat' (first|(with_reducible first|exact True.intro|refine And.intro ?_ ?_|refine Head.mk ?_ ?_ ?_ ?_)|((conv=>lhs;whnf);first|(with_reducible first|rfl|exact vInt_s (by omega))|exact rfl)|((conv=>whnf);first|(with_reducible first|exact True.intro|refine And.intro ?_ ?_)))) <;> (try (conv=>lhs;whnf))
 ·exact hX.cb _ (by assumption)
 ·exact absurd (hX.plans.symm.trans (by assumption)) (by decide)
end Go.Proofs.YtpafacebfogkmaaGreat
