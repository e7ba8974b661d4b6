/- What the proof of 'FnMovements' needs, part 6: conditions and steps of the functions that it reaches, and the mathematics. -/
import Derived.Test.YtnepfcnlngpchaaRows
import Derived.WalkKit
import Derived.WalkSpells
import Derived.Below
import Derived.Orders
import Derived.Maps.AppendAt
import Derived.Laws.StructEq
import Derived.WideShapes
import Derived.ChangeSlices
import Derived.Deep.Strs
import Derived.ChangeOld
import Derived.Shelf.SlLaysF0
import Derived.Shelf.SlSortCmp.InsertionK
import Derived.Shelf.SlSortCmp.SmallK
import Derived.Shelf.SlSortCmp.Xorshift
import Derived.Sort.LotA
import Derived.Shelf.Slices.Delete
import Derived.Shelf.Sort.Plain
import Derived.Test.YtnepfcnlngpchaaSFnMovements5
set_option linter.unusedSimpArgs false
set_option linter.unusedVariables false
namespace Go.Proofs.Ytnepfcnlngpchaa
open Go.RowKit Go.Proofs.Ytnepfcnlngpchaa.Nm
set_option maxRecDepth 10000
theorem locRow_eq {v:Nat} {t:TypeId} {k:ElK} {xs ys:List k.T} (h:xs=ys):(⟨v,.row t k xs⟩:Loc)=⟨v,.row t k ys⟩:=by rw [h]
theorem map_take1 {α β:Type} (f:α→β) {xs:List α} (d:α) (h:0 < xs.length):[f (xs.getD 0 d)]=(xs.take 1).map f:=by
 cases xs with
 | nil=>simp at h
 | cons a l=>rfl
def cloP (f:FuncId × List D) (p:Pt):Pt:=if f.1=n_impl_TurnRoom_1 then trnP p else if f.1=n_impl_MirrorRoom_1 then mirP p else match f.2 with|[.ptr [.int _ dx],.ptr [.int _ dy]]=>movP dx dy p|_=>p
def cloOk (f:FuncId × List D):Prop:=f=(n_impl_TurnRoom_1,[])∨f=(n_impl_MirrorRoom_1,[])∨∃ dx dy,f=(n_impl_MoveRoom_1,[.ptr [.int .i64 dx],.ptr [.int .i64 dy]])
def mappedC:Con:=mkCon [.room,.clo] (fun x=>x.1.length≤1048576∧cloOk x.2.1) fun x=>rRoom (x.1.map (cloP x.2.1))
theorem clo_trn:cloP (n_impl_TurnRoom_1,[])=trnP:=by funext p;rfl
theorem clo_mir:cloP (n_impl_MirrorRoom_1,[])=mirP:=by funext p;rfl
theorem clo_mov (dx dy:Int):cloP (n_impl_MoveRoom_1,[.ptr [.int .i64 dx],.ptr [.int .i64 dy]])=movP dx dy:=by funext p;rfl
theorem mapped_ok:Good1 Try.prog n_impl_mapped mappedC:=by
 refine good_ofG (tys:=tyL) (env:=[(n_impl_TurnRoom_1,trnC),(n_impl_MirrorRoom_1,mirC),(n_impl_MoveRoom_1,movC)]) (envw:=[]) (envd:=[]) [] [20] [] [] [] mixed tys ⟨trn_ok,mir_ok,mov_ok,trivial⟩ trivial trivial Try.func97 rfl (by kernel_rfl) (by decide) (by kernel_rfl) ?_
 have hG_:=kpz [(0,[1,2,4]),(1,[1,2,4,5]),(2,[1,4,5,10,11,12]),(3,[1,4,5,10,11,12,13]),(4,[1,4,5,7,10,11,12]),(5,[1,4,5,10,11,12]),(6,[1,4,5,10,11,12]),(7,[4])] [(0,[4]),(1,[4,5]),(2,[4,5]),(3,[4,5]),(4,[4,5,7]),(5,[4,5]),(6,[4,5]),(7,[4])] [] []
 rintro ⟨(xs:List Pt),(f:FuncId × List D),⟨⟩⟩ ⟨(h1:xs.length≤_),(h2:cloOk f)⟩
 rcases h2 with rfl|rfl|⟨dx,dy,rfl⟩
 ·(repeat' (first|(with_reducible first|exact True.intro|refine zQ ?_|(refine zG hG_ ?_;intro K_ hK_)|(refine zR ?_;intro K_ hK_)|(refine hK_ _ _ ?_;try clear hK_ K_)|refine sq_n ?_|refine sq_r ?_|refine sq_e ?_|refine bq_n ?_|refine bq_r ?_|refine bq_q ?_|refine zB ?_|refine zX ?_|refine zT ?_|refine zK ?_|refine gq_n ?_|refine gq_r ?_|refine gq_e ?_|refine lq_n ?_|refine lq_r ?_|refine lq_e ?_|refine bq_e (by decide) ?_)|((with_reducible refine zC (b:=?b_) ?hb_ ?_ ?_);case hb_=>rfl)|((conv=>whnf);first|(with_reducible refine hK_ _ _ ?_;try clear hK_ K_)|(with_reducible refine fun (g_:Sl) (o_:Ow)=>?_)|(with_reducible first|exact True.intro|refine And.intro trivial ?_|refine And.intro ?_ ?_)|exact Nat.le_of_ble_eq_true rfl|exact Or.inl rfl|(intro h_;cases h_)|(intro h_;(try simp only [vS1] at h_))|rfl))) <;> (try (conv=>whnf)) <;> (try first|change (_:Int)≤_|change (_:Nat)≤_) <;> (try ((fail_if_success (with_reducible apply Exists.intro));(try dsimp only);(try simp only [vS1]))) <;> (try simp (disch:=omega) only [vS3,vS2] at *)
  refine awp'_loopG (α:=Nat) (fun k ver_=>[(12,vInt k)]) (fun k ver_=>[(5,5,true,.box t_impl_Room [match k with|0=>.d .nil|_ + 1=>.own 22 (ver_ 22)])]) (fun k ver_=>match k with|0=>[]|_ + 1=>[(22,⟨ver_ 22,.row t_impl_Point (.b .pt) ((xs.take k).map (trnP))⟩)]) (fun k=>k≤xs.length) (fun k=>xs.length - k) [1,4,10,11] [4] (0) ?_
  conv=>whnf
  refine ⟨⟨?inv1_,?vals1_,?own1_,?fix1_⟩,?body1_⟩
  case' vals1_=>(repeat' (first|(with_reducible first|exact True.intro|refine And.intro ?_ ?_|refine Head.mk ?_ ?_ ?_ ?_)|((conv=>lhs;whnf);first|(with_reducible first|rfl|exact vInt_s (by omega))|exact rfl)|((conv=>whnf);first|(with_reducible first|exact True.intro|refine And.intro ?_ ?_)))) <;> (try (conv=>lhs;whnf))
  case' own1_=>(repeat' (first|(with_reducible first|exact True.intro|refine And.intro ?_ ?_|refine Head.mk ?_ ?_ ?_ ?_)|((conv=>lhs;whnf);first|(with_reducible first|rfl|exact vInt_s (by omega))|exact rfl)|((conv=>whnf);first|(with_reducible first|exact True.intro|refine And.intro ?_ ?_)))) <;> (try (conv=>lhs;whnf))
  case' fix1_=>(repeat' (first|(with_reducible first|exact True.intro|refine And.intro ?_ ?_|refine Head.mk ?_ ?_ ?_ ?_)|((conv=>lhs;whnf);first|(with_reducible first|rfl|exact vInt_s (by omega))|exact rfl)|((conv=>whnf);first|(with_reducible first|exact True.intro|refine And.intro ?_ ?_)))) <;> (try (conv=>lhs;whnf))
  ·exact Nat.zero_le _
  rintro (_|k) g_ o_ v_ hk
  ·
   have hG_:=kpz [(0,[1,2,4]),(1,[1,2,4,5]),(2,[1,4,5,10,11,12]),(3,[1,4,5,10,11,12,13]),(4,[1,4,5,7,10,11,12]),(5,[1,4,5,10,11,12]),(6,[1,4,5,10,11,12]),(7,[4])] [(0,[4]),(1,[4,5]),(2,[4,5]),(3,[4,5]),(4,[4,5,7]),(5,[4,5,22]),(6,[4,5,22]),(7,[4])] [] []
   (repeat' (first|(with_reducible first|exact True.intro|refine zQ ?_|(refine zG hG_ ?_;intro K_ hK_)|(refine zR ?_;intro K_ hK_)|(refine hK_ _ _ ?_;try clear hK_ K_)|refine sq_n ?_|refine sq_r ?_|refine sq_e ?_|refine bq_n ?_|refine bq_r ?_|refine bq_q ?_|refine zB ?_|refine zX ?_|refine zT ?_|refine zK ?_|refine gq_n ?_|refine gq_r ?_|refine gq_e ?_|refine lq_n ?_|refine lq_r ?_|refine lq_e ?_|refine bq_e (by decide) ?_)|((with_reducible refine zC (b:=?b_) ?hb_ ?_ ?_);case hb_=>rfl)|((conv=>whnf);first|(with_reducible refine hK_ _ _ ?_;try clear hK_ K_)|(with_reducible refine fun (g_:Sl) (o_:Ow)=>?_)|(with_reducible first|exact True.intro|refine And.intro trivial ?_|refine And.intro ?_ ?_)|exact Nat.le_of_ble_eq_true rfl|exact Or.inl rfl|(intro h_;cases h_)|(intro h_;(try simp only [vS1] at h_))|rfl))) <;> (try (conv=>whnf)) <;> (try first|change (_:Int)≤_|change (_:Nat)≤_) <;> (try ((fail_if_success (with_reducible apply Exists.intro));(try dsimp only);(try simp only [vS1]))) <;> (try simp (disch:=omega) only [vS3,vS2] at *)
   all_goals (try (fail_if_success (with_reducible apply Exists.intro));first|with_reducible assumption|omega|exact mdl (by omega)|exact ilo1 (by omega)|exact ilo2 (by omega)|exact ihi1 (by omega) (by omega)|exact ihi2 (by omega) (by omega))
   ·exact ⟨1,by omega,by omega,by (repeat' (first|(with_reducible first|exact True.intro|refine And.intro ?_ ?_|refine Head.mk ?_ ?_ ?_ ?_)|((conv=>lhs;whnf);first|(with_reducible first|rfl|exact vInt_s (by omega))|exact rfl)|((conv=>whnf);first|(with_reducible first|exact True.intro|refine And.intro ?_ ?_)))) <;> (try (conv=>lhs;whnf));exact locRow_eq (map_take1 (trnP) _ h_)⟩
   ·rw [List.eq_nil_of_length_eq_zero (by omega:xs.length=0)];rfl
  ·
   have hG_:=kpz [(0,[1,2,4]),(1,[1,2,4,5]),(2,[1,4,5,10,11,12]),(3,[1,4,5,10,11,12,13]),(4,[1,4,5,7,10,11,12]),(5,[1,4,5,10,11,12]),(6,[1,4,5,10,11,12]),(7,[4])] [(0,[4,22]),(1,[4,5,22]),(2,[4,5,22]),(3,[4,5,22]),(4,[4,5,7,22]),(5,[4,5,22]),(6,[4,5,22]),(7,[4,22])] [] []
   (repeat' (first|(with_reducible first|exact True.intro|refine zQ ?_|(refine zG hG_ ?_;intro K_ hK_)|(refine zR ?_;intro K_ hK_)|(refine hK_ _ _ ?_;try clear hK_ K_)|refine sq_n ?_|refine sq_r ?_|refine sq_e ?_|refine bq_n ?_|refine bq_r ?_|refine bq_q ?_|refine zB ?_|refine zX ?_|refine zT ?_|refine zK ?_|refine gq_n ?_|refine gq_r ?_|refine gq_e ?_|refine lq_n ?_|refine lq_r ?_|refine lq_e ?_|refine bq_e (by decide) ?_)|((with_reducible refine zC (b:=?b_) ?hb_ ?_ ?_);case hb_=>rfl)|((conv=>whnf);first|(with_reducible refine hK_ _ _ ?_;try clear hK_ K_)|(with_reducible refine fun (g_:Sl) (o_:Ow)=>?_)|(with_reducible first|exact True.intro|refine And.intro trivial ?_|refine And.intro ?_ ?_)|exact Nat.le_of_ble_eq_true rfl|exact Or.inl rfl|(intro h_;cases h_)|(intro h_;(try simp only [vS1] at h_))|rfl))) <;> (try (conv=>whnf)) <;> (try first|change (_:Int)≤_|change (_:Nat)≤_) <;> (try ((fail_if_success (with_reducible apply Exists.intro));(try dsimp only);(try simp only [vS1]))) <;> (try simp (disch:=omega) only [vS3,vS2] at *)
   all_goals (try (fail_if_success (with_reducible apply Exists.intro));first|with_reducible assumption|omega|exact mdl (by omega)|exact ilo1 (by omega)|exact ilo2 (by omega)|exact ihi1 (by omega) (by omega)|exact ihi2 (by omega) (by omega))
   ·exact ⟨k + 2,by omega,by omega,by (repeat' (first|(with_reducible first|exact True.intro|refine And.intro ?_ ?_|refine Head.mk ?_ ?_ ?_ ?_)|((conv=>lhs;whnf);first|(with_reducible first|rfl|exact vInt_s (by omega))|exact rfl)|((conv=>whnf);first|(with_reducible first|exact True.intro|refine And.intro ?_ ?_)))) <;> (try (conv=>lhs;whnf));exact locRow_eq (map_take_succ (trnP) _ h_).symm⟩
   ·rw [clo_trn,List.take_of_length_le (by omega)];rfl
 ·(repeat' (first|(with_reducible first|exact True.intro|refine zQ ?_|(refine zG hG_ ?_;intro K_ hK_)|(refine zR ?_;intro K_ hK_)|(refine hK_ _ _ ?_;try clear hK_ K_)|refine sq_n ?_|refine sq_r ?_|refine sq_e ?_|refine bq_n ?_|refine bq_r ?_|refine bq_q ?_|refine zB ?_|refine zX ?_|refine zT ?_|refine zK ?_|refine gq_n ?_|refine gq_r ?_|refine gq_e ?_|refine lq_n ?_|refine lq_r ?_|refine lq_e ?_|refine bq_e (by decide) ?_)|((with_reducible refine zC (b:=?b_) ?hb_ ?_ ?_);case hb_=>rfl)|((conv=>whnf);first|(with_reducible refine hK_ _ _ ?_;try clear hK_ K_)|(with_reducible refine fun (g_:Sl) (o_:Ow)=>?_)|(with_reducible first|exact True.intro|refine And.intro trivial ?_|refine And.intro ?_ ?_)|exact Nat.le_of_ble_eq_true rfl|exact Or.inl rfl|(intro h_;cases h_)|(intro h_;(try simp only [vS1] at h_))|rfl))) <;> (try (conv=>whnf)) <;> (try first|change (_:Int)≤_|change (_:Nat)≤_) <;> (try ((fail_if_success (with_reducible apply Exists.intro));(try dsimp only);(try simp only [vS1]))) <;> (try simp (disch:=omega) only [vS3,vS2] at *)
  refine awp'_loopG (α:=Nat) (fun k ver_=>[(12,vInt k)]) (fun k ver_=>[(5,5,true,.box t_impl_Room [match k with|0=>.d .nil|_ + 1=>.own 22 (ver_ 22)])]) (fun k ver_=>match k with|0=>[]|_ + 1=>[(22,⟨ver_ 22,.row t_impl_Point (.b .pt) ((xs.take k).map (mirP))⟩)]) (fun k=>k≤xs.length) (fun k=>xs.length - k) [1,4,10,11] [4] (0) ?_
  conv=>whnf
  refine ⟨⟨?inv2_,?vals2_,?own2_,?fix2_⟩,?body2_⟩
  case' vals2_=>(repeat' (first|(with_reducible first|exact True.intro|refine And.intro ?_ ?_|refine Head.mk ?_ ?_ ?_ ?_)|((conv=>lhs;whnf);first|(with_reducible first|rfl|exact vInt_s (by omega))|exact rfl)|((conv=>whnf);first|(with_reducible first|exact True.intro|refine And.intro ?_ ?_)))) <;> (try (conv=>lhs;whnf))
  case' own2_=>(repeat' (first|(with_reducible first|exact True.intro|refine And.intro ?_ ?_|refine Head.mk ?_ ?_ ?_ ?_)|((conv=>lhs;whnf);first|(with_reducible first|rfl|exact vInt_s (by omega))|exact rfl)|((conv=>whnf);first|(with_reducible first|exact True.intro|refine And.intro ?_ ?_)))) <;> (try (conv=>lhs;whnf))
  case' fix2_=>(repeat' (first|(with_reducible first|exact True.intro|refine And.intro ?_ ?_|refine Head.mk ?_ ?_ ?_ ?_)|((conv=>lhs;whnf);first|(with_reducible first|rfl|exact vInt_s (by omega))|exact rfl)|((conv=>whnf);first|(with_reducible first|exact True.intro|refine And.intro ?_ ?_)))) <;> (try (conv=>lhs;whnf))
  ·exact Nat.zero_le _
  rintro (_|k) g_ o_ v_ hk
  ·
   have hG_:=kpz [(0,[1,2,4]),(1,[1,2,4,5]),(2,[1,4,5,10,11,12]),(3,[1,4,5,10,11,12,13]),(4,[1,4,5,7,10,11,12]),(5,[1,4,5,10,11,12]),(6,[1,4,5,10,11,12]),(7,[4])] [(0,[4]),(1,[4,5]),(2,[4,5]),(3,[4,5]),(4,[4,5,7]),(5,[4,5,22]),(6,[4,5,22]),(7,[4])] [] []
   (repeat' (first|(with_reducible first|exact True.intro|refine zQ ?_|(refine zG hG_ ?_;intro K_ hK_)|(refine zR ?_;intro K_ hK_)|(refine hK_ _ _ ?_;try clear hK_ K_)|refine sq_n ?_|refine sq_r ?_|refine sq_e ?_|refine bq_n ?_|refine bq_r ?_|refine bq_q ?_|refine zB ?_|refine zX ?_|refine zT ?_|refine zK ?_|refine gq_n ?_|refine gq_r ?_|refine gq_e ?_|refine lq_n ?_|refine lq_r ?_|refine lq_e ?_|refine bq_e (by decide) ?_)|((with_reducible refine zC (b:=?b_) ?hb_ ?_ ?_);case hb_=>rfl)|((conv=>whnf);first|(with_reducible refine hK_ _ _ ?_;try clear hK_ K_)|(with_reducible refine fun (g_:Sl) (o_:Ow)=>?_)|(with_reducible first|exact True.intro|refine And.intro trivial ?_|refine And.intro ?_ ?_)|exact Nat.le_of_ble_eq_true rfl|exact Or.inl rfl|(intro h_;cases h_)|(intro h_;(try simp only [vS1] at h_))|rfl))) <;> (try (conv=>whnf)) <;> (try first|change (_:Int)≤_|change (_:Nat)≤_) <;> (try ((fail_if_success (with_reducible apply Exists.intro));(try dsimp only);(try simp only [vS1]))) <;> (try simp (disch:=omega) only [vS3,vS2] at *)
   all_goals (try (fail_if_success (with_reducible apply Exists.intro));first|with_reducible assumption|omega|exact mdl (by omega)|exact ilo1 (by omega)|exact ilo2 (by omega)|exact ihi1 (by omega) (by omega)|exact ihi2 (by omega) (by omega))
   ·exact ⟨1,by omega,by omega,by (repeat' (first|(with_reducible first|exact True.intro|refine And.intro ?_ ?_|refine Head.mk ?_ ?_ ?_ ?_)|((conv=>lhs;whnf);first|(with_reducible first|rfl|exact vInt_s (by omega))|exact rfl)|((conv=>whnf);first|(with_reducible first|exact True.intro|refine And.intro ?_ ?_)))) <;> (try (conv=>lhs;whnf));exact locRow_eq (map_take1 (mirP) _ h_)⟩
   ·rw [List.eq_nil_of_length_eq_zero (by omega:xs.length=0)];rfl
  ·
   have hG_:=kpz [(0,[1,2,4]),(1,[1,2,4,5]),(2,[1,4,5,10,11,12]),(3,[1,4,5,10,11,12,13]),(4,[1,4,5,7,10,11,12]),(5,[1,4,5,10,11,12]),(6,[1,4,5,10,11,12]),(7,[4])] [(0,[4,22]),(1,[4,5,22]),(2,[4,5,22]),(3,[4,5,22]),(4,[4,5,7,22]),(5,[4,5,22]),(6,[4,5,22]),(7,[4,22])] [] []
   (repeat' (first|(with_reducible first|exact True.intro|refine zQ ?_|(refine zG hG_ ?_;intro K_ hK_)|(refine zR ?_;intro K_ hK_)|(refine hK_ _ _ ?_;try clear hK_ K_)|refine sq_n ?_|refine sq_r ?_|refine sq_e ?_|refine bq_n ?_|refine bq_r ?_|refine bq_q ?_|refine zB ?_|refine zX ?_|refine zT ?_|refine zK ?_|refine gq_n ?_|refine gq_r ?_|refine gq_e ?_|refine lq_n ?_|refine lq_r ?_|refine lq_e ?_|refine bq_e (by decide) ?_)|((with_reducible refine zC (b:=?b_) ?hb_ ?_ ?_);case hb_=>rfl)|((conv=>whnf);first|(with_reducible refine hK_ _ _ ?_;try clear hK_ K_)|(with_reducible refine fun (g_:Sl) (o_:Ow)=>?_)|(with_reducible first|exact True.intro|refine And.intro trivial ?_|refine And.intro ?_ ?_)|exact Nat.le_of_ble_eq_true rfl|exact Or.inl rfl|(intro h_;cases h_)|(intro h_;(try simp only [vS1] at h_))|rfl))) <;> (try (conv=>whnf)) <;> (try first|change (_:Int)≤_|change (_:Nat)≤_) <;> (try ((fail_if_success (with_reducible apply Exists.intro));(try dsimp only);(try simp only [vS1]))) <;> (try simp (disch:=omega) only [vS3,vS2] at *)
   all_goals (try (fail_if_success (with_reducible apply Exists.intro));first|with_reducible assumption|omega|exact mdl (by omega)|exact ilo1 (by omega)|exact ilo2 (by omega)|exact ihi1 (by omega) (by omega)|exact ihi2 (by omega) (by omega))
   ·exact ⟨k + 2,by omega,by omega,by (repeat' (first|(with_reducible first|exact True.intro|refine And.intro ?_ ?_|refine Head.mk ?_ ?_ ?_ ?_)|((conv=>lhs;whnf);first|(with_reducible first|rfl|exact vInt_s (by omega))|exact rfl)|((conv=>whnf);first|(with_reducible first|exact True.intro|refine And.intro ?_ ?_)))) <;> (try (conv=>lhs;whnf));exact locRow_eq (map_take_succ (mirP) _ h_).symm⟩
   ·rw [clo_mir,List.take_of_length_le (by omega)];rfl
 ·(repeat' (first|(with_reducible first|exact True.intro|refine zQ ?_|(refine zG hG_ ?_;intro K_ hK_)|(refine zR ?_;intro K_ hK_)|(refine hK_ _ _ ?_;try clear hK_ K_)|refine sq_n ?_|refine sq_r ?_|refine sq_e ?_|refine bq_n ?_|refine bq_r ?_|refine bq_q ?_|refine zB ?_|refine zX ?_|refine zT ?_|refine zK ?_|refine gq_n ?_|refine gq_r ?_|refine gq_e ?_|refine lq_n ?_|refine lq_r ?_|refine lq_e ?_|refine bq_e (by decide) ?_)|((with_reducible refine zC (b:=?b_) ?hb_ ?_ ?_);case hb_=>rfl)|((conv=>whnf);first|(with_reducible refine hK_ _ _ ?_;try clear hK_ K_)|(with_reducible refine fun (g_:Sl) (o_:Ow)=>?_)|(with_reducible first|exact True.intro|refine And.intro trivial ?_|refine And.intro ?_ ?_)|exact Nat.le_of_ble_eq_true rfl|exact Or.inl rfl|(intro h_;cases h_)|(intro h_;(try simp only [vS1] at h_))|rfl))) <;> (try (conv=>whnf)) <;> (try first|change (_:Int)≤_|change (_:Nat)≤_) <;> (try ((fail_if_success (with_reducible apply Exists.intro));(try dsimp only);(try simp only [vS1]))) <;> (try simp (disch:=omega) only [vS3,vS2] at *)
  refine awp'_loopG (α:=Nat) (fun k ver_=>[(12,vInt k)]) (fun k ver_=>[(5,5,true,.box t_impl_Room [match k with|0=>.d .nil|_ + 1=>.own 22 (ver_ 22)])]) (fun k ver_=>match k with|0=>[]|_ + 1=>[(22,⟨ver_ 22,.row t_impl_Point (.b .pt) ((xs.take k).map (movP dx dy))⟩)]) (fun k=>k≤xs.length) (fun k=>xs.length - k) [1,4,10,11] [4] (0) ?_
  conv=>whnf
  refine ⟨⟨?inv3_,?vals3_,?own3_,?fix3_⟩,?body3_⟩
  case' vals3_=>(repeat' (first|(with_reducible first|exact True.intro|refine And.intro ?_ ?_|refine Head.mk ?_ ?_ ?_ ?_)|((conv=>lhs;whnf);first|(with_reducible first|rfl|exact vInt_s (by omega))|exact rfl)|((conv=>whnf);first|(with_reducible first|exact True.intro|refine And.intro ?_ ?_)))) <;> (try (conv=>lhs;whnf))
  case' own3_=>(repeat' (first|(with_reducible first|exact True.intro|refine And.intro ?_ ?_|refine Head.mk ?_ ?_ ?_ ?_)|((conv=>lhs;whnf);first|(with_reducible first|rfl|exact vInt_s (by omega))|exact rfl)|((conv=>whnf);first|(with_reducible first|exact True.intro|refine And.intro ?_ ?_)))) <;> (try (conv=>lhs;whnf))
  case' fix3_=>(repeat' (first|(with_reducible first|exact True.intro|refine And.intro ?_ ?_|refine Head.mk ?_ ?_ ?_ ?_)|((conv=>lhs;whnf);first|(with_reducible first|rfl|exact vInt_s (by omega))|exact rfl)|((conv=>whnf);first|(with_reducible first|exact True.intro|refine And.intro ?_ ?_)))) <;> (try (conv=>lhs;whnf))
  ·exact Nat.zero_le _
  rintro (_|k) g_ o_ v_ hk
  ·
   have hG_:=kpz [(0,[1,2,4]),(1,[1,2,4,5]),(2,[1,4,5,10,11,12]),(3,[1,4,5,10,11,12,13]),(4,[1,4,5,7,10,11,12]),(5,[1,4,5,10,11,12]),(6,[1,4,5,10,11,12]),(7,[4])] [(0,[4]),(1,[4,5]),(2,[4,5]),(3,[4,5]),(4,[4,5,7]),(5,[4,5,22]),(6,[4,5,22]),(7,[4])] [] []
   (repeat' (first|(with_reducible first|exact True.intro|refine zQ ?_|(refine zG hG_ ?_;intro K_ hK_)|(refine zR ?_;intro K_ hK_)|(refine hK_ _ _ ?_;try clear hK_ K_)|refine sq_n ?_|refine sq_r ?_|refine sq_e ?_|refine bq_n ?_|refine bq_r ?_|refine bq_q ?_|refine zB ?_|refine zX ?_|refine zT ?_|refine zK ?_|refine gq_n ?_|refine gq_r ?_|refine gq_e ?_|refine lq_n ?_|refine lq_r ?_|refine lq_e ?_|refine bq_e (by decide) ?_)|((with_reducible refine zC (b:=?b_) ?hb_ ?_ ?_);case hb_=>rfl)|((conv=>whnf);first|(with_reducible refine hK_ _ _ ?_;try clear hK_ K_)|(with_reducible refine fun (g_:Sl) (o_:Ow)=>?_)|(with_reducible first|exact True.intro|refine And.intro trivial ?_|refine And.intro ?_ ?_)|exact Nat.le_of_ble_eq_true rfl|exact Or.inl rfl|(intro h_;cases h_)|(intro h_;(try simp only [vS1] at h_))|rfl))) <;> (try (conv=>whnf)) <;> (try first|change (_:Int)≤_|change (_:Nat)≤_) <;> (try ((fail_if_success (with_reducible apply Exists.intro));(try dsimp only);(try simp only [vS1]))) <;> (try simp (disch:=omega) only [vS3,vS2] at *)
   all_goals (try (fail_if_success (with_reducible apply Exists.intro));first|with_reducible assumption|omega|exact mdl (by omega)|exact ilo1 (by omega)|exact ilo2 (by omega)|exact ihi1 (by omega) (by omega)|exact ihi2 (by omega) (by omega))
   ·exact ⟨1,by omega,by omega,by (repeat' (first|(with_reducible first|exact True.intro|refine And.intro ?_ ?_|refine Head.mk ?_ ?_ ?_ ?_)|((conv=>lhs;whnf);first|(with_reducible first|rfl|exact vInt_s (by omega))|exact rfl)|((conv=>whnf);first|(with_reducible first|exact True.intro|refine And.intro ?_ ?_)))) <;> (try (conv=>lhs;whnf));exact locRow_eq (map_take1 (movP dx dy) _ h_)⟩
   ·rw [List.eq_nil_of_length_eq_zero (by omega:xs.length=0)];rfl
  ·
   have hG_:=kpz [(0,[1,2,4]),(1,[1,2,4,5]),(2,[1,4,5,10,11,12]),(3,[1,4,5,10,11,12,13]),(4,[1,4,5,7,10,11,12]),(5,[1,4,5,10,11,12]),(6,[1,4,5,10,11,12]),(7,[4])] [(0,[4,22]),(1,[4,5,22]),(2,[4,5,22]),(3,[4,5,22]),(4,[4,5,7,22]),(5,[4,5,22]),(6,[4,5,22]),(7,[4,22])] [] []
   (repeat' (first|(with_reducible first|exact True.intro|refine zQ ?_|(refine zG hG_ ?_;intro K_ hK_)|(refine zR ?_;intro K_ hK_)|(refine hK_ _ _ ?_;try clear hK_ K_)|refine sq_n ?_|refine sq_r ?_|refine sq_e ?_|refine bq_n ?_|refine bq_r ?_|refine bq_q ?_|refine zB ?_|refine zX ?_|refine zT ?_|refine zK ?_|refine gq_n ?_|refine gq_r ?_|refine gq_e ?_|refine lq_n ?_|refine lq_r ?_|refine lq_e ?_|refine bq_e (by decide) ?_)|((with_reducible refine zC (b:=?b_) ?hb_ ?_ ?_);case hb_=>rfl)|((conv=>whnf);first|(with_reducible refine hK_ _ _ ?_;try clear hK_ K_)|(with_reducible refine fun (g_:Sl) (o_:Ow)=>?_)|(with_reducible first|exact True.intro|refine And.intro trivial ?_|refine And.intro ?_ ?_)|exact Nat.le_of_ble_eq_true rfl|exact Or.inl rfl|(intro h_;cases h_)|(intro h_;(try simp only [vS1] at h_))|rfl))) <;> (try (conv=>whnf)) <;> (try first|change (_:Int)≤_|change (_:Nat)≤_) <;> (try ((fail_if_success (with_reducible apply Exists.intro));(try dsimp only);(try simp only [vS1]))) <;> (try simp (disch:=omega) only [vS3,vS2] at *)
   all_goals (try (fail_if_success (with_reducible apply Exists.intro));first|with_reducible assumption|omega|exact mdl (by omega)|exact ilo1 (by omega)|exact ilo2 (by omega)|exact ihi1 (by omega) (by omega)|exact ihi2 (by omega) (by omega))
   ·exact ⟨k + 2,by omega,by omega,by (repeat' (first|(with_reducible first|exact True.intro|refine And.intro ?_ ?_|refine Head.mk ?_ ?_ ?_ ?_)|((conv=>lhs;whnf);first|(with_reducible first|rfl|exact vInt_s (by omega))|exact rfl)|((conv=>whnf);first|(with_reducible first|exact True.intro|refine And.intro ?_ ?_)))) <;> (try (conv=>lhs;whnf));exact locRow_eq (map_take_succ (movP dx dy) _ h_).symm⟩
   ·rw [clo_mov,List.take_of_length_le (by omega)];rfl
def turnRoom (xs:List Pt):List Pt:=if roomOk xs then xs.map trnP else []
def roomRoomC (f:List Pt→List Pt):Con:=mkCon [.room] (fun x=>x.1.length≤1048576) fun x=>rRoom (f x.1)
theorem iTurnRoom_ok:Good1 Try.prog n_impl_TurnRoom (roomRoomC turnRoom):=by
 refine good_ofG (tys:=tyL) (env:=[(n_impl_RoomOk,roomOkC),(n_impl_mapped,mappedC)]) (envw:=[]) (envd:=[]) [8] [] [] [] [] mixed tys ⟨iRoomOk_ok,mapped_ok,trivial⟩ trivial trivial Try.func47 rfl (by kernel_rfl) (by decide) (by kernel_rfl) ?_
 have hG_:=kpz [(0,[1,2]),(1,[1,2,5]),(2,[2]),(3,[2])] [(0,[2]),(1,[2]),(2,[2]),(3,[2,8])] [] []
 rintro ⟨(xs:List Pt),⟨⟩⟩ (h1:xs.length≤_)
 (repeat' (first|(with_reducible first|exact True.intro|refine zQ ?_|(refine zG hG_ ?_;intro K_ hK_)|(refine zR ?_;intro K_ hK_)|(refine hK_ _ _ ?_;try clear hK_ K_)|refine sq_n ?_|refine sq_r ?_|refine sq_e ?_|refine bq_n ?_|refine bq_r ?_|refine bq_q ?_|refine zB ?_|refine zX ?_|refine zT ?_|refine zK ?_|refine gq_n ?_|refine gq_r ?_|refine gq_e ?_|refine lq_n ?_|refine lq_r ?_|refine lq_e ?_|refine bq_e (by decide) ?_)|((with_reducible refine zC (b:=?b_) ?hb_ ?_ ?_);case hb_=>rfl)|((conv=>whnf);first|(with_reducible refine hK_ _ _ ?_;try clear hK_ K_)|(with_reducible refine fun (g_:Sl) (o_:Ow)=>?_)|(with_reducible first|exact True.intro|refine And.intro trivial ?_|refine And.intro ?_ ?_)|exact Nat.le_of_ble_eq_true rfl|exact Or.inl rfl|(intro h_;cases h_)|(intro h_;(try simp only [vS1] at h_))|rfl))) <;> (try (conv=>whnf)) <;> (try first|change (_:Int)≤_|change (_:Nat)≤_) <;> (try ((fail_if_success (with_reducible apply Exists.intro));(try dsimp only);(try simp only [vS1]))) <;> (try simp (disch:=omega) only [vS3,vS2] at *)
 all_goals (try (fail_if_success (with_reducible apply Exists.intro));first|with_reducible assumption|omega|exact mdl (by omega)|exact ilo1 (by omega)|exact ilo2 (by omega)|exact ihi1 (by omega) (by omega)|exact ihi2 (by omega) (by omega))
 ·simp_all [turnRoom]
 ·rw [turnRoom,if_pos (by assumption)];rfl
def revTo {α:Type} (d:α) (xs:List α) (i:Nat):List α:=(List.range xs.length).map fun p=>if p < i∨xs.length - i≤p then xs.getD (xs.length - 1 - p) d else xs.getD p d
theorem revTo_len {α:Type} (d:α) (xs:List α) (i:Nat):(revTo d xs i).length=xs.length:=by simp [revTo]
theorem revTo_get {α:Type} (d:α) {xs:List α} {i p:Nat} (hp:p < xs.length):(revTo d xs i).getD p d=if p < i∨xs.length - i≤p then xs.getD (xs.length - 1 - p) d else xs.getD p d:=by simp [revTo,List.getD,hp]
theorem ext_getD {α:Type} (d:α) {xs ys:List α} (hl:xs.length=ys.length) (h:∀ p,p < xs.length→xs.getD p d=ys.getD p d):xs=ys:=by
 refine List.ext_getElem hl fun p h1 h2=>?_
 have:=h p h1
 rwa [getD_lt _ h1,getD_lt _ h2] at this
theorem revTo_zero {α:Type} (d:α) (xs:List α):revTo d xs 0=xs:=ext_getD d (revTo_len d xs 0) fun p hp=>by
 rw [revTo_len] at hp
 rw [revTo_get d hp,if_neg (by omega)]
theorem revTo_end {α:Type} (d:α) {xs:List α} {i:Nat} (h:xs.length≤2 * i + 1):revTo d xs i=xs.reverse:=ext_getD d (by rw [revTo_len,List.length_reverse]) fun p hp=>by
 rw [revTo_len] at hp
 rw [revTo_get d hp,List.getD_eq_getElem?_getD (l:=xs.reverse),List.getElem?_reverse hp,← List.getD_eq_getElem?_getD]
 split
 ·rfl
 ·rw [show xs.length - 1 - p=p by omega]
theorem getD_set {α:Type} {xs:List α} {i p:Nat} {x d:α} (hi:i < xs.length):(xs.set i x).getD p d=if p=i then x else xs.getD p d:=by
 rw [List.getD_eq_getElem?_getD,List.getElem?_set]
 by_cases h:i=p
 ·subst h;simp [hi]
 ·rw [if_neg h,if_neg (Ne.symm h)];rfl
theorem revTo_step {α:Type} (d:α) {xs:List α} {i:Nat} (h:2 * i + 1 < xs.length) :
  ((revTo d xs i).set i ((revTo d xs i).getD (xs.length - 1 - i) d)).set (xs.length - 1 - i) ((revTo d xs i).getD i d)=revTo d xs (i + 1):=ext_getD d (by simp [revTo_len]) fun p hp=>by
 simp only [List.length_set,revTo_len] at hp
 rw [getD_set (by rw [List.length_set,revTo_len];omega),getD_set (by rw [revTo_len];omega),revTo_get d (by omega),revTo_get d (by omega),revTo_get d hp,revTo_get d hp]
 by_cases h1:p=xs.length - 1 - i
 ·subst h1
  rw [if_pos rfl,if_neg (by omega),if_pos (by omega)]
  congr 1;omega
 ·rw [if_neg h1]
  by_cases h2:p=i
  ·subst h2
   rw [if_pos rfl,if_neg (by omega),if_pos (by omega)]
  ·rw [if_neg h2]
   by_cases h3:p < i∨xs.length - i≤p
   ·rw [if_pos h3,if_pos (by omega)]
   ·rw [if_neg h3,if_neg (by omega)]
def revPtC:ConW:=mkConW [.sl (.b .pt)] 0 t_impl_Point (fun x=>x.1.length≤1048576) (fun _=>.tup []) fun x=>⟨.b .pt,x.1.reverse,false⟩
theorem revPt_ok:GoodW Try.prog n_slices_Reverse_impl_Point revPtC:=by
 refine good_ofW (tys:=tyL) (env:=[]) (envw:=[]) (envd:=[]) [] [] [] [] [] mixed tys trivial trivial trivial Try.func85 rfl (by kernel_rfl) (by decide) (by kernel_rfl) ?_
 have hG_:=kpz [(0,[0,2,3]),(1,[0,2,3,9]),(2,[0,2,3]),(3,[0,2,3])] [(0,[1000]),(1,[1000]),(2,[1000]),(3,[1000])] [] []
 rintro ⟨(xs:List Pt),⟨⟩⟩ (h1:xs.length≤_)
 (repeat' (first|(with_reducible first|exact True.intro|refine zQ ?_|(refine zG hG_ ?_;intro K_ hK_)|(refine zR ?_;intro K_ hK_)|(refine hK_ _ _ ?_;try clear hK_ K_)|refine sq_n ?_|refine sq_r ?_|refine sq_e ?_|refine bq_n ?_|refine bq_r ?_|refine bq_q ?_|refine zB ?_|refine zX ?_|refine zT ?_|refine zK ?_|refine gq_n ?_|refine gq_r ?_|refine gq_e ?_|refine lq_n ?_|refine lq_r ?_|refine lq_e ?_|refine bq_e (by decide) ?_)|((with_reducible refine zC (b:=?b_) ?hb_ ?_ ?_);case hb_=>rfl)|((conv=>whnf);first|(with_reducible refine hK_ _ _ ?_;try clear hK_ K_)|(with_reducible refine fun (g_:Sl) (o_:Ow)=>?_)|(with_reducible first|exact True.intro|refine And.intro trivial ?_|refine And.intro ?_ ?_)|exact Nat.le_of_ble_eq_true rfl|exact Or.inl rfl|(intro h_;cases h_)|(intro h_;(try simp only [vS1] at h_))|rfl))) <;> (try (conv=>whnf)) <;> (try first|change (_:Int)≤_|change (_:Nat)≤_) <;> (try ((fail_if_success (with_reducible apply Exists.intro));(try dsimp only);(try simp only [vS1]))) <;> (try simp (disch:=omega) only [vS3,vS2] at *)
 refine awp'_loopG (α:=Nat) (fun i ver_=>[(2,vInt i),(3,vInt ((xs.length:Int) - 1 - i))]) (fun i ver_=>[]) (fun i ver_=>[(1000,⟨0,.row t_impl_Point (.b .pt) (revTo (0,0) xs i)⟩)]) (fun i=>2 * i≤xs.length + 1) (fun i=>xs.length - i) [0] [] (0) ?_
 conv=>whnf
 refine ⟨⟨?inv4_,?vals4_,?own4_,?fix4_⟩,?body4_⟩
 case' vals4_=>(repeat' (first|(with_reducible first|exact True.intro|refine And.intro ?_ ?_|refine Head.mk ?_ ?_ ?_ ?_)|((conv=>lhs;whnf);first|(with_reducible first|rfl|exact vInt_s (by omega))|exact rfl)|((conv=>whnf);first|(with_reducible first|exact True.intro|refine And.intro ?_ ?_)))) <;> (try (conv=>lhs;whnf))
 case' own4_=>(repeat' (first|(with_reducible first|exact True.intro|refine And.intro ?_ ?_|refine Head.mk ?_ ?_ ?_ ?_)|((conv=>lhs;whnf);first|(with_reducible first|rfl|exact vInt_s (by omega))|exact rfl)|((conv=>whnf);first|(with_reducible first|exact True.intro|refine And.intro ?_ ?_)))) <;> (try (conv=>lhs;whnf))
 case' fix4_=>(repeat' (first|(with_reducible first|exact True.intro|refine And.intro ?_ ?_|refine Head.mk ?_ ?_ ?_ ?_)|((conv=>lhs;whnf);first|(with_reducible first|rfl|exact vInt_s (by omega))|exact rfl)|((conv=>whnf);first|(with_reducible first|exact True.intro|refine And.intro ?_ ?_)))) <;> (try (conv=>lhs;whnf))
 all_goals (try exact congrArg vInt (by omega))
 ·exact locRow_eq (revTo_zero _ xs).symm
 ·omega
 rintro i g_ o_ v_ hi
 have hl:=revTo_len (0,0) xs i
 (repeat' (first|(with_reducible first|exact True.intro|refine zQ ?_|(refine zG hG_ ?_;intro K_ hK_)|(refine zR ?_;intro K_ hK_)|(refine hK_ _ _ ?_;try clear hK_ K_)|refine sq_n ?_|refine sq_r ?_|refine sq_e ?_|refine bq_n ?_|refine bq_r ?_|refine bq_q ?_|refine zB ?_|refine zX ?_|refine zT ?_|refine zK ?_|refine gq_n ?_|refine gq_r ?_|refine gq_e ?_|refine lq_n ?_|refine lq_r ?_|refine lq_e ?_|refine bq_e (by decide) ?_)|((with_reducible refine zC (b:=?b_) ?hb_ ?_ ?_);case hb_=>rfl)|((conv=>whnf);first|(with_reducible refine hK_ _ _ ?_;try clear hK_ K_)|(with_reducible refine fun (g_:Sl) (o_:Ow)=>?_)|(with_reducible first|exact True.intro|refine And.intro trivial ?_|refine And.intro ?_ ?_)|exact Nat.le_of_ble_eq_true rfl|exact Or.inl rfl|(intro h_;cases h_)|(intro h_;(try simp only [vS1] at h_))|rfl))) <;> (try (conv=>whnf)) <;> (try first|change (_:Int)≤_|change (_:Nat)≤_) <;> (try ((fail_if_success (with_reducible apply Exists.intro));(try dsimp only);(try simp only [vS1]))) <;> (try simp (disch:=omega) only [vS3,vS2] at *)
 all_goals (try (fail_if_success (with_reducible apply Exists.intro));first|with_reducible assumption|omega|exact mdl (by omega)|exact ilo1 (by omega)|exact ilo2 (by omega)|exact ihi1 (by omega) (by omega)|exact ihi2 (by omega) (by omega))
 ·refine ⟨i + 1,by omega,by omega,?_⟩
  (repeat' (first|(with_reducible first|exact True.intro|refine And.intro ?_ ?_|refine Head.mk ?_ ?_ ?_ ?_)|((conv=>lhs;whnf);first|(with_reducible first|rfl|exact vInt_s (by omega))|exact rfl)|((conv=>whnf);first|(with_reducible first|exact True.intro|refine And.intro ?_ ?_)))) <;> (try (conv=>lhs;whnf))
  ·exact congrArg vInt (by omega)
  ·rw [show ((xs.length:Int) - 1 - i).toNat=xs.length - 1 - i by omega]
   exact locRow_eq (revTo_step (0,0) (by omega))
 ·exact congrArg some (revTo_end (0,0) (by omega))
def mirrorRoom (xs:List Pt):List Pt:=if roomOk xs then (xs.map mirP).reverse else []
theorem iMirrorRoom_ok:Good1 Try.prog n_impl_MirrorRoom (roomRoomC mirrorRoom):=by
 refine good_ofG (tys:=tyL) (env:=[(n_impl_RoomOk,roomOkC),(n_impl_mapped,mappedC)]) (envw:=[(n_slices_Reverse_impl_Point,revPtC)]) (envd:=[]) [9,12] [] [] [] [] mixed tys ⟨iRoomOk_ok,mapped_ok,trivial⟩ ⟨revPt_ok,trivial⟩ trivial Try.func48 rfl (by kernel_rfl) (by decide) (by kernel_rfl) ?_
 have hG_:=kpz [(0,[1,2]),(1,[1,2,6]),(2,[2]),(3,[2,3]),(4,[2,3]),(5,[2])] [(0,[2]),(1,[2]),(2,[2]),(3,[2,3,9]),(4,[2,3,9]),(5,[2,9])] [] []
 rintro ⟨(xs:List Pt),⟨⟩⟩ (h1:xs.length≤_)
 (repeat' (first|(with_reducible first|exact True.intro|refine zQ ?_|(refine zG hG_ ?_;intro K_ hK_)|(refine zR ?_;intro K_ hK_)|(refine hK_ _ _ ?_;try clear hK_ K_)|refine sq_n ?_|refine sq_r ?_|refine sq_e ?_|refine bq_n ?_|refine bq_r ?_|refine bq_q ?_|refine zB ?_|refine zX ?_|refine zT ?_|refine zK ?_|refine gq_n ?_|refine gq_r ?_|refine gq_e ?_|refine lq_n ?_|refine lq_r ?_|refine lq_e ?_|refine bq_e (by decide) ?_)|((with_reducible refine zC (b:=?b_) ?hb_ ?_ ?_);case hb_=>rfl)|((conv=>whnf);first|(with_reducible refine hK_ _ _ ?_;try clear hK_ K_)|(with_reducible refine fun (g_:Sl) (o_:Ow)=>?_)|(with_reducible first|exact True.intro|refine And.intro trivial ?_|refine And.intro ?_ ?_)|exact Nat.le_of_ble_eq_true rfl|exact Or.inl rfl|(intro h_;cases h_)|(intro h_;(try simp only [vS1] at h_))|rfl))) <;> (try (conv=>whnf)) <;> (try first|change (_:Int)≤_|change (_:Nat)≤_) <;> (try ((fail_if_success (with_reducible apply Exists.intro));(try dsimp only);(try simp only [vS1]))) <;> (try simp (disch:=omega) only [vS3,vS2] at *)
 all_goals (try (fail_if_success (with_reducible apply Exists.intro));first|with_reducible assumption|omega|exact mdl (by omega)|exact ilo1 (by omega)|exact ilo2 (by omega)|exact ihi1 (by omega) (by omega)|exact ihi2 (by omega) (by omega))
 ·simp_all [mirrorRoom]
 ·exact Or.inr (Or.inl trivial)
 ·rw [mirrorRoom,if_pos (by assumption)];rfl
end Go.Proofs.Ytnepfcnlngpchaa
namespace Go.Proofs.Ytnepfcnlngpchaa
open Go.RowKit
abbrev gI (l:List Int) (k:Nat):Int:=l.getD k 0
def prvN (n i:Nat):Nat:=(i + n - 1) % n
def nxtN (n i:Nat):Nat:=(i + 1) % n
theorem prv_int {n i:Nat} (hi:i < n):Int.tmod ((i:Int) + n - 1) n=(prvN n i:Nat):=by
 unfold prvN
 rw [show ((i:Int) + n - 1)=((i + n - 1:Nat):Int) by omega,← Int.ofNat_tmod]
theorem nxt_int {n i:Nat}:Int.tmod ((i:Int) + 1) n=(nxtN n i:Nat):=by
 unfold nxtN
 rw [tm1]
def cutM (xs:List Pt) (l:List Int) (i:Nat):Bool:=
 ((diagM xs (gI l (prvN l.length i)) (gI l (nxtN l.length i)) || neighZ xs.length (gI l (prvN l.length i)) (gI l (nxtN l.length i))) && decide (0 < turn (pI xs (gI l (prvN l.length i))) (pI xs (gI l i)) (pI xs (gI l (nxtN l.length i))))) &&
 l.all fun x=>decide (x=gI l (prvN l.length i)) || (decide (x=gI l i) || (decide (x=gI l (nxtN l.length i)) || !inTri (pI xs (gI l (prvN l.length i))) (pI xs (gI l i)) (pI xs (gI l (nxtN l.length i))) (pI xs x)))
theorem cutM_iff {xs:List Pt} {l:List Int} {i:Nat}:cutM xs l i=true↔(diagM xs (gI l (prvN l.length i)) (gI l (nxtN l.length i))=true∨neighZ xs.length (gI l (prvN l.length i)) (gI l (nxtN l.length i))=true) ∧
  0 < turn (pI xs (gI l (prvN l.length i))) (pI xs (gI l i)) (pI xs (gI l (nxtN l.length i))) ∧
  ∀ j,j < l.length→gI l j=gI l (prvN l.length i)∨gI l j=gI l i∨gI l j=gI l (nxtN l.length i)∨inTri (pI xs (gI l (prvN l.length i))) (pI xs (gI l i)) (pI xs (gI l (nxtN l.length i))) (pI xs (gI l j))=false:=by
 unfold cutM
 simp only [Bool.and_eq_true,Bool.or_eq_true,decide_eq_true_eq,List.all_eq_true,Bool.not_eq_true']
 constructor
 ·rintro ⟨⟨h1,h2⟩,h3⟩
  refine ⟨h1,h2,fun j hj=>h3 _ ?_⟩
  rw [show gI l j=l[j] from getD_lt _ hj]
  exact List.getElem_mem _
 ·rintro ⟨h1,h2,h3⟩
  refine ⟨⟨h1,h2⟩,fun x hx=>?_⟩
  obtain ⟨j,hj,rfl⟩:=List.getElem_of_mem hx
  have:=h3 j hj
  rwa [show gI l j=l[j] from getD_lt _ hj] at this
def firstCut (xs:List Pt) (l:List Int):Option Nat:=(List.range l.length).find? (cutM xs l)
theorem firstCut_spec {xs:List Pt} {l:List Int} {i:Nat} (h:firstCut xs l=some i):i < l.length∧cutM xs l i=true:=by
 unfold firstCut at h
 rw [List.find?_range_eq_some] at h
 exact ⟨List.mem_range.1 h.2.1,h.1⟩
def triS (a b c:Int):Tri:=(min (min a b) c,a + b + c - min (min a b) c - max (max a b) c,max (max a b) c)
def triAt (l:List Int) (i:Nat):Tri:=triS (gI l (prvN l.length i)) (gI l i) (gI l (nxtN l.length i))
def triRun (xs:List Pt):Nat→List Int→List Tri→List Tri
 | 0,l,out=>out ++ [triS (gI l 0) (gI l 1) (gI l 2)]
 | f + 1,l,out=>match firstCut xs l with
  | none=>[]
  | some i=>triRun xs f (l.eraseIdx i) (out ++ [triAt l i])
def allC (n:Nat):List Int:=(List.range n).map fun k:Nat=>(k:Int)
def trisM (xs:List Pt):List Tri:=if roomOk xs then triRun xs (xs.length - 3) (allC xs.length) [] else []
theorem allC_len (n:Nat):(allC n).length=n:=by simp [allC]
structure Left (n:Nat) (l:List Int):Prop where
 len:3≤l.length
 le:l.length≤n
 inc:l.Pairwise (· < ·)
 ge:∀ x∈l,0≤x
 lt:∀ x∈l,x < n
theorem left_all {n:Nat} (h:3≤n):Left n (allC n):=by
 refine ⟨by rw [allC_len];exact h,by rw [allC_len];exact Nat.le_refl _,?_,?_,?_⟩
 ·unfold allC
  rw [List.pairwise_map]
  exact List.pairwise_lt_range.imp fun h=>by omega
 all_goals (intro x hx;unfold allC at hx;obtain ⟨k,hk,rfl⟩:=List.mem_map.1 hx;have:=List.mem_range.1 hk;omega)
theorem Left.erase {n:Nat} {l:List Int} (h:Left n l) (h4:3 < l.length) {i:Nat} (hi:i < l.length):Left n (l.eraseIdx i):=by
 have hl:=List.length_eraseIdx_of_lt hi
 refine ⟨by omega,by have:=h.le;omega,h.inc.sublist (List.eraseIdx_sublist _ _),fun x hx=>h.ge x ((List.eraseIdx_sublist _ _).mem hx),fun x hx=>h.lt x ((List.eraseIdx_sublist _ _).mem hx)⟩
theorem gI_mem {l:List Int} {k:Nat} (h:k < l.length):gI l k∈l:=by rw [show gI l k=l[k] from getD_lt _ h];exact List.getElem_mem _
theorem Left.at {n:Nat} {l:List Int} (h:Left n l) {k:Nat} (hk:k < l.length):0≤gI l k∧gI l k < n:=⟨h.ge _ (gI_mem hk),h.lt _ (gI_mem hk)⟩
theorem Left.mono {n:Nat} {l:List Int} (h:Left n l) {i j:Nat} (hij:i < j) (hj:j < l.length):gI l i < gI l j:=by
 rw [show gI l i=l[i] from getD_lt _ (by omega),show gI l j=l[j] from getD_lt _ hj]
 exact List.pairwise_iff_getElem.1 h.inc i j (by omega) hj hij
theorem Left.inj {n:Nat} {l:List Int} (h:Left n l) {i j:Nat} (hi:i < l.length) (hj:j < l.length) (e:gI l i=gI l j):i=j:=by
 rcases Nat.lt_trichotomy i j with h1|h1|h1
 ·have:=h.mono h1 hj;omega
 ·exact h1
 ·have:=h.mono h1 hi;omega
theorem prv_lt {n i:Nat} (h:0 < n):prvN n i < n:=Nat.mod_lt _ h
theorem nxt_lt {n i:Nat} (h:0 < n):nxtN n i < n:=Nat.mod_lt _ h
theorem prv_eq {n i:Nat} (hi:i < n):(i=0∧prvN n i=n - 1)∨(0 < i∧prvN n i=i - 1):=by
 unfold prvN
 rcases Nat.eq_zero_or_pos i with h|h
 ·subst h;exact .inl ⟨rfl,by rw [Nat.zero_add,Nat.mod_eq_of_lt (by omega)]⟩
 ·exact .inr ⟨h,by rw [show i + n - 1=(i - 1) + n by omega,Nat.add_mod_right,Nat.mod_eq_of_lt (by omega)]⟩
theorem nxt_eq {n i:Nat} (hi:i < n):(i + 1=n∧nxtN n i=0)∨(i + 1 < n∧nxtN n i=i + 1):=by
 unfold nxtN
 rcases Nat.lt_or_ge (i + 1) n with h|h
 ·exact .inr ⟨h,Nat.mod_eq_of_lt h⟩
 ·have:i + 1=n:=by omega
  exact .inl ⟨this,by rw [this,Nat.mod_self]⟩
structure TriSt (xs:List Pt) (s:List Int × List Tri):Prop where
 left:Left xs.length s.1
 run:triRun xs (s.1.length - 3) s.1 s.2=trisM xs
 len:s.2.length + s.1.length=xs.length
theorem TriSt.step {xs:List Pt} {s:List Int × List Tri} (h:TriSt xs s) (h4:3 < s.1.length) {i:Nat} (hc:firstCut xs s.1=some i):TriSt xs (s.1.eraseIdx i,s.2 ++ [triAt s.1 i]):=by
 have hi:=(firstCut_spec hc).1
 have hl:=List.length_eraseIdx_of_lt hi
 refine ⟨h.left.erase h4 hi,?_,?_⟩
 ·have hr:=h.run
  show triRun xs ((s.1.eraseIdx i).length - 3) _ _=_
  rw [hl,show s.1.length - 1 - 3=s.1.length - 4 by omega]
  rw [show s.1.length - 3=(s.1.length - 4) + 1 by omega] at hr
  unfold triRun at hr
  rw [hc] at hr
  exact hr
 ·have:=h.len
  show (s.2 ++ [triAt s.1 i]).length + (s.1.eraseIdx i).length=_
  rw [List.length_append,hl]
  simp only [List.length_cons,List.length_nil]
  omega
theorem TriSt.none {xs:List Pt} {s:List Int × List Tri} (h:TriSt xs s) (h4:3 < s.1.length) (hc:firstCut xs s.1=none):trisM xs=[]:=by
 have hr:=h.run
 rw [show s.1.length - 3=(s.1.length - 4) + 1 by omega] at hr
 unfold triRun at hr
 rw [hc] at hr
 exact hr.symm
theorem TriSt.last {xs:List Pt} {s:List Int × List Tri} (h:TriSt xs s) (h3:s.1.length≤3):trisM xs=s.2 ++ [triS (gI s.1 0) (gI s.1 1) (gI s.1 2)]:=by
 have hr:=h.run
 rw [show s.1.length - 3=0 by omega] at hr
 exact hr.symm
inductive Cutd:List Int→List Tri→Prop
 | last {l:List Int} (h:l.length=3):Cutd l [triS (gI l 0) (gI l 1) (gI l 2)]
 | step {l:List Int} {ts:List Tri} {i:Nat} (h:3 < l.length) (hi:i < l.length) (hr:Cutd (l.eraseIdx i) ts):Cutd l (triAt l i :: ts)
theorem Cutd.ne {l:List Int} {ts:List Tri} (h:Cutd l ts):ts≠[]:=by cases h <;> simp
theorem prv_ne {n i:Nat} (h3:3≤n) (hi:i < n):prvN n i≠i∧nxtN n i≠i∧prvN n i≠nxtN n i:=by
 rcases prv_eq hi with ⟨h1,h2⟩|⟨h1,h2⟩ <;> rcases nxt_eq hi with ⟨h4,h5⟩|⟨h4,h5⟩ <;> omega
end Go.Proofs.Ytnepfcnlngpchaa
namespace Go.Proofs.Ytnepfcnlngpchaa.Geo
open Go.RowKit
def subP (xs:List Pt) (l:List Int):Poly:=⟨l.length,fun j=>(roomP xs).v (gI l (j % l.length)).toNat,fun j=>by show (roomP xs).v (gI l ((j + l.length) % l.length)).toNat=_;rw [Nat.add_mod_right]⟩
theorem sub_v (xs:List Pt) {l:List Int} {j:Nat} (h:j < l.length):(subP xs l).v j=(roomP xs).v (gI l j).toNat:=by
 show (roomP xs).v (gI l (j % l.length)).toNat=_
 rw [Nat.mod_eq_of_lt h]
theorem gI_all {n k:Nat} (h:k < n):gI (allC n) k=k:=by
 unfold gI allC
 rw [getD_lt _ (by simpa using h)];simp
theorem sub_all {xs:List Pt} (hn:0 < xs.length):subP xs (allC xs.length)=roomP xs:=by
 refine Poly.ext' (allC_len _) fun j=>?_
 show (roomP xs).v (gI (allC xs.length) (j % (allC xs.length).length)).toNat=_
 rw [allC_len,gI_all (Nat.mod_lt _ hn),Int.toNat_natCast]
 exact (roomP xs).per_mod j
structure Sub (xs:List Pt) (l:List Int):Prop where
 left:Left xs.length l
 sim:SimpleP (subP xs l)
 area:0 < (subP xs l).area
 out:∀ {K x},0 < K→Outp (roomP xs) K x→Outp (subP xs l) K x
 inn:∀ {K x},0 < K→Inn (subP xs l) K x→Inn (roomP xs) K x
theorem Sub.all {xs:List Pt} (hr:roomOk xs=true):Sub xs (allC xs.length):=by
 have e:=sub_all (room_pos hr)
 exact ⟨left_all (room_len hr).1,by rw [e];exact room_simple hr,by rw [e];exact (room_area hr).2.1,fun _ h=>by rw [e];exact h,fun _ h=>by rw [e] at h;exact h⟩
theorem Inn.rot {P:Poly} {K:Int} {x:Pt} (h:Inn P K x) (s:Nat):Inn (P.rot s) K x:=by
 obtain ⟨ho,g,hg,e⟩:=h
 refine ⟨fun k hk=>?_,g,hg,by rw [← e];exact wnd_rot g (P.sc K) s x⟩
 have hn:0 < P.n:=by have hk:k < P.n:=hk;omega
 have:=ho ((s + k) % P.n) (Nat.mod_lt _ hn)
 rw [P.per_mod,P.per_add] at this
 exact this
theorem Inn.rot_iff {P:Poly} {K:Int} {x:Pt} (hn:1≤P.n) (s:Nat):Inn (P.rot s) K x↔Inn P K x:=
 ⟨fun h=>by have:=h.rot (s * (P.n - 1));rw [rot_back P s hn] at this;exact this,fun h=>h.rot s⟩
abbrev EarL (xs:List Pt) (l:List Int) (i:Nat):Prop:=EarI (subP xs l) (i + l.length - 1)
theorem ear_pts (xs:List Pt) {l:List Int} (h3:3≤l.length) {i:Nat} (hi:i < l.length) :
  (subP xs l).v (i + l.length - 1)=(roomP xs).v (gI l (prvN l.length i)).toNat∧(subP xs l).v (i + l.length - 1 + 1)=(roomP xs).v (gI l i).toNat∧(subP xs l).v (i + l.length - 1 + 2)=(roomP xs).v (gI l (nxtN l.length i)).toNat:=by
 refine ⟨rfl,?_,?_⟩
 ·show (roomP xs).v (gI l ((i + l.length - 1 + 1) % l.length)).toNat=_
  rw [show i + l.length - 1 + 1=i + l.length by omega,Nat.add_mod_right,Nat.mod_eq_of_lt hi]
 ·show (roomP xs).v (gI l ((i + l.length - 1 + 2) % l.length)).toNat=_
  rw [show i + l.length - 1 + 2=i + 1 + l.length by omega,Nat.add_mod_right];rfl
theorem Sub.some {xs:List Pt} {l:List Int} (h:Sub xs l) (h3:3 < l.length):∃ i,i < l.length∧EarL xs l i:=by
 obtain ⟨s,d,-,-,e,-⟩:=two_ears l.length (subP xs l) rfl h3 h.sim h.area
 refine ⟨(s + 1) % l.length,Nat.mod_lt _ (by omega),?_⟩
 have key:∀ d,(subP xs l).v ((s + 1) % l.length + l.length - 1 + d)=(subP xs l).v (s + d):=fun d=>by
  rw [show (s + 1) % l.length + l.length - 1 + d=(s + 1) % (subP xs l).n + (l.length - 1 + d) by show _=(s + 1) % l.length + _;omega,(subP xs l).per_add,show s + 1 + (l.length - 1 + d)=s + d + l.length by omega]
  exact (subP xs l).per (s + d)
 show EarP _ _ _ _
 have k0:(subP xs l).v ((s + 1) % l.length + l.length - 1)=(subP xs l).v s:=key 0
 rw [k0,key 1,key 2]
 exact e
theorem room_v {xs:List Pt} {k:Int} (h0:0≤k) (h:k < xs.length):(roomP xs).v k.toNat=pI xs k:=v_lt (by omega)
theorem turnI {xs:List Pt} (hr:roomOk xs=true) {a b c:Int} (ha:0≤a∧a < xs.length) (hb:0≤b∧b < xs.length) (hc:0≤c∧c < xs.length):turn (pI xs a) (pI xs b) (pI xs c)=turnZ ((roomP xs).v a.toNat) ((roomP xs).v b.toNat) ((roomP xs).v c.toNat):=by
 rw [room_v ha.1 ha.2,room_v hb.1 hb.2,room_v hc.1 hc.2]
 exact turn_exact (bd_of_ok (corner_ok hr (by omega))) (bd_of_ok (corner_ok hr (by omega))) (bd_of_ok (corner_ok hr (by omega)))
theorem inTri_iff {a b c p:Pt} (ha:Bd a) (hb:Bd b) (hc:Bd c) (hp:Bd p):inTri a b c p=true↔0≤turnZ a b p∧0≤turnZ b c p∧0≤turnZ c a p:=by
 unfold inTri
 rw [turn_exact ha hb hp,turn_exact hb hc hp,turn_exact hc ha hp]
 simp only [Bool.and_eq_true,decide_eq_true_eq]
theorem left_bd {xs:List Pt} (hr:roomOk xs=true) {l:List Int} (hL:Left xs.length l) {k:Nat} (hk:k < l.length):Bd (pI xs (gI l k)):=by
 have:=hL.at hk
 exact bd_of_ok (corner_ok hr (by omega))
theorem Sub.ear_of {xs:List Pt} (hr:roomOk xs=true) {l:List Int} (h:Sub xs l) {i:Nat} (hi:i < l.length) (hc:cutM xs l i=true):EarL xs l i:=by
 have h3:=h.left.len
 obtain ⟨-,ht,hno⟩:=cutM_iff.1 hc
 have hp:prvN l.length i < l.length:=prv_lt (by omega)
 have hn:nxtN l.length i < l.length:=nxt_lt (by omega)
 obtain ⟨e0,e1,e2⟩:=ear_pts xs h3 hi
 show EarP _ _ _ _
 rw [e0,e1,e2]
 rw [turnI hr (h.left.at hp) (h.left.at hi) (h.left.at hn)] at ht
 refine ⟨ht,fun j n0 n1 n2 hb=>?_⟩
 have hj:j % l.length < l.length:=Nat.mod_lt _ (by omega)
 have ej:(subP xs l).v j=(roomP xs).v (gI l (j % l.length)).toNat:=rfl
 rw [ej] at n0 n1 n2 hb
 generalize j % l.length=r at hj n0 n1 n2 hb
 rcases hno r hj with g|g|g|g
 ·exact n0 (by rw [g])
 ·exact n1 (by rw [g])
 ·exact n2 (by rw [g])
 ·have rv:∀ {k},k < l.length→(roomP xs).v (gI l k).toNat=pI xs (gI l k):=fun hk=>room_v (h.left.at hk).1 (h.left.at hk).2
  rw [rv hp,rv hi,rv hn,rv hj] at hb
  have:=(inTri_iff (left_bd hr h.left hp) (left_bd hr h.left hi) (left_bd hr h.left hn) (left_bd hr h.left hj)).2 hb
  rw [g] at this
  cases this
theorem Sub.cut2 {xs:List Pt} {l:List Int} (h:Sub xs l) (h3:3 < l.length) {i:Nat} (he:EarL xs l i):Cut ((subP xs l).rot (i + l.length - 1)) 2:=
 ear_cut (h.sim.rot _) (by rw [area_rot];exact h.area) h3 ((EarI.rot (show 0 < l.length by omega)).2 he)
theorem Sub.chord_inn {xs:List Pt} {l:List Int} (h:Sub xs l) (h3:3 < l.length) {i:Nat} (hi:i < l.length) (he:EarL xs l i) {s t K:Int} (hs:0 < s) (ht:0 < t) (e:s + t=K) :
  Inn (roomP xs) K (padd (smul s ((roomP xs).v (gI l (prvN l.length i)).toNat)) (smul t ((roomP xs).v (gI l (nxtN l.length i)).toNat))):=by
 have c:=h.cut2 h3 he
 have:=c.inn (h.sim.rot _) hs ht e
 rw [Inn.rot_iff (show 1≤l.length by omega)] at this
 have:=h.inn (by omega) this
 obtain ⟨e0,e1,e2⟩:=ear_pts xs (by omega) hi
 rw [← e0,← e2]
 exact this
theorem mid_inn {xs:List Pt} (hr:roomOk xs=true) {p q:Pt} (hp:-40≤p.1∧p.1≤40∧-40≤p.2∧p.2≤40) (hq:-40≤q.1∧q.1≤40∧-40≤q.2∧q.2≤40):midM xs p q=2↔Inn (roomP xs) 2 (padd p q):=by
 have h:=pt_of_room hr
 have hn:=room_pos hr
 have hmo:=mid_out hr hp hq
 have e:sumP p q=padd p q:=by
  unfold sumP padd
  rw [W_in (by omega) (by omega),W_in (by omega) (by omega)]
 have hs:Bd (padd p q):=by
  unfold Bd padd
  simp only
  omega
 have hy:(xs.map twP).length=xs.length:=by simp
 have hv:∀ k,pCy (xs.map twP) k=smul 2 (pCy xs k):=fun k=>by
  have hk:k % xs.length < xs.length:=Nat.mod_lt _ hn
  show (xs.map twP).getD (k % (xs.map twP).length) (0,0)=smul 2 (xs.getD (k % xs.length) (0,0))
  rw [List.length_map,getD_lt _ (by rw [List.length_map];exact hk),getD_lt _ hk,List.getElem_map]
  exact twP_eq (h _ (List.getElem_mem hk))
 have hb:∀ q∈xs.map twP,Bd q:=fun c' hc'=>by
  obtain ⟨c,hc,rfl⟩:=List.mem_map.1 hc'
  have:=h c hc
  rw [twP_eq this]
  unfold Bd smul
  simp only
  omega
 have hP:=room_simple hr
 have ne:∀ k,k < xs.length→smul 2 ((roomP xs).v k)≠smul 2 ((roomP xs).v (k + 1)):=fun k hk e=>by
  apply hP.ne k
  have e1:=congrArg Prod.fst e
  have e2:=congrArg Prod.snd e
  exact Prod.ext (Int.eq_of_mul_eq_mul_left (by omega) e1) (Int.eq_of_mul_eq_mul_left (by omega) e2)
 have wa:∀ k,k < xs.length→pAt (xs.map twP) k=smul 2 ((roomP xs).v k)∧pCy (xs.map twP) (k + 1)=smul 2 ((roomP xs).v (k + 1)):=fun k hk=>⟨(pCy_lt (by omega)).symm.trans (hv k),hv (k + 1)⟩
 have onoff:∀ k,k < xs.length→(onAt (xs.map twP) (padd p q) k=false↔Off (padd p q) (smul 2 ((roomP xs).v k)) (smul 2 ((roomP xs).v (k + 1)))):=fun k hk=>by
  have b1:Bd (pAt (xs.map twP) k):=pAt_bd hb (by omega)
  have b2:Bd (pCy (xs.map twP) (k + 1)):=pCy_bd hb (by omega)
  show onS (padd p q) (pAt (xs.map twP) k) (pCy (xs.map twP) (k + 1))=false↔_
  constructor
  ·intro h0
   rcases off_or_on (padd p q) (ne k hk) with g|g
   ·exact g
   ·rw [← (wa k hk).1,← (wa k hk).2] at g
    rw [g.onS b1 b2 hs] at h0
    exact absurd h0 (by decide)
  ·intro g
   cases h0:onS (padd p q) (pAt (xs.map twP) k) (pCy (xs.map twP) (k + 1)) with
   | false=>rfl
   | true=>
    exfalso
    have:=onS_OnM b1 b2 hs h0
    rw [(wa k hk).1,(wa k hk).2] at this
    exact this.not_off g
 have two:midM xs p q=2↔midM xs p q≠0∧onAny (xs.map twP) (padd p q)=false:=by
  unfold midM
  rw [e]
  unfold placeM
  split
  ·rename_i g;rw [g];simp
  ·rename_i g;split <;> simp [Bool.eq_false_iff.2 g]
 rw [two,ne_eq,hmo]
 have hoff:onAny (xs.map twP) (padd p q)=false↔OffP (roomP xs) 2 (padd p q):=by
  constructor
  ·intro g k hk
   have hk:k < xs.length:=hk
   exact (onoff k hk).1 (onAny_off g (by omega))
  ·intro g
   exact onAny_no fun k hk=>(onoff k (by omega)).2 (g k (by show k < xs.length;omega))
 rw [hoff]
 constructor
 ·rintro ⟨g1,g2⟩
  exact (out_or_in hP (room_area hr).2.1 (by decide) g2).resolve_left g1
 ·intro g
  exact ⟨g.not_out,g.1⟩
theorem diag_of_inn {xs:List Pt} (hr:roomOk xs=true) {i k:Nat} (hi:i < xs.length) (hk:k < xs.length) (hik:i≠k) (hin:∀ s t K:Int,0 < s→0 < t→s + t=K→Inn (roomP xs) K (padd (smul s ((roomP xs).v i)) (smul t ((roomP xs).v k)))):diagC xs i k=true:=by
 have vi:(roomP xs).v i=pAt xs i:=v_lt hi
 have vk:(roomP xs).v k=pAt xs k:=v_lt hk
 rw [diagC_iff]
 refine ⟨?_,?_,?_⟩
 ·rw [seesS_noout hr (corner_ok hr hi) (corner_ok hr hk) (corner_in hr hi) (corner_in hr hk)]
  intro s t hs ht hst o
  rcases (show s=0∨t=0∨(0 < s∧0 < t) by omega) with g|g|⟨g1,g2⟩
  ·subst g
   have e:padd (smul 0 (pAt xs i)) (smul t (pAt xs k))=smul t ((roomP xs).v k):=by rw [vk];unfold padd smul;simp
   rw [e] at o
   refine corner_not_out (roomP xs) k (by show 0 < xs.length;omega) (Outp.desc (L:=t) (by omega) ?_)
   rw [Int.mul_one];rwa [Int.zero_add] at o
  ·subst g
   have e:padd (smul s (pAt xs i)) (smul 0 (pAt xs k))=smul s ((roomP xs).v i):=by rw [vi];unfold padd smul;simp
   rw [e] at o
   refine corner_not_out (roomP xs) i (by show 0 < xs.length;omega) (Outp.desc (L:=s) (by omega) ?_)
   rw [Int.mul_one];rwa [Int.add_zero] at o
  ·have:=hin s t (s + t) g1 g2 rfl
   rw [vi,vk] at this
   exact this.not_out o
 ·rw [freeTo_iff]
  intro j hj
  by_cases e1:j=i
  ·exact .inl e1
  by_cases e2:j=k
  ·exact .inr (.inl e2)
  refine .inr (.inr ?_)
  cases h0:onS (pAt xs j) (pAt xs i) (pAt xs k) with
  | false=>rfl
  | true=>
   exfalso
   obtain ⟨s,t,hs,ht,h0,x1,x2⟩:=(onS_OnM (bd_of_ok (corner_ok hr hi)) (bd_of_ok (corner_ok hr hk)) (bd_of_ok (corner_ok hr hj)) h0).coords
   have hne:∀ {a},a < xs.length→j≠a→pAt xs j≠pAt xs a:=fun ha hja e=>hja (room_inj hr hj ha e)
   rcases (show s=0∨t=0∨(0 < s∧0 < t) by omega) with g|g|⟨g1,g2⟩
   ·subst g
    refine hne hk e2 (Prod.ext (Int.eq_of_mul_eq_mul_left (show t≠0 by omega) (by simpa using x1)) (Int.eq_of_mul_eq_mul_left (show t≠0 by omega) (by simpa using x2)))
   ·subst g
    refine hne hi e1 (Prod.ext (Int.eq_of_mul_eq_mul_left (show s≠0 by omega) (by simpa using x1)) (Int.eq_of_mul_eq_mul_left (show s≠0 by omega) (by simpa using x2)))
   ·have:=hin s t (s + t) g1 g2 rfl
    rw [vi,vk,show padd (smul s (pAt xs i)) (smul t (pAt xs k))=smul (s + t) ((roomP xs).v j) by rw [v_lt hj];exact Prod.ext x1.symm x2.symm] at this
    have:=this.1 j hj
    exact (Off.ne this).1 rfl
 ·rw [mid_inn hr (ptOk_iff.1 (corner_ok hr hi)) (ptOk_iff.1 (corner_ok hr hk))]
  have:=hin 1 1 2 (by decide) (by decide) rfl
  rwa [vi,vk,smul_one,smul_one] at this
theorem Sub.cut_of {xs:List Pt} (hr:roomOk xs=true) {l:List Int} (h:Sub xs l) (h3:3 < l.length) {i:Nat} (hi:i < l.length) (he:EarL xs l i):cutM xs l i=true:=by
 have hp:prvN l.length i < l.length:=prv_lt (by omega)
 have hn:nxtN l.length i < l.length:=nxt_lt (by omega)
 obtain ⟨q1,q2,q3⟩:=prv_ne (by omega) hi
 obtain ⟨e0,e1,e2⟩:=ear_pts xs (by omega) hi
 have ap:=h.left.at hp
 have an:=h.left.at hn
 have hne:gI l (prvN l.length i)≠gI l (nxtN l.length i):=fun e=>q3 (h.left.inj hp hn e)
 have heP:EarP (subP xs l) _ _ _:=he
 rw [e0,e1,e2] at heP
 rw [cutM_iff]
 refine ⟨?_,by rw [turnI hr ap (h.left.at hi) an];exact heP.1,fun j hj=>?_⟩
 ·cases hnb:neighZ xs.length (gI l (prvN l.length i)) (gI l (nxtN l.length i)) with
  | true=>exact .inr rfl
  | false=>
   left
   rw [diagM_iff]
   refine ⟨btw_iff.2 (by omega),btw_iff.2 (by omega),hne,hnb,diag_of_inn hr (by omega) (by omega) (by omega) fun s t K hs ht e=>h.chord_inn h3 hi he hs ht e⟩
 ·by_cases g0:gI l j=gI l (prvN l.length i)
  ·exact .inl g0
  by_cases g1:gI l j=gI l i
  ·exact .inr (.inl g1)
  by_cases g2:gI l j=gI l (nxtN l.length i)
  ·exact .inr (.inr (.inl g2))
  refine .inr (.inr (.inr ?_))
  have rv:∀ {k},k < l.length→(roomP xs).v (gI l k).toNat=pI xs (gI l k):=fun hk=>room_v (h.left.at hk).1 (h.left.at hk).2
  have dif:∀ {k},k < l.length→gI l j≠gI l k→(subP xs l).v j≠(roomP xs).v (gI l k).toNat:=fun {k} hk hjk e=>by
   rw [sub_v xs hj,rv hj,rv hk] at e
   have a1:=h.left.at hj
   have a2:=h.left.at hk
   have:=room_inj hr (by omega) (by omega) e
   omega
  have:=heP.2 j (dif hp g0) (dif hi g1) (dif hn g2)
  rw [sub_v xs hj,rv hp,rv hi,rv hn,rv hj] at this
  exact Bool.eq_false_iff.2 fun hb=>this ((inTri_iff (left_bd hr h.left hp) (left_bd hr h.left hi) (left_bd hr h.left hn) (left_bd hr h.left hj)).1 hb)
theorem Sub.first {xs:List Pt} (hr:roomOk xs=true) {l:List Int} (h:Sub xs l) (h3:3 < l.length):∃ i,firstCut xs l=Option.some i∧i < l.length∧EarL xs l i:=by
 obtain ⟨i,hi,he⟩:=h.some h3
 cases hf:firstCut xs l with
 | some j=>
  have:=firstCut_spec hf
  exact ⟨j,rfl,this.1,h.ear_of hr this.1 this.2⟩
 | none=>
  exfalso
  unfold firstCut at hf
  rw [List.find?_eq_none] at hf
  exact hf i (List.mem_range.2 hi) (h.cut_of hr h3 hi he)
theorem NoOut.swap {P:Poly} {a b:Pt} (h:NoOut P a b):NoOut P b a:=fun s t hs ht hst o=>by
 refine h t s ht hs (by omega) ?_
 rw [show padd (smul t a) (smul s b)=padd (smul s b) (smul t a) by unfold padd;exact Prod.ext (Int.add_comm _ _) (Int.add_comm _ _),Int.add_comm]
 exact o
theorem cut_of_diag {xs:List Pt} (hr:roomOk xs=true) {i k m:Nat} (hi:i < xs.length) (hk:k < xs.length) (hm:(i + m) % xs.length=k) (m2:2≤m) (mn:m + 2≤xs.length) (hd:diagC xs i k=true):Cut ((roomP xs).rot i) m:=by
 have hP:=room_simple hr
 have hR:=hP.rot i
 obtain ⟨hs,hf,hmid⟩:=diagC_iff.1 hd
 have hf:=freeTo_iff.1 hf
 have hno:=(seesS_noout hr (corner_ok hr hi) (corner_ok hr hk) (corner_in hr hi) (corner_in hr hk)).1 hs
 have v:∀ j,((roomP xs).rot i).v j=pAt xs ((i + j) % xs.length):=fun j=>by
  show (roomP xs).v (i + j)=_
  rw [← v_lt (Nat.mod_lt _ (room_pos hr))];exact ((roomP xs).per_mod (i + j)).symm
 have v0:((roomP xs).rot i).v 0=pAt xs i:=by rw [v 0,Nat.add_zero,Nat.mod_eq_of_lt hi]
 have vm:((roomP xs).rot i).v m=pAt xs k:=by rw [v m,hm]
 have idx:∀ {a b:Nat},a < xs.length→b < xs.length→(i + a) % xs.length=(i + b) % xs.length→a=b:=fun {a b} ha hb e=>by
  rcases Nat.lt_or_ge (i + a) xs.length with g1|g1 <;> rcases Nat.lt_or_ge (i + b) xs.length with g2|g2
  ·rw [Nat.mod_eq_of_lt g1,Nat.mod_eq_of_lt g2] at e;omega
  ·rw [Nat.mod_eq_of_lt g1,Nat.mod_eq_sub_mod g2,Nat.mod_eq_of_lt (by omega)] at e;omega
  ·rw [Nat.mod_eq_sub_mod g1,Nat.mod_eq_of_lt (show i + a - xs.length < xs.length by omega),Nat.mod_eq_of_lt g2] at e;omega
  ·rw [Nat.mod_eq_sub_mod g1,Nat.mod_eq_of_lt (show i + a - xs.length < xs.length by omega),Nat.mod_eq_sub_mod g2,Nat.mod_eq_of_lt (show i + b - xs.length < xs.length by omega)] at e;omega
 have bd:∀ j,Bd (pAt xs ((i + j) % xs.length)):=fun j=>bd_of_ok (corner_ok hr (Nat.mod_lt _ (by omega)))
 have hnR:((roomP xs).rot i).n=xs.length:=rfl
 have h0m:((roomP xs).rot i).v 0≠((roomP xs).rot i).v m:=hR.inj (by omega) (by omega) (by omega)
 have noOn:∀ j,0 < j→j < xs.length→j≠m→¬ OnM (((roomP xs).rot i).v j) (((roomP xs).rot i).v 0) (((roomP xs).rot i).v m):=fun j h1 h2 h3 ho=>by
  rw [v j,v0,vm] at ho
  have:=ho.onS (bd_of_ok (corner_ok hr hi)) (bd_of_ok (corner_ok hr hk)) (bd j)
  have hlt:(i + j) % xs.length < xs.length:=Nat.mod_lt _ (by omega)
  rcases hf _ hlt with e|e|e
  ·have:=idx (a:=j) (b:=0) h2 (by omega) (by rw [Nat.add_zero,Nat.mod_eq_of_lt hi];exact e)
   omega
  ·have:=idx (a:=j) (b:=m) h2 (by omega) (by rw [hm];exact e)
   omega
  ·rw [this] at e;cases e
 have c:Chord ((roomP xs).rot i) m:=by
  refine Chord.mk' hR m2 mn (fun j h1 h2 h3=>(off_or_on _ h0m).resolve_right (noOn j h1 h2 h3)) (fun j h1 h2 h3 h4=>?_)
  have h2:j + 1 < xs.length:=h2
  have hjj:((roomP xs).rot i).v j≠((roomP xs).rot i).v (j + 1):=hR.ne j
  rcases part_or_on h0m hjj with g|g|g|g|g|⟨g1,g2⟩
  ·exact g.symm
  ·exact absurd g (noOn j h1 (by omega) h3)
  ·exact absurd g (noOn (j + 1) (by omega) h2 h4)
  ·exact absurd (hR.offI (i:=j) (k:=0) (by omega) (by omega) (by omega) (by omega) (by omega)) g.not_off
  ·exact absurd (hR.offI (i:=j) (k:=m) (by omega) (by omega) (by omega) (by omega) (by omega)) g.not_off
  ·exfalso
   have hnoR:NoOut ((roomP xs).rot i) (((roomP xs).rot i).v 0) (((roomP xs).rot i).v m):=by
    rw [NoOut.rot_iff (show 1≤xs.length by omega),v0,vm];exact hno
   exact no_cross hR (fun j=>room_turns hr (i + j)) (by rw [area_rot];exact (room_area hr).2.1) hnoR (k:=j) g2 g1
 refine cut_of hR c (s:=1) (t:=1) (K:=2) (by decide) (by decide) rfl ?_
 rw [Inn.rot_iff (show 1≤xs.length by omega),v0,vm,smul_one,smul_one]
 exact (mid_inn hr (ptOk_iff.1 (corner_ok hr hi)) (ptOk_iff.1 (corner_ok hr hk))).1 hmid
theorem ear_nat {xs:List Pt} (hr:roomOk xs=true) {k:Nat} (hk:k < xs.length):earM xs k=true↔xs.length=3∨diagM xs (prvN xs.length k:Nat) (nxtN xs.length k:Nat)=true:=by
 unfold earM
 rw [hr,prv_int hk,nxt_int,btw_iff.2 (show (0:Int)≤k∧(k:Int)≤xs.length - 1 by omega)]
 simp only [Bool.true_and,Bool.or_eq_true,decide_eq_true_eq]
 exact or_congr ⟨fun h=>by omega,fun h=>by omega⟩ Iff.rfl
theorem prv_nxt_far {n k:Nat} (h4:4≤n) (hk:k < n):(prvN n k + 1) % n≠nxtN n k∧(nxtN n k + 1) % n≠prvN n k∧(prvN n k + 2) % n=nxtN n k:=by
 rcases prv_eq hk with ⟨h1,h2⟩|⟨h1,h2⟩ <;> rcases nxt_eq hk with ⟨h3,h5⟩|⟨h3,h5⟩ <;> rw [h2,h5]
 ·omega
 ·subst h1
  rw [show n - 1 + 1=n by omega,Nat.mod_self,Nat.mod_eq_of_lt (show 0 + 1 + 1 < n by omega),show n - 1 + 2=1 + n by omega,Nat.add_mod_right,Nat.mod_eq_of_lt (show 1 < n by omega)]
  omega
 ·rw [show k - 1 + 1=k by omega,Nat.mod_eq_of_lt hk,Nat.mod_eq_of_lt (show 0 + 1 < n by omega),show k - 1 + 2=n by omega,Nat.mod_self]
  omega
 ·rw [show k - 1 + 1=k by omega,Nat.mod_eq_of_lt hk,show k - 1 + 2=k + 1 by omega,Nat.mod_eq_of_lt h3]
  refine ⟨by omega,?_,rfl⟩
  rcases Nat.lt_or_ge (k + 1 + 1) n with g|g
  ·rw [Nat.mod_eq_of_lt g];omega
  ·rw [show k + 1 + 1=n by omega,Nat.mod_self];omega
theorem earM_iff {xs:List Pt} (hr:roomOk xs=true) {k:Nat} (hk:k < xs.length):earM xs k=true↔xs.length=3∨EarI (roomP xs) (k + xs.length - 1):=by
 have hl:=room_len hr
 have S:=Sub.all hr
 have hla:(allC xs.length).length=xs.length:=allC_len _
 have hsub:=sub_all (room_pos hr)
 rw [ear_nat hr hk]
 rcases (show xs.length=3∨4≤xs.length by omega) with h3|h4
 ·exact ⟨fun _=>.inl h3,fun _=>.inl h3⟩
 have hp:prvN xs.length k < xs.length:=prv_lt (by omega)
 have hn:nxtN xs.length k < xs.length:=nxt_lt (by omega)
 obtain ⟨f1,f2,f3⟩:=prv_nxt_far h4 hk
 refine or_congr Iff.rfl ⟨fun hd=>?_,fun he=>?_⟩
 ·have c:=cut_of_diag hr hp hn f3 (Nat.le_refl 2) (by omega) ((diagN_iff hp hn).1 hd).2.2.2
  have hR:=(room_simple hr).rot (prvN xs.length k)
  have hA:=c.simA hR
  have v:∀ j,j≤2→(((roomP xs).rot (prvN xs.length k)).arc 2).v j=(roomP xs).v (k + xs.length - 1 + j):=fun j hj=>by
   rw [arc_v _ hj]
   show (roomP xs).v (prvN xs.length k + j)=_
   exact (roomP xs).per_add (k + xs.length - 1) j
  have ht:=c.a
  rw [tri_area' (show (((roomP xs).rot (prvN xs.length k)).arc 2).n=3 from rfl)] at ht
  have v0:=v 0 (by omega)
  have v1:=v 1 (by omega)
  have v2:=v 2 (by omega)
  refine ⟨by rw [v0,v1,v2] at ht;exact ht,fun j n0 n1 n2 hb=>?_⟩
  obtain ⟨i,hi,ei⟩:∃ i,i < xs.length∧((roomP xs).rot (prvN xs.length k)).v i=(roomP xs).v j:=by
   have hj:j % xs.length < xs.length:=Nat.mod_lt _ (by omega)
   rcases (show prvN xs.length k≤j % xs.length∨j % xs.length < prvN xs.length k by omega) with g|g
   ·refine ⟨j % xs.length - prvN xs.length k,by omega,?_⟩
    show (roomP xs).v (prvN xs.length k + (j % xs.length - prvN xs.length k))=_
    rw [show prvN xs.length k + (j % xs.length - prvN xs.length k)=j % xs.length by omega]
    exact (roomP xs).per_mod j
   ·refine ⟨j % xs.length + xs.length - prvN xs.length k,by omega,?_⟩
    show (roomP xs).v (prvN xs.length k + (j % xs.length + xs.length - prvN xs.length k))=_
    rw [show prvN xs.length k + (j % xs.length + xs.length - prvN xs.length k)=j % xs.length + xs.length by omega]
    exact ((roomP xs).per _).trans ((roomP xs).per_mod j)
  have w:∀ d,((roomP xs).rot (prvN xs.length k)).v d=(roomP xs).v (k + xs.length - 1 + d):=fun d=>(roomP xs).per_add (k + xs.length - 1) d
  rcases (show i=0∨i=1∨i=2∨2 < i by omega) with q|q|q|q
  ·subst q;exact n0 (by rw [← ei,w];rfl)
  ·subst q;exact n1 (by rw [← ei,w])
  ·subst q;exact n2 (by rw [← ei,w])
  ·have ho:=c.corner hR q hi
   rw [ei] at ho
   refine tri_closed hA rfl ht ?_ ?_ ?_ ho
   ·rw [v0,v1];exact hb.1
   ·rw [v1,v2];exact hb.2.1
   ·rw [v2,v0];exact hb.2.2
 ·have hE:EarL xs (allC xs.length) k:=by
   show EarI (subP xs (allC xs.length)) (k + (allC xs.length).length - 1)
   rw [hsub,hla];exact he
  have hc:=S.cut_of hr (by omega) (i:=k) (by omega) hE
  obtain ⟨hd,-⟩:=cutM_iff.1 hc
  rw [hla,gI_all hp,gI_all hn] at hd
  rcases hd with hd|hd
  ·exact hd
  ·rw [neigh_nat.2 ⟨f1,f2⟩] at hd;cases hd
theorem turn_mirX (a b c:Pt):turnZ (-a.1,a.2) (-b.1,b.2) (-c.1,c.2)=turnZ b a c:=by unfold turnZ;grind
theorem earP_mir {P Q:Poly} (f:Nat→Nat) (g:Nat→Nat) (hf:∀ j,Q.v j=(-(P.v (f j)).1,(P.v (f j)).2)) (hg:∀ j,P.v j=P.v (f (g j))) {a b c:Pt} (h:EarP P a b c):EarP Q (-c.1,c.2) (-b.1,b.2) (-a.1,a.2):=by
 have inj:∀ {p q:Pt},p=q→((-p.1,p.2):Pt)=(-q.1,q.2):=fun e=>by rw [e]
 refine ⟨by rw [turn_mirX,show turnZ b c a=turnZ a b c from turn_cyc a b c];exact h.1,fun j n0 n1 n2 hb=>?_⟩
 rw [hf j] at n0 n1 n2 hb
 rw [turn_mirX,turn_mirX,turn_mirX] at hb
 exact h.2 (f j) (fun e=>n2 (inj e)) (fun e=>n1 (inj e)) (fun e=>n0 (inj e)) ⟨hb.2.1,hb.1,hb.2.2⟩
def Mv.scl (g:Mv) (K:Int):Mv:=⟨g.a,g.b,K * g.e,K * g.f,g.one⟩
theorem app_scl (g:Mv) (K:Int) (p:Pt):smul K (g.app p)=(g.scl K).app (smul K p):=by
 unfold smul Mv.app Mv.scl
 exact Prod.ext (by show K * (g.a * p.1 - g.b * p.2 + g.e)=_;grind) (by show K * (g.b * p.1 + g.a * p.2 + g.f)=_;grind)
theorem mv_sc (P:Poly) (g:Mv) (K:Int):(P.mv g).sc K=(P.sc K).mv (g.scl K):=Poly.ext' rfl fun j=>app_scl g K (P.v j)
theorem wnd_mv (h:Aff) (P:Poly) (g:Mv) (x:Pt):wnd (h.mv g) (P.mv g).way (g.app x)=wnd h P.way x:=by
 unfold wnd
 refine sumN_congr fun k hk=>?_
 show crN (h.mv g) (g.app x) (g.app (P.v k)) (g.app (P.v (k + 1)))=crN h x (P.v k) (P.v (k + 1))
 unfold crN
 rw [ev_mv,ev_mv,ev_mv,turn_mv]
theorem nc_mv {h:Aff} (hn:NC h) (g:Mv):NC (h.mv g):=by
 unfold NC Aff.mv at *
 simp only
 have o:=g.one
 by_cases c1:h.u * g.a - h.v * g.b=0
 ·by_cases c2:h.u * g.b + h.v * g.a=0
  ·exfalso
   have e1:h.u * (g.a * g.a + g.b * g.b)=(h.u * g.a - h.v * g.b) * g.a + (h.u * g.b + h.v * g.a) * g.b:=by grind
   have e2:h.v * (g.a * g.a + g.b * g.b)=(h.u * g.b + h.v * g.a) * g.a - (h.u * g.a - h.v * g.b) * g.b:=by grind
   rw [c1,c2,o] at e1 e2
   simp at e1 e2
   rcases hn with q|q
   ·exact q e1
   ·exact q e2
  ·exact .inr c2
 ·exact .inl c1
theorem Outp.mv {P:Poly} {K:Int} {x:Pt} (h:Outp P K x) (g:Mv):Outp (P.mv g) K ((g.scl K).app x):=by
 obtain ⟨ho,f,hf,e⟩:=h
 refine ⟨fun k hk=>?_,f.mv (g.scl K),nc_mv hf _,?_⟩
 ·show Off _ (smul K (g.app (P.v k))) (smul K (g.app (P.v (k + 1))))
  rw [app_scl,app_scl]
  exact (ho k hk).mv _
 ·rw [mv_sc,wnd_mv];exact e
def Mv.inv (g:Mv):Mv:=⟨g.a,-g.b,-(g.a * g.e + g.b * g.f),g.b * g.e - g.a * g.f,by have:=g.one;grind⟩
theorem inv_app (g:Mv) (p:Pt):g.inv.app (g.app p)=p:=by
 have o:=g.one
 unfold Mv.inv Mv.app
 refine Prod.ext ?_ ?_
 ·show g.a * (g.a * p.1 - g.b * p.2 + g.e) - -g.b * (g.b * p.1 + g.a * p.2 + g.f) + -(g.a * g.e + g.b * g.f)=p.1
  have:g.a * (g.a * p.1 - g.b * p.2 + g.e) - -g.b * (g.b * p.1 + g.a * p.2 + g.f) + -(g.a * g.e + g.b * g.f)=(g.a * g.a + g.b * g.b) * p.1:=by grind
  rw [this,o,Int.one_mul]
 ·show -g.b * (g.a * p.1 - g.b * p.2 + g.e) + g.a * (g.b * p.1 + g.a * p.2 + g.f) + (g.b * g.e - g.a * g.f)=p.2
  have:-g.b * (g.a * p.1 - g.b * p.2 + g.e) + g.a * (g.b * p.1 + g.a * p.2 + g.f) + (g.b * g.e - g.a * g.f)=(g.a * g.a + g.b * g.b) * p.2:=by grind
  rw [this,o,Int.one_mul]
theorem inv_mv (P:Poly) (g:Mv):(P.mv g).mv g.inv=P:=Poly.ext' rfl fun j=>inv_app g (P.v j)
theorem mean_mv (g:Mv) (s t:Int) (a b:Pt):padd (smul s (g.app a)) (smul t (g.app b))=(g.scl (s + t)).app (padd (smul s a) (smul t b)):=by
 unfold padd smul Mv.app Mv.scl
 exact Prod.ext (by simp only;grind) (by simp only;grind)
theorem NoOut.mv' {P:Poly} {a b:Pt} {g:Mv} (h:NoOut (P.mv g) (g.app a) (g.app b)):NoOut P a b:=fun s t hs ht hst o=>by
 refine h s t hs ht hst ?_
 rw [mean_mv]
 exact o.mv g
theorem NoOut.mv_iff {P:Poly} {a b:Pt} (g:Mv):NoOut (P.mv g) (g.app a) (g.app b)↔NoOut P a b:=by
 refine ⟨NoOut.mv',fun h=>NoOut.mv' (g:=g.inv) ?_⟩
 rw [inv_mv,inv_app,inv_app];exact h
theorem out1_mv {P:Poly} {x:Pt} (g:Mv):Outp (P.mv g) 1 (g.app x)↔Outp P 1 x:=by
 have e:∀ (g:Mv) (x:Pt),(g.scl 1).app x=g.app x:=fun g x=>by unfold Mv.scl Mv.app;simp
 refine ⟨fun h=>?_,fun h=>by have:=h.mv g;rwa [e] at this⟩
 have:=h.mv g.inv
 rwa [inv_mv,e,inv_app] at this
structure Moved (xs ys:List Pt) (g:Mv):Prop where
 rx:roomOk xs=true
 ry:roomOk ys=true
 len:ys.length=xs.length
 v:∀ k,k < xs.length→pAt ys k=g.app (pAt xs k)
theorem Moved.poly {xs ys:List Pt} {g:Mv} (h:Moved xs ys g):roomP ys=(roomP xs).mv g:=by
 refine Poly.ext' h.len fun j=>?_
 show ys.getD (j % ys.length) (0,0)=g.app (xs.getD (j % xs.length) (0,0))
 rw [h.len]
 exact h.v _ (Nat.mod_lt _ (room_pos h.rx))
theorem Moved.place {xs ys:List Pt} {g:Mv} (h:Moved xs ys g) {p:Pt} (hp:ptOk p=true) (hq:ptOk (g.app p)=true):placeM ys (g.app p)=0↔placeM xs p=0:=by
 rw [out_iff h.ry (bd_of_ok hq),out_iff h.rx (bd_of_ok hp),h.poly,out1_mv]
theorem Moved.sees {xs ys:List Pt} {g:Mv} (h:Moved xs ys g) {p q:Pt} (hp:ptOk p=true) (hp':ptOk (g.app p)=true) (hq:ptOk q=true) (hq':ptOk (g.app q)=true) (ip:placeM xs p≠0) (iq:placeM xs q≠0) :
  seesS ys (g.app p) (g.app q)=seesS xs p q:=by
 have ip':placeM ys (g.app p)≠0:=fun e=>ip ((h.place hp hp').1 e)
 have iq':placeM ys (g.app q)≠0:=fun e=>iq ((h.place hq hq').1 e)
 rw [Bool.eq_iff_iff,seesS_noout h.ry hp' hq' ip' iq',seesS_noout h.rx hp hq ip iq,h.poly,NoOut.mv_iff]
def quarter:Mv:=⟨0,1,0,0,by decide⟩
theorem quarter_app (p:Pt):quarter.app p=(-p.2,p.1):=by unfold quarter Mv.app;simp
theorem quarter_ok {p:Pt}:ptOk (quarter.app p)=true↔ptOk p=true:=by
 rw [quarter_app,ptOk_iff,ptOk_iff]
 simp only
 omega
theorem Moved.floor {xs ys:List Pt} (h:Moved xs ys quarter) {p:Pt}:quarter.app p∈floorPts ys↔p∈floorPts xs:=by
 rw [mem_floor,mem_floor,quarter_ok]
 constructor
 ·rintro ⟨-,h1,h2⟩
  exact ⟨h.rx,h1,fun e=>h2 ((h.place h1 (quarter_ok.2 h1)).2 e)⟩
 ·rintro ⟨-,h1,h2⟩
  exact ⟨h.ry,h1,fun e=>h2 ((h.place h1 (quarter_ok.2 h1)).1 e)⟩
theorem quarter_back (q:Pt):∃ p,quarter.app p=q:=⟨(q.2,-q.1),by rw [quarter_app];simp⟩
end Go.Proofs.Ytnepfcnlngpchaa.Geo
namespace Go.Proofs.Ytnepfcnlngpchaa
open Go.RowKit Go.Proofs.Ytnepfcnlngpchaa.Nm
set_option maxRecDepth 10000
def movRoom (xs:List Pt) (dx dy:Int):List Pt × Bool:=
 if (roomOk xs && (btw dx (-80) 80 && btw dy (-80) 80)) && roomOk (xs.map (movP dx dy)) then (xs.map (movP dx dy),true) else ([],false)
def rRoomB (x:List Pt × Bool):RV:=⟨.tup [.inr [.own 0 0],.inl (.d (.bool x.2))],some ⟨t_impl_Point,none,.b .pt,x.1⟩⟩
def movRoomC:Con:=mkCon [.room,.int,.int] (fun x=>x.1.length≤1048576) fun x=>rRoomB (movRoom x.1 x.2.1 x.2.2.1)
theorem iMoveRoom_ok:Good1 Try.prog n_impl_MoveRoom movRoomC:=by
 refine good_ofG (tys:=tyL) (env:=[(n_impl_RoomOk,roomOkC),(n_impl_between,btwC),(n_impl_MoveRoom_1,movC),(n_impl_mapped,mappedC)]) (envw:=[]) (envd:=[]) [25] [] [] [] [] mixed tys ⟨iRoomOk_ok,between_ok,mov_ok,mapped_ok,trivial⟩ trivial trivial Try.func49 rfl (by kernel_rfl) (by decide) (by kernel_rfl) ?_
 have hG_:=kpz [(0,[3,4,5,6]),(1,[3,4,5,6,21]),(2,[6,7]),(3,[6,8]),(4,[6,8,28]),(5,[6,7]),(6,[6,7])] [(0,[6]),(1,[6]),(2,[6]),(3,[6,8,25]),(4,[6,8,25]),(5,[6,25]),(6,[6,25])] [] []
 rintro ⟨(xs:List Pt),(dx:Int),(dy:Int),⟨⟩⟩ (h1:xs.length≤_)
 (repeat' (first|(with_reducible first|exact True.intro|refine zQ ?_|(refine zG hG_ ?_;intro K_ hK_)|(refine zR ?_;intro K_ hK_)|(refine hK_ _ _ ?_;try clear hK_ K_)|refine sq_n ?_|refine sq_r ?_|refine sq_e ?_|refine bq_n ?_|refine bq_r ?_|refine bq_q ?_|refine zB ?_|refine zX ?_|refine zT ?_|refine zK ?_|refine gq_n ?_|refine gq_r ?_|refine gq_e ?_|refine lq_n ?_|refine lq_r ?_|refine lq_e ?_|refine bq_e (by decide) ?_)|((with_reducible refine zC (b:=?b_) ?hb_ ?_ ?_);case hb_=>rfl)|((conv=>whnf);first|(with_reducible refine hK_ _ _ ?_;try clear hK_ K_)|(with_reducible refine fun (g_:Sl) (o_:Ow)=>?_)|(with_reducible first|exact True.intro|refine And.intro trivial ?_|refine And.intro ?_ ?_)|exact Nat.le_of_ble_eq_true rfl|exact Or.inl rfl|(intro h_;cases h_)|(intro h_;(try simp only [vS1] at h_))|rfl))) <;> (try (conv=>whnf)) <;> (try first|change (_:Int)≤_|change (_:Nat)≤_) <;> (try ((fail_if_success (with_reducible apply Exists.intro));(try dsimp only);(try simp only [vS1]))) <;> (try simp (disch:=omega) only [vS3,vS2] at *)
 all_goals (try (fail_if_success (with_reducible apply Exists.intro));first|with_reducible assumption|omega|exact mdl (by omega)|exact ilo1 (by omega)|exact ilo2 (by omega)|exact ihi1 (by omega) (by omega)|exact ihi2 (by omega) (by omega))
 all_goals (try (simp_all only [movRoom,Bool.false_and,Bool.and_false,Bool.false_eq_true,if_false];done))
 ·exact Or.inr (Or.inr ⟨dx,dy,rfl⟩)
 ·change roomOk (xs.map (movP dx dy))=false at h_
  simp [movRoom,h_]
 ·change roomOk (xs.map (movP dx dy))=false at h_
  simp [movRoom,h_]
 ·change roomOk (xs.map (movP dx dy))=true at h_
  have e:movRoom xs dx dy=(xs.map (movP dx dy),true):=by simp_all [movRoom]
  rw [e];rfl
 ·change roomOk (xs.map (movP dx dy))=true at h_
  simp_all [movRoom]
theorem l04Copy_ok:Good1 Try.prog n_spec_l04Copy (roomRoomC id):=by
 refine good_ofG (tys:=tyL) (env:=[]) (envw:=[]) (envd:=[]) [3] [] [] [] [] mixed tys trivial trivial trivial Try.func111 rfl (by kernel_rfl) (by decide) (by kernel_rfl) ?_
 have hG_:=kpz [(0,[1,2]),(1,[2])] [(0,[2]),(1,[2,3])] [] []
 rintro ⟨(xs:List Pt),⟨⟩⟩ (h1:xs.length≤_)
 (repeat' (first|(with_reducible first|exact True.intro|refine zQ ?_|(refine zG hG_ ?_;intro K_ hK_)|(refine zR ?_;intro K_ hK_)|(refine hK_ _ _ ?_;try clear hK_ K_)|refine sq_n ?_|refine sq_r ?_|refine sq_e ?_|refine bq_n ?_|refine bq_r ?_|refine bq_q ?_|refine zB ?_|refine zX ?_|refine zT ?_|refine zK ?_|refine gq_n ?_|refine gq_r ?_|refine gq_e ?_|refine lq_n ?_|refine lq_r ?_|refine lq_e ?_|refine bq_e (by decide) ?_)|((with_reducible refine zC (b:=?b_) ?hb_ ?_ ?_);case hb_=>rfl)|((conv=>whnf);first|(with_reducible refine hK_ _ _ ?_;try clear hK_ K_)|(with_reducible refine fun (g_:Sl) (o_:Ow)=>?_)|(with_reducible first|exact True.intro|refine And.intro trivial ?_|refine And.intro ?_ ?_)|exact Nat.le_of_ble_eq_true rfl|exact Or.inl rfl|(intro h_;cases h_)|(intro h_;(try simp only [vS1] at h_))|rfl))) <;> (try (conv=>whnf)) <;> (try first|change (_:Int)≤_|change (_:Nat)≤_) <;> (try ((fail_if_success (with_reducible apply Exists.intro));(try dsimp only);(try simp only [vS1]))) <;> (try simp (disch:=omega) only [vS3,vS2] at *)
 all_goals (try (fail_if_success (with_reducible apply Exists.intro));first|with_reducible assumption|omega|exact mdl (by omega)|exact ilo1 (by omega)|exact ilo2 (by omega)|exact ihi1 (by omega) (by omega)|exact ihi2 (by omega) (by omega))
end Go.Proofs.Ytnepfcnlngpchaa
namespace Go.Proofs.Ytnepfcnlngpchaa
open Go.RowKit Go.Proofs.Ytnepfcnlngpchaa.Nm
set_option maxRecDepth 10000
set_option maxHeartbeats 2000000
theorem floor_pt {xs:List Pt} {k:Nat} (hk:k < (floorPts xs).length):ptOk (pAt (floorPts xs) k)=true:=(floor_mem (pAt_mem hk)).2.1
def maskM (xs:List Pt) (k:Int):List Bool:=if hasCor xs k then (floorPts xs).map (seesS xs (pI xs k)) else []
def rowB (xs:List Bool):RV:=⟨.one (.own 0 0),some ⟨t_bool,none,.b .bool,xs⟩⟩
def maskC:Con:=mkCon [.room,.int] (fun x=>x.1.length≤1048576) fun x=>rowB (maskM x.1 x.2.1)
theorem mask_bad {xs:List Pt} {k:Int} (h:hasCor xs k=false):maskM xs k=[]:=by unfold maskM;rw [h];rfl
theorem mask_ok {xs:List Pt} {k:Int} (h:hasCor xs k=true):maskM xs k=(floorPts xs).map (seesS xs (pI xs k)):=by unfold maskM;rw [h];rfl
theorem hasCor_ok {xs:List Pt} {k:Int}:hasCor xs k=true↔(0≤k∧k≤xs.length - 1)∧roomOk xs=true:=by unfold hasCor;rw [Bool.and_eq_true,btw_iff]
theorem map_len_le {α β:Type} {l:List α} {f:α→β} {n:Nat} (h:l.length≤n) (k:Nat):((l.take k).map f).length≤n:=by rw [List.length_map,List.length_take];omega
theorem iSeenMask_ok:Good1 Try.prog n_impl_SeenMask maskC:=by
 refine good_ofG (tys:=tyL) (env:=[(n_impl_hasCorner,hasCorC),(n_impl_floor,floorC),(n_impl_sees,sees2C)]) (envw:=[]) (envd:=[]) [12] [21,22,23,25,26,28] [] [] [] mixed tys ⟨hasCorner_ok,floor_ok,sees2_ok,trivial⟩ trivial trivial Try.func35 rfl (by kernel_rfl) (by decide) (by kernel_rfl) ?_
 have hG_:=kpz [(0,[1,2]),(1,[1,2,11]),(2,[4]),(3,[1,2,5]),(4,[1,2,5,14,15,16]),(5,[1,2,5,14,15,16,17]),(6,[1,2,5,7,14,15,16]),(7,[1,2,5,14,15,16]),(8,[1,2,5,14,15,16]),(9,[4])] [(3,[12]),(4,[12]),(5,[12]),(6,[7,12]),(7,[12]),(8,[12]),(9,[12])] [] []
 rintro ⟨(xs:List Pt),(c:Int),⟨⟩⟩ (h1:xs.length≤_)
 have hf:=floor_len xs
 (repeat' (first|(with_reducible first|exact True.intro|refine zQ ?_|(refine zG hG_ ?_;intro K_ hK_)|(refine zR ?_;intro K_ hK_)|(refine hK_ _ _ ?_;try clear hK_ K_)|refine sq_n ?_|refine sq_r ?_|refine sq_e ?_|refine bq_n ?_|refine bq_r ?_|refine bq_q ?_|refine zB ?_|refine zX ?_|refine zT ?_|refine zK ?_|refine gq_n ?_|refine gq_r ?_|refine gq_e ?_|refine lq_n ?_|refine lq_r ?_|refine lq_e ?_|refine bq_e (by decide) ?_)|((with_reducible refine zC (b:=?b_) ?hb_ ?_ ?_);case hb_=>rfl)|((conv=>whnf);first|(with_reducible refine hK_ _ _ ?_;try clear hK_ K_)|(with_reducible refine fun (g_:Sl) (o_:Ow)=>?_)|(with_reducible first|exact True.intro|refine And.intro trivial ?_|refine And.intro ?_ ?_)|exact Nat.le_of_ble_eq_true rfl|exact Or.inl rfl|(intro h_;cases h_)|(intro h_;(try simp only [vS1] at h_))|rfl))) <;> (try (conv=>whnf)) <;> (try first|change (_:Int)≤_|change (_:Nat)≤_) <;> (try ((fail_if_success (with_reducible apply Exists.intro));(try dsimp only);(try simp only [vS1]))) <;> (try simp (disch:=omega) only [vS3,Int.add_sub_cancel,tn1,tnp,tnc,vS2] at *)
 all_goals (try (fail_if_success (with_reducible apply Exists.intro));first|with_reducible assumption|omega|exact mdl (by omega)|exact ilo1 (by omega)|exact ilo2 (by omega)|exact ihi1 (by omega) (by omega)|exact ihi2 (by omega) (by omega))
 ·exact mask_bad ‹_›
 ·exact (hasCor_ok.1 h_).2
 have hc:hasCor xs c=true:=by assumption
 obtain ⟨hc1,hr⟩:=hasCor_ok.1 hc
 refine awp'_loopG (α:=Nat) (fun k ver_=>[(16,vInt k)]) (fun k ver_=>[(5,12,false,.row t_bool (.b .bool) (((floorPts xs).take k).map (seesS xs (pI xs c))))]) (fun k ver_=>[]) (fun k=>k≤(floorPts xs).length) (fun k=>(floorPts xs).length - k) [1,2,14,15] [] (0) ?_
 conv=>whnf
 refine ⟨⟨?inv3_,?vals3_,?own3_,?fix3_⟩,?body3_⟩
 case' vals3_=>(repeat' (first|(with_reducible first|exact True.intro|refine And.intro ?_ ?_|refine Head.mk ?_ ?_ ?_ ?_)|((conv=>lhs;whnf);first|(with_reducible first|rfl|exact vInt_s (by omega))|exact rfl)|((conv=>whnf);first|(with_reducible first|exact True.intro|refine And.intro ?_ ?_)))) <;> (try (conv=>lhs;whnf))
 case' own3_=>(repeat' (first|(with_reducible first|exact True.intro|refine And.intro ?_ ?_|refine Head.mk ?_ ?_ ?_ ?_)|((conv=>lhs;whnf);first|(with_reducible first|rfl|exact vInt_s (by omega))|exact rfl)|((conv=>whnf);first|(with_reducible first|exact True.intro|refine And.intro ?_ ?_)))) <;> (try (conv=>lhs;whnf))
 case' fix3_=>(repeat' (first|(with_reducible first|exact True.intro|refine And.intro ?_ ?_|refine Head.mk ?_ ?_ ?_ ?_)|((conv=>lhs;whnf);first|(with_reducible first|rfl|exact vInt_s (by omega))|exact rfl)|((conv=>whnf);first|(with_reducible first|exact True.intro|refine And.intro ?_ ?_)))) <;> (try (conv=>lhs;whnf))
 ·exact Nat.zero_le _
 rintro k g_ o_ v_ hk
 have hl:=map_len_le (f:=seesS xs (pI xs c)) hf k
 (repeat' (first|(with_reducible first|exact True.intro|refine zQ ?_|(refine zG hG_ ?_;intro K_ hK_)|(refine zR ?_;intro K_ hK_)|(refine hK_ _ _ ?_;try clear hK_ K_)|refine sq_n ?_|refine sq_r ?_|refine sq_e ?_|refine bq_n ?_|refine bq_r ?_|refine bq_q ?_|refine zB ?_|refine zX ?_|refine zT ?_|refine zK ?_|refine gq_n ?_|refine gq_r ?_|refine gq_e ?_|refine lq_n ?_|refine lq_r ?_|refine lq_e ?_|refine bq_e (by decide) ?_)|((with_reducible refine zC (b:=?b_) ?hb_ ?_ ?_);case hb_=>rfl)|((conv=>whnf);first|(with_reducible refine hK_ _ _ ?_;try clear hK_ K_)|(with_reducible refine fun (g_:Sl) (o_:Ow)=>?_)|(with_reducible first|exact True.intro|refine And.intro trivial ?_|refine And.intro ?_ ?_)|exact Nat.le_of_ble_eq_true rfl|exact Or.inl rfl|(intro h_;cases h_)|(intro h_;(try simp only [vS1] at h_))|rfl))) <;> (try (conv=>whnf)) <;> (try first|change (_:Int)≤_|change (_:Nat)≤_) <;> (try ((fail_if_success (with_reducible apply Exists.intro));(try dsimp only);(try simp only [vS1]))) <;> (try simp (disch:=omega) only [vS3,Int.add_sub_cancel,tn1,tnp,tnc,vS2] at *)
 all_goals (try (fail_if_success (with_reducible apply Exists.intro));first|with_reducible assumption|omega|exact mdl (by omega)|exact ilo1 (by omega)|exact ilo2 (by omega)|exact ihi1 (by omega) (by omega)|exact ihi2 (by omega) (by omega))
 ·exact room_pt hr (by omega)
 ·exact floor_pt (by omega)
 ·refine ⟨k + 1,by omega,by omega,?_⟩
  (repeat' (first|(with_reducible first|exact True.intro|refine And.intro ?_ ?_|refine Head.mk ?_ ?_ ?_ ?_)|((conv=>lhs;whnf);first|(with_reducible first|rfl|exact vInt_s (by omega))|exact rfl)|((conv=>whnf);first|(with_reducible first|exact True.intro|refine And.intro ?_ ?_)))) <;> (try (conv=>lhs;whnf))
  exact congrArg (Own.row _ _) (map_take_succ' _ (0,0) (by assumption)).symm
 ·rw [List.take_of_length_le (by omega),mask_ok hc];rfl
end Go.Proofs.Ytnepfcnlngpchaa
namespace Go.Proofs.Ytnepfcnlngpchaa
open Go.RowKit Go.Proofs.Ytnepfcnlngpchaa.Nm
set_option maxRecDepth 10000
set_option maxHeartbeats 4000000
def fsN {α:Type} (f:Nat→Option α):Nat→Nat→Option α
 | 0,_=>none
 | n + 1,a=>match f a with
  | some r=>some r
  | none=>fsN f n (a + 1)
def fsR {α:Type} (f:Nat→Option α) (a b:Nat):Option α:=fsN f (b - a) a
theorem fsR_end {α:Type} {f:Nat→Option α} {a b:Nat} (h:b≤a):fsR f a b=none:=by unfold fsR;rw [show b - a=0 by omega];rfl
theorem fsR_yes {α:Type} {f:Nat→Option α} {a b:Nat} {r:α} (h:a < b) (hf:f a=some r):fsR f a b=some r:=by
 unfold fsR;rw [show b - a=(b - (a + 1)) + 1 by omega,fsN,hf]
theorem fsR_no {α:Type} {f:Nat→Option α} {a b:Nat} (h:a < b) (hf:f a=none):fsR f a b=fsR f (a + 1) b:=by
 unfold fsR;rw [show b - a=(b - (a + 1)) + 1 by omega,fsN,hf]
theorem fsN_all {α:Type} {f:Nat→Option α} {Q:α→Prop} (h:∀ k r,f k=some r→Q r):∀ n a r,fsN f n a=some r→Q r
 | 0,a,r,e=>by cases e
 | n + 1,a,r,e=>by
  rw [fsN] at e
  cases hf:f a with
  | some r'=>rw [hf] at e;exact h a r (hf.trans e)
  | none=>rw [hf] at e;exact fsN_all h n (a + 1) r e
abbrev Msk:=List (List Bool)
def seenOf (M:Msk) (l:List Int) (i:Nat):Bool:=l.any fun k=>(M.getD k.toNat []).getD i false
def wid (M:Msk):Nat:=(M.getD 0 []).length
def covM (M:Msk) (l:List Int):Bool:=(List.range (wid M)).all (seenOf M l)
def chM (M:Msk):Nat→List Int→Nat→Option (List Int)
 | 0,l,_=>if covM M l then some l else none
 | m + 1,l,a=>fsR (fun k=>chM M m (l ++ [(k:Int)]) (k + 1)) a M.length
theorem ch_len (M:Msk):∀ m l a r,chM M m l a=some r→r.length=l.length + m
 | 0,l,a,r,h=>by
  rw [chM] at h
  split at h
  ·injection h with h;rw [← h];rfl
  ·cases h
 | m + 1,l,a,r,h=>by
  rw [chM] at h
  refine fsN_all (Q:=fun r=>r.length=l.length + (m + 1)) (fun k r hr=>?_) _ _ r h
  have:=ch_len M m _ _ r hr
  rw [List.length_append,List.length_singleton] at this
  omega
def masksM (xs:List Pt):Msk:=(List.range xs.length).map fun k:Nat=>maskM xs k
def fewO (M:Msk):Option (List Int):=fsR (fun n=>chM M n [] 0) 1 (M.length + 1)
def fewM (xs:List Pt):List Int:=if roomOk xs then (fewO (masksM xs)).getD [] else []
structure MOk (M:Msk):Prop where
 pos:0 < M.length
 le:M.length≤64
 all:∀ k,k < M.length→(M.getD k []).length=wid M
 w:wid M≤1048576
structure LOk (M:Msk) (l:List Int):Prop where
 le:l.length≤64
 at_:∀ j,j < l.length→0≤l.getD j 0∧l.getD j 0 < M.length
theorem LOk.app {M:Msk} {l:List Int} {k:Nat} (h:LOk M l) (hl:l.length < 64) (hk:k < M.length):LOk M (l ++ [(k:Int)]):=by
 refine ⟨by rw [List.length_append,List.length_singleton];omega,fun j hj=>?_⟩
 rw [List.length_append,List.length_singleton] at hj
 rw [List.getD_eq_getElem?_getD]
 rcases Nat.lt_or_ge j l.length with h1|h1
 ·rw [List.getElem?_append_left h1,← List.getD_eq_getElem?_getD]
  exact h.at_ j h1
 ·rw [List.getElem?_append_right h1,show j - l.length=0 by omega]
  simp only [List.getElem?_cons_zero,Option.getD_some]
  omega
def seenTo (M:Msk) (l:List Int) (i k:Nat):Bool:=(l.take k).any fun x=>(M.getD x.toNat []).getD i false
theorem seenTo_succ {M:Msk} {l:List Int} {i k:Nat} (h:k < l.length):seenTo M l i (k + 1)=(seenTo M l i k || (M.getD (l.getD k 0).toNat []).getD i false):=by
 unfold seenTo
 rw [List.take_succ_eq_append_getElem h,List.any_append,show l.getD k 0=l[k] from getD_lt _ h]
 simp
theorem seenTo_full (M:Msk) (l:List Int) (i:Nat):seenTo M l i l.length=seenOf M l i:=by unfold seenTo seenOf;rw [List.take_length]
def covC:Con:=mkCon [.sl (.s .bool),.sl (.b .int)] (fun x=>MOk x.1∧LOk x.1 x.2.1) fun x=>vB (covM x.1 x.2.1)
theorem covers_ok:Good1 Try.prog n_impl_covers covC:=by
  refine good_ofG (tys:=tyL) (env:=[]) (envw:=[]) (envd:=[]) [] [] [] [] [] mixed tys trivial trivial trivial Try.func120 rfl (by kernel_rfl) (by decide) (by kernel_rfl) ?_
  have hG_:=kpz [(0,[0,1]),(1,[0,1,12,13]),(2,[0,1,12,13,14]),(3,[0,1,5,12,13]),(4,[0,1,5,6,12,13]),(5,[0,1,5,6,12,13,16,17,18]),(6,[0,1,5,6,12,13,16,17,18,19]),(7,[0,1,5,6,8,12,13,16,17,18]),(8,[0,1,5,6,12,13,16,17,18]),(9,[0,1,5,6,12,13,16,17,18]),(10,[0,1,12,13,34]),(11,[4]),(12,[0,1,12,13]),(13,[4])] [] [] []
  rintro ⟨(M:Msk),(l:List Int),⟨⟩⟩ ⟨(hM:MOk M),(hL:LOk M l)⟩
  have m1:=hM.pos
  have m2:=hM.le
  have m4:=hM.w
  have l1:=hL.le
  have hw0:(M.getD 0 (ElK.s ElB.bool).dflt).length=wid M:=rfl
  (repeat' (first|(with_reducible first|exact True.intro|refine zQ ?_|(refine zG hG_ ?_;intro K_ hK_)|(refine zR ?_;intro K_ hK_)|(refine hK_ _ _ ?_;try clear hK_ K_)|refine sq_n ?_|refine sq_r ?_|refine sq_e ?_|refine bq_n ?_|refine bq_r ?_|refine bq_q ?_|refine zB ?_|refine zX ?_|refine zT ?_|refine zK ?_|refine gq_n ?_|refine gq_r ?_|refine gq_e ?_|refine lq_n ?_|refine lq_r ?_|refine lq_e ?_|refine bq_e (by decide) ?_)|((with_reducible refine zC (b:=?b_) ?hb_ ?_ ?_);case hb_=>rfl)|((conv=>whnf);first|(with_reducible refine hK_ _ _ ?_;try clear hK_ K_)|(with_reducible refine fun (g_:Sl) (o_:Ow)=>?_)|(with_reducible first|exact True.intro|refine And.intro trivial ?_|refine And.intro ?_ ?_)|exact Nat.le_of_ble_eq_true rfl|exact Or.inl rfl|(intro h_;cases h_)|(intro h_;(try simp only [vS1] at h_))|rfl))) <;> (try (conv=>whnf)) <;> (try first|change (_:Int)≤_|change (_:Nat)≤_) <;> (try ((fail_if_success (with_reducible apply Exists.intro));(try dsimp only);(try simp only [vS1]))) <;> (try simp (disch:=omega) only [vS3,Int.add_sub_cancel,tn1,tnp,tnc,vS2] at *)
  all_goals (try (fail_if_success (with_reducible apply Exists.intro));first|with_reducible assumption|omega|exact mdl (by omega)|exact ilo1 (by omega)|exact ilo2 (by omega)|exact ihi1 (by omega) (by omega)|exact ihi2 (by omega) (by omega))
  refine awp'_loopG (α:=Nat) (fun i ver_=>[(13,vInt i)]) (fun i ver_=>[]) (fun i ver_=>[]) (fun i=>i≤wid M∧∀ j,j < i→seenOf M l j=true) (fun i=>wid M - i) [0,1,12] [] (0) ?_
  conv=>whnf
  refine ⟨⟨?inv1_,?vals1_,?own1_,?fix1_⟩,?body1_⟩
  case' vals1_=>(repeat' (first|(with_reducible first|exact True.intro|refine And.intro ?_ ?_|refine Head.mk ?_ ?_ ?_ ?_)|((conv=>lhs;whnf);first|(with_reducible first|rfl|exact vInt_s (by omega))|exact rfl)|((conv=>whnf);first|(with_reducible first|exact True.intro|refine And.intro ?_ ?_)))) <;> (try (conv=>lhs;whnf))
  case' own1_=>(repeat' (first|(with_reducible first|exact True.intro|refine And.intro ?_ ?_|refine Head.mk ?_ ?_ ?_ ?_)|((conv=>lhs;whnf);first|(with_reducible first|rfl|exact vInt_s (by omega))|exact rfl)|((conv=>whnf);first|(with_reducible first|exact True.intro|refine And.intro ?_ ?_)))) <;> (try (conv=>lhs;whnf))
  case' fix1_=>(repeat' (first|(with_reducible first|exact True.intro|refine And.intro ?_ ?_|refine Head.mk ?_ ?_ ?_ ?_)|((conv=>lhs;whnf);first|(with_reducible first|rfl|exact vInt_s (by omega))|exact rfl)|((conv=>whnf);first|(with_reducible first|exact True.intro|refine And.intro ?_ ?_)))) <;> (try (conv=>lhs;whnf))
  · exact ⟨Nat.zero_le _,fun j hj=>absurd hj (by omega)⟩
  rintro i g_ o_ v_ ⟨hi,hall⟩
  (repeat' (first|(with_reducible first|exact True.intro|refine zQ ?_|(refine zG hG_ ?_;intro K_ hK_)|(refine zR ?_;intro K_ hK_)|(refine hK_ _ _ ?_;try clear hK_ K_)|refine sq_n ?_|refine sq_r ?_|refine sq_e ?_|refine bq_n ?_|refine bq_r ?_|refine bq_q ?_|refine zB ?_|refine zX ?_|refine zT ?_|refine zK ?_|refine gq_n ?_|refine gq_r ?_|refine gq_e ?_|refine lq_n ?_|refine lq_r ?_|refine lq_e ?_|refine bq_e (by decide) ?_)|((with_reducible refine zC (b:=?b_) ?hb_ ?_ ?_);case hb_=>rfl)|((conv=>whnf);first|(with_reducible refine hK_ _ _ ?_;try clear hK_ K_)|(with_reducible refine fun (g_:Sl) (o_:Ow)=>?_)|(with_reducible first|exact True.intro|refine And.intro trivial ?_|refine And.intro ?_ ?_)|exact Nat.le_of_ble_eq_true rfl|exact Or.inl rfl|(intro h_;cases h_)|(intro h_;(try simp only [vS1] at h_))|rfl))) <;> (try (conv=>whnf)) <;> (try first|change (_:Int)≤_|change (_:Nat)≤_) <;> (try ((fail_if_success (with_reducible apply Exists.intro));(try dsimp only);(try simp only [vS1]))) <;> (try simp (disch:=omega) only [vS3,Int.add_sub_cancel,tn1,tnp,tnc,vS2] at *)
  all_goals (try (fail_if_success (with_reducible apply Exists.intro));first|with_reducible assumption|omega|exact mdl (by omega)|exact ilo1 (by omega)|exact ilo2 (by omega)|exact ihi1 (by omega) (by omega)|exact ihi2 (by omega) (by omega))
  ·
   refine awp'_loopG (α:=Nat) (fun k ver_=>[(18,vInt k),(6,vBool (seenTo M l i k))]) (fun k ver_=>[]) (fun k ver_=>[]) (fun k=>k≤l.length) (fun k=>l.length - k) [0,1,5,12,13,16,17] [] (0) ?_
   conv=>whnf
   refine ⟨⟨?inv2_,?vals2_,?own2_,?fix2_⟩,?body2_⟩
   case' vals2_=>(repeat' (first|(with_reducible first|exact True.intro|refine And.intro ?_ ?_|refine Head.mk ?_ ?_ ?_ ?_)|((conv=>lhs;whnf);first|(with_reducible first|rfl|exact vInt_s (by omega))|exact rfl)|((conv=>whnf);first|(with_reducible first|exact True.intro|refine And.intro ?_ ?_)))) <;> (try (conv=>lhs;whnf))
   case' own2_=>(repeat' (first|(with_reducible first|exact True.intro|refine And.intro ?_ ?_|refine Head.mk ?_ ?_ ?_ ?_)|((conv=>lhs;whnf);first|(with_reducible first|rfl|exact vInt_s (by omega))|exact rfl)|((conv=>whnf);first|(with_reducible first|exact True.intro|refine And.intro ?_ ?_)))) <;> (try (conv=>lhs;whnf))
   case' fix2_=>(repeat' (first|(with_reducible first|exact True.intro|refine And.intro ?_ ?_|refine Head.mk ?_ ?_ ?_ ?_)|((conv=>lhs;whnf);first|(with_reducible first|rfl|exact vInt_s (by omega))|exact rfl)|((conv=>whnf);first|(with_reducible first|exact True.intro|refine And.intro ?_ ?_)))) <;> (try (conv=>lhs;whnf))
   · exact Nat.zero_le _
   rintro k g_ o_ v_ hk
   rcases Nat.lt_or_ge k l.length with hkl|hkl
   · have hb:=hL.at_ k hkl
     have hk1:0≤l.getD k (ElK.b ElB.int).dflt:=hb.1
     have hk2:l.getD k (ElK.b ElB.int).dflt < M.length:=hb.2
     have hml:(M.getD (l.getD k (ElK.b ElB.int).dflt).toNat (ElK.s ElB.bool).dflt).length=wid M:=hM.all _ (by omega)
     have hss:=seenTo_succ (M:=M) (i:=i) hkl
     (repeat' (first|(with_reducible first|exact True.intro|refine zQ ?_|(refine zG hG_ ?_;intro K_ hK_)|(refine zR ?_;intro K_ hK_)|(refine hK_ _ _ ?_;try clear hK_ K_)|refine sq_n ?_|refine sq_r ?_|refine sq_e ?_|refine bq_n ?_|refine bq_r ?_|refine bq_q ?_|refine zB ?_|refine zX ?_|refine zT ?_|refine zK ?_|refine gq_n ?_|refine gq_r ?_|refine gq_e ?_|refine lq_n ?_|refine lq_r ?_|refine lq_e ?_|refine bq_e (by decide) ?_)|((with_reducible refine zC (b:=?b_) ?hb_ ?_ ?_);case hb_=>rfl)|((conv=>whnf);first|(with_reducible refine hK_ _ _ ?_;try clear hK_ K_)|(with_reducible refine fun (g_:Sl) (o_:Ow)=>?_)|(with_reducible first|exact True.intro|refine And.intro trivial ?_|refine And.intro ?_ ?_)|exact Nat.le_of_ble_eq_true rfl|exact Or.inl rfl|(intro h_;cases h_)|(intro h_;(try simp only [vS1] at h_))|rfl))) <;> (try (conv=>whnf)) <;> (try first|change (_:Int)≤_|change (_:Nat)≤_) <;> (try ((fail_if_success (with_reducible apply Exists.intro));(try dsimp only);(try simp only [vS1]))) <;> (try simp (disch:=omega) only [vS3,Int.add_sub_cancel,tn1,tnp,tnc,vS2] at *)
     all_goals (try (fail_if_success (with_reducible apply Exists.intro));first|with_reducible assumption|omega|exact mdl (by omega)|exact ilo1 (by omega)|exact ilo2 (by omega)|exact ihi1 (by omega) (by omega)|exact ihi2 (by omega) (by omega))
     · refine ⟨k + 1,by omega,by omega,?_⟩
       (repeat' (first|(with_reducible first|exact True.intro|refine And.intro ?_ ?_|refine Head.mk ?_ ?_ ?_ ?_)|((conv=>lhs;whnf);first|(with_reducible first|rfl|exact vInt_s (by omega))|exact rfl)|((conv=>whnf);first|(with_reducible first|exact True.intro|refine And.intro ?_ ?_)))) <;> (try (conv=>lhs;whnf))
       exact congrArg vBool (by rw [hss,show seenTo M l i k=true from by assumption];rfl)
     · refine ⟨k + 1,by omega,by omega,?_⟩
       (repeat' (first|(with_reducible first|exact True.intro|refine And.intro ?_ ?_|refine Head.mk ?_ ?_ ?_ ?_)|((conv=>lhs;whnf);first|(with_reducible first|rfl|exact vInt_s (by omega))|exact rfl)|((conv=>whnf);first|(with_reducible first|exact True.intro|refine And.intro ?_ ?_)))) <;> (try (conv=>lhs;whnf))
       exact congrArg vBool (by rw [hss,show seenTo M l i k=false from by assumption];rfl)
     all_goals (exfalso;omega)
   · have hf:=seenTo_full M l i
     (repeat' (first|(with_reducible first|exact True.intro|refine zQ ?_|(refine zG hG_ ?_;intro K_ hK_)|(refine zR ?_;intro K_ hK_)|(refine hK_ _ _ ?_;try clear hK_ K_)|refine sq_n ?_|refine sq_r ?_|refine sq_e ?_|refine bq_n ?_|refine bq_r ?_|refine bq_q ?_|refine zB ?_|refine zX ?_|refine zT ?_|refine zK ?_|refine gq_n ?_|refine gq_r ?_|refine gq_e ?_|refine lq_n ?_|refine lq_r ?_|refine lq_e ?_|refine bq_e (by decide) ?_)|((with_reducible refine zC (b:=?b_) ?hb_ ?_ ?_);case hb_=>rfl)|((conv=>whnf);first|(with_reducible refine hK_ _ _ ?_;try clear hK_ K_)|(with_reducible refine fun (g_:Sl) (o_:Ow)=>?_)|(with_reducible first|exact True.intro|refine And.intro trivial ?_|refine And.intro ?_ ?_)|exact Nat.le_of_ble_eq_true rfl|exact Or.inl rfl|(intro h_;cases h_)|(intro h_;(try simp only [vS1] at h_))|rfl))) <;> (try (conv=>whnf)) <;> (try first|change (_:Int)≤_|change (_:Nat)≤_) <;> (try ((fail_if_success (with_reducible apply Exists.intro));(try dsimp only);(try simp only [vS1]))) <;> (try simp (disch:=omega) only [vS3,Int.add_sub_cancel,tn1,tnp,tnc,vS2] at *)
     all_goals (try (fail_if_success (with_reducible apply Exists.intro));first|with_reducible assumption|omega|exact mdl (by omega)|exact ilo1 (by omega)|exact ilo2 (by omega)|exact ihi1 (by omega) (by omega)|exact ihi2 (by omega) (by omega))
     · exfalso;omega
     · exfalso;omega
     · have h7:seenTo M l i k=false:=by assumption
       rw [show k=l.length by omega,hf] at h7
       refine Eq.symm (Bool.eq_false_iff.2 fun hc=>?_)
       have:=List.all_eq_true.1 (show (List.range (wid M)).all (seenOf M l)=true from hc) i (List.mem_range.2 (by omega))
       rw [this] at h7;cases h7
     · refine ⟨i + 1,by omega,⟨by omega,lt_succ_all hall ?_⟩,by (repeat' (first|(with_reducible first|exact True.intro|refine And.intro ?_ ?_|refine Head.mk ?_ ?_ ?_ ?_)|((conv=>lhs;whnf);first|(with_reducible first|rfl|exact vInt_s (by omega))|exact rfl)|((conv=>whnf);first|(with_reducible first|exact True.intro|refine And.intro ?_ ?_)))) <;> (try (conv=>lhs;whnf))⟩
       rw [← hf,show l.length=k by omega]
       assumption
  · refine Eq.symm (List.all_eq_true.2 fun j hj=>hall j ?_)
    have:=List.mem_range.1 hj
    omega
def chPre (M:Msk) (l:List Int) (a m:Int):Prop:=(MOk M∧LOk M l)∧(0≤a∧a≤64)∧0≤m∧(l.length:Int) + m≤60∧0 < (l.length:Int) + m
structure ChOk (M:Msk) (l:List Int) (a m:Int):Prop where
 ok:chPre M l a m
def chVal (o:Option (List Int)):RV:=match o with
 | none=>.val (.one (.d .nil))
 | some r=>rowI r
def chLt (n:Nat):Con:=mkCon [.sl (.s .bool),.sl (.b .int),.int,.int] (fun x=>ChOk x.1 x.2.1 x.2.2.1 x.2.2.2.1∧x.2.2.2.1 < n) fun x=>chVal (chM x.1 x.2.2.2.1.toNat x.2.1 x.2.2.1.toNat)
def chooseC:Con:=mkCon [.sl (.s .bool),.sl (.b .int),.int,.int] (fun x=>ChOk x.1 x.2.1 x.2.2.1 x.2.2.2.1) fun x=>chVal (chM x.1 x.2.2.2.1.toNat x.2.1 x.2.2.1.toNat)
theorem fsN_none {α:Type} {f:Nat→Option α}:∀ {n a},fsN f n a=none→∀ k,a≤k→k < a + n→f k=none
 | 0,a,_,k,h1,h2=>absurd h2 (by omega)
 | n + 1,a,h,k,h1,h2=>by
  rw [fsN] at h
  cases hf:f a with
  | some r=>rw [hf] at h;cases h
  | none=>
   rw [hf] at h
   rcases Nat.eq_or_lt_of_le h1 with e|e
   ·rw [← e];exact hf
   ·exact fsN_none h k e (by omega)
theorem fsR_none {α:Type} {f:Nat→Option α} {a b k:Nat} (h:fsR f a b=none) (h1:a≤k) (h2:k < b):f k=none:=fsN_none h k h1 (by omega)
theorem ch_all:∀ n,Good1 Try.prog n_impl_choose (chLt n):=by
 intro n
 induction n with
 | zero=>
  refine ⟨fun w F args vs x h1 h2 h3 h4 h5=>?_,_,Try.func91,by decide,rfl⟩
  obtain ⟨-,-,h6,-⟩:=(show ChOk x.1 x.2.1 x.2.2.1 x.2.2.2.1 from h2.1).ok
  have h7:x.2.2.2.1 < ((0:Nat):Int):=h2.2
  exact absurd (Int.lt_of_le_of_lt h6 h7) (by decide)
 | succ n ih=>
  refine good_ofG (tys:=tyL) (env:=[(n_impl_covers,covC),(n_impl_choose,(chLt n))]) (envw:=[]) (envd:=[]) [16,18,40] [] [] [35] [] mixed tys ⟨covers_ok,ih,trivial⟩ trivial trivial Try.func91 rfl (by kernel_rfl) (by decide) (by kernel_rfl) ?_
  have hG_:=kpz [(0,[0,1,2,3]),(1,[0,1,2,3,12]),(2,[1,15]),(3,[8]),(4,[8]),(5,[0,1,3,9]),(6,[0,1,3,9,23]),(7,[0,1,3,9]),(8,[0,1,3,9,10]),(9,[0,1,3,9,10,42]),(10,[8]),(11,[8])] [(3,[16]),(7,[40]),(8,[40]),(9,[40]),(10,[40])] [] []
  rintro ⟨(M:Msk),(l:List Int),(a:Int),(m:Int),⟨⟩⟩ ⟨⟨(h0:chPre M l a m)⟩,(hmn:m < _)⟩
  obtain ⟨⟨hM,hL⟩,⟨ha0,ha1⟩,hm0,hm1,hm2⟩:=h0
  obtain ⟨a,rfl⟩:=Int.eq_ofNat_of_zero_le ha0
  obtain ⟨m,rfl⟩:=Int.eq_ofNat_of_zero_le hm0
  have hMl:=hM.le
  have hLl:=hL.le
  show awp' _ _ (Fin' _ _ (chVal (chM M m l a))) _ _
  rcases m with _|m
  ·have h00:chM M 0 l a=if covM M l then some l else none:=rfl
   have hl0:l≠[]:=fun e=>by rw [e] at hm2;simp at hm2
   cases hcv:covM M l with
   | true=>
    rw [h00,hcv,if_pos rfl]
    have hcvp:PLift (covM M l=true):=⟨hcv⟩
    show awp' _ _ (Fin' _ _ (rowI l)) _ _
    (repeat' (first|(with_reducible first|exact True.intro|refine zQ ?_|(refine zG hG_ ?_;intro K_ hK_)|(refine zR ?_;intro K_ hK_)|(refine hK_ _ _ ?_;try clear hK_ K_)|refine sq_n ?_|refine sq_r ?_|refine sq_e ?_|refine bq_n ?_|refine bq_r ?_|refine bq_q ?_|refine zB ?_|refine zX ?_|refine zT ?_|refine zK ?_|refine gq_n ?_|refine gq_r ?_|refine gq_e ?_|refine lq_n ?_|refine lq_r ?_|refine lq_e ?_|refine bq_e (by decide) ?_)|((with_reducible refine zC (b:=?b_) ?hb_ ?_ ?_);case hb_=>rfl)|((conv=>whnf);first|(with_reducible refine hK_ _ _ ?_;try clear hK_ K_)|(with_reducible refine fun (g_:Sl) (o_:Ow)=>?_)|(with_reducible first|exact True.intro|refine And.intro trivial ?_|refine And.intro ?_ ?_)|exact Nat.le_of_ble_eq_true rfl|exact Or.inl rfl|(intro h_;cases h_)|(intro h_;(try simp only [vS1] at h_))|rfl))) <;> (try (conv=>whnf)) <;> (try first|change (_:Int)≤_|change (_:Nat)≤_) <;> (try ((fail_if_success (with_reducible apply Exists.intro));(try dsimp only);(try simp only [vS1]))) <;> (try simp (disch:=omega) only [vS3,Int.add_sub_cancel,tn1,tnp,tnc,vS2] at *)
    all_goals (try (fail_if_success (with_reducible apply Exists.intro));first|with_reducible assumption|omega|exact mdl (by omega)|exact ilo1 (by omega)|exact ilo2 (by omega)|exact ihi1 (by omega) (by omega)|exact ihi2 (by omega) (by omega))
    have h5:=hcvp.down
    rw [h_] at h5;cases h5
   | false=>
    rw [h00,hcv,if_neg (by decide)]
    have hcvp:PLift (covM M l=false):=⟨hcv⟩
    show awp' _ _ (Fin' _ _ (.val (.one (.d .nil)))) _ _
    (repeat' (first|(with_reducible first|exact True.intro|refine zQ ?_|(refine zG hG_ ?_;intro K_ hK_)|(refine zR ?_;intro K_ hK_)|(refine hK_ _ _ ?_;try clear hK_ K_)|refine sq_n ?_|refine sq_r ?_|refine sq_e ?_|refine bq_n ?_|refine bq_r ?_|refine bq_q ?_|refine zB ?_|refine zX ?_|refine zT ?_|refine zK ?_|refine gq_n ?_|refine gq_r ?_|refine gq_e ?_|refine lq_n ?_|refine lq_r ?_|refine lq_e ?_|refine bq_e (by decide) ?_)|((with_reducible refine zC (b:=?b_) ?hb_ ?_ ?_);case hb_=>rfl)|((conv=>whnf);first|(with_reducible refine hK_ _ _ ?_;try clear hK_ K_)|(with_reducible refine fun (g_:Sl) (o_:Ow)=>?_)|(with_reducible first|exact True.intro|refine And.intro trivial ?_|refine And.intro ?_ ?_)|exact Nat.le_of_ble_eq_true rfl|exact Or.inl rfl|(intro h_;cases h_)|(intro h_;(try simp only [vS1] at h_))|rfl))) <;> (try (conv=>whnf)) <;> (try first|change (_:Int)≤_|change (_:Nat)≤_) <;> (try ((fail_if_success (with_reducible apply Exists.intro));(try dsimp only);(try simp only [vS1]))) <;> (try simp (disch:=omega) only [vS3,Int.add_sub_cancel,tn1,tnp,tnc,vS2] at *)
    all_goals (try (fail_if_success (with_reducible apply Exists.intro));first|with_reducible assumption|omega|exact mdl (by omega)|exact ilo1 (by omega)|exact ilo2 (by omega)|exact ihi1 (by omega) (by omega)|exact ihi2 (by omega) (by omega))
    have h5:=hcvp.down
    rw [h_] at h5;cases h5
  ·have hF:chM M (m + 1) l a=fsR (fun k=>chM M m (l ++ [(k:Int)]) (k + 1)) a M.length:=rfl
   cases hR:chM M (m + 1) l a with
   | none=>
    rw [hR] at hF
    show awp' _ _ (Fin' _ _ (.val (.one (.d .nil)))) _ _
    (repeat' (first|(with_reducible first|exact True.intro|refine zQ ?_|(refine zG hG_ ?_;intro K_ hK_)|(refine zR ?_;intro K_ hK_)|(refine hK_ _ _ ?_;try clear hK_ K_)|refine sq_n ?_|refine sq_r ?_|refine sq_e ?_|refine bq_n ?_|refine bq_r ?_|refine bq_q ?_|refine zB ?_|refine zX ?_|refine zT ?_|refine zK ?_|refine gq_n ?_|refine gq_r ?_|refine gq_e ?_|refine lq_n ?_|refine lq_r ?_|refine lq_e ?_|refine bq_e (by decide) ?_)|((with_reducible refine zC (b:=?b_) ?hb_ ?_ ?_);case hb_=>rfl)|((conv=>whnf);first|(with_reducible refine hK_ _ _ ?_;try clear hK_ K_)|(with_reducible refine fun (g_:Sl) (o_:Ow)=>?_)|(with_reducible first|exact True.intro|refine And.intro trivial ?_|refine And.intro ?_ ?_)|exact Nat.le_of_ble_eq_true rfl|exact Or.inl rfl|(intro h_;cases h_)|(intro h_;(try simp only [vS1] at h_))|rfl))) <;> (try (conv=>whnf)) <;> (try first|change (_:Int)≤_|change (_:Nat)≤_) <;> (try ((fail_if_success (with_reducible apply Exists.intro));(try dsimp only);(try simp only [vS1]))) <;> (try simp (disch:=omega) only [vS3,Int.add_sub_cancel,tn1,tnp,tnc,vS2] at *)
    all_goals (try (fail_if_success (with_reducible apply Exists.intro));first|with_reducible assumption|omega|exact mdl (by omega)|exact ilo1 (by omega)|exact ilo2 (by omega)|exact ihi1 (by omega) (by omega)|exact ihi2 (by omega) (by omega))
    refine awp'_loopG (α:=Nat) (fun k ver_=>[(9,vInt k)]) (fun k ver_=>[]) (fun k ver_=>[]) (fun k=>a≤k∧k≤64) (fun k=>M.length - k) [0,1,3] [] (a) ?_
    conv=>whnf
    refine ⟨⟨?inv3_,?vals3_,?own3_,?fix3_⟩,?body3_⟩
    case' vals3_=>(repeat' (first|(with_reducible first|exact True.intro|refine And.intro ?_ ?_|refine Head.mk ?_ ?_ ?_ ?_)|((conv=>lhs;whnf);first|(with_reducible first|rfl|exact vInt_s (by omega))|exact rfl)|((conv=>whnf);first|(with_reducible first|exact True.intro|refine And.intro ?_ ?_)))) <;> (try (conv=>lhs;whnf))
    case' own3_=>(repeat' (first|(with_reducible first|exact True.intro|refine And.intro ?_ ?_|refine Head.mk ?_ ?_ ?_ ?_)|((conv=>lhs;whnf);first|(with_reducible first|rfl|exact vInt_s (by omega))|exact rfl)|((conv=>whnf);first|(with_reducible first|exact True.intro|refine And.intro ?_ ?_)))) <;> (try (conv=>lhs;whnf))
    case' fix3_=>(repeat' (first|(with_reducible first|exact True.intro|refine And.intro ?_ ?_|refine Head.mk ?_ ?_ ?_ ?_)|((conv=>lhs;whnf);first|(with_reducible first|rfl|exact vInt_s (by omega))|exact rfl)|((conv=>whnf);first|(with_reducible first|exact True.intro|refine And.intro ?_ ?_)))) <;> (try (conv=>lhs;whnf))
    ·exact ⟨Nat.le_refl _,by omega⟩
    rintro k g_ o_ v_ ⟨hk1,hk2⟩
    rcases Nat.lt_or_ge k M.length with hkl|hkl
    ·have hch:chM M m (l ++ [(k:Int)]) (k + 1)=none:=fsR_none (f:=fun k=>chM M m (l ++ [(k:Int)]) (k + 1)) hF.symm hk1 hkl
     (repeat' (first|(with_reducible first|exact True.intro|refine zQ ?_|(refine zG hG_ ?_;intro K_ hK_)|(refine zR ?_;intro K_ hK_)|(refine hK_ _ _ ?_;try clear hK_ K_)|refine sq_n ?_|refine sq_r ?_|refine sq_e ?_|refine bq_n ?_|refine bq_r ?_|refine bq_q ?_|refine zB ?_|refine zX ?_|refine zT ?_|refine zK ?_|refine gq_n ?_|refine gq_r ?_|refine gq_e ?_|refine lq_n ?_|refine lq_r ?_|refine lq_e ?_|refine bq_e (by decide) ?_)|((with_reducible refine zC (b:=?b_) ?hb_ ?_ ?_);case hb_=>rfl)|((conv=>whnf);first|(with_reducible refine hK_ _ _ ?_;try clear hK_ K_)|(with_reducible refine fun (g_:Sl) (o_:Ow)=>?_)|(with_reducible first|exact True.intro|refine And.intro trivial ?_|refine And.intro ?_ ?_)|exact Nat.le_of_ble_eq_true rfl|exact Or.inl rfl|(intro h_;cases h_)|(intro h_;(try simp only [vS1] at h_))|rfl))) <;> (try (conv=>whnf)) <;> (try first|change (_:Int)≤_|change (_:Nat)≤_) <;> (try ((fail_if_success (with_reducible apply Exists.intro));(try dsimp only);(try simp only [vS1]))) <;> (try simp (disch:=omega) only [vS3,Int.add_sub_cancel,tn1,tnp,tnc,vS2] at *)
     all_goals (try (fail_if_success (with_reducible apply Exists.intro));first|with_reducible assumption|omega|exact mdl (by omega)|exact ilo1 (by omega)|exact ilo2 (by omega)|exact ihi1 (by omega) (by omega)|exact ihi2 (by omega) (by omega))
     conv=>pattern (aeffV _ _ _ _);whnf
     have hres:(chLt n).res (M,l ++ [(k:Int)],(k:Int) + 1,((m + 1:Nat):Int) - 1,())=.val (.one (.d .nil)):=by
      show chVal (chM M (((m + 1:Nat):Int) - 1).toNat (l ++ [(k:Int)]) ((k:Int) + 1).toNat)=_
      rw [show (((m + 1:Nat):Int) - 1).toNat=m by omega,show ((k:Int) + 1).toNat=k + 1 by omega,hch];rfl
     rw [hres]
     (repeat' (first|(with_reducible first|exact True.intro|refine zQ ?_|(refine zG hG_ ?_;intro K_ hK_)|(refine zR ?_;intro K_ hK_)|(refine hK_ _ _ ?_;try clear hK_ K_)|refine sq_n ?_|refine sq_r ?_|refine sq_e ?_|refine bq_n ?_|refine bq_r ?_|refine bq_q ?_|refine zB ?_|refine zX ?_|refine zT ?_|refine zK ?_|refine gq_n ?_|refine gq_r ?_|refine gq_e ?_|refine lq_n ?_|refine lq_r ?_|refine lq_e ?_|refine bq_e (by decide) ?_)|((with_reducible refine zC (b:=?b_) ?hb_ ?_ ?_);case hb_=>rfl)|((conv=>whnf);first|(with_reducible refine hK_ _ _ ?_;try clear hK_ K_)|(with_reducible refine fun (g_:Sl) (o_:Ow)=>?_)|(with_reducible first|exact True.intro|refine And.intro trivial ?_|refine And.intro ?_ ?_)|exact Nat.le_of_ble_eq_true rfl|exact Or.inl rfl|(intro h_;cases h_)|(intro h_;(try simp only [vS1] at h_))|rfl))) <;> (try (conv=>whnf)) <;> (try first|change (_:Int)≤_|change (_:Nat)≤_) <;> (try ((fail_if_success (with_reducible apply Exists.intro));(try dsimp only);(try simp only [vS1]))) <;> (try simp (disch:=omega) only [vS3,Int.add_sub_cancel,tn1,tnp,tnc,vS2] at *)
     all_goals (try (fail_if_success (with_reducible apply Exists.intro));first|with_reducible assumption|omega|exact mdl (by omega)|exact ilo1 (by omega)|exact ilo2 (by omega)|exact ihi1 (by omega) (by omega)|exact ihi2 (by omega) (by omega))
     ·exact ⟨⟨hM,hL.app (by omega) h_⟩,⟨by omega,by omega⟩,by omega,by rw [List.length_append,List.length_singleton];omega,by rw [List.length_append,List.length_singleton];omega⟩
     ·exact ⟨k + 1,by omega,⟨by omega,by omega⟩,by (repeat' (first|(with_reducible first|exact True.intro|refine And.intro ?_ ?_|refine Head.mk ?_ ?_ ?_ ?_)|((conv=>lhs;whnf);first|(with_reducible first|rfl|exact vInt_s (by omega))|exact rfl)|((conv=>whnf);first|(with_reducible first|exact True.intro|refine And.intro ?_ ?_)))) <;> (try (conv=>lhs;whnf))⟩
    ·(repeat' (first|(with_reducible first|exact True.intro|refine zQ ?_|(refine zG hG_ ?_;intro K_ hK_)|(refine zR ?_;intro K_ hK_)|(refine hK_ _ _ ?_;try clear hK_ K_)|refine sq_n ?_|refine sq_r ?_|refine sq_e ?_|refine bq_n ?_|refine bq_r ?_|refine bq_q ?_|refine zB ?_|refine zX ?_|refine zT ?_|refine zK ?_|refine gq_n ?_|refine gq_r ?_|refine gq_e ?_|refine lq_n ?_|refine lq_r ?_|refine lq_e ?_|refine bq_e (by decide) ?_)|((with_reducible refine zC (b:=?b_) ?hb_ ?_ ?_);case hb_=>rfl)|((conv=>whnf);first|(with_reducible refine hK_ _ _ ?_;try clear hK_ K_)|(with_reducible refine fun (g_:Sl) (o_:Ow)=>?_)|(with_reducible first|exact True.intro|refine And.intro trivial ?_|refine And.intro ?_ ?_)|exact Nat.le_of_ble_eq_true rfl|exact Or.inl rfl|(intro h_;cases h_)|(intro h_;(try simp only [vS1] at h_))|rfl))) <;> (try (conv=>whnf)) <;> (try first|change (_:Int)≤_|change (_:Nat)≤_) <;> (try ((fail_if_success (with_reducible apply Exists.intro));(try dsimp only);(try simp only [vS1]))) <;> (try simp (disch:=omega) only [vS3,Int.add_sub_cancel,tn1,tnp,tnc,vS2] at *)
     all_goals (try (fail_if_success (with_reducible apply Exists.intro));first|with_reducible assumption|omega|exact mdl (by omega)|exact ilo1 (by omega)|exact ilo2 (by omega)|exact ihi1 (by omega) (by omega)|exact ihi2 (by omega) (by omega))
   | some R=>
    rw [hR] at hF
    show awp' _ _ (Fin' _ _ (rowI R)) _ _
    (repeat' (first|(with_reducible first|exact True.intro|refine zQ ?_|(refine zG hG_ ?_;intro K_ hK_)|(refine zR ?_;intro K_ hK_)|(refine hK_ _ _ ?_;try clear hK_ K_)|refine sq_n ?_|refine sq_r ?_|refine sq_e ?_|refine bq_n ?_|refine bq_r ?_|refine bq_q ?_|refine zB ?_|refine zX ?_|refine zT ?_|refine zK ?_|refine gq_n ?_|refine gq_r ?_|refine gq_e ?_|refine lq_n ?_|refine lq_r ?_|refine lq_e ?_|refine bq_e (by decide) ?_)|((with_reducible refine zC (b:=?b_) ?hb_ ?_ ?_);case hb_=>rfl)|((conv=>whnf);first|(with_reducible refine hK_ _ _ ?_;try clear hK_ K_)|(with_reducible refine fun (g_:Sl) (o_:Ow)=>?_)|(with_reducible first|exact True.intro|refine And.intro trivial ?_|refine And.intro ?_ ?_)|exact Nat.le_of_ble_eq_true rfl|exact Or.inl rfl|(intro h_;cases h_)|(intro h_;(try simp only [vS1] at h_))|rfl))) <;> (try (conv=>whnf)) <;> (try first|change (_:Int)≤_|change (_:Nat)≤_) <;> (try ((fail_if_success (with_reducible apply Exists.intro));(try dsimp only);(try simp only [vS1]))) <;> (try simp (disch:=omega) only [vS3,Int.add_sub_cancel,tn1,tnp,tnc,vS2] at *)
    all_goals (try (fail_if_success (with_reducible apply Exists.intro));first|with_reducible assumption|omega|exact mdl (by omega)|exact ilo1 (by omega)|exact ilo2 (by omega)|exact ihi1 (by omega) (by omega)|exact ihi2 (by omega) (by omega))
    refine awp'_loopG (α:=Nat) (fun k ver_=>[(9,vInt k)]) (fun k ver_=>[]) (fun k ver_=>[]) (fun k=>(a≤k∧k≤64)∧some R=fsR (fun k=>chM M m (l ++ [(k:Int)]) (k + 1)) k M.length) (fun k=>M.length - k) [0,1,3] [] (a) ?_
    conv=>whnf
    refine ⟨⟨?inv4_,?vals4_,?own4_,?fix4_⟩,?body4_⟩
    case' vals4_=>(repeat' (first|(with_reducible first|exact True.intro|refine And.intro ?_ ?_|refine Head.mk ?_ ?_ ?_ ?_)|((conv=>lhs;whnf);first|(with_reducible first|rfl|exact vInt_s (by omega))|exact rfl)|((conv=>whnf);first|(with_reducible first|exact True.intro|refine And.intro ?_ ?_)))) <;> (try (conv=>lhs;whnf))
    case' own4_=>(repeat' (first|(with_reducible first|exact True.intro|refine And.intro ?_ ?_|refine Head.mk ?_ ?_ ?_ ?_)|((conv=>lhs;whnf);first|(with_reducible first|rfl|exact vInt_s (by omega))|exact rfl)|((conv=>whnf);first|(with_reducible first|exact True.intro|refine And.intro ?_ ?_)))) <;> (try (conv=>lhs;whnf))
    case' fix4_=>(repeat' (first|(with_reducible first|exact True.intro|refine And.intro ?_ ?_|refine Head.mk ?_ ?_ ?_ ?_)|((conv=>lhs;whnf);first|(with_reducible first|rfl|exact vInt_s (by omega))|exact rfl)|((conv=>whnf);first|(with_reducible first|exact True.intro|refine And.intro ?_ ?_)))) <;> (try (conv=>lhs;whnf))
    ·exact ⟨⟨Nat.le_refl _,by omega⟩,hF⟩
    rintro k g_ o_ v_ ⟨⟨hk1,hk2⟩,hk3⟩
    rcases Nat.lt_or_ge k M.length with hkl|hkl
    ·cases hch:chM M m (l ++ [(k:Int)]) (k + 1) with
     | none=>
      (repeat' (first|(with_reducible first|exact True.intro|refine zQ ?_|(refine zG hG_ ?_;intro K_ hK_)|(refine zR ?_;intro K_ hK_)|(refine hK_ _ _ ?_;try clear hK_ K_)|refine sq_n ?_|refine sq_r ?_|refine sq_e ?_|refine bq_n ?_|refine bq_r ?_|refine bq_q ?_|refine zB ?_|refine zX ?_|refine zT ?_|refine zK ?_|refine gq_n ?_|refine gq_r ?_|refine gq_e ?_|refine lq_n ?_|refine lq_r ?_|refine lq_e ?_|refine bq_e (by decide) ?_)|((with_reducible refine zC (b:=?b_) ?hb_ ?_ ?_);case hb_=>rfl)|((conv=>whnf);first|(with_reducible refine hK_ _ _ ?_;try clear hK_ K_)|(with_reducible refine fun (g_:Sl) (o_:Ow)=>?_)|(with_reducible first|exact True.intro|refine And.intro trivial ?_|refine And.intro ?_ ?_)|exact Nat.le_of_ble_eq_true rfl|exact Or.inl rfl|(intro h_;cases h_)|(intro h_;(try simp only [vS1] at h_))|rfl))) <;> (try (conv=>whnf)) <;> (try first|change (_:Int)≤_|change (_:Nat)≤_) <;> (try ((fail_if_success (with_reducible apply Exists.intro));(try dsimp only);(try simp only [vS1]))) <;> (try simp (disch:=omega) only [vS3,Int.add_sub_cancel,tn1,tnp,tnc,vS2] at *)
      all_goals (try (fail_if_success (with_reducible apply Exists.intro));first|with_reducible assumption|omega|exact mdl (by omega)|exact ilo1 (by omega)|exact ilo2 (by omega)|exact ihi1 (by omega) (by omega)|exact ihi2 (by omega) (by omega))
      conv=>pattern (aeffV _ _ _ _);whnf
      have hres:(chLt n).res (M,l ++ [(k:Int)],(k:Int) + 1,((m + 1:Nat):Int) - 1,())=.val (.one (.d .nil)):=by
       show chVal (chM M (((m + 1:Nat):Int) - 1).toNat (l ++ [(k:Int)]) ((k:Int) + 1).toNat)=_
       rw [show (((m + 1:Nat):Int) - 1).toNat=m by omega,show ((k:Int) + 1).toNat=k + 1 by omega,hch];rfl
      rw [hres]
      (repeat' (first|(with_reducible first|exact True.intro|refine zQ ?_|(refine zG hG_ ?_;intro K_ hK_)|(refine zR ?_;intro K_ hK_)|(refine hK_ _ _ ?_;try clear hK_ K_)|refine sq_n ?_|refine sq_r ?_|refine sq_e ?_|refine bq_n ?_|refine bq_r ?_|refine bq_q ?_|refine zB ?_|refine zX ?_|refine zT ?_|refine zK ?_|refine gq_n ?_|refine gq_r ?_|refine gq_e ?_|refine lq_n ?_|refine lq_r ?_|refine lq_e ?_|refine bq_e (by decide) ?_)|((with_reducible refine zC (b:=?b_) ?hb_ ?_ ?_);case hb_=>rfl)|((conv=>whnf);first|(with_reducible refine hK_ _ _ ?_;try clear hK_ K_)|(with_reducible refine fun (g_:Sl) (o_:Ow)=>?_)|(with_reducible first|exact True.intro|refine And.intro trivial ?_|refine And.intro ?_ ?_)|exact Nat.le_of_ble_eq_true rfl|exact Or.inl rfl|(intro h_;cases h_)|(intro h_;(try simp only [vS1] at h_))|rfl))) <;> (try (conv=>whnf)) <;> (try first|change (_:Int)≤_|change (_:Nat)≤_) <;> (try ((fail_if_success (with_reducible apply Exists.intro));(try dsimp only);(try simp only [vS1]))) <;> (try simp (disch:=omega) only [vS3,Int.add_sub_cancel,tn1,tnp,tnc,vS2] at *)
      all_goals (try (fail_if_success (with_reducible apply Exists.intro));first|with_reducible assumption|omega|exact mdl (by omega)|exact ilo1 (by omega)|exact ilo2 (by omega)|exact ihi1 (by omega) (by omega)|exact ihi2 (by omega) (by omega))
      ·exact ⟨⟨hM,hL.app (by omega) h_⟩,⟨by omega,by omega⟩,by omega,by rw [List.length_append,List.length_singleton];omega,by rw [List.length_append,List.length_singleton];omega⟩
      ·exact ⟨k + 1,by omega,⟨⟨by omega,by omega⟩,hk3.trans (fsR_no hkl hch)⟩,by (repeat' (first|(with_reducible first|exact True.intro|refine And.intro ?_ ?_|refine Head.mk ?_ ?_ ?_ ?_)|((conv=>lhs;whnf);first|(with_reducible first|rfl|exact vInt_s (by omega))|exact rfl)|((conv=>whnf);first|(with_reducible first|exact True.intro|refine And.intro ?_ ?_)))) <;> (try (conv=>lhs;whnf))⟩
     | some r=>
      have hrl:0 < r.length:=by rw [ch_len M m _ _ r hch,List.length_append,List.length_singleton];omega
      have hRr:R=r:=by
       have:=hk3.trans (fsR_yes hkl hch)
       injection this
      (repeat' (first|(with_reducible first|exact True.intro|refine zQ ?_|(refine zG hG_ ?_;intro K_ hK_)|(refine zR ?_;intro K_ hK_)|(refine hK_ _ _ ?_;try clear hK_ K_)|refine sq_n ?_|refine sq_r ?_|refine sq_e ?_|refine bq_n ?_|refine bq_r ?_|refine bq_q ?_|refine zB ?_|refine zX ?_|refine zT ?_|refine zK ?_|refine gq_n ?_|refine gq_r ?_|refine gq_e ?_|refine lq_n ?_|refine lq_r ?_|refine lq_e ?_|refine bq_e (by decide) ?_)|((with_reducible refine zC (b:=?b_) ?hb_ ?_ ?_);case hb_=>rfl)|((conv=>whnf);first|(with_reducible refine hK_ _ _ ?_;try clear hK_ K_)|(with_reducible refine fun (g_:Sl) (o_:Ow)=>?_)|(with_reducible first|exact True.intro|refine And.intro trivial ?_|refine And.intro ?_ ?_)|exact Nat.le_of_ble_eq_true rfl|exact Or.inl rfl|(intro h_;cases h_)|(intro h_;(try simp only [vS1] at h_))|rfl))) <;> (try (conv=>whnf)) <;> (try first|change (_:Int)≤_|change (_:Nat)≤_) <;> (try ((fail_if_success (with_reducible apply Exists.intro));(try dsimp only);(try simp only [vS1]))) <;> (try simp (disch:=omega) only [vS3,Int.add_sub_cancel,tn1,tnp,tnc,vS2] at *)
      all_goals (try (fail_if_success (with_reducible apply Exists.intro));first|with_reducible assumption|omega|exact mdl (by omega)|exact ilo1 (by omega)|exact ilo2 (by omega)|exact ihi1 (by omega) (by omega)|exact ihi2 (by omega) (by omega))
      conv=>pattern (aeffV _ _ _ _);whnf
      have hres:(chLt n).res (M,l ++ [(k:Int)],(k:Int) + 1,((m + 1:Nat):Int) - 1,())=rowI r:=by
       show chVal (chM M (((m + 1:Nat):Int) - 1).toNat (l ++ [(k:Int)]) ((k:Int) + 1).toNat)=_
       rw [show (((m + 1:Nat):Int) - 1).toNat=m by omega,show ((k:Int) + 1).toNat=k + 1 by omega,hch];rfl
      rw [hres]
      (repeat' (first|(with_reducible first|exact True.intro|refine zQ ?_|(refine zG hG_ ?_;intro K_ hK_)|(refine zR ?_;intro K_ hK_)|(refine hK_ _ _ ?_;try clear hK_ K_)|refine sq_n ?_|refine sq_r ?_|refine sq_e ?_|refine bq_n ?_|refine bq_r ?_|refine bq_q ?_|refine zB ?_|refine zX ?_|refine zT ?_|refine zK ?_|refine gq_n ?_|refine gq_r ?_|refine gq_e ?_|refine lq_n ?_|refine lq_r ?_|refine lq_e ?_|refine bq_e (by decide) ?_)|((with_reducible refine zC (b:=?b_) ?hb_ ?_ ?_);case hb_=>rfl)|((conv=>whnf);first|(with_reducible refine hK_ _ _ ?_;try clear hK_ K_)|(with_reducible refine fun (g_:Sl) (o_:Ow)=>?_)|(with_reducible first|exact True.intro|refine And.intro trivial ?_|refine And.intro ?_ ?_)|exact Nat.le_of_ble_eq_true rfl|exact Or.inl rfl|(intro h_;cases h_)|(intro h_;(try simp only [vS1] at h_))|rfl))) <;> (try (conv=>whnf)) <;> (try first|change (_:Int)≤_|change (_:Nat)≤_) <;> (try ((fail_if_success (with_reducible apply Exists.intro));(try dsimp only);(try simp only [vS1]))) <;> (try simp (disch:=omega) only [vS3,Int.add_sub_cancel,tn1,tnp,tnc,vS2] at *)
      all_goals (try (fail_if_success (with_reducible apply Exists.intro));first|with_reducible assumption|omega|exact mdl (by omega)|exact ilo1 (by omega)|exact ilo2 (by omega)|exact ihi1 (by omega) (by omega)|exact ihi2 (by omega) (by omega))
      ·exact ⟨⟨hM,hL.app (by omega) h_⟩,⟨by omega,by omega⟩,by omega,by rw [List.length_append,List.length_singleton];omega,by rw [List.length_append,List.length_singleton];omega⟩
      ·exact congrArg some hRr.symm
    ·rw [fsR_end hkl] at hk3
     cases hk3
theorem choose_ok:Good1 Try.prog n_impl_choose chooseC:=by
 refine Good1.imp (ch_all 65) fun x h=>⟨⟨h,?_⟩,rfl⟩
 obtain ⟨-,-,-,h4,-⟩:=h.ok
 exact Int.lt_of_le_of_lt (Int.le_trans (Int.le_add_of_nonneg_left (Int.natCast_nonneg _)) h4) (by decide)
theorem masks_len (xs:List Pt):(masksM xs).length=xs.length:=by simp [masksM]
theorem masks_get {xs:List Pt} {k:Nat} (h:k < xs.length):(masksM xs).getD k []=maskM xs k:=by
 unfold masksM
 rw [getD_lt _ (by simpa using h),List.getElem_map,List.getElem_range]
theorem mask_yes {xs:List Pt} (hr:roomOk xs=true) {k:Nat} (h:k < xs.length):maskM xs k=(floorPts xs).map (seesS xs (pAt xs k)):=mask_ok (by unfold hasCor;rw [hr];simp [btw];omega)
theorem floor_le {xs:List Pt} (hr:roomOk xs=true):(floorPts xs).length≤1048576:=Nat.le_trans (floor_len xs) (by decide)
theorem masks_ok {xs:List Pt} (hr:roomOk xs=true):MOk (masksM xs):=by
 have hxl:=room_len hr
 have hl:∀ k,k < xs.length→((masksM xs).getD k []).length=(floorPts xs).length:=fun k hk=>by rw [masks_get hk,mask_yes hr hk,List.length_map]
 have hf:=floor_le hr
 have hw:wid (masksM xs)=(floorPts xs).length:=hl 0 (by omega)
 refine ⟨by rw [masks_len];omega,by rw [masks_len];omega,fun k hk=>?_,by rw [hw];omega⟩
 rw [masks_len] at hk
 rw [hl k hk,hw]
def masksTo (xs:List Pt) (k:Nat):Msk:=(List.range k).map fun j:Nat=>maskM xs j
theorem masksTo_succ (xs:List Pt) (k:Nat):masksTo xs k ++ [maskM xs k]=masksTo xs (k + 1):=by unfold masksTo;rw [List.range_succ,List.map_append];rfl
theorem masksTo_len (xs:List Pt) (k:Nat):(masksTo xs k).length=k:=by simp [masksTo]
def fewC:Con:=mkCon [.room] (fun x=>x.1.length≤1048576) fun x=>rowI (fewM x.1)
theorem few_bad {xs:List Pt} (h:roomOk xs=false):fewM xs=[]:=by unfold fewM;rw [h];rfl
theorem few_ok {xs:List Pt} (h:roomOk xs=true):fewM xs=(fewO (masksM xs)).getD []:=by unfold fewM;rw [h];rfl
theorem lok_nil (M:Msk):LOk M []:=⟨by simp,fun j hj=>by simp at hj⟩
theorem iFewest_ok:Good1 Try.prog n_impl_FewestCorners fewC:=by
 refine good_ofG (tys:=tyL) (env:=[(n_impl_RoomOk,roomOkC),(n_impl_SeenMask,maskC),(n_impl_choose,chooseC)]) (envw:=[]) (envd:=[]) [10,20,22,32] [] [] [20] [] mixed tys ⟨iRoomOk_ok,iSeenMask_ok,choose_ok,trivial⟩ trivial trivial Try.func33 rfl (by kernel_rfl) (by decide) (by kernel_rfl) ?_
 have hG_:=kpz [(0,[1]),(1,[1,9]),(2,[2]),(3,[1,3]),(4,[1,3,13,14]),(5,[1,3,13,14,15]),(6,[1,3,4,13,14]),(7,[1,3,13,14]),(8,[1,3,13,14]),(9,[3,5]),(10,[3,5,27]),(11,[3,5]),(12,[3,5,6]),(13,[3,5,6,34]),(14,[2]),(15,[2])] [(3,[10]),(4,[10]),(5,[10]),(6,[10]),(7,[10,20]),(8,[10,20]),(9,[10]),(10,[10]),(11,[10,32]),(12,[10,32]),(13,[10,32]),(14,[10,32]),(15,[10])] [] []
 rintro ⟨(xs:List Pt),⟨⟩⟩ (h1:xs.length≤_)
 (repeat' (first|(with_reducible first|exact True.intro|refine zQ ?_|(refine zG hG_ ?_;intro K_ hK_)|(refine zR ?_;intro K_ hK_)|(refine hK_ _ _ ?_;try clear hK_ K_)|refine sq_n ?_|refine sq_r ?_|refine sq_e ?_|refine bq_n ?_|refine bq_r ?_|refine bq_q ?_|refine zB ?_|refine zX ?_|refine zT ?_|refine zK ?_|refine gq_n ?_|refine gq_r ?_|refine gq_e ?_|refine lq_n ?_|refine lq_r ?_|refine lq_e ?_|refine bq_e (by decide) ?_)|((with_reducible refine zC (b:=?b_) ?hb_ ?_ ?_);case hb_=>rfl)|((conv=>whnf);first|(with_reducible refine hK_ _ _ ?_;try clear hK_ K_)|(with_reducible refine fun (g_:Sl) (o_:Ow)=>?_)|(with_reducible first|exact True.intro|refine And.intro trivial ?_|refine And.intro ?_ ?_)|exact Nat.le_of_ble_eq_true rfl|exact Or.inl rfl|(intro h_;cases h_)|(intro h_;(try simp only [vS1] at h_))|rfl))) <;> (try (conv=>whnf)) <;> (try first|change (_:Int)≤_|change (_:Nat)≤_) <;> (try ((fail_if_success (with_reducible apply Exists.intro));(try dsimp only);(try simp only [vS1]))) <;> (try simp (disch:=omega) only [vS3,Int.add_sub_cancel,tn1,tnp,tnc,vS2] at *)
 all_goals (try (fail_if_success (with_reducible apply Exists.intro));first|with_reducible assumption|omega|exact mdl (by omega)|exact ilo1 (by omega)|exact ilo2 (by omega)|exact ihi1 (by omega) (by omega)|exact ihi2 (by omega) (by omega))
 ·exact few_bad h_
 have hr:roomOk xs=true:=h_
 have hxl:=room_len hr
 have hmo:=masks_ok hr
 refine awp'_loopG (α:=Nat) (fun k ver_=>[(14,vInt k)]) (fun k ver_=>[(3,10,false,.row t_sl_bool (.s .bool) (masksTo xs k))]) (fun k ver_=>[]) (fun k=>k≤xs.length) (fun k=>xs.length - k) [1,13] [] (0) ?_
 conv=>whnf
 refine ⟨⟨?inv5_,?vals5_,?own5_,?fix5_⟩,?body5_⟩
 case' vals5_=>(repeat' (first|(with_reducible first|exact True.intro|refine And.intro ?_ ?_|refine Head.mk ?_ ?_ ?_ ?_)|((conv=>lhs;whnf);first|(with_reducible first|rfl|exact vInt_s (by omega))|exact rfl)|((conv=>whnf);first|(with_reducible first|exact True.intro|refine And.intro ?_ ?_)))) <;> (try (conv=>lhs;whnf))
 case' own5_=>(repeat' (first|(with_reducible first|exact True.intro|refine And.intro ?_ ?_|refine Head.mk ?_ ?_ ?_ ?_)|((conv=>lhs;whnf);first|(with_reducible first|rfl|exact vInt_s (by omega))|exact rfl)|((conv=>whnf);first|(with_reducible first|exact True.intro|refine And.intro ?_ ?_)))) <;> (try (conv=>lhs;whnf))
 case' fix5_=>(repeat' (first|(with_reducible first|exact True.intro|refine And.intro ?_ ?_|refine Head.mk ?_ ?_ ?_ ?_)|((conv=>lhs;whnf);first|(with_reducible first|rfl|exact vInt_s (by omega))|exact rfl)|((conv=>whnf);first|(with_reducible first|exact True.intro|refine And.intro ?_ ?_)))) <;> (try (conv=>lhs;whnf))
 ·exact Nat.zero_le _
 rintro k g_ o_ v_ hk
 have hml:=masksTo_len xs k
 (repeat' (first|(with_reducible first|exact True.intro|refine zQ ?_|(refine zG hG_ ?_;intro K_ hK_)|(refine zR ?_;intro K_ hK_)|(refine hK_ _ _ ?_;try clear hK_ K_)|refine sq_n ?_|refine sq_r ?_|refine sq_e ?_|refine bq_n ?_|refine bq_r ?_|refine bq_q ?_|refine zB ?_|refine zX ?_|refine zT ?_|refine zK ?_|refine gq_n ?_|refine gq_r ?_|refine gq_e ?_|refine lq_n ?_|refine lq_r ?_|refine lq_e ?_|refine bq_e (by decide) ?_)|((with_reducible refine zC (b:=?b_) ?hb_ ?_ ?_);case hb_=>rfl)|((conv=>whnf);first|(with_reducible refine hK_ _ _ ?_;try clear hK_ K_)|(with_reducible refine fun (g_:Sl) (o_:Ow)=>?_)|(with_reducible first|exact True.intro|refine And.intro trivial ?_|refine And.intro ?_ ?_)|exact Nat.le_of_ble_eq_true rfl|exact Or.inl rfl|(intro h_;cases h_)|(intro h_;(try simp only [vS1] at h_))|rfl))) <;> (try (conv=>whnf)) <;> (try first|change (_:Int)≤_|change (_:Nat)≤_) <;> (try ((fail_if_success (with_reducible apply Exists.intro));(try dsimp only);(try simp only [vS1]))) <;> (try simp (disch:=omega) only [vS3,Int.add_sub_cancel,tn1,tnp,tnc,vS2] at *)
 all_goals (try (fail_if_success (with_reducible apply Exists.intro));first|with_reducible assumption|omega|exact mdl (by omega)|exact ilo1 (by omega)|exact ilo2 (by omega)|exact ihi1 (by omega) (by omega)|exact ihi2 (by omega) (by omega))
 ·refine ⟨k + 1,by omega,by omega,?_⟩
  (repeat' (first|(with_reducible first|exact True.intro|refine And.intro ?_ ?_|refine Head.mk ?_ ?_ ?_ ?_)|((conv=>lhs;whnf);first|(with_reducible first|rfl|exact vInt_s (by omega))|exact rfl)|((conv=>whnf);first|(with_reducible first|exact True.intro|refine And.intro ?_ ?_)))) <;> (try (conv=>lhs;whnf))
  exact congrArg (Own.row t_sl_bool (.s .bool)) (masksTo_succ xs k)
 obtain rfl:k=xs.length:=by omega
 refine st_frz (pl:=[10]) (ts:=[3,5]) (ps:=[]) ?_
 conv=>whnf
 refine ⟨rfl,?_⟩
 have hMl:=masks_len xs
 have hfo:fewO (masksM xs)=fsR (fun n=>chM (masksM xs) n [] 0) 1 (xs.length + 1):=by unfold fewO;rw [hMl]
 have hme:masksTo xs xs.length=masksM xs:=rfl
 rw [hme]
 have hfw:=few_ok hr
 generalize masksM xs=M at *
 refine awp'_loopG (α:=Nat) (fun n ver_=>[(5,vInt n)]) (fun n ver_=>[]) (fun n ver_=>[]) (fun n=>(1≤n∧n≤xs.length + 1)∧fewO M=fsR (fun n=>chM M n [] 0) n (xs.length + 1)) (fun n=>xs.length + 1 - n) [3] [10] (1) ?_
 conv=>whnf
 refine ⟨⟨?inv6_,?vals6_,?own6_,?fix6_⟩,?body6_⟩
 case' vals6_=>(repeat' (first|(with_reducible first|exact True.intro|refine And.intro ?_ ?_|refine Head.mk ?_ ?_ ?_ ?_)|((conv=>lhs;whnf);first|(with_reducible first|rfl|exact vInt_s (by omega))|exact rfl)|((conv=>whnf);first|(with_reducible first|exact True.intro|refine And.intro ?_ ?_)))) <;> (try (conv=>lhs;whnf))
 case' own6_=>(repeat' (first|(with_reducible first|exact True.intro|refine And.intro ?_ ?_|refine Head.mk ?_ ?_ ?_ ?_)|((conv=>lhs;whnf);first|(with_reducible first|rfl|exact vInt_s (by omega))|exact rfl)|((conv=>whnf);first|(with_reducible first|exact True.intro|refine And.intro ?_ ?_)))) <;> (try (conv=>lhs;whnf))
 case' fix6_=>(repeat' (first|(with_reducible first|exact True.intro|refine And.intro ?_ ?_|refine Head.mk ?_ ?_ ?_ ?_)|((conv=>lhs;whnf);first|(with_reducible first|rfl|exact vInt_s (by omega))|exact rfl)|((conv=>whnf);first|(with_reducible first|exact True.intro|refine And.intro ?_ ?_)))) <;> (try (conv=>lhs;whnf))
 ·exact ⟨⟨Nat.le_refl _,by omega⟩,hfo⟩
 rintro n g_ o_ v_ ⟨⟨hn1,hn2⟩,hn3⟩
 rcases Nat.lt_or_ge n (xs.length + 1) with hnl|hnl
 ·have hpre:ChOk M [] 0 n:=⟨⟨hmo,lok_nil M⟩,⟨by omega,by omega⟩,by omega,by simp;omega,by simp;omega⟩
  cases hch:chM M n [] 0 with
  | none=>
   (repeat' (first|(with_reducible first|exact True.intro|refine zQ ?_|(refine zG hG_ ?_;intro K_ hK_)|(refine zR ?_;intro K_ hK_)|(refine hK_ _ _ ?_;try clear hK_ K_)|refine sq_n ?_|refine sq_r ?_|refine sq_e ?_|refine bq_n ?_|refine bq_r ?_|refine bq_q ?_|refine zB ?_|refine zX ?_|refine zT ?_|refine zK ?_|refine gq_n ?_|refine gq_r ?_|refine gq_e ?_|refine lq_n ?_|refine lq_r ?_|refine lq_e ?_|refine bq_e (by decide) ?_)|((with_reducible refine zC (b:=?b_) ?hb_ ?_ ?_);case hb_=>rfl)|((conv=>whnf);first|(with_reducible refine hK_ _ _ ?_;try clear hK_ K_)|(with_reducible refine fun (g_:Sl) (o_:Ow)=>?_)|(with_reducible first|exact True.intro|refine And.intro trivial ?_|refine And.intro ?_ ?_)|exact Nat.le_of_ble_eq_true rfl|exact Or.inl rfl|(intro h_;cases h_)|(intro h_;(try simp only [vS1] at h_))|rfl))) <;> (try (conv=>whnf)) <;> (try first|change (_:Int)≤_|change (_:Nat)≤_) <;> (try ((fail_if_success (with_reducible apply Exists.intro));(try dsimp only);(try simp only [vS1]))) <;> (try simp (disch:=omega) only [vS3,Int.add_sub_cancel,tn1,tnp,tnc,vS2] at *)
   all_goals (try (fail_if_success (with_reducible apply Exists.intro));first|with_reducible assumption|omega|exact mdl (by omega)|exact ilo1 (by omega)|exact ilo2 (by omega)|exact ihi1 (by omega) (by omega)|exact ihi2 (by omega) (by omega))
   conv=>pattern (aeffV _ _ _ _);whnf
   have hres:chooseC.res (M,([]:List Int),(0:Int),(n:Int),())=.val (.one (.d .nil)):=by
    show chVal (chM M n [] 0)=_
    rw [hch];rfl
   rw [hres]
   (repeat' (first|(with_reducible first|exact True.intro|refine zQ ?_|(refine zG hG_ ?_;intro K_ hK_)|(refine zR ?_;intro K_ hK_)|(refine hK_ _ _ ?_;try clear hK_ K_)|refine sq_n ?_|refine sq_r ?_|refine sq_e ?_|refine bq_n ?_|refine bq_r ?_|refine bq_q ?_|refine zB ?_|refine zX ?_|refine zT ?_|refine zK ?_|refine gq_n ?_|refine gq_r ?_|refine gq_e ?_|refine lq_n ?_|refine lq_r ?_|refine lq_e ?_|refine bq_e (by decide) ?_)|((with_reducible refine zC (b:=?b_) ?hb_ ?_ ?_);case hb_=>rfl)|((conv=>whnf);first|(with_reducible refine hK_ _ _ ?_;try clear hK_ K_)|(with_reducible refine fun (g_:Sl) (o_:Ow)=>?_)|(with_reducible first|exact True.intro|refine And.intro trivial ?_|refine And.intro ?_ ?_)|exact Nat.le_of_ble_eq_true rfl|exact Or.inl rfl|(intro h_;cases h_)|(intro h_;(try simp only [vS1] at h_))|rfl))) <;> (try (conv=>whnf)) <;> (try first|change (_:Int)≤_|change (_:Nat)≤_) <;> (try ((fail_if_success (with_reducible apply Exists.intro));(try dsimp only);(try simp only [vS1]))) <;> (try simp (disch:=omega) only [vS3,Int.add_sub_cancel,tn1,tnp,tnc,vS2] at *)
   all_goals (try (fail_if_success (with_reducible apply Exists.intro));first|with_reducible assumption|omega|exact mdl (by omega)|exact ilo1 (by omega)|exact ilo2 (by omega)|exact ihi1 (by omega) (by omega)|exact ihi2 (by omega) (by omega))
   exact ⟨n + 1,by omega,⟨⟨by omega,by omega⟩,hn3.trans (fsR_no (by omega) hch)⟩,by (repeat' (first|(with_reducible first|exact True.intro|refine And.intro ?_ ?_|refine Head.mk ?_ ?_ ?_ ?_)|((conv=>lhs;whnf);first|(with_reducible first|rfl|exact vInt_s (by omega))|exact rfl)|((conv=>whnf);first|(with_reducible first|exact True.intro|refine And.intro ?_ ?_)))) <;> (try (conv=>lhs;whnf))⟩
  | some r=>
   have hrl:=ch_len M n [] 0 r hch
   (repeat' (first|(with_reducible first|exact True.intro|refine zQ ?_|(refine zG hG_ ?_;intro K_ hK_)|(refine zR ?_;intro K_ hK_)|(refine hK_ _ _ ?_;try clear hK_ K_)|refine sq_n ?_|refine sq_r ?_|refine sq_e ?_|refine bq_n ?_|refine bq_r ?_|refine bq_q ?_|refine zB ?_|refine zX ?_|refine zT ?_|refine zK ?_|refine gq_n ?_|refine gq_r ?_|refine gq_e ?_|refine lq_n ?_|refine lq_r ?_|refine lq_e ?_|refine bq_e (by decide) ?_)|((with_reducible refine zC (b:=?b_) ?hb_ ?_ ?_);case hb_=>rfl)|((conv=>whnf);first|(with_reducible refine hK_ _ _ ?_;try clear hK_ K_)|(with_reducible refine fun (g_:Sl) (o_:Ow)=>?_)|(with_reducible first|exact True.intro|refine And.intro trivial ?_|refine And.intro ?_ ?_)|exact Nat.le_of_ble_eq_true rfl|exact Or.inl rfl|(intro h_;cases h_)|(intro h_;(try simp only [vS1] at h_))|rfl))) <;> (try (conv=>whnf)) <;> (try first|change (_:Int)≤_|change (_:Nat)≤_) <;> (try ((fail_if_success (with_reducible apply Exists.intro));(try dsimp only);(try simp only [vS1]))) <;> (try simp (disch:=omega) only [vS3,Int.add_sub_cancel,tn1,tnp,tnc,vS2] at *)
   all_goals (try (fail_if_success (with_reducible apply Exists.intro));first|with_reducible assumption|omega|exact mdl (by omega)|exact ilo1 (by omega)|exact ilo2 (by omega)|exact ihi1 (by omega) (by omega)|exact ihi2 (by omega) (by omega))
   conv=>pattern (aeffV _ _ _ _);whnf
   have hres:chooseC.res (M,([]:List Int),(0:Int),(n:Int),())=rowI r:=by
    show chVal (chM M n [] 0)=_
    rw [hch];rfl
   rw [hres]
   (repeat' (first|(with_reducible first|exact True.intro|refine zQ ?_|(refine zG hG_ ?_;intro K_ hK_)|(refine zR ?_;intro K_ hK_)|(refine hK_ _ _ ?_;try clear hK_ K_)|refine sq_n ?_|refine sq_r ?_|refine sq_e ?_|refine bq_n ?_|refine bq_r ?_|refine bq_q ?_|refine zB ?_|refine zX ?_|refine zT ?_|refine zK ?_|refine gq_n ?_|refine gq_r ?_|refine gq_e ?_|refine lq_n ?_|refine lq_r ?_|refine lq_e ?_|refine bq_e (by decide) ?_)|((with_reducible refine zC (b:=?b_) ?hb_ ?_ ?_);case hb_=>rfl)|((conv=>whnf);first|(with_reducible refine hK_ _ _ ?_;try clear hK_ K_)|(with_reducible refine fun (g_:Sl) (o_:Ow)=>?_)|(with_reducible first|exact True.intro|refine And.intro trivial ?_|refine And.intro ?_ ?_)|exact Nat.le_of_ble_eq_true rfl|exact Or.inl rfl|(intro h_;cases h_)|(intro h_;(try simp only [vS1] at h_))|rfl))) <;> (try (conv=>whnf)) <;> (try first|change (_:Int)≤_|change (_:Nat)≤_) <;> (try ((fail_if_success (with_reducible apply Exists.intro));(try dsimp only);(try simp only [vS1]))) <;> (try simp (disch:=omega) only [vS3,Int.add_sub_cancel,tn1,tnp,tnc,vS2] at *)
   all_goals (try (fail_if_success (with_reducible apply Exists.intro));first|with_reducible assumption|omega|exact mdl (by omega)|exact ilo1 (by omega)|exact ilo2 (by omega)|exact ihi1 (by omega) (by omega)|exact ihi2 (by omega) (by omega))
   exact congrArg some (by rw [hfw,hn3.trans (fsR_yes (by omega) hch)];rfl)
 ·(repeat' (first|(with_reducible first|exact True.intro|refine zQ ?_|(refine zG hG_ ?_;intro K_ hK_)|(refine zR ?_;intro K_ hK_)|(refine hK_ _ _ ?_;try clear hK_ K_)|refine sq_n ?_|refine sq_r ?_|refine sq_e ?_|refine bq_n ?_|refine bq_r ?_|refine bq_q ?_|refine zB ?_|refine zX ?_|refine zT ?_|refine zK ?_|refine gq_n ?_|refine gq_r ?_|refine gq_e ?_|refine lq_n ?_|refine lq_r ?_|refine lq_e ?_|refine bq_e (by decide) ?_)|((with_reducible refine zC (b:=?b_) ?hb_ ?_ ?_);case hb_=>rfl)|((conv=>whnf);first|(with_reducible refine hK_ _ _ ?_;try clear hK_ K_)|(with_reducible refine fun (g_:Sl) (o_:Ow)=>?_)|(with_reducible first|exact True.intro|refine And.intro trivial ?_|refine And.intro ?_ ?_)|exact Nat.le_of_ble_eq_true rfl|exact Or.inl rfl|(intro h_;cases h_)|(intro h_;(try simp only [vS1] at h_))|rfl))) <;> (try (conv=>whnf)) <;> (try first|change (_:Int)≤_|change (_:Nat)≤_) <;> (try ((fail_if_success (with_reducible apply Exists.intro));(try dsimp only);(try simp only [vS1]))) <;> (try simp (disch:=omega) only [vS3,Int.add_sub_cancel,tn1,tnp,tnc,vS2] at *)
  all_goals (try (fail_if_success (with_reducible apply Exists.intro));first|with_reducible assumption|omega|exact mdl (by omega)|exact ilo1 (by omega)|exact ilo2 (by omega)|exact ihi1 (by omega) (by omega)|exact ihi2 (by omega) (by omega))
  rw [hfw,hn3,fsR_end (by omega)];rfl
def cntC:Con:=mkCon [.room] (fun x=>x.1.length≤1048576) fun x=>vI ((fewM x.1).length)
theorem iCount_ok:Good1 Try.prog n_impl_CountGuards cntC:=by
 refine good_ofG (tys:=tyL) (env:=[(n_impl_FewestCorners,fewC)]) (envw:=[]) (envd:=[]) [] [] [] [] [] mixed tys ⟨iFewest_ok,trivial⟩ trivial trivial Try.func37 rfl (by kernel_rfl) (by decide) (by kernel_rfl) ?_
 have hG_:=kpz [(0,[1]),(1,[2])] [] [] []
 rintro ⟨(xs:List Pt),⟨⟩⟩ (h1:xs.length≤_)
 (repeat' (first|(with_reducible first|exact True.intro|refine zQ ?_|(refine zG hG_ ?_;intro K_ hK_)|(refine zR ?_;intro K_ hK_)|(refine hK_ _ _ ?_;try clear hK_ K_)|refine sq_n ?_|refine sq_r ?_|refine sq_e ?_|refine bq_n ?_|refine bq_r ?_|refine bq_q ?_|refine zB ?_|refine zX ?_|refine zT ?_|refine zK ?_|refine gq_n ?_|refine gq_r ?_|refine gq_e ?_|refine lq_n ?_|refine lq_r ?_|refine lq_e ?_|refine bq_e (by decide) ?_)|((with_reducible refine zC (b:=?b_) ?hb_ ?_ ?_);case hb_=>rfl)|((conv=>whnf);first|(with_reducible refine hK_ _ _ ?_;try clear hK_ K_)|(with_reducible refine fun (g_:Sl) (o_:Ow)=>?_)|(with_reducible first|exact True.intro|refine And.intro trivial ?_|refine And.intro ?_ ?_)|exact Nat.le_of_ble_eq_true rfl|exact Or.inl rfl|(intro h_;cases h_)|(intro h_;(try simp only [vS1] at h_))|rfl))) <;> (try (conv=>whnf)) <;> (try first|change (_:Int)≤_|change (_:Nat)≤_) <;> (try ((fail_if_success (with_reducible apply Exists.intro));(try dsimp only);(try simp only [vS1])))
 all_goals (try (fail_if_success (with_reducible apply Exists.intro));first|with_reducible assumption|omega|exact mdl (by omega)|exact ilo1 (by omega)|exact ilo2 (by omega)|exact ihi1 (by omega) (by omega)|exact ihi2 (by omega) (by omega))
end Go.Proofs.Ytnepfcnlngpchaa
namespace Go.Proofs.Ytnepfcnlngpchaa
open Go.RowKit Go.Proofs.Ytnepfcnlngpchaa.Nm
set_option maxRecDepth 10000
set_option maxHeartbeats 2000000
def earsTo (xs:List Pt) (k:Nat):List Int:=((List.range k).filter fun j:Nat=>earM xs j).map fun j:Nat=>(j:Int)
theorem earsTo_succ (xs:List Pt) (k:Nat):earsTo xs (k + 1)=earsTo xs k ++ (if earM xs k then [(k:Int)] else []):=by
 unfold earsTo
 rw [List.range_succ,List.filter_append,List.map_append]
 congr 1
 rw [List.filter_cons]
 by_cases h:earM xs k=true
 ·rw [if_pos h,if_pos h];rfl
 ·rw [if_neg h,if_neg h];rfl
theorem earsTo_len (xs:List Pt) (k:Nat):(earsTo xs k).length≤k:=by
 unfold earsTo
 rw [List.length_map]
 exact Nat.le_trans (List.length_filter_le _ _) (by simp)
def earsM (xs:List Pt):List Int:=earsTo xs xs.length
theorem ears_bad {xs:List Pt} (h:roomOk xs=false) (k:Nat):earsTo xs k=[]:=by
 unfold earsTo
 rw [List.filter_eq_nil_iff.2 fun j _ hj=>by have:=(earM_iff.1 hj).1;rw [h] at this;cases this]
 rfl
def earsC:Con:=mkCon [.room] (fun x=>x.1.length≤1048576) fun x=>rowI (earsM x.1)
theorem iEarsOf_ok:Good1 Try.prog n_impl_EarsOf earsC:=by
 refine good_ofG (tys:=tyL) (env:=[(n_impl_RoomOk,roomOkC),(n_impl_IsEar,earC)]) (envw:=[]) (envd:=[]) [8] [] [] [] [] mixed tys ⟨iRoomOk_ok,iIsEar_ok,trivial⟩ trivial trivial Try.func21 rfl (by kernel_rfl) (by decide) (by kernel_rfl) ?_
 have hG_:=kpz [(0,[1]),(1,[1,7]),(2,[2]),(3,[1,3]),(4,[1,3,11,12]),(5,[1,3,11,12,13]),(6,[1,3,4,11,12]),(7,[1,3,4,11,12,17]),(8,[1,3,11,12]),(9,[1,3,11,12]),(10,[2])] [(3,[8]),(4,[8]),(5,[8]),(6,[8]),(7,[8]),(8,[8]),(9,[8]),(10,[8])] [] []
 rintro ⟨(xs:List Pt),⟨⟩⟩ (h1:xs.length≤_)
 (repeat' (first|(with_reducible first|exact True.intro|refine zQ ?_|(refine zG hG_ ?_;intro K_ hK_)|(refine zR ?_;intro K_ hK_)|(refine hK_ _ _ ?_;try clear hK_ K_)|refine sq_n ?_|refine sq_r ?_|refine sq_e ?_|refine bq_n ?_|refine bq_r ?_|refine bq_q ?_|refine zB ?_|refine zX ?_|refine zT ?_|refine zK ?_|refine gq_n ?_|refine gq_r ?_|refine gq_e ?_|refine lq_n ?_|refine lq_r ?_|refine lq_e ?_|refine bq_e (by decide) ?_)|((with_reducible refine zC (b:=?b_) ?hb_ ?_ ?_);case hb_=>rfl)|((conv=>whnf);first|(with_reducible refine hK_ _ _ ?_;try clear hK_ K_)|(with_reducible refine fun (g_:Sl) (o_:Ow)=>?_)|(with_reducible first|exact True.intro|refine And.intro trivial ?_|refine And.intro ?_ ?_)|exact Nat.le_of_ble_eq_true rfl|exact Or.inl rfl|(intro h_;cases h_)|(intro h_;(try simp only [vS1] at h_))|rfl))) <;> (try (conv=>whnf)) <;> (try first|change (_:Int)≤_|change (_:Nat)≤_) <;> (try ((fail_if_success (with_reducible apply Exists.intro));(try dsimp only);(try simp only [vS1]))) <;> (try simp (disch:=omega) only [vS3,Int.add_sub_cancel,tn1,tnp,tnc,vS2] at *)
 all_goals (try (fail_if_success (with_reducible apply Exists.intro));first|with_reducible assumption|omega|exact mdl (by omega)|exact ilo1 (by omega)|exact ilo2 (by omega)|exact ihi1 (by omega) (by omega)|exact ihi2 (by omega) (by omega))
 ·exact ears_bad ‹_› _
 refine awp'_loopG (α:=Nat) (fun k ver_=>[(12,vInt k)]) (fun k ver_=>[(3,8,false,.row t_int (.b .int) (earsTo xs k))]) (fun k ver_=>[]) (fun k=>k≤xs.length) (fun k=>xs.length - k) [1,11] [] (0) ?_
 conv=>whnf
 refine ⟨⟨?inv1_,?vals1_,?own1_,?fix1_⟩,?body1_⟩
 case' vals1_=>(repeat' (first|(with_reducible first|exact True.intro|refine And.intro ?_ ?_|refine Head.mk ?_ ?_ ?_ ?_)|((conv=>lhs;whnf);first|(with_reducible first|rfl|exact vInt_s (by omega))|exact rfl)|((conv=>whnf);first|(with_reducible first|exact True.intro|refine And.intro ?_ ?_)))) <;> (try (conv=>lhs;whnf))
 case' own1_=>(repeat' (first|(with_reducible first|exact True.intro|refine And.intro ?_ ?_|refine Head.mk ?_ ?_ ?_ ?_)|((conv=>lhs;whnf);first|(with_reducible first|rfl|exact vInt_s (by omega))|exact rfl)|((conv=>whnf);first|(with_reducible first|exact True.intro|refine And.intro ?_ ?_)))) <;> (try (conv=>lhs;whnf))
 case' fix1_=>(repeat' (first|(with_reducible first|exact True.intro|refine And.intro ?_ ?_|refine Head.mk ?_ ?_ ?_ ?_)|((conv=>lhs;whnf);first|(with_reducible first|rfl|exact vInt_s (by omega))|exact rfl)|((conv=>whnf);first|(with_reducible first|exact True.intro|refine And.intro ?_ ?_)))) <;> (try (conv=>lhs;whnf))
 ·exact Nat.zero_le _
 rintro k g_ o_ v_ hk
 have hlen:=earsTo_len xs k
 (repeat' (first|(with_reducible first|exact True.intro|refine zQ ?_|(refine zG hG_ ?_;intro K_ hK_)|(refine zR ?_;intro K_ hK_)|(refine hK_ _ _ ?_;try clear hK_ K_)|refine sq_n ?_|refine sq_r ?_|refine sq_e ?_|refine bq_n ?_|refine bq_r ?_|refine bq_q ?_|refine zB ?_|refine zX ?_|refine zT ?_|refine zK ?_|refine gq_n ?_|refine gq_r ?_|refine gq_e ?_|refine lq_n ?_|refine lq_r ?_|refine lq_e ?_|refine bq_e (by decide) ?_)|((with_reducible refine zC (b:=?b_) ?hb_ ?_ ?_);case hb_=>rfl)|((conv=>whnf);first|(with_reducible refine hK_ _ _ ?_;try clear hK_ K_)|(with_reducible refine fun (g_:Sl) (o_:Ow)=>?_)|(with_reducible first|exact True.intro|refine And.intro trivial ?_|refine And.intro ?_ ?_)|exact Nat.le_of_ble_eq_true rfl|exact Or.inl rfl|(intro h_;cases h_)|(intro h_;(try simp only [vS1] at h_))|rfl))) <;> (try (conv=>whnf)) <;> (try first|change (_:Int)≤_|change (_:Nat)≤_) <;> (try ((fail_if_success (with_reducible apply Exists.intro));(try dsimp only);(try simp only [vS1]))) <;> (try simp (disch:=omega) only [vS3,Int.add_sub_cancel,tn1,tnp,tnc,vS2] at *)
 all_goals (try (fail_if_success (with_reducible apply Exists.intro));first|with_reducible assumption|omega|exact mdl (by omega)|exact ilo1 (by omega)|exact ilo2 (by omega)|exact ihi1 (by omega) (by omega)|exact ihi2 (by omega) (by omega))
 ·refine ⟨k + 1,by omega,by omega,?_⟩
  (repeat' (first|(with_reducible first|exact True.intro|refine And.intro ?_ ?_|refine Head.mk ?_ ?_ ?_ ?_)|((conv=>lhs;whnf);first|(with_reducible first|rfl|exact vInt_s (by omega))|exact rfl)|((conv=>whnf);first|(with_reducible first|exact True.intro|refine And.intro ?_ ?_)))) <;> (try (conv=>lhs;whnf))
  exact congrArg (Own.row _ _) (by rw [earsTo_succ,if_pos (by assumption)])
 ·refine ⟨k + 1,by omega,by omega,?_⟩
  (repeat' (first|(with_reducible first|exact True.intro|refine And.intro ?_ ?_|refine Head.mk ?_ ?_ ?_ ?_)|((conv=>lhs;whnf);first|(with_reducible first|rfl|exact vInt_s (by omega))|exact rfl)|((conv=>whnf);first|(with_reducible first|exact True.intro|refine And.intro ?_ ?_)))) <;> (try (conv=>lhs;whnf))
  exact congrArg (Own.row _ _) (by rw [earsTo_succ,if_neg (by rw [Bool.not_eq_true];assumption),List.append_nil])
 ·rw [show k=xs.length by omega];rfl
def strAt (l:List Pt) (i:Nat):Bool:=decide (turn (pAt l (prvN l.length i)) (pAt l i) (pAt l (nxtN l.length i))=0)
def firstStr (l:List Pt):Option Nat:=if 2 < l.length then (List.range l.length).find? (strAt l) else none
def strRun:Nat→List Pt→List Pt
 | 0,l=>l
 | f + 1,l=>match firstStr l with
  | none=>l
  | some i=>strRun f (l.eraseIdx i)
def straightM (l:List Pt):List Pt:=strRun l.length l
structure StrSt (xs l:List Pt):Prop where
 run:strRun l.length l=straightM xs
 len:l.length≤xs.length
theorem StrSt.done {xs l:List Pt} (h:StrSt xs l) (hf:firstStr l=none):straightM xs=l:=by
 rw [← h.run]
 cases hn:l.length with
 | zero=>rfl
 | succ n=>unfold strRun;rw [hf]
theorem corner_in {xs:List Pt} (hr:roomOk xs=true) {k:Nat} (hk:k < xs.length):inP xs (pAt xs k)=true:=by
 refine inP_iff.2 ⟨room_pt hr hk,?_⟩
 rw [placeM_on hk (onS_self (a:=pAt xs k) (b:=pCy xs (k + 1)))]
 decide
end Go.Proofs.Ytnepfcnlngpchaa
namespace Go.Proofs.Ytnepfcnlngpchaa
open Go.RowKit Go.Proofs.Ytnepfcnlngpchaa.Nm
set_option maxRecDepth 10000
abbrev Cur:=List Int × Int × Int
def curL (c:Cur):List D:=[.sl none (.b .u8) c.1,.int .i64 c.2.1,.int .i64 c.2.2]
structure curOk (c:Cur):Prop where
 len:c.1.length≤1048576
 lo:0≤c.2.1
 hi:c.2.1≤1048576
def newH (bs:List Int):Nat→Int
 | 0=>W (99143 + (bs.length:Int))
 | i + 1=>bitI .and .i64 (W (W (W (newH bs i * 131) + W (bs.getD i 0)) + 7)) 1073741823
def newC (bs:List Int):Cur:=(bs,0,newH bs (min bs.length 4000))
def byteH (c:Cur):Int:=W (c.2.2 * 6364136223846793005 + 1442695040888963407)
def byte0 (c:Cur):Int:=bitI .and .i64 (bitI .xor .i64 (bitI .shr .i64 (byteH c) 33) (bitI .shr .i64 (byteH c) 45)) 255
def byteX (c:Cur):Int:=if c.2.1 < (c.1.length:Int) then bitI .and .i64 (W (byte0 c + W (c.1.getD c.2.1.toNat 0))) 255 else byte0 c
def byteC (c:Cur):Cur:=(c.1,if c.2.1 < (c.1.length:Int) then c.2.1 + 1 else c.2.1,byteH c)
theorem and255 (x:Int):0≤bitI .and .i64 x 255∧bitI .and .i64 x 255≤255:=by
 have h:(BitVec.ofInt IntKind.i64.bits x &&& BitVec.ofInt IntKind.i64.bits 255).toNat≤255:=by
  rw [BitVec.toNat_and]
  exact Nat.le_trans Nat.and_le_right (by decide)
 have e:bitI .and .i64 x 255=(((BitVec.ofInt IntKind.i64.bits x &&& BitVec.ofInt IntKind.i64.bits 255).toNat:Nat):Int):=W_in (by omega) (by omega)
 rw [e]
 omega
theorem byteX_bd (c:Cur):0≤byteX c∧byteX c≤255:=by
 unfold byteX
 split
 ·exact and255 _
 ·exact and255 _
theorem byteC_ok {c:Cur} (h:curOk c):curOk (byteC c):=by
 obtain ⟨h1,h2,h3⟩:=h
 refine ⟨h1,?_,?_⟩ <;> (unfold byteC;simp only;split <;> omega)
def belowX (c:Cur) (n:Int):Int:=
 if n≤0 then 0 else if n≤256 then (byteX c).tmod n
 else (byteX c * 16777216 + byteX (byteC c) * 65536 + byteX (byteC (byteC c)) * 256 + byteX (byteC (byteC (byteC c)))).tmod n
def belowC (c:Cur) (n:Int):Cur:=if n≤0 then c else if n≤256 then byteC c else byteC (byteC (byteC (byteC c)))
theorem below_bd {c:Cur} {n:Int} (h:0 < n):0≤belowX c n∧belowX c n < n:=by
 unfold belowX
 have h1:=byteX_bd c
 have h2:=byteX_bd (byteC c)
 have h3:=byteX_bd (byteC (byteC c))
 have h4:=byteX_bd (byteC (byteC (byteC c)))
 rw [if_neg (by omega)]
 split
 ·exact ⟨Int.tmod_nonneg _ h1.1,Int.tmod_lt_of_pos _ h⟩
 ·exact ⟨Int.tmod_nonneg _ (by omega),Int.tmod_lt_of_pos _ h⟩
theorem belowC_ok {c:Cur} {n:Int} (h:curOk c):curOk (belowC c n):=by
 unfold belowC
 split
 ·exact h
 ·split
  ·exact byteC_ok h
  ·exact byteC_ok (byteC_ok (byteC_ok (byteC_ok h)))
theorem newC_ok {bs:List Int} (h:bs.length≤1048576):curOk (newC bs):=⟨h,Int.le_refl 0,show (0:Int)≤1048576 by decide⟩
def l01NewC:ConD:=mkConN [.sl (.b .u8)] t_spec_l01Cur (fun x=>x.1.length≤1048576) fun x=>curL (newC x.1)
set_option maxRecDepth 200000 in
theorem l01New_ok:GoodD Try.prog n_spec_l01New l01NewC:=by
 refine good_ofN (tys:=tyL) (env:=[]) (envw:=[]) (envd:=[]) [31] [] [] [] [] mixed tys trivial trivial trivial Try.func62 rfl (by kernel_rfl) (by decide) (by kernel_rfl) ?_
 have hG_:=kpz [(0,[0]),(1,[0,3]),(2,[0,3,4]),(3,[0,3,4,15]),(4,[0,3,4]),(5,[0,3,4]),(6,[2])] [] [] []
 rintro ⟨(bs:List Int),⟨⟩⟩ (h1:bs.length≤_)
 (repeat' (first|(with_reducible first|exact True.intro|refine zQ ?_|(refine zG hG_ ?_;intro K_ hK_)|(refine zR ?_;intro K_ hK_)|(refine hK_ _ _ ?_;try clear hK_ K_)|refine sq_n ?_|refine sq_r ?_|refine sq_e ?_|refine bq_n ?_|refine bq_r ?_|refine bq_q ?_|refine zB ?_|refine zX ?_|refine zT ?_|refine zK ?_|refine gq_n ?_|refine gq_r ?_|refine gq_e ?_|refine lq_n ?_|refine lq_r ?_|refine lq_e ?_|refine bq_e (by decide) ?_)|((with_reducible refine zC (b:=?b_) ?hb_ ?_ ?_);case hb_=>rfl)|((conv=>whnf);first|(with_reducible refine hK_ _ _ ?_;try clear hK_ K_)|(with_reducible refine fun (g_:Sl) (o_:Ow)=>?_)|(with_reducible first|exact True.intro|refine And.intro trivial ?_|refine And.intro ?_ ?_)|exact Nat.le_of_ble_eq_true rfl|exact Or.inl rfl|(intro h_;cases h_)|(intro h_;(try simp only [vS1] at h_))|rfl))) <;> (try (conv=>whnf)) <;> (try first|change (_:Int)≤_|change (_:Nat)≤_) <;> (try ((fail_if_success (with_reducible apply Exists.intro));(try dsimp only);(try simp only [vS1])))
 refine awp'_loopG (α:=Nat) (fun i ver_=>[(3,vInt (newH bs i)),(4,vInt i)]) (fun i ver_=>[]) (fun i ver_=>[]) (fun i=>i≤bs.length∧i≤4000) (fun i=>bs.length - i) [0] [] (0) ?_
 conv=>whnf
 refine ⟨⟨?inv1_,?vals1_,?own1_,?fix1_⟩,?body1_⟩
 case' vals1_=>(repeat' (first|(with_reducible first|exact True.intro|refine And.intro ?_ ?_|refine Head.mk ?_ ?_ ?_ ?_)|((conv=>lhs;whnf);first|(with_reducible first|rfl|exact vInt_s (by omega))|exact rfl)|((conv=>whnf);first|(with_reducible first|exact True.intro|refine And.intro ?_ ?_)))) <;> (try (conv=>lhs;whnf))
 case' own1_=>(repeat' (first|(with_reducible first|exact True.intro|refine And.intro ?_ ?_|refine Head.mk ?_ ?_ ?_ ?_)|((conv=>lhs;whnf);first|(with_reducible first|rfl|exact vInt_s (by omega))|exact rfl)|((conv=>whnf);first|(with_reducible first|exact True.intro|refine And.intro ?_ ?_)))) <;> (try (conv=>lhs;whnf))
 case' fix1_=>(repeat' (first|(with_reducible first|exact True.intro|refine And.intro ?_ ?_|refine Head.mk ?_ ?_ ?_ ?_)|((conv=>lhs;whnf);first|(with_reducible first|rfl|exact vInt_s (by omega))|exact rfl)|((conv=>whnf);first|(with_reducible first|exact True.intro|refine And.intro ?_ ?_)))) <;> (try (conv=>lhs;whnf))
 ·exact ⟨Nat.zero_le _,Nat.zero_le _⟩
 rintro i g_ o_ v_ ⟨hi,hi2⟩
 have hG_:=kpz [(0,[0]),(1,[0,3]),(2,[0,3,4]),(3,[0,3,4,15]),(4,[0,3,4]),(5,[0,3,4]),(6,[2])] [(6,[31])] [] []
 (repeat' (first|(with_reducible first|exact True.intro|refine zQ ?_|(refine zG hG_ ?_;intro K_ hK_)|(refine zR ?_;intro K_ hK_)|(refine hK_ _ _ ?_;try clear hK_ K_)|refine sq_n ?_|refine sq_r ?_|refine sq_e ?_|refine bq_n ?_|refine bq_r ?_|refine bq_q ?_|refine zB ?_|refine zX ?_|refine zT ?_|refine zK ?_|refine gq_n ?_|refine gq_r ?_|refine gq_e ?_|refine lq_n ?_|refine lq_r ?_|refine lq_e ?_|refine bq_e (by decide) ?_)|((with_reducible refine zC (b:=?b_) ?hb_ ?_ ?_);case hb_=>rfl)|((conv=>whnf);first|(with_reducible refine hK_ _ _ ?_;try clear hK_ K_)|(with_reducible refine fun (g_:Sl) (o_:Ow)=>?_)|(with_reducible first|exact True.intro|refine And.intro trivial ?_|refine And.intro ?_ ?_)|exact Nat.le_of_ble_eq_true rfl|exact Or.inl rfl|(intro h_;cases h_)|(intro h_;(try simp only [vS1] at h_))|rfl))) <;> (try (conv=>whnf)) <;> (try first|change (_:Int)≤_|change (_:Nat)≤_) <;> (try ((fail_if_success (with_reducible apply Exists.intro));(try dsimp only);(try simp only [vS1])))
 all_goals (try (fail_if_success (with_reducible apply Exists.intro));first|with_reducible assumption|omega|exact mdl (by omega)|exact ilo1 (by omega)|exact ilo2 (by omega)|exact ihi1 (by omega) (by omega)|exact ihi2 (by omega) (by omega))
 ·refine ⟨i + 1,by omega,by omega,?_⟩
  (repeat' (first|(with_reducible first|exact True.intro|refine And.intro ?_ ?_|refine Head.mk ?_ ?_ ?_ ?_)|((conv=>lhs;whnf);first|(with_reducible first|rfl|exact vInt_s (by omega))|exact rfl)|((conv=>whnf);first|(with_reducible first|exact True.intro|refine And.intro ?_ ?_)))) <;> (try (conv=>lhs;whnf))
 ·show dOf _=some _
  unfold curL newC
  rw [show min bs.length 4000=i by omega];rfl
 ·show dOf _=some _
  unfold curL newC
  rw [show min bs.length 4000=i by omega];rfl
def l01ByteC:ConD:=mkConB [.cur] 0 t_spec_l01Cur (fun x=>curOk x.1) (fun x=>vInt (byteX x.1)) fun x=>curL (byteC x.1)
theorem l01Byte_ok:GoodD Try.prog n_spec_l01Byte l01ByteC:=by
 refine good_ofB (tys:=tyL) (env:=[]) (envw:=[]) (envd:=[]) [1000] [] [] [] [] mixed tys trivial trivial trivial Try.func116 rfl (by kernel_rfl) ⟨by decide,rfl⟩ (by kernel_rfl) ?_
 have hG_:=kpz [(0,[0]),(1,[0]),(2,[0,3]),(3,[0,3,34]),(4,[0,3]),(5,[3]),(6,[2])] [(0,[1000]),(1,[1000]),(2,[1000]),(3,[1000]),(4,[1000]),(5,[1000]),(6,[1000])] [] []
 rintro ⟨⟨(bs:List Int),(i:Int),(h:Int)⟩,⟨⟩⟩ ⟨(h1:bs.length≤_),(h2:0≤i),(h3:i≤_)⟩
 (repeat' (first|(with_reducible first|exact True.intro|refine zQ ?_|(refine zG hG_ ?_;intro K_ hK_)|(refine zR ?_;intro K_ hK_)|(refine hK_ _ _ ?_;try clear hK_ K_)|refine sq_n ?_|refine sq_r ?_|refine sq_e ?_|refine bq_n ?_|refine bq_r ?_|refine bq_q ?_|refine zB ?_|refine zX ?_|refine zT ?_|refine zK ?_|refine gq_n ?_|refine gq_r ?_|refine gq_e ?_|refine lq_n ?_|refine lq_r ?_|refine lq_e ?_|refine bq_e (by decide) ?_)|((with_reducible refine zC (b:=?b_) ?hb_ ?_ ?_);case hb_=>rfl)|((conv=>whnf);first|(with_reducible refine hK_ _ _ ?_;try clear hK_ K_)|(with_reducible refine fun (g_:Sl) (o_:Ow)=>?_)|(with_reducible first|exact True.intro|refine And.intro trivial ?_|refine And.intro ?_ ?_)|exact Nat.le_of_ble_eq_true rfl|exact Or.inl rfl|(intro h_;cases h_)|(intro h_;(try simp only [vS1] at h_))|rfl))) <;> (try (conv=>whnf)) <;> (try first|change (_:Int)≤_|change (_:Nat)≤_) <;> (try ((fail_if_success (with_reducible apply Exists.intro));(try dsimp only);(try simp only [vS1])))
 all_goals (try (fail_if_success (with_reducible apply Exists.intro));first|with_reducible assumption|omega|exact mdl (by omega)|exact ilo1 (by omega)|exact ilo2 (by omega)|exact ihi1 (by omega) (by omega)|exact ihi2 (by omega) (by omega))
 ·show dOf _=some _
  unfold curL byteC byteH
  simp only [W_l1,if_pos h_,W_in (show -9223372036854775808≤i + 1 by omega) (show i + 1≤9223372036854775807 by omega)];rfl
 ·unfold byteX byte0 byteH
  simp only [W_l1,if_pos h_]
 ·show dOf _=some _
  unfold curL byteC byteH
  simp only [W_l1,if_neg h_];rfl
 ·unfold byteX byte0 byteH
  simp only [W_l1,if_neg h_]
def l01BelowC:ConD:=mkConB [.cur,.int] 0 t_spec_l01Cur (fun x=>curOk x.1) (fun x=>vInt (belowX x.1 x.2.1)) fun x=>curL (belowC x.1 x.2.1)
theorem l01Below_ok:GoodD Try.prog n_spec_l01Below l01BelowC:=by
 refine good_ofB (tys:=tyL) (env:=[]) (envw:=[]) (envd:=[(n_spec_l01Byte,l01ByteC)]) [14,18,20,22,24,1000] [14,18,20,22,24,1000] [] [] [14,18,20,22,24] mixed tys trivial trivial ⟨l01Byte_ok,trivial⟩ Try.func77 rfl (by kernel_rfl) ⟨by decide,rfl⟩ (by kernel_rfl) ?_
 have hG_:=kpz [(0,[0,1]),(1,[0,1,10]),(2,[4]),(3,[0,1,12]),(4,[4]),(5,[0,1,5]),(6,[0,1,5,6]),(7,[0,1,5,6,7]),(8,[1,5,6,7,8]),(9,[4])] [(0,[1000]),(1,[1000]),(2,[1000]),(3,[1000]),(4,[1000]),(5,[1000]),(6,[1000]),(7,[1000]),(8,[1000]),(9,[1000])] [] []
 rintro ⟨⟨(bs:List Int),(i:Int),(h:Int)⟩,(n:Int),⟨⟩⟩ (hc:curOk (bs,i,h))
 have h1:=byteC_ok hc
 have h2:=byteC_ok h1
 have h3:=byteC_ok h2
 have b0:=byteX_bd (bs,i,h)
 have b1:=byteX_bd (byteC (bs,i,h))
 have b2:=byteX_bd (byteC (byteC (bs,i,h)))
 have b3:=byteX_bd (byteC (byteC (byteC (bs,i,h))))
 (repeat' (first|(with_reducible first|exact True.intro|refine zQ ?_|(refine zG hG_ ?_;intro K_ hK_)|(refine zR ?_;intro K_ hK_)|(refine hK_ _ _ ?_;try clear hK_ K_)|refine sq_n ?_|refine sq_r ?_|refine sq_e ?_|refine bq_n ?_|refine bq_r ?_|refine bq_q ?_|refine zB ?_|refine zX ?_|refine zT ?_|refine zK ?_|refine gq_n ?_|refine gq_r ?_|refine gq_e ?_|refine lq_n ?_|refine lq_r ?_|refine lq_e ?_|refine bq_e (by decide) ?_)|((with_reducible refine zC (b:=?b_) ?hb_ ?_ ?_);case hb_=>rfl)|((conv=>whnf);first|(with_reducible refine hK_ _ _ ?_;try clear hK_ K_)|(with_reducible refine fun (g_:Sl) (o_:Ow)=>?_)|(with_reducible first|exact True.intro|refine And.intro trivial ?_|refine And.intro ?_ ?_)|exact Nat.le_of_ble_eq_true rfl|exact Or.inl rfl|(intro h_;cases h_)|(intro h_;(try simp only [vS1] at h_))|rfl))) <;> (try (conv=>whnf)) <;> (try first|change (_:Int)≤_|change (_:Nat)≤_) <;> (try ((fail_if_success (with_reducible apply Exists.intro));(try dsimp only);(try simp only [vS1])))
 all_goals (try (fail_if_success (with_reducible apply Exists.intro));first|with_reducible assumption|omega|exact mdl (by omega)|exact ilo1 (by omega)|exact ilo2 (by omega)|exact ihi1 (by omega) (by omega)|exact ihi2 (by omega) (by omega))
 ·show dOf _=some _
  unfold curL belowC
  simp only [if_pos h_];rfl
 ·unfold belowX
  simp only [if_pos h_]
 ·exact ‹¬ Int.ofNat 0≤0› (by decide)
 ·show dOf _=some _
  unfold curL belowC
  simp only [if_neg ‹¬ n≤0›,if_pos h_];rfl
 ·unfold belowX
  simp only [if_neg ‹¬ n≤0›,if_pos h_]
 ·exact ‹¬ Int.ofNat 0≤0› (by decide)
 ·show dOf _=some _
  unfold curL belowC
  simp only [if_neg ‹¬ n≤0›,if_neg h_];rfl
 ·unfold belowX
  simp only [if_neg ‹¬ n≤0›,if_neg h_,W_l1,W_l2]
  rw [W_in (by omega) (by omega)]
end Go.Proofs.Ytnepfcnlngpchaa
namespace Go.Proofs.Ytnepfcnlngpchaa
open Go.RowKit Go.Proofs.Ytnepfcnlngpchaa.Nm
set_option maxRecDepth 10000
set_option maxHeartbeats 2000000
def bigC:Con:=mkCon [.sl (.b .u8)] (fun _=>True) fun x=>vB (decide ((x.1.length:Int) > 1048576))
theorem big_ok:Good1 Try.prog n_laws_big bigC:=by
 refine good_ofG (tys:=tyL) (env:=[]) (envw:=[]) (envd:=[]) [] [] [] [] [] mixed tys trivial trivial trivial Try.func11 rfl (by kernel_rfl) (by decide) (by kernel_rfl) ?_
 have hG_:=kpz [(0,[0]),(1,[2])] [] [] []
 rintro ⟨(bs:List Int),⟨⟩⟩ -
 (repeat' (first|(with_reducible first|exact True.intro|refine zQ ?_|(refine zG hG_ ?_;intro K_ hK_)|(refine zR ?_;intro K_ hK_)|(refine hK_ _ _ ?_;try clear hK_ K_)|refine sq_n ?_|refine sq_r ?_|refine sq_e ?_|refine bq_n ?_|refine bq_r ?_|refine bq_q ?_|refine zB ?_|refine zX ?_|refine zT ?_|refine zK ?_|refine gq_n ?_|refine gq_r ?_|refine gq_e ?_|refine lq_n ?_|refine lq_r ?_|refine lq_e ?_|refine bq_e (by decide) ?_)|((with_reducible refine zC (b:=?b_) ?hb_ ?_ ?_);case hb_=>rfl)|((conv=>whnf);first|(with_reducible refine hK_ _ _ ?_;try clear hK_ K_)|(with_reducible refine fun (g_:Sl) (o_:Ow)=>?_)|(with_reducible first|exact True.intro|refine And.intro trivial ?_|refine And.intro ?_ ?_)|exact Nat.le_of_ble_eq_true rfl|exact Or.inl rfl|(intro h_;cases h_)|(intro h_;(try simp only [vS1] at h_))|rfl))) <;> (try (conv=>whnf)) <;> (try first|change (_:Int)≤_|change (_:Nat)≤_) <;> (try ((fail_if_success (with_reducible apply Exists.intro));(try dsimp only);(try simp only [vS1])))
 all_goals (try ((fail_if_success (with_reducible apply Exists.intro));first|with_reducible assumption|omega))
end Go.Proofs.Ytnepfcnlngpchaa
namespace Go.Proofs.Ytnepfcnlngpchaa
open Go.RowKit Go.Proofs.Ytnepfcnlngpchaa.Nm
set_option maxRecDepth 10000
theorem corner_sees {xs:List Pt} {p:Pt} (hp:p∈floorPts xs):∃ k,k < xs.length∧seesS xs (pAt xs k) p=true:=by
 obtain ⟨hr,hpt,hi⟩:=Geo.mem_floor.1 hp
 have hn:=room_pos hr
 obtain ⟨j,hj⟩:=Geo.sees_corner (Geo.room_simple hr) (Geo.room_area hr).2.1 (p:=p) fun o=>hi ((Geo.out_iff hr (bd_of_ok hpt)).2 o)
 have hm:j % xs.length < xs.length:=Nat.mod_lt _ hn
 refine ⟨j % xs.length,hm,?_⟩
 rw [seesS_comm hr (Geo.corner_ok hr hm) hpt]
 exact (Geo.seesS_noout hr hpt (Geo.corner_ok hr hm) hi (Geo.corner_in hr hm)).2 hj
def Rise (n:Nat):Nat→List Int→Prop
 | _,[]=>True
 | a,x :: r=>∃ k:Nat,x=(k:Int)∧a≤k∧k < n∧Rise n (k + 1) r
theorem fsN_some {α:Type} {f:Nat→Option α}:∀ {n a r},fsN f n a=some r→∃ k,a≤k∧k < a + n∧f k=some r
 | 0,a,r,h=>by cases h
 | n + 1,a,r,h=>by
  unfold fsN at h
  cases hf:f a with
  | some x=>rw [hf] at h;exact ⟨a,Nat.le_refl _,by omega,by rw [hf];exact h⟩
  | none=>
   rw [hf] at h
   obtain ⟨k,h1,h2,h3⟩:=fsN_some (n:=n) (a:=a + 1) h
   exact ⟨k,by omega,by omega,h3⟩
theorem fsR_some {α:Type} {f:Nat→Option α} {a b:Nat} {r:α} (h:fsR f a b=some r):∃ k,a≤k∧k < b∧f k=some r:=by
 obtain ⟨k,h1,h2,h3⟩:=fsN_some h
 exact ⟨k,h1,by omega,h3⟩
theorem fsN_first {α:Type} {f:Nat→Option α}:∀ {n a r},fsN f n a=some r→∃ k,a≤k∧k < a + n∧f k=some r∧∀ j,a≤j→j < k→f j=none
 | 0,a,r,h=>by cases h
 | n + 1,a,r,h=>by
  unfold fsN at h
  cases hf:f a with
  | some x=>rw [hf] at h;exact ⟨a,Nat.le_refl _,by omega,by rw [hf];exact h,fun j h1 h2=>by omega⟩
  | none=>
   rw [hf] at h
   obtain ⟨k,h1,h2,h3,h4⟩:=fsN_first (n:=n) (a:=a + 1) h
   refine ⟨k,by omega,by omega,h3,fun j g1 g2=>?_⟩
   rcases (show j=a∨a + 1≤j by omega) with e|e
   ·rw [e];exact hf
   ·exact h4 j e g2
theorem ch_some (M:Msk):∀ m l a r,chM M m l a=some r→∃ l',r=l ++ l'∧l'.length=m∧Rise M.length a l'∧covM M r=true
 | 0,l,a,r,h=>by
  rw [chM] at h
  split at h
  ·rename_i hc
   injection h with h
   exact ⟨[],by rw [← h];simp,rfl,trivial,by rw [← h];exact hc⟩
  ·cases h
 | m + 1,l,a,r,h=>by
  rw [chM] at h
  obtain ⟨k,h1,h2,h3⟩:=fsR_some h
  obtain ⟨l',e,hl,hr,hc⟩:=ch_some M m _ _ r h3
  exact ⟨(k:Int) :: l',by rw [e];simp,by simp [hl],⟨k,rfl,h1,h2,hr⟩,hc⟩
theorem fsR_ne {α:Type} {f:Nat→Option α} {a b k:Nat} (h1:a≤k) (h2:k < b) (h:f k≠none):fsR f a b≠none:=fun e=>h (fsR_none e h1 h2)
theorem ch_find (M:Msk):∀ l' l a,Rise M.length a l'→covM M (l ++ l')=true→chM M l'.length l a≠none
 | [],l,a,_,hc=>by
  rw [List.append_nil] at hc
  show chM M 0 l a≠none
  rw [chM,if_pos hc];simp
 | x :: r,l,a,⟨k,e,h1,h2,h3⟩,hc=>by
  show chM M (r.length + 1) l a≠none
  rw [chM]
  refine fsR_ne h1 h2 ?_
  subst e
  exact ch_find M r _ _ h3 (by simpa using hc)
theorem Rise.mem {n:Nat}:∀ {a:Nat} {l:List Int},Rise n a l→∀ x∈l,∃ k:Nat,x=(k:Int)∧a≤k∧k < n
 | _,[],_,x,hx=>by cases hx
 | a,y :: r,⟨k,e,h1,h2,h3⟩,x,hx=>by
  rcases List.mem_cons.1 hx with rfl|hx
  ·exact ⟨k,e,h1,h2⟩
  ·obtain ⟨j,e',g1,g2⟩:=h3.mem x hx
   exact ⟨j,e',by omega,g2⟩
def covF (xs:List Pt) (l:List Int):Prop:=∀ p∈floorPts xs,∃ k∈l,seesS xs (pAt xs k.toNat) p=true
theorem cov_iff {xs:List Pt} (hr:roomOk xs=true) {l:List Int} (hl:∀ x∈l,∃ k:Nat,x=(k:Int)∧k < xs.length):covM (masksM xs) l=true↔covF xs l:=by
 have hn:=room_pos hr
 have hw:wid (masksM xs)=(floorPts xs).length:=by
  unfold wid
  rw [masks_get hn,mask_yes hr hn,List.length_map]
 have hs:∀ x∈l,∀ i,i < (floorPts xs).length→((masksM xs).getD x.toNat []).getD i false=seesS xs (pAt xs x.toNat) (pAt (floorPts xs) i):=fun x hx i hi=>by
  obtain ⟨k,rfl,hk⟩:=hl x hx
  rw [Int.toNat_natCast,masks_get hk,mask_yes hr hk,List.getD_eq_getElem?_getD,List.getElem?_map,List.getElem?_eq_getElem hi]
  show seesS xs _ (floorPts xs)[i]=seesS xs _ ((floorPts xs).getD i (0,0))
  rw [getD_lt _ hi]
 unfold covM seenOf covF
 rw [hw,List.all_eq_true]
 constructor
 ·intro h p hp
  obtain ⟨i,hi,rfl⟩:=List.getElem_of_mem hp
  obtain ⟨k,hk,hg⟩:=List.any_eq_true.1 (h i (List.mem_range.2 hi))
  rw [hs k hk i hi] at hg
  refine ⟨k,hk,?_⟩
  rw [← getD_lt (0,0) hi];exact hg
 ·intro h i hi
  have hi:=List.mem_range.1 hi
  obtain ⟨k,hk,hg⟩:=h _ (List.getElem_mem hi)
  refine List.any_eq_true.2 ⟨k,hk,?_⟩
  rw [hs k hk i hi]
  show seesS xs _ ((floorPts xs).getD i (0,0))=true
  rw [getD_lt _ hi];exact hg
theorem rise_range (n a:Nat):∀ m,a + m≤n→Rise n a ((List.range' a m).map fun k:Nat=>(k:Int))
 | 0,_=>trivial
 | m + 1,h=>⟨a,rfl,Nat.le_refl _,by omega,rise_range n (a + 1) m (by omega)⟩
theorem few_spec {xs:List Pt} (hr:roomOk xs=true):1≤(fewM xs).length∧Rise xs.length 0 (fewM xs)∧covF xs (fewM xs)∧∀ l,1≤l.length→Rise xs.length 0 l→covF xs l→(fewM xs).length≤l.length:=by
 have hn:=room_pos hr
 have hM:(masksM xs).length=xs.length:=masks_len xs
 have mem:∀ {l:List Int},Rise xs.length 0 l→∀ x∈l,∃ k:Nat,x=(k:Int)∧k < xs.length:=fun h x hx=>by
  obtain ⟨k,e,_,g⟩:=h.mem x hx
  exact ⟨k,e,g⟩
 have all:fewO (masksM xs)≠none:=by
  unfold fewO
  refine fsR_ne (k:=xs.length) (by omega) (by omega) ?_
  have hri:=rise_range xs.length 0 xs.length (by omega)
  have:=ch_find (masksM xs) ((List.range' 0 xs.length).map fun k:Nat=>(k:Int)) [] 0 (by rw [hM];exact hri) (by
   rw [List.nil_append,cov_iff hr (mem hri)]
   intro p hp
   obtain ⟨k,hk,hs⟩:=corner_sees hp
   exact ⟨(k:Int),List.mem_map.2 ⟨k,by simp [List.mem_range'];exact hk,rfl⟩,by rw [Int.toNat_natCast];exact hs⟩)
  rwa [List.length_map,List.length_range'] at this
 obtain ⟨r,hr'⟩:∃ r,fewO (masksM xs)=some r:=by
  cases h:fewO (masksM xs) with
  | none=>exact absurd h all
  | some r=>exact ⟨r,rfl⟩
 have hf:fewM xs=r:=by rw [few_ok hr,hr'];rfl
 rw [hf]
 unfold fewO at hr'
 obtain ⟨n,n1,n2,n3,n4⟩:=fsN_first hr'
 obtain ⟨l',e,hl,hri,hc⟩:=ch_some _ _ _ _ _ n3
 rw [List.nil_append] at e
 subst e
 rw [hM] at hri
 refine ⟨by omega,hri,(cov_iff hr (mem hri)).1 hc,fun l h1 h2 h3=>?_⟩
 rcases (show r.length≤l.length∨l.length < n by omega) with g|g
 ·exact g
 ·exfalso
  refine ch_find (masksM xs) l [] 0 (by rw [hM];exact h2) ?_ (n4 l.length h1 g)
  rw [List.nil_append,cov_iff hr (mem h2)];exact h3
theorem floor_pos' {xs:List Pt} (hr:roomOk xs=true):0 < (floorPts xs).length:=List.length_pos_of_mem (Geo.corner_floor hr (room_pos hr))
end Go.Proofs.Ytnepfcnlngpchaa
namespace Go.Proofs.Ytnepfcnlngpchaa.Geo
open Go.RowKit
def Poly.rev (P:Poly):Poly:=⟨P.n,fun j=>P.v (j * (P.n - 1)),fun j=>by
 show P.v ((j + P.n) * (P.n - 1))=_
 rw [Nat.add_mul,Nat.mul_comm P.n (P.n - 1)]
 have key:∀ m s,P.v (s + m * P.n)=P.v s:=fun m=>by
  induction m with
  | zero=>intro s;simp
  | succ m ih=>intro s;rw [Nat.succ_mul,← Nat.add_assoc,P.per,ih]
 exact key _ _⟩
theorem rev_v {P:Poly} (j:Nat) {d:Nat} (hd:d≤P.n) (hn:0 < P.n):P.rev.v (j + d)=P.v (j * (P.n - 1) + (P.n - d)):=by
 show P.v ((j + d) * (P.n - 1))=_
 have key:∀ m s,P.v (s + m * P.n)=P.v s:=fun m=>by
  induction m with
  | zero=>intro s;simp
  | succ m ih=>intro s;rw [Nat.succ_mul,← Nat.add_assoc,P.per,ih]
 rw [Nat.add_mul]
 rcases Nat.eq_zero_or_pos d with e|e
 ·subst e
  rw [Nat.zero_mul,Nat.add_zero,Nat.sub_zero,P.per]
 ·have:d * (P.n - 1)=(P.n - d) + (d - 1) * P.n:=by
   obtain ⟨e,rfl⟩:∃ e,d=e + 1:=⟨d - 1,by omega⟩
   obtain ⟨m,hm⟩:∃ m,P.n=m + 1:=⟨P.n - 1,by omega⟩
   rw [hm,Nat.add_sub_cancel,Nat.add_sub_cancel,Nat.mul_add,Nat.add_mul]
   omega
  rw [this,← Nat.add_assoc,key]
theorem Part.swap2 {a b q r:Pt} (h:Part a b q r):Part b a r q:=by
 obtain ⟨f,fa,fb,fq,fr⟩:=h
 exact ⟨f,fb,fa,fr,fq⟩
theorem SimpleP.rev {P:Poly} (h:SimpleP P):SimpleP P.rev:=by
 have h3:=h.n3
 have v0:∀ j,P.rev.v j=P.v (j * (P.n - 1) + P.n):=fun j=>rev_v (P:=P) j (d:=0) (by omega) (by omega)
 refine ⟨h3,fun j d h1 h2=>?_,fun j d h1 h2=>?_,fun k=>?_⟩
 ·have h2:d < P.n:=h2
  rw [v0 j,rev_v j (by omega) (by omega),rev_v j (by omega) (by omega)]
  have:=h.off (j * (P.n - 1) + (P.n - 1)) (P.n - d + 1) (by omega) (by omega)
  rw [show j * (P.n - 1) + (P.n - 1) + (P.n - d + 1)=j * (P.n - 1) + (P.n - d) + P.n by omega,P.per,show j * (P.n - 1) + (P.n - 1) + 1=j * (P.n - 1) + P.n by omega] at this
  exact this.swap
 ·have h2:d + 2≤P.n:=h2
  rw [v0 j,rev_v j (by omega) (by omega),rev_v j (by omega) (by omega),show j + d + 1=j + (d + 1) by omega,rev_v j (by omega) (by omega)]
  have:=h.apart (j * (P.n - 1) + (P.n - 1)) (P.n - d) (by omega) (by omega)
  rw [show j * (P.n - 1) + (P.n - 1) + (P.n - d)=j * (P.n - 1) + (P.n - (d + 1)) + P.n by omega,P.per (j * (P.n - 1) + (P.n - (d + 1))),show j * (P.n - 1) + (P.n - 1) + 1=j * (P.n - 1) + P.n by omega,
   show j * (P.n - 1) + (P.n - (d + 1)) + P.n + 1=j * (P.n - 1) + (P.n - d) + P.n by omega,P.per (j * (P.n - 1) + (P.n - d))] at this
  exact this.swap2
 ·have:=h.bend (k * (P.n - 1) + (P.n - 2))
  rw [show k * (P.n - 1) + (P.n - 2) + 1=k * (P.n - 1) + (P.n - 1) by omega,show k * (P.n - 1) + (P.n - 2) + 2=k * (P.n - 1) + P.n by omega] at this
  rw [v0 k,rev_v k (by omega) (by omega),rev_v k (by omega) (by omega)]
  exact ⟨this.2,this.1⟩
theorem sumN_zero (f:Nat→Int):∀ n,sumN f (n + 1)=f 0 + sumN (fun k=>f (k + 1)) n
 | 0=>by simp [sumN]
 | n + 1=>by
  have:=sumN_zero f n
  simp only [sumN] at this ⊢
  omega
theorem sumN_rev:∀ (n:Nat) (f:Nat→Int),sumN (fun k=>f (n - 1 - k)) n=sumN f n
 | 0,_=>rfl
 | n + 1,f=>by
  rw [sumN_zero f n,← sumN_rev n fun k=>f (k + 1)]
  show sumN (fun k=>f (n - k)) n + f (n - n)=_
  rw [Nat.sub_self,sumN_congr (g:=fun k=>f (n - 1 - k + 1)) fun k hk=>by rw [show n - 1 - k + 1=n - k by omega]]
  omega
theorem sumN_neg (f:Nat→Int):∀ n,sumN (fun k=>- f k) n=- sumN f n
 | 0=>rfl
 | n + 1=>by simp only [sumN];rw [sumN_neg f n];omega
theorem area_rev {P:Poly} (hn:0 < P.n):P.rev.area=- P.area:=by
 have e:∀ k,k < P.n→crs0 (P.rev.v k) (P.rev.v (k + 1))=- crs0 (P.v (P.n - 1 - k)) (P.v (P.n - 1 - k + 1)):=fun k hk=>by
  have e0:=rev_v (P:=P) 0 (d:=k) (by omega) hn
  have e1:=rev_v (P:=P) 0 (d:=k + 1) (by omega) hn
  rw [Nat.zero_mul,Nat.zero_add,Nat.zero_add] at e0 e1
  rw [e0,e1,show P.n - (k + 1)=P.n - 1 - k by omega,show P.n - k=P.n - 1 - k + 1 by omega]
  unfold crs0;grind
 show sumN (fun k=>crs0 (P.rev.v k) (P.rev.v (k + 1))) P.n=- sumN (fun k=>crs0 (P.v k) (P.v (k + 1))) P.n
 rw [sumN_congr e,sumN_neg,sumN_rev P.n fun k=>crs0 (P.v k) (P.v (k + 1))]
theorem mirW {p:Pt} (h:ptOk p=true):Go.Proofs.Ytnepfcnlngpchaa.mirP p=mirP p:=by
 have:=ptOk_iff.1 h
 unfold Go.Proofs.Ytnepfcnlngpchaa.mirP mirP
 rw [W_in (by omega) (by omega),Int.zero_sub]
theorem mir_ok {p:Pt} (h:ptOk p=true):ptOk (mirP p)=true:=by
 have:=ptOk_iff.1 h
 refine ptOk_iff.2 ?_
 unfold mirP
 simp only
 omega
theorem mir_mir (p:Pt):mirP (mirP p)=p:=by unfold mirP;simp
theorem mem_ok {xs:List Pt} (hr:roomOk xs=true):∀ q∈xs,ptOk q=true:=List.all_eq_true.1 (roomOk_iff.1 hr).2.1
theorem mirror_eq {xs:List Pt} (hr:roomOk xs=true):mirrorRoom xs=(xs.map mirP).reverse:=by
 unfold mirrorRoom
 rw [if_pos hr]
 congr 1
 exact List.map_congr_left fun p hp=>mirW (mem_ok hr p hp)
theorem mirror_len {xs:List Pt} (hr:roomOk xs=true):(mirrorRoom xs).length=xs.length:=by rw [mirror_eq hr];simp
structure MirR (xs ys:List Pt):Prop where
 rx:roomOk xs=true
 ry:roomOk ys=true
 len:ys.length=xs.length
 v:∀ i j,(i + j + 1) % xs.length=0→(roomP ys).v i=mirP ((roomP xs).v j)
theorem MirR.symm {xs ys:List Pt} (h:MirR xs ys):MirR ys xs:=⟨h.ry,h.rx,h.len.symm,fun i j e=>by
 rw [h.v j i (by rw [← h.len,Nat.add_comm j i];exact e),mir_mir]⟩
theorem mod_opp {n i j:Nat} (hn:0 < n) (h:(i + j + 1) % n=0):i % n=n - 1 - j % n:=by
 have hi:=Nat.mod_lt i hn
 have hj:=Nat.mod_lt j hn
 have e:(i % n + j % n + 1) % n=0:=by
  rw [← h,Nat.add_mod (i % n + j % n) 1 n,Nat.add_mod (i + j) 1 n,Nat.add_mod i j n]
 rcases Nat.lt_or_ge (i % n + j % n + 1) n with g|g
 ·rw [Nat.mod_eq_of_lt g] at e;omega
 ·rw [Nat.mod_eq_sub_mod g,Nat.mod_eq_of_lt (by omega)] at e;omega
theorem mirror_v {xs:List Pt} (hr:roomOk xs=true) {i j:Nat} (h:(i + j + 1) % xs.length=0):(roomP (mirrorRoom xs)).v i=mirP ((roomP xs).v j):=by
 have hn:=room_pos hr
 have hl:=mirror_len hr
 have hi:=Nat.mod_lt i hn
 have hj:=Nat.mod_lt j hn
 show (mirrorRoom xs).getD (i % (mirrorRoom xs).length) (0,0)=mirP (xs.getD (j % xs.length) (0,0))
 rw [hl,mirror_eq hr,mod_opp hn h]
 rw [getD_lt _ (by simp;omega),getD_lt _ hj]
 simp only [List.getElem_reverse,List.getElem_map,List.length_map]
 congr 2
 omega
theorem mirror_poly {xs:List Pt} (hr:roomOk xs=true):roomP (mirrorRoom xs)=((roomP xs).mir.rev).rot 1:=by
 have hn:=room_pos hr
 refine Poly.ext' (mirror_len hr) fun i=>?_
 have e:(roomP xs).mir.rev.v (0 + i % xs.length + 1)=_:=rev_v (P:=(roomP xs).mir) 0 (d:=i % xs.length + 1) (by have:=Nat.mod_lt i hn;show _≤xs.length;omega) hn
 simp only [Nat.zero_mul,Nat.zero_add] at e
 show _=(roomP xs).mir.rev.v (1 + i)
 have p:(roomP xs).mir.rev.v (1 + i)=(roomP xs).mir.rev.v (i % xs.length + 1):=by
  rw [show 1 + i=i + 1 by omega]
  exact ((roomP xs).mir.rev.per_add i 1).symm
 rw [p,e]
 refine mirror_v hr (j:=xs.length - (i % xs.length + 1)) ?_
 have hi:=Nat.mod_lt i hn
 have:=Nat.div_add_mod i xs.length
 generalize i % xs.length=r at *
 rw [← this,show xs.length * (i / xs.length) + r + (xs.length - (r + 1)) + 1=xs.length * (i / xs.length) + xs.length by omega,Nat.add_mod_right,Nat.mul_mod_right]
theorem mirror_room {xs:List Pt} (hr:roomOk xs=true):roomOk (mirrorRoom xs)=true:=by
 have h3:=room_len hr
 have hn:=room_pos hr
 have hl:=mirror_len hr
 have e:=mirror_poly hr
 refine room_of (by omega) (by omega) (fun q hq=>?_) (by rw [e];exact (room_simple hr).mir.rev.rot 1) (fun j=>?_) ?_
 ·rw [mirror_eq hr,List.mem_reverse] at hq
  obtain ⟨p,hp,rfl⟩:=List.mem_map.1 hq
  exact mir_ok (mem_ok hr p hp)
 ·-- corner j + 2 - d is mirrored from m + d
  obtain ⟨m,hm⟩:∃ m,(j + 2 + m + 1) % xs.length=0:=by
   refine ⟨xs.length * (j + 3) - (j + 3),?_⟩
   have:j + 3≤xs.length * (j + 3):=Nat.le_mul_of_pos_left _ hn
   rw [show j + 2 + (xs.length * (j + 3) - (j + 3)) + 1=xs.length * (j + 3) by omega,Nat.mul_mod_right]
  rw [mirror_v hr hm,mirror_v hr (i:=j + 1) (j:=m + 1) (by rw [show j + 1 + (m + 1) + 1=j + 2 + m + 1 by omega];exact hm),mirror_v hr (i:=j) (j:=m + 2) (by rw [show j + (m + 2) + 1=j + 2 + m + 1 by omega];exact hm),turn_mir]
  have:=room_turns hr m
  have q:turnZ ((roomP xs).v (m + 2)) ((roomP xs).v (m + 1)) ((roomP xs).v m)=- turnZ ((roomP xs).v m) ((roomP xs).v (m + 1)) ((roomP xs).v (m + 2)):=by unfold turnZ;grind
  omega
 ·rw [e,area_rot,area_rev hn,area_mir]
  have:=(room_area hr).2.1
  omega
theorem mirror_area {xs:List Pt} (hr:roomOk xs=true):(roomP (mirrorRoom xs)).area=(roomP xs).area:=by
 rw [mirror_poly hr,area_rot,area_rev (room_pos hr),area_mir]
 omega
theorem mirror_mir {xs:List Pt} (hr:roomOk xs=true):MirR xs (mirrorRoom xs):=⟨hr,mirror_room hr,mirror_len hr,fun i j h=>mirror_v hr h⟩
theorem mirror_back {xs:List Pt} (hr:roomOk xs=true):mirrorRoom (mirrorRoom xs)=xs:=by
 rw [mirror_eq (mirror_room hr),mirror_eq hr,← List.map_reverse,List.reverse_reverse,List.map_map,show (mirP ∘ mirP)=id from funext mir_mir,List.map_id]
theorem MirR.ear {xs ys:List Pt} (h:MirR xs ys) {s t:Nat} (e:(s + t + 3) % xs.length=0) (he:EarI (roomP xs) s):EarI (roomP ys) t:=by
 have hn:=room_pos h.rx
 have k0:=h.v t (s + 2) (by rw [show t + (s + 2) + 1=s + t + 3 by omega];exact e)
 have k1:=h.v (t + 1) (s + 1) (by rw [show t + 1 + (s + 1) + 1=s + t + 3 by omega];exact e)
 have k2:=h.v (t + 2) s (by rw [show t + 2 + s + 1=s + t + 3 by omega];exact e)
 show EarP _ _ _ _
 rw [k0,k1,k2]
 have opp:∀ j,∃ i,(j + i + 1) % xs.length=0:=fun j=>by
  refine ⟨xs.length * (j + 1) - (j + 1),?_⟩
  have:j + 1≤xs.length * (j + 1):=Nat.le_mul_of_pos_left _ hn
  rw [show j + (xs.length * (j + 1) - (j + 1)) + 1=xs.length * (j + 1) by omega,Nat.mul_mod_right]
 obtain ⟨f,hf⟩:∃ f:Nat→Nat,∀ j,(j + f j + 1) % xs.length=0:=⟨fun j=>(opp j).choose,fun j=>(opp j).choose_spec⟩
 refine earP_mir (Q:=roomP ys) f f (fun j=>h.v j (f j) (hf j)) (fun j=>?_) he
 have a:=h.v (f j) j (by rw [Nat.add_comm (f j) j];exact hf j)
 have b:=h.v (f j) (f (f j)) (hf (f j))
 have:=a.symm.trans b
 exact (mir_mir _).symm.trans ((congrArg mirP this).trans (mir_mir _))
theorem MirR.earM {xs ys:List Pt} (h:MirR xs ys) {k:Nat} (hk:k < xs.length) (he:earM xs k=true):earM ys (xs.length - 1 - k:Nat)=true:=by
 have hl:=h.len
 rcases (earM_iff h.rx hk).1 he with g|g
 ·exact (earM_iff h.ry (by omega)).2 (.inl (by omega))
 ·refine (earM_iff h.ry (by omega)).2 (.inr ?_)
  refine h.ear (s:=k + xs.length - 1) ?_ g
  rw [show k + xs.length - 1 + (xs.length - 1 - k + ys.length - 1) + 3=xs.length + xs.length + xs.length by omega,Nat.add_mod_right,Nat.add_mod_right,Nat.mod_self]
theorem MirR.ears {xs ys:List Pt} (h:MirR xs ys):(earsM ys).length=(earsM xs).length:=by
 have hl:=h.len
 unfold earsM earsTo
 rw [List.length_map,List.length_map,hl,← List.countP_eq_length_filter,← List.countP_eq_length_filter]
 have e:(List.range xs.length).countP (fun j:Nat=>Go.Proofs.Ytnepfcnlngpchaa.earM ys j)=(List.range xs.length).countP ((fun j:Nat=>Go.Proofs.Ytnepfcnlngpchaa.earM xs j) ∘ fun j=>xs.length - 1 - j):=by
  refine List.countP_congr fun j hj=>?_
  have hj:=List.mem_range.1 hj
  show _↔Go.Proofs.Ytnepfcnlngpchaa.earM xs (xs.length - 1 - j:Nat)=true
  constructor
  ·intro g
   have:=h.symm.earM (k:=j) (by omega) g
   rwa [hl] at this
  ·intro g
   have:=h.earM (k:=xs.length - 1 - j) (by omega) g
   rwa [show xs.length - 1 - (xs.length - 1 - j)=j by omega] at this
 rw [e,← List.countP_map]
 have:(List.range xs.length).map (fun j=>xs.length - 1 - j)=(List.range xs.length).reverse:=by
  refine List.ext_getElem (by simp) fun j h1 h2=>?_
  simp only [List.getElem_map,List.getElem_range,List.getElem_reverse,List.length_range]
 rw [this,List.countP_reverse]
theorem trn_quarter {p:Pt} (h:ptOk p=true):trnP p=quarter.app p:=by
 have:=ptOk_iff.1 h
 rw [quarter_app]
 unfold trnP
 rw [W_in (by omega) (by omega),Int.zero_sub]
theorem turn_eq {xs:List Pt} (hr:roomOk xs=true):turnRoom xs=xs.map quarter.app:=by
 unfold turnRoom
 rw [if_pos hr]
 exact List.map_congr_left fun p hp=>trn_quarter (mem_ok hr p hp)
theorem map_v {xs:List Pt} {f:Pt→Pt} {k:Nat} (hk:k < xs.length):pAt (xs.map f) k=f (pAt xs k):=by
 unfold pAt
 rw [getD_lt _ (by simpa using hk),getD_lt _ hk,List.getElem_map]
theorem map_moved {xs:List Pt} (hr:roomOk xs=true) (g:Mv) (hp:∀ q∈xs,ptOk (g.app q)=true):Moved xs (xs.map g.app) g:=by
 have hn:=room_pos hr
 have hv:∀ j,pCy (xs.map g.app) j=g.app (pCy xs j):=fun j=>by
  have hj:=Nat.mod_lt j hn
  show (xs.map g.app).getD (j % (xs.map g.app).length) (0,0)=g.app (xs.getD (j % xs.length) (0,0))
  rw [List.length_map,getD_lt _ (by simpa using hj),getD_lt _ hj,List.getElem_map]
 refine ⟨hr,room_moved hr 0 g (by simp) (fun j=>by rw [Nat.zero_add];exact hv j) fun q hq=>?_,by simp,fun k hk=>map_v hk⟩
 obtain ⟨p,h,rfl⟩:=List.mem_map.1 hq
 exact hp p h
theorem turn_moved {xs:List Pt} (hr:roomOk xs=true):Moved xs (turnRoom xs) quarter:=by
 rw [turn_eq hr]
 exact map_moved hr quarter fun q hq=>quarter_ok.2 (mem_ok hr q hq)
theorem Moved.area {xs ys:List Pt} {g:Mv} (h:Moved xs ys g):(roomP ys).area=(roomP xs).area:=by rw [h.poly,area_mv]
theorem turn_four {xs:List Pt} (hr:roomOk xs=true):turnRoom (turnRoom (turnRoom (turnRoom xs)))=xs:=by
 have h1:=(turn_moved hr).ry
 have h2:=(turn_moved h1).ry
 have h3:=(turn_moved h2).ry
 rw [turn_eq h3,turn_eq h2,turn_eq h1,turn_eq hr,List.map_map,List.map_map,List.map_map]
 have:(quarter.app ∘ quarter.app ∘ quarter.app ∘ quarter.app)=id:=funext fun p=>by
  show quarter.app (quarter.app (quarter.app (quarter.app p)))=p
  simp only [quarter_app]
  refine Prod.ext ?_ ?_ <;> simp
 first
  | rw [this,List.map_id]
  | (rw [show (((quarter.app ∘ quarter.app) ∘ quarter.app) ∘ quarter.app)=id from this,List.map_id])
theorem Moved.cov {xs ys:List Pt} (h:Moved xs ys quarter) {l:List Int} (hl:∀ x∈l,∃ k:Nat,x=(k:Int)∧k < xs.length):covF ys l↔covF xs l:=by
 have key:∀ p∈floorPts xs,∀ x∈l,seesS ys (pAt ys x.toNat) (quarter.app p)=seesS xs (pAt xs x.toNat) p:=fun p hp x hx=>by
  obtain ⟨k,rfl,hk⟩:=hl x hx
  obtain ⟨-,h1,h2⟩:=mem_floor.1 hp
  have o:=corner_ok h.rx hk
  rw [Int.toNat_natCast,h.v k hk]
  exact h.sees o (quarter_ok.2 o) h1 (quarter_ok.2 h1) (corner_in h.rx hk) h2
 constructor
 ·intro c p hp
  obtain ⟨x,hx,hs⟩:=c _ (h.floor.2 hp)
  exact ⟨x,hx,by rw [← key p hp x hx];exact hs⟩
 ·intro c q hq
  obtain ⟨p,rfl⟩:=quarter_back q
  have hp:=h.floor.1 hq
  obtain ⟨x,hx,hs⟩:=c p hp
  exact ⟨x,hx,by rw [key p hp x hx];exact hs⟩
theorem Moved.few {xs ys:List Pt} (h:Moved xs ys quarter):(fewM ys).length=(fewM xs).length:=by
 obtain ⟨a1,a2,a3,a4⟩:=few_spec h.rx
 obtain ⟨b1,b2,b3,b4⟩:=few_spec h.ry
 rw [h.len] at b2 b4
 have m:∀ {l:List Int},Rise xs.length 0 l→∀ x∈l,∃ k:Nat,x=(k:Int)∧k < xs.length:=fun hl x hx=>by
  obtain ⟨k,e,_,g⟩:=hl.mem x hx
  exact ⟨k,e,g⟩
 have:=a4 _ b1 b2 ((h.cov (m b2)).1 b3)
 have:=b4 _ a1 a2 ((h.cov (m a2)).2 a3)
 omega
def shift (e f:Int):Mv:=⟨1,0,e,f,by decide⟩
theorem shift_app (e f:Int) (p:Pt):(shift e f).app p=(p.1 + e,p.2 + f):=by unfold shift Mv.app;simp
theorem mov_shift {p:Pt} {e f:Int} (h:ptOk p=true) (he:-80≤e∧e≤80) (hf:-80≤f∧f≤80):movP e f p=(shift e f).app p:=by
 have:=ptOk_iff.1 h
 rw [shift_app]
 unfold movP
 rw [W_in (by omega) (by omega),W_in (by omega) (by omega)]
theorem mov_room {xs:List Pt} (hr:roomOk xs=true) {e f:Int} (he:-80≤e∧e≤80) (hf:-80≤f∧f≤80) (hp:∀ q∈xs,ptOk (q.1 + e,q.2 + f)=true) :
  movRoom xs e f=(xs.map (shift e f).app,true)∧roomOk (xs.map (shift e f).app)=true:=by
 have eq:xs.map (movP e f)=xs.map (shift e f).app:=List.map_congr_left fun p h=>mov_shift (mem_ok hr p h) he hf
 have hm:=(map_moved hr (shift e f) fun q hq=>by rw [shift_app];exact hp q hq).ry
 unfold movRoom
 rw [eq,hm,hr,btw_iff.2 (by omega),btw_iff.2 (by omega)]
 exact ⟨rfl,rfl⟩
theorem mov_back {xs:List Pt} (hr:roomOk xs=true) {e f:Int} (he:-80≤e∧e≤80) (hf:-80≤f∧f≤80) (hp:∀ q∈xs,ptOk (q.1 + e,q.2 + f)=true) :
  movRoom (movRoom xs e f).1 (-e) (-f)=(xs,true):=by
 obtain ⟨e1,h1⟩:=mov_room hr he hf hp
 have back:(shift (-e) (-f)).app ∘ (shift e f).app=id:=funext fun p=>by
  show (shift (-e) (-f)).app ((shift e f).app p)=p
  rw [shift_app,shift_app]
  refine Prod.ext ?_ ?_ <;> simp only <;> omega
 have:=(mov_room h1 (e:=-e) (f:=-f) (by omega) (by omega) fun q hq=>by
  obtain ⟨p,h,rfl⟩:=List.mem_map.1 hq
  rw [shift_app]
  have:=mem_ok hr p h
  rwa [show ((p.1 + e,p.2 + f):Pt).1 + -e=p.1 by simp only;omega,show ((p.1 + e,p.2 + f):Pt).2 + -f=p.2 by simp only;omega]).1
 rw [e1,this,List.map_map,back,List.map_id]
end Go.Proofs.Ytnepfcnlngpchaa.Geo
namespace Go.Proofs.Ytnepfcnlngpchaa
open Go.RowKit Go.Proofs.Ytnepfcnlngpchaa.Nm
set_option maxRecDepth 10000
set_option maxHeartbeats 4000000
def shapeM (k:Int):List Pt:=
 if k=0 then [(0,0),(4,0),(4,4),(0,4)] else
 if k=1 then [(0,0),(5,0),(2,4)] else
 if k=2 then [(0,0),(6,0),(6,2),(2,2),(2,6),(0,6)] else
 if k=3 then [(0,0),(8,0),(8,6),(4,2),(0,6)] else
 if k=4 then [(0,0),(10,0),(10,5),(8,1),(5,5),(2,1),(0,5)] else
 if k=5 then [(0,0),(7,0),(7,7),(1,7),(1,3),(3,3),(3,5),(5,5),(5,2),(0,2)] else
 if k=6 then [(0,0),(4,2),(8,0),(5,3),(4,7),(3,3)] else [(0,0),(6,1),(7,4),(3,6),(1,3)]
def l04ShapeC:Con:=mkCon [.int] (fun _=>True) fun x=>.val (.agg [.d (.sl none (.b .pt) (shapeM x.1))])
theorem l04Shape_ok:Good1 Try.prog n_spec_l04Shape l04ShapeC:=by
 refine good_ofG (tys:=tyL) (env:=[]) (envw:=[]) (envd:=[]) [] [] [] [] [] mixed tys trivial trivial trivial Try.func110 rfl (by kernel_rfl) (by decide) (by kernel_rfl) ?_
 have hG_:=kpz [(0,[0,2]),(1,[2,3]),(2,[2,3,4]),(3,[2]),(4,[2,3,12]),(5,[2]),(6,[2,3,19]),(7,[2]),(8,[2,3,29]),(9,[2]),(10,[2,3,38]),(11,[2]),(12,[2,3,49]),(13,[2]),(14,[2,63]),(15,[2]),(16,[2])] [(0,[2]),(1,[2]),(2,[2]),(3,[2]),(4,[2]),(5,[2]),(6,[2]),(7,[2]),(8,[2]),(9,[2]),(10,[2]),(11,[2]),(12,[2]),(13,[2]),(14,[2]),(15,[2]),(16,[2])] [] []
 rintro ⟨(k:Int),⟨⟩⟩ -
 (repeat' (first|(with_reducible first|exact True.intro|refine zQ ?_|(refine zG hG_ ?_;intro K_ hK_)|(refine zR ?_;intro K_ hK_)|(refine hK_ _ _ ?_;try clear hK_ K_)|refine sq_n ?_|refine sq_r ?_|refine sq_e ?_|refine bq_n ?_|refine bq_r ?_|refine bq_q ?_|refine zB ?_|refine zX ?_|refine zT ?_|refine zK ?_|refine gq_n ?_|refine gq_r ?_|refine gq_e ?_|refine lq_n ?_|refine lq_r ?_|refine lq_e ?_|refine bq_e (by decide) ?_)|((with_reducible refine zC (b:=?b_) ?hb_ ?_ ?_);case hb_=>rfl)|((conv=>whnf);first|(with_reducible refine hK_ _ _ ?_;try clear hK_ K_)|(with_reducible refine fun (g_:Sl) (o_:Ow)=>?_)|(with_reducible first|exact True.intro|refine And.intro trivial ?_|refine And.intro ?_ ?_)|exact Nat.le_of_ble_eq_true rfl|exact Or.inl rfl|(intro h_;cases h_)|(intro h_;(try simp only [vS1] at h_))|rfl))) <;> (try (conv=>whnf)) <;> (try first|change (_:Int)≤_|change (_:Nat)≤_) <;> (try ((fail_if_success (with_reducible apply Exists.intro));(try dsimp only);(try simp only [vS1])))
 all_goals (try (fail_if_success (with_reducible apply Exists.intro));first|with_reducible assumption|omega|exact mdl (by omega)|exact ilo1 (by omega)|exact ilo2 (by omega)|exact ihi1 (by omega) (by omega)|exact ihi2 (by omega) (by omega))
 all_goals first
  | (have e:=eq_of_beq h_;subst e;rfl)
  | (unfold shapeM;simp_all;rfl)
def stepX (xs:List Pt) (c:Cur):List Pt:=
 xs.set (belowX c xs.length).toNat ((xs.getD (belowX c xs.length).toNat (0,0)).1 + belowX (belowC c xs.length) 3 - 1,(xs.getD (belowX c xs.length).toNat (0,0)).2 + belowX (belowC (belowC c xs.length) 3) 3 - 1)
def stepC (n:Int) (c:Cur):Cur:=belowC (belowC (belowC c n) 3) 3
def stepR (s:List Pt × Cur):List Pt × Cur:=(if roomOk (stepX s.1 s.2) then stepX s.1 s.2 else s.1,stepC s.1.length s.2)
def iterR (s:List Pt × Cur):Nat→List Pt × Cur
 | 0=>s
 | j + 1=>stepR (iterR s j)
def turnP (turn:Int) (p:Pt):Pt:=if turn=1 then (-p.2,p.1) else if turn=2 then (-p.1,-p.2) else p
def laidP (turn dx:Int) (p:Pt):Pt:=((turnP turn p).1 + dx,(turnP turn p).2)
def laidAt (xs:List Pt) (turn first dx:Int) (k:Nat):Pt:=laidP turn dx (xs.getD ((first.toNat + k) % xs.length) (0,0))
def laidR (xs:List Pt) (turn first dx:Int):List Pt:=(List.range xs.length).map (laidAt xs turn first dx)
def room0 (c:Cur):List Pt × Cur:=(shapeM (belowX c 8),belowC (belowC c 8) 4)
def roomK (c:Cur):Int:=belowX (belowC c 8) 4
def roomS (c:Cur):List Pt × Cur:=iterR (room0 c) (roomK c).toNat
def roomX (c:Cur):List Pt:=
 laidR (roomS c).1 (belowX (roomS c).2 4) (belowX (belowC (roomS c).2 4) (roomS c).1.length) (belowX (belowC (belowC (roomS c).2 4) (roomS c).1.length) 5 - 2)
def roomC (c:Cur):Cur:=belowC (belowC (belowC (roomS c).2 4) (roomS c).1.length) 5
theorem stepX_len (xs:List Pt) (c:Cur):(stepX xs c).length=xs.length:=List.length_set ..
theorem stepR_len (s:List Pt × Cur):(stepR s).1.length=s.1.length:=by
 unfold stepR
 simp only
 split
 ·exact stepX_len _ _
 ·rfl
theorem iterR_len (s:List Pt × Cur):∀ j,(iterR s j).1.length=s.1.length
 | 0=>rfl
 | j + 1=>(stepR_len _).trans (iterR_len s j)
theorem stepC_ok {n:Int} {c:Cur} (h:curOk c):curOk (stepC n c):=belowC_ok (belowC_ok (belowC_ok h))
theorem iterR_cur {s:List Pt × Cur} (h:curOk s.2):∀ j,curOk (iterR s j).2
 | 0=>h
 | j + 1=>stepC_ok (iterR_cur h j)
theorem shape_len (k:Int):3≤(shapeM k).length∧(shapeM k).length≤10:=by
 unfold shapeM
 repeat' split
 all_goals decide
def setXY (xs:List Pt) (i:Nat) (a b:Int):List Pt:=
 (xs.set i (W (W ((xs.getD i (0,0)).1 + a) - 1),(xs.getD i (0,0)).2)).set i
  (((xs.set i (W (W ((xs.getD i (0,0)).1 + a) - 1),(xs.getD i (0,0)).2)).getD i (0,0)).1,
   W (W (((xs.set i (W (W ((xs.getD i (0,0)).1 + a) - 1),(xs.getD i (0,0)).2)).getD i (0,0)).2 + b) - 1))
theorem pt_room {xs:List Pt} (hr:roomOk xs=true) {i:Nat} (hi:i < xs.length):-40≤(xs.getD i (0,0)).1∧(xs.getD i (0,0)).1≤40∧-40≤(xs.getD i (0,0)).2∧(xs.getD i (0,0)).2≤40:=by
 rw [getD_lt _ hi]
 exact ptOk_iff.1 (List.all_eq_true.1 (roomOk_iff.1 hr).2.1 _ (List.getElem_mem hi))
theorem setXY_eq {xs:List Pt} (hr:roomOk xs=true) {i:Nat} (hi:i < xs.length) {a b:Int} (ha:0≤a∧a < 3) (hb:0≤b∧b < 3) :
  setXY xs i a b=xs.set i ((xs.getD i (0,0)).1 + a - 1,(xs.getD i (0,0)).2 + b - 1):=by
 have h:=pt_room hr hi
 have g:∀ x:Pt,(xs.set i x).getD i (0,0)=x:=fun x=>by rw [getD_lt _ (by rw [List.length_set];exact hi),List.getElem_set_self]
 unfold setXY
 rw [List.set_set,g]
 simp only [W_l3]
 rw [W_in (by omega) (by omega),W_in (by omega) (by omega)]
theorem shape_ok (k:Int):roomOk (shapeM k)=true:=by
 unfold shapeM
 repeat' split
 all_goals decide +kernel
theorem iterR_ok {s:List Pt × Cur} (h:roomOk s.1=true):∀ j,roomOk (iterR s j).1=true
 | 0=>h
 | j + 1=>by
  show roomOk (stepR (iterR s j)).1=true
  unfold stepR
  simp only
  split
  ·assumption
  ·exact iterR_ok h j
theorem stepX_setXY {xs:List Pt} (hr:roomOk xs=true) (c:Cur):setXY xs (belowX c xs.length).toNat (belowX (belowC c xs.length) 3) (belowX (belowC (belowC c xs.length) 3) 3)=stepX xs c:=by
 have h3:=(roomOk_iff.1 hr).1
 have hb:=below_bd (c:=c) (n:=(xs.length:Int)) (by omega)
 exact setXY_eq hr (by omega) (below_bd (by decide)) (below_bd (by decide))
theorem rng1 {f:Nat→Pt} {x:Pt} (h:x=f 0):[x]=(List.range (0 + 1)).map f:=by rw [h];rfl
theorem rngS {f:Nat→Pt} {k:Nat} {x:Pt} (h:x=f k):(List.range k).map f ++ [x]=(List.range (k + 1)).map f:=by
 rw [List.range_succ,List.map_append,h];rfl
theorem laid_1 {xs:List Pt} (hr:roomOk xs=true) {turn first dx:Int} {k m:Nat} (ht:(turn == 1)=true) (hm:m=(first.toNat + k) % xs.length) (hdx:-2≤dx∧dx≤2) :
  (W (W (0 - (xs.getD m (0,0)).2) + dx),(xs.getD m (0,0)).1)=laidAt xs turn first dx k:=by
 have h3:=(roomOk_iff.1 hr).1
 have h:=pt_room hr (i:=m) (by rw [hm];exact Nat.mod_lt _ (by omega))
 unfold laidAt laidP turnP W
 rw [← hm,if_pos (eq_of_beq ht),W_l1,W_in (by omega) (by omega)]
 simp
theorem laid_2 {xs:List Pt} (hr:roomOk xs=true) {turn first dx:Int} {k m:Nat} (hn:(turn == 1)=false) (ht:(turn == 2)=true) (hm:m=(first.toNat + k) % xs.length) (hdx:-2≤dx∧dx≤2) :
  (W (W (0 - (xs.getD m (0,0)).1) + dx),W (0 - (xs.getD m (0,0)).2))=laidAt xs turn first dx k:=by
 have h3:=(roomOk_iff.1 hr).1
 have h:=pt_room hr (i:=m) (by rw [hm];exact Nat.mod_lt _ (by omega))
 unfold laidAt laidP turnP W
 rw [← hm,if_neg (ne_of_beq_false hn),if_pos (eq_of_beq ht),W_l1,W_in (by omega) (by omega),W_in (by omega) (by omega)]
 simp
theorem laid_0 {xs:List Pt} (hr:roomOk xs=true) {turn first dx:Int} {k m:Nat} (hn:(turn == 1)=false) (ht:(turn == 2)=false) (hm:m=(first.toNat + k) % xs.length) (hdx:-2≤dx∧dx≤2) :
  (W ((xs.getD m (0,0)).1 + dx),(xs.getD m (0,0)).2)=laidAt xs turn first dx k:=by
 have h3:=(roomOk_iff.1 hr).1
 have h:=pt_room hr (i:=m) (by rw [hm];exact Nat.mod_lt _ (by omega))
 unfold laidAt laidP turnP W
 rw [← hm,if_neg (ne_of_beq_false hn),if_neg (ne_of_beq_false ht),W_in (by omega) (by omega)]
def l04RoomC:ConD:=mkConB [.cur] 0 t_spec_l01Cur (fun x=>curOk x.1) (fun x=>.agg [.d (.sl none (.b .pt) (roomX x.1))]) fun x=>curL (roomC x.1)
theorem l04Room_ok:GoodD Try.prog n_spec_l04Room l04RoomC:=by
 refine good_ofB (tys:=tyL) (env:=[(n_spec_l04Shape,l04ShapeC),(n_spec_l04Copy,(roomRoomC id)),(n_spec_RoomOk,roomOkC)]) (envw:=[]) (envd:=[(n_spec_l01Below,l01BelowC)]) [15,21,28,30,41,56,66,69,71,1000] [13,15,21,28,41,56,66,69,71,1000] [31,32,34,35,37,38,39,44,45,46,47,49,50,52,53,54,59,60] [] [15,21,28,41,56,66,69,71] mixed tys ⟨l04Shape_ok,l04Copy_ok,sRoomOk_ok,trivial⟩ trivial ⟨l01Below_ok,trivial⟩ Try.func61 rfl (by kernel_rfl) ⟨by decide,rfl⟩ (by kernel_rfl) ?_
 have hG_:=kpz [(0,[0,2]),(1,[0,2,3]),(2,[0,2,3,4]),(3,[0,2,3,4,5]),(4,[0,2,3,4,5,23]),(5,[0,2,3,4,5]),(6,[0,2,3,4,5,6]),(7,[0,2,3,4,5,6,7]),(8,[0,2,3,4,5,6,7]),(9,[0,2,3,4,5,7]),(10,[0,2,3,4,5,7,62]),(11,[0,2,3,4,5]),(12,[0,2,3,4,8]),(13,[0,2,3,4,8,9]),(14,[0,2,3,4,8,9,10]),(15,[2,3,4,8,9,10,11]),(16,[2,3,4,8,9,10,11,12]),(17,[2,3,4,8,9,10,11,12,75]),(18,[2,3,4,8,9,10,11,12]),(19,[2,3,4,8,9,10,11,12,13]),(20,[2,3,4,8,9,10,11,12,13,87]),(21,[2,3,4,8,9,10,11,12,13,87,88]),(22,[2,3,4,8,9,10,11,12,13]),(23,[2,3,4,8,9,10,11,12,13,96]),(24,[2,3,4,8,9,10,11,12,13]),(25,[2,3,4,8,9,10,11,12,13]),(26,[2,3,4,8,9,10,11,12]),(27,[2])] [(0,[2,1000]),(1,[2,3,1000]),(2,[2,3,1000]),(3,[2,3,1000]),(4,[2,3,1000]),(5,[2,3,30,1000]),(6,[2,3,1000]),(7,[2,3,7,30,1000]),(8,[2,3,7,30,1000]),(9,[2,3,7,30,1000]),(10,[2,3,7,30,1000]),(11,[2,3,30,1000]),(12,[2,3,8,1000]),(13,[2,3,8,1000]),(14,[2,3,8,1000]),(15,[2,3,8,1000]),(16,[2,3,8,1000]),(17,[2,3,8,1000]),(18,[2,3,8,1000]),(19,[2,3,8,13,1000]),(20,[2,3,8,13,1000]),(21,[2,3,8,13,1000]),(22,[2,3,8,13,1000]),(23,[2,3,8,13,1000]),(24,[2,3,8,13,1000]),(25,[2,3,8,13,1000]),(26,[2,3,8,1000]),(27,[2,1000])] [(11,[30])] []
 rintro ⟨⟨(bs:List Int),(i:Int),(h:Int)⟩,⟨⟩⟩ (hc:curOk (bs,i,h))
 have hb1:0≤roomK (bs,i,h)∧roomK (bs,i,h) < 4:=below_bd (c:=belowC (bs,i,h) 8) (n:=4) (by decide)
 have hl0:3≤(room0 (bs,i,h)).1.length∧(room0 (bs,i,h)).1.length≤10:=shape_len _
 have h1:curOk (belowC (bs,i,h) 8):=belowC_ok hc
 have hlen:=iterR_len (room0 (bs,i,h))
 have hcur:∀ j,curOk (iterR (room0 (bs,i,h)) j).2:=iterR_cur (s:=room0 (bs,i,h)) (show curOk (belowC (belowC (bs,i,h) 8) 4) from belowC_ok (belowC_ok hc))
 (repeat' (first|(with_reducible first|exact True.intro|refine zQ ?_|(refine zG hG_ ?_;intro K_ hK_)|(refine zR ?_;intro K_ hK_)|(refine hK_ _ _ ?_;try clear hK_ K_)|refine sq_n ?_|refine sq_r ?_|refine sq_e ?_|refine bq_n ?_|refine bq_r ?_|refine bq_q ?_|refine zB ?_|refine zX ?_|refine zT ?_|refine zK ?_|refine gq_n ?_|refine gq_r ?_|refine gq_e ?_|refine lq_n ?_|refine lq_r ?_|refine lq_e ?_|refine bq_e (by decide) ?_)|((with_reducible refine zC (b:=?b_) ?hb_ ?_ ?_);case hb_=>rfl)|((conv=>whnf);first|(with_reducible refine hK_ _ _ ?_;try clear hK_ K_)|(with_reducible refine fun (g_:Sl) (o_:Ow)=>?_)|(with_reducible first|exact True.intro|refine And.intro trivial ?_|refine And.intro ?_ ?_)|exact Nat.le_of_ble_eq_true rfl|exact Or.inl rfl|(intro h_;cases h_)|(intro h_;(try simp only [vS1] at h_))|rfl))) <;> (try (conv=>whnf)) <;> (try first|change (_:Int)≤_|change (_:Nat)≤_) <;> (try ((fail_if_success (with_reducible apply Exists.intro));(try dsimp only);(try simp only [vS1])))
 all_goals (try (fail_if_success (with_reducible apply Exists.intro));first|with_reducible assumption|omega|exact mdl (by omega)|exact ilo1 (by omega)|exact ilo2 (by omega)|exact ihi1 (by omega) (by omega)|exact ihi2 (by omega) (by omega))
 refine awp'_loopG (α:=Nat) (fun j ver_=>[(5,vInt (roomK (bs,i,h) - j)),(4,vInt ((iterR (room0 (bs,i,h)) j).1.length:Nat))]) (fun j ver_=>[(3,3,true,.box t_impl_Room [.d (.sl none (.b .pt) (iterR (room0 (bs,i,h)) j).1)])]) (fun j ver_=>[(1000,⟨0,.box t_spec_l01Cur ((curL (iterR (room0 (bs,i,h)) j).2).map .d)⟩),(13,⟨ver_ 13,.dead⟩)]) (fun j=>j≤(roomK (bs,i,h)).toNat) (fun j=>(roomK (bs,i,h)).toNat - j) [0,2] [2] (0) ?_
 conv=>whnf
 refine ⟨⟨?inv1_,?vals1_,?own1_,?fix1_⟩,?body1_⟩
 case' vals1_=>(repeat' (first|(with_reducible first|exact True.intro|refine And.intro ?_ ?_|refine Head.mk ?_ ?_ ?_ ?_)|((conv=>lhs;whnf);first|(with_reducible first|rfl|exact vInt_s (by omega))|exact rfl)|((conv=>whnf);first|(with_reducible first|exact True.intro|refine And.intro ?_ ?_)))) <;> (try (conv=>lhs;whnf))
 case' own1_=>(repeat' (first|(with_reducible first|exact True.intro|refine And.intro ?_ ?_|refine Head.mk ?_ ?_ ?_ ?_)|((conv=>lhs;whnf);first|(with_reducible first|rfl|exact vInt_s (by omega))|exact rfl)|((conv=>whnf);first|(with_reducible first|exact True.intro|refine And.intro ?_ ?_)))) <;> (try (conv=>lhs;whnf))
 case' fix1_=>(repeat' (first|(with_reducible first|exact True.intro|refine And.intro ?_ ?_|refine Head.mk ?_ ?_ ?_ ?_)|((conv=>lhs;whnf);first|(with_reducible first|rfl|exact vInt_s (by omega))|exact rfl)|((conv=>whnf);first|(with_reducible first|exact True.intro|refine And.intro ?_ ?_)))) <;> (try (conv=>lhs;whnf))
 ·exact (Int.sub_zero _).symm ▸ rfl
 ·exact Nat.zero_le _
 rintro j g_ o_ v_ hj
 have hn:=hlen j
 have hcj:=hcur j
 have hrj:=iterR_ok (s:=room0 (bs,i,h)) (shape_ok _) j
 generalize hs:iterR (room0 (bs,i,h)) j=s at *
 have hstep:iterR (room0 (bs,i,h)) (j + 1)=stepR s:=by show stepR _=_;rw [hs]
 obtain ⟨xs,c⟩:=s
 have hc1:curOk (belowC c (xs.length:Int)):=belowC_ok hcj
 have hc2:curOk (belowC (belowC c (xs.length:Int)) 3):=belowC_ok hc1
 have hx3:3≤xs.length∧xs.length≤10:=by have:xs.length=_:=hn;omega
 have hbx:=below_bd (c:=c) (n:=(xs.length:Int)) (by omega)
 (repeat' (first|(with_reducible first|exact True.intro|refine zQ ?_|(refine zG hG_ ?_;intro K_ hK_)|(refine zR ?_;intro K_ hK_)|(refine hK_ _ _ ?_;try clear hK_ K_)|refine sq_n ?_|refine sq_r ?_|refine sq_e ?_|refine bq_n ?_|refine bq_r ?_|refine bq_q ?_|refine zB ?_|refine zX ?_|refine zT ?_|refine zK ?_|refine gq_n ?_|refine gq_r ?_|refine gq_e ?_|refine lq_n ?_|refine lq_r ?_|refine lq_e ?_|refine bq_e (by decide) ?_)|((with_reducible refine zC (b:=?b_) ?hb_ ?_ ?_);case hb_=>rfl)|((conv=>whnf);first|(with_reducible refine hK_ _ _ ?_;try clear hK_ K_)|(with_reducible refine fun (g_:Sl) (o_:Ow)=>?_)|(with_reducible first|exact True.intro|refine And.intro trivial ?_|refine And.intro ?_ ?_)|exact Nat.le_of_ble_eq_true rfl|exact Or.inl rfl|(intro h_;cases h_)|(intro h_;(try simp only [vS1] at h_))|rfl))) <;> (try (conv=>whnf)) <;> (try first|change (_:Int)≤_|change (_:Nat)≤_) <;> (try ((fail_if_success (with_reducible apply Exists.intro));(try dsimp only);(try simp only [vS1])))
 all_goals (try (fail_if_success (with_reducible apply Exists.intro));first|with_reducible assumption|omega|exact mdl (by omega)|exact ilo1 (by omega)|exact ilo2 (by omega)|exact ihi1 (by omega) (by omega)|exact ihi2 (by omega) (by omega))
 all_goals (try (simp only [id_eq,List.length_set];omega))
 ·have hE:=stepX_setXY hrj c
  have h_:roomOk (setXY xs (belowX c xs.length).toNat (belowX (belowC c xs.length) 3) (belowX (belowC (belowC c xs.length) 3) 3))=true:=h_
  rw [hE] at h_
  have e1:iterR (room0 (bs,i,h)) (j + 1)=(stepX xs c,stepC xs.length c):=by rw [hstep];unfold stepR;simp only;rw [if_pos h_]
  refine ⟨j + 1,by omega,by omega,?_⟩
  rw [e1]
  (repeat' (first|(with_reducible first|exact True.intro|refine And.intro ?_ ?_|refine Head.mk ?_ ?_ ?_ ?_)|((conv=>lhs;whnf);first|(with_reducible first|rfl|exact vInt_s (by omega))|exact rfl)|((conv=>whnf);first|(with_reducible first|exact True.intro|refine And.intro ?_ ?_)))) <;> (try (conv=>lhs;whnf))
  ·exact congrArg vInt (by rw [W_in (by omega) (by omega)];omega)
  ·exact congrArg vInt (by show ((xs.length:Nat):Int)=((stepX xs c).length:Int);rw [stepX_len])
  ·exact congrArg (fun l=>Own.box t_impl_Room [.d (.sl none (.b .pt) l)]) hE
 ·have hE:=stepX_setXY hrj c
  have h_:roomOk (setXY xs (belowX c xs.length).toNat (belowX (belowC c xs.length) 3) (belowX (belowC (belowC c xs.length) 3) 3))=false:=h_
  rw [hE] at h_
  have e1:iterR (room0 (bs,i,h)) (j + 1)=(xs,stepC xs.length c):=by rw [hstep];unfold stepR;simp only;rw [if_neg (by rw [h_];decide)]
  refine ⟨j + 1,by omega,by omega,?_⟩
  rw [e1]
  (repeat' (first|(with_reducible first|exact True.intro|refine And.intro ?_ ?_|refine Head.mk ?_ ?_ ?_ ?_)|((conv=>lhs;whnf);first|(with_reducible first|rfl|exact vInt_s (by omega))|exact rfl)|((conv=>whnf);first|(with_reducible first|exact True.intro|refine And.intro ?_ ?_)))) <;> (try (conv=>lhs;whnf))
  ·exact congrArg vInt (by rw [W_in (by omega) (by omega)];omega)
 ·exact belowC_ok hcj
 ·exact belowC_ok (belowC_ok hcj)
 have hj2:j=(roomK (bs,i,h)).toNat:=by omega
 have hS:roomS (bs,i,h)=(xs,c):=by unfold roomS;rw [← hj2];exact hs
 have b1:=below_bd (c:=c) (n:=4) (by decide)
 have b2:=below_bd (c:=belowC c 4) (n:=(xs.length:Int)) (by omega)
 have b3:=below_bd (c:=belowC (belowC c 4) xs.length) (n:=5) (by decide)
 have hX:roomX (bs,i,h)=laidR xs (belowX c 4) (belowX (belowC c 4) xs.length) (belowX (belowC (belowC c 4) xs.length) 5 - 2):=by unfold roomX;rw [hS]
 have hC:roomC (bs,i,h)=belowC (belowC (belowC c 4) xs.length) 5:=by unfold roomC;rw [hS]
 generalize hT:belowX c 4=turn at *
 generalize hF:belowX (belowC c 4) xs.length=first at *
 generalize hD:belowX (belowC (belowC c 4) xs.length) 5=dx at *
 refine awp'_loopG (α:=Nat) (fun k ver_=>[(4,vInt (xs.length:Nat)),(9,vInt turn),(10,vInt first),(11,vInt (dx - 2)),(12,vInt k)]) (fun k ver_=>[(8,8,true,.box t_impl_Room [match k with|0=>.d .nil|_ + 1=>.own 114 (ver_ 114)])]) (fun k ver_=>match k with|0=>[]|_ + 1=>[(114,⟨ver_ 114,.row t_impl_Point (.b .pt) ((List.range k).map (laidAt xs turn first (dx - 2)))⟩)]) (fun k=>k≤xs.length) (fun k=>xs.length - k) [2,3] [2,3,1000] (0) ?_
 conv=>whnf
 refine ⟨⟨?inv2_,?vals2_,?own2_,?fix2_⟩,?body2_⟩
 case' vals2_=>(repeat' (first|(with_reducible first|exact True.intro|refine And.intro ?_ ?_|refine Head.mk ?_ ?_ ?_ ?_)|((conv=>lhs;whnf);first|(with_reducible first|rfl|exact vInt_s (by omega))|exact rfl)|((conv=>whnf);first|(with_reducible first|exact True.intro|refine And.intro ?_ ?_)))) <;> (try (conv=>lhs;whnf))
 case' own2_=>(repeat' (first|(with_reducible first|exact True.intro|refine And.intro ?_ ?_|refine Head.mk ?_ ?_ ?_ ?_)|((conv=>lhs;whnf);first|(with_reducible first|rfl|exact vInt_s (by omega))|exact rfl)|((conv=>whnf);first|(with_reducible first|exact True.intro|refine And.intro ?_ ?_)))) <;> (try (conv=>lhs;whnf))
 case' fix2_=>(repeat' (first|(with_reducible first|exact True.intro|refine And.intro ?_ ?_|refine Head.mk ?_ ?_ ?_ ?_)|((conv=>lhs;whnf);first|(with_reducible first|rfl|exact vInt_s (by omega))|exact rfl)|((conv=>whnf);first|(with_reducible first|exact True.intro|refine And.intro ?_ ?_)))) <;> (try (conv=>lhs;whnf))
 ·exact congrArg vInt (W_in (by omega) (by omega))
 ·exact Nat.zero_le _
 have hix:∀ k:Nat,k < xs.length→Int.tmod (W (first + (k:Int))) (xs.length:Int)=(((first.toNat + k) % xs.length:Nat):Int):=fun k hk=>by
  rw [show first=((first.toNat:Nat):Int) by omega]
  exact mod_nat (by omega)
 have hlt:∀ k:Nat,((first.toNat + k) % xs.length) < xs.length:=fun k=>Nat.mod_lt _ (by omega)
 have hin:∀ k:Nat,k < xs.length→0≤Int.tmod (W (first + (k:Int))) (xs.length:Int)∧Int.tmod (W (first + (k:Int))) (xs.length:Int) + 1≤(xs.length:Int):=fun k hk=>by
  have:=hlt k
  rw [hix k hk];omega
 have him:∀ k:Nat,k < xs.length→(Int.tmod (W (first + (k:Int))) (xs.length:Int)).toNat=(first.toNat + k) % xs.length:=fun k hk=>by rw [hix k hk];exact Int.toNat_natCast _
 rintro (_|k) g_ o_ v_ hk
 ·
  have hG_:=kpz [(0,[0,2]),(1,[0,2,3]),(2,[0,2,3,4]),(3,[0,2,3,4,5]),(4,[0,2,3,4,5,23]),(5,[0,2,3,4,5]),(6,[0,2,3,4,5,6]),(7,[0,2,3,4,5,6,7]),(8,[0,2,3,4,5,6,7]),(9,[0,2,3,4,5,7]),(10,[0,2,3,4,5,7,62]),(11,[0,2,3,4,5]),(12,[0,2,3,4,8]),(13,[0,2,3,4,8,9]),(14,[0,2,3,4,8,9,10]),(15,[2,3,4,8,9,10,11]),(16,[2,3,4,8,9,10,11,12]),(17,[2,3,4,8,9,10,11,12,75]),(18,[2,3,4,8,9,10,11,12]),(19,[2,3,4,8,9,10,11,12,13]),(20,[2,3,4,8,9,10,11,12,13,87]),(21,[2,3,4,8,9,10,11,12,13,87,88]),(22,[2,3,4,8,9,10,11,12,13]),(23,[2,3,4,8,9,10,11,12,13,96]),(24,[2,3,4,8,9,10,11,12,13]),(25,[2,3,4,8,9,10,11,12,13]),(26,[2,3,4,8,9,10,11,12]),(27,[2])] [(0,[2,1000]),(1,[2,3,1000]),(2,[2,3,1000]),(3,[2,3,1000]),(4,[2,3,1000]),(5,[2,3,30,1000]),(6,[2,3,1000]),(7,[2,3,7,30,1000]),(8,[2,3,7,30,1000]),(9,[2,3,7,30,1000]),(10,[2,3,7,30,1000]),(11,[2,3,30,1000]),(12,[2,3,8,1000]),(13,[2,3,8,1000]),(14,[2,3,8,1000]),(15,[2,3,8,1000]),(16,[2,3,8,1000]),(17,[2,3,8,1000]),(18,[2,3,8,114,1000]),(19,[2,3,8,13,1000]),(20,[2,3,8,13,1000]),(21,[2,3,8,13,1000]),(22,[2,3,8,13,1000]),(23,[2,3,8,13,1000]),(24,[2,3,8,13,1000]),(25,[2,3,8,13,1000]),(26,[2,3,8,114,1000]),(27,[2,1000])] [(11,[30])] []
  (repeat' (first|(with_reducible first|exact True.intro|refine zQ ?_|(refine zG hG_ ?_;intro K_ hK_)|(refine zR ?_;intro K_ hK_)|(refine hK_ _ _ ?_;try clear hK_ K_)|refine sq_n ?_|refine sq_r ?_|refine sq_e ?_|refine bq_n ?_|refine bq_r ?_|refine bq_q ?_|refine zB ?_|refine zX ?_|refine zT ?_|refine zK ?_|refine gq_n ?_|refine gq_r ?_|refine gq_e ?_|refine lq_n ?_|refine lq_r ?_|refine lq_e ?_|refine bq_e (by decide) ?_)|((with_reducible refine zC (b:=?b_) ?hb_ ?_ ?_);case hb_=>rfl)|((conv=>whnf);first|(with_reducible refine hK_ _ _ ?_;try clear hK_ K_)|(with_reducible refine fun (g_:Sl) (o_:Ow)=>?_)|(with_reducible first|exact True.intro|refine And.intro trivial ?_|refine And.intro ?_ ?_)|exact Nat.le_of_ble_eq_true rfl|exact Or.inl rfl|(intro h_;cases h_)|(intro h_;(try simp only [vS1] at h_))|rfl))) <;> (try (conv=>whnf)) <;> (try first|change (_:Int)≤_|change (_:Nat)≤_) <;> (try ((fail_if_success (with_reducible apply Exists.intro));(try dsimp only);(try simp only [vS1])))
  all_goals (try ((fail_if_success (with_reducible apply Exists.intro));first|with_reducible assumption|exact (hin _ (by omega)).1|exact (hin _ (by omega)).2|(simp only [List.length_map,List.length_range,List.length_singleton];omega)|omega))
  ·refine ⟨1,by omega,by omega,?_⟩
   (repeat' (first|(with_reducible first|exact True.intro|refine And.intro ?_ ?_|refine Head.mk ?_ ?_ ?_ ?_)|((conv=>lhs;whnf);first|(with_reducible first|rfl|exact vInt_s (by omega))|exact rfl)|((conv=>whnf);first|(with_reducible first|exact True.intro|refine And.intro ?_ ?_)))) <;> (try (conv=>lhs;whnf))
   exact locRow_eq (rng1 (laid_1 hrj ‹_› (him 0 (by omega)) (by omega)))
  ·refine ⟨1,by omega,by omega,?_⟩
   (repeat' (first|(with_reducible first|exact True.intro|refine And.intro ?_ ?_|refine Head.mk ?_ ?_ ?_ ?_)|((conv=>lhs;whnf);first|(with_reducible first|rfl|exact vInt_s (by omega))|exact rfl)|((conv=>whnf);first|(with_reducible first|exact True.intro|refine And.intro ?_ ?_)))) <;> (try (conv=>lhs;whnf))
   exact locRow_eq (rng1 (laid_2 hrj ‹_› ‹_› (him 0 (by omega)) (by omega)))
  ·refine ⟨1,by omega,by omega,?_⟩
   (repeat' (first|(with_reducible first|exact True.intro|refine And.intro ?_ ?_|refine Head.mk ?_ ?_ ?_ ?_)|((conv=>lhs;whnf);first|(with_reducible first|rfl|exact vInt_s (by omega))|exact rfl)|((conv=>whnf);first|(with_reducible first|exact True.intro|refine And.intro ?_ ?_)))) <;> (try (conv=>lhs;whnf))
   exact locRow_eq (rng1 (laid_0 hrj ‹_› ‹_› (him 0 (by omega)) (by omega)))
 ·
  have hG_:=kpz [(0,[0,2]),(1,[0,2,3]),(2,[0,2,3,4]),(3,[0,2,3,4,5]),(4,[0,2,3,4,5,23]),(5,[0,2,3,4,5]),(6,[0,2,3,4,5,6]),(7,[0,2,3,4,5,6,7]),(8,[0,2,3,4,5,6,7]),(9,[0,2,3,4,5,7]),(10,[0,2,3,4,5,7,62]),(11,[0,2,3,4,5]),(12,[0,2,3,4,8]),(13,[0,2,3,4,8,9]),(14,[0,2,3,4,8,9,10]),(15,[2,3,4,8,9,10,11]),(16,[2,3,4,8,9,10,11,12]),(17,[2,3,4,8,9,10,11,12,75]),(18,[2,3,4,8,9,10,11,12]),(19,[2,3,4,8,9,10,11,12,13]),(20,[2,3,4,8,9,10,11,12,13,87]),(21,[2,3,4,8,9,10,11,12,13,87,88]),(22,[2,3,4,8,9,10,11,12,13]),(23,[2,3,4,8,9,10,11,12,13,96]),(24,[2,3,4,8,9,10,11,12,13]),(25,[2,3,4,8,9,10,11,12,13]),(26,[2,3,4,8,9,10,11,12]),(27,[2])] [(0,[2,114,1000]),(1,[2,3,114,1000]),(2,[2,3,114,1000]),(3,[2,3,114,1000]),(4,[2,3,114,1000]),(5,[2,3,30,114,1000]),(6,[2,3,114,1000]),(7,[2,3,7,30,114,1000]),(8,[2,3,7,30,114,1000]),(9,[2,3,7,30,114,1000]),(10,[2,3,7,30,114,1000]),(11,[2,3,30,114,1000]),(12,[2,3,8,114,1000]),(13,[2,3,8,114,1000]),(14,[2,3,8,114,1000]),(15,[2,3,8,114,1000]),(16,[2,3,8,114,1000]),(17,[2,3,8,114,1000]),(18,[2,3,8,114,1000]),(19,[2,3,8,13,114,1000]),(20,[2,3,8,13,114,1000]),(21,[2,3,8,13,114,1000]),(22,[2,3,8,13,114,1000]),(23,[2,3,8,13,114,1000]),(24,[2,3,8,13,114,1000]),(25,[2,3,8,13,114,1000]),(26,[2,3,8,114,1000]),(27,[2,114,1000])] [(11,[30])] []
  (repeat' (first|(with_reducible first|exact True.intro|refine zQ ?_|(refine zG hG_ ?_;intro K_ hK_)|(refine zR ?_;intro K_ hK_)|(refine hK_ _ _ ?_;try clear hK_ K_)|refine sq_n ?_|refine sq_r ?_|refine sq_e ?_|refine bq_n ?_|refine bq_r ?_|refine bq_q ?_|refine zB ?_|refine zX ?_|refine zT ?_|refine zK ?_|refine gq_n ?_|refine gq_r ?_|refine gq_e ?_|refine lq_n ?_|refine lq_r ?_|refine lq_e ?_|refine bq_e (by decide) ?_)|((with_reducible refine zC (b:=?b_) ?hb_ ?_ ?_);case hb_=>rfl)|((conv=>whnf);first|(with_reducible refine hK_ _ _ ?_;try clear hK_ K_)|(with_reducible refine fun (g_:Sl) (o_:Ow)=>?_)|(with_reducible first|exact True.intro|refine And.intro trivial ?_|refine And.intro ?_ ?_)|exact Nat.le_of_ble_eq_true rfl|exact Or.inl rfl|(intro h_;cases h_)|(intro h_;(try simp only [vS1] at h_))|rfl))) <;> (try (conv=>whnf)) <;> (try first|change (_:Int)≤_|change (_:Nat)≤_) <;> (try ((fail_if_success (with_reducible apply Exists.intro));(try dsimp only);(try simp only [vS1])))
  all_goals (try ((fail_if_success (with_reducible apply Exists.intro));first|with_reducible assumption|exact (hin _ (by omega)).1|exact (hin _ (by omega)).2|(simp only [List.length_map,List.length_range,List.length_singleton];omega)|omega))
  ·refine ⟨k + 2,by omega,by omega,?_⟩
   (repeat' (first|(with_reducible first|exact True.intro|refine And.intro ?_ ?_|refine Head.mk ?_ ?_ ?_ ?_)|((conv=>lhs;whnf);first|(with_reducible first|rfl|exact vInt_s (by omega))|exact rfl)|((conv=>whnf);first|(with_reducible first|exact True.intro|refine And.intro ?_ ?_)))) <;> (try (conv=>lhs;whnf))
   exact locRow_eq (rngS (laid_1 hrj ‹_› (him (k + 1) (by omega)) (by omega)))
  ·refine ⟨k + 2,by omega,by omega,?_⟩
   (repeat' (first|(with_reducible first|exact True.intro|refine And.intro ?_ ?_|refine Head.mk ?_ ?_ ?_ ?_)|((conv=>lhs;whnf);first|(with_reducible first|rfl|exact vInt_s (by omega))|exact rfl)|((conv=>whnf);first|(with_reducible first|exact True.intro|refine And.intro ?_ ?_)))) <;> (try (conv=>lhs;whnf))
   exact locRow_eq (rngS (laid_2 hrj ‹_› ‹_› (him (k + 1) (by omega)) (by omega)))
  ·refine ⟨k + 2,by omega,by omega,?_⟩
   (repeat' (first|(with_reducible first|exact True.intro|refine And.intro ?_ ?_|refine Head.mk ?_ ?_ ?_ ?_)|((conv=>lhs;whnf);first|(with_reducible first|rfl|exact vInt_s (by omega))|exact rfl)|((conv=>whnf);first|(with_reducible first|exact True.intro|refine And.intro ?_ ?_)))) <;> (try (conv=>lhs;whnf))
   exact locRow_eq (rngS (laid_0 hrj ‹_› ‹_› (him (k + 1) (by omega)) (by omega)))
  ·show dOf _=some _
   rw [hC];rfl
  ·rw [hX,show k + 1=xs.length by omega];rfl
theorem roomC_ok {c:Cur} (h:curOk c):curOk (roomC c):=belowC_ok (belowC_ok (belowC_ok (iterR_cur (s:=room0 c) (show curOk (belowC (belowC c 8) 4) from belowC_ok (belowC_ok h)) _)))
def drawRoomM (bs:List Int):List Pt:=roomX (newC bs)
def l08PointX (c:Cur) (xs:List Pt):Pt:=pAt (floorPts xs) (belowX c (floorPts xs).length).toNat
def l08PointC (c:Cur) (xs:List Pt):Cur:=belowC c (floorPts xs).length
def l08PointCo:ConD:=mkConB [.cur,.room] 0 t_spec_l01Cur (fun x=>curOk x.1∧x.2.1.length≤1048576∧0 < (floorPts x.2.1).length) (fun x=>.agg (cPt (l08PointX x.1 x.2.1))) fun x=>curL (l08PointC x.1 x.2.1)
theorem l08Point_ok:GoodD Try.prog n_spec_l08Point l08PointCo:=by
 refine good_ofB (tys:=tyL) (env:=[(n_spec_FloorPoints,floorTC)]) (envw:=[]) (envd:=[(n_spec_l01Below,l01BelowC)]) [17,1000] [17,1000] [] [] [17] mixed tys ⟨floorPoints_ok,trivial⟩ trivial ⟨l01Below_ok,trivial⟩ Try.func96 rfl (by kernel_rfl) ⟨by decide,rfl⟩ (by kernel_rfl) ?_
 have hG_:=kpz [(0,[0,3,4]),(1,[0,4,5]),(2,[0,4,5,10]),(3,[4]),(4,[4])] [(0,[4,1000]),(1,[4,1000]),(2,[4,1000]),(3,[4,1000]),(4,[4,1000])] [] []
 rintro ⟨⟨(bs:List Int),(i:Int),(h:Int)⟩,(xs:List Pt),⟨⟩⟩ ⟨(hc:curOk (bs,i,h)),(h1:xs.length≤_),(h2:0 < (floorPts xs).length)⟩
 have hf:=floor_len xs
 have hb:=below_bd (c:=(bs,i,h)) (n:=((floorPts xs).length:Int)) (by omega)
 (repeat' (first|(with_reducible first|exact True.intro|refine zQ ?_|(refine zG hG_ ?_;intro K_ hK_)|(refine zR ?_;intro K_ hK_)|(refine hK_ _ _ ?_;try clear hK_ K_)|refine sq_n ?_|refine sq_r ?_|refine sq_e ?_|refine bq_n ?_|refine bq_r ?_|refine bq_q ?_|refine zB ?_|refine zX ?_|refine zT ?_|refine zK ?_|refine gq_n ?_|refine gq_r ?_|refine gq_e ?_|refine lq_n ?_|refine lq_r ?_|refine lq_e ?_|refine bq_e (by decide) ?_)|((with_reducible refine zC (b:=?b_) ?hb_ ?_ ?_);case hb_=>rfl)|((conv=>whnf);first|(with_reducible refine hK_ _ _ ?_;try clear hK_ K_)|(with_reducible refine fun (g_:Sl) (o_:Ow)=>?_)|(with_reducible first|exact True.intro|refine And.intro trivial ?_|refine And.intro ?_ ?_)|exact Nat.le_of_ble_eq_true rfl|exact Or.inl rfl|(intro h_;cases h_)|(intro h_;(try simp only [vS1] at h_))|rfl))) <;> (try (conv=>whnf)) <;> (try first|change (_:Int)≤_|change (_:Nat)≤_) <;> (try ((fail_if_success (with_reducible apply Exists.intro));(try dsimp only);(try simp only [vS1])))
 all_goals (try (fail_if_success (with_reducible apply Exists.intro));first|with_reducible assumption|omega|exact mdl (by omega)|exact ilo1 (by omega)|exact ilo2 (by omega)|exact ihi1 (by omega) (by omega)|exact ihi2 (by omega) (by omega))
 ·exact absurd (eq_of_beq h_) (by omega)
def sightC0 (bs:List Int):Cur:=roomC (newC bs)
def drawSightM (bs:List Int):List Pt × Pt × Pt:=(drawRoomM bs,l08PointX (sightC0 bs) (drawRoomM bs),l08PointX (l08PointC (sightC0 bs) (drawRoomM bs)) (drawRoomM bs))
def drawSightC:Con:=mkCon [.sl (.b .u8)] (fun x=>x.1.length≤1048576∧0 < (floorPts (drawRoomM x.1)).length∧(drawRoomM x.1).length≤10) fun x=>.val (.tup [.inr [.d (.sl none (.b .pt) (drawSightM x.1).1)],.inr (cPt (drawSightM x.1).2.1),.inr (cPt (drawSightM x.1).2.2)])
theorem drawSight_ok:Good1 Try.prog n_spec_DrawSight drawSightC:=by
 refine good_ofG (tys:=tyL) (env:=[]) (envw:=[]) (envd:=[(n_spec_l01New,l01NewC),(n_spec_l04Room,l04RoomC),(n_spec_l08Point,l08PointCo)]) [2,9,11,14,19] [2,9,11,14,19] [15,16,18] [] [9,11,14,19] mixed tys trivial trivial ⟨l01New_ok,l04Room_ok,l08Point_ok,trivial⟩ Try.func46 rfl (by kernel_rfl) (by decide) (by kernel_rfl) ?_
 have hG_:=kpz [(0,[0,2,3,4]),(1,[2,3,4,5]),(2,[2,3,4,5,6]),(3,[2,3,4,5,6,7]),(4,[2,3,4])] [(0,[2,3,4]),(1,[2,3,4,9]),(2,[2,3,4,6,9]),(3,[2,3,4,6,7,9]),(4,[2,3,4,9])] [] []
 rintro ⟨(bs:List Int),⟨⟩⟩ ⟨(h1:bs.length≤_),(h2:0 < (floorPts (drawRoomM bs)).length),(h3:(drawRoomM bs).length≤10)⟩
 have hc:=newC_ok h1
 have hc2:curOk (roomC (newC bs)):=roomC_ok hc
 have hc3:curOk (l08PointC (roomC (newC bs)) (roomX (newC bs))):=belowC_ok hc2
 have h2:0 < (floorPts (roomX (newC bs))).length:=h2
 have h3:(roomX (newC bs)).length≤10:=h3
 (repeat' (first|(with_reducible first|exact True.intro|refine zQ ?_|(refine zG hG_ ?_;intro K_ hK_)|(refine zR ?_;intro K_ hK_)|(refine hK_ _ _ ?_;try clear hK_ K_)|refine sq_n ?_|refine sq_r ?_|refine sq_e ?_|refine bq_n ?_|refine bq_r ?_|refine bq_q ?_|refine zB ?_|refine zX ?_|refine zT ?_|refine zK ?_|refine gq_n ?_|refine gq_r ?_|refine gq_e ?_|refine lq_n ?_|refine lq_r ?_|refine lq_e ?_|refine bq_e (by decide) ?_)|((with_reducible refine zC (b:=?b_) ?hb_ ?_ ?_);case hb_=>rfl)|((conv=>whnf);first|(with_reducible refine hK_ _ _ ?_;try clear hK_ K_)|(with_reducible refine fun (g_:Sl) (o_:Ow)=>?_)|(with_reducible first|exact True.intro|refine And.intro trivial ?_|refine And.intro ?_ ?_)|exact Nat.le_of_ble_eq_true rfl|exact Or.inl rfl|(intro h_;cases h_)|(intro h_;(try simp only [vS1] at h_))|rfl))) <;> (try (conv=>whnf)) <;> (try first|change (_:Int)≤_|change (_:Nat)≤_) <;> (try ((fail_if_success (with_reducible apply Exists.intro));(try dsimp only);(try simp only [vS1])))
 all_goals (try (fail_if_success (with_reducible apply Exists.intro));first|with_reducible assumption|omega|exact mdl (by omega)|exact ilo1 (by omega)|exact ilo2 (by omega)|exact ihi1 (by omega) (by omega)|exact ihi2 (by omega) (by omega))
end Go.Proofs.Ytnepfcnlngpchaa
namespace Go.Proofs.Ytnepfcnlngpchaa
open Go.RowKit Go.Proofs.Ytnepfcnlngpchaa.Nm
set_option maxRecDepth 10000
theorem shape_bd (k:Int):∀ q∈shapeM k,0≤q.1∧q.1≤10∧0≤q.2∧q.2≤10:=by
 unfold shapeM
 repeat' split
 all_goals decide
theorem stepR_bd {s:List Pt × Cur} {j:Int} (hr:roomOk s.1=true) (h:∀ q∈s.1,-j≤q.1∧q.1≤10 + j∧-j≤q.2∧q.2≤10 + j):∀ q∈(stepR s).1,-(j + 1)≤q.1∧q.1≤10 + (j + 1)∧-(j + 1)≤q.2∧q.2≤10 + (j + 1):=by
 have h3:=(roomOk_iff.1 hr).1
 intro q hq
 have old:q∈s.1→-(j + 1)≤q.1∧q.1≤10 + (j + 1)∧-(j + 1)≤q.2∧q.2≤10 + (j + 1):=fun hq=>by have:=h q hq;omega
 unfold stepR at hq
 simp only at hq
 split at hq
 ·unfold stepX at hq
  rcases List.mem_or_eq_of_mem_set hq with hq|rfl
  ·exact old hq
  ·have hb:=below_bd (c:=s.2) (n:=(s.1.length:Int)) (by omega)
   have hi:(belowX s.2 s.1.length).toNat < s.1.length:=by omega
   have:=h _ (List.getElem_mem hi)
   rw [← getD_lt (0,0) hi] at this
   have b1:=below_bd (c:=belowC s.2 s.1.length) (n:=3) (by decide)
   have b2:=below_bd (c:=belowC (belowC s.2 s.1.length) 3) (n:=3) (by decide)
   simp only
   omega
 ·exact old hq
theorem iterR_bd (c:Cur):∀ j:Nat,∀ q∈(iterR (room0 c) j).1,-(j:Int)≤q.1∧q.1≤10 + (j:Int)∧-(j:Int)≤q.2∧q.2≤10 + (j:Int)
 | 0=>fun q hq=>by have:=shape_bd _ q hq;omega
 | j + 1=>stepR_bd (iterR_ok (shape_ok _) j) (iterR_bd c j)
def laidMv (turn dx:Int):Geo.Mv:=if turn=1 then ⟨0,1,dx,0,rfl⟩ else if turn=2 then ⟨-1,0,dx,0,rfl⟩ else ⟨1,0,dx,0,rfl⟩
theorem laidMv_app (turn dx:Int) (p:Pt):laidP turn dx p=(laidMv turn dx).app p:=by
 unfold laidP turnP laidMv Geo.Mv.app
 split
 ·refine Prod.ext ?_ ?_ <;> simp only <;> omega
 ·split
  ·refine Prod.ext ?_ ?_ <;> simp only <;> omega
  ·refine Prod.ext ?_ ?_ <;> simp only <;> omega
theorem laidR_len (xs:List Pt) (turn first dx:Int):(laidR xs turn first dx).length=xs.length:=by unfold laidR;simp
theorem laid_ok {xs:List Pt} (hr:roomOk xs=true) {turn first dx:Int} (hb:∀ q∈xs,-30≤q.1∧q.1≤30∧-30≤q.2∧q.2≤30) (hd:-2≤dx∧dx≤2):roomOk (laidR xs turn first dx)=true:=by
 have h3:=(roomOk_iff.1 hr).1
 have hn:0 < xs.length:=by omega
 refine Geo.room_moved hr first.toNat (laidMv turn dx) (laidR_len _ _ _ _) (fun j=>?_) fun q hq=>?_
 ·show (laidR xs turn first dx).getD (j % (laidR xs turn first dx).length) (0,0)=_
  rw [laidR_len]
  have hj:=Nat.mod_lt j hn
  rw [getD_lt _ (by rw [laidR_len];exact hj)]
  unfold laidR
  rw [List.getElem_map,List.getElem_range]
  show laidP turn dx (xs.getD ((first.toNat + j % xs.length) % xs.length) (0,0))=_
  rw [laidMv_app,Nat.add_mod_mod]
 ·unfold laidR at hq
  obtain ⟨k,-,rfl⟩:=List.mem_map.1 hq
  have hm:(first.toNat + k) % xs.length < xs.length:=Nat.mod_lt _ hn
  have:=hb _ (List.getElem_mem hm)
  rw [← getD_lt (0,0) hm] at this
  show ptOk (laidP turn dx (xs.getD _ _))=true
  refine ptOk_iff.2 ?_
  unfold laidP turnP
  repeat' split
  all_goals simp only;omega
theorem roomX_ok (c:Cur):roomOk (roomX c)=true:=by
 have hK:0≤roomK c∧roomK c < 4:=below_bd (by decide)
 refine laid_ok (iterR_ok (s:=room0 c) (shape_ok _) _) (fun q hq=>?_) ?_
 ·have:=iterR_bd c _ q hq
  omega
 ·have:=below_bd (c:=belowC (belowC (roomS c).2 4) (roomS c).1.length) (n:=5) (by decide)
  omega
theorem drawRoom_room (bs:List Int):roomOk (drawRoomM bs)=true:=roomX_ok _
end Go.Proofs.Ytnepfcnlngpchaa
namespace Go.Proofs.Ytnepfcnlngpchaa
open Go.RowKit Go.Proofs.Ytnepfcnlngpchaa.Nm
set_option maxRecDepth 10000
set_option maxHeartbeats 2000000
def AcAt (cs:List Int) (t:Tri):Prop:=cs.getD t.1.toNat 0≠cs.getD t.2.1.toNat 0∧cs.getD t.2.1.toNat 0≠cs.getD t.2.2.toNat 0∧cs.getD t.1.toNat 0≠cs.getD t.2.2.toNat 0
instance (cs:List Int) (t:Tri):Decidable (AcAt cs t):=by unfold AcAt;infer_instance
end Go.Proofs.Ytnepfcnlngpchaa
namespace Go.Proofs.Ytnepfcnlngpchaa
open Go.RowKit Go.Proofs.Ytnepfcnlngpchaa.Nm
set_option maxRecDepth 10000
set_option maxHeartbeats 4000000
def dArea (xs:List Pt):Int:=if (decide ((xs.length:Int)≤10) && xs.all ptOk)=true then IntKind.i64.wrap (dbl xs) else 0
def dAreaC:Con:=mkCon [.sl (.b .pt)] (fun x=>x.1.length≤1048576) fun x=>vI (dArea x.1)
theorem dArea_ok:Good1 Try.prog n_impl_DoubleArea dAreaC:=by
 refine good_ofG (tys:=tyL) (env:=[(n_impl_pointsOk,pointsOkC),(n_impl_area,areaC)]) (envw:=[]) (envd:=[]) [] [] [] [] [] mixed tys ⟨pointsOk_ok,area_ok,trivial⟩ trivial trivial Try.func23 rfl (by kernel_rfl) (by decide) (by kernel_rfl) ?_
 have hG_:=kpz [(0,[0]),(1,[0,10]),(2,[2]),(3,[2])] [] [] []
 rintro ⟨(xs:List Pt),⟨⟩⟩ (h1:xs.length≤_)
 (repeat' (first|(with_reducible first|exact True.intro|refine zQ ?_|(refine zG hG_ ?_;intro K_ hK_)|(refine zR ?_;intro K_ hK_)|(refine hK_ _ _ ?_;try clear hK_ K_)|refine sq_n ?_|refine sq_r ?_|refine sq_e ?_|refine bq_n ?_|refine bq_r ?_|refine bq_q ?_|refine zB ?_|refine zX ?_|refine zT ?_|refine zK ?_|refine gq_n ?_|refine gq_r ?_|refine gq_e ?_|refine lq_n ?_|refine lq_r ?_|refine lq_e ?_|refine bq_e (by decide) ?_)|((with_reducible refine zC (b:=?b_) ?hb_ ?_ ?_);case hb_=>rfl)|((conv=>whnf);first|(with_reducible refine hK_ _ _ ?_;try clear hK_ K_)|(with_reducible refine fun (g_:Sl) (o_:Ow)=>?_)|(with_reducible first|exact True.intro|refine And.intro trivial ?_|refine And.intro ?_ ?_)|exact Nat.le_of_ble_eq_true rfl|exact Or.inl rfl|(intro h_;cases h_)|(intro h_;(try simp only [vS1] at h_))|rfl))) <;> (try (conv=>whnf)) <;> (try first|change (_:Int)≤_|change (_:Nat)≤_) <;> (try ((fail_if_success (with_reducible apply Exists.intro));(try dsimp only);(try simp only [vS1]))) <;> (try simp (disch:=omega) only [vS3,Int.add_sub_cancel,tn1,tnp,tnc,vS2] at *)
 all_goals (try ((fail_if_success (with_reducible apply Exists.intro));first|with_reducible assumption|omega))
 ·unfold dArea
  rw [decide_eq_false (by omega)];rfl
 ·unfold dArea
  rw [‹xs.all ptOk=false›,Bool.and_false];rfl
 ·unfold dArea
  rw [decide_eq_true (show (xs.length:Int)≤10 by omega),‹xs.all ptOk=true›];rfl
theorem dArea_room {xs:List Pt} (hr:roomOk xs=true):dArea xs=dbl xs:=by
 have hl:=room_len hr
 have h2:=(Geo.room_area hr).2
 rw [← (Geo.room_area hr).1] at h2
 unfold dArea
 rw [if_pos (by rw [decide_eq_true (by omega),(roomOk_iff.1 hr).2.1];rfl)]
 exact W_in (by omega) (by omega)
def iSeesM (xs:List Pt) (a b:Pt):Bool:=allInM xs [a,b] && seesS xs a b
def iSeesC:Con:=mkCon [.room,.pt,.pt] (fun x=>x.1.length≤1048576) fun x=>vB (iSeesM x.1 x.2.1 x.2.2.1)
theorem allIn2 {xs:List Pt} {a b:Pt} (h:allInM xs [a,b]=true):roomOk xs=true∧ptOk a=true∧ptOk b=true:=by
 obtain ⟨h1,h2⟩:=allIn_iff.1 h
 exact ⟨h1,(inP_iff.1 (h2 0 (by simp))).1,(inP_iff.1 (h2 1 (by simp))).1⟩
theorem iSees_ok:Good1 Try.prog n_impl_Sees iSeesC:=by
 refine good_ofG (tys:=tyL) (env:=[(n_impl_allIn,allInC),(n_impl_sees,sees2C)]) (envw:=[]) (envd:=[]) [] [] [] [] [] mixed tys ⟨allIn_ok,sees2_ok,trivial⟩ trivial trivial Try.func51 rfl (by kernel_rfl) (by decide) (by kernel_rfl) ?_
 have hG_:=kpz [(0,[3,4,5]),(1,[6])] [] [] []
 rintro ⟨(xs:List Pt),⟨(a:Int),(b:Int)⟩,⟨(c:Int),(d:Int)⟩,⟨⟩⟩ (h1:xs.length≤_)
 (repeat' (first|(with_reducible first|exact True.intro|refine zQ ?_|(refine zG hG_ ?_;intro K_ hK_)|(refine zR ?_;intro K_ hK_)|(refine hK_ _ _ ?_;try clear hK_ K_)|refine sq_n ?_|refine sq_r ?_|refine sq_e ?_|refine bq_n ?_|refine bq_r ?_|refine bq_q ?_|refine zB ?_|refine zX ?_|refine zT ?_|refine zK ?_|refine gq_n ?_|refine gq_r ?_|refine gq_e ?_|refine lq_n ?_|refine lq_r ?_|refine lq_e ?_|refine bq_e (by decide) ?_)|((with_reducible refine zC (b:=?b_) ?hb_ ?_ ?_);case hb_=>rfl)|((conv=>whnf);first|(with_reducible refine hK_ _ _ ?_;try clear hK_ K_)|(with_reducible refine fun (g_:Sl) (o_:Ow)=>?_)|(with_reducible first|exact True.intro|refine And.intro trivial ?_|refine And.intro ?_ ?_)|exact Nat.le_of_ble_eq_true rfl|exact Or.inl rfl|(intro h_;cases h_)|(intro h_;(try simp only [vS1] at h_))|rfl))) <;> (try (conv=>whnf)) <;> (try first|change (_:Int)≤_|change (_:Nat)≤_) <;> (try ((fail_if_success (with_reducible apply Exists.intro));(try dsimp only);(try simp only [vS1]))) <;> (try simp (disch:=omega) only [vS3,Int.add_sub_cancel,tn1,tnp,tnc,vS2] at *)
 all_goals (try ((fail_if_success (with_reducible apply Exists.intro));first|with_reducible assumption|omega))
 all_goals first
  | exact (allIn2 (by assumption)).1
  | exact (allIn2 (by assumption)).2.1
  | exact (allIn2 (by assumption)).2.2
  | (unfold iSeesM;simp_all;done)
  | skip
noncomputable def hidS (bs:List Int):List Pt × Pt × Pt:=Classical.choose (⟨drawSightM bs,rfl⟩:∃ y,y=drawSightM bs)
theorem hidS_eq (bs:List Int):hidS bs=drawSightM bs:=Classical.choose_spec (⟨drawSightM bs,rfl⟩:∃ y,y=drawSightM bs)
noncomputable def drawSightHC:Con:=mkCon [.sl (.b .u8)] (fun x=>x.1.length≤1048576∧0 < (floorPts (drawRoomM x.1)).length∧(drawRoomM x.1).length≤10) fun x=>.val (.tup [.inr [.d (.sl none (.b .pt) (hidS x.1).1)],.inr (cPt (hidS x.1).2.1),.inr (cPt (hidS x.1).2.2)])
theorem drawSightH_ok:Good1 Try.prog n_spec_DrawSight drawSightHC:=by
 exact Good1.imp drawSight_ok fun x h=>⟨h,by
  show RV.val (.tup [.inr [.d (.sl none (.b .pt) (hidS x.1).1)],.inr (cPt (hidS x.1).2.1),.inr (cPt (hidS x.1).2.2)])=_
  rw [hidS_eq]⟩
theorem laid_near {xs:List Pt} (hn:0 < xs.length) {turn first dx:Int} (hb:∀ q∈xs,-3≤q.1∧q.1≤13∧-3≤q.2∧q.2≤13) (hd:-2≤dx∧dx≤2):∀ q∈laidR xs turn first dx,-15≤q.1∧q.1≤15∧-15≤q.2∧q.2≤15:=by
 intro q hq
 unfold laidR at hq
 obtain ⟨k,-,rfl⟩:=List.mem_map.1 hq
 have hm:(first.toNat + k) % xs.length < xs.length:=Nat.mod_lt _ hn
 have:=hb _ (List.getElem_mem hm)
 rw [← getD_lt (0,0) hm] at this
 show -15≤(laidP turn dx (xs.getD _ _)).1∧(laidP turn dx (xs.getD _ _)).1≤15∧-15≤(laidP turn dx (xs.getD _ _)).2∧(laidP turn dx (xs.getD _ _)).2≤15
 unfold laidP turnP
 repeat' split
 all_goals simp only;omega
theorem drawRoom_near (bs:List Int):∀ q∈drawRoomM bs,-15≤q.1∧q.1≤15∧-15≤q.2∧q.2≤15:=by
 have hK:0≤roomK (newC bs)∧roomK (newC bs) < 4:=below_bd (by decide)
 have h3:=(roomOk_iff.1 (iterR_ok (s:=room0 (newC bs)) (shape_ok _) (roomK (newC bs)).toNat)).1
 refine laid_near (xs:=(roomS (newC bs)).1) (by unfold roomS;omega) (fun q hq=>?_) ?_
 ·have:=iterR_bd (newC bs) _ q hq
  omega
 ·have:=below_bd (c:=belowC (belowC (roomS (newC bs)).2 4) (roomS (newC bs)).1.length) (n:=5) (by decide)
  omega
theorem rot_room {xs:List Pt} (hr:roomOk xs=true) {k:Nat} (hk:k < xs.length):roomOk (rot xs k)=true:=by
 have hn:=room_pos hr
 refine Geo.room_moved hr k (Geo.shift 0 0) (rot_len _ _) (fun j=>?_) fun q hq=>Geo.mem_ok hr q ?_
 ·have hj:=Nat.mod_lt j hn
  show pAt (rot xs k) (j % (rot xs k).length)=_
  rw [rot_len,rot_get hk hj,Geo.shift_app,Int.add_zero,Int.add_zero]
  show xs.getD ((k + j % xs.length) % xs.length) (0,0)=xs.getD ((k + j) % xs.length) (0,0)
  rw [Nat.add_mod_mod]
 ·unfold rot at hq
  rcases List.mem_append.1 hq with h|h
  ·exact List.mem_of_mem_drop h
  ·exact List.mem_of_mem_take h
theorem rot_zero (xs:List Pt):rot xs 0=xs:=by unfold rot;simp
theorem same_self {xs:List Pt} (hr:roomOk xs=true):sameRoom xs xs=0:=by
 have hn:=room_pos hr
 unfold sameRoom
 rw [hr,find_some (k:=0) hn (fun j hj=>absurd hj (by omega)) (decide_eq_true (rot_zero xs))];rfl
theorem same_next {xs:List Pt} (hr:roomOk xs=true):sameRoom xs (startAt xs 1)=1:=by
 have hl:=room_len hr
 have e:startAt xs 1=rot xs 1:=by unfold startAt;rw [if_pos (hasCor_iff.2 ⟨by omega,hr⟩)];rfl
 unfold sameRoom
 rw [e,hr,rot_room hr (by omega),find_some (k:=1) (by omega) (fun j hj=>?_) (decide_eq_true rfl)]
 ·rfl
 ·rw [show j=0 by omega,rot_zero]
  refine decide_eq_false fun h=>?_
  have h0:pAt xs 0=pAt (rot xs 1) 0:=congrArg (fun l=>pAt l 0) h
  rw [rot_get (by omega) (by omega)] at h0
  have h1:pCy xs (1 + 0)=pAt xs 1:=pCy_lt (by omega)
  rw [h1] at h0
  have:=room_inj hr (i:=0) (j:=1) (by omega) (by omega) h0
  omega
theorem sees_turned {xs:List Pt} (hr:roomOk xs=true) {a b:Pt} (ha:a∈floorPts xs) (hb:b∈floorPts xs):iSeesM (turnRoom xs) (IntKind.i64.wrap (0 - a.2),a.1) (IntKind.i64.wrap (0 - b.2),b.1)=iSeesM xs a b:=by
 have hm:=Geo.turn_moved hr
 obtain ⟨-,a1,a2⟩:=Geo.mem_floor.1 ha
 obtain ⟨-,b1,b2⟩:=Geo.mem_floor.1 hb
 show iSeesM (turnRoom xs) (trnP a) (trnP b)=_
 rw [Geo.trn_quarter a1,Geo.trn_quarter b1]
 have inn:∀ {ys:List Pt} {p q:Pt},p∈floorPts ys→q∈floorPts ys→allInM ys [p,q]=true:=fun {ys p q} hp hq=>by
  obtain ⟨r,p1,p2⟩:=Geo.mem_floor.1 hp
  obtain ⟨-,q1,q2⟩:=Geo.mem_floor.1 hq
  unfold allInM
  rw [r,List.all_cons,List.all_cons,inP_iff.2 ⟨p1,p2⟩,inP_iff.2 ⟨q1,q2⟩];rfl
 unfold iSeesM
 rw [inn ha hb,inn (hm.floor.2 ha) (hm.floor.2 hb),hm.sees a1 (Geo.quarter_ok.2 a1) b1 (Geo.quarter_ok.2 b1) a2 b2]
theorem sight_floors (bs:List Int):(drawSightM bs).2.1∈floorPts (drawRoomM bs)∧(drawSightM bs).2.2∈floorPts (drawRoomM bs):=by
 have hp:=floor_pos' (drawRoom_room bs)
 have key:∀ c:Cur,l08PointX c (drawRoomM bs)∈floorPts (drawRoomM bs):=fun c=>by
  have hb:=below_bd (c:=c) (n:=((floorPts (drawRoomM bs)).length:Int)) (by omega)
  exact pAt_mem (by omega)
 exact ⟨key _,key _⟩
theorem turn_le (xs:List Pt):(turnRoom xs).length≤xs.length:=by unfold turnRoom;split <;> simp
theorem mirror_le (xs:List Pt):(mirrorRoom xs).length≤xs.length:=by unfold mirrorRoom;split <;> simp
theorem mov_le (xs:List Pt) (dx dy:Int):(movRoom xs dx dy).1.length≤xs.length:=by unfold movRoom;split <;> simp
structure MovX (xs:List Pt) (a b:Pt):Prop where
 u:sameRoom xs (turnRoom (turnRoom (turnRoom (turnRoom xs))))=0
 v:sameRoom xs (mirrorRoom (mirrorRoom xs))=0
 ok:(movRoom xs 3 (-2)).2=true
 back:(movRoom (movRoom xs 3 (-2)).1 (-3) 2).2=true
 y:sameRoom xs (movRoom (movRoom xs 3 (-2)).1 (-3) 2).1=0
 at_:dArea (turnRoom xs)=dArea xs
 am:dArea (mirrorRoom xs)=dArea xs
 ears:(earsM (mirrorRoom xs)).length=(earsM xs).length
 few:(fewM (turnRoom xs)).length=(fewM xs).length
 sees:iSeesM (turnRoom xs) (IntKind.i64.wrap (0 - a.2),a.1) (IntKind.i64.wrap (0 - b.2),b.1)=iSeesM xs a b
 next:sameRoom xs (startAt xs 1)=1
theorem movX (bs:List Int):MovX (drawRoomM bs) (drawSightM bs).2.1 (drawSightM bs).2.2:=by
 have hr:=drawRoom_room bs
 have hp:∀ q∈drawRoomM bs,ptOk (q.1 + 3,q.2 + -2)=true:=fun q hq=>by
  have:=drawRoom_near bs q hq
  exact ptOk_iff.2 (by simp only;omega)
 have m1:=(Geo.mov_room hr (e:=3) (f:=-2) (by decide) (by decide) hp).1
 have m2:=Geo.mov_back hr (e:=3) (f:=-2) (by decide) (by decide) hp
 have m2:movRoom (movRoom (drawRoomM bs) 3 (-2)).1 (-3) 2=(drawRoomM bs,true):=m2
 have ht:=Geo.turn_moved hr
 have hm:=Geo.mirror_room hr
 obtain ⟨fa,fb⟩:=sight_floors bs
 exact {
  u:=by rw [Geo.turn_four hr];exact same_self hr
  v:=by rw [Geo.mirror_back hr];exact same_self hr
  ok:=by rw [m1]
  back:=by rw [m2]
  y:=by rw [m2];exact same_self hr
  at_:=by rw [dArea_room ht.ry,dArea_room hr,(Geo.room_area ht.ry).1,(Geo.room_area hr).1,ht.area]
  am:=by rw [dArea_room hm,dArea_room hr,(Geo.room_area hm).1,(Geo.room_area hr).1,Geo.mirror_area hr]
  ears:=(Geo.mirror_mir hr).ears
  few:=ht.few
  sees:=sees_turned hr fa fb
  next:=same_next hr }
theorem fnMovements_ok:Good1 Try.prog n_laws_FnMovements (lawCon [.sl (.b .u8)]):=by
 refine good_ofG (tys:=tyL) (env:=[(n_laws_big,bigC),(n_spec_DrawSight,drawSightHC),(n_impl_TurnRoom,(roomRoomC turnRoom)),(n_impl_MirrorRoom,(roomRoomC mirrorRoom)),(n_impl_MoveRoom,movRoomC),(n_impl_SameRoom,sameRoomC),(n_impl_DoubleArea,dAreaC),(n_impl_EarsOf,earsC),(n_impl_CountGuards,cntC),(n_impl_Sees,iSeesC),(n_impl_StartAt,startAtC)]) (envw:=[]) (envd:=[]) [] [] [] [] [] mixed tys ⟨big_ok,drawSightH_ok,iTurnRoom_ok,iMirrorRoom_ok,iMoveRoom_ok,iSameRoom_ok,dArea_ok,iEarsOf_ok,iCount_ok,iSees_ok,iStartAt_ok,trivial⟩ trivial trivial Try.func8 rfl (by kernel_rfl) (by decide) (by kernel_rfl) ?_
 have hG_:=kpz [(0,[0]),(1,[0,17]),(2,[2]),(3,[3,4,5]),(4,[3,4,5,6]),(5,[3,4,5,6,7]),(6,[3,4,5,6,7,8]),(7,[3,4,5,6,7,8,9]),(8,[3,4,5,6,7,8,9,10,11]),(9,[3,4,5,6,7,8,9,11,12,13]),(10,[3,4,5,6,7,8,9,11,12,13,14]),(11,[3,4,5,6,7,8,9,11,12,13,14,15]),(12,[2])] [(3,[3,4,5]),(4,[3,4,5,6]),(5,[3,4,5,6,7]),(6,[3,4,5,6,7,8]),(7,[3,4,5,6,7,8,9]),(8,[3,4,5,6,7,8,9,10]),(9,[3,4,5,6,7,8,9,12]),(10,[3,4,5,6,7,8,9,12,14]),(11,[3,4,5,6,7,8,9,12,14,15])] [] []
 rintro ⟨(bs:List Int),⟨⟩⟩ ⟨(h0:bs.length≤_),-⟩
 have hr:=drawRoom_room bs
 have hl:=room_len hr
 have hfp:=floor_pos' hr
 have hX:MovX (hidS bs).1 (hidS bs).2.1 (hidS bs).2.2:=by rw [hidS_eq];exact movX bs
 have hl1:(hidS bs).1.length≤10:=by rw [hidS_eq];exact hl.2
 have t1:=turn_le (hidS bs).1
 have t2:=turn_le (turnRoom (hidS bs).1)
 have t3:=turn_le (turnRoom (turnRoom (hidS bs).1))
 have t4:=turn_le (turnRoom (turnRoom (turnRoom (hidS bs).1)))
 have m1:=mirror_le (hidS bs).1
 have m2:=mirror_le (mirrorRoom (hidS bs).1)
 have v1:=mov_le (hidS bs).1 3 (-2)
 have v2:=mov_le (movRoom (hidS bs).1 3 (-2)).1 (-3) 2
 have s1:(startAt (hidS bs).1 1).length≤(hidS bs).1.length:=by
  unfold startAt
  split
  ·rw [rot_len];exact Nat.le_refl _
  ·exact Nat.zero_le _
 (repeat' (first|(with_reducible first|exact True.intro|refine zQ ?_|(refine zG hG_ ?_;intro K_ hK_)|(refine zR ?_;intro K_ hK_)|(refine hK_ _ _ ?_;try clear hK_ K_)|refine sq_n ?_|refine sq_r ?_|refine sq_e ?_|refine bq_n ?_|refine bq_r ?_|refine bq_q ?_|refine zB ?_|refine zX ?_|refine zT ?_|refine zK ?_|refine gq_n ?_|refine gq_r ?_|refine gq_e ?_|refine lq_n ?_|refine lq_r ?_|refine lq_e ?_|refine bq_e (by decide) ?_)|((with_reducible refine zC (b:=?b_) ?hb_ ?_ ?_);case hb_=>rfl)|((conv=>whnf);first|(with_reducible refine hK_ _ _ ?_;try clear hK_ K_)|(with_reducible refine fun (g_:Sl) (o_:Ow)=>?_)|(with_reducible first|exact True.intro|refine And.intro trivial ?_|refine And.intro ?_ ?_)|exact Nat.le_of_ble_eq_true rfl|exact Or.inl rfl|(intro h_;cases h_)|(intro h_;(try simp only [vS1] at h_))|rfl))) <;> (try (conv=>whnf)) <;> (try first|change (_:Int)≤_|change (_:Nat)≤_) <;> (try ((fail_if_success (with_reducible apply Exists.intro));(try dsimp only);(try simp only [vS1]))) <;> (try simp (disch:=omega) only [vS3,Int.add_sub_cancel,tn1,tnp,tnc,vS2] at *)
 all_goals (try ((fail_if_success (with_reducible apply Exists.intro));first|with_reducible assumption|omega))
 all_goals first
  | exact hX.next
  | exact absurd hX.u (by assumption)
  | exact absurd hX.v (by assumption)
  | exact absurd hX.y (by assumption)
  | exact absurd hX.at_ (by assumption)
  | exact absurd hX.am (by assumption)
  | exact absurd hX.ears (by assumption)
  | exact absurd hX.few (by assumption)
  | exact absurd hX.sees (by assumption)
  | exact absurd (hX.ok.symm.trans (by assumption)) (by decide)
  | exact absurd (hX.back.symm.trans (by assumption)) (by decide)
  | skip
end Go.Proofs.Ytnepfcnlngpchaa
