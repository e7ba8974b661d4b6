/- What the proof of 'FnExactPartsOf' needs, part 5: conditions and steps of the functions that it reaches, and the mathematics. -/
import Derived.Test.YtpafacebfogkmaaGreatRows
import Derived.WalkKit
import Derived.WalkSpells
import Derived.Below
import Derived.Orders
import Derived.Maps.AppendAt
import Derived.Laws.StructEq
import Derived.WideShapes
import Derived.ChangeSlices
import Derived.Deep.Strs
import Derived.ChangeOld
import Derived.Shelf.SlLaysF0
import Derived.Shelf.SlSortCmp.InsertionK
import Derived.Shelf.SlSortCmp.SmallK
import Derived.Shelf.SlSortCmp.Xorshift
import Derived.Sort.LotA
import Derived.Test.YtpafacebfogkmaaGreatSFnExactPartsOf4
set_option linter.unusedSimpArgs false
set_option linter.unusedVariables false
namespace Go.Proofs.YtpafacebfogkmaaGreat
open Go.RowKit Go.Proofs.YtpafacebfogkmaaGreat.Nm
set_option maxRecDepth 10000
theorem tn1 (k:Nat):((k:Int) + 1).toNat=k + 1:=by omega
theorem tnp {k:Nat} (h:1≤k):((k:Int) - 1).toNat=k - 1:=by omega
theorem tnc (k:Nat):((k:Int) + 1 - 1).toNat=k:=by omega
theorem Good1.imp {P:Program} {f:FuncId} {ts:List Ty} {pre pre':Args ts→Prop} {res res':Args ts→RV} (h:Good1 P f (mkCon ts pre res)) (hp:∀ x,pre' x→pre x∧res' x=res x):Good1 P f (mkCon ts pre' res'):=
 ⟨fun w F args vs x h1 h2 h3 h4 h5=>by
  obtain ⟨k1,k2⟩:=hp x h2
  show Calls _ _ _ _ fun e w'=>∃ v,e=.returned v∧Below w.heap.size w w'∧RetC w w' F (res' x) v
  rw [k2]
  exact h.snd w F args vs x h1 k1 h3 h4 h5,h.has⟩
theorem eq_false_of {b:Bool} (h:b=true→False):false=b:=by cases b with|false=>rfl|true=>exact (h rfl).elim
theorem eq_true_of {b:Bool} (h:b=true):true=b:=h.symm
theorem lt_succ_all {P:Nat→Prop} {k:Nat} (h:∀ j,j < k→P j) (hk:P k):∀ j,j < k + 1→P j:=fun j hj=>by
 rcases Nat.lt_or_ge j k with h5|h5
 ·exact h j h5
 ·rw [show j=k by omega];exact hk
end Go.Proofs.YtpafacebfogkmaaGreat
namespace Go.Proofs.YtpafacebfogkmaaGreat
open Go.RowKit Go.Proofs.YtpafacebfogkmaaGreat.Nm
set_option maxRecDepth 10000
set_option maxHeartbeats 2000000
def sees2C:Con:=mkCon [.room,.pt,.pt] (fun x=>roomOk x.1=true∧ptOk x.2.1=true∧ptOk x.2.2.1=true) fun x=>vB (seesS x.1 x.2.1 x.2.2.1)
theorem sees2_ok:Good1 Tryz.prog n_impl_sees sees2C:=by
 exact Good1.imp sees_ok fun x h=>⟨(room_len h.1).2,congrArg vB (sees_eq h.1 h.2.1 h.2.2).symm⟩
def neighZ (n i k:Int):Bool:=decide (Int.tmod (i + 1) n=k) || decide (Int.tmod (k + 1) n=i)
def neighC:Con:=mkCon [.room,.int,.int] (fun x=>0 < x.1.length∧x.1.length≤1048576∧(-1000≤x.2.1∧x.2.1≤1000)∧(-1000≤x.2.2.1∧x.2.2.1≤1000)) fun x=>vB (neighZ x.1.length x.2.1 x.2.2.1)
theorem neighbors_ok:Good1 Tryz.prog n_impl_neighbors neighC:=by
 refine good_ofG (tys:=tyL) (env:=[]) (envw:=[]) (envd:=[]) [] [] [] [] [] mixed tys trivial trivial trivial Tryz.func67 rfl (by kernel_rfl) (by decide) (by kernel_rfl) ?_
 have hG_:=kpz [(0,[1,2,3]),(1,[1,2,7]),(2,[6])] [] [] []
 rintro ⟨(xs:List Pt),(i:Int),(k:Int),⟨⟩⟩ ⟨(h0:0 < xs.length),(h1:xs.length≤_),⟨(h2:-1000≤i),(h3:i≤1000)⟩,(h4:-1000≤k),(h5:k≤1000)⟩
 (repeat' (first|(with_reducible first|exact True.intro|refine zQ ?_|(refine zG hG_ ?_;intro K_ hK_)|(refine zR ?_;intro K_ hK_)|(refine hK_ _ _ ?_;try clear hK_ K_)|refine sq_n ?_|refine sq_r ?_|refine sq_e ?_|refine bq_n ?_|refine bq_r ?_|refine bq_q ?_|refine zB ?_|refine zX ?_|refine zT ?_|refine zK ?_|refine gq_n ?_|refine gq_r ?_|refine gq_e ?_|refine lq_n ?_|refine lq_r ?_|refine lq_e ?_|refine bq_e (by decide) ?_)|((with_reducible refine zC (b:=?b_) ?hb_ ?_ ?_);case hb_=>rfl)|((conv=>whnf);first|(with_reducible refine hK_ _ _ ?_;try clear hK_ K_)|(with_reducible refine fun (g_:Sl) (o_:Ow)=>?_)|(with_reducible first|exact True.intro|refine And.intro trivial ?_|refine And.intro ?_ ?_)|exact Nat.le_of_ble_eq_true rfl|exact Or.inl rfl|(intro h_;cases h_)|(intro h_;(try simp only [vS1] at h_))|rfl))) <;> (try (conv=>whnf)) <;> (try first|change (_:Int)≤_|change (_:Nat)≤_) <;> (try ((fail_if_success (with_reducible apply Exists.intro));(try dsimp only);(try simp only [vS1]))) <;> (try simp (disch:=omega) only [vS3,Int.add_sub_cancel,tn1,tnp,tnc,vS2] at *)
 all_goals (try (fail_if_success (with_reducible apply Exists.intro));first|with_reducible assumption|omega|exact mdl (by omega)|exact ilo1 (by omega)|exact ilo2 (by omega)|exact ihi1 (by omega) (by omega)|exact ihi2 (by omega) (by omega))
 ·unfold neighZ;rw [decide_eq_true h_];rfl
 ·unfold neighZ;rw [decide_eq_false h_];rfl
def diagC (xs:List Pt) (i k:Nat):Bool:=seesS xs (pAt xs i) (pAt xs k) && (freeTo xs i k xs.length && decide (midM xs (pAt xs i) (pAt xs k)=2))
def diagM (xs:List Pt) (i k:Int):Bool:=btw i 0 (xs.length - 1) && (btw k 0 (xs.length - 1) && (!decide (i=k) && (!neighZ xs.length i k && diagC xs i.toNat k.toNat)))
theorem diagC_iff {xs:List Pt} {i k:Nat}:diagC xs i k=true↔seesS xs (pAt xs i) (pAt xs k)=true∧freeTo xs i k xs.length=true∧midM xs (pAt xs i) (pAt xs k)=2:=by
 unfold diagC;simp only [Bool.and_eq_true,decide_eq_true_eq]
theorem diagM_iff {xs:List Pt} {i k:Int}:diagM xs i k=true↔btw i 0 (xs.length - 1)=true∧btw k 0 (xs.length - 1)=true∧i≠k∧neighZ xs.length i k=false∧diagC xs i.toNat k.toNat=true:=by
 unfold diagM;simp only [Bool.and_eq_true,Bool.not_eq_true',decide_eq_false_iff_not,ne_eq]
theorem room_inj {xs:List Pt} (hr:roomOk xs=true) {i j:Nat} (hi:i < xs.length) (hj:j < xs.length) (e:pAt xs i=pAt xs j):i=j:=by
 rw [show pAt xs i=xs[i] from getD_lt _ hi,show pAt xs j=xs[j] from getD_lt _ hj] at e
 exact (List.getElem_inj (room_nodup hr)).1 e
theorem two_iff {xs:List Pt} (hr:roomOk xs=true) {i k:Nat} (hi:i < xs.length) (hk:k < xs.length):(cutsOf xs (pAt xs i) (pAt xs k)).length=2↔freeTo xs i k xs.length=true:=by
 have h1:(cutsOf xs (pAt xs i) (pAt xs k)).length=2↔xs.filter (amid (pAt xs i) (pAt xs k))=[]:=by
  simp only [cutsOf,List.cons_append,List.nil_append,List.length_cons]
  rw [← List.length_eq_zero_iff]
  omega
 rw [h1,freeTo_iff,List.filter_eq_nil_iff]
 constructor
 ·intro h j hj
  by_cases e1:j=i
  ·exact .inl e1
  ·by_cases e2:j=k
   ·exact .inr (.inl e2)
   ·refine .inr (.inr ?_)
    have:=h (pAt xs j) (pAt_mem hj)
    rw [amid_iff] at this
    rw [← Bool.not_eq_true]
    exact fun h3=>this ⟨fun e=>e1 (room_inj hr hj hi e),fun e=>e2 (room_inj hr hj hk e),h3⟩
 ·intro h c hc hm
  obtain ⟨j,hj,rfl⟩:=List.getElem_of_mem hc
  rw [← getD_lt (0,0) hj] at hm
  obtain ⟨m1,m2,m3⟩:=amid_iff.1 hm
  rcases h j hj with e|e|e
  ·exact m1 (by rw [e])
  ·exact m2 (by rw [e])
  ·rw [m3] at e;cases e
theorem cornersB2 {xs:List Pt} (hr:roomOk xs=true) {i k:Nat} (hi:i < xs.length) (hk:k < xs.length):(cornersB xs (pAt xs i) (pAt xs k)).length=2↔freeTo xs i k xs.length=true:=by
 rw [cornersB_perm (room_pt hr hi) (room_pt hr hk),two_iff hr hi hk]
def diagonalC:Con:=mkCon [.room,.int,.int] (fun x=>roomOk x.1=true) fun x=>vB (diagM x.1 x.2.1 x.2.2.1)
theorem diagonal_ok:Good1 Tryz.prog n_impl_diagonal diagonalC:=by
 refine good_ofG (tys:=tyL) (env:=[(n_impl_between,btwC),(n_impl_neighbors,neighC),(n_impl_cornersBetween,cornersBC),(n_impl_sees,sees2C),(n_impl_middle,middleC)]) (envw:=[]) (envd:=[]) [] [36,37,39,40,41,42,44,45] [] [] [] mixed tys ⟨between_ok,neighbors_ok,cornersBetween_ok,sees2_ok,middle_ok,trivial⟩ trivial trivial Tryz.func37 rfl (by kernel_rfl) (by decide) (by kernel_rfl) ?_
 have hG_:=kpz [(0,[1,2,3]),(1,[1,2,3,7]),(2,[1,2,3,35]),(3,[6]),(4,[3,8,9]),(5,[6])] [(4,[8,9])] [] []
 rintro ⟨(xs:List Pt),(i:Int),(k:Int),⟨⟩⟩ (hr:roomOk xs=true)
 have hl:=room_len hr
 (repeat' (first|(with_reducible first|exact True.intro|refine zQ ?_|(refine zG hG_ ?_;intro K_ hK_)|(refine zR ?_;intro K_ hK_)|(refine hK_ _ _ ?_;try clear hK_ K_)|refine sq_n ?_|refine sq_r ?_|refine sq_e ?_|refine bq_n ?_|refine bq_r ?_|refine bq_q ?_|refine zB ?_|refine zX ?_|refine zT ?_|refine zK ?_|refine gq_n ?_|refine gq_r ?_|refine gq_e ?_|refine lq_n ?_|refine lq_r ?_|refine lq_e ?_|refine bq_e (by decide) ?_)|((with_reducible refine zC (b:=?b_) ?hb_ ?_ ?_);case hb_=>rfl)|((conv=>whnf);first|(with_reducible refine hK_ _ _ ?_;try clear hK_ K_)|(with_reducible refine fun (g_:Sl) (o_:Ow)=>?_)|(with_reducible first|exact True.intro|refine And.intro trivial ?_|refine And.intro ?_ ?_)|exact Nat.le_of_ble_eq_true rfl|exact Or.inl rfl|(intro h_;cases h_)|(intro h_;(try simp only [vS1] at h_))|rfl))) <;> (try (conv=>whnf)) <;> (try first|change (_:Int)≤_|change (_:Nat)≤_) <;> (try ((fail_if_success (with_reducible apply Exists.intro));(try dsimp only);(try simp only [vS1]))) <;> (try simp (disch:=omega) only [vS3,Int.add_sub_cancel,tn1,tnp,tnc,vS2] at *)
 all_goals (try (fail_if_success (with_reducible apply Exists.intro));first|with_reducible assumption|omega|exact mdl (by omega)|exact ilo1 (by omega)|exact ilo2 (by omega)|exact ihi1 (by omega) (by omega)|exact ihi2 (by omega) (by omega))
 all_goals first
  | (have b1:=btw_iff.1 ‹btw i 0 _=true›;have b2:=btw_iff.1 ‹btw k 0 _=true›;first|omega|exact room_pt hr (by omega))
  | (have b1:=btw_iff.1 ‹btw i 0 _=true›;omega)
  | skip
 ·exact eq_false_of fun hc=>by have h:=(diagM_iff.1 hc).1;rw [‹btw i 0 _=false›] at h;cases h
 ·exact eq_false_of fun hc=>by have h:=(diagM_iff.1 hc).2.1;rw [‹btw k 0 _=false›] at h;cases h
 ·exact eq_false_of fun hc=>(diagM_iff.1 hc).2.2.1 ‹i=k›
 ·exact eq_false_of fun hc=>by have h:=(diagM_iff.1 hc).2.2.2.1;rw [‹neighZ _ i k=true›] at h;cases h
 all_goals (have b1:=btw_iff.1 ‹btw i 0 _=true›;have b2:=btw_iff.1 ‹btw k 0 _=true›;have h2:=cornersB2 hr (i:=i.toNat) (k:=k.toNat) (by omega) (by omega))
 ·rw [Bool.eq_iff_iff,diagM_iff,diagC_iff,beq_iff_eq]
  exact ⟨fun h=>⟨‹_›,‹_›,‹_›,‹_›,‹seesS xs _ _=true›,h2.1 (Int.ofNat.inj h_),h⟩,fun h=>h.2.2.2.2.2.2⟩
 ·exact eq_false_of fun hc=>absurd ((diagC_iff.1 (diagM_iff.1 hc).2.2.2.2).1.symm.trans ‹seesS xs _ _=false›) (by decide)
 ·exact eq_false_of fun hc=>h_ (congrArg Int.ofNat (h2.2 (diagC_iff.1 (diagM_iff.1 hc).2.2.2.2).2.1))
theorem neigh_nat {n i k:Nat}:neighZ n i k=false↔(i + 1) % n≠k∧(k + 1) % n≠i:=by
 unfold neighZ
 rw [tm1,tm1,Bool.or_eq_false_iff,decide_eq_false_iff_not,decide_eq_false_iff_not,Int.natCast_inj,Int.natCast_inj]
theorem diagN_iff {xs:List Pt} {i k:Nat} (hi:i < xs.length) (hk:k < xs.length):diagM xs i k=true↔i≠k∧(i + 1) % xs.length≠k∧(k + 1) % xs.length≠i∧diagC xs i k=true:=by
 rw [diagM_iff,neigh_nat,btw_iff,btw_iff]
 constructor
 ·rintro ⟨-,-,h3,h4,h5⟩
  exact ⟨fun e=>h3 (by rw [e]),h4.1,h4.2,h5⟩
 ·rintro ⟨h3,h4,h5,h6⟩
  exact ⟨by omega,by omega,fun e=>h3 (Int.natCast_inj.1 e),⟨h4,h5⟩,h6⟩
def l09C:Con:=mkCon [.sl (.b .pt),.int,.int] (fun x=>roomOk x.1=true∧(0≤x.2.1∧x.2.1≤x.1.length - 1)∧(0≤x.2.2.1∧x.2.2.1≤x.1.length - 1)) fun x=>vB (diagM x.1 x.2.1 x.2.2.1)
theorem l09Diagonal_ok:Good1 Tryz.prog n_spec_l09Diagonal l09C:=by
 refine good_ofG (tys:=tyL) (env:=[(n_spec_l08Sees,l08SeesC),(n_spec_l02Between,onC),(n_spec_l08Doubled,twiceC),(n_spec_l05Holds,holdsC)]) (envw:=[]) (envd:=[]) [73,85] [] [] [] [] mixed tys ⟨l08Sees_ok,l02Between_ok,doubled_ok,l05Holds_ok,trivial⟩ trivial trivial Tryz.func103 rfl (by kernel_rfl) (by decide) (by kernel_rfl) ?_
 have hG_:=kpz [(0,[0,1,2]),(1,[0,1,2,7]),(2,[0,1,2,7,44]),(3,[6]),(4,[0,1,2,7,8]),(5,[0,1,2,7,8,47]),(6,[0,1,2,7,8]),(7,[0,1,2,7,8,72]),(8,[6]),(9,[0,1,2,7,9]),(10,[0,1,2,7,9,10]),(11,[0,1,2,7,9,10,76]),(12,[0,1,2,7,9,10]),(13,[0,1,2,7,9,10]),(14,[6])] [(9,[73]),(10,[73]),(11,[73]),(12,[73,85]),(13,[73,85]),(14,[73])] [] []
 rintro ⟨(xs:List Pt),(i:Int),(k:Int),⟨⟩⟩ ⟨(hr:roomOk xs=true),⟨(hi1:0≤i),(hi2:i≤(xs.length:Int) - 1)⟩,(hk1:0≤k),(hk2:k≤(xs.length:Int) - 1)⟩
 have hl:=room_len hr
 obtain ⟨i,rfl⟩:=Int.eq_ofNat_of_zero_le hi1
 obtain ⟨k,rfl⟩:=Int.eq_ofNat_of_zero_le hk1
 have hi:i < xs.length:=by omega
 have hk:k < xs.length:=by omega
 have hpi:(xs.map twP).length=xs.length:=List.length_map _
 have hd:=diagN_iff (xs:=xs) hi hk
 (repeat' (first|(with_reducible first|exact True.intro|refine zQ ?_|(refine zG hG_ ?_;intro K_ hK_)|(refine zR ?_;intro K_ hK_)|(refine hK_ _ _ ?_;try clear hK_ K_)|refine sq_n ?_|refine sq_r ?_|refine sq_e ?_|refine bq_n ?_|refine bq_r ?_|refine bq_q ?_|refine zB ?_|refine zX ?_|refine zT ?_|refine zK ?_|refine gq_n ?_|refine gq_r ?_|refine gq_e ?_|refine lq_n ?_|refine lq_r ?_|refine lq_e ?_|refine bq_e (by decide) ?_)|((with_reducible refine zC (b:=?b_) ?hb_ ?_ ?_);case hb_=>rfl)|((conv=>whnf);first|(with_reducible refine hK_ _ _ ?_;try clear hK_ K_)|(with_reducible refine fun (g_:Sl) (o_:Ow)=>?_)|(with_reducible first|exact True.intro|refine And.intro trivial ?_|refine And.intro ?_ ?_)|exact Nat.le_of_ble_eq_true rfl|exact Or.inl rfl|(intro h_;cases h_)|(intro h_;(try simp only [vS1] at h_))|rfl))) <;> (try (conv=>whnf)) <;> (try first|change (_:Int)≤_|change (_:Nat)≤_) <;> (try ((fail_if_success (with_reducible apply Exists.intro));(try dsimp only);(try simp only [vS1]))) <;> (try simp (disch:=omega) only [vS3,Int.add_sub_cancel,tn1,tnp,tnc,vS2] at *)
 all_goals (try (fail_if_success (with_reducible apply Exists.intro));first|with_reducible assumption|omega|exact mdl (by omega)|exact ilo1 (by omega)|exact ilo2 (by omega)|exact ihi1 (by omega) (by omega)|exact ihi2 (by omega) (by omega))
 ·exact eq_false_of fun hc=>(hd.1 hc).1 ‹i=k›
 ·exact eq_false_of fun hc=>(hd.1 hc).2.1 ‹(i + 1) % xs.length=k›
 ·exact eq_false_of fun hc=>(hd.1 hc).2.2.1 ‹(k + 1) % xs.length=i›
 ·exact eq_false_of fun hc=>absurd ((diagC_iff.1 (hd.1 hc).2.2.2).1.symm.trans ‹seesS xs _ _=false›) (by decide)
 have hsee:seesS xs (pAt xs i) (pAt xs k)=true:=by assumption
 refine awp'_loopG (α:=Nat) (fun j ver_=>[(8,vInt j)]) (fun j ver_=>[]) (fun j ver_=>[]) (fun j=>j≤xs.length∧∀ j',j' < j→j'=i∨j'=k∨onS (pAt xs j') (pAt xs i) (pAt xs k)=false) (fun j=>xs.length - j) [0,1,2,7] [] (0) ?_
 conv=>whnf
 refine ⟨⟨?inv1_,?vals1_,?own1_,?fix1_⟩,?body1_⟩
 case' vals1_=>(repeat' (first|(with_reducible first|exact True.intro|refine And.intro ?_ ?_|refine Head.mk ?_ ?_ ?_ ?_)|((conv=>lhs;whnf);first|(with_reducible first|rfl|exact vInt_s (by omega))|exact rfl)|((conv=>whnf);first|(with_reducible first|exact True.intro|refine And.intro ?_ ?_)))) <;> (try (conv=>lhs;whnf))
 case' own1_=>(repeat' (first|(with_reducible first|exact True.intro|refine And.intro ?_ ?_|refine Head.mk ?_ ?_ ?_ ?_)|((conv=>lhs;whnf);first|(with_reducible first|rfl|exact vInt_s (by omega))|exact rfl)|((conv=>whnf);first|(with_reducible first|exact True.intro|refine And.intro ?_ ?_)))) <;> (try (conv=>lhs;whnf))
 case' fix1_=>(repeat' (first|(with_reducible first|exact True.intro|refine And.intro ?_ ?_|refine Head.mk ?_ ?_ ?_ ?_)|((conv=>lhs;whnf);first|(with_reducible first|rfl|exact vInt_s (by omega))|exact rfl)|((conv=>whnf);first|(with_reducible first|exact True.intro|refine And.intro ?_ ?_)))) <;> (try (conv=>lhs;whnf))
 ·exact ⟨Nat.zero_le _,fun j hj=>absurd hj (by omega)⟩
 rintro j g_ o_ v_ ⟨hj,hall⟩
 (repeat' (first|(with_reducible first|exact True.intro|refine zQ ?_|(refine zG hG_ ?_;intro K_ hK_)|(refine zR ?_;intro K_ hK_)|(refine hK_ _ _ ?_;try clear hK_ K_)|refine sq_n ?_|refine sq_r ?_|refine sq_e ?_|refine bq_n ?_|refine bq_r ?_|refine bq_q ?_|refine zB ?_|refine zX ?_|refine zT ?_|refine zK ?_|refine gq_n ?_|refine gq_r ?_|refine gq_e ?_|refine lq_n ?_|refine lq_r ?_|refine lq_e ?_|refine bq_e (by decide) ?_)|((with_reducible refine zC (b:=?b_) ?hb_ ?_ ?_);case hb_=>rfl)|((conv=>whnf);first|(with_reducible refine hK_ _ _ ?_;try clear hK_ K_)|(with_reducible refine fun (g_:Sl) (o_:Ow)=>?_)|(with_reducible first|exact True.intro|refine And.intro trivial ?_|refine And.intro ?_ ?_)|exact Nat.le_of_ble_eq_true rfl|exact Or.inl rfl|(intro h_;cases h_)|(intro h_;(try simp only [vS1] at h_))|rfl))) <;> (try (conv=>whnf)) <;> (try first|change (_:Int)≤_|change (_:Nat)≤_) <;> (try ((fail_if_success (with_reducible apply Exists.intro));(try dsimp only);(try simp only [vS1]))) <;> (try simp (disch:=omega) only [vS3,Int.add_sub_cancel,tn1,tnp,tnc,vS2] at *)
 all_goals (try (fail_if_success (with_reducible apply Exists.intro));first|with_reducible assumption|omega|exact mdl (by omega)|exact ilo1 (by omega)|exact ilo2 (by omega)|exact ihi1 (by omega) (by omega)|exact ihi2 (by omega) (by omega))
 ·refine eq_false_of fun hc=>?_
  have hf:=freeTo_iff.1 (diagC_iff.1 (hd.1 hc).2.2.2).2.1 j ‹j < xs.length›
  rcases hf with h|h|h
  ·exact ‹¬j=i› h
  ·exact ‹¬j=k› h
  ·exact absurd (h.symm.trans ‹onS _ _ _=true›) (by decide)
 ·exact ⟨j + 1,by omega,⟨by omega,lt_succ_all hall (.inr (.inr ‹onS _ _ _=false›))⟩,by (repeat' (first|(with_reducible first|exact True.intro|refine And.intro ?_ ?_|refine Head.mk ?_ ?_ ?_ ?_)|((conv=>lhs;whnf);first|(with_reducible first|rfl|exact vInt_s (by omega))|exact rfl)|((conv=>whnf);first|(with_reducible first|exact True.intro|refine And.intro ?_ ?_)))) <;> (try (conv=>lhs;whnf))⟩
 ·exact ⟨j + 1,by omega,⟨by omega,lt_succ_all hall (.inr (.inl ‹j=k›))⟩,by (repeat' (first|(with_reducible first|exact True.intro|refine And.intro ?_ ?_|refine Head.mk ?_ ?_ ?_ ?_)|((conv=>lhs;whnf);first|(with_reducible first|rfl|exact vInt_s (by omega))|exact rfl)|((conv=>whnf);first|(with_reducible first|exact True.intro|refine And.intro ?_ ?_)))) <;> (try (conv=>lhs;whnf))⟩
 ·exact ⟨j + 1,by omega,⟨by omega,lt_succ_all hall (.inl ‹j=i›)⟩,by (repeat' (first|(with_reducible first|exact True.intro|refine And.intro ?_ ?_|refine Head.mk ?_ ?_ ?_ ?_)|((conv=>lhs;whnf);first|(with_reducible first|rfl|exact vInt_s (by omega))|exact rfl)|((conv=>whnf);first|(with_reducible first|exact True.intro|refine And.intro ?_ ?_)))) <;> (try (conv=>lhs;whnf))⟩
 have hfree:freeTo xs i k xs.length=true:=freeTo_iff.2 fun j' hj'=>hall j' (by omega)
 refine awp'_loopG (α:=Nat) (fun m ver_=>[(10,vInt m)]) (fun m ver_=>[(9,73,false,.row t_impl_Point (.b .pt) ((xs.take m).map twP))]) (fun m ver_=>[]) (fun m=>m≤xs.length) (fun m=>xs.length - m) [0,1,2,7] [] (0) ?_
 conv=>whnf
 refine ⟨⟨?inv2_,?vals2_,?own2_,?fix2_⟩,?body2_⟩
 case' vals2_=>(repeat' (first|(with_reducible first|exact True.intro|refine And.intro ?_ ?_|refine Head.mk ?_ ?_ ?_ ?_)|((conv=>lhs;whnf);first|(with_reducible first|rfl|exact vInt_s (by omega))|exact rfl)|((conv=>whnf);first|(with_reducible first|exact True.intro|refine And.intro ?_ ?_)))) <;> (try (conv=>lhs;whnf))
 case' own2_=>(repeat' (first|(with_reducible first|exact True.intro|refine And.intro ?_ ?_|refine Head.mk ?_ ?_ ?_ ?_)|((conv=>lhs;whnf);first|(with_reducible first|rfl|exact vInt_s (by omega))|exact rfl)|((conv=>whnf);first|(with_reducible first|exact True.intro|refine And.intro ?_ ?_)))) <;> (try (conv=>lhs;whnf))
 case' fix2_=>(repeat' (first|(with_reducible first|exact True.intro|refine And.intro ?_ ?_|refine Head.mk ?_ ?_ ?_ ?_)|((conv=>lhs;whnf);first|(with_reducible first|rfl|exact vInt_s (by omega))|exact rfl)|((conv=>whnf);first|(with_reducible first|exact True.intro|refine And.intro ?_ ?_)))) <;> (try (conv=>lhs;whnf))
 ·exact Nat.zero_le _
 rintro m g_ o_ v_ hm
 (repeat' (first|(with_reducible first|exact True.intro|refine zQ ?_|(refine zG hG_ ?_;intro K_ hK_)|(refine zR ?_;intro K_ hK_)|(refine hK_ _ _ ?_;try clear hK_ K_)|refine sq_n ?_|refine sq_r ?_|refine sq_e ?_|refine bq_n ?_|refine bq_r ?_|refine bq_q ?_|refine zB ?_|refine zX ?_|refine zT ?_|refine zK ?_|refine gq_n ?_|refine gq_r ?_|refine gq_e ?_|refine lq_n ?_|refine lq_r ?_|refine lq_e ?_|refine bq_e (by decide) ?_)|((with_reducible refine zC (b:=?b_) ?hb_ ?_ ?_);case hb_=>rfl)|((conv=>whnf);first|(with_reducible refine hK_ _ _ ?_;try clear hK_ K_)|(with_reducible refine fun (g_:Sl) (o_:Ow)=>?_)|(with_reducible first|exact True.intro|refine And.intro trivial ?_|refine And.intro ?_ ?_)|exact Nat.le_of_ble_eq_true rfl|exact Or.inl rfl|(intro h_;cases h_)|(intro h_;(try simp only [vS1] at h_))|rfl))) <;> (try (conv=>whnf)) <;> (try first|change (_:Int)≤_|change (_:Nat)≤_) <;> (try ((fail_if_success (with_reducible apply Exists.intro));(try dsimp only);(try simp only [vS1]))) <;> (try simp (disch:=omega) only [vS3,Int.add_sub_cancel,tn1,tnp,tnc,vS2] at *)
 all_goals (try (fail_if_success (with_reducible apply Exists.intro));first|with_reducible assumption|omega|exact mdl (by omega)|exact ilo1 (by omega)|exact ilo2 (by omega)|exact ihi1 (by omega) (by omega)|exact ihi2 (by omega) (by omega))
 ·refine ⟨m + 1,by omega,by omega,?_⟩
  (repeat' (first|(with_reducible first|exact True.intro|refine And.intro ?_ ?_|refine Head.mk ?_ ?_ ?_ ?_)|((conv=>lhs;whnf);first|(with_reducible first|rfl|exact vInt_s (by omega))|exact rfl)|((conv=>whnf);first|(with_reducible first|exact True.intro|refine And.intro ?_ ?_)))) <;> (try (conv=>lhs;whnf))
  exact congrArg (Own.row _ _) (map_take_succ' twP (0,0) ‹m < xs.length›).symm
 ·have hm:=mid_holds (pt_of_room hr) (ptOk_iff.1 (room_pt hr hi)) (ptOk_iff.1 (room_pt hr hk))
  have hv:=hold_vals (xs.map twP) (sumP (pAt xs i) (pAt xs k))
  rw [List.take_of_length_le (by omega),Bool.eq_iff_iff,hd,diagC_iff,decide_eq_true_eq]
  have e:∀ q,holdsM (xs.map twP) q > 0→q=sumP (pAt xs i) (pAt xs k)→midM xs (pAt xs i) (pAt xs k)=2:=fun q h e=>by subst e;omega
  constructor
  ·exact fun h=>⟨‹_›,‹_›,‹_›,hsee,hfree,e _ h rfl⟩
  ·intro h
   have h2:=h.2.2.2.2.2
   have:holdsM (xs.map twP) (sumP (pAt xs i) (pAt xs k)) > 0:=by omega
   exact this
end Go.Proofs.YtpafacebfogkmaaGreat
namespace Go.Proofs.YtpafacebfogkmaaGreat
open Go.RowKit
abbrev gI (l:List Int) (k:Nat):Int:=l.getD k 0
def prvN (n i:Nat):Nat:=(i + n - 1) % n
def nxtN (n i:Nat):Nat:=(i + 1) % n
def cutM (xs:List Pt) (l:List Int) (i:Nat):Bool:=
 ((diagM xs (gI l (prvN l.length i)) (gI l (nxtN l.length i)) || neighZ xs.length (gI l (prvN l.length i)) (gI l (nxtN l.length i))) && decide (0 < turn (pI xs (gI l (prvN l.length i))) (pI xs (gI l i)) (pI xs (gI l (nxtN l.length i))))) &&
 l.all fun x=>decide (x=gI l (prvN l.length i)) || (decide (x=gI l i) || (decide (x=gI l (nxtN l.length i)) || !inTri (pI xs (gI l (prvN l.length i))) (pI xs (gI l i)) (pI xs (gI l (nxtN l.length i))) (pI xs x)))
theorem cutM_iff {xs:List Pt} {l:List Int} {i:Nat}:cutM xs l i=true↔(diagM xs (gI l (prvN l.length i)) (gI l (nxtN l.length i))=true∨neighZ xs.length (gI l (prvN l.length i)) (gI l (nxtN l.length i))=true) ∧
  0 < turn (pI xs (gI l (prvN l.length i))) (pI xs (gI l i)) (pI xs (gI l (nxtN l.length i))) ∧
  ∀ j,j < l.length→gI l j=gI l (prvN l.length i)∨gI l j=gI l i∨gI l j=gI l (nxtN l.length i)∨inTri (pI xs (gI l (prvN l.length i))) (pI xs (gI l i)) (pI xs (gI l (nxtN l.length i))) (pI xs (gI l j))=false:=by
 unfold cutM
 simp only [Bool.and_eq_true,Bool.or_eq_true,decide_eq_true_eq,List.all_eq_true,Bool.not_eq_true']
 constructor
 ·rintro ⟨⟨h1,h2⟩,h3⟩
  refine ⟨h1,h2,fun j hj=>h3 _ ?_⟩
  rw [show gI l j=l[j] from getD_lt _ hj]
  exact List.getElem_mem _
 ·rintro ⟨h1,h2,h3⟩
  refine ⟨⟨h1,h2⟩,fun x hx=>?_⟩
  obtain ⟨j,hj,rfl⟩:=List.getElem_of_mem hx
  have:=h3 j hj
  rwa [show gI l j=l[j] from getD_lt _ hj] at this
def firstCut (xs:List Pt) (l:List Int):Option Nat:=(List.range l.length).find? (cutM xs l)
theorem firstCut_spec {xs:List Pt} {l:List Int} {i:Nat} (h:firstCut xs l=some i):i < l.length∧cutM xs l i=true:=by
 unfold firstCut at h
 rw [List.find?_range_eq_some] at h
 exact ⟨List.mem_range.1 h.2.1,h.1⟩
def triS (a b c:Int):Tri:=(min (min a b) c,a + b + c - min (min a b) c - max (max a b) c,max (max a b) c)
def triAt (l:List Int) (i:Nat):Tri:=triS (gI l (prvN l.length i)) (gI l i) (gI l (nxtN l.length i))
def triRun (xs:List Pt):Nat→List Int→List Tri→List Tri
 | 0,l,out=>out ++ [triS (gI l 0) (gI l 1) (gI l 2)]
 | f + 1,l,out=>match firstCut xs l with
  | none=>[]
  | some i=>triRun xs f (l.eraseIdx i) (out ++ [triAt l i])
def allC (n:Nat):List Int:=(List.range n).map fun k:Nat=>(k:Int)
def trisM (xs:List Pt):List Tri:=if roomOk xs then triRun xs (xs.length - 3) (allC xs.length) [] else []
theorem allC_len (n:Nat):(allC n).length=n:=by simp [allC]
structure Left (n:Nat) (l:List Int):Prop where
 len:3≤l.length
 le:l.length≤n
 inc:l.Pairwise (· < ·)
 ge:∀ x∈l,0≤x
 lt:∀ x∈l,x < n
theorem left_all {n:Nat} (h:3≤n):Left n (allC n):=by
 refine ⟨by rw [allC_len];exact h,by rw [allC_len];exact Nat.le_refl _,?_,?_,?_⟩
 ·unfold allC
  rw [List.pairwise_map]
  exact List.pairwise_lt_range.imp fun h=>by omega
 all_goals (intro x hx;unfold allC at hx;obtain ⟨k,hk,rfl⟩:=List.mem_map.1 hx;have:=List.mem_range.1 hk;omega)
theorem Left.erase {n:Nat} {l:List Int} (h:Left n l) (h4:3 < l.length) {i:Nat} (hi:i < l.length):Left n (l.eraseIdx i):=by
 have hl:=List.length_eraseIdx_of_lt hi
 refine ⟨by omega,by have:=h.le;omega,h.inc.sublist (List.eraseIdx_sublist _ _),fun x hx=>h.ge x ((List.eraseIdx_sublist _ _).mem hx),fun x hx=>h.lt x ((List.eraseIdx_sublist _ _).mem hx)⟩
theorem gI_mem {l:List Int} {k:Nat} (h:k < l.length):gI l k∈l:=by rw [show gI l k=l[k] from getD_lt _ h];exact List.getElem_mem _
theorem Left.at {n:Nat} {l:List Int} (h:Left n l) {k:Nat} (hk:k < l.length):0≤gI l k∧gI l k < n:=⟨h.ge _ (gI_mem hk),h.lt _ (gI_mem hk)⟩
theorem Left.mono {n:Nat} {l:List Int} (h:Left n l) {i j:Nat} (hij:i < j) (hj:j < l.length):gI l i < gI l j:=by
 rw [show gI l i=l[i] from getD_lt _ (by omega),show gI l j=l[j] from getD_lt _ hj]
 exact List.pairwise_iff_getElem.1 h.inc i j (by omega) hj hij
theorem Left.inj {n:Nat} {l:List Int} (h:Left n l) {i j:Nat} (hi:i < l.length) (hj:j < l.length) (e:gI l i=gI l j):i=j:=by
 rcases Nat.lt_trichotomy i j with h1|h1|h1
 ·have:=h.mono h1 hj;omega
 ·exact h1
 ·have:=h.mono h1 hi;omega
theorem prv_lt {n i:Nat} (h:0 < n):prvN n i < n:=Nat.mod_lt _ h
theorem nxt_lt {n i:Nat} (h:0 < n):nxtN n i < n:=Nat.mod_lt _ h
theorem prv_eq {n i:Nat} (hi:i < n):(i=0∧prvN n i=n - 1)∨(0 < i∧prvN n i=i - 1):=by
 unfold prvN
 rcases Nat.eq_zero_or_pos i with h|h
 ·subst h;exact .inl ⟨rfl,by rw [Nat.zero_add,Nat.mod_eq_of_lt (by omega)]⟩
 ·exact .inr ⟨h,by rw [show i + n - 1=(i - 1) + n by omega,Nat.add_mod_right,Nat.mod_eq_of_lt (by omega)]⟩
theorem nxt_eq {n i:Nat} (hi:i < n):(i + 1=n∧nxtN n i=0)∨(i + 1 < n∧nxtN n i=i + 1):=by
 unfold nxtN
 rcases Nat.lt_or_ge (i + 1) n with h|h
 ·exact .inr ⟨h,Nat.mod_eq_of_lt h⟩
 ·have:i + 1=n:=by omega
  exact .inl ⟨this,by rw [this,Nat.mod_self]⟩
structure TriSt (xs:List Pt) (s:List Int × List Tri):Prop where
 left:Left xs.length s.1
 run:triRun xs (s.1.length - 3) s.1 s.2=trisM xs
 len:s.2.length + s.1.length=xs.length
theorem TriSt.step {xs:List Pt} {s:List Int × List Tri} (h:TriSt xs s) (h4:3 < s.1.length) {i:Nat} (hc:firstCut xs s.1=some i):TriSt xs (s.1.eraseIdx i,s.2 ++ [triAt s.1 i]):=by
 have hi:=(firstCut_spec hc).1
 have hl:=List.length_eraseIdx_of_lt hi
 refine ⟨h.left.erase h4 hi,?_,?_⟩
 ·have hr:=h.run
  show triRun xs ((s.1.eraseIdx i).length - 3) _ _=_
  rw [hl,show s.1.length - 1 - 3=s.1.length - 4 by omega]
  rw [show s.1.length - 3=(s.1.length - 4) + 1 by omega] at hr
  unfold triRun at hr
  rw [hc] at hr
  exact hr
 ·have:=h.len
  show (s.2 ++ [triAt s.1 i]).length + (s.1.eraseIdx i).length=_
  rw [List.length_append,hl]
  simp only [List.length_cons,List.length_nil]
  omega
theorem TriSt.none {xs:List Pt} {s:List Int × List Tri} (h:TriSt xs s) (h4:3 < s.1.length) (hc:firstCut xs s.1=none):trisM xs=[]:=by
 have hr:=h.run
 rw [show s.1.length - 3=(s.1.length - 4) + 1 by omega] at hr
 unfold triRun at hr
 rw [hc] at hr
 exact hr.symm
theorem TriSt.last {xs:List Pt} {s:List Int × List Tri} (h:TriSt xs s) (h3:s.1.length≤3):trisM xs=s.2 ++ [triS (gI s.1 0) (gI s.1 1) (gI s.1 2)]:=by
 have hr:=h.run
 rw [show s.1.length - 3=0 by omega] at hr
 exact hr.symm
inductive Cutd:List Int→List Tri→Prop
 | last {l:List Int} (h:l.length=3):Cutd l [triS (gI l 0) (gI l 1) (gI l 2)]
 | step {l:List Int} {ts:List Tri} {i:Nat} (h:3 < l.length) (hi:i < l.length) (hr:Cutd (l.eraseIdx i) ts):Cutd l (triAt l i :: ts)
theorem Cutd.ne {l:List Int} {ts:List Tri} (h:Cutd l ts):ts≠[]:=by cases h <;> simp
theorem triS_six (a b c:Int):triS a b c=(a,b,c)∨triS a b c=(a,c,b)∨triS a b c=(b,a,c)∨triS a b c=(b,c,a)∨triS a b c=(c,a,b)∨triS a b c=(c,b,a):=by
 unfold triS
 simp only [Prod.mk.injEq]
 omega
theorem triS_inc {a b c:Int} (h1:a≠b) (h2:b≠c) (h3:a≠c):(triS a b c).1 < (triS a b c).2.1∧(triS a b c).2.1 < (triS a b c).2.2:=by
 unfold triS
 simp only
 omega
def TriIn (n:Nat) (t:Tri):Prop:=0≤t.1∧t.1 < t.2.1∧t.2.1 < t.2.2∧t.2.2 < n
theorem triIn_of {n:Nat} {a b c:Int} (h1:a≠b) (h2:b≠c) (h3:a≠c) (ha:0≤a∧a < n) (hb:0≤b∧b < n) (hc:0≤c∧c < n):TriIn n (triS a b c):=by
 have hi:=triS_inc h1 h2 h3
 unfold TriIn
 rcases triS_six a b c with e|e|e|e|e|e <;> rw [e] at hi ⊢ <;> simp only at hi ⊢ <;> omega
theorem prv_ne {n i:Nat} (h3:3≤n) (hi:i < n):prvN n i≠i∧nxtN n i≠i∧prvN n i≠nxtN n i:=by
 rcases prv_eq hi with ⟨h1,h2⟩|⟨h1,h2⟩ <;> rcases nxt_eq hi with ⟨h4,h5⟩|⟨h4,h5⟩ <;> omega
theorem Left.triAt {n:Nat} {l:List Int} (h:Left n l) {i:Nat} (hi:i < l.length):TriIn n (triAt l i):=by
 have h3:=h.len
 obtain ⟨e1,e2,e3⟩:=prv_ne h3 hi
 have hp:=prv_lt (n:=l.length) (i:=i) (by omega)
 have hq:=nxt_lt (n:=l.length) (i:=i) (by omega)
 exact triIn_of (fun e=>e1 (h.inj hp hi e)) (fun e=>e2 (h.inj hq hi e.symm)) (fun e=>e3 (h.inj hp hq e)) (h.at hp) (h.at hi) (h.at hq)
theorem Cutd.drop {n:Nat} {l:List Int} {ts:List Tri} (h:Cutd l ts) (hl:Left n l):∀ j,j < ts.length→∃ l',Left n l'∧Cutd l' (ts.drop j):=by
 induction h with
 | last h3=>
  intro j hj
  have:j=0:=by simpa using hj
  subst this
  exact ⟨_,hl,.last h3⟩
 | step h4 hi hr ih=>
  intro j hj
  cases j with
  | zero=>exact ⟨_,hl,.step h4 hi hr⟩
  | succ j=>exact ih (hl.erase h4 hi) j (by simpa using hj)
abbrev cI (out:List Int) (x:Int):Int:=out.getD x.toNat 0
def colStep (out:List Int) (t:Tri):List Int:=
 if cI out t.1 < 0 then out.set t.1.toNat (3 - cI out t.2.1 - cI out t.2.2)
 else if cI out t.2.1 < 0 then out.set t.2.1.toNat (3 - cI out t.2.2 - cI out t.1)
 else if cI out t.2.2 < 0 then out.set t.2.2.toNat (3 - cI out t.1 - cI out t.2.1)
 else out
theorem colStep_len (out:List Int) (t:Tri):(colStep out t).length=out.length:=by
 unfold colStep
 split
 ·simp
 ·split
  ·simp
  ·split <;> simp
theorem cI_set {out:List Int} {x y:Int} {v:Int} (hx:0≤x∧x < out.length) (hy:0≤y):cI (out.set x.toNat v) y=if y=x then v else cI out y:=by
 unfold cI
 rw [getD_set (by omega)]
 by_cases h:y=x
 ·subst h;rw [if_pos rfl,if_pos rfl]
 ·rw [if_neg h,if_neg (by omega)]
structure Col (n:Nat) (l:List Int) (out:List Int):Prop where
 len:out.length=n
 yes:∀ x∈l,0≤cI out x∧cI out x≤2
 no:∀ x:Int,0≤x→x < n→x ∉ l→cI out x=-1
 ne:∀ k,k < l.length→cI out (gI l k)≠cI out (gI l (nxtN l.length k))
theorem gI_erase {l:List Int} {i j:Nat} (hj:j + 1 < l.length):gI (l.eraseIdx i) j=if j < i then gI l j else gI l (j + 1):=by
 unfold gI
 rw [List.getD_eq_getElem?_getD,List.getElem?_eraseIdx]
 split <;> rw [← List.getD_eq_getElem?_getD]
theorem mem_gI {l:List Int} {x:Int}:x∈l↔∃ k,k < l.length∧gI l k=x:=by
 rw [List.mem_iff_getElem]
 constructor
 ·rintro ⟨k,h,e⟩;exact ⟨k,h,by rw [show gI l k=l[k] from getD_lt _ h,e]⟩
 ·rintro ⟨k,h,e⟩;exact ⟨k,h,by rw [← e,show gI l k=l[k] from getD_lt _ h]⟩
theorem Left.mem_erase {n:Nat} {l:List Int} (h:Left n l) {i:Nat} (hi:i < l.length) {x:Int}:x∈l.eraseIdx i↔x∈l∧x≠gI l i:=by
 have hl:=List.length_eraseIdx_of_lt hi
 rw [mem_gI,mem_gI,hl]
 constructor
 ·rintro ⟨k,hk,e⟩
  rw [gI_erase (by omega)] at e
  split at e
  ·exact ⟨⟨k,by omega,e⟩,fun e'=>by have:=h.inj (i:=k) (j:=i) (by omega) hi (by rw [e,e']);omega⟩
  ·exact ⟨⟨k + 1,by omega,e⟩,fun e'=>by have:=h.inj (i:=k + 1) (j:=i) (by omega) hi (by rw [e,e']);omega⟩
 ·rintro ⟨⟨k,hk,e⟩,hne⟩
  have hki:k≠i:=fun e'=>hne (by rw [← e,e'])
  rcases Nat.lt_or_ge k i with h1|h1
  ·exact ⟨k,by omega,by rw [gI_erase (by omega),if_pos h1,e]⟩
  ·exact ⟨k - 1,by omega,by rw [gI_erase (by omega),if_neg (by omega),show k - 1 + 1=k by omega,e]⟩
theorem colStep_cut {out:List Int} {p c q:Int} (hc:cI out c < 0) (hp:0≤cI out p) (hq:0≤cI out q):colStep out (triS p c q)=out.set c.toNat (3 - cI out p - cI out q):=by
 unfold colStep
 rcases triS_six p c q with e|e|e|e|e|e <;> rw [e] <;> simp only
 ·rw [if_neg (by omega),if_pos hc];congr 1;omega
 ·rw [if_neg (by omega),if_neg (by omega),if_pos hc]
 ·rw [if_pos hc]
 ·rw [if_pos hc];congr 1;omega
 ·rw [if_neg (by omega),if_neg (by omega),if_pos hc];congr 1;omega
 ·rw [if_neg (by omega),if_pos hc]
theorem Col.step {n:Nat} {l:List Int} {i:Nat} {out:List Int} (hl:Left n l) (h4:3 < l.length) (hi:i < l.length) (h:Col n (l.eraseIdx i) out) :
  (cI out (gI l i)=-1∧(0≤cI out (gI l (prvN l.length i))∧cI out (gI l (prvN l.length i))≤2)∧(0≤cI out (gI l (nxtN l.length i))∧cI out (gI l (nxtN l.length i))≤2))∧Col n l (colStep out (triAt l i)):=by
 have hlen:=List.length_eraseIdx_of_lt hi
 obtain ⟨e1,e2,e3⟩:=prv_ne (n:=l.length) (by omega) hi
 have hp:=prv_lt (n:=l.length) (i:=i) (by omega)
 have hq:=nxt_lt (n:=l.length) (i:=i) (by omega)
 have hpm:gI l (prvN l.length i)∈l.eraseIdx i:=(hl.mem_erase hi).2 ⟨gI_mem hp,fun e=>e1 (hl.inj hp hi e)⟩
 have hqm:gI l (nxtN l.length i)∈l.eraseIdx i:=(hl.mem_erase hi).2 ⟨gI_mem hq,fun e=>e2 (hl.inj hq hi e)⟩
 have hcn:gI l i ∉ l.eraseIdx i:=fun hm=>((hl.mem_erase hi).1 hm).2 rfl
 have hc:=h.no _ (hl.at hi).1 (hl.at hi).2 hcn
 have hcp:=h.yes _ hpm
 have hcq:=h.yes _ hqm
 have hpq:cI out (gI l (prvN l.length i))≠cI out (gI l (nxtN l.length i)):=by
  have key:∃ k,k < (l.eraseIdx i).length∧gI (l.eraseIdx i) k=gI l (prvN l.length i)∧gI (l.eraseIdx i) (nxtN (l.eraseIdx i).length k)=gI l (nxtN l.length i):=by
   rcases prv_eq hi with ⟨h1,h2⟩|⟨h1,h2⟩
   ·refine ⟨l.length - 2,by omega,by rw [gI_erase (by omega),if_neg (by omega),h2];congr 1;omega,?_⟩
    rcases nxt_eq (n:=(l.eraseIdx i).length) (i:=l.length - 2) (by omega) with ⟨g1,g2⟩|⟨g1,g2⟩
    ·rcases nxt_eq hi with ⟨g3,g4⟩|⟨g3,g4⟩
     ·omega
     ·rw [g2,g4,gI_erase (by omega),if_neg (by omega)];congr 1;omega
    ·omega
   ·refine ⟨i - 1,by omega,by rw [gI_erase (by omega),if_pos (by omega),h2],?_⟩
    rcases nxt_eq hi with ⟨g3,g4⟩|⟨g3,g4⟩
    ·rcases nxt_eq (n:=(l.eraseIdx i).length) (i:=i - 1) (by omega) with ⟨g1,g2⟩|⟨g1,g2⟩
     ·rw [g2,g4,gI_erase (by omega),if_pos (by omega)]
     ·omega
    ·rcases nxt_eq (n:=(l.eraseIdx i).length) (i:=i - 1) (by omega) with ⟨g1,g2⟩|⟨g1,g2⟩
     ·omega
     ·rw [g2,g4,gI_erase (by omega),if_neg (by omega)];congr 1;omega
  obtain ⟨k,k1,k2,k3⟩:=key
  have:=h.ne k k1
  rw [k2,k3] at this
  exact this
 refine ⟨⟨hc,hcp,hcq⟩,?_⟩
 have hs:colStep out (triAt l i)=out.set (gI l i).toNat (3 - cI out (gI l (prvN l.length i)) - cI out (gI l (nxtN l.length i))):=colStep_cut (by omega) hcp.1 hcq.1
 have hcx:0≤gI l i∧gI l i < out.length:=by rw [h.len];exact hl.at hi
 have hget:∀ y,0≤y→cI (colStep out (triAt l i)) y=if y=gI l i then 3 - cI out (gI l (prvN l.length i)) - cI out (gI l (nxtN l.length i)) else cI out y:=fun y hy=>by rw [hs];exact cI_set hcx hy
 refine ⟨by rw [colStep_len,h.len],fun x hx=>?_,fun x h0 h1 hx=>?_,fun k hk=>?_⟩
 ·rw [hget x (hl.ge x hx)]
  split
  ·omega
  ·exact h.yes x ((hl.mem_erase hi).2 ⟨hx,by assumption⟩)
 ·rw [hget x h0,if_neg (fun e=>hx (by rw [e];exact gI_mem hi))]
  exact h.no x h0 h1 (fun hm=>hx ((hl.mem_erase hi).1 hm).1)
 ·have hkn:=nxt_lt (n:=l.length) (i:=k) (by omega)
  rw [hget _ (hl.at hk).1,hget _ (hl.at hkn).1]
  by_cases hki:k=i
  ·subst hki
   rw [if_pos rfl,if_neg (fun e=>e2 (hl.inj hq hi e))]
   omega
  ·rw [if_neg (fun e=>hki (hl.inj hk hi e))]
   by_cases hni:nxtN l.length k=i
   ·rw [if_pos (by rw [hni])]
    have hkp:k=prvN l.length i:=by
     rcases nxt_eq hk with ⟨g1,g2⟩|⟨g1,g2⟩ <;> rcases prv_eq hi with ⟨g3,g4⟩|⟨g3,g4⟩ <;> omega
    rw [hkp]
    omega
   ·rw [if_neg (fun e=>hni (hl.inj hkn hi e))]
    have key:∃ j,j < (l.eraseIdx i).length∧gI (l.eraseIdx i) j=gI l k∧gI (l.eraseIdx i) (nxtN (l.eraseIdx i).length j)=gI l (nxtN l.length k):=by
     rcases Nat.lt_or_ge k i with h1|h1
     ·refine ⟨k,by omega,by rw [gI_erase (by omega),if_pos h1],?_⟩
      rcases nxt_eq hk with ⟨g1,g2⟩|⟨g1,g2⟩
      ·omega
      ·rcases nxt_eq (n:=(l.eraseIdx i).length) (i:=k) (by omega) with ⟨g3,g4⟩|⟨g3,g4⟩
       ·omega
       ·rw [g2,g4,gI_erase (by omega),if_pos (by omega)]
     ·refine ⟨k - 1,by omega,by rw [gI_erase (by omega),if_neg (by omega),show k - 1 + 1=k by omega],?_⟩
      rcases nxt_eq hk with ⟨g1,g2⟩|⟨g1,g2⟩
      ·rcases nxt_eq (n:=(l.eraseIdx i).length) (i:=k - 1) (by omega) with ⟨g3,g4⟩|⟨g3,g4⟩
       ·rw [g2,g4,gI_erase (by omega),if_pos (by omega)]
       ·omega
      ·rcases nxt_eq (n:=(l.eraseIdx i).length) (i:=k - 1) (by omega) with ⟨g3,g4⟩|⟨g3,g4⟩
       ·omega
       ·rw [g2,g4,gI_erase (by omega),if_neg (by omega)];congr 1;omega
    obtain ⟨j,j1,j2,j3⟩:=key
    have:=h.ne j j1
    rw [j2,j3] at this
    exact this
end Go.Proofs.YtpafacebfogkmaaGreat
namespace Go.Proofs.YtpafacebfogkmaaGreat
open Go.RowKit Go.Proofs.YtpafacebfogkmaaGreat.Nm
set_option maxRecDepth 10000
set_option maxHeartbeats 2000000
def strAt (l:List Pt) (i:Nat):Bool:=decide (turn (pAt l (prvN l.length i)) (pAt l i) (pAt l (nxtN l.length i))=0)
def firstStr (l:List Pt):Option Nat:=if 2 < l.length then (List.range l.length).find? (strAt l) else none
def strRun:Nat→List Pt→List Pt
 | 0,l=>l
 | f + 1,l=>match firstStr l with
  | none=>l
  | some i=>strRun f (l.eraseIdx i)
def straightM (l:List Pt):List Pt:=strRun l.length l
structure StrSt (xs l:List Pt):Prop where
 run:strRun l.length l=straightM xs
 len:l.length≤xs.length
theorem StrSt.step {xs l:List Pt} (h:StrSt xs l) {i:Nat} (hi:i < l.length) (hf:firstStr l=some i):StrSt xs (l.eraseIdx i):=by
 have hl:=List.length_eraseIdx_of_lt hi
 have hr:=h.run
 have:=h.len
 refine ⟨?_,by omega⟩
 rw [hl]
 rw [show l.length=(l.length - 1) + 1 by omega] at hr
 unfold strRun at hr
 rw [hf] at hr
 exact hr
theorem StrSt.done {xs l:List Pt} (h:StrSt xs l) (hf:firstStr l=none):straightM xs=l:=by
 rw [← h.run]
 cases hn:l.length with
 | zero=>rfl
 | succ n=>unfold strRun;rw [hf]
def isDiagM (xs:List Pt) (i k:Int):Bool:=roomOk xs && diagM xs i k
theorem isDiag_iff {xs:List Pt} {i k:Int}:isDiagM xs i k=true↔roomOk xs=true∧diagM xs i k=true:=by unfold isDiagM;rw [Bool.and_eq_true]
theorem isDiag_bd {xs:List Pt} {i k:Int} (h:isDiagM xs i k=true):(0≤i∧i < xs.length)∧(0≤k∧k < xs.length)∧xs.length≤10:=by
 have h1:=isDiag_iff.1 h
 have h2:=diagM_iff.1 h1.2
 have h3:=btw_iff.1 h2.1
 have h4:=btw_iff.1 h2.2.1
 have h5:=room_len h1.1
 omega
def isDiagC:Con:=mkCon [.room,.int,.int] (fun x=>x.1.length≤1048576) fun x=>vB (isDiagM x.1 x.2.1 x.2.2.1)
theorem iIsDiagonal_ok:Good1 Tryz.prog n_impl_IsDiagonal isDiagC:=by
 refine good_ofG (tys:=tyL) (env:=[(n_impl_RoomOk,roomOkC),(n_impl_diagonal,diagonalC)]) (envw:=[]) (envd:=[]) [] [] [] [] [] mixed tys ⟨iRoomOk_ok,diagonal_ok,trivial⟩ trivial trivial Tryz.func71 rfl (by kernel_rfl) (by decide) (by kernel_rfl) ?_
 have hG_:=kpz [(0,[1,2,3]),(1,[6])] [] [] []
 rintro ⟨(xs:List Pt),(i:Int),(k:Int),⟨⟩⟩ (h1:xs.length≤_)
 (repeat' (first|(with_reducible first|exact True.intro|refine zQ ?_|(refine zG hG_ ?_;intro K_ hK_)|(refine zR ?_;intro K_ hK_)|(refine hK_ _ _ ?_;try clear hK_ K_)|refine sq_n ?_|refine sq_r ?_|refine sq_e ?_|refine bq_n ?_|refine bq_r ?_|refine bq_q ?_|refine zB ?_|refine zX ?_|refine zT ?_|refine zK ?_|refine gq_n ?_|refine gq_r ?_|refine gq_e ?_|refine lq_n ?_|refine lq_r ?_|refine lq_e ?_|refine bq_e (by decide) ?_)|((with_reducible refine zC (b:=?b_) ?hb_ ?_ ?_);case hb_=>rfl)|((conv=>whnf);first|(with_reducible refine hK_ _ _ ?_;try clear hK_ K_)|(with_reducible refine fun (g_:Sl) (o_:Ow)=>?_)|(with_reducible first|exact True.intro|refine And.intro trivial ?_|refine And.intro ?_ ?_)|exact Nat.le_of_ble_eq_true rfl|exact Or.inl rfl|(intro h_;cases h_)|(intro h_;(try simp only [vS1] at h_))|rfl))) <;> (try (conv=>whnf)) <;> (try first|change (_:Int)≤_|change (_:Nat)≤_) <;> (try ((fail_if_success (with_reducible apply Exists.intro));(try dsimp only);(try simp only [vS1]))) <;> (try simp (disch:=omega) only [vS3,Int.add_sub_cancel,tn1,tnp,tnc,vS2] at *)
 all_goals (try (fail_if_success (with_reducible apply Exists.intro));first|with_reducible assumption|omega|exact mdl (by omega)|exact ilo1 (by omega)|exact ilo2 (by omega)|exact ihi1 (by omega) (by omega)|exact ihi2 (by omega) (by omega))
 all_goals first
  | (unfold isDiagM;rw [‹roomOk xs=true›];rfl)
  | (unfold isDiagM;rw [‹roomOk xs=false›];rfl)
theorem sIsDiagonal_ok:Good1 Tryz.prog n_spec_IsDiagonal isDiagC:=by
 refine good_ofG (tys:=tyL) (env:=[(n_spec_RoomOk,roomOkC),(n_spec_l01In,btwC),(n_spec_l09Diagonal,l09C)]) (envw:=[]) (envd:=[]) [] [] [] [] [] mixed tys ⟨sRoomOk_ok,l01In_ok,l09Diagonal_ok,trivial⟩ trivial trivial Tryz.func73 rfl (by kernel_rfl) (by decide) (by kernel_rfl) ?_
 have hG_:=kpz [(0,[1,2,3]),(1,[1,2,3,7]),(2,[6])] [] [] []
 rintro ⟨(xs:List Pt),(i:Int),(k:Int),⟨⟩⟩ (h1:xs.length≤_)
 have hw:IntKind.i64.wrap (xs.length - 1:Int)=xs.length - 1:=W_in (by omega) (by omega)
 (repeat' (first|(with_reducible first|exact True.intro|refine zQ ?_|(refine zG hG_ ?_;intro K_ hK_)|(refine zR ?_;intro K_ hK_)|(refine hK_ _ _ ?_;try clear hK_ K_)|refine sq_n ?_|refine sq_r ?_|refine sq_e ?_|refine bq_n ?_|refine bq_r ?_|refine bq_q ?_|refine zB ?_|refine zX ?_|refine zT ?_|refine zK ?_|refine gq_n ?_|refine gq_r ?_|refine gq_e ?_|refine lq_n ?_|refine lq_r ?_|refine lq_e ?_|refine bq_e (by decide) ?_)|((with_reducible refine zC (b:=?b_) ?hb_ ?_ ?_);case hb_=>rfl)|((conv=>whnf);first|(with_reducible refine hK_ _ _ ?_;try clear hK_ K_)|(with_reducible refine fun (g_:Sl) (o_:Ow)=>?_)|(with_reducible first|exact True.intro|refine And.intro trivial ?_|refine And.intro ?_ ?_)|exact Nat.le_of_ble_eq_true rfl|exact Or.inl rfl|(intro h_;cases h_)|(intro h_;(try simp only [vS1] at h_))|rfl))) <;> (try (conv=>whnf)) <;> (try first|change (_:Int)≤_|change (_:Nat)≤_) <;> (try ((fail_if_success (with_reducible apply Exists.intro));(try dsimp only);(try simp only [vS1]))) <;> (try simp (disch:=omega) only [vS3,Int.add_sub_cancel,tn1,tnp,tnc,vS2] at *) <;> (try rw [hw] at *)
 all_goals (try (fail_if_success (with_reducible apply Exists.intro));first|with_reducible assumption|omega|exact mdl (by omega)|exact ilo1 (by omega)|exact ilo2 (by omega)|exact ihi1 (by omega) (by omega)|exact ihi2 (by omega) (by omega))
 all_goals (try (have hb:=btw_iff.1 ‹btw i 0 (xs.length - 1:Int)=true›))
 all_goals (try (have hb2:=btw_iff.1 ‹btw k 0 (xs.length - 1:Int)=true›))
 all_goals first
  | omega
  | exact ⟨by assumption,⟨by omega,by omega⟩,⟨by omega,by omega⟩⟩
  | (unfold isDiagM;rw [‹roomOk xs=true›];rfl)
  | (unfold isDiagM;rw [‹roomOk xs=false›];rfl)
  | exact eq_false_of fun hc=>by have:=(diagM_iff.1 (isDiag_iff.1 hc).2).1;rw [‹btw i 0 (xs.length - 1:Int)=false›] at this;cases this
  | exact eq_false_of fun hc=>by have:=(diagM_iff.1 (isDiag_iff.1 hc).2).2.1;rw [‹btw k 0 (xs.length - 1:Int)=false›] at this;cases this
  | skip
def crossM (xs:List Pt) (a b:List Int):Bool:=(decide ((a.length:Int)=2) && (decide ((b.length:Int)=2) && (isDiagM xs (gI a 0) (gI a 1) && isDiagM xs (gI b 0) (gI b 1)))) && crs (pI xs (gI a 0)) (pI xs (gI a 1)) (pI xs (gI b 0)) (pI xs (gI b 1))
theorem crossM_no {xs:List Pt} {a b:List Int} (h:(decide ((a.length:Int)=2) && (decide ((b.length:Int)=2) && (isDiagM xs (gI a 0) (gI a 1) && isDiagM xs (gI b 0) (gI b 1))))=false):crossM xs a b=false:=by unfold crossM;rw [h];rfl
theorem crossM_yes {xs:List Pt} {a b:List Int} (h1:(a.length:Int)=2) (h2:(b.length:Int)=2) (h3:isDiagM xs (gI a 0) (gI a 1)=true) (h4:isDiagM xs (gI b 0) (gI b 1)=true):crossM xs a b=crs (pI xs (gI a 0)) (pI xs (gI a 1)) (pI xs (gI b 0)) (pI xs (gI b 1)):=by
 unfold crossM;rw [h3,h4];simp [h1,h2]
theorem crossM_no1 {xs:List Pt} {a b:List Int} (h:¬(a.length:Int)=2):false=crossM xs a b:=(crossM_no (by rw [decide_eq_false h];rfl)).symm
theorem crossM_no2 {xs:List Pt} {a b:List Int} (h:¬(b.length:Int)=2):false=crossM xs a b:=(crossM_no (by rw [decide_eq_false h];simp)).symm
theorem crossM_no3 {xs:List Pt} {a b:List Int} (h:isDiagM xs (gI a 0) (gI a 1)=false):false=crossM xs a b:=(crossM_no (by rw [h];simp)).symm
theorem crossM_no4 {xs:List Pt} {a b:List Int} (h:isDiagM xs (gI b 0) (gI b 1)=false):false=crossM xs a b:=(crossM_no (by rw [h];simp)).symm
def dcrossC:Con:=mkCon [.room,.sl (.b .int),.sl (.b .int)] (fun x=>x.1.length≤1048576∧x.2.1.length≤1048576∧x.2.2.1.length≤1048576) fun x=>vB (crossM x.1 x.2.1 x.2.2.1)
theorem iDoDiagonalsCross_ok:Good1 Tryz.prog n_impl_DoDiagonalsCross dcrossC:=by
 refine good_ofG (tys:=tyL) (env:=[(n_impl_IsDiagonal,isDiagC),(n_impl_crosses,crossesC)]) (envw:=[]) (envd:=[]) [] [] [] [] [] mixed tys ⟨iIsDiagonal_ok,crosses_ok,trivial⟩ trivial trivial Tryz.func39 rfl (by kernel_rfl) (by decide) (by kernel_rfl) ?_
 have hG_:=kpz [(0,[1,2,3]),(1,[1,2,3,36]),(2,[6]),(3,[6])] [] [] []
 rintro ⟨(xs:List Pt),(a:List Int),(b:List Int),⟨⟩⟩ ⟨(h1:xs.length≤_),(h2:a.length≤_),(h3:b.length≤_)⟩
 (repeat' (first|(with_reducible first|exact True.intro|refine zQ ?_|(refine zG hG_ ?_;intro K_ hK_)|(refine zR ?_;intro K_ hK_)|(refine hK_ _ _ ?_;try clear hK_ K_)|refine sq_n ?_|refine sq_r ?_|refine sq_e ?_|refine bq_n ?_|refine bq_r ?_|refine bq_q ?_|refine zB ?_|refine zX ?_|refine zT ?_|refine zK ?_|refine gq_n ?_|refine gq_r ?_|refine gq_e ?_|refine lq_n ?_|refine lq_r ?_|refine lq_e ?_|refine bq_e (by decide) ?_)|((with_reducible refine zC (b:=?b_) ?hb_ ?_ ?_);case hb_=>rfl)|((conv=>whnf);first|(with_reducible refine hK_ _ _ ?_;try clear hK_ K_)|(with_reducible refine fun (g_:Sl) (o_:Ow)=>?_)|(with_reducible first|exact True.intro|refine And.intro trivial ?_|refine And.intro ?_ ?_)|exact Nat.le_of_ble_eq_true rfl|exact Or.inl rfl|(intro h_;cases h_)|(intro h_;(try simp only [vS1] at h_))|rfl))) <;> (try (conv=>whnf)) <;> (try first|change (_:Int)≤_|change (_:Nat)≤_) <;> (try ((fail_if_success (with_reducible apply Exists.intro));(try dsimp only);(try simp only [vS1]))) <;> (try simp (disch:=omega) only [vS3,Int.add_sub_cancel,tn1,tnp,tnc,vS2] at *)
 all_goals (try (fail_if_success (with_reducible apply Exists.intro));first|with_reducible assumption|omega|exact mdl (by omega)|exact ilo1 (by omega)|exact ilo2 (by omega)|exact ihi1 (by omega) (by omega)|exact ihi2 (by omega) (by omega))
 all_goals first
  | exact crossM_no1 ‹¬(a.length:Int)=2›
  | exact crossM_no2 ‹¬(b.length:Int)=2›
  | exact crossM_no3 ‹isDiagM xs (gI a 0) (gI a 1)=false›
  | exact crossM_no4 ‹isDiagM xs (gI b 0) (gI b 1)=false›
  | exact (isDiag_bd ‹isDiagM xs (gI a 0) (gI a 1)=true›).1.1
  | exact (isDiag_bd ‹isDiagM xs (gI a 0) (gI a 1)=true›).1.2
  | exact (isDiag_bd ‹isDiagM xs (gI a 0) (gI a 1)=true›).2.1.1
  | exact (isDiag_bd ‹isDiagM xs (gI a 0) (gI a 1)=true›).2.1.2
  | exact (isDiag_bd ‹isDiagM xs (gI b 0) (gI b 1)=true›).1.1
  | exact (isDiag_bd ‹isDiagM xs (gI b 0) (gI b 1)=true›).1.2
  | exact (isDiag_bd ‹isDiagM xs (gI b 0) (gI b 1)=true›).2.1.1
  | exact (isDiag_bd ‹isDiagM xs (gI b 0) (gI b 1)=true›).2.1.2
  | exact (crs_comm _ _ _ _).trans (crossM_yes ‹_› ‹_› ‹isDiagM xs (gI a 0) (gI a 1)=true› ‹isDiagM xs (gI b 0) (gI b 1)=true›).symm
  | exact (crossM_yes ‹_› ‹_› ‹isDiagM xs (gI a 0) (gI a 1)=true› ‹isDiagM xs (gI b 0) (gI b 1)=true›).symm
  | skip
theorem sDoDiagonalsCross_ok:Good1 Tryz.prog n_spec_DoDiagonalsCross dcrossC:=by
 refine good_ofG (tys:=tyL) (env:=[(n_spec_IsDiagonal,isDiagC),(n_spec_l03Cross,l03CrossC)]) (envw:=[]) (envd:=[]) [] [] [] [] [] mixed tys ⟨sIsDiagonal_ok,l03Cross_ok,trivial⟩ trivial trivial Tryz.func74 rfl (by kernel_rfl) (by decide) (by kernel_rfl) ?_
 have hG_:=kpz [(0,[1,2,3]),(1,[1,2,3,36]),(2,[6]),(3,[6])] [] [] []
 rintro ⟨(xs:List Pt),(a:List Int),(b:List Int),⟨⟩⟩ ⟨(h1:xs.length≤_),(h2:a.length≤_),(h3:b.length≤_)⟩
 (repeat' (first|(with_reducible first|exact True.intro|refine zQ ?_|(refine zG hG_ ?_;intro K_ hK_)|(refine zR ?_;intro K_ hK_)|(refine hK_ _ _ ?_;try clear hK_ K_)|refine sq_n ?_|refine sq_r ?_|refine sq_e ?_|refine bq_n ?_|refine bq_r ?_|refine bq_q ?_|refine zB ?_|refine zX ?_|refine zT ?_|refine zK ?_|refine gq_n ?_|refine gq_r ?_|refine gq_e ?_|refine lq_n ?_|refine lq_r ?_|refine lq_e ?_|refine bq_e (by decide) ?_)|((with_reducible refine zC (b:=?b_) ?hb_ ?_ ?_);case hb_=>rfl)|((conv=>whnf);first|(with_reducible refine hK_ _ _ ?_;try clear hK_ K_)|(with_reducible refine fun (g_:Sl) (o_:Ow)=>?_)|(with_reducible first|exact True.intro|refine And.intro trivial ?_|refine And.intro ?_ ?_)|exact Nat.le_of_ble_eq_true rfl|exact Or.inl rfl|(intro h_;cases h_)|(intro h_;(try simp only [vS1] at h_))|rfl))) <;> (try (conv=>whnf)) <;> (try first|change (_:Int)≤_|change (_:Nat)≤_) <;> (try ((fail_if_success (with_reducible apply Exists.intro));(try dsimp only);(try simp only [vS1]))) <;> (try simp (disch:=omega) only [vS3,Int.add_sub_cancel,tn1,tnp,tnc,vS2] at *)
 all_goals (try (fail_if_success (with_reducible apply Exists.intro));first|with_reducible assumption|omega|exact mdl (by omega)|exact ilo1 (by omega)|exact ilo2 (by omega)|exact ihi1 (by omega) (by omega)|exact ihi2 (by omega) (by omega))
 all_goals first
  | exact crossM_no1 ‹¬(a.length:Int)=2›
  | exact crossM_no2 ‹¬(b.length:Int)=2›
  | exact crossM_no3 ‹isDiagM xs (gI a 0) (gI a 1)=false›
  | exact crossM_no4 ‹isDiagM xs (gI b 0) (gI b 1)=false›
  | exact (isDiag_bd ‹isDiagM xs (gI a 0) (gI a 1)=true›).1.1
  | exact (isDiag_bd ‹isDiagM xs (gI a 0) (gI a 1)=true›).1.2
  | exact (isDiag_bd ‹isDiagM xs (gI a 0) (gI a 1)=true›).2.1.1
  | exact (isDiag_bd ‹isDiagM xs (gI a 0) (gI a 1)=true›).2.1.2
  | exact (isDiag_bd ‹isDiagM xs (gI b 0) (gI b 1)=true›).1.1
  | exact (isDiag_bd ‹isDiagM xs (gI b 0) (gI b 1)=true›).1.2
  | exact (isDiag_bd ‹isDiagM xs (gI b 0) (gI b 1)=true›).2.1.1
  | exact (isDiag_bd ‹isDiagM xs (gI b 0) (gI b 1)=true›).2.1.2
  | exact (crs_comm _ _ _ _).trans (crossM_yes ‹_› ‹_› ‹isDiagM xs (gI a 0) (gI a 1)=true› ‹isDiagM xs (gI b 0) (gI b 1)=true›).symm
  | exact (crossM_yes ‹_› ‹_› ‹isDiagM xs (gI a 0) (gI a 1)=true› ‹isDiagM xs (gI b 0) (gI b 1)=true›).symm
  | skip
def eqLC:Con:=mkCon [.sl (.b .int),.sl (.b .int)] (fun x=>x.1.length≤1048576∧x.2.1.length≤1048576) fun x=>vB (decide (x.1=x.2.1))
theorem slEqual_ok:Good1 Tryz.prog n_slices_Equal_int eqLC:=by
 refine good_ofG (tys:=tyL) (env:=[]) (envw:=[]) (envd:=[]) [] [] [] [] [] mixed tys trivial trivial trivial Tryz.func38 rfl (by kernel_rfl) (by decide) (by kernel_rfl) ?_
 have hG_:=kpz [(0,[0,1]),(1,[0,1,10]),(2,[4]),(3,[0,1,12,13]),(4,[0,1,12,13,14]),(5,[0,1,5,12,13]),(6,[0,1,12,13,24]),(7,[4]),(8,[0,1,12,13]),(9,[4])] [] [] []
 rintro ⟨(a:List Int),(b:List Int),⟨⟩⟩ ⟨(h1:a.length≤_),(h2:b.length≤_)⟩
 (repeat' (first|(with_reducible first|exact True.intro|refine zQ ?_|(refine zG hG_ ?_;intro K_ hK_)|(refine zR ?_;intro K_ hK_)|(refine hK_ _ _ ?_;try clear hK_ K_)|refine sq_n ?_|refine sq_r ?_|refine sq_e ?_|refine bq_n ?_|refine bq_r ?_|refine bq_q ?_|refine zB ?_|refine zX ?_|refine zT ?_|refine zK ?_|refine gq_n ?_|refine gq_r ?_|refine gq_e ?_|refine lq_n ?_|refine lq_r ?_|refine lq_e ?_|refine bq_e (by decide) ?_)|((with_reducible refine zC (b:=?b_) ?hb_ ?_ ?_);case hb_=>rfl)|((conv=>whnf);first|(with_reducible refine hK_ _ _ ?_;try clear hK_ K_)|(with_reducible refine fun (g_:Sl) (o_:Ow)=>?_)|(with_reducible first|exact True.intro|refine And.intro trivial ?_|refine And.intro ?_ ?_)|exact Nat.le_of_ble_eq_true rfl|exact Or.inl rfl|(intro h_;cases h_)|(intro h_;(try simp only [vS1] at h_))|rfl))) <;> (try (conv=>whnf)) <;> (try first|change (_:Int)≤_|change (_:Nat)≤_) <;> (try ((fail_if_success (with_reducible apply Exists.intro));(try dsimp only);(try simp only [vS1]))) <;> (try simp (disch:=omega) only [vS3,Int.add_sub_cancel,tn1,tnp,tnc,vS2] at *)
 all_goals (try (fail_if_success (with_reducible apply Exists.intro));first|with_reducible assumption|omega|exact mdl (by omega)|exact ilo1 (by omega)|exact ilo2 (by omega)|exact ihi1 (by omega) (by omega)|exact ihi2 (by omega) (by omega))
 ·exact eq_false_of fun hc=>by have:=of_decide_eq_true hc;subst this;simp_all
 refine awp'_loopG (α:=Nat) (fun k ver_=>[(13,vInt k)]) (fun k ver_=>[]) (fun k ver_=>[]) (fun k=>k≤a.length∧∀ j,j < k→a.getD j 0=b.getD j 0) (fun k=>a.length - k) [0,1,12] [] (0) ?_
 conv=>whnf
 refine ⟨⟨?inv1_,?vals1_,?own1_,?fix1_⟩,?body1_⟩
 case' vals1_=>(repeat' (first|(with_reducible first|exact True.intro|refine And.intro ?_ ?_|refine Head.mk ?_ ?_ ?_ ?_)|((conv=>lhs;whnf);first|(with_reducible first|rfl|exact vInt_s (by omega))|exact rfl)|((conv=>whnf);first|(with_reducible first|exact True.intro|refine And.intro ?_ ?_)))) <;> (try (conv=>lhs;whnf))
 case' own1_=>(repeat' (first|(with_reducible first|exact True.intro|refine And.intro ?_ ?_|refine Head.mk ?_ ?_ ?_ ?_)|((conv=>lhs;whnf);first|(with_reducible first|rfl|exact vInt_s (by omega))|exact rfl)|((conv=>whnf);first|(with_reducible first|exact True.intro|refine And.intro ?_ ?_)))) <;> (try (conv=>lhs;whnf))
 case' fix1_=>(repeat' (first|(with_reducible first|exact True.intro|refine And.intro ?_ ?_|refine Head.mk ?_ ?_ ?_ ?_)|((conv=>lhs;whnf);first|(with_reducible first|rfl|exact vInt_s (by omega))|exact rfl)|((conv=>whnf);first|(with_reducible first|exact True.intro|refine And.intro ?_ ?_)))) <;> (try (conv=>lhs;whnf))
 ·exact ⟨Nat.zero_le _,fun j hj=>absurd hj (by omega)⟩
 rintro k g_ o_ v_ ⟨hk,hall⟩
 (repeat' (first|(with_reducible first|exact True.intro|refine zQ ?_|(refine zG hG_ ?_;intro K_ hK_)|(refine zR ?_;intro K_ hK_)|(refine hK_ _ _ ?_;try clear hK_ K_)|refine sq_n ?_|refine sq_r ?_|refine sq_e ?_|refine bq_n ?_|refine bq_r ?_|refine bq_q ?_|refine zB ?_|refine zX ?_|refine zT ?_|refine zK ?_|refine gq_n ?_|refine gq_r ?_|refine gq_e ?_|refine lq_n ?_|refine lq_r ?_|refine lq_e ?_|refine bq_e (by decide) ?_)|((with_reducible refine zC (b:=?b_) ?hb_ ?_ ?_);case hb_=>rfl)|((conv=>whnf);first|(with_reducible refine hK_ _ _ ?_;try clear hK_ K_)|(with_reducible refine fun (g_:Sl) (o_:Ow)=>?_)|(with_reducible first|exact True.intro|refine And.intro trivial ?_|refine And.intro ?_ ?_)|exact Nat.le_of_ble_eq_true rfl|exact Or.inl rfl|(intro h_;cases h_)|(intro h_;(try simp only [vS1] at h_))|rfl))) <;> (try (conv=>whnf)) <;> (try first|change (_:Int)≤_|change (_:Nat)≤_) <;> (try ((fail_if_success (with_reducible apply Exists.intro));(try dsimp only);(try simp only [vS1]))) <;> (try simp (disch:=omega) only [vS3,Int.add_sub_cancel,tn1,tnp,tnc,vS2] at *)
 all_goals (try (fail_if_success (with_reducible apply Exists.intro));first|with_reducible assumption|omega|exact mdl (by omega)|exact ilo1 (by omega)|exact ilo2 (by omega)|exact ihi1 (by omega) (by omega)|exact ihi2 (by omega) (by omega))
 all_goals first
  | omega
  | exact eq_false_of fun hc=>by have:=of_decide_eq_true hc;subst this;simp_all
  | exact ⟨k + 1,by omega,⟨by omega,lt_succ_all hall (by assumption)⟩,by (repeat' (first|(with_reducible first|exact True.intro|refine And.intro ?_ ?_|refine Head.mk ?_ ?_ ?_ ?_)|((conv=>lhs;whnf);first|(with_reducible first|rfl|exact vInt_s (by omega))|exact rfl)|((conv=>whnf);first|(with_reducible first|exact True.intro|refine And.intro ?_ ?_)))) <;> (try (conv=>lhs;whnf))⟩
  | exact eq_true_of (decide_eq_true (ext_getD 0 (by omega) fun p hp=>hall p (by omega)))
  | skip
abbrev rI (cuts:List (List Int)) (i:Nat):List Int:=cuts.getD i []
def plansAt (xs:List Pt) (cuts:List (List Int)) (i:Nat):Bool:=(decide ((rI cuts i).length=2) && (decide (gI (rI cuts i) 0 < gI (rI cuts i) 1) && isDiagM xs (gI (rI cuts i) 0) (gI (rI cuts i) 1))) && (List.range i).all fun j=>!(decide (rI cuts i=rI cuts j) || crossM xs (rI cuts i) (rI cuts j))
theorem plansAt_iff {xs:List Pt} {cuts:List (List Int)} {i:Nat}:plansAt xs cuts i=true↔(rI cuts i).length=2∧gI (rI cuts i) 0 < gI (rI cuts i) 1∧isDiagM xs (gI (rI cuts i) 0) (gI (rI cuts i) 1)=true∧∀ j,j < i→rI cuts i≠rI cuts j∧crossM xs (rI cuts i) (rI cuts j)=false:=by
 unfold plansAt
 simp only [Bool.and_eq_true,decide_eq_true_eq,List.all_eq_true,List.mem_range,Bool.not_eq_true',Bool.or_eq_false_iff,decide_eq_false_iff_not,and_assoc]
def plansM (xs:List Pt) (cuts:List (List Int)):Bool:=roomOk xs && (decide (cuts.length≤7) && (List.range cuts.length).all (plansAt xs cuts))
theorem plansM_iff {xs:List Pt} {cuts:List (List Int)}:plansM xs cuts=true↔roomOk xs=true∧cuts.length≤7∧∀ i,i < cuts.length→plansAt xs cuts i=true:=by
 unfold plansM
 simp only [Bool.and_eq_true,decide_eq_true_eq,List.all_eq_true,List.mem_range]
theorem len2_eq {a b:List Int} (ha:a.length=2) (hb:b.length=2):a=b↔gI a 0=gI b 0∧gI a 1=gI b 1:=by
 match a,b,ha,hb with
 | [x,y],[z,u],_,_=>simp [gI]
theorem plans_at {xs:List Pt} {cuts:List (List Int)} {i:Nat} (hc:plansM xs cuts=true) (hi:i < cuts.length):plansAt xs cuts i=true:=(plansM_iff.1 hc).2.2 i hi
theorem plans_no1 {xs:List Pt} {cuts:List (List Int)} {i:Nat} (hi:i < cuts.length) (h:¬((rI cuts i).length:Int)=2):false=plansM xs cuts:=eq_false_of fun hc=>h (by have:=(plansAt_iff.1 (plans_at hc hi)).1;omega)
theorem plans_no2 {xs:List Pt} {cuts:List (List Int)} {i:Nat} (hi:i < cuts.length) (h:gI (rI cuts i) 0 ≥ gI (rI cuts i) 1):false=plansM xs cuts:=eq_false_of fun hc=>by have:=(plansAt_iff.1 (plans_at hc hi)).2.1;omega
theorem plans_no3 {xs:List Pt} {cuts:List (List Int)} {i:Nat} (hi:i < cuts.length) (h:isDiagM xs (gI (rI cuts i) 0) (gI (rI cuts i) 1)=false):false=plansM xs cuts:=eq_false_of fun hc=>by have:=(plansAt_iff.1 (plans_at hc hi)).2.2.1;rw [h] at this;cases this
theorem plans_no3d {xs:List Pt} {cuts:List (List Int)} {i:Nat} (hi:i < cuts.length) (h:diagM xs (gI (rI cuts i) 0) (gI (rI cuts i) 1)=false):false=plansM xs cuts:=plans_no3 hi (by unfold isDiagM;rw [h,Bool.and_false])
theorem plans_no4 {xs:List Pt} {cuts:List (List Int)} {i k:Nat} (hi:i < cuts.length) (hk:k < i) (h:rI cuts i=rI cuts k):false=plansM xs cuts:=eq_false_of fun hc=>((plansAt_iff.1 (plans_at hc hi)).2.2.2 k hk).1 h
theorem plans_no5 {xs:List Pt} {cuts:List (List Int)} {i k:Nat} (hi:i < cuts.length) (hk:k < i) (h:crossM xs (rI cuts i) (rI cuts k)=true):false=plansM xs cuts:=eq_false_of fun hc=>by have:=((plansAt_iff.1 (plans_at hc hi)).2.2.2 k hk).2;rw [h] at this;cases this
abbrev rT (cuts:List (List Int)) (i k:Nat):List Int:=(cuts.take i).getD k []
theorem rT_eq {cuts:List (List Int)} {i k:Nat} (hk:k < i):rT cuts i k=rI cuts k:=by
 simp only [rT,rI,List.getD_eq_getElem?_getD,List.getElem?_take,hk,if_true]
theorem plans_no4T {xs:List Pt} {cuts:List (List Int)} {i k:Nat} (hi:i < cuts.length) (hk:k < i) (h:rI cuts i=rT cuts i k):false=plansM xs cuts:=plans_no4 hi hk (h.trans (rT_eq hk))
theorem plans_no5T {xs:List Pt} {cuts:List (List Int)} {i k:Nat} (hi:i < cuts.length) (hk:k < i) (h:crossM xs (rI cuts i) (rT cuts i k)=true):false=plansM xs cuts:=plans_no5 hi hk (by rw [← rT_eq hk];exact h)
theorem plans_stepT {xs:List Pt} {cuts:List (List Int)} {i k:Nat} (hk:k < i) (h:¬rI cuts i=rT cuts i k) (h2:crossM xs (rI cuts i) (rT cuts i k)=false):rI cuts i≠rI cuts k∧crossM xs (rI cuts i) (rI cuts k)=false:=by
 rw [← rT_eq hk];exact ⟨h,h2⟩
theorem plansAt_mk {xs:List Pt} {cuts:List (List Int)} {i:Nat} (h1:((rI cuts i).length:Int)=2) (h2:¬gI (rI cuts i) 0 ≥ gI (rI cuts i) 1) (h3:isDiagM xs (gI (rI cuts i) 0) (gI (rI cuts i) 1)=true) (h4:∀ j,j < i→rI cuts i≠rI cuts j∧crossM xs (rI cuts i) (rI cuts j)=false):plansAt xs cuts i=true:=plansAt_iff.2 ⟨by omega,by omega,h3,h4⟩
theorem isDiag_mk {xs:List Pt} {i k:Int} (hr:roomOk xs=true) (h:diagM xs i k=true):isDiagM xs i k=true:=isDiag_iff.2 ⟨hr,h⟩
theorem plans_end {xs:List Pt} {cuts:List (List Int)} (hr:roomOk xs=true) (h:∀ j,j < cuts.length→plansAt xs cuts j=true):decide ((cuts.length:Int)≤7)=plansM xs cuts:=by
 rw [Bool.eq_iff_iff,plansM_iff,decide_eq_true_eq]
 exact ⟨fun h7=>⟨hr,by omega,h⟩,fun hh=>by have:=hh.2.1;omega⟩
theorem rows_len {cuts:List (List Int)} (h:∀ c∈cuts,c.length≤1048576) (k:Nat):(rI cuts k).length≤1048576:=by
 rcases Nat.lt_or_ge k cuts.length with hk|hk
 ·exact h _ (by rw [show rI cuts k=cuts[k] from getD_lt _ hk];exact List.getElem_mem _)
 ·rw [show rI cuts k=[] by simp [rI,List.getD_eq_getElem?_getD,List.getElem?_eq_none hk]];exact Nat.zero_le _
def plansC:Con:=mkCon [.room,.sl (.s .int)] (fun x=>x.1.length≤1048576∧x.2.1.length≤1048576∧∀ c∈x.2.1,c.length≤1048576) fun x=>vB (plansM x.1 x.2.1)
theorem iArePlans_ok:Good1 Tryz.prog n_impl_ArePlans plansC:=by
 refine good_ofG (tys:=tyL) (env:=[(n_impl_RoomOk,roomOkC),(n_impl_diagonal,diagonalC),(n_slices_Equal_int,eqLC),(n_impl_DoDiagonalsCross,dcrossC)]) (envw:=[]) (envd:=[]) [] [] [] [] [] mixed tys ⟨iRoomOk_ok,diagonal_ok,slEqual_ok,iDoDiagonalsCross_ok,trivial⟩ trivial trivial Tryz.func10 rfl (by kernel_rfl) (by decide) (by kernel_rfl) ?_
 have hG_:=kpz [(0,[1,2]),(1,[1,2,16]),(2,[4]),(3,[1,2,17,18,19]),(4,[1,2,17,18,19,20]),(5,[1,2,5,6,17,18,19]),(6,[1,2,5,6,17,18,19,46]),(7,[4]),(8,[1,2,6,17,18,19,49,50,51]),(9,[1,2,6,17,18,19,49,50,51,52]),(10,[1,2,6,8,17,18,19,49,50,51]),(11,[1,2,6,17,18,19,49,50,51,63]),(12,[4]),(13,[1,2,6,17,18,19,49,50,51]),(14,[1,2,17,18,19]),(15,[4])] [] [] []
 rintro ⟨(xs:List Pt),(cuts:List (List Int)),⟨⟩⟩ ⟨(h1:xs.length≤_),(h2:cuts.length≤_),(h3:∀ c∈cuts,c.length≤_)⟩
 (repeat' (first|(with_reducible first|exact True.intro|refine zQ ?_|(refine zG hG_ ?_;intro K_ hK_)|(refine zR ?_;intro K_ hK_)|(refine hK_ _ _ ?_;try clear hK_ K_)|refine sq_n ?_|refine sq_r ?_|refine sq_e ?_|refine bq_n ?_|refine bq_r ?_|refine bq_q ?_|refine zB ?_|refine zX ?_|refine zT ?_|refine zK ?_|refine gq_n ?_|refine gq_r ?_|refine gq_e ?_|refine lq_n ?_|refine lq_r ?_|refine lq_e ?_|refine bq_e (by decide) ?_)|((with_reducible refine zC (b:=?b_) ?hb_ ?_ ?_);case hb_=>rfl)|((conv=>whnf);first|(with_reducible refine hK_ _ _ ?_;try clear hK_ K_)|(with_reducible refine fun (g_:Sl) (o_:Ow)=>?_)|(with_reducible first|exact True.intro|refine And.intro trivial ?_|refine And.intro ?_ ?_)|exact Nat.le_of_ble_eq_true rfl|exact Or.inl rfl|(intro h_;cases h_)|(intro h_;(try simp only [vS1] at h_))|rfl))) <;> (try (conv=>whnf)) <;> (try first|change (_:Int)≤_|change (_:Nat)≤_) <;> (try ((fail_if_success (with_reducible apply Exists.intro));(try dsimp only);(try simp only [vS1]))) <;> (try simp (disch:=omega) only [vS3,Int.add_sub_cancel,tn1,tnp,tnc,vS2] at *)
 all_goals (try (fail_if_success (with_reducible apply Exists.intro));first|with_reducible assumption|omega|exact mdl (by omega)|exact ilo1 (by omega)|exact ilo2 (by omega)|exact ihi1 (by omega) (by omega)|exact ihi2 (by omega) (by omega))
 ·unfold plansM;rw [‹roomOk xs=false›];rfl
 ·exact eq_false_of fun hc=>by have:=(plansM_iff.1 hc).2.1;omega
 refine awp'_loopG (α:=Nat) (fun i ver_=>[(19,vInt i)]) (fun i ver_=>[]) (fun i ver_=>[]) (fun i=>i≤cuts.length∧∀ j,j < i→plansAt xs cuts j=true) (fun i=>cuts.length - i) [1,2,17,18] [] (0) ?_
 conv=>whnf
 refine ⟨⟨?inv2_,?vals2_,?own2_,?fix2_⟩,?body2_⟩
 case' vals2_=>(repeat' (first|(with_reducible first|exact True.intro|refine And.intro ?_ ?_|refine Head.mk ?_ ?_ ?_ ?_)|((conv=>lhs;whnf);first|(with_reducible first|rfl|exact vInt_s (by omega))|exact rfl)|((conv=>whnf);first|(with_reducible first|exact True.intro|refine And.intro ?_ ?_)))) <;> (try (conv=>lhs;whnf))
 case' own2_=>(repeat' (first|(with_reducible first|exact True.intro|refine And.intro ?_ ?_|refine Head.mk ?_ ?_ ?_ ?_)|((conv=>lhs;whnf);first|(with_reducible first|rfl|exact vInt_s (by omega))|exact rfl)|((conv=>whnf);first|(with_reducible first|exact True.intro|refine And.intro ?_ ?_)))) <;> (try (conv=>lhs;whnf))
 case' fix2_=>(repeat' (first|(with_reducible first|exact True.intro|refine And.intro ?_ ?_|refine Head.mk ?_ ?_ ?_ ?_)|((conv=>lhs;whnf);first|(with_reducible first|rfl|exact vInt_s (by omega))|exact rfl)|((conv=>whnf);first|(with_reducible first|exact True.intro|refine And.intro ?_ ?_)))) <;> (try (conv=>lhs;whnf))
 ·exact ⟨Nat.zero_le _,fun j hj=>absurd hj (by omega)⟩
 rintro i g_ o_ v_ ⟨hk,hall⟩
 (repeat' (first|(with_reducible first|exact True.intro|refine zQ ?_|(refine zG hG_ ?_;intro K_ hK_)|(refine zR ?_;intro K_ hK_)|(refine hK_ _ _ ?_;try clear hK_ K_)|refine sq_n ?_|refine sq_r ?_|refine sq_e ?_|refine bq_n ?_|refine bq_r ?_|refine bq_q ?_|refine zB ?_|refine zX ?_|refine zT ?_|refine zK ?_|refine gq_n ?_|refine gq_r ?_|refine gq_e ?_|refine lq_n ?_|refine lq_r ?_|refine lq_e ?_|refine bq_e (by decide) ?_)|((with_reducible refine zC (b:=?b_) ?hb_ ?_ ?_);case hb_=>rfl)|((conv=>whnf);first|(with_reducible refine hK_ _ _ ?_;try clear hK_ K_)|(with_reducible refine fun (g_:Sl) (o_:Ow)=>?_)|(with_reducible first|exact True.intro|refine And.intro trivial ?_|refine And.intro ?_ ?_)|exact Nat.le_of_ble_eq_true rfl|exact Or.inl rfl|(intro h_;cases h_)|(intro h_;(try simp only [vS1] at h_))|rfl))) <;> (try (conv=>whnf)) <;> (try first|change (_:Int)≤_|change (_:Nat)≤_) <;> (try ((fail_if_success (with_reducible apply Exists.intro));(try dsimp only);(try simp only [vS1]))) <;> (try simp (disch:=omega) only [vS3,Int.add_sub_cancel,tn1,tnp,tnc,vS2] at *)
 all_goals (try (fail_if_success (with_reducible apply Exists.intro));first|with_reducible assumption|omega|exact mdl (by omega)|exact ilo1 (by omega)|exact ilo2 (by omega)|exact ihi1 (by omega) (by omega)|exact ihi2 (by omega) (by omega))
 rotate_left 1
 all_goals first
  | exact plans_no1 ‹i < cuts.length› ‹¬((rI cuts i).length:Int)=2›
  | exact plans_no2 ‹i < cuts.length› ‹gI (rI cuts i) 0 ≥ gI (rI cuts i) 1›
  | exact plans_no3 ‹i < cuts.length› ‹isDiagM xs (gI (rI cuts i) 0) (gI (rI cuts i) 1)=false›
  | exact plans_no3d ‹i < cuts.length› ‹diagM xs (gI (rI cuts i) 0) (gI (rI cuts i) 1)=false›
  | exact (rows_len h3 _)
  | exact rows_len (fun c hc=>h3 c (List.mem_of_mem_take hc)) _
  | omega
  | exact eq_true_of (plansM_iff.2 ⟨‹roomOk xs=true›,by omega,fun j hj=>hall j (by omega)⟩)
  | skip
 refine awp'_loopG (α:=Nat) (fun k ver_=>[(51,vInt k)]) (fun k ver_=>[]) (fun k ver_=>[]) (fun k=>k≤i∧∀ j,j < k→rI cuts i≠rI cuts j∧crossM xs (rI cuts i) (rI cuts j)=false) (fun k=>i - k) [1,2,6,17,18,19,49,50] [] (0) ?_
 conv=>whnf
 refine ⟨⟨?inv3_,?vals3_,?own3_,?fix3_⟩,?body3_⟩
 case' vals3_=>(repeat' (first|(with_reducible first|exact True.intro|refine And.intro ?_ ?_|refine Head.mk ?_ ?_ ?_ ?_)|((conv=>lhs;whnf);first|(with_reducible first|rfl|exact vInt_s (by omega))|exact rfl)|((conv=>whnf);first|(with_reducible first|exact True.intro|refine And.intro ?_ ?_)))) <;> (try (conv=>lhs;whnf))
 case' own3_=>(repeat' (first|(with_reducible first|exact True.intro|refine And.intro ?_ ?_|refine Head.mk ?_ ?_ ?_ ?_)|((conv=>lhs;whnf);first|(with_reducible first|rfl|exact vInt_s (by omega))|exact rfl)|((conv=>whnf);first|(with_reducible first|exact True.intro|refine And.intro ?_ ?_)))) <;> (try (conv=>lhs;whnf))
 case' fix3_=>(repeat' (first|(with_reducible first|exact True.intro|refine And.intro ?_ ?_|refine Head.mk ?_ ?_ ?_ ?_)|((conv=>lhs;whnf);first|(with_reducible first|rfl|exact vInt_s (by omega))|exact rfl)|((conv=>whnf);first|(with_reducible first|exact True.intro|refine And.intro ?_ ?_)))) <;> (try (conv=>lhs;whnf))
 ·exact ⟨Nat.zero_le _,fun j hj=>absurd hj (by omega)⟩
 rintro k g_ o_ v_ ⟨hki,hin⟩
 (repeat' (first|(with_reducible first|exact True.intro|refine zQ ?_|(refine zG hG_ ?_;intro K_ hK_)|(refine zR ?_;intro K_ hK_)|(refine hK_ _ _ ?_;try clear hK_ K_)|refine sq_n ?_|refine sq_r ?_|refine sq_e ?_|refine bq_n ?_|refine bq_r ?_|refine bq_q ?_|refine zB ?_|refine zX ?_|refine zT ?_|refine zK ?_|refine gq_n ?_|refine gq_r ?_|refine gq_e ?_|refine lq_n ?_|refine lq_r ?_|refine lq_e ?_|refine bq_e (by decide) ?_)|((with_reducible refine zC (b:=?b_) ?hb_ ?_ ?_);case hb_=>rfl)|((conv=>whnf);first|(with_reducible refine hK_ _ _ ?_;try clear hK_ K_)|(with_reducible refine fun (g_:Sl) (o_:Ow)=>?_)|(with_reducible first|exact True.intro|refine And.intro trivial ?_|refine And.intro ?_ ?_)|exact Nat.le_of_ble_eq_true rfl|exact Or.inl rfl|(intro h_;cases h_)|(intro h_;(try simp only [vS1] at h_))|rfl))) <;> (try (conv=>whnf)) <;> (try first|change (_:Int)≤_|change (_:Nat)≤_) <;> (try ((fail_if_success (with_reducible apply Exists.intro));(try dsimp only);(try simp only [vS1]))) <;> (try simp (disch:=omega) only [vS3,Int.add_sub_cancel,tn1,tnp,tnc,vS2] at *)
 all_goals (try (fail_if_success (with_reducible apply Exists.intro));first|with_reducible assumption|omega|exact mdl (by omega)|exact ilo1 (by omega)|exact ilo2 (by omega)|exact ihi1 (by omega) (by omega)|exact ihi2 (by omega) (by omega))
 all_goals first
  | exact plans_no1 ‹i < cuts.length› ‹¬((rI cuts i).length:Int)=2›
  | exact plans_no2 ‹i < cuts.length› ‹gI (rI cuts i) 0 ≥ gI (rI cuts i) 1›
  | exact plans_no3 ‹i < cuts.length› ‹isDiagM xs (gI (rI cuts i) 0) (gI (rI cuts i) 1)=false›
  | exact plans_no3d ‹i < cuts.length› ‹diagM xs (gI (rI cuts i) 0) (gI (rI cuts i) 1)=false›
  | exact (rows_len h3 _)
  | exact rows_len (fun c hc=>h3 c (List.mem_of_mem_take hc)) _
  | omega
  | exact plans_no4T (k:=k) ‹i < cuts.length› (by omega) (by assumption)
  | exact plans_no5T (k:=k) ‹i < cuts.length› (by omega) (by assumption)
  | exact ⟨by omega,rows_len h3 _,rows_len (fun c hc=>h3 c (List.mem_of_mem_take hc)) _⟩
  | exact ⟨rows_len h3 _,rows_len (fun c hc=>h3 c (List.mem_of_mem_take hc)) _⟩
  | exact ⟨k + 1,by omega,⟨by omega,lt_succ_all hin (plans_stepT (by omega) (by assumption) (by assumption))⟩,by (repeat' (first|(with_reducible first|exact True.intro|refine And.intro ?_ ?_|refine Head.mk ?_ ?_ ?_ ?_)|((conv=>lhs;whnf);first|(with_reducible first|rfl|exact vInt_s (by omega))|exact rfl)|((conv=>whnf);first|(with_reducible first|exact True.intro|refine And.intro ?_ ?_)))) <;> (try (conv=>lhs;whnf))⟩
  | exact ⟨i + 1,by omega,⟨by omega,lt_succ_all hall (plansAt_mk (by assumption) (by assumption) (isDiag_mk (by assumption) (by assumption)) fun j hj=>hin j (by omega))⟩,by (repeat' (first|(with_reducible first|exact True.intro|refine And.intro ?_ ?_|refine Head.mk ?_ ?_ ?_ ?_)|((conv=>lhs;whnf);first|(with_reducible first|rfl|exact vInt_s (by omega))|exact rfl)|((conv=>whnf);first|(with_reducible first|exact True.intro|refine And.intro ?_ ?_)))) <;> (try (conv=>lhs;whnf))⟩
  | skip
theorem sArePlans_ok:Good1 Tryz.prog n_spec_ArePlans plansC:=by
 refine good_ofG (tys:=tyL) (env:=[(n_spec_IsDiagonal,isDiagC),(n_spec_DoDiagonalsCross,dcrossC),(n_spec_RoomOk,roomOkC)]) (envw:=[]) (envd:=[]) [] [] [] [] [] mixed tys ⟨sIsDiagonal_ok,sDoDiagonalsCross_ok,sRoomOk_ok,trivial⟩ trivial trivial Tryz.func43 rfl (by kernel_rfl) (by decide) (by kernel_rfl) ?_
 have hG_:=kpz [(0,[1,2]),(1,[1,2,5]),(2,[1,2,5,10]),(3,[1,2,5]),(4,[1,2,5,50]),(5,[4]),(6,[1,2,5,6]),(7,[1,2,5,6,53]),(8,[1,2,5,6]),(9,[1,2,5,6,95]),(10,[4]),(11,[4])] [] [] []
 rintro ⟨(xs:List Pt),(cuts:List (List Int)),⟨⟩⟩ ⟨(h1:xs.length≤_),(h2:cuts.length≤_),(h3:∀ c∈cuts,c.length≤_)⟩
 (repeat' (first|(with_reducible first|exact True.intro|refine zQ ?_|(refine zG hG_ ?_;intro K_ hK_)|(refine zR ?_;intro K_ hK_)|(refine hK_ _ _ ?_;try clear hK_ K_)|refine sq_n ?_|refine sq_r ?_|refine sq_e ?_|refine bq_n ?_|refine bq_r ?_|refine bq_q ?_|refine zB ?_|refine zX ?_|refine zT ?_|refine zK ?_|refine gq_n ?_|refine gq_r ?_|refine gq_e ?_|refine lq_n ?_|refine lq_r ?_|refine lq_e ?_|refine bq_e (by decide) ?_)|((with_reducible refine zC (b:=?b_) ?hb_ ?_ ?_);case hb_=>rfl)|((conv=>whnf);first|(with_reducible refine hK_ _ _ ?_;try clear hK_ K_)|(with_reducible refine fun (g_:Sl) (o_:Ow)=>?_)|(with_reducible first|exact True.intro|refine And.intro trivial ?_|refine And.intro ?_ ?_)|exact Nat.le_of_ble_eq_true rfl|exact Or.inl rfl|(intro h_;cases h_)|(intro h_;(try simp only [vS1] at h_))|rfl))) <;> (try (conv=>whnf)) <;> (try first|change (_:Int)≤_|change (_:Nat)≤_) <;> (try ((fail_if_success (with_reducible apply Exists.intro));(try dsimp only);(try simp only [vS1]))) <;> (try simp (disch:=omega) only [vS3,Int.add_sub_cancel,tn1,tnp,tnc,vS2] at *)
 all_goals (try (fail_if_success (with_reducible apply Exists.intro));first|with_reducible assumption|omega|exact mdl (by omega)|exact ilo1 (by omega)|exact ilo2 (by omega)|exact ihi1 (by omega) (by omega)|exact ihi2 (by omega) (by omega))
 refine awp'_loopG (α:=Nat) (fun i ver_=>[(5,vInt i)]) (fun i ver_=>[]) (fun i ver_=>[]) (fun i=>i≤cuts.length∧∀ j,j < i→plansAt xs cuts j=true) (fun i=>cuts.length - i) [1,2] [] (0) ?_
 conv=>whnf
 refine ⟨⟨?inv4_,?vals4_,?own4_,?fix4_⟩,?body4_⟩
 case' vals4_=>(repeat' (first|(with_reducible first|exact True.intro|refine And.intro ?_ ?_|refine Head.mk ?_ ?_ ?_ ?_)|((conv=>lhs;whnf);first|(with_reducible first|rfl|exact vInt_s (by omega))|exact rfl)|((conv=>whnf);first|(with_reducible first|exact True.intro|refine And.intro ?_ ?_)))) <;> (try (conv=>lhs;whnf))
 case' own4_=>(repeat' (first|(with_reducible first|exact True.intro|refine And.intro ?_ ?_|refine Head.mk ?_ ?_ ?_ ?_)|((conv=>lhs;whnf);first|(with_reducible first|rfl|exact vInt_s (by omega))|exact rfl)|((conv=>whnf);first|(with_reducible first|exact True.intro|refine And.intro ?_ ?_)))) <;> (try (conv=>lhs;whnf))
 case' fix4_=>(repeat' (first|(with_reducible first|exact True.intro|refine And.intro ?_ ?_|refine Head.mk ?_ ?_ ?_ ?_)|((conv=>lhs;whnf);first|(with_reducible first|rfl|exact vInt_s (by omega))|exact rfl)|((conv=>whnf);first|(with_reducible first|exact True.intro|refine And.intro ?_ ?_)))) <;> (try (conv=>lhs;whnf))
 ·exact ⟨Nat.zero_le _,fun j hj=>absurd hj (by omega)⟩
 rintro i g_ o_ v_ ⟨hk,hall⟩
 (repeat' (first|(with_reducible first|exact True.intro|refine zQ ?_|(refine zG hG_ ?_;intro K_ hK_)|(refine zR ?_;intro K_ hK_)|(refine hK_ _ _ ?_;try clear hK_ K_)|refine sq_n ?_|refine sq_r ?_|refine sq_e ?_|refine bq_n ?_|refine bq_r ?_|refine bq_q ?_|refine zB ?_|refine zX ?_|refine zT ?_|refine zK ?_|refine gq_n ?_|refine gq_r ?_|refine gq_e ?_|refine lq_n ?_|refine lq_r ?_|refine lq_e ?_|refine bq_e (by decide) ?_)|((with_reducible refine zC (b:=?b_) ?hb_ ?_ ?_);case hb_=>rfl)|((conv=>whnf);first|(with_reducible refine hK_ _ _ ?_;try clear hK_ K_)|(with_reducible refine fun (g_:Sl) (o_:Ow)=>?_)|(with_reducible first|exact True.intro|refine And.intro trivial ?_|refine And.intro ?_ ?_)|exact Nat.le_of_ble_eq_true rfl|exact Or.inl rfl|(intro h_;cases h_)|(intro h_;(try simp only [vS1] at h_))|rfl))) <;> (try (conv=>whnf)) <;> (try first|change (_:Int)≤_|change (_:Nat)≤_) <;> (try ((fail_if_success (with_reducible apply Exists.intro));(try dsimp only);(try simp only [vS1]))) <;> (try simp (disch:=omega) only [vS3,Int.add_sub_cancel,tn1,tnp,tnc,vS2] at *)
 all_goals (try (fail_if_success (with_reducible apply Exists.intro));first|with_reducible assumption|omega|exact mdl (by omega)|exact ilo1 (by omega)|exact ilo2 (by omega)|exact ihi1 (by omega) (by omega)|exact ihi2 (by omega) (by omega))
 rotate_left 1
 all_goals first
  | exact plans_no1 ‹i < cuts.length› ‹¬((rI cuts i).length:Int)=2›
  | exact plans_no2 ‹i < cuts.length› ‹gI (rI cuts i) 0 ≥ gI (rI cuts i) 1›
  | exact plans_no3 ‹i < cuts.length› ‹isDiagM xs (gI (rI cuts i) 0) (gI (rI cuts i) 1)=false›
  | exact plans_no3d ‹i < cuts.length› ‹diagM xs (gI (rI cuts i) 0) (gI (rI cuts i) 1)=false›
  | exact (rows_len h3 _)
  | exact rows_len (fun c hc=>h3 c (List.mem_of_mem_take hc)) _
  | omega
  | exact plans_end ‹roomOk xs=true› fun j hj=>hall j (by omega)
  | (unfold plansM;rw [‹roomOk xs=false›];rfl)
  | skip
 refine awp'_loopG (α:=Nat) (fun k ver_=>[(6,vInt k)]) (fun k ver_=>[]) (fun k ver_=>[]) (fun k=>k≤i∧∀ j,j < k→rI cuts i≠rI cuts j∧crossM xs (rI cuts i) (rI cuts j)=false) (fun k=>i - k) [1,2,5] [] (0) ?_
 conv=>whnf
 refine ⟨⟨?inv5_,?vals5_,?own5_,?fix5_⟩,?body5_⟩
 case' vals5_=>(repeat' (first|(with_reducible first|exact True.intro|refine And.intro ?_ ?_|refine Head.mk ?_ ?_ ?_ ?_)|((conv=>lhs;whnf);first|(with_reducible first|rfl|exact vInt_s (by omega))|exact rfl)|((conv=>whnf);first|(with_reducible first|exact True.intro|refine And.intro ?_ ?_)))) <;> (try (conv=>lhs;whnf))
 case' own5_=>(repeat' (first|(with_reducible first|exact True.intro|refine And.intro ?_ ?_|refine Head.mk ?_ ?_ ?_ ?_)|((conv=>lhs;whnf);first|(with_reducible first|rfl|exact vInt_s (by omega))|exact rfl)|((conv=>whnf);first|(with_reducible first|exact True.intro|refine And.intro ?_ ?_)))) <;> (try (conv=>lhs;whnf))
 case' fix5_=>(repeat' (first|(with_reducible first|exact True.intro|refine And.intro ?_ ?_|refine Head.mk ?_ ?_ ?_ ?_)|((conv=>lhs;whnf);first|(with_reducible first|rfl|exact vInt_s (by omega))|exact rfl)|((conv=>whnf);first|(with_reducible first|exact True.intro|refine And.intro ?_ ?_)))) <;> (try (conv=>lhs;whnf))
 ·exact ⟨Nat.zero_le _,fun j hj=>absurd hj (by omega)⟩
 rintro k g_ o_ v_ ⟨hki,hin⟩
 have hlk:k < i→(cuts.getD k (ElK.s ElB.int).dflt).length=2:=fun h=>(plansAt_iff.1 (hall k h)).1
 have hli:((rI cuts i).length:Int)=2:=by assumption
 (repeat' (first|(with_reducible first|exact True.intro|refine zQ ?_|(refine zG hG_ ?_;intro K_ hK_)|(refine zR ?_;intro K_ hK_)|(refine hK_ _ _ ?_;try clear hK_ K_)|refine sq_n ?_|refine sq_r ?_|refine sq_e ?_|refine bq_n ?_|refine bq_r ?_|refine bq_q ?_|refine zB ?_|refine zX ?_|refine zT ?_|refine zK ?_|refine gq_n ?_|refine gq_r ?_|refine gq_e ?_|refine lq_n ?_|refine lq_r ?_|refine lq_e ?_|refine bq_e (by decide) ?_)|((with_reducible refine zC (b:=?b_) ?hb_ ?_ ?_);case hb_=>rfl)|((conv=>whnf);first|(with_reducible refine hK_ _ _ ?_;try clear hK_ K_)|(with_reducible refine fun (g_:Sl) (o_:Ow)=>?_)|(with_reducible first|exact True.intro|refine And.intro trivial ?_|refine And.intro ?_ ?_)|exact Nat.le_of_ble_eq_true rfl|exact Or.inl rfl|(intro h_;cases h_)|(intro h_;(try simp only [vS1] at h_))|rfl))) <;> (try (conv=>whnf)) <;> (try first|change (_:Int)≤_|change (_:Nat)≤_) <;> (try ((fail_if_success (with_reducible apply Exists.intro));(try dsimp only);(try simp only [vS1]))) <;> (try simp (disch:=omega) only [vS3,Int.add_sub_cancel,tn1,tnp,tnc,vS2] at *)
 all_goals (try (fail_if_success (with_reducible apply Exists.intro));first|with_reducible assumption|omega|exact mdl (by omega)|exact ilo1 (by omega)|exact ilo2 (by omega)|exact ihi1 (by omega) (by omega)|exact ihi2 (by omega) (by omega))
 all_goals first
  | exact plans_no1 ‹i < cuts.length› ‹¬((rI cuts i).length:Int)=2›
  | exact plans_no2 ‹i < cuts.length› ‹gI (rI cuts i) 0 ≥ gI (rI cuts i) 1›
  | exact plans_no3 ‹i < cuts.length› ‹isDiagM xs (gI (rI cuts i) 0) (gI (rI cuts i) 1)=false›
  | exact plans_no3d ‹i < cuts.length› ‹diagM xs (gI (rI cuts i) 0) (gI (rI cuts i) 1)=false›
  | exact (rows_len h3 _)
  | exact rows_len (fun c hc=>h3 c (List.mem_of_mem_take hc)) _
  | omega
  | exact plans_no4 ‹i < cuts.length› (by omega) ((len2_eq (by omega) (hlk (by omega))).2 ⟨by assumption,by assumption⟩)
  | exact plans_no5 ‹i < cuts.length› (by omega) (by assumption)
  | exact ⟨by omega,rows_len h3 _,rows_len h3 _⟩
  | exact ⟨k + 1,by omega,⟨by omega,lt_succ_all hin ⟨fun e=>absurd (congrArg (gI · 0) e) (by assumption),by assumption⟩⟩,by (repeat' (first|(with_reducible first|exact True.intro|refine And.intro ?_ ?_|refine Head.mk ?_ ?_ ?_ ?_)|((conv=>lhs;whnf);first|(with_reducible first|rfl|exact vInt_s (by omega))|exact rfl)|((conv=>whnf);first|(with_reducible first|exact True.intro|refine And.intro ?_ ?_)))) <;> (try (conv=>lhs;whnf))⟩
  | exact ⟨k + 1,by omega,⟨by omega,lt_succ_all hin ⟨fun e=>absurd (congrArg (gI · 1) e) (by assumption),by assumption⟩⟩,by (repeat' (first|(with_reducible first|exact True.intro|refine And.intro ?_ ?_|refine Head.mk ?_ ?_ ?_ ?_)|((conv=>lhs;whnf);first|(with_reducible first|rfl|exact vInt_s (by omega))|exact rfl)|((conv=>whnf);first|(with_reducible first|exact True.intro|refine And.intro ?_ ?_)))) <;> (try (conv=>lhs;whnf))⟩
  | exact ⟨i + 1,by omega,⟨by omega,lt_succ_all hall (plansAt_mk (by assumption) (by assumption) (by assumption) fun j hj=>hin j (by omega))⟩,by (repeat' (first|(with_reducible first|exact True.intro|refine And.intro ?_ ?_|refine Head.mk ?_ ?_ ?_ ?_)|((conv=>lhs;whnf);first|(with_reducible first|rfl|exact vInt_s (by omega))|exact rfl)|((conv=>whnf);first|(with_reducible first|exact True.intro|refine And.intro ?_ ?_)))) <;> (try (conv=>lhs;whnf))⟩
  | skip
def sumL (cs:List (List Int)):Nat:=(cs.map List.length).sum
theorem sumL_app (a b:List (List Int)):sumL (a ++ b)=sumL a + sumL b:=by simp [sumL]
theorem sumL_take_succ {cs:List (List Int)} {k:Nat} (h:k < cs.length):sumL (cs.take (k + 1))=sumL (cs.take k) + (cs.getD k []).length:=by
 have e:cs.take (k + 1)=cs.take k ++ [cs[k]]:=by simp
 rw [e,sumL_app,getD_lt _ h]
 simp [sumL]
theorem sumL_le:∀ {cs:List (List Int)} {c:List Int},c∈cs→c.length≤sumL cs
 | d :: cs,c,h=>by
  have e:sumL (d :: cs)=d.length + sumL cs:=by simp [sumL]
  rcases List.mem_cons.1 h with rfl|h
  ·omega
  ·have:=sumL_le h;omega
theorem sumL_take_le (cs:List (List Int)) (k:Nat):sumL (cs.take k)≤sumL cs:=by
 have:=sumL_app (cs.take k) (cs.drop k)
 rw [List.take_append_drop] at this
 omega
theorem szF_lt {n:Int} {m:Nat} (h:szF n m < 0) (hn:0≤n):n < m:=by unfold szF at h;split at h <;> omega
theorem szF_ge {n:Int} {m:Nat} (h:¬szF n m < 0):szF n m=n - m∧m≤n:=by unfold szF at *;split at h <;> first|omega|(rw [if_neg (by assumption)];omega)
theorem szF_no {n:Int} {m:Nat} (h:n < m):-1=szF n m:=by unfold szF;rw [if_pos h]
theorem szF_yes {n a:Int} {m:Nat} (h:m≤n) (e:a=n - m):a=szF n m:=by unfold szF;rw [if_neg (by omega),e]
def szIsC:Con:=mkCon [.sl (.b .int),.int] (fun x=>x.1.length≤9223372036854775807∧0≤x.2.1∧x.2.1≤1048576) fun x=>vI (szF x.2.1 x.1.length)
theorem szIntS_ok:Good1 Tryz.prog n_laws_szIntS szIsC:=by
 refine good_ofG (tys:=tyL) (env:=[]) (envw:=[]) (envd:=[]) [] [] [] [] [] mixed tys trivial trivial trivial Tryz.func42 rfl (by kernel_rfl) (by decide) (by kernel_rfl) ?_
 have hG_:=kpz [(0,[0,1]),(1,[1]),(2,[1,10]),(3,[4]),(4,[4])] [] [] []
 rintro ⟨(xs:List Int),(n:Int),⟨⟩⟩ ⟨(h1:xs.length≤_),(h2:0≤n),(h3:n≤_)⟩
 (repeat' (first|(with_reducible first|exact True.intro|refine zQ ?_|(refine zG hG_ ?_;intro K_ hK_)|(refine zR ?_;intro K_ hK_)|(refine hK_ _ _ ?_;try clear hK_ K_)|refine sq_n ?_|refine sq_r ?_|refine sq_e ?_|refine bq_n ?_|refine bq_r ?_|refine bq_q ?_|refine zB ?_|refine zX ?_|refine zT ?_|refine zK ?_|refine gq_n ?_|refine gq_r ?_|refine gq_e ?_|refine lq_n ?_|refine lq_r ?_|refine lq_e ?_|refine bq_e (by decide) ?_)|((with_reducible refine zC (b:=?b_) ?hb_ ?_ ?_);case hb_=>rfl)|((conv=>whnf);first|(with_reducible refine hK_ _ _ ?_;try clear hK_ K_)|(with_reducible refine fun (g_:Sl) (o_:Ow)=>?_)|(with_reducible first|exact True.intro|refine And.intro trivial ?_|refine And.intro ?_ ?_)|exact Nat.le_of_ble_eq_true rfl|exact Or.inl rfl|(intro h_;cases h_)|(intro h_;(try simp only [vS1] at h_))|rfl))) <;> (try (conv=>whnf)) <;> (try first|change (_:Int)≤_|change (_:Nat)≤_) <;> (try ((fail_if_success (with_reducible apply Exists.intro));(try dsimp only);(try simp only [vS1]))) <;> (try simp (disch:=omega) only [vS3,vS2] at *) <;> unfold szF <;> split <;> first|rfl|(exfalso;omega)
theorem rows_len9 {cuts:List (List Int)} (h:∀ c∈cuts,c.length≤9223372036854775807) (k:Nat):(rI cuts k).length≤9223372036854775807:=by
 rcases Nat.lt_or_ge k cuts.length with hk|hk
 ·exact h _ (by rw [show rI cuts k=cuts[k] from getD_lt _ hk];exact List.getElem_mem _)
 ·rw [show rI cuts k=[] by simp [rI,List.getD_eq_getElem?_getD,List.getElem?_eq_none hk]];exact Nat.zero_le _
def szIssC:Con:=mkCon [.sl (.s .int),.int] (fun x=>(x.1.length≤9223372036854775807∧∀ c∈(x.1:List (List Int)),List.length c≤9223372036854775807)∧0≤x.2.1∧x.2.1≤1048576) fun x=>vI (szF x.2.1 (x.1.length + sumL x.1))
theorem szIntSS_ok:Good1 Tryz.prog n_laws_szIntSS szIssC:=by
  refine good_ofG (tys:=tyL) (env:=[(n_laws_szIntS,szIsC)]) (envw:=[]) (envd:=[]) [] [] [] [] [] mixed tys ⟨szIntS_ok,trivial⟩ trivial trivial Tryz.func13 rfl (by kernel_rfl) (by decide) (by kernel_rfl) ?_
  have hG_:=kpz [(0,[0,1]),(1,[0,1]),(2,[0,1,11]),(3,[4]),(4,[0,1,5]),(5,[0,1,5,15]),(6,[0,1,5]),(7,[0,1,5]),(8,[0,1,5,25]),(9,[4]),(10,[4])] [] [] []
  rintro ⟨(cs:List (List Int)),(n:Int),⟨⟩⟩ ⟨⟨(h1:cs.length≤_),(h4:∀ c∈cs,c.length≤_)⟩,(h2:0≤n),(h3:n≤_)⟩
  (repeat' (first|(with_reducible first|exact True.intro|refine zQ ?_|(refine zG hG_ ?_;intro K_ hK_)|(refine zR ?_;intro K_ hK_)|(refine hK_ _ _ ?_;try clear hK_ K_)|refine sq_n ?_|refine sq_r ?_|refine sq_e ?_|refine bq_n ?_|refine bq_r ?_|refine bq_q ?_|refine zB ?_|refine zX ?_|refine zT ?_|refine zK ?_|refine gq_n ?_|refine gq_r ?_|refine gq_e ?_|refine lq_n ?_|refine lq_r ?_|refine lq_e ?_|refine bq_e (by decide) ?_)|((with_reducible refine zC (b:=?b_) ?hb_ ?_ ?_);case hb_=>rfl)|((conv=>whnf);first|(with_reducible refine hK_ _ _ ?_;try clear hK_ K_)|(with_reducible refine fun (g_:Sl) (o_:Ow)=>?_)|(with_reducible first|exact True.intro|refine And.intro trivial ?_|refine And.intro ?_ ?_)|exact Nat.le_of_ble_eq_true rfl|exact Or.inl rfl|(intro h_;cases h_)|(intro h_;(try simp only [vS1] at h_))|rfl))) <;> (try (conv=>whnf)) <;> (try first|change (_:Int)≤_|change (_:Nat)≤_) <;> (try ((fail_if_success (with_reducible apply Exists.intro));(try dsimp only);(try simp only [vS1]))) <;> (try simp (disch:=omega) only [vS3,Int.add_sub_cancel,tn1,tnp,tnc,vS2] at *)
  all_goals (try (fail_if_success (with_reducible apply Exists.intro));first|with_reducible assumption|omega|exact mdl (by omega)|exact ilo1 (by omega)|exact ilo2 (by omega)|exact ihi1 (by omega) (by omega)|exact ihi2 (by omega) (by omega))
  · unfold szF;rw [if_pos (by omega)]
  refine awp'_loopG (α:=Nat) (fun k ver_=>[(5,vInt k),(1,vInt (n - cs.length - sumL (cs.take k)))]) (fun k ver_=>[]) (fun k ver_=>[]) (fun k=>k≤cs.length∧(sumL (cs.take k):Int)≤n - cs.length) (fun k=>cs.length - k) [0] [] (0) ?_
  conv=>whnf
  refine ⟨⟨?inv1_,?vals1_,?own1_,?fix1_⟩,?body1_⟩
  case' vals1_=>(repeat' (first|(with_reducible first|exact True.intro|refine And.intro ?_ ?_|refine Head.mk ?_ ?_ ?_ ?_)|((conv=>lhs;whnf);first|(with_reducible first|rfl|exact vInt_s (by omega))|exact rfl)|((conv=>whnf);first|(with_reducible first|exact True.intro|refine And.intro ?_ ?_)))) <;> (try (conv=>lhs;whnf))
  case' own1_=>(repeat' (first|(with_reducible first|exact True.intro|refine And.intro ?_ ?_|refine Head.mk ?_ ?_ ?_ ?_)|((conv=>lhs;whnf);first|(with_reducible first|rfl|exact vInt_s (by omega))|exact rfl)|((conv=>whnf);first|(with_reducible first|exact True.intro|refine And.intro ?_ ?_)))) <;> (try (conv=>lhs;whnf))
  case' fix1_=>(repeat' (first|(with_reducible first|exact True.intro|refine And.intro ?_ ?_|refine Head.mk ?_ ?_ ?_ ?_)|((conv=>lhs;whnf);first|(with_reducible first|rfl|exact vInt_s (by omega))|exact rfl)|((conv=>whnf);first|(with_reducible first|exact True.intro|refine And.intro ?_ ?_)))) <;> (try (conv=>lhs;whnf))
  · exact congrArg vInt (by simp [sumL])
  · exact ⟨Nat.zero_le _,by simp [sumL];omega⟩
  rintro k g_ o_ v_ ⟨hk,hs⟩
  have h5:(cs.getD k (ElK.s ElB.int).dflt).length≤9223372036854775807:=rows_len9 h4 k
  have h6:=sumL_take_le cs k
  have h7:=sumL_take_le cs (k + 1)
  have h8:k < cs.length→sumL (cs.take (k + 1))=sumL (cs.take k) + (cs.getD k (ElK.s ElB.int).dflt).length:=sumL_take_succ
  (repeat' (first|(with_reducible first|exact True.intro|refine zQ ?_|(refine zG hG_ ?_;intro K_ hK_)|(refine zR ?_;intro K_ hK_)|(refine hK_ _ _ ?_;try clear hK_ K_)|refine sq_n ?_|refine sq_r ?_|refine sq_e ?_|refine bq_n ?_|refine bq_r ?_|refine bq_q ?_|refine zB ?_|refine zX ?_|refine zT ?_|refine zK ?_|refine gq_n ?_|refine gq_r ?_|refine gq_e ?_|refine lq_n ?_|refine lq_r ?_|refine lq_e ?_|refine bq_e (by decide) ?_)|((with_reducible refine zC (b:=?b_) ?hb_ ?_ ?_);case hb_=>rfl)|((conv=>whnf);first|(with_reducible refine hK_ _ _ ?_;try clear hK_ K_)|(with_reducible refine fun (g_:Sl) (o_:Ow)=>?_)|(with_reducible first|exact True.intro|refine And.intro trivial ?_|refine And.intro ?_ ?_)|exact Nat.le_of_ble_eq_true rfl|exact Or.inl rfl|(intro h_;cases h_)|(intro h_;(try simp only [vS1] at h_))|rfl))) <;> (try (conv=>whnf)) <;> (try first|change (_:Int)≤_|change (_:Nat)≤_) <;> (try ((fail_if_success (with_reducible apply Exists.intro));(try dsimp only);(try simp only [vS1]))) <;> (try simp (disch:=omega) only [vS3,Int.add_sub_cancel,tn1,tnp,tnc,vS2] at *)
  all_goals (try (fail_if_success (with_reducible apply Exists.intro));first|with_reducible assumption|omega|exact mdl (by omega)|exact ilo1 (by omega)|exact ilo2 (by omega)|exact ihi1 (by omega) (by omega)|exact ihi2 (by omega) (by omega))
  all_goals first
    | omega
    | exact h5
    | exact szF_no (by have h9:=szF_lt (n:=n - cs.length - sumL (cs.take k)) (m:=(cs.getD k (ElK.s ElB.int).dflt).length) (by assumption) (by omega);have:=h8 (by assumption);omega)
    | (have h9:=szF_ge (n:=n - cs.length - sumL (cs.take k)) (m:=(cs.getD k (ElK.s ElB.int).dflt).length) (by assumption)
       have h10:=h8 (by assumption)
       refine ⟨k + 1,by omega,⟨by omega,by omega⟩,?_⟩
       (repeat' (first|(with_reducible first|exact True.intro|refine And.intro ?_ ?_|refine Head.mk ?_ ?_ ?_ ?_)|((conv=>lhs;whnf);first|(with_reducible first|rfl|exact vInt_s (by omega))|exact rfl)|((conv=>whnf);first|(with_reducible first|exact True.intro|refine And.intro ?_ ?_)))) <;> (try (conv=>lhs;whnf))
       exact congrArg vInt (by omega))
    | exact szF_yes (by have e:cs.take k=cs:=List.take_of_length_le (by omega);rw [e] at hs;omega) (by have e:cs.take k=cs:=List.take_of_length_le (by omega);rw [e];omega)
    | skip
def eqIssLC:Con:=mkCon [.sl (.s .int),.sl (.s .int)] (fun x=>x.1.length≤1048576∧∀ c∈(x.1:List (List Int)),List.length c≤1048576) fun x=>vB (decide (x.1=x.2.1))
theorem eqIntSSL_ok:Good1 Tryz.prog (n_laws_eqIntSS) eqIssLC:=by
 refine good_ofG (tys:=tyL) (env:=[(n_laws_eqIntS,eqIsC)]) (envw:=[]) (envd:=[]) [] [] [] [] [] mixed tys ⟨eqIntS_ok,trivial⟩ trivial trivial Tryz.func17 rfl (by kernel_rfl) (by decide) (by kernel_rfl) ?_
 have hG_:=kpz [(0,[0,1]),(1,[0,1,10]),(2,[4]),(3,[0,1,5]),(4,[0,1,5,14]),(5,[0,1,5]),(6,[0,1,5,26]),(7,[4]),(8,[4])] [] [] []
 rintro ⟨(xs:List (List Int)),(ys:List (List Int)),⟨⟩⟩ ⟨(h1:xs.length≤_),(h2:∀ c∈xs,c.length≤_)⟩
 (repeat' (first|(with_reducible first|exact True.intro|refine zQ ?_|(refine zG hG_ ?_;intro K_ hK_)|(refine zR ?_;intro K_ hK_)|(refine hK_ _ _ ?_;try clear hK_ K_)|refine sq_n ?_|refine sq_r ?_|refine sq_e ?_|refine bq_n ?_|refine bq_r ?_|refine bq_q ?_|refine zB ?_|refine zX ?_|refine zT ?_|refine zK ?_|refine gq_n ?_|refine gq_r ?_|refine gq_e ?_|refine lq_n ?_|refine lq_r ?_|refine lq_e ?_|refine bq_e (by decide) ?_)|((with_reducible refine zC (b:=?b_) ?hb_ ?_ ?_);case hb_=>rfl)|((conv=>whnf);first|(with_reducible refine hK_ _ _ ?_;try clear hK_ K_)|(with_reducible refine fun (g_:Sl) (o_:Ow)=>?_)|(with_reducible first|exact True.intro|refine And.intro trivial ?_|refine And.intro ?_ ?_)|exact Nat.le_of_ble_eq_true rfl|exact Or.inl rfl|(intro h_;cases h_)|(intro h_;(try simp only [vS1] at h_))|rfl))) <;> (try (conv=>whnf)) <;> (try first|change (_:Int)≤_|change (_:Nat)≤_) <;> (try ((fail_if_success (with_reducible apply Exists.intro));(try dsimp only);(try simp only [vS1]))) <;> (try simp (disch:=omega) only [vS3,Int.add_sub_cancel,tn1,tnp,tnc,vS2] at *)
 all_goals (try (fail_if_success (with_reducible apply Exists.intro));first|with_reducible assumption|omega|exact mdl (by omega)|exact ilo1 (by omega)|exact ilo2 (by omega)|exact ihi1 (by omega) (by omega)|exact ihi2 (by omega) (by omega))
 ·exact eq_false_of fun hc=>by have:=of_decide_eq_true hc;subst this;simp_all
 refine awp'_loopG (α:=Nat) (fun k ver_=>[(5,vInt k)]) (fun k ver_=>[]) (fun k ver_=>[]) (fun k=>k≤xs.length∧∀ j,j < k→xs.getD j []=ys.getD j []) (fun k=>xs.length - k) [0,1] [] (0) ?_
 conv=>whnf
 refine ⟨⟨?inv1_,?vals1_,?own1_,?fix1_⟩,?body1_⟩
 case' vals1_=>(repeat' (first|(with_reducible first|exact True.intro|refine And.intro ?_ ?_|refine Head.mk ?_ ?_ ?_ ?_)|((conv=>lhs;whnf);first|(with_reducible first|rfl|exact vInt_s (by omega))|exact rfl)|((conv=>whnf);first|(with_reducible first|exact True.intro|refine And.intro ?_ ?_)))) <;> (try (conv=>lhs;whnf))
 case' own1_=>(repeat' (first|(with_reducible first|exact True.intro|refine And.intro ?_ ?_|refine Head.mk ?_ ?_ ?_ ?_)|((conv=>lhs;whnf);first|(with_reducible first|rfl|exact vInt_s (by omega))|exact rfl)|((conv=>whnf);first|(with_reducible first|exact True.intro|refine And.intro ?_ ?_)))) <;> (try (conv=>lhs;whnf))
 case' fix1_=>(repeat' (first|(with_reducible first|exact True.intro|refine And.intro ?_ ?_|refine Head.mk ?_ ?_ ?_ ?_)|((conv=>lhs;whnf);first|(with_reducible first|rfl|exact vInt_s (by omega))|exact rfl)|((conv=>whnf);first|(with_reducible first|exact True.intro|refine And.intro ?_ ?_)))) <;> (try (conv=>lhs;whnf))
 ·exact ⟨Nat.zero_le _,fun j hj=>absurd hj (by omega)⟩
 rintro k g_ o_ v_ ⟨hk,hall⟩
 (repeat' (first|(with_reducible first|exact True.intro|refine zQ ?_|(refine zG hG_ ?_;intro K_ hK_)|(refine zR ?_;intro K_ hK_)|(refine hK_ _ _ ?_;try clear hK_ K_)|refine sq_n ?_|refine sq_r ?_|refine sq_e ?_|refine bq_n ?_|refine bq_r ?_|refine bq_q ?_|refine zB ?_|refine zX ?_|refine zT ?_|refine zK ?_|refine gq_n ?_|refine gq_r ?_|refine gq_e ?_|refine lq_n ?_|refine lq_r ?_|refine lq_e ?_|refine bq_e (by decide) ?_)|((with_reducible refine zC (b:=?b_) ?hb_ ?_ ?_);case hb_=>rfl)|((conv=>whnf);first|(with_reducible refine hK_ _ _ ?_;try clear hK_ K_)|(with_reducible refine fun (g_:Sl) (o_:Ow)=>?_)|(with_reducible first|exact True.intro|refine And.intro trivial ?_|refine And.intro ?_ ?_)|exact Nat.le_of_ble_eq_true rfl|exact Or.inl rfl|(intro h_;cases h_)|(intro h_;(try simp only [vS1] at h_))|rfl))) <;> (try (conv=>whnf)) <;> (try first|change (_:Int)≤_|change (_:Nat)≤_) <;> (try ((fail_if_success (with_reducible apply Exists.intro));(try dsimp only);(try simp only [vS1]))) <;> (try simp (disch:=omega) only [vS3,Int.add_sub_cancel,tn1,tnp,tnc,vS2] at *)
 all_goals (try (fail_if_success (with_reducible apply Exists.intro));first|with_reducible assumption|omega|exact mdl (by omega)|exact ilo1 (by omega)|exact ilo2 (by omega)|exact ihi1 (by omega) (by omega)|exact ihi2 (by omega) (by omega))
 all_goals first
  | omega
  | exact rows_len h2 _
  | exact eq_false_of fun hc=>by have:=of_decide_eq_true hc;subst this;simp_all
  | exact ⟨k + 1,by omega,⟨by omega,lt_succ_all hall (by assumption)⟩,by (repeat' (first|(with_reducible first|exact True.intro|refine And.intro ?_ ?_|refine Head.mk ?_ ?_ ?_ ?_)|((conv=>lhs;whnf);first|(with_reducible first|rfl|exact vInt_s (by omega))|exact rfl)|((conv=>whnf);first|(with_reducible first|exact True.intro|refine And.intro ?_ ?_)))) <;> (try (conv=>lhs;whnf))⟩
  | exact eq_true_of (decide_eq_true (ext_getD [] (by omega) fun p hp=>hall p (by omega)))
  | skip
def gS:Nat→Nat→Bool
 | 0=>noG
 | k + 1=>upd (upd (gS k) k false) srt true
theorem gS_lt:∀ {k j:Nat},j < srt→gS k j=false
 | 0,_,_=>rfl
 | k + 1,j,h=>by
  show upd (upd (gS k) k false) srt true j=false
  refine srtG_lt h ?_
  rw [upd_get]
  split
  ·rfl
  ·exact gS_lt h
def toIssDC:Con:=mkConD [.sl (.s .int)] (fun x=>x.1.length≤1048576∧∀ c∈(x.1:List (List Int)),List.length c≤1048576) (fun x=>⟨.one (.own 0 0),some ⟨t_sl_int,none,.s .int,x.1⟩⟩) t_int
theorem toIntSSD_ok:Good1 Tryz.prog (n_laws_toIntSS) toIssDC:=by
 refine good_ofD (tys:=tyL) (env:=[(n_laws_toIntS,toIsC)]) (envw:=[]) (envd:=[]) [7,20,21] [20] [] [] [7,21] mixed tys ⟨toIntS_ok,trivial⟩ trivial trivial Tryz.func16 rfl (by kernel_rfl) (by decide) (by kernel_rfl) ?_
 have hG_:=kpz [(0,[0]),(1,[0,3]),(2,[0,3,4]),(3,[0,3,4,11]),(4,[0,3,4]),(5,[0,3,4]),(6,[2])] [(1,[7]),(2,[7]),(3,[7]),(4,[7,20,21]),(5,[7,20,21]),(6,[7])] [] []
 rintro ⟨(xs:List (List Int)),⟨⟩⟩ ⟨(h1:xs.length≤_),(h2:∀ c∈xs,c.length≤_)⟩
 (repeat' (first|(with_reducible first|exact True.intro|refine zQ ?_|(refine zG hG_ ?_;intro K_ hK_)|(refine zR ?_;intro K_ hK_)|(refine hK_ _ _ ?_;try clear hK_ K_)|refine sq_n ?_|refine sq_r ?_|refine sq_e ?_|refine bq_n ?_|refine bq_r ?_|refine bq_q ?_|refine zB ?_|refine zX ?_|refine zT ?_|refine zK ?_|refine gq_n ?_|refine gq_r ?_|refine gq_e ?_|refine lq_n ?_|refine lq_r ?_|refine lq_e ?_|refine bq_e (by decide) ?_)|((with_reducible refine zC (b:=?b_) ?hb_ ?_ ?_);case hb_=>rfl)|((conv=>whnf);first|(with_reducible refine hK_ _ _ ?_;try clear hK_ K_)|(with_reducible refine fun (g_:Sl) (o_:Ow)=>?_)|(with_reducible first|exact True.intro|refine And.intro trivial ?_|refine And.intro ?_ ?_)|exact Nat.le_of_ble_eq_true rfl|exact Or.inl rfl|(intro h_;cases h_)|(intro h_;(try simp only [vS1] at h_))|rfl))) <;> (try (conv=>whnf)) <;> (try first|change (_:Int)≤_|change (_:Nat)≤_) <;> (try ((fail_if_success (with_reducible apply Exists.intro));(try dsimp only);(try simp only [vS1])))
 all_goals (try (fail_if_success (with_reducible apply Exists.intro));first|with_reducible assumption|omega|exact mdl (by omega)|exact ilo1 (by omega)|exact ilo2 (by omega)|exact ihi1 (by omega) (by omega)|exact ihi2 (by omega) (by omega))
 refine awp'_loopG (α:=Nat) (fun k ver_=>[(4,vInt k)]) (fun k ver_=>[(3,7,false,.deep t_sl_int t_int .int (xs.take k ++ List.replicate (xs.length - k) []) (gS k))]) (fun k ver_=>[]) (fun k=>k≤xs.length) (fun k=>xs.length - k) [0] [] (0) ?_
 conv=>whnf
 refine ⟨⟨?inv2_,?vals2_,?own2_,?fix2_⟩,?body2_⟩
 case' vals2_=>(repeat' (first|(with_reducible first|exact True.intro|refine And.intro ?_ ?_|refine Head.mk ?_ ?_ ?_ ?_)|((conv=>lhs;whnf);first|(with_reducible first|rfl|exact vInt_s (by omega))|exact rfl)|((conv=>whnf);first|(with_reducible first|exact True.intro|refine And.intro ?_ ?_)))) <;> (try (conv=>lhs;whnf))
 case' own2_=>(repeat' (first|(with_reducible first|exact True.intro|refine And.intro ?_ ?_|refine Head.mk ?_ ?_ ?_ ?_)|((conv=>lhs;whnf);first|(with_reducible first|rfl|exact vInt_s (by omega))|exact rfl)|((conv=>whnf);first|(with_reducible first|exact True.intro|refine And.intro ?_ ?_)))) <;> (try (conv=>lhs;whnf))
 case' fix2_=>(repeat' (first|(with_reducible first|exact True.intro|refine And.intro ?_ ?_|refine Head.mk ?_ ?_ ?_ ?_)|((conv=>lhs;whnf);first|(with_reducible first|rfl|exact vInt_s (by omega))|exact rfl)|((conv=>whnf);first|(with_reducible first|exact True.intro|refine And.intro ?_ ?_)))) <;> (try (conv=>lhs;whnf))
 ·exact Nat.zero_le _
 rintro k g_ o_ v_ hk
 (repeat' (first|(with_reducible first|exact True.intro|refine zQ ?_|(refine zG hG_ ?_;intro K_ hK_)|(refine zR ?_;intro K_ hK_)|(refine hK_ _ _ ?_;try clear hK_ K_)|refine sq_n ?_|refine sq_r ?_|refine sq_e ?_|refine bq_n ?_|refine bq_r ?_|refine bq_q ?_|refine zB ?_|refine zX ?_|refine zT ?_|refine zK ?_|refine gq_n ?_|refine gq_r ?_|refine gq_e ?_|refine lq_n ?_|refine lq_r ?_|refine lq_e ?_|refine bq_e (by decide) ?_)|((with_reducible refine zC (b:=?b_) ?hb_ ?_ ?_);case hb_=>rfl)|((conv=>whnf);first|(with_reducible refine hK_ _ _ ?_;try clear hK_ K_)|(with_reducible refine fun (g_:Sl) (o_:Ow)=>?_)|(with_reducible first|exact True.intro|refine And.intro trivial ?_|refine And.intro ?_ ?_)|exact Nat.le_of_ble_eq_true rfl|exact Or.inl rfl|(intro h_;cases h_)|(intro h_;(try simp only [vS1] at h_))|rfl))) <;> (try (conv=>whnf)) <;> (try first|change (_:Int)≤_|change (_:Nat)≤_) <;> (try ((fail_if_success (with_reducible apply Exists.intro));(try dsimp only);(try simp only [vS1]))) <;> (try simp (disch:=omega) only [vS3,vS2] at *)
 all_goals (try (fail_if_success (with_reducible apply Exists.intro));first|with_reducible assumption|omega|exact mdl (by omega)|exact ilo1 (by omega)|exact ilo2 (by omega)|exact ihi1 (by omega) (by omega)|exact ihi2 (by omega) (by omega))
 ·exact rows_len h2 _
 ·refine ⟨k + 1,by omega,by omega,?_⟩
  (repeat' (first|(with_reducible first|exact True.intro|refine And.intro ?_ ?_|refine Head.mk ?_ ?_ ?_ ?_)|((conv=>lhs;whnf);first|(with_reducible first|rfl|exact vInt_s (by omega))|exact rfl)|((conv=>whnf);first|(with_reducible first|exact True.intro|refine And.intro ?_ ?_)))) <;> (try (conv=>lhs;whnf))
  exact congrArg (fun l=>Own.deep t_sl_int t_int .int l (gS (k + 1))) (fill_set xs _ _ h_)
 ·exact gS_lt (by unfold srt;omega)
 ·exact gS_lt (by unfold srt;omega)
 ·exact congrArg some (fill_end xs _ (by omega))
theorem totI_app (xs ys:List (List Int)):totI (xs ++ ys)=totI xs + totI ys:=by
 induction xs with
 | nil=>simp [totI]
 | cons x r ih=>simp only [List.cons_append,totI,ih];omega
theorem totI_take_le (xs:List (List Int)) (k:Nat):totI (xs.take k)≤totI xs:=by
 have:=totI_app (xs.take k) (xs.drop k)
 rw [List.take_append_drop] at this
 omega
theorem totI_getD {xs:List (List Int)} {k:Nat} (h:k < xs.length):(xs.getD k []).length≤totI xs:=by
 have h1:=totI_take h
 have h2:=totI_take_le xs (k + 1)
 omega
theorem totI_sum:∀ xs:List (List Int),totI xs=sumL xs
 | []=>rfl
 | x :: r=>by
  have:=totI_sum r
  simp only [totI,this,sumL,List.map_cons,List.sum_cons]
def markSSLC:ConD:=mkConDW [.sl (.s .int),.int] 0 t_sl_int t_int (fun x=>(x.1.length≤1048576∧totI x.1≤1048576)∧0≤x.2.1∧x.2.1≤8388608) (fun x=>vInt (x.2.1 + totI x.1)) fun x=>marksSS x.2.1 x.1
theorem markIntSSL_ok:GoodD Tryz.prog (n_laws_markIntSS) markSSLC:=by
 refine good_ofDW (tys:=tyL) (env:=[]) (envw:=[(n_laws_markIntS,markIsC)]) (envd:=[]) [17] [] [] [] [17] mixed tys trivial ⟨markIntS_ok,trivial⟩ trivial Tryz.func20 rfl (by kernel_rfl) (by decide) (by kernel_rfl) ?_
 have hG_:=kpz [(0,[0,1]),(1,[0,1,5]),(2,[0,1,5,9]),(3,[0,1,5]),(4,[0,1,5]),(5,[4])] [(0,[1000]),(1,[1000]),(2,[1000]),(3,[17,1000]),(4,[17,1000]),(5,[1000])] [] []
 rintro ⟨(xs:List (List Int)),(n:Int),⟨⟩⟩ ⟨⟨(h1:xs.length≤_),(h2:totI xs≤_)⟩,(h3:0≤n),(h4:n≤_)⟩
 (repeat' (first|(with_reducible first|exact True.intro|refine zQ ?_|(refine zG hG_ ?_;intro K_ hK_)|(refine zR ?_;intro K_ hK_)|(refine hK_ _ _ ?_;try clear hK_ K_)|refine sq_n ?_|refine sq_r ?_|refine sq_e ?_|refine bq_n ?_|refine bq_r ?_|refine bq_q ?_|refine zB ?_|refine zX ?_|refine zT ?_|refine zK ?_|refine gq_n ?_|refine gq_r ?_|refine gq_e ?_|refine lq_n ?_|refine lq_r ?_|refine lq_e ?_|refine bq_e (by decide) ?_)|((with_reducible refine zC (b:=?b_) ?hb_ ?_ ?_);case hb_=>rfl)|((conv=>whnf);first|(with_reducible refine hK_ _ _ ?_;try clear hK_ K_)|(with_reducible refine fun (g_:Sl) (o_:Ow)=>?_)|(with_reducible first|exact True.intro|refine And.intro trivial ?_|refine And.intro ?_ ?_)|exact Nat.le_of_ble_eq_true rfl|exact Or.inl rfl|(intro h_;cases h_)|(intro h_;(try simp only [vS1] at h_))|rfl))) <;> (try (conv=>whnf)) <;> (try first|change (_:Int)≤_|change (_:Nat)≤_) <;> (try ((fail_if_success (with_reducible apply Exists.intro));(try dsimp only);(try simp only [vS1]))) <;> (try simp (disch:=omega) only [vS3,vS2] at *)
 refine awp'_loopG (α:=Nat) (fun k ver_=>[(5,vInt k),(1,vInt (n + totI (xs.take k)))]) (fun k ver_=>[]) (fun k ver_=>[(1000,⟨0,.deep t_sl_int t_int .int (mixSS n xs k) noG⟩)]) (fun k=>k≤xs.length) (fun k=>xs.length - k) [0] [] (0) ?_
 conv=>whnf
 refine ⟨⟨?inv3_,?vals3_,?own3_,?fix3_⟩,?body3_⟩
 case' vals3_=>(repeat' (first|(with_reducible first|exact True.intro|refine And.intro ?_ ?_|refine Head.mk ?_ ?_ ?_ ?_)|((conv=>lhs;whnf);first|(with_reducible first|rfl|exact vInt_s (by omega))|exact rfl)|((conv=>whnf);first|(with_reducible first|exact True.intro|refine And.intro ?_ ?_)))) <;> (try (conv=>lhs;whnf))
 case' own3_=>(repeat' (first|(with_reducible first|exact True.intro|refine And.intro ?_ ?_|refine Head.mk ?_ ?_ ?_ ?_)|((conv=>lhs;whnf);first|(with_reducible first|rfl|exact vInt_s (by omega))|exact rfl)|((conv=>whnf);first|(with_reducible first|exact True.intro|refine And.intro ?_ ?_)))) <;> (try (conv=>lhs;whnf))
 case' fix3_=>(repeat' (first|(with_reducible first|exact True.intro|refine And.intro ?_ ?_|refine Head.mk ?_ ?_ ?_ ?_)|((conv=>lhs;whnf);first|(with_reducible first|rfl|exact vInt_s (by omega))|exact rfl)|((conv=>whnf);first|(with_reducible first|exact True.intro|refine And.intro ?_ ?_)))) <;> (try (conv=>lhs;whnf))
 ·exact congrArg vInt (by simp [totI])
 ·exact Nat.zero_le _
 rintro k g_ o_ v_ hk
 have hml:=mixSS_len n xs hk
 have hle:∀ h:k < xs.length,(xs.getD k []).length≤1048576:=fun h=>Nat.le_trans (totI_getD h) h2
 have hto:totI (xs.take k)≤1048576:=Nat.le_trans (totI_take_le xs k) h2
 (repeat' (first|(with_reducible first|exact True.intro|refine zQ ?_|(refine zG hG_ ?_;intro K_ hK_)|(refine zR ?_;intro K_ hK_)|(refine hK_ _ _ ?_;try clear hK_ K_)|refine sq_n ?_|refine sq_r ?_|refine sq_e ?_|refine bq_n ?_|refine bq_r ?_|refine bq_q ?_|refine zB ?_|refine zX ?_|refine zT ?_|refine zK ?_|refine gq_n ?_|refine gq_r ?_|refine gq_e ?_|refine lq_n ?_|refine lq_r ?_|refine lq_e ?_|refine bq_e (by decide) ?_)|((with_reducible refine zC (b:=?b_) ?hb_ ?_ ?_);case hb_=>rfl)|((conv=>whnf);first|(with_reducible refine hK_ _ _ ?_;try clear hK_ K_)|(with_reducible refine fun (g_:Sl) (o_:Ow)=>?_)|(with_reducible first|exact True.intro|refine And.intro trivial ?_|refine And.intro ?_ ?_)|exact Nat.le_of_ble_eq_true rfl|exact Or.inl rfl|(intro h_;cases h_)|(intro h_;(try simp only [vS1] at h_))|rfl))) <;> (try (conv=>whnf)) <;> (try first|change (_:Int)≤_|change (_:Nat)≤_) <;> (try ((fail_if_success (with_reducible apply Exists.intro));(try dsimp only);(try simp only [vS1]))) <;> (try simp (disch:=omega) only [vS3,vS2] at *)
 all_goals (try (fail_if_success (with_reducible apply Exists.intro));first|with_reducible assumption|omega|exact mdl (by omega)|exact ilo1 (by omega)|exact ilo2 (by omega)|exact ihi1 (by omega) (by omega)|exact ihi2 (by omega) (by omega))
 ·rw [mixSS_get (by omega)];exact hle (by omega)
 ·have hk':k < xs.length:=by omega
  refine ⟨k + 1,by omega,by omega,?_⟩
  (repeat' (first|(with_reducible first|exact True.intro|refine And.intro ?_ ?_|refine Head.mk ?_ ?_ ?_ ?_)|((conv=>lhs;whnf);first|(with_reducible first|rfl|exact vInt_s (by omega))|exact rfl)|((conv=>whnf);first|(with_reducible first|exact True.intro|refine And.intro ?_ ?_)))) <;> (try (conv=>lhs;whnf))
  ·exact congrArg vInt (by rw [mixSS_get hk',totI_take hk'];omega)
  ·refine congrArg (fun l=>(⟨0,.deep t_sl_int t_int .int l noG⟩:Loc)) ?_
   show (mixSS n xs k).set k (marksI (n + totI (xs.take k)) ((mixSS n xs k).getD k []).length)=_
   rw [mixSS_get hk',mixSS_set hk']
 ·unfold mixSS
  rw [List.take_of_length_le (by rw [marksSS_len];omega),List.drop_eq_nil_of_le (by omega),List.append_nil]
 ·rw [List.take_of_length_le (by omega)]
end Go.Proofs.YtpafacebfogkmaaGreat
namespace Go.Proofs.YtpafacebfogkmaaGreat.Geo
theorem pp {a b:Int} (h1:0 < a) (h2:0 < b):0 < a * b:=Int.mul_pos h1 h2
theorem nn0 {a b:Int} (h1:0≤a) (h2:0≤b):0≤a * b:=Int.mul_nonneg h1 h2
theorem mm0 {a b:Int} (h1:a≤0) (h2:b≤0):0≤a * b:=by have:=Int.mul_nonneg (show 0≤-a by omega) (show 0≤-b by omega);rwa [Int.neg_mul_neg] at this
theorem pm0 {a b:Int} (h1:0≤a) (h2:b≤0):a * b≤0:=by have:=Int.mul_nonneg h1 (show 0≤-b by omega);rw [Int.mul_neg] at this;omega
theorem mp0 {a b:Int} (h1:a≤0) (h2:0≤b):a * b≤0:=by have:=Int.mul_nonneg (show 0≤-a by omega) h2;rw [Int.neg_mul] at this;omega
theorem mm {a b:Int} (h1:a < 0) (h2:b < 0):0 < a * b:=by have:=Int.mul_pos (show 0 < -a by omega) (show 0 < -b by omega);rwa [Int.neg_mul_neg] at this
theorem pm {a b:Int} (h1:0 < a) (h2:b < 0):a * b < 0:=by have:=Int.mul_pos h1 (show 0 < -b by omega);rw [Int.mul_neg] at this;omega
theorem mp {a b:Int} (h1:a < 0) (h2:0 < b):a * b < 0:=by have:=Int.mul_pos (show 0 < -a by omega) h2;rw [Int.neg_mul] at this;omega
section
variable {A B U V p r d fa fb fq fr : Int}
theorem e2_of (E0:B - A=U - V) (E1:B * p - A * r=U * d):B * (p - d) - A * (r - d)=V * d:=by grind
theorem lm (E0:B - A=U - V) (E1:B * p - A * r=U * d) (F:B * fa - A * fb=U * fr - V * fq) (hd:0 < d) (ha:0 < fa) (hb:0 < fb) (hq:fq≤0) (hr:fr≤0)
  (h1:p≤0) (h2:0 < r) (h3:r≤d):0 < U↔B < 0:=by
 have E2:=e2_of E0 E1
 constructor
 ·intro hU
  rcases (show B < 0∨0≤B by omega) with h|hB
  ·exact h
  exfalso
  have g1:=pp hU hd
  have g2:=pm0 hB h1
  rcases (show A < 0∨0≤A by omega) with hA|hA
  ·rcases (show 0 < V∨V≤0 by omega) with hV|hV
   ·have g3:=pp hV hd
    have g4:=pm0 hB (show p - d≤0 by omega)
    have g5:=mm0 (show A≤0 by omega) (show r - d≤0 by omega)
    omega
   ·have g3:=nn0 hB (show 0≤fa by omega)
    have g4:=mp hA hb
    have g5:=pm0 (show 0≤U by omega) hr
    have g6:=mm0 hV hq
    omega
  ·have g3:=nn0 hA (show 0≤r by omega)
   omega
 ·intro hB
  rcases (show 0 < U∨U≤0 by omega) with h|hU
  ·exact h
  exfalso
  have g1:=mp0 hU (show 0≤d by omega)
  have g2:=mm0 (show B≤0 by omega) h1
  rcases (show A < 0∨0≤A by omega) with hA|hA
  ·have g3:=mp hA h2
   omega
  ·have g3:=mp hB ha
   have g4:=nn0 hA (show 0≤fb by omega)
   have g5:=mm0 hU hr
   rcases (show 0 < V∨V≤0 by omega) with hV|hV
   ·have g6:=pm0 (show 0≤V by omega) hq
    omega
   ·have g6:=mm hB (show p - d < 0 by omega)
    have g7:=pm0 hA (show r - d≤0 by omega)
    have g8:=mp0 hV (show 0≤d by omega)
    omega
theorem lh (E0:B - A=U - V) (E1:B * p - A * r=U * d) (F:B * fa - A * fb=U * fr - V * fq) (hd:0 < d) (ha:0 < fa) (hb:0 < fb) (hq:fq≤0) (hr:fr≤0)
  (h1:p≤0) (h2:d < r):0 < U↔0 < V:=by
 have E2:=e2_of E0 E1
 constructor
 ·intro hU
  rcases (show 0 < V∨V≤0 by omega) with h|hV
  ·exact h
  exfalso
  have g1:=pp hU hd
  have g0:=mp0 hV (show 0≤d by omega)
  rcases (show A < 0∨0≤A by omega) with hA|hA
  ·rcases (show B < 0∨0≤B by omega) with hB|hB
   ·have g2:=mm hB (show p - d < 0 by omega)
    have g3:=mp hA (show 0 < r - d by omega)
    omega
   ·have g3:=nn0 hB (show 0≤fa by omega)
    have g4:=mp hA hb
    have g5:=pm0 (show 0≤U by omega) hr
    have g6:=mm0 hV hq
    omega
  ·rcases (show B < 0∨0≤B by omega) with hB|hB
   ·omega
   ·have g2:=pm0 hB h1
    have g3:=nn0 hA (show 0≤r by omega)
    omega
 ·intro hV
  rcases (show 0 < U∨U≤0 by omega) with h|hU
  ·exact h
  exfalso
  have g1:=pp hV hd
  have g0:=mp0 hU (show 0≤d by omega)
  rcases (show A < 0∨0≤A by omega) with hA|hA
  ·rcases (show B < 0∨0≤B by omega) with hB|hB
   ·have g2:=mm0 (show B≤0 by omega) h1
    have g3:=mp hA (show 0 < r by omega)
    omega
   ·omega
  ·rcases (show B < 0∨0≤B by omega) with hB|hB
   ·have g2:=mp hB ha
    have g3:=nn0 hA (show 0≤fb by omega)
    have g4:=mm0 hU hr
    have g5:=pm0 (show 0≤V by omega) hq
    omega
   ·have g2:=pm0 hB (show p - d≤0 by omega)
    have g3:=nn0 hA (show 0≤r - d by omega)
    omega
theorem mmL (E0:B - A=U - V) (E1:B * p - A * r=U * d) (F:B * fa - A * fb=U * fr - V * fq) (hd:0 < d) (ha:0 < fa) (hb:0 < fb) (hq:fq≤0) (hr:fr≤0)
  (h1:0 < p) (h2:p≤d) (h3:0 < r) (h4:r≤d):A < 0↔B < 0:=by
 have E2:=e2_of E0 E1
 constructor
 ·intro hA
  rcases (show B < 0∨0≤B by omega) with h|hB
  ·exact h
  exfalso
  have g1:=nn0 hB (show 0≤p by omega)
  have g2:=mp hA h3
  have g3:=pm0 hB (show p - d≤0 by omega)
  have g4:=mm0 (show A≤0 by omega) (show r - d≤0 by omega)
  have g5:=nn0 hB (show 0≤fa by omega)
  have g6:=mp hA hb
  rcases (show 0 < U∨U≤0 by omega) with hU|hU
  ·have g7:=pm0 (show 0≤U by omega) hr
   rcases (show 0 < V∨V≤0 by omega) with hV|hV
   ·have:=pp hV hd;omega
   ·have:=mm0 hV hq;omega
  ·have:=mp0 hU (show 0≤d by omega);omega
 ·intro hB
  rcases (show A < 0∨0≤A by omega) with h|hA
  ·exact h
  exfalso
  have g1:=mp hB h1
  have g2:=nn0 hA (show 0≤r by omega)
  have g3:=mm0 (show B≤0 by omega) (show p - d≤0 by omega)
  have g4:=pm0 hA (show r - d≤0 by omega)
  have g5:=mp hB ha
  have g6:=nn0 hA (show 0≤fb by omega)
  rcases (show U < 0∨0≤U by omega) with hU|hU
  ·have g7:=mm0 (show U≤0 by omega) hr
   rcases (show V < 0∨0≤V by omega) with hV|hV
   ·have:=mp hV hd;omega
   ·have:=pm0 hV hq;omega
  ·have:=nn0 hU (show 0≤d by omega);omega
theorem mh (E0:B - A=U - V) (E1:B * p - A * r=U * d) (F:B * fa - A * fb=U * fr - V * fq) (hd:0 < d) (ha:0 < fa) (hb:0 < fb) (hq:fq≤0) (hr:fr≤0)
  (h1:0 < p) (h2:p≤d) (h3:d < r):0 < V↔A < 0:=by
 have E2:=e2_of E0 E1
 constructor
 ·intro hV
  rcases (show A < 0∨0≤A by omega) with h|hA
  ·exact h
  exfalso
  have g1:=pp hV hd
  have g2:=nn0 hA (show 0≤r - d by omega)
  have g3:=nn0 hA (show 0≤r by omega)
  rcases (show B < 0∨0≤B by omega) with hB|hB
  ·have g4:=mp hB h1
   have g5:=mp hB ha
   have g6:=nn0 hA (show 0≤fb by omega)
   have g7:=pm0 (show 0≤V by omega) hq
   rcases (show U < 0∨0≤U by omega) with hU|hU
   ·have:=mm0 (show U≤0 by omega) hr;omega
   ·have:=nn0 hU (show 0≤d by omega);omega
  ·have g4:=pm0 hB (show p - d≤0 by omega)
   omega
 ·intro hA
  rcases (show 0 < V∨V≤0 by omega) with h|hV
  ·exact h
  exfalso
  have g1:=mp0 hV (show 0≤d by omega)
  have g2:=mp hA (show 0 < r - d by omega)
  have g3:=mp hA (show 0 < r by omega)
  rcases (show B < 0∨0≤B by omega) with hB|hB
  ·have g4:=mm0 (show B≤0 by omega) (show p - d≤0 by omega)
   omega
  ·have g4:=nn0 hB (show 0≤p by omega)
   have g5:=nn0 hB (show 0≤fa by omega)
   have g6:=mp hA hb
   have g7:=mm0 hV hq
   rcases (show 0 < U∨U≤0 by omega) with hU|hU
   ·have:=pm0 (show 0≤U by omega) hr;omega
   ·have:=mp0 hU (show 0≤d by omega);omega
end
structure Aff where
 u:Int
 v:Int
 w:Int
def Aff.ev (f:Aff) (p:Pt):Int:=f.u * p.1 + f.v * p.2 + f.w
theorem tid (a b q r:Pt):turnZ q r b - turnZ q r a=turnZ a b q - turnZ a b r:=by unfold turnZ;grind
theorem aid (f:Aff) (a b q r:Pt):turnZ q r b * f.ev a - turnZ q r a * f.ev b=turnZ a b q * f.ev r - turnZ a b r * f.ev q:=by unfold turnZ Aff.ev;grind
theorem turnZ_swap (a b p:Pt):turnZ b a p=- turnZ a b p:=by unfold turnZ;grind
def crN (h:Aff) (p a b:Pt):Int:=
 if h.ev a≤h.ev p∧h.ev p < h.ev b∧0 < turnZ a b p then 1 else if h.ev b≤h.ev p∧h.ev p < h.ev a∧turnZ a b p < 0 then -1 else 0
theorem crN_swap (h:Aff) (p a b:Pt):crN h p b a=- crN h p a b:=by
 unfold crN
 rw [turnZ_swap a b p]
 repeat' split
 all_goals omega
def inS (h:Aff) (q r x:Pt):Int:=if h.ev q < h.ev x∧h.ev x≤h.ev r∧turnZ q r x < 0 then 1 else 0
def Part (a b q r:Pt):Prop:=∃ f:Aff,0 < f.ev a∧0 < f.ev b∧f.ev q≤0∧f.ev r≤0
theorem cr_step' (h:Aff) {a b q r:Pt} (hs:Part a b q r) (hd:h.ev q < h.ev r) (hab:h.ev a≤h.ev b):crN h q a b - crN h r a b=inS h q r b - inS h q r a:=by
 obtain ⟨f,fa,fb,fq,fr⟩:=hs
 have E0:=tid a b q r
 have E:=aid h a b q r
 have F:=aid f a b q r
 have E1:turnZ q r b * (h.ev a - h.ev q) - turnZ q r a * (h.ev b - h.ev q)=turnZ a b q * (h.ev r - h.ev q):=by grind
 unfold crN inS
 generalize turnZ q r b=B at *
 generalize turnZ q r a=A at *
 generalize turnZ a b q=U at *
 generalize turnZ a b r=V at *
 have hd':0 < h.ev r - h.ev q:=by omega
 rcases (show h.ev a≤h.ev q∨(h.ev q < h.ev a∧h.ev a≤h.ev r)∨h.ev r < h.ev a by omega) with ha|⟨ha1,ha2⟩|ha
 ·rcases (show h.ev b≤h.ev q∨(h.ev q < h.ev b∧h.ev b≤h.ev r)∨h.ev r < h.ev b by omega) with hb|⟨hb1,hb2⟩|hb
  ·repeat' split
   all_goals omega
  ·have:=lm E0 E1 F hd' fa fb fq fr (by omega) (by omega) (by omega)
   repeat' split
   all_goals omega
  ·have:=lh E0 E1 F hd' fa fb fq fr (by omega) (by omega)
   repeat' split
   all_goals omega
 ·rcases (show h.ev b≤h.ev r∨h.ev r < h.ev b by omega) with hb|hb
  ·have:=mmL E0 E1 F hd' fa fb fq fr (by omega) (by omega) (by omega) (by omega)
   repeat' split
   all_goals omega
  ·have:=mh E0 E1 F hd' fa fb fq fr (by omega) (by omega) (by omega)
   repeat' split
   all_goals omega
 ·repeat' split
  all_goals omega
theorem Part.swap {a b q r:Pt} (hs:Part a b q r):Part b a q r:=let ⟨f,fa,fb,fq,fr⟩:=hs;⟨f,fb,fa,fq,fr⟩
theorem cr_step (h:Aff) {a b q r:Pt} (hs:Part a b q r) (hd:h.ev q < h.ev r):crN h q a b - crN h r a b=inS h q r b - inS h q r a:=by
 rcases (show h.ev a≤h.ev b∨h.ev b≤h.ev a by omega) with hab|hab
 ·exact cr_step' h hs hd hab
 ·have:=cr_step' h hs.swap hd hab
  rw [crN_swap h q a b,crN_swap h r a b] at this
  omega
section
variable {A B U V p r d fa fb fq fr : Int}
theorem lev (E0:B - A=U - V) (E1:B * p=A * r) (F:B * fa - A * fb=U * fr - V * fq) (ha:0 < fa) (hb:0 < fb) (hq:fq≤0) (hr:fr≤0)
  (h1:p≤0) (h2:0 < r):0 < U↔0 < V:=by
 constructor
 ·intro hU
  rcases (show 0 < V∨V≤0 by omega) with h|hV
  ·exact h
  exfalso
  have g5:=pm0 (show 0≤U by omega) hr
  have g6:=mm0 hV hq
  rcases (show 0 < B∨B≤0 by omega) with hB|hB
  ·have g1:=pm0 (show 0≤B by omega) h1
   have g2:=pp hB ha
   rcases (show 0 < A∨A≤0 by omega) with hA|hA
   ·have:=pp hA h2;omega
   ·have:=mp0 hA (show 0≤fb by omega);omega
  ·have g1:=mm0 hB h1
   have:=mp (show A < 0 by omega) h2
   omega
 ·intro hV
  rcases (show 0 < U∨U≤0 by omega) with h|hU
  ·exact h
  exfalso
  have g5:=mm0 hU hr
  have g6:=pm0 (show 0≤V by omega) hq
  rcases (show B < 0∨0≤B by omega) with hB|hB
  ·have g1:=mm0 (show B≤0 by omega) h1
   have g2:=mp hB ha
   rcases (show A < 0∨0≤A by omega) with hA|hA
   ·have:=mp hA h2;omega
   ·have:=nn0 hA (show 0≤fb by omega);omega
  ·have g1:=pm0 hB h1
   have:=pp (show 0 < A by omega) h2
   omega
end
theorem cr_level' (h:Aff) {a b q r:Pt} (hs:Part a b q r) (hd:h.ev q=h.ev r) (hab:h.ev a≤h.ev b):crN h q a b=crN h r a b:=by
 obtain ⟨f,fa,fb,fq,fr⟩:=hs
 have E0:=tid a b q r
 have E:=aid h a b q r
 have F:=aid f a b q r
 have E1:turnZ q r b * (h.ev a - h.ev q)=turnZ q r a * (h.ev b - h.ev q):=by grind
 unfold crN
 generalize turnZ q r b=B at *
 generalize turnZ q r a=A at *
 generalize turnZ a b q=U at *
 generalize turnZ a b r=V at *
 rcases (show h.ev q < h.ev a∨h.ev b≤h.ev q∨(h.ev a≤h.ev q∧h.ev q < h.ev b) by omega) with ha|ha|⟨h1,h2⟩
 ·repeat' split
  all_goals omega
 ·repeat' split
  all_goals omega
 ·have:=lev E0 E1 F fa fb fq fr (by omega) (by omega)
  repeat' split
  all_goals omega
theorem cr_level (h:Aff) {a b q r:Pt} (hs:Part a b q r) (hd:h.ev q=h.ev r):crN h q a b=crN h r a b:=by
 rcases (show h.ev a≤h.ev b∨h.ev b≤h.ev a by omega) with hab|hab
 ·exact cr_level' h hs hd hab
 ·have:=cr_level' h hs.swap hd hab
  rw [crN_swap h q a b,crN_swap h r a b] at this
  omega
def sumN (f:Nat→Int):Nat→Int
 | 0=>0
 | n + 1=>sumN f n + f n
theorem sumN_congr {f g:Nat→Int}:∀ {n:Nat},(∀ k,k < n→f k=g k)→sumN f n=sumN g n
 | 0,_=>rfl
 | n + 1,h=>by simp only [sumN];rw [sumN_congr fun k hk=>h k (by omega),h n (by omega)]
theorem sumN_sub (f g:Nat→Int):∀ n,sumN (fun k=>f k - g k) n=sumN f n - sumN g n
 | 0=>rfl
 | n + 1=>by simp only [sumN];rw [sumN_sub f g n];omega
theorem sumN_tel (g:Nat→Int):∀ n,sumN (fun k=>g (k + 1) - g k) n=g n - g 0
 | 0=>by simp [sumN]
 | n + 1=>by simp only [sumN];rw [sumN_tel g n];omega
theorem sumN_one {f:Nat→Int} {k:Nat}:∀ {n:Nat},k < n→sumN f n=sumN (fun j=>if j=k then 0 else f j) n + f k
 | 0,h=>by omega
 | n + 1,h=>by
  simp only [sumN]
  by_cases e:n=k
  ·subst e
   rw [if_pos rfl,sumN_congr (f:=fun j=>if j=n then 0 else f j) (g:=f) fun j hj=>if_neg (by omega)]
   omega
  ·rw [sumN_one (k:=k) (n:=n) (by omega),if_neg e];omega
structure Way where
 n:Nat
 v:Nat→Pt
 cyc:v n=v 0
def wnd (h:Aff) (P:Way) (p:Pt):Int:=sumN (fun k=>crN h p (P.v k) (P.v (k + 1))) P.n
def wndO (h:Aff) (P:Way) (k:Nat) (p:Pt):Int:=sumN (fun j=>if j=k then 0 else crN h p (P.v j) (P.v (j + 1))) P.n
theorem wnd_one (h:Aff) (P:Way) {k:Nat} (hk:k < P.n) (p:Pt):wnd h P p=wndO h P k p + crN h p (P.v k) (P.v (k + 1)):=sumN_one hk
theorem tel_one (P:Way) (J:Pt→Int) {k:Nat} (hk:k < P.n):sumN (fun j=>if j=k then 0 else J (P.v (j + 1)) - J (P.v j)) P.n=J (P.v k) - J (P.v (k + 1)):=by
 have h1:=sumN_tel (fun j=>J (P.v j)) P.n
 have h2:=sumN_one (f:=fun j=>J (P.v (j + 1)) - J (P.v j)) hk
 rw [h1] at h2
 simp only [P.cyc] at h2
 omega
theorem wnd_step (h:Aff) (P:Way) {q r:Pt} (hs:∀ j,j < P.n→Part (P.v j) (P.v (j + 1)) q r):wnd h P q=wnd h P r:=by
 have key:∀ {q r:Pt},(∀ j,j < P.n→Part (P.v j) (P.v (j + 1)) q r)→h.ev q < h.ev r→wnd h P q=wnd h P r:=by
  intro q r hs hd
  have h1:sumN (fun k=>crN h q (P.v k) (P.v (k + 1)) - crN h r (P.v k) (P.v (k + 1))) P.n=sumN (fun k=>inS h q r (P.v (k + 1)) - inS h q r (P.v k)) P.n:=
   sumN_congr fun k hk=>cr_step h (hs k hk) hd
  rw [sumN_sub,sumN_tel (fun k=>inS h q r (P.v k)),P.cyc] at h1
  unfold wnd
  omega
 rcases (show h.ev q < h.ev r∨h.ev q=h.ev r∨h.ev r < h.ev q by omega) with hd|hd|hd
 ·exact key hs hd
 ·exact sumN_congr fun k hk=>cr_level h (hs k hk) hd
 ·exact (key (fun j hj=>let ⟨f,fa,fb,fq,fr⟩:=hs j hj;⟨f,fa,fb,fr,fq⟩) hd).symm
theorem wndO_step (h:Aff) (P:Way) {k:Nat} (hk:k < P.n) {q r:Pt} (hs:∀ j,j < P.n→j≠k→Part (P.v j) (P.v (j + 1)) q r) (hd:h.ev q < h.ev r) :
  wndO h P k q - wndO h P k r=inS h q r (P.v k) - inS h q r (P.v (k + 1)):=by
 rw [← tel_one P (inS h q r) hk]
 unfold wndO
 rw [← sumN_sub]
 refine sumN_congr fun j hj=>?_
 by_cases e:j=k
 ·simp [e]
 ·rw [if_neg e,if_neg e,if_neg e];exact cr_step h (hs j hj e) hd
theorem wndO_level (h:Aff) (P:Way) {k:Nat} {q r:Pt} (hs:∀ j,j < P.n→j≠k→Part (P.v j) (P.v (j + 1)) q r) (hd:h.ev q=h.ev r):wndO h P k q=wndO h P k r:=by
 refine sumN_congr fun j hj=>?_
 by_cases e:j=k
 ·simp [e]
 ·rw [if_neg e,if_neg e];exact cr_level h (hs j hj e) hd
def side (h:Aff) (p a b:Pt):Int:=if h.ev a < h.ev b∧0 < turnZ a b p then 1 else if h.ev b < h.ev a∧turnZ a b p < 0 then -1 else 0
theorem plu (h:Aff) (a b p x:Pt):(h.ev b - h.ev a) * turnZ p x a + (h.ev x - h.ev a) * turnZ a b p=(h.ev p - h.ev a) * turnZ a b x:=by unfold turnZ Aff.ev;grind
theorem sgn_of {s t m n:Int} (hs:0 < s) (ht:0 < t) (e:s * m + t * n=0):(m < 0↔0 < n)∧(0 < m↔n < 0):=by
 rcases (show m < 0∨m=0∨0 < m by omega) with h|h|h
 ·have h1:=pm hs h
  have:0 < n:=by
   rcases (show 0 < n∨n≤0 by omega) with h2|h2
   ·exact h2
   ·have:=pm0 (show 0≤t by omega) h2;omega
  omega
 ·subst h
  rw [Int.mul_zero,Int.zero_add] at e
  have:n=0:=by rcases Int.mul_eq_zero.1 e with h|h <;> omega
  omega
 ·have h1:=pp hs h
  have:n < 0:=by
   rcases (show n < 0∨0≤n by omega) with h2|h2
   ·exact h2
   ·have:=nn0 (show 0≤t by omega) h2;omega
  omega
def OnO (h:Aff) (x a b:Pt):Prop:=turnZ a b x=0∧((h.ev a < h.ev x∧h.ev x < h.ev b)∨(h.ev b < h.ev x∧h.ev x < h.ev a))
theorem wndO_step' (h:Aff) (P:Way) {k:Nat} (hk:k < P.n) {q r a b:Pt} (hs:∀ j,j < P.n→j≠k→Part (P.v j) (P.v (j + 1)) q r) (hd:h.ev q < h.ev r) (ha:P.v k=a) (hb:P.v (k + 1)=b) :
  wndO h P k q - wndO h P k r=inS h q r a - inS h q r b:=by
 subst ha;subst hb;exact wndO_step h P hk hs hd
theorem wnd_see (h:Aff) (P:Way) {k:Nat} (hk:k < P.n) {p x:Pt} (hx:OnO h x (P.v k) (P.v (k + 1))) (hs:∀ j,j < P.n→j≠k→Part (P.v j) (P.v (j + 1)) p x) :
  wnd h P p=wndO h P k x + side h p (P.v k) (P.v (k + 1)):=by
 rw [wnd_one h P hk]
 obtain ⟨h0,hx⟩:=hx
 obtain ⟨a,hPa⟩:∃ a,P.v k=a:=⟨_,rfl⟩
 obtain ⟨b,hPb⟩:∃ b,P.v (k + 1)=b:=⟨_,rfl⟩
 rw [hPa,hPb] at h0 hx ⊢
 have i1:=plu h a b p x
 have i2:=plu h b a p x
 have i3:=turnZ_swap a b p
 have i4:=turnZ_swap a b x
 have i5:turnZ x p a=- turnZ p x a:=turnZ_swap p x a
 have i6:turnZ x p b=- turnZ p x b:=turnZ_swap p x b
 rw [h0,Int.mul_zero] at i1
 rw [i4,h0,i3] at i2
 rcases (show h.ev p < h.ev x∨h.ev p=h.ev x∨h.ev x < h.ev p by omega) with hd|hd|hd
 ·have e:=wndO_step' h P hk hs hd hPa hPb
  rcases hx with ⟨ha,hb⟩|⟨hb,ha⟩
  ·have:=sgn_of (show 0 < h.ev b - h.ev a by omega) (show 0 < h.ev x - h.ev a by omega) i1
   unfold inS at e
   unfold crN side
   revert e
   repeat' split
   all_goals omega
  ·have:=sgn_of (show 0 < h.ev a - h.ev b by omega) (show 0 < h.ev x - h.ev b by omega) (show (h.ev a - h.ev b) * turnZ p x b + (h.ev x - h.ev b) * (- turnZ a b p)=0 by omega)
   unfold inS at e
   unfold crN side
   revert e
   repeat' split
   all_goals omega
 ·rw [wndO_level h P hs hd]
  unfold crN side
  repeat' split
  all_goals omega
 ·have e:=wndO_step' h P hk (q:=x) (r:=p) (fun j hj hjk=>let ⟨f,fa,fb,fq,fr⟩:=hs j hj hjk;⟨f,fa,fb,fr,fq⟩) hd hPa hPb
  rcases hx with ⟨ha,hb⟩|⟨hb,ha⟩
  ·have:=sgn_of (show 0 < h.ev b - h.ev a by omega) (show 0 < h.ev b - h.ev x by omega) (show (h.ev b - h.ev a) * turnZ p x b + (h.ev b - h.ev x) * (- turnZ a b p)=0 by rw [← Int.neg_inj];rw [← Int.neg_sub (h.ev b) (h.ev a),← Int.neg_sub (h.ev b) (h.ev x),Int.neg_mul,Int.neg_mul] at i2;omega)
   unfold inS at e
   unfold crN side
   revert e
   repeat' split
   all_goals omega
  ·have:=sgn_of (show 0 < h.ev a - h.ev b by omega) (show 0 < h.ev a - h.ev x by omega) (show (h.ev a - h.ev b) * turnZ p x a + (h.ev a - h.ev x) * turnZ a b p=0 by rw [← Int.neg_inj];rw [← Int.neg_sub (h.ev a) (h.ev b),← Int.neg_sub (h.ev a) (h.ev x),Int.neg_mul,Int.neg_mul] at i1;omega)
   unfold inS at e
   unfold crN side
   revert e
   repeat' split
   all_goals omega
theorem wndO_along (h:Aff) (P:Way) {k:Nat} (hk:k < P.n) {x y:Pt} (hx:turnZ (P.v k) (P.v (k + 1)) x=0) (hy:turnZ (P.v k) (P.v (k + 1)) y=0) (hab:P.v k≠P.v (k + 1)) (hs:∀ j,j < P.n→j≠k→Part (P.v j) (P.v (j + 1)) x y) :
  wndO h P k x=wndO h P k y:=by
 have flat:∀ {a b x y:Pt},a≠b→turnZ a b x=0→turnZ a b y=0→turnZ x y a=0∧turnZ x y b=0:=by
  intro a b x y hab hx hy
  have one:∀ a b x y:Pt,a≠b→turnZ a b x=0→turnZ a b y=0→turnZ x y a=0:=by
   intro a b x y hab hx hy
   have i1:(b.1 - a.1) * turnZ x y a=(x.1 - a.1) * turnZ a b y - (y.1 - a.1) * turnZ a b x:=by unfold turnZ;grind
   have i2:(b.2 - a.2) * turnZ x y a=(x.2 - a.2) * turnZ a b y - (y.2 - a.2) * turnZ a b x:=by unfold turnZ;grind
   rw [hx,hy,Int.mul_zero,Int.mul_zero,Int.sub_zero] at i1 i2
   rcases Int.mul_eq_zero.1 i1 with h1|h1
   ·rcases Int.mul_eq_zero.1 i2 with h2|h2
    ·exact absurd (Prod.ext (by omega) (by omega)) hab
    ·exact h2
   ·exact h1
  exact ⟨one a b x y hab hx hy,one b a x y (Ne.symm hab) (by rw [turnZ_swap,hx];rfl) (by rw [turnZ_swap,hy];rfl)⟩
 have key:∀ {x y:Pt},turnZ (P.v k) (P.v (k + 1)) x=0→turnZ (P.v k) (P.v (k + 1)) y=0→(∀ j,j < P.n→j≠k→Part (P.v j) (P.v (j + 1)) x y)→h.ev x < h.ev y→wndO h P k x=wndO h P k y:=by
  intro x y hx hy hs hd
  have e:=wndO_step h P hk hs hd
  have ⟨f1,f2⟩:=flat hab hx hy
  unfold inS at e
  rw [f1,f2] at e
  simp at e
  omega
 rcases (show h.ev x < h.ev y∨h.ev x=h.ev y∨h.ev y < h.ev x by omega) with hd|hd|hd
 ·exact key hx hy hs hd
 ·exact wndO_level h P hs hd
 ·exact (key hy hx (fun j hj hjk=>let ⟨f,fa,fb,fq,fr⟩:=hs j hj hjk;⟨f,fa,fb,fr,fq⟩) hd).symm
def smul (K:Int) (p:Pt):Pt:=(K * p.1,K * p.2)
def padd (p q:Pt):Pt:=(p.1 + q.1,p.2 + q.2)
def psub (p q:Pt):Pt:=(p.1 - q.1,p.2 - q.2)
def Aff.sc (K:Int) (h:Aff):Aff:=⟨h.u,h.v,K * h.w⟩
def Way.sc (K:Int) (P:Way):Way:=⟨P.n,fun k=>smul K (P.v k),by show smul K (P.v P.n)=smul K (P.v 0);rw [P.cyc]⟩
def Aff.lin (h:Aff) (d:Pt):Int:=h.u * d.1 + h.v * d.2
theorem ev_sc (h:Aff) (K:Int) (p d:Pt):(h.sc K).ev (padd (smul K p) d)=K * h.ev p + h.lin d:=by unfold Aff.ev Aff.sc smul padd Aff.lin;grind
theorem ev_sc0 (h:Aff) (K:Int) (p:Pt):(h.sc K).ev (smul K p)=K * h.ev p:=by unfold Aff.ev Aff.sc smul;grind
theorem turn_sc (K:Int) (a b p d:Pt):turnZ (smul K a) (smul K b) (padd (smul K p) d)=K * (K * turnZ a b p + turnZ a b (padd a d)):=by unfold turnZ smul padd;grind
theorem turn_sc0 (K:Int) (a b p:Pt):turnZ (smul K a) (smul K b) (smul K p)=K * (K * turnZ a b p):=by unfold turnZ smul;grind
theorem mul_sgn {K n:Int} (hK:0 < K):(0 < K * n↔0 < n)∧(K * n < 0↔n < 0):=by
 rcases (show n < 0∨n=0∨0 < n by omega) with h|h|h
 ·have:=pm hK h;omega
 ·subst h;simp
 ·have:=pp hK h;omega
theorem mul_lt_iff {K m n:Int} (hK:0 < K):(K * m < K * n↔m < n)∧(K * m≤K * n↔m≤n):=⟨Int.mul_lt_mul_left hK,Int.mul_le_mul_left hK⟩
theorem crN_sc (h:Aff) {K:Int} (hK:0 < K) (p a b:Pt):crN (h.sc K) (smul K p) (smul K a) (smul K b)=crN h p a b:=by
 unfold crN
 simp only [ev_sc0,turn_sc0,(mul_lt_iff hK).1,(mul_lt_iff hK).2,(mul_sgn hK).1,(mul_sgn hK).2]
theorem wnd_sc (h:Aff) (P:Way) {K:Int} (hK:0 < K) (p:Pt):wnd (h.sc K) (P.sc K) (smul K p)=wnd h P p:=sumN_congr fun k _=>crN_sc h hK _ _ _
theorem wndO_sc (h:Aff) (P:Way) {K:Int} (hK:0 < K) (k:Nat) (p:Pt):wndO (h.sc K) (P.sc K) k (smul K p)=wndO h P k p:=sumN_congr fun j _=>by
 by_cases e:j=k
 ·simp [e]
 ·rw [if_neg e,if_neg e];exact crN_sc h hK _ _ _
theorem Part.sc {a b q r:Pt} {K:Int} (hK:0 < K) (h:Part a b q r):Part (smul K a) (smul K b) (smul K q) (smul K r):=by
 obtain ⟨f,fa,fb,fq,fr⟩:=h
 refine ⟨f.sc K,?_,?_,?_,?_⟩ <;> rw [ev_sc0]
 ·exact pp hK fa
 ·exact pp hK fb
 ·exact pm0 (by omega) fq
 ·exact pm0 (by omega) fr
def Off (p a b:Pt):Prop:=∃ f:Aff,0 < f.ev a∧0 < f.ev b∧f.ev p < 0
def Late (Q:Int→Prop):Prop:=∃ K0:Int,∀ K,K0≤K→0 < K→Q K
theorem Late.and {Q R:Int→Prop} (h1:Late Q) (h2:Late R):Late fun K=>Q K∧R K:=by
 obtain ⟨k1,h1⟩:=h1
 obtain ⟨k2,h2⟩:=h2
 exact ⟨max k1 k2,fun K hK h0=>⟨h1 K (by omega) h0,h2 K (by omega) h0⟩⟩
theorem Late.of {Q:Int→Prop} (h:∀ K,0 < K→Q K):Late Q:=⟨0,fun K _ h0=>h K h0⟩
theorem Late.ge (k0:Int):Late fun K=>k0≤K:=⟨k0,fun K h _=>h⟩
theorem Late.imp {Q R:Int→Prop} (h1:Late Q) (h:∀ K,0 < K→Q K→R K):Late R:=let ⟨k,hk⟩:=h1;⟨k,fun K h1 h0=>h K h0 (hk K h1 h0)⟩
theorem Late.all {n:Nat} {Q:Nat→Int→Prop} (h:∀ j,j < n→Late (Q j)):Late fun K=>∀ j,j < n→Q j K:=by
 induction n with
 | zero=>exact .of fun K _ j hj=>absurd hj (by omega)
 | succ n ih=>
  refine ((ih fun j hj=>h j (by omega)).and (h n (by omega))).imp fun K _ ⟨h1,h2⟩ j hj=>?_
  rcases (show j < n∨j=n by omega) with h|h
  ·exact h1 j h
  ·subst h;exact h2
theorem Late.get {Q:Int→Prop} (h:Late Q):∃ K,0 < K∧Q K:=let ⟨k,hk⟩:=h;⟨max k 1,by omega,hk _ (by omega) (by omega)⟩
theorem Off.near {p a b:Pt} (h:Off p a b) (d e:Pt):Late fun K=>Part (smul K a) (smul K b) (padd (smul K p) d) (padd (smul K p) e):=by
 obtain ⟨f,fa,fb,fp⟩:=h
 refine ⟨max (f.lin d) (f.lin e),fun K hK h0=>⟨f.sc K,by rw [ev_sc0];exact pp h0 fa,by rw [ev_sc0];exact pp h0 fb,?_,?_⟩⟩
 ·rw [ev_sc]
  have:K * f.ev p≤K * (-1):=(mul_lt_iff h0).2.2 (by omega)
  omega
 ·rw [ev_sc]
  have:K * f.ev p≤K * (-1):=(mul_lt_iff h0).2.2 (by omega)
  omega
def OnI (x a b:Pt):Prop:=∃ s t:Int,0 < s∧0 < t∧(s + t) * x.1=s * a.1 + t * b.1∧(s + t) * x.2=s * a.2 + t * b.2
theorem on_ev {s t:Int} {x a b:Pt} (h1:(s + t) * x.1=s * a.1 + t * b.1) (h2:(s + t) * x.2=s * a.2 + t * b.2) (f:Aff):(s + t) * f.ev x=s * f.ev a + t * f.ev b:=by
 have e:(s + t) * f.ev x=f.u * ((s + t) * x.1) + f.v * ((s + t) * x.2) + (s + t) * f.w:=by unfold Aff.ev;grind
 rw [e,h1,h2];unfold Aff.ev;grind
theorem OnI.le {x a b:Pt} (h:OnI x a b) {f:Aff} (ha:f.ev a≤0) (hb:f.ev b≤0):f.ev x≤0:=by
 obtain ⟨s,t,hs,ht,h1,h2⟩:=h
 have e:=on_ev h1 h2 f
 have g1:=pm0 (show 0≤s by omega) ha
 have g2:=pm0 (show 0≤t by omega) hb
 rcases (show f.ev x≤0∨0 < f.ev x by omega) with h|h
 ·exact h
 ·have:=pp (show 0 < s + t by omega) h;omega
theorem OnI.neg {x a b:Pt} (h:OnI x a b) {f:Aff} (ha:f.ev a < 0) (hb:f.ev b≤0):f.ev x < 0:=by
 obtain ⟨s,t,hs,ht,h1,h2⟩:=h
 have e:=on_ev h1 h2 f
 have g1:=pm hs ha
 have g2:=pm0 (show 0≤t by omega) hb
 rcases (show f.ev x < 0∨0≤f.ev x by omega) with h|h
 ·exact h
 ·have:=nn0 (show 0≤s + t by omega) h;omega
theorem OnI.swap {x a b:Pt} (h:OnI x a b):OnI x b a:=let ⟨s,t,hs,ht,h1,h2⟩:=h;⟨t,s,ht,hs,by rw [Int.add_comm t s,h1];omega,by rw [Int.add_comm t s,h2];omega⟩
def Aff.turn (a b:Pt):Aff:=⟨-(b.2 - a.2),b.1 - a.1,(b.2 - a.2) * a.1 - (b.1 - a.1) * a.2⟩
theorem ev_turn (a b p:Pt):(Aff.turn a b).ev p=turnZ a b p:=by unfold Aff.ev Aff.turn turnZ;grind
def dotZ (a b p:Pt):Int:=(b.1 - a.1) * (p.1 - b.1) + (b.2 - a.2) * (p.2 - b.2)
def Aff.dot (a b:Pt):Aff:=⟨b.1 - a.1,b.2 - a.2,-((b.1 - a.1) * b.1 + (b.2 - a.2) * b.2)⟩
theorem ev_dot (a b p:Pt):(Aff.dot a b).ev p=dotZ a b p:=by unfold Aff.ev Aff.dot dotZ;grind
def Aff.lc (m:Int) (f:Aff) (n:Int) (g:Aff) (c:Int):Aff:=⟨m * f.u + n * g.u,m * f.v + n * g.v,m * f.w + n * g.w + c⟩
theorem ev_lc (m:Int) (f:Aff) (n:Int) (g:Aff) (c:Int) (p:Pt):(Aff.lc m f n g c).ev p=m * f.ev p + n * g.ev p + c:=by unfold Aff.ev Aff.lc;grind
theorem OnI.flat {x a b:Pt} (h:OnI x a b):turnZ a b x=0:=by
 obtain ⟨s,t,hs,ht,h1,h2⟩:=h
 have e:=on_ev h1 h2 (Aff.turn a b)
 rw [ev_turn,ev_turn,ev_turn] at e
 have e1:turnZ a b a=0:=by unfold turnZ;grind
 have e2:turnZ a b b=0:=by unfold turnZ;grind
 rw [e1,e2,Int.mul_zero,Int.mul_zero] at e
 rcases Int.mul_eq_zero.1 e with h|h
 ·omega
 ·exact h
theorem OnI.lev {x a b:Pt} (hx:OnI x a b) {h:Aff} (hab:h.ev a≠h.ev b):OnO h x a b:=by
 refine ⟨hx.flat,?_⟩
 obtain ⟨s,t,hs,ht,h1,h2⟩:=hx
 have e:=on_ev h1 h2 h
 have e1:(s + t) * (h.ev x - h.ev a)=t * (h.ev b - h.ev a):=by grind
 have e2:(s + t) * (h.ev b - h.ev x)=s * (h.ev b - h.ev a):=by grind
 have hst:0 < s + t:=by omega
 rcases (show h.ev a < h.ev b∨h.ev b < h.ev a by omega) with hl|hl
 ·have g1:=pp ht (show 0 < h.ev b - h.ev a by omega)
  have g2:=pp hs (show 0 < h.ev b - h.ev a by omega)
  rw [← e1] at g1
  rw [← e2] at g2
  have:=(mul_sgn hst).1.1 g1
  have:=(mul_sgn hst).1.1 g2
  omega
 ·have g1:=pm ht (show h.ev b - h.ev a < 0 by omega)
  have g2:=pm hs (show h.ev b - h.ev a < 0 by omega)
  rw [← e1] at g1
  rw [← e2] at g2
  have:=(mul_sgn hst).2.1 g1
  have:=(mul_sgn hst).2.1 g2
  omega
def Bends (a b z:Pt):Prop:=a≠b∧(turnZ a b z≠0∨0 < dotZ a b z)
theorem sq_pos {a b:Pt} (h:a≠b):0 < (b.1 - a.1) * (b.1 - a.1) + (b.2 - a.2) * (b.2 - a.2):=by
 have h1:0≤(b.1 - a.1) * (b.1 - a.1):=by rcases (show 0≤b.1 - a.1∨b.1 - a.1≤0 by omega) with h|h;exact nn0 h h;exact mm0 h h
 have h2:0≤(b.2 - a.2) * (b.2 - a.2):=by rcases (show 0≤b.2 - a.2∨b.2 - a.2≤0 by omega) with h|h;exact nn0 h h;exact mm0 h h
 rcases (show 0 < (b.1 - a.1) * (b.1 - a.1) + (b.2 - a.2) * (b.2 - a.2)∨((b.1 - a.1) * (b.1 - a.1)=0∧(b.2 - a.2) * (b.2 - a.2)=0) by omega) with h3|⟨h3,h4⟩
 ·exact h3
 ·exfalso
  have h5:b.1 - a.1=0:=by rcases Int.mul_eq_zero.1 h3 with h|h <;> exact h
  have h6:b.2 - a.2=0:=by rcases Int.mul_eq_zero.1 h4 with h|h <;> exact h
  exact h (Prod.ext (by omega) (by omega))
theorem Bends.part {a b z x y:Pt} (h:Bends a b z) (hx:OnI x a b) (hy:OnI y a b):Part b z x y:=by
 obtain ⟨hab,h⟩:=h
 have hsq:=sq_pos hab
 have da:dotZ a b a=-((b.1 - a.1) * (b.1 - a.1) + (b.2 - a.2) * (b.2 - a.2)):=by unfold dotZ;grind
 have db:dotZ a b b=0:=by unfold dotZ;grind
 have tx:=hx.flat
 have ty:=hy.flat
 have tb:turnZ a b b=0:=by unfold turnZ;grind
 have gx:dotZ a b x < 0:=by rw [← ev_dot];exact hx.neg (by rw [ev_dot];omega) (by rw [ev_dot];omega)
 have gy:dotZ a b y < 0:=by rw [← ev_dot];exact hy.neg (by rw [ev_dot];omega) (by rw [ev_dot];omega)
 have hm:∃ m:Int,0≤dotZ a b z + m * turnZ a b z:=by
  rcases h with h|h
  ·rcases (show 0 < turnZ a b z∨turnZ a b z < 0 by omega) with h|h
   ·refine ⟨(dotZ a b z).natAbs,?_⟩
    have:((dotZ a b z).natAbs:Int) * 1≤((dotZ a b z).natAbs:Int) * turnZ a b z:=Int.mul_le_mul_of_nonneg_left (by omega) (by omega)
    omega
   ·refine ⟨-(dotZ a b z).natAbs,?_⟩
    have:((dotZ a b z).natAbs:Int) * 1≤((dotZ a b z).natAbs:Int) * (- turnZ a b z):=Int.mul_le_mul_of_nonneg_left (by omega) (by omega)
    rw [Int.mul_neg] at this
    rw [Int.neg_mul]
    omega
  ·exact ⟨0,by omega⟩
 obtain ⟨m,hm⟩:=hm
 refine ⟨Aff.lc 2 (Aff.dot a b) (2 * m) (Aff.turn a b) 1,?_,?_,?_,?_⟩ <;> rw [ev_lc,ev_dot,ev_turn]
 ·rw [db,tb];omega
 ·rw [Int.mul_assoc];omega
 ·rw [tx];omega
 ·rw [ty];omega
def Adj (n j k:Nat):Prop:=k=j + 1∨j=k + 1∨(j=0∧k + 1=n)∨(k=0∧j + 1=n)
structure Simple (P:Way):Prop where
 n3:3≤P.n
 off:∀ j k,j < P.n→k + 1 < P.n→j≠k→j≠k + 1→Off (P.v (k + 1)) (P.v j) (P.v (j + 1))
 apart:∀ j k,j < P.n→k < P.n→j≠k→¬ Adj P.n j k→Part (P.v j) (P.v (j + 1)) (P.v k) (P.v (k + 1))
 bend:∀ k,k + 1 < P.n→Bends (P.v k) (P.v (k + 1)) (P.v (k + 2))∧Bends (P.v (k + 2)) (P.v (k + 1)) (P.v k)
 bend0:∀ k,k + 1=P.n→Bends (P.v k) (P.v 0) (P.v 1)∧Bends (P.v 1) (P.v 0) (P.v k)
theorem Part.inn {a b c d x y:Pt} (h:Part a b c d) (hx:OnI x c d) (hy:OnI y c d):Part a b x y:=by
 obtain ⟨f,fa,fb,fc,fd⟩:=h
 exact ⟨f,fa,fb,hx.le fc fd,hy.le fc fd⟩
theorem smul_on {K:Int} {x a b:Pt} (hK:0 < K) (h:OnI x a b):OnI (smul K x) (smul K a) (smul K b):=by
 obtain ⟨s,t,hs,ht,h1,h2⟩:=h
 refine ⟨s,t,hs,ht,?_,?_⟩ <;> simp only [smul]
 ·rw [Int.mul_left_comm,h1];grind
 ·rw [Int.mul_left_comm,h2];grind
theorem Bends.sc {K:Int} (hK:0 < K) {a b z:Pt} (h:Bends a b z):Bends (smul K a) (smul K b) (smul K z):=by
 refine ⟨fun e=>h.1 ?_,?_⟩
 ·have e1:K * a.1=K * b.1:=congrArg Prod.fst e
  have e2:K * a.2=K * b.2:=congrArg Prod.snd e
  exact Prod.ext (Int.eq_of_mul_eq_mul_left (by omega) e1) (Int.eq_of_mul_eq_mul_left (by omega) e2)
 ·rw [turn_sc0]
  rcases h.2 with h|h
  ·refine .inl fun e=>h ?_
   rcases Int.mul_eq_zero.1 e with e|e
   ·omega
   ·rcases Int.mul_eq_zero.1 e with e|e
    ·omega
    ·exact e
  ·refine .inr ?_
   have e:dotZ (smul K a) (smul K b) (smul K z)=K * (K * dotZ a b z):=by unfold dotZ smul;grind
   rw [e]
   exact pp hK (pp hK h)
theorem Off.sc {K:Int} (hK:0 < K) {p a b:Pt} (h:Off p a b):Off (smul K p) (smul K a) (smul K b):=by
 obtain ⟨f,fa,fb,fp⟩:=h
 exact ⟨f.sc K,by rw [ev_sc0];exact pp hK fa,by rw [ev_sc0];exact pp hK fb,by rw [ev_sc0];exact pm hK fp⟩
theorem Simple.sc {K:Int} (hK:0 < K) {P:Way} (h:Simple P):Simple (P.sc K):=
 ⟨h.n3,fun j k h1 h2 h3 h4=>(h.off j k h1 h2 h3 h4).sc hK,fun j k h1 h2 h3 h4=>(h.apart j k h1 h2 h3 h4).sc hK,fun k h1=>⟨(h.bend k h1).1.sc hK,(h.bend k h1).2.sc hK⟩,fun k h1=>⟨(h.bend0 k h1).1.sc hK,(h.bend0 k h1).2.sc hK⟩⟩
theorem Simple.ne {P:Way} (h:Simple P) {k:Nat} (hk:k < P.n):P.v k≠P.v (k + 1):=by
 rcases (show k + 1 < P.n∨k + 1=P.n by omega) with h1|h1
 ·exact (h.bend k h1).1.1
 ·have:=(h.bend0 k h1).1.1
  rwa [h1,P.cyc]
theorem Part.comm2 {a b q r:Pt} (h:Part a b q r):Part a b r q:=let ⟨f,fa,fb,fq,fr⟩:=h;⟨f,fa,fb,fr,fq⟩
theorem Simple.inn {P:Way} (h:Simple P) {k:Nat} (hk:k < P.n) {x y:Pt} (hx:OnI x (P.v k) (P.v (k + 1))) (hy:OnI y (P.v k) (P.v (k + 1))) {j:Nat} (hj:j < P.n) (hjk:j≠k) :
  Part (P.v j) (P.v (j + 1)) x y:=by
 have h3:=h.n3
 have hc:=P.cyc
 by_cases ha:Adj P.n j k
 ·rcases ha with rfl|rfl|⟨rfl,ha⟩|⟨rfl,ha⟩
  ·exact ((h.bend j hk).2.part hx.swap hy.swap).swap
  ·exact (h.bend k hj).1.part hx hy
  ·rw [ha,hc] at hx hy
   exact (h.bend0 k ha).1.part hx hy
  ·rw [show j + 1=P.n from ha,hc]
   exact ((h.bend0 j ha).2.part hx.swap hy.swap).swap
 ·exact (h.apart j k hj hk hjk ha).inn hx hy
theorem Simple.along (h:Aff) {P:Way} (hP:Simple P) {k:Nat} (hk:k < P.n) {x y:Pt} (hx:OnI x (P.v k) (P.v (k + 1))) (hy:OnI y (P.v k) (P.v (k + 1))):wndO h P k x=wndO h P k y:=
 wndO_along h P hk hx.flat hy.flat (hP.ne hk) fun _ hj hjk=>hP.inn hk hx hy hj hjk
def lam (h:Aff) (P:Way) (k:Nat) (x:Pt):Int:=wndO h P k x + if h.ev (P.v k) < h.ev (P.v (k + 1)) then 1 else 0
def Sloped (h:Aff) (P:Way):Prop:=∀ k,k < P.n→h.ev (P.v k)≠h.ev (P.v (k + 1))
theorem wnd_left {h:Aff} {P:Way} (hh:Sloped h P) {k:Nat} (hk:k < P.n) {p x:Pt} (hx:OnI x (P.v k) (P.v (k + 1))) (hs:∀ j,j < P.n→j≠k→Part (P.v j) (P.v (j + 1)) p x) (ht:0 < turnZ (P.v k) (P.v (k + 1)) p) :
  wnd h P p=lam h P k x:=by
 rw [wnd_see h P hk (hx.lev (hh k hk)) hs]
 unfold lam side
 have:=hh k hk
 repeat' split
 all_goals omega
theorem wnd_right {h:Aff} {P:Way} (hh:Sloped h P) {k:Nat} (hk:k < P.n) {p x:Pt} (hx:OnI x (P.v k) (P.v (k + 1))) (hs:∀ j,j < P.n→j≠k→Part (P.v j) (P.v (j + 1)) p x) (ht:turnZ (P.v k) (P.v (k + 1)) p < 0) :
  wnd h P p=lam h P k x - 1:=by
 rw [wnd_see h P hk (hx.lev (hh k hk)) hs]
 unfold lam side
 have:=hh k hk
 repeat' split
 all_goals omega
def nearA (K:Int) (a b:Pt):Pt:=padd (smul K a) (psub b a)
theorem nearA_on {K:Int} (hK:2≤K) (a b:Pt):OnI (nearA K a b) (smul K a) (smul K b):=
 ⟨K - 1,1,by omega,by omega,by unfold nearA smul padd psub;grind,by unfold nearA smul padd psub;grind⟩
theorem part_turn {a b q r:Pt} {m:Int} (hm:m=1∨m=-1) (hq:0 < m * turnZ a b q) (hr:0 < m * turnZ a b r):Part a b q r:=by
 have ta:turnZ a b a=0:=by unfold turnZ;grind
 have tb:turnZ a b b=0:=by unfold turnZ;grind
 refine ⟨Aff.lc (-m) (Aff.turn a b) 0 (Aff.turn a b) 1,?_,?_,?_,?_⟩ <;> rw [ev_lc,ev_turn]
 ·rw [ta];omega
 ·rw [tb];omega
 ·rw [Int.neg_mul];omega
 ·rw [Int.neg_mul];omega
def rotP (d:Pt):Pt:=(-d.2,d.1)
theorem corner_at {P:Way} (hP:Simple P) {h:Aff} (hh:Sloped h P) {k:Nat} (hk:k + 1 < P.n) {K:Int} (hK:2≤K) (d:Pt)
  (hn:∀ j,j < P.n→j≠k→j≠k + 1→Part (smul K (P.v j)) (smul K (P.v (j + 1))) (padd (smul K (P.v (k + 1))) d) (nearA K (P.v (k + 1)) (P.v k))∧Part (smul K (P.v j)) (smul K (P.v (j + 1))) (padd (smul K (P.v (k + 1))) d) (nearA K (P.v (k + 1)) (P.v (k + 2))))
  (h1:Part (smul K (P.v (k + 1))) (smul K (P.v (k + 2))) (padd (smul K (P.v (k + 1))) d) (nearA K (P.v (k + 1)) (P.v k)))
  (h2:Part (smul K (P.v k)) (smul K (P.v (k + 1))) (padd (smul K (P.v (k + 1))) d) (nearA K (P.v (k + 1)) (P.v (k + 2))))
  (hs:(0 < turnZ (smul K (P.v k)) (smul K (P.v (k + 1))) (padd (smul K (P.v (k + 1))) d)∧0 < turnZ (smul K (P.v (k + 1))) (smul K (P.v (k + 2))) (padd (smul K (P.v (k + 1))) d)) ∨
   (turnZ (smul K (P.v k)) (smul K (P.v (k + 1))) (padd (smul K (P.v (k + 1))) d) < 0∧turnZ (smul K (P.v (k + 1))) (smul K (P.v (k + 2))) (padd (smul K (P.v (k + 1))) d) < 0)) :
  lam (h.sc K) (P.sc K) k (nearA K (P.v (k + 1)) (P.v k))=lam (h.sc K) (P.sc K) (k + 1) (nearA K (P.v (k + 1)) (P.v (k + 2))):=by
 have hK0:0 < K:=by omega
 have hh':Sloped (h.sc K) (P.sc K):=fun j hj e=>hh j hj (by
  have e:(h.sc K).ev (smul K (P.v j))=(h.sc K).ev (smul K (P.v (j + 1))):=e
  rw [ev_sc0,ev_sc0] at e
  exact Int.eq_of_mul_eq_mul_left (by omega) e)
 have o1:OnI (nearA K (P.v (k + 1)) (P.v k)) ((P.sc K).v k) ((P.sc K).v (k + 1)):=(nearA_on hK _ _).swap
 have o2:OnI (nearA K (P.v (k + 1)) (P.v (k + 2))) ((P.sc K).v (k + 1)) ((P.sc K).v (k + 1 + 1)):=nearA_on hK _ _
 have s1:∀ j,j < (P.sc K).n→j≠k→Part ((P.sc K).v j) ((P.sc K).v (j + 1)) (padd (smul K (P.v (k + 1))) d) (nearA K (P.v (k + 1)) (P.v k)):=fun j hj hjk=>by
  by_cases e:j=k + 1
  ·subst e;exact h1
  ·exact (hn j hj hjk e).1
 have s2:∀ j,j < (P.sc K).n→j≠k + 1→Part ((P.sc K).v j) ((P.sc K).v (j + 1)) (padd (smul K (P.v (k + 1))) d) (nearA K (P.v (k + 1)) (P.v (k + 2))):=fun j hj hjk=>by
  by_cases e:j=k
  ·subst e;exact h2
  ·exact (hn j hj e hjk).2
 have hkn:k < (P.sc K).n:=by show k < P.n;omega
 have hkn1:k + 1 < (P.sc K).n:=hk
 rcases hs with ⟨t1,t2⟩|⟨t1,t2⟩
 ·rw [← wnd_left hh' hkn o1 s1 t1,← wnd_left hh' hkn1 o2 s2 t2]
 ·have e1:=wnd_right hh' hkn o1 s1 t1
  have e2:=wnd_right hh' hkn1 o2 s2 t2
  omega
theorem Simple.corner {P:Way} (hP:Simple P) {h:Aff} (hh:Sloped h P) {k:Nat} (hk:k + 1 < P.n) :
  Late fun K=>lam (h.sc K) (P.sc K) k (nearA K (P.v (k + 1)) (P.v k))=lam (h.sc K) (P.sc K) (k + 1) (nearA K (P.v (k + 1)) (P.v (k + 2))):=by
 have near:∀ d:Pt,Late fun K=>∀ j,j < P.n→(j≠k→j≠k + 1→Part (smul K (P.v j)) (smul K (P.v (j + 1))) (padd (smul K (P.v (k + 1))) d) (nearA K (P.v (k + 1)) (P.v k))∧Part (smul K (P.v j)) (smul K (P.v (j + 1))) (padd (smul K (P.v (k + 1))) d) (nearA K (P.v (k + 1)) (P.v (k + 2)))):=by
  intro d
  refine Late.all fun j hj=>?_
  by_cases e:j=k∨j=k + 1
  ·exact Late.of fun K _ h1 h2=>absurd e (by omega)
  ·have ho:=hP.off j k hj hk (by omega) (by omega)
   exact ((ho.near d (psub (P.v k) (P.v (k + 1)))).and (ho.near d (psub (P.v (k + 2)) (P.v (k + 1))))).imp fun K _ h _ _=>h
 have hb:=hP.bend k hk
 generalize hu:P.v k=u at *
 generalize hv:P.v (k + 1)=v at *
 generalize hw:P.v (k + 2)=w at *
 have fin:∀ (d:Pt) (K:Int),2≤K→(∀ j,j < P.n→(j≠k→j≠k + 1→Part (smul K (P.v j)) (smul K (P.v (j + 1))) (padd (smul K v) d) (nearA K v u)∧Part (smul K (P.v j)) (smul K (P.v (j + 1))) (padd (smul K v) d) (nearA K v w))) →
   Part (smul K v) (smul K w) (padd (smul K v) d) (nearA K v u)→Part (smul K u) (smul K v) (padd (smul K v) d) (nearA K v w) →
   ((0 < turnZ (smul K u) (smul K v) (padd (smul K v) d)∧0 < turnZ (smul K v) (smul K w) (padd (smul K v) d))∨(turnZ (smul K u) (smul K v) (padd (smul K v) d) < 0∧turnZ (smul K v) (smul K w) (padd (smul K v) d) < 0)) →
   lam (h.sc K) (P.sc K) k (nearA K v u)=lam (h.sc K) (P.sc K) (k + 1) (nearA K v w):=by
  intro d K hK hn h1 h2 hs
  subst hu hv hw
  exact corner_at hP hh hk hK d hn h1 h2 hs
 by_cases ht:turnZ u v w=0
 ·-- straight on
  have hd:0 < dotZ u v w:=hb.1.2.resolve_left (fun e=>e ht)
  have hvw:v≠w:=fun e=>hb.2.1 e.symm
  have hsq:=sq_pos hvw
  have hsu:=sq_pos hb.1.1
  refine ((near (rotP (psub w v))).and (Late.ge 2)).imp fun K hK ⟨hn,h2⟩=>fin _ K h2 hn ?_ ?_ ?_
  ·have ev:Aff.ev (Aff.lc (-2) (Aff.dot (smul K w) (smul K v)) (-2) (Aff.turn (smul K v) (smul K w)) 1) (smul K v)=1:=by rw [ev_lc,ev_dot,ev_turn];unfold dotZ turnZ;grind
   have ew:Aff.ev (Aff.lc (-2) (Aff.dot (smul K w) (smul K v)) (-2) (Aff.turn (smul K v) (smul K w)) 1) (smul K w)=2 * (K * (K * ((w.1 - v.1) * (w.1 - v.1) + (w.2 - v.2) * (w.2 - v.2)))) + 1:=by rw [ev_lc,ev_dot,ev_turn];unfold dotZ turnZ smul;grind
   have ep:Aff.ev (Aff.lc (-2) (Aff.dot (smul K w) (smul K v)) (-2) (Aff.turn (smul K v) (smul K w)) 1) (padd (smul K v) (rotP (psub w v)))=-2 * (K * ((w.1 - v.1) * (w.1 - v.1) + (w.2 - v.2) * (w.2 - v.2))) + 1:=by rw [ev_lc,ev_dot,ev_turn];unfold dotZ turnZ smul padd psub rotP;grind
   have ex:Aff.ev (Aff.lc (-2) (Aff.dot (smul K w) (smul K v)) (-2) (Aff.turn (smul K v) (smul K w)) 1) (nearA K v u)=-2 * (K * dotZ u v w) + (-2) * (K * turnZ u v w) + 1:=by rw [ev_lc,ev_dot,ev_turn];unfold nearA dotZ turnZ smul padd psub;grind
   refine ⟨_,by rw [ev];omega,by rw [ew];have:=pp hK (pp hK hsq);omega,by rw [ep];have:=pp hK hsq;omega,by rw [ex,ht];have:=pp hK hd;omega⟩
  ·have ev:Aff.ev (Aff.lc (-2) (Aff.dot (smul K u) (smul K v)) (-2) (Aff.turn (smul K u) (smul K v)) 1) (smul K v)=1:=by rw [ev_lc,ev_dot,ev_turn];unfold dotZ turnZ;grind
   have eu:Aff.ev (Aff.lc (-2) (Aff.dot (smul K u) (smul K v)) (-2) (Aff.turn (smul K u) (smul K v)) 1) (smul K u)=2 * (K * (K * ((v.1 - u.1) * (v.1 - u.1) + (v.2 - u.2) * (v.2 - u.2)))) + 1:=by rw [ev_lc,ev_dot,ev_turn];unfold dotZ turnZ smul;grind
   have ep:Aff.ev (Aff.lc (-2) (Aff.dot (smul K u) (smul K v)) (-2) (Aff.turn (smul K u) (smul K v)) 1) (padd (smul K v) (rotP (psub w v)))=2 * (K * turnZ u v w) - 2 * (K * dotZ u v w) + 1:=by rw [ev_lc,ev_dot,ev_turn];unfold dotZ turnZ smul padd psub rotP;grind
   have ey:Aff.ev (Aff.lc (-2) (Aff.dot (smul K u) (smul K v)) (-2) (Aff.turn (smul K u) (smul K v)) 1) (nearA K v w)=-2 * (K * dotZ u v w) + (-2) * (K * turnZ u v w) + 1:=by rw [ev_lc,ev_dot,ev_turn];unfold nearA dotZ turnZ smul padd psub;grind
   refine ⟨_,by rw [eu];have:=pp hK (pp hK hsu);omega,by rw [ev];omega,by rw [ep,ht];have:=pp hK hd;omega,by rw [ey,ht];have:=pp hK hd;omega⟩
  ·refine .inl ⟨?_,?_⟩
   ·have e:turnZ (smul K u) (smul K v) (padd (smul K v) (rotP (psub w v)))=K * dotZ u v w:=by unfold dotZ turnZ smul padd psub rotP;grind
    rw [e];exact pp hK hd
   ·have e:turnZ (smul K v) (smul K w) (padd (smul K v) (rotP (psub w v)))=K * ((w.1 - v.1) * (w.1 - v.1) + (w.2 - v.2) * (w.2 - v.2)):=by unfold turnZ smul padd psub rotP;grind
    rw [e];exact pp hK hsq
 ·-- a bend
  have e1:∀ K,turnZ (smul K u) (smul K v) (padd (smul K v) (padd (psub u v) (psub w v)))=K * turnZ u v w:=fun K=>by unfold turnZ smul padd psub;grind
  have e2:∀ K,turnZ (smul K v) (smul K w) (padd (smul K v) (padd (psub u v) (psub w v)))=K * turnZ u v w:=fun K=>by unfold turnZ smul padd psub;grind
  have e3:∀ K,turnZ (smul K v) (smul K w) (nearA K v u)=K * turnZ u v w:=fun K=>by unfold nearA turnZ smul padd psub;grind
  have e4:∀ K,turnZ (smul K u) (smul K v) (nearA K v w)=K * turnZ u v w:=fun K=>by unfold nearA turnZ smul padd psub;grind
  refine ((near (padd (psub u v) (psub w v))).and (Late.ge 2)).imp fun K hK ⟨hn,h2⟩=>?_
  rcases (show 0 < turnZ u v w∨turnZ u v w < 0 by omega) with hp|hp
  ·have:=pp hK hp
   refine fin _ K h2 hn (part_turn (m:=1) (.inl rfl) ?_ ?_) (part_turn (m:=1) (.inl rfl) ?_ ?_) (.inl ⟨?_,?_⟩)
   ·rw [e2];omega
   ·rw [e3];omega
   ·rw [e1];omega
   ·rw [e4];omega
   ·rw [e1];omega
   ·rw [e2];omega
  ·have:=pm hK hp
   refine fin _ K h2 hn (part_turn (m:=-1) (.inr rfl) ?_ ?_) (part_turn (m:=-1) (.inr rfl) ?_ ?_) (.inr ⟨?_,?_⟩)
   ·rw [e2];omega
   ·rw [e3];omega
   ·rw [e1];omega
   ·rw [e4];omega
   ·rw [e1];omega
   ·rw [e2];omega
theorem Simple.left {P:Way} (hP:Simple P) {h:Aff} (hh:Sloped h P):∃ l:Int,∀ (K:Int) (k:Nat) (x:Pt),0 < K→k < P.n→OnI x (smul K (P.v k)) (smul K (P.v (k + 1)))→lam (h.sc K) (P.sc K) k x=l:=by
 have hc:Late fun K=>∀ k,k < P.n→k + 1 < P.n→lam (h.sc K) (P.sc K) k (nearA K (P.v (k + 1)) (P.v k))=lam (h.sc K) (P.sc K) (k + 1) (nearA K (P.v (k + 1)) (P.v (k + 2))):=by
  refine Late.all fun k _=>?_
  by_cases hk:k + 1 < P.n
  ·exact (hP.corner hh hk).imp fun K _ h _=>h
  ·exact Late.of fun K _ h=>absurd h hk
 obtain ⟨K,hK,hc,h2⟩:=(hc.and (Late.ge 2)).get
 have alg:∀ {k:Nat} {x y:Pt},k < P.n→OnI x (smul K (P.v k)) (smul K (P.v (k + 1)))→OnI y (smul K (P.v k)) (smul K (P.v (k + 1)))→lam (h.sc K) (P.sc K) k x=lam (h.sc K) (P.sc K) k y:=fun {k x y} hk hx hy=>by
  unfold lam
  rw [(hP.sc hK).along (h.sc K) (k:=k) hk hx hy]
 have all:∀ k,k < P.n→lam (h.sc K) (P.sc K) k (nearA K (P.v k) (P.v (k + 1)))=lam (h.sc K) (P.sc K) 0 (nearA K (P.v 0) (P.v 1)):=by
  intro k
  induction k with
  | zero=>intro _;rfl
  | succ k ih=>
   intro hk
   rw [← ih (by omega),← hc k (by omega) hk]
   exact alg (by omega) (nearA_on h2 _ _).swap (nearA_on h2 _ _)
 refine ⟨lam (h.sc K) (P.sc K) 0 (nearA K (P.v 0) (P.v 1)),fun K' k x hK' hk hx=>?_⟩
 rw [← all k hk]
 have up:∀ {L:Int},0 < L→∀ x,lam ((h.sc L)) (P.sc L) k x=wndO (h.sc L) (P.sc L) k x + if h.ev (P.v k) < h.ev (P.v (k + 1)) then 1 else 0:=fun {L} hL x=>by
  unfold lam
  have e:((h.sc L).ev ((P.sc L).v k) < (h.sc L).ev ((P.sc L).v (k + 1)))=(h.ev (P.v k) < h.ev (P.v (k + 1))):=by
   show ((h.sc L).ev (smul L (P.v k)) < (h.sc L).ev (smul L (P.v (k + 1))))=_
   rw [ev_sc0,ev_sc0]
   exact propext (mul_lt_iff hL).1
  simp only [e]
 rw [up hK',up hK]
 congr 1
 have sc2:∀ {L M:Int} (p:Pt),smul L (smul M p)=smul (L * M) p:=fun {L M} p=>by unfold smul;simp [Int.mul_assoc]
 have scP:∀ {L M:Int},(P.sc M).sc L=P.sc (L * M):=fun {L M}=>by
  unfold Way.sc
  simp only [sc2]
 have scH:∀ {L M:Int},(h.sc M).sc L=h.sc (L * M):=fun {L M}=>by unfold Aff.sc;simp [Int.mul_assoc]
 rw [← wndO_sc (h.sc K') (P.sc K') hK k x,← wndO_sc (h.sc K) (P.sc K) hK' k,scP,scP,scH,scH,Int.mul_comm K' K]
 have hKK:0 < K * K':=pp hK hK'
 refine (hP.sc hKK).along _ (k:=k) hk ?_ ?_
 ·have:=smul_on hK hx
  rw [sc2,sc2] at this
  exact this
 ·have:=smul_on hK' (nearA_on h2 (P.v k) (P.v (k + 1)))
  rw [sc2,sc2,Int.mul_comm K' K] at this
  exact this
theorem least {S:Nat→Prop} {a b:Nat→Int}:∀ (n:Nat),(∀ k,k < n→S k→0 < b k)→(∃ k,k < n∧S k)→∃ k,k < n∧S k∧∀ j,j < n→S j→a k * b j≤a j * b k
 | 0,_,⟨k,hk,_⟩=>by omega
 | n + 1,hb,⟨k,hk,hS⟩=>by
  by_cases h:∃ k,k < n∧S k
  ·obtain ⟨k,hk,hSk,hm⟩:=least n (fun k h1=>hb k (by omega)) h
   by_cases hn:S n
   ·have hbn:=hb n (by omega) hn
    have hbk:=hb k (by omega) hSk
    rcases (show a k * b n≤a n * b k∨a n * b k≤a k * b n by omega) with hc|hc
    ·refine ⟨k,by omega,hSk,fun j hj hSj=>?_⟩
     rcases (show j < n∨j=n by omega) with h1|h1
     ·exact hm j h1 hSj
     ·subst h1;exact hc
    ·refine ⟨n,by omega,hn,fun j hj hSj=>?_⟩
     rcases (show j < n∨j=n by omega) with h1|h1
     ·have hbj:=hb j (by omega) hSj
      have e1:=hm j h1 hSj
      have e2:a n * b k * b j≤a k * b n * b j:=Int.mul_le_mul_of_nonneg_right hc (by omega)
      have e3:a k * b j * b n≤a j * b k * b n:=Int.mul_le_mul_of_nonneg_right e1 (by omega)
      have e4:b k * (a n * b j)≤b k * (a j * b n):=by
       have e5:a k * b n * b j=a k * b j * b n:=by rw [Int.mul_right_comm]
       have e6:a n * b k * b j=b k * (a n * b j):=by grind
       have e7:a j * b k * b n=b k * (a j * b n):=by grind
       omega
      exact (mul_lt_iff hbk).2.1 e4
     ·subst h1;exact Int.le_refl _
   ·refine ⟨k,by omega,hSk,fun j hj hSj=>?_⟩
    rcases (show j < n∨j=n by omega) with h1|h1
    ·exact hm j h1 hSj
    ·subst h1;exact absurd hSj hn
  ·have hkn:k=n:=by
    rcases (show k < n∨k=n by omega) with h1|h1
    ·exact absurd ⟨k,h1,hS⟩ h
    ·exact h1
   subst hkn
   refine ⟨k,by omega,hS,fun j hj hSj=>?_⟩
   rcases (show j < k∨j=k by omega) with h1|h1
   ·exact absurd ⟨j,h1,hSj⟩ h
   ·subst h1;exact Int.le_refl _
theorem cram (h:Aff) (a b p:Pt):(h.ev b - h.ev a) * p.1 + turnZ a b p * h.v=(h.ev b - h.ev p) * a.1 + (h.ev p - h.ev a) * b.1∧(h.ev b - h.ev a) * p.2 + turnZ a b p * (-h.u)=(h.ev b - h.ev p) * a.2 + (h.ev p - h.ev a) * b.2:=by
 unfold Aff.ev turnZ;constructor <;> grind
def Clear (h:Aff) (P:Way) (p:Pt):Prop:=∀ k,k < P.n→h.ev (P.v k)≠h.ev p∧h.ev (P.v (k + 1))≠h.ev p∧(turnZ (P.v k) (P.v (k + 1)) p=0→(h.ev (P.v k) < h.ev p↔h.ev (P.v (k + 1)) < h.ev p))
def Hit (h:Aff) (p a b:Pt):Prop:=(h.ev a < h.ev p∧h.ev p < h.ev b∧0 < turnZ a b p)∨(h.ev b < h.ev p∧h.ev p < h.ev a∧turnZ a b p < 0)
theorem crN_hit {h:Aff} {p a b:Pt} (h1:h.ev a≠h.ev p) (h2:h.ev b≠h.ev p):crN h p a b≠0↔Hit h p a b:=by
 unfold crN Hit
 repeat' split
 all_goals omega
theorem Hit.sgn {h:Aff} {p a b:Pt} (hh:Hit h p a b):∃ m:Int,(m=1∨m=-1)∧0 < m * turnZ a b p∧0 < m * (h.ev b - h.ev a)∧0 < m * (h.ev p - h.ev a)∧0 < m * (h.ev b - h.ev p):=by
 rcases hh with ⟨h1,h2,h3⟩|⟨h1,h2,h3⟩
 ·exact ⟨1,.inl rfl,by omega,by omega,by omega,by omega⟩
 ·exact ⟨-1,.inr rfl,by omega,by omega,by omega,by omega⟩
def ray (h:Aff) (D T:Int) (p:Pt):Pt:=(D * p.1 + T * h.v,D * p.2 + T * (-h.u))
theorem ray_lev (h:Aff) (D T:Int) (p:Pt):(h.sc D).ev (ray h D T p)=D * h.ev p:=by unfold Aff.ev Aff.sc ray;grind
theorem ray_turn (h:Aff) (D T:Int) (a b p:Pt):turnZ (smul D a) (smul D b) (ray h D T p)=D * (D * turnZ a b p - T * (h.ev b - h.ev a)):=by unfold Aff.ev turnZ smul ray;grind
theorem Simple.cases {P:Way} (hP:Simple P) {h:Aff} (hh:Sloped h P) {l:Int} (hl:∀ (K:Int) (k:Nat) (x:Pt),0 < K→k < P.n→OnI x (smul K (P.v k)) (smul K (P.v (k + 1)))→lam (h.sc K) (P.sc K) k x=l)
  {p:Pt} (hp:Clear h P p):((∀ k,k < P.n→¬ Hit h p (P.v k) (P.v (k + 1)))∧wnd h P p=0)∨wnd h P p=l∨wnd h P p=l - 1:=by
 by_cases hC:∃ k,k < P.n∧Hit h p (P.v k) (P.v (k + 1))
 ·refine .inr ?_
  have hb:∀ k,k < P.n→Hit h p (P.v k) (P.v (k + 1))→0 < ((h.ev (P.v (k + 1)) - h.ev (P.v k)).natAbs:Int):=fun k _ hk=>by
   rcases hk with hk|hk <;> omega
  obtain ⟨k,hk,hS,hmin⟩:=least (S:=fun k=>Hit h p (P.v k) (P.v (k + 1))) (a:=fun k=>((turnZ (P.v k) (P.v (k + 1)) p).natAbs:Int)) (b:=fun k=>((h.ev (P.v (k + 1)) - h.ev (P.v k)).natAbs:Int)) P.n hb hC
  obtain ⟨m,hm,m1,m2,m3,m4⟩:=hS.sgn
  obtain ⟨D,hD⟩:∃ D:Int,D=m * (h.ev (P.v (k + 1)) - h.ev (P.v k)):=⟨_,rfl⟩
  obtain ⟨T,hT⟩:∃ T:Int,T=m * turnZ (P.v k) (P.v (k + 1)) p:=⟨_,rfl⟩
  have hD0:0 < D:=by omega
  have hT0:0 < T:=by omega
  have aD:((h.ev (P.v (k + 1)) - h.ev (P.v k)).natAbs:Int)=D:=by rcases hm with rfl|rfl <;> omega
  have aT:((turnZ (P.v k) (P.v (k + 1)) p).natAbs:Int)=T:=by rcases hm with rfl|rfl <;> omega
  rw [aD,aT] at hmin
  have hx:OnI (ray h D T p) (smul D (P.v k)) (smul D (P.v (k + 1))):=by
   obtain ⟨c1,c2⟩:=cram h (P.v k) (P.v (k + 1)) p
   refine ⟨m * (h.ev (P.v (k + 1)) - h.ev p),m * (h.ev p - h.ev (P.v k)),m4,m3,?_,?_⟩
   ·have e:m * (h.ev (P.v (k + 1)) - h.ev p) + m * (h.ev p - h.ev (P.v k))=D:=by rw [hD];grind
    rw [e]
    unfold ray smul
    simp only
    rw [hT,hD]
    have c3:=congrArg (fun z=>m * (h.ev (P.v (k + 1)) - h.ev (P.v k)) * (m * z)) c1
    grind
   ·have e:m * (h.ev (P.v (k + 1)) - h.ev p) + m * (h.ev p - h.ev (P.v k))=D:=by rw [hD];grind
    rw [e]
    unfold ray smul
    simp only
    rw [hT,hD]
    have c3:=congrArg (fun z=>m * (h.ev (P.v (k + 1)) - h.ev (P.v k)) * (m * z)) c2
    grind
  have hs:∀ j,j < (P.sc D).n→j≠k→Part ((P.sc D).v j) ((P.sc D).v (j + 1)) (smul D p) (ray h D T p):=by
   intro j hj hjk
   have hj:j < P.n:=hj
   show Part (smul D (P.v j)) (smul D (P.v (j + 1))) _ _
   obtain ⟨q1,q2,q3⟩:=hp j hj
   have ep:turnZ (smul D (P.v j)) (smul D (P.v (j + 1))) (smul D p)=D * (D * turnZ (P.v j) (P.v (j + 1)) p):=turn_sc0 _ _ _ _
   have er:=ray_turn h D T (P.v j) (P.v (j + 1)) p
   by_cases hb1:h.ev p < h.ev (P.v j)∧h.ev p < h.ev (P.v (j + 1))
   ·refine ⟨Aff.lc 1 (h.sc D) 0 (h.sc D) (-(D * h.ev p)),?_,?_,?_,?_⟩ <;> rw [ev_lc]
    ·rw [ev_sc0];have:=(mul_lt_iff hD0).1.2 hb1.1;omega
    ·rw [ev_sc0];have:=(mul_lt_iff hD0).1.2 hb1.2;omega
    ·rw [ev_sc0];omega
    ·rw [ray_lev];omega
   by_cases hb2:h.ev (P.v j) < h.ev p∧h.ev (P.v (j + 1)) < h.ev p
   ·refine ⟨Aff.lc (-1) (h.sc D) 0 (h.sc D) (D * h.ev p),?_,?_,?_,?_⟩ <;> rw [ev_lc]
    ·rw [ev_sc0];have:=(mul_lt_iff hD0).1.2 hb2.1;omega
    ·rw [ev_sc0];have:=(mul_lt_iff hD0).1.2 hb2.2;omega
    ·rw [ev_sc0];omega
    ·rw [ray_lev];omega
   have hne:turnZ (P.v j) (P.v (j + 1)) p≠0:=fun e=>by have:=q3 e;omega
   by_cases hj1:Hit h p (P.v j) (P.v (j + 1))
   ·-- a wall that is met later
    have hmj:=hmin j hj hj1
    obtain ⟨n,hn,n1,n2,n3,n4⟩:=hj1.sgn
    have bD:((h.ev (P.v (j + 1)) - h.ev (P.v j)).natAbs:Int)=n * (h.ev (P.v (j + 1)) - h.ev (P.v j)):=by rcases hn with rfl|rfl <;> omega
    have bT:((turnZ (P.v j) (P.v (j + 1)) p).natAbs:Int)=n * turnZ (P.v j) (P.v (j + 1)) p:=by rcases hn with rfl|rfl <;> omega
    rw [bD,bT] at hmj
    have e1:n * (D * turnZ (P.v j) (P.v (j + 1)) p - T * (h.ev (P.v (j + 1)) - h.ev (P.v j)))=n * turnZ (P.v j) (P.v (j + 1)) p * D - T * (n * (h.ev (P.v (j + 1)) - h.ev (P.v j))):=by grind
    rcases (show T * (n * (h.ev (P.v (j + 1)) - h.ev (P.v j))) < n * turnZ (P.v j) (P.v (j + 1)) p * D∨T * (n * (h.ev (P.v (j + 1)) - h.ev (P.v j)))=n * turnZ (P.v j) (P.v (j + 1)) p * D by omega) with hlt|heq
    ·refine part_turn hn ?_ ?_
     ·rw [ep,show n * (D * (D * turnZ (P.v j) (P.v (j + 1)) p))=D * (D * (n * turnZ (P.v j) (P.v (j + 1)) p)) by grind]
      exact pp hD0 (pp hD0 n1)
     ·rw [er,show ∀ z,n * (D * z)=D * (n * z) from fun z=>by grind,e1]
      exact pp hD0 (by omega)
    ·exfalso
     have hxj:OnI (ray h D T p) (smul D (P.v j)) (smul D (P.v (j + 1))):=by
      have hfl:turnZ (smul D (P.v j)) (smul D (P.v (j + 1))) (ray h D T p)=0:=by
       rw [er]
       have:n * (D * turnZ (P.v j) (P.v (j + 1)) p - T * (h.ev (P.v (j + 1)) - h.ev (P.v j)))=0:=by omega
       rcases Int.mul_eq_zero.1 this with e|e
       ·omega
       ·rw [e,Int.mul_zero]
      obtain ⟨c1,c2⟩:=cram (h.sc D) (smul D (P.v j)) (smul D (P.v (j + 1))) (ray h D T p)
      rw [hfl,ev_sc0,ev_sc0,ray_lev] at c1 c2
      refine ⟨n * (D * (h.ev (P.v (j + 1)) - h.ev p)),n * (D * (h.ev p - h.ev (P.v j))),?_,?_,?_,?_⟩
      ·rw [show n * (D * (h.ev (P.v (j + 1)) - h.ev p))=D * (n * (h.ev (P.v (j + 1)) - h.ev p)) by grind];exact pp hD0 n4
      ·rw [show n * (D * (h.ev p - h.ev (P.v j)))=D * (n * (h.ev p - h.ev (P.v j))) by grind];exact pp hD0 n3
      ·have c3:=congrArg (fun z=>n * z) c1
       grind
      ·have c3:=congrArg (fun z=>n * z) c2
       grind
     obtain ⟨f,fa,fb,fx,_⟩:=(hP.sc hD0).inn (k:=k) hk hx hx (j:=j) hj hjk
     have g:=hxj.neg (f:=Aff.lc (-1) f 0 f 0) (by rw [ev_lc];have:0 < f.ev (smul D (P.v j)):=fa;omega) (by rw [ev_lc];have:0 < f.ev (smul D (P.v (j + 1))):=fb;omega)
     rw [ev_lc] at g
     omega
   ·-- a wall on the other side
    rcases (show (h.ev (P.v j) < h.ev p∧h.ev p < h.ev (P.v (j + 1)))∨(h.ev (P.v (j + 1)) < h.ev p∧h.ev p < h.ev (P.v j)) by omega) with hc|hc
    ·have ht:turnZ (P.v j) (P.v (j + 1)) p < 0:=by
      rcases (show turnZ (P.v j) (P.v (j + 1)) p < 0∨0 < turnZ (P.v j) (P.v (j + 1)) p by omega) with h|h
      ·exact h
      ·exact absurd (.inl ⟨hc.1,hc.2,h⟩) hj1
     have g1:=pm hD0 ht
     have g2:=pp hT0 (show 0 < h.ev (P.v (j + 1)) - h.ev (P.v j) by omega)
     refine part_turn (m:=-1) (.inr rfl) ?_ ?_
     ·rw [ep];have:=pm hD0 g1;omega
     ·rw [er];have:=pm hD0 (show D * turnZ (P.v j) (P.v (j + 1)) p - T * (h.ev (P.v (j + 1)) - h.ev (P.v j)) < 0 by omega);omega
    ·have ht:0 < turnZ (P.v j) (P.v (j + 1)) p:=by
      rcases (show turnZ (P.v j) (P.v (j + 1)) p < 0∨0 < turnZ (P.v j) (P.v (j + 1)) p by omega) with h|h
      ·exact absurd (.inr ⟨hc.1,hc.2,h⟩) hj1
      ·exact h
     have g1:=pp hD0 ht
     have g2:=pm hT0 (show h.ev (P.v (j + 1)) - h.ev (P.v j) < 0 by omega)
     refine part_turn (m:=1) (.inl rfl) ?_ ?_
     ·rw [ep];have:=pp hD0 g1;omega
     ·rw [er];have:=pp hD0 (show 0 < D * turnZ (P.v j) (P.v (j + 1)) p - T * (h.ev (P.v (j + 1)) - h.ev (P.v j)) by omega);omega
  rw [← wnd_sc h P hD0 p]
  have hhD:Sloped (h.sc D) (P.sc D):=fun j hj e=>hh j hj (by
   have e:(h.sc D).ev (smul D (P.v j))=(h.sc D).ev (smul D (P.v (j + 1))):=e
   rw [ev_sc0,ev_sc0] at e
   exact Int.eq_of_mul_eq_mul_left (by omega) e)
  have et:turnZ ((P.sc D).v k) ((P.sc D).v (k + 1)) (smul D p)=D * (D * turnZ (P.v k) (P.v (k + 1)) p):=turn_sc0 _ _ _ _
  rcases (show 0 < turnZ (P.v k) (P.v (k + 1)) p∨turnZ (P.v k) (P.v (k + 1)) p < 0 by rcases hm with rfl|rfl <;> omega) with h1|h1
  ·refine .inl ?_
   rw [wnd_left hhD (k:=k) hk hx hs (by rw [et];exact pp hD0 (pp hD0 h1)),hl D k _ hD0 hk hx]
  ·refine .inr ?_
   rw [wnd_right hhD (k:=k) hk hx hs (by rw [et];exact pm hD0 (pm hD0 h1)),hl D k _ hD0 hk hx]
 ·refine .inl ⟨fun k hk hS=>hC ⟨k,hk,hS⟩,?_⟩
  have:wnd h P p=sumN (fun _=>0) P.n:=sumN_congr fun k hk=>by
   obtain ⟨q1,q2,-⟩:=hp k hk
   have:=crN_hit q1 q2
   by_cases e:crN h p (P.v k) (P.v (k + 1))=0
   ·exact e
   ·exact absurd ⟨k,hk,this.1 e⟩ hC
  rw [this]
  have z:∀ n,sumN (fun _=>0) n=0:=fun n=>by
   induction n with
   | zero=>rfl
   | succ n ih=>simp only [sumN,ih];rfl
  exact z _
theorem sloped_sc {h:Aff} {P:Way} (hh:Sloped h P) {K:Int} (hK:0 < K):Sloped (h.sc K) (P.sc K):=fun j hj e=>hh j hj (by
 have e:(h.sc K).ev (smul K (P.v j))=(h.sc K).ev (smul K (P.v (j + 1))):=e
 rw [ev_sc0,ev_sc0] at e
 exact Int.eq_of_mul_eq_mul_left (by omega) e)
theorem smul_one (p:Pt):smul 1 p=p:=by unfold smul;simp
theorem Simple.zero_one {P:Way} (hP:Simple P) {h:Aff} (hh:Sloped h P):∃ l:Int,(l=0∨l=1) ∧
  (∀ (K:Int) (k:Nat) (x:Pt),0 < K→k < P.n→OnI x (smul K (P.v k)) (smul K (P.v (k + 1)))→lam (h.sc K) (P.sc K) k x=l)∧∀ (K:Int) (p:Pt),0 < K→Clear (h.sc K) (P.sc K) p→wnd (h.sc K) (P.sc K) p=l∨wnd (h.sc K) (P.sc K) p=l - 1:=by
 obtain ⟨l,hl⟩:=hP.left hh
 have h3:=hP.n3
 have hl':∀ {L:Int},0 < L→∀ (K:Int) (k:Nat) (x:Pt),0 < K→k < (P.sc L).n→OnI x (smul K ((P.sc L).v k)) (smul K ((P.sc L).v (k + 1)))→lam ((h.sc L).sc K) ((P.sc L).sc K) k x=l:=by
  intro L hL K k x hK hk hx
  have sc2:∀ {L M:Int} (p:Pt),smul L (smul M p)=smul (L * M) p:=fun {L M} p=>by unfold smul;simp [Int.mul_assoc]
  have scP:∀ {L M:Int},(P.sc M).sc L=P.sc (L * M):=fun {L M}=>by unfold Way.sc;simp only [sc2]
  have scH:∀ {L M:Int},(h.sc M).sc L=h.sc (L * M):=fun {L M}=>by unfold Aff.sc;simp [Int.mul_assoc]
  rw [scP,scH]
  have hx:OnI x (smul K (smul L (P.v k))) (smul K (smul L (P.v (k + 1)))):=hx
  rw [sc2,sc2] at hx
  exact hl _ k x (pp hK hL) hk hx
 have h01:l=0∨l=1:=by
  have hD:h.ev (P.v 0)≠h.ev (P.v 1):=hh 0 (by omega)
  obtain ⟨D,hDe⟩:∃ D,D=h.ev (P.v 1) - h.ev (P.v 0):=⟨_,rfl⟩
  have hD0:D≠0:=by omega
  obtain ⟨K,hKe⟩:∃ K:Int,K=D.natAbs + 2:=⟨_,rfl⟩
  have hK:0 < K:=by omega
  obtain ⟨X,hX⟩:∃ X,X=nearA K (P.v 0) (P.v 1):=⟨_,rfl⟩
  have lX:(h.sc K).ev X=K * h.ev (P.v 0) + D:=by rw [hX,hDe];unfold nearA;rw [ev_sc];unfold Aff.lin psub Aff.ev;grind
  have hlev:∀ j,(h.sc K).ev ((P.sc K).v j)≠(h.sc K).ev X:=by
   intro j e
   have e:(h.sc K).ev (smul K (P.v j))=(h.sc K).ev X:=e
   rw [ev_sc0,lX] at e
   have e1:K * (h.ev (P.v j) - h.ev (P.v 0))=D:=by rw [Int.mul_sub];omega
   rcases (show h.ev (P.v j) - h.ev (P.v 0)=0∨1≤h.ev (P.v j) - h.ev (P.v 0)∨h.ev (P.v j) - h.ev (P.v 0)≤-1 by omega) with g|g|g
   ·rw [g] at e1;omega
   ·have:=(mul_lt_iff (m:=1) (n:=h.ev (P.v j) - h.ev (P.v 0)) hK).2.2 g
    omega
   ·have:=(mul_lt_iff (m:=h.ev (P.v j) - h.ev (P.v 0)) (n:=-1) hK).2.2 g
    omega
  have hM:Late fun M=>∀ j,j < P.n→(0 < (h.sc K).ev ((P.sc K).v (j + 1)) - (h.sc K).ev ((P.sc K).v j)→0 < turnZ ((P.sc K).v j) ((P.sc K).v (j + 1)) X + M * ((h.sc K).ev ((P.sc K).v (j + 1)) - (h.sc K).ev ((P.sc K).v j))) ∧
    ((h.sc K).ev ((P.sc K).v (j + 1)) - (h.sc K).ev ((P.sc K).v j) < 0→turnZ ((P.sc K).v j) ((P.sc K).v (j + 1)) X + M * ((h.sc K).ev ((P.sc K).v (j + 1)) - (h.sc K).ev ((P.sc K).v j)) < 0):=by
   refine Late.all fun j _=>⟨(turnZ ((P.sc K).v j) ((P.sc K).v (j + 1)) X).natAbs + 1,fun M h1 h0=>⟨fun hp=>?_,fun hp=>?_⟩⟩
   ·have:=(mul_lt_iff (m:=1) (n:=(h.sc K).ev ((P.sc K).v (j + 1)) - (h.sc K).ev ((P.sc K).v j)) h0).2.2 (by omega)
    omega
   ·have:=(mul_lt_iff (m:=(h.sc K).ev ((P.sc K).v (j + 1)) - (h.sc K).ev ((P.sc K).v j)) (n:=-1) h0).2.2 (by omega)
    omega
  obtain ⟨M,hM0,hM⟩:=hM.get
  obtain ⟨p,hp⟩:∃ p,p=ray (h.sc K) 1 (-M) X:=⟨_,rfl⟩
  have lp:(h.sc K).ev p=(h.sc K).ev X:=by
   have:=ray_lev (h.sc K) 1 (-M) X
   rw [← hp] at this
   have e:(h.sc K).sc 1=h.sc K:=by unfold Aff.sc;simp
   rw [e] at this;omega
  have tp:∀ j,turnZ ((P.sc K).v j) ((P.sc K).v (j + 1)) p=turnZ ((P.sc K).v j) ((P.sc K).v (j + 1)) X + M * ((h.sc K).ev ((P.sc K).v (j + 1)) - (h.sc K).ev ((P.sc K).v j)):=fun j=>by
   have:=ray_turn (h.sc K) 1 (-M) ((P.sc K).v j) ((P.sc K).v (j + 1)) X
   rw [← hp,smul_one,smul_one] at this
   rw [this,Int.neg_mul];omega
  have hhK:=sloped_sc hh hK
  have hc:Clear (h.sc K) (P.sc K) p:=fun j hj=>by
   have hj:j < P.n:=hj
   refine ⟨by rw [lp];exact hlev j,by rw [lp];exact hlev (j + 1),fun e=>?_⟩
   rw [tp] at e
   have:=hM j hj
   have:=hhK j hj
   omega
  have w0:wnd (h.sc K) (P.sc K) p=0:=by
   have e:∀ j,j < P.n→crN (h.sc K) p ((P.sc K).v j) ((P.sc K).v (j + 1))=(if (h.sc K).ev p < (h.sc K).ev ((P.sc K).v (j + 1)) then 1 else 0) - (if (h.sc K).ev p < (h.sc K).ev ((P.sc K).v j) then 1 else 0):=fun j hj=>by
    have q1:=hM j hj
    have q2:=hhK j hj
    have q3:=hlev j
    have q4:=hlev (j + 1)
    have q5:=tp j
    unfold crN
    repeat' split
    all_goals omega
   have e2:=sumN_tel (fun j=>(if (h.sc K).ev p < (h.sc K).ev ((P.sc K).v j) then (1:Int) else 0)) P.n
   rw [show wnd (h.sc K) (P.sc K) p=sumN (fun j=>(if (h.sc K).ev p < (h.sc K).ev ((P.sc K).v (j + 1)) then (1:Int) else 0) - (if (h.sc K).ev p < (h.sc K).ev ((P.sc K).v j) then 1 else 0)) P.n from sumN_congr e,e2]
   have:(P.sc K).v P.n=(P.sc K).v 0:=(P.sc K).cyc
   simp only [this]
   omega
  have hit:Hit (h.sc K) p ((P.sc K).v 0) ((P.sc K).v 1):=by
   have q1:=hM 0 (by omega)
   have q5:=tp 0
   have l0:(h.sc K).ev ((P.sc K).v 0)=K * h.ev (P.v 0):=ev_sc0 _ _ _
   have l1:(h.sc K).ev ((P.sc K).v 1)=K * h.ev (P.v 0) + K * D:=by rw [← Int.mul_add,hDe];show (h.sc K).ev (smul K (P.v 1))=_;rw [ev_sc0];congr 1;omega
   unfold Hit
   rw [lp,lX,l0,l1]
   rw [l0] at q1 q5
   rw [show (P.sc K).v (0 + 1)=(P.sc K).v 1 from rfl,l1] at q1 q5
   rcases (show 0 < D∨D < 0 by omega) with hd|hd
   ·have:D * 1 < K * D:=by rw [Int.mul_comm K D];exact (mul_lt_iff hd).1.2 (by omega)
    exact .inl ⟨by omega,by omega,by omega⟩
   ·have:K * D < D * 1:=by
     have:=(mul_lt_iff (m:=1) (n:=K) (show 0 < -D by omega)).1.2 (by omega)
     rw [Int.neg_mul,Int.neg_mul,Int.mul_comm D K] at this
     omega
    exact .inr ⟨by omega,by omega,by omega⟩
  rcases (hP.sc hK).cases hhK (hl' hK) hc with ⟨g,_⟩|g|g
  ·exact absurd hit (g 0 (show 0 < P.n by omega))
  ·omega
  ·omega
 refine ⟨l,h01,hl,fun K p hK hp=>?_⟩
 rcases (hP.sc hK).cases (sloped_sc hh hK) (hl' hK) hp with ⟨_,g⟩|g|g <;> omega
def quad (h1 h2:Aff) (p x:Pt):Int:=if h1.ev p < h1.ev x∧h2.ev x≤h2.ev p then 1 else 0
theorem two_id (h1 h2:Aff) (p a b:Pt):(h1.ev a - h1.ev p) * (h2.ev b - h2.ev p) - (h1.ev b - h1.ev p) * (h2.ev a - h2.ev p)=(h1.u * h2.v - h1.v * h2.u) * turnZ a b p:=by unfold Aff.ev turnZ;grind
theorem two_f (h1 f:Aff) (p a b:Pt):(h1.ev b - h1.ev p) * f.ev a - (h1.ev a - h1.ev p) * f.ev b=(h1.ev b - h1.ev a) * f.ev p + (f.u * h1.v - f.v * h1.u) * turnZ a b p:=by unfold Aff.ev turnZ;grind
section
variable {α1 α2 β1 β2 D U fa fb fp κ κ2 : Int}
theorem two_ne (h1:α1≤0) (h2:0 < β1) (F:β1 * fa - α1 * fb=(β1 - α1) * fp + κ * U) (ha:0 < fa) (hb:0 < fb) (hp:fp < 0):U≠0:=by
 rintro rfl
 have g1:=pp h2 ha
 have g2:=mp0 h1 (show 0≤fb by omega)
 have g3:=pm (show 0 < β1 - α1 by omega) hp
 omega
end
theorem crN_two' {h1 h2:Aff} (hD:0 < h1.u * h2.v - h1.v * h2.u) {p a b:Pt} (ho:Off p a b) (hab:h1.ev a≤h1.ev b):crN h1 p a b - crN h2 p a b=quad h1 h2 p b - quad h1 h2 p a:=by
 obtain ⟨f,fa,fb,fp⟩:=ho
 have I:=two_id h1 h2 p a b
 have F1:=two_f h1 f p a b
 have F2:=two_f h2 f p a b
 rw [show h1.ev b - h1.ev a=(h1.ev b - h1.ev p) - (h1.ev a - h1.ev p) by omega] at F1
 rw [show h2.ev b - h2.ev a=(h2.ev b - h2.ev p) - (h2.ev a - h2.ev p) by omega] at F2
 generalize f.u * h1.v - f.v * h1.u=κ at F1
 generalize f.u * h2.v - f.v * h2.u=κ2 at F2
 unfold crN quad
 obtain ⟨α1,hα1⟩:∃ x,x=h1.ev a - h1.ev p:=⟨_,rfl⟩
 obtain ⟨β1,hβ1⟩:∃ x,x=h1.ev b - h1.ev p:=⟨_,rfl⟩
 obtain ⟨α2,hα2⟩:∃ x,x=h2.ev a - h2.ev p:=⟨_,rfl⟩
 obtain ⟨β2,hβ2⟩:∃ x,x=h2.ev b - h2.ev p:=⟨_,rfl⟩
 rw [← hα1,← hβ1,← hα2,← hβ2] at I
 rw [← hα1,← hβ1] at F1
 rw [← hα2,← hβ2] at F2
 generalize turnZ a b p=U at *
 have sU:(0 < (h1.u * h2.v - h1.v * h2.u) * U↔0 < U)∧((h1.u * h2.v - h1.v * h2.u) * U < 0↔U < 0):=mul_sgn hD
 rw [← I] at sU
 rcases (show α1≤0∧β1≤0∨α1≤0∧0 < β1∨0 < α1∧0 < β1 by omega) with ⟨c1,c2⟩|⟨c1,c2⟩|⟨c1,c2⟩
 ·-- both below
  rcases (show (α2≤0∧β2≤0)∨(0 < α2∧0 < β2)∨(α2≤0∧0 < β2)∨(0 < α2∧β2≤0) by omega) with d|d|⟨d1,d2⟩|⟨d1,d2⟩
  ·repeat' split
   all_goals omega
  ·repeat' split
   all_goals omega
  ·have g1:=mp0 c1 (show 0≤β2 by omega)
   have g2:=mm0 c2 d1
   repeat' split
   all_goals omega
  ·have g1:=mm0 c1 d2
   have g2:=mp0 c2 (show 0≤α2 by omega)
   repeat' split
   all_goals omega
 ·have hU:=two_ne c1 c2 F1 fa fb fp
  rcases (show (α2≤0∧β2≤0)∨(0 < α2∧0 < β2)∨(α2≤0∧0 < β2)∨(0 < α2∧β2≤0) by omega) with ⟨d1,d2⟩|⟨d1,d2⟩|⟨d1,d2⟩|⟨d1,d2⟩
  ·have g1:=mm0 c1 d2
   have g2:=pm0 (show 0≤β1 by omega) d1
   repeat' split
   all_goals omega
  ·have g1:=mp0 c1 (show 0≤β2 by omega)
   have g2:=pp c2 d1
   repeat' split
   all_goals omega
  ·repeat' split
   all_goals omega
  ·repeat' split
   all_goals omega
 ·rcases (show (α2≤0∧β2≤0)∨(0 < α2∧0 < β2)∨(α2≤0∧0 < β2)∨(0 < α2∧β2≤0) by omega) with d|d|⟨d1,d2⟩|⟨d1,d2⟩
  ·repeat' split
   all_goals omega
  ·repeat' split
   all_goals omega
  ·have g1:=pp c1 d2
   have g2:=pm0 (show 0≤β1 by omega) d1
   repeat' split
   all_goals omega
  ·have g1:=pm0 (show 0≤α1 by omega) d2
   have g2:=pp c2 d1
   repeat' split
   all_goals omega
theorem crN_two {h1 h2:Aff} (hD:0 < h1.u * h2.v - h1.v * h2.u) {p a b:Pt} (ho:Off p a b):crN h1 p a b - crN h2 p a b=quad h1 h2 p b - quad h1 h2 p a:=by
 rcases (show h1.ev a≤h1.ev b∨h1.ev b≤h1.ev a by omega) with h|h
 ·exact crN_two' hD ho h
 ·have:=crN_two' hD (let ⟨f,fa,fb,fp⟩:=ho;⟨f,fb,fa,fp⟩:Off p b a) h
  rw [crN_swap h1 p a b,crN_swap h2 p a b] at this
  omega
theorem wnd_two {h1 h2:Aff} (hD:h1.u * h2.v - h1.v * h2.u≠0) {P:Way} {p:Pt} (ho:∀ k,k < P.n→Off p (P.v k) (P.v (k + 1))):wnd h1 P p=wnd h2 P p:=by
 have key:∀ {h1 h2:Aff},0 < h1.u * h2.v - h1.v * h2.u→wnd h1 P p=wnd h2 P p:=by
  intro h1 h2 hD
  have e:sumN (fun k=>crN h1 p (P.v k) (P.v (k + 1)) - crN h2 p (P.v k) (P.v (k + 1))) P.n=sumN (fun k=>quad h1 h2 p (P.v (k + 1)) - quad h1 h2 p (P.v k)) P.n:=sumN_congr fun k hk=>crN_two hD (ho k hk)
  rw [sumN_sub,sumN_tel (fun k=>quad h1 h2 p (P.v k)),P.cyc] at e
  unfold wnd
  omega
 have e:h2.u * h1.v - h2.v * h1.u=- (h1.u * h2.v - h1.v * h2.u):=by grind
 rcases (show 0 < h1.u * h2.v - h1.v * h2.u∨0 < h2.u * h1.v - h2.v * h1.u by omega) with h|h
 ·exact key h
 ·exact (key h).symm
theorem Off.not_on {p a b:Pt} (h:Off p a b):¬ OnI p a b:=by
 rintro hx
 obtain ⟨f,fa,fb,fp⟩:=h
 have g:=hx.neg (f:=Aff.lc (-1) f 0 f 0) (by rw [ev_lc];omega) (by rw [ev_lc];omega)
 rw [ev_lc] at g
 omega
theorem on_of_lev {h:Aff} {p a b:Pt} (ht:turnZ a b p=0) (hl:(h.ev a < h.ev p∧h.ev p < h.ev b)∨(h.ev b < h.ev p∧h.ev p < h.ev a)):OnI p a b:=by
 obtain ⟨c1,c2⟩:=cram h a b p
 rw [ht] at c1 c2
 rcases hl with ⟨h1,h2⟩|⟨h1,h2⟩
 ·refine ⟨h.ev b - h.ev p,h.ev p - h.ev a,by omega,by omega,?_,?_⟩
  ·rw [show h.ev b - h.ev p + (h.ev p - h.ev a)=h.ev b - h.ev a by omega];omega
  ·rw [show h.ev b - h.ev p + (h.ev p - h.ev a)=h.ev b - h.ev a by omega];omega
 ·refine ⟨h.ev p - h.ev b,h.ev a - h.ev p,by omega,by omega,?_,?_⟩
  ·have:=congrArg (fun z=>-z) c1
   grind
  ·have:=congrArg (fun z=>-z) c2
   grind
theorem Off.clear {h:Aff} {P:Way} {p:Pt} (ho:∀ k,k < P.n→Off p (P.v k) (P.v (k + 1))) (hl:∀ k,k < P.n→h.ev (P.v k)≠h.ev p):Clear h P p:=fun k hk=>by
 have h2:h.ev (P.v (k + 1))≠h.ev p:=by
  rcases (show k + 1 < P.n∨k + 1=P.n by omega) with e|e
  ·exact hl _ e
  ·rw [e,P.cyc];exact hl 0 (by omega)
 refine ⟨hl k hk,h2,fun ht=>?_⟩
 have h1:=hl k hk
 by_cases hc:h.ev (P.v k) < h.ev p↔h.ev (P.v (k + 1)) < h.ev p
 ·exact hc
 ·exact absurd (on_of_lev (h:=h) ht (by omega)) (ho k hk).not_on
end Go.Proofs.YtpafacebfogkmaaGreat.Geo
