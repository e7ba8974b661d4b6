/- What the proof of 'FnExactPartsOf' needs, part 7: conditions and steps of the functions that it reaches, and the mathematics. -/
import Derived.Test.YtpafacebfogkmaaGreatRows
import Derived.WalkKit
import Derived.WalkSpells
import Derived.Below
import Derived.Orders
import Derived.Maps.AppendAt
import Derived.Laws.StructEq
import Derived.WideShapes
import Derived.ChangeSlices
import Derived.Deep.Strs
import Derived.ChangeOld
import Derived.Shelf.SlLaysF0
import Derived.Shelf.SlSortCmp.InsertionK
import Derived.Shelf.SlSortCmp.SmallK
import Derived.Shelf.SlSortCmp.Xorshift
import Derived.Sort.LotA
import Derived.Shelf.Bits.Mul64
import Derived.Shelf.SlSortCmp.Small
import Derived.Deep.LoopGhost
import Derived.Sort.OwnSorted
import Derived.Test.YtpafacebfogkmaaGreatSFnExactPartsOf6
set_option linter.unusedSimpArgs false
set_option linter.unusedVariables false
namespace Go.Proofs.YtpafacebfogkmaaGreat.Geo
open Go.RowKit
theorem tv_inj {xs:List Pt} (hr:roomOk xs=true) {a b:Int} (ha:0≤a∧a < xs.length) (hb:0≤b∧b < xs.length) (e:tv xs a=tv xs b):a=b:=by
 by_cases q:a.toNat=b.toNat
 ·omega
 ·exact absurd e ((room_simple hr).inj (show a.toNat < xs.length by omega) (show b.toNat < xs.length by omega) q)
def inA (c0 c1 k:Int):Bool:=btw k c0 c1
def inO (c0 c1 k:Int):Bool:=decide (k≤c0) || decide (k ≥ c1)
theorem inA_iff {c0 c1 k:Int}:inA c0 c1 k=true↔c0≤k∧k≤c1:=btw_iff
theorem inO_iff {c0 c1 k:Int}:inO c0 c1 k=true↔k≤c0∨c1≤k:=by
 unfold inO
 rw [Bool.or_eq_true,decide_eq_true_eq,decide_eq_true_eq]
structure Halves (xs:List Pt) (l A B:List Int) (c0 c1:Int):Prop where
 a:Prt xs A
 b:Prt xs B
 area:(subP xs l).area=(subP xs A).area + (subP xs B).area
 len:A.length + B.length=l.length + 2
 chord:∀ u w,ChV (subP xs l) u w→¬ ((u=tv xs c0∧w=tv xs c1)∨(u=tv xs c1∧w=tv xs c0))→(u≠tv xs c0→u≠tv xs c1→w≠tv xs c0→w≠tv xs c1→Part u w (tv xs c1) (tv xs c0))→ChV (subP xs A) u w∨ChV (subP xs B) u w
 innA:∀ {K x},0 < K→Inn (subP xs A) K x→Inn (subP xs l) K x
 innB:∀ {K x},0 < K→Inn (subP xs B) K x→Inn (subP xs l) K x
 dis:∀ {K x},0 < K→Inn (subP xs A) K x→Inn (subP xs B) K x→False
 offA:∀ {s t K:Int},0 < s→0 < t→s + t=K→¬ Inn (subP xs A) K (padd (smul s (tv xs c0)) (smul t (tv xs c1)))
 offB:∀ {s t K:Int},0 < s→0 < t→s + t=K→¬ Inn (subP xs B) K (padd (smul s (tv xs c0)) (smul t (tv xs c1)))
theorem halves {xs:List Pt} {l:List Int} (h:Prt xs l) {c0 c1:Int} (m0:c0∈l) (m1:c1∈l) (h01:c0 < c1) (hc:ChV (subP xs l) (tv xs c0) (tv xs c1)):Halves xs l (l.filter (inA c0 c1)) (l.filter (inO c0 c1)) c0 c1:=by
 have hQ:=h.sim
 have h3:=h.len
 obtain ⟨p,hp,ep⟩:=mem_gI.1 m0
 obtain ⟨q,hq,eq⟩:=mem_gI.1 m1
 have hpq:p < q:=by
  rcases Nat.lt_trichotomy p q with g|g|g
  ·exact g
  ·subst g;omega
  ·have:=sorted_lt h.sorted g hp;omega
 have mono:∀ {i j},i < l.length→j < l.length→(gI l i≤gI l j↔i≤j):=fun {i j} hi hj=>by
  rcases Nat.lt_trichotomy i j with g|g|g
  ·have:=sorted_lt h.sorted g hj;omega
  ·subst g;omega
  ·have:=sorted_lt h.sorted g hi;omega
 have fA:=filt_mid (f:=inA c0 c1) (l:=l) (Nat.le_of_lt hpq) hq fun t ht=>by
  rw [inA_iff,← ep,← eq,mono hp ht,mono ht hq]
 have fB:=filt_out (f:=inO c0 c1) (l:=l) hpq hq fun t ht=>by
  rw [inO_iff,← ep,← eq,mono ht hp,mono hq ht]
 have vp:(subP xs l).v p=tv xs c0:=by rw [sub_v xs hp,ep]
 have vq:(subP xs l).v q=tv xs c1:=by rw [sub_v xs hq,eq]
 have hn:(subP xs l).n=l.length:=rfl
 have c:Cut ((subP xs l).rot p) (q - p):=by
  obtain ⟨i,m,h1,h2,c⟩:=hc
  have hm2:=c.c.m2
  have hmn:m + 2≤l.length:=c.c.mn
  have hi:=Nat.mod_lt i (show 0 < l.length by omega)
  have e1:i % l.length=p:=by
   by_cases g:i % l.length=p
   ·exact g
   ·exact absurd (((subP xs l).per_mod i).trans (h1.trans vp.symm)) (hQ.inj hi hp g)
  have e2:(p + m) % l.length=q:=by
   by_cases g:(p + m) % l.length=q
   ·exact g
   ·refine absurd ?_ (hQ.inj (Nat.mod_lt (p + m) (show 0 < (subP xs l).n by omega)) hq g)
    rw [(subP xs l).per_mod,vq,← h2,← (subP xs l).per_add i m]
    rw [hn,e1]
  have em:m=q - p:=by
   rcases Nat.lt_or_ge (p + m) l.length with g|g
   ·rw [Nat.mod_eq_of_lt g] at e2;omega
   ·rw [Nat.mod_eq_sub_mod g,Nat.mod_eq_of_lt (by omega)] at e2;omega
  rw [← rot_mod,hn,e1,em] at c
  exact c
 have eA:=sub_mid xs hpq hq
 have eB:=sub_out xs hpq hq
 rw [← fA] at eA
 rw [← fB] at eB
 have lA:(l.filter (inA c0 c1)).length=q - p + 1:=by rw [fA,List.length_take,List.length_drop];omega
 have lB:(l.filter (inO c0 c1)).length=p + 1 + (l.length - q):=by rw [fB,List.length_append,List.length_take,List.length_drop];omega
 have sA:(l.filter (inA c0 c1)).Sublist l:=List.filter_sublist
 have sB:(l.filter (inO c0 c1)).Sublist l:=List.filter_sublist
 generalize l.filter (inA c0 c1)=A at *
 generalize l.filter (inO c0 c1)=B at *
 have nB:1≤(subP xs B).n:=by show 1≤B.length;omega
 have nQ:1≤(subP xs l).n:=by omega
 have bB:subP xs B=(partB ((subP xs l).rot p) (q - p)).rot ((p + 1) * ((subP xs B).n - 1)):=by rw [← eB,rot_back _ _ nB]
 have hR:=hQ.rot p
 have aB:(subP xs B).area=(partB ((subP xs l).rot p) (q - p)).area:=by rw [← eB,area_rot]
 have iA:∀ {K x},0 < K→Inn (subP xs A) K x→Inn (subP xs l) K x:=fun {K x} hK o=>by
  rw [eA] at o
  exact (Inn.rot_iff nQ p).1 (c.inn_of hR hK o)
 have toB:∀ {K x},Inn (subP xs B) K x→Inn (partB ((subP xs l).rot p) (q - p)) K x:=fun {K x} o=>by
  rw [← eB];exact o.rot (p + 1)
 have iB:∀ {K x},0 < K→Inn (subP xs B) K x→Inn (subP xs l) K x:=fun {K x} hK o=>by
  have:=c.rot.1.inn_of (hR.rot (q - p)) hK (toB o)
  rw [Inn.rot_iff (show 1≤((subP xs l).rot p).n from nQ),Inn.rot_iff nQ] at this
  exact this
 have v0:((subP xs l).rot p).v 0=tv xs c0:=vp
 have vm:((subP xs l).rot p).v (q - p)=tv xs c1:=by
  show (subP xs l).v (p + (q - p))=_
  rw [show p + (q - p)=q by omega];exact vq
 refine { a:=?_,b:=?_,area:=?_,len:=by omega,chord:=?_,innA:=iA,innB:=iB,dis:=?_,offA:=?_,offB:=?_ }
 ·exact ⟨h.sorted.sublist sA,fun x hx=>h.bd x (sA.mem hx),by rw [eA];exact c.simA hR,by rw [eA];exact c.a,fun hK o=>h.inn hK (iA hK o)⟩
 ·exact ⟨h.sorted.sublist sB,fun x hx=>h.bd x (sB.mem hx),by rw [bB];exact (c.simB hR).rot _,by rw [aB];exact c.b,fun hK o=>h.inn hK (iB hK o)⟩
 ·rw [aB,eA,← area_rot (subP xs l) p]
  exact area_cut ((subP xs l).rot p) (m:=q - p) (by show q - p≤l.length;omega)
 ·intro u w hu hne hsep
  rw [← v0,← vm] at hne hsep
  rcases (hu.rot p).split hR c hne hsep with g|g
  ·rw [← eA] at g;exact .inl g
  ·rw [← eB] at g;exact .inr g.of_rot
 ·intro K x hK oA oB
  rw [eA] at oA
  have oB:=toB oB
  have hmn:q - p < ((subP xs l).rot p).n:=by show q - p < l.length;omega
  have sum:=cut_sum up ((subP xs l).rot p) K (Nat.le_of_lt hmn) x
  rw [oA.w nc_up,oB.w nc_up] at sum
  have:=wnd_zero_oneK hR c.area hK nc_up (P_walls (m:=q - p) hmn (Q:=fun a b=>Off x (smul K a) (smul K b)) oA.1 oB.1)
  omega
 ·intro s t K hs ht e o
  rw [eA] at o
  have:=(A_walls (Q:=fun a b=>Off _ (smul K a) (smul K b)) |>.1 o.1).2
  rw [v0,vm] at this
  exact this.swap.not_on (mean_on hs ht e _ _)
 ·intro s t K hs ht e o
  have hmn:q - p < ((subP xs l).rot p).n:=by show q - p < l.length;omega
  have:=((B_walls hmn (Q:=fun a b=>Off _ (smul K a) (smul K b))).1 (toB o).1).2
  rw [v0,vm] at this
  exact this.not_on (mean_on hs ht e _ _)
theorem diag_sep {xs:List Pt} {a b c d:Int} (h1:isDiagM xs a b=true) (h2:isDiagM xs c d=true) (hx:crs (pI xs a) (pI xs b) (pI xs c) (pI xs d)=false) (hac:a≠c) (had:a≠d) (hbc:b≠c) (hbd:b≠d):Part (tv xs a) (tv xs b) (tv xs d) (tv xs c):=by
 obtain ⟨hr,g1⟩:=isDiag_iff.1 h1
 obtain ⟨-,g2⟩:=isDiag_iff.1 h2
 obtain ⟨a1,b1,-⟩:=isDiag_bd h1
 obtain ⟨c1,d1,-⟩:=isDiag_bd h2
 obtain ⟨-,-,nab,-,k1⟩:=diagM_iff.1 g1
 obtain ⟨-,-,ncd,-,k2⟩:=diagM_iff.1 g2
 have f1:=freeTo_iff.1 (diagC_iff.1 k1).2.1
 have f2:=freeTo_iff.1 (diagC_iff.1 k2).2.1
 have hb:∀ {k:Int},0≤k∧k < xs.length→Bd (pI xs k):=fun hk=>bd_of_ok (corner_ok hr (by omega))
 have hv:∀ {k:Int},0≤k∧k < xs.length→tv xs k=pI xs k:=fun hk=>room_v hk.1 hk.2
 have no:∀ {p q r:Int},0≤p∧p < xs.length→0≤q∧q < xs.length→0≤r∧r < xs.length→(∀ j,j < xs.length→j=q.toNat∨j=r.toNat∨onS (pAt xs j) (pAt xs q.toNat) (pAt xs r.toNat)=false)→p≠q→p≠r→¬ OnM (tv xs p) (tv xs q) (tv xs r):=fun {p q r} hp hq hrr f pq pr o=>by
  rw [hv hp,hv hq,hv hrr] at o
  have:=o.onS (hb hq) (hb hrr) (hb hp)
  rcases f p.toNat (by omega) with e|e|e
  ·omega
  ·omega
  ·rw [show onS (pAt xs p.toNat) (pAt xs q.toNat) (pAt xs r.toNat)=true from this] at e;cases e
 have tab:tv xs a≠tv xs b:=fun e=>nab (tv_inj hr a1 b1 e)
 have tcd:tv xs c≠tv xs d:=fun e=>ncd (tv_inj hr c1 d1 e)
 rcases part_or_on tab tcd with g|g|g|g|g|⟨g1,g2⟩
 ·exact g.comm2
 ·exact absurd g (no c1 a1 b1 f1 (Ne.symm hac) (Ne.symm hbc))
 ·exact absurd g (no d1 a1 b1 f1 (Ne.symm had) (Ne.symm hbd))
 ·exact absurd g (no a1 c1 d1 f2 hac had)
 ·exact absurd g (no b1 c1 d1 f2 hbc hbd)
 ·exfalso
  rw [hv a1,hv b1,hv c1,hv d1] at g1 g2
  unfold crs at hx
  rw [turn_exact (hb a1) (hb b1) (hb c1),turn_exact (hb a1) (hb b1) (hb d1),turn_exact (hb c1) (hb d1) (hb a1),turn_exact (hb c1) (hb d1) (hb b1),decide_eq_true (sgn_opp.2 g2),decide_eq_true (sgn_opp.2 g1)] at hx
  cases hx
theorem sum_split {α:Type} (f:α→Int) (d A B:α):∀ (ps:List α) (u:Nat),u < ps.length→((ps.set u A ++ [B]).map f).sum + f (ps.getD u d)=(ps.map f).sum + f A + f B
 | [],u,h=>by simp at h
 | x :: ps,0,_=>by simp;omega
 | x :: ps,u + 1,h=>by
  have ih:=sum_split f d A B ps u (by simpa using h)
  simp only [List.set_cons_succ,List.cons_append,List.map_cons,List.sum_cons,List.getD_cons_succ] at ih ⊢
  omega
def PlansX (xs:List Pt) (cuts:List (List Int)):Prop:=roomOk xs=true∧∀ i,i < cuts.length→plansAt xs cuts i=true
theorem plansX {xs:List Pt} {cuts:List (List Int)} (h:plansM xs cuts=true):PlansX xs cuts:=⟨(plansM_iff.1 h).1,(plansM_iff.1 h).2.2⟩
structure Stage (xs:List Pt) (cuts:List (List Int)) (i:Nat) (ps:List (List Int)):Prop where
 len:ps.length=i + 1
 prt:∀ u,u < ps.length→Prt xs (ps.getD u [])
 sum:(ps.map fun l=>(subP xs l).area).sum=(roomP xs).area
 cnt:(ps.map fun l=>(l.length:Int)).sum=xs.length + 2 * i
 one:∀ j,i≤j→j < cuts.length→∃ u,u < ps.length∧(∀ u',u' < ps.length→((gI (rI cuts j) 0∈ps.getD u' []∧gI (rI cuts j) 1∈ps.getD u' [])↔u'=u))∧ChV (subP xs (ps.getD u [])) (tv xs (gI (rI cuts j) 0)) (tv xs (gI (rI cuts j) 1))
 dis:∀ u u',u < u'→u' < ps.length→∀ {K x},0 < K→Inn (subP xs (ps.getD u [])) K x→Inn (subP xs (ps.getD u' [])) K x→False
 off:∀ j,j < i→∀ u,u < ps.length→∀ {s t K:Int},0 < s→0 < t→s + t=K→¬ Inn (subP xs (ps.getD u [])) K (padd (smul s (tv xs (gI (rI cuts j) 0))) (smul t (tv xs (gI (rI cuts j) 1))))
theorem plan_at {xs:List Pt} {cuts:List (List Int)} (hp:PlansX xs cuts) {j:Nat} (hj:j < cuts.length):gI (rI cuts j) 0 < gI (rI cuts j) 1∧isDiagM xs (gI (rI cuts j) 0) (gI (rI cuts j) 1)=true:=by
 have:=plansAt_iff.1 (hp.2 _ hj)
 exact ⟨this.2.1,this.2.2.1⟩
theorem chV_diag {xs:List Pt} {a b:Int} (hab:a < b) (h:isDiagM xs a b=true):ChV (roomP xs) (tv xs a) (tv xs b):=by
 obtain ⟨hr,g⟩:=isDiag_iff.1 h
 obtain ⟨a1,b1,-⟩:=isDiag_bd h
 obtain ⟨i,rfl⟩:=Int.eq_ofNat_of_zero_le a1.1
 obtain ⟨k,rfl⟩:=Int.eq_ofNat_of_zero_le b1.1
 obtain ⟨-,n1,n2,hd⟩:=(diagN_iff (by omega) (by omega)).1 g
 have hik:i < k:=by omega
 have hk:k < xs.length:=by omega
 rw [Nat.mod_eq_of_lt (by omega)] at n1
 have n2:¬ (i=0∧k + 1=xs.length):=fun ⟨e1,e2⟩=>n2 (by rw [e2,Nat.mod_self,e1])
 refine ⟨i,k - i,rfl,by rw [show i + (k - i)=k by omega];rfl,?_⟩
 exact cut_of_diag hr (by omega) hk (by rw [show i + (k - i)=k by omega,Nat.mod_eq_of_lt hk]) (by omega) (by omega) hd
theorem stage_zero {xs:List Pt} {cuts:List (List Int)} (hp:PlansX xs cuts):Stage xs cuts 0 [allC xs.length]:=by
 have hr:=hp.1
 have hn:=room_pos hr
 have e:=sub_all hn
 refine ⟨rfl,fun u hu=>?_,?_,?_,fun j _ hj=>⟨0,by simp,fun u' hu'=>?_,?_⟩,fun u u' h1 h2=>?_,fun j hj=>by omega⟩
 ·rw [show u=0 by simpa using hu]
  show Prt xs (allC xs.length)
  refine ⟨?_,fun x hx=>?_,by rw [e];exact room_simple hr,by rw [e];exact (room_area hr).2.1,fun _ o=>by rw [e] at o;exact o⟩
  ·unfold allC
   rw [List.pairwise_map]
   exact List.pairwise_lt_range.imp fun h=>by omega
  ·unfold allC at hx
   obtain ⟨k,hk,rfl⟩:=List.mem_map.1 hx
   have:=List.mem_range.1 hk
   omega
 ·show (subP xs (allC xs.length)).area + 0=_
  rw [e];omega
 ·show ((allC xs.length).length:Int) + 0=_
  rw [allC_len];omega
 ·rw [show u'=0 by simpa using hu']
  have hd:=isDiag_bd (plan_at hp hj).2
  have mem:∀ {a:Int},0≤a∧a < xs.length→a∈allC xs.length:=fun {a} ha=>List.mem_map.2 ⟨a.toNat,List.mem_range.2 (by omega),by show ((a.toNat:Nat):Int)=a;omega⟩
  exact ⟨fun _=>rfl,fun _=>⟨mem hd.1,mem hd.2.1⟩⟩
 ·show ChV (subP xs (allC xs.length)) _ _
  rw [e]
  exact chV_diag (plan_at hp hj).1 (plan_at hp hj).2
 ·simp at h2;omega
theorem chV_mem {xs:List Pt} (hr:roomOk xs=true) {l:List Int} (h:Prt xs l) {a b:Int} (ha:0≤a∧a < xs.length) (hb:0≤b∧b < xs.length) (hc:ChV (subP xs l) (tv xs a) (tv xs b)):a∈l∧b∈l:=by
 have h3:=h.len
 have key:∀ {i:Nat} {c:Int},0≤c∧c < xs.length→(subP xs l).v i=tv xs c→c∈l:=fun {i c} hc e=>by
  have hi:=Nat.mod_lt i (show 0 < l.length by omega)
  have hm:=gI_mem hi
  have:tv xs (gI l (i % l.length))=tv xs c:=e
  rw [← tv_inj hr (h.bd _ hm) hc this];exact hm
 obtain ⟨i,m,h1,h2,-⟩:=hc
 exact ⟨key ha h1,key hb h2⟩
theorem getD_split {ps:List (List Int)} {u u':Nat} {A B:List Int} (hu:u < ps.length):(ps.set u A ++ [B]).getD u' []=if u'=u then A else if u'=ps.length then B else ps.getD u' []:=by
 rw [List.getD_eq_getElem?_getD,List.getElem?_append,List.length_set]
 by_cases h1:u' < ps.length
 ·rw [if_pos h1,List.getElem?_set]
  by_cases h2:u=u'
  ·rw [if_pos h2,if_pos h2.symm,if_pos hu];rfl
  ·rw [if_neg h2,if_neg (Ne.symm h2),if_neg (by omega),List.getD_eq_getElem?_getD]
 ·rw [if_neg h1,if_neg (by omega)]
  by_cases h2:u'=ps.length
  ·rw [if_pos h2,h2,Nat.sub_self];rfl
  ·rw [if_neg h2,List.getD_eq_getElem?_getD,List.getElem?_eq_none (by simp;omega),List.getElem?_eq_none (by omega)]
theorem Stage.step {xs:List Pt} {cuts:List (List Int)} (hp:PlansX xs cuts) {i:Nat} {ps:List (List Int)} (h:Stage xs cuts i ps) (hi:i < cuts.length) {u:Nat} (hu:u < ps.length) (hm:gI (rI cuts i) 0∈ps.getD u []∧gI (rI cuts i) 1∈ps.getD u []) :
  Stage xs cuts (i + 1) (ps.set u ((ps.getD u []).filter (inA (gI (rI cuts i) 0) (gI (rI cuts i) 1))) ++ [(ps.getD u []).filter (inO (gI (rI cuts i) 0) (gI (rI cuts i) 1))]):=by
 have hr:=hp.1
 obtain ⟨u0,hu0,huniq,hch⟩:=h.one i (Nat.le_refl _) hi
 have e:=(huniq u hu).1 hm
 subst e
 have H:=halves (h.prt u hu) hm.1 hm.2 (plan_at hp hi).1 hch
 have hA:∀ x∈(ps.getD u []).filter (inA (gI (rI cuts i) 0) (gI (rI cuts i) 1)),x∈ps.getD u []∧gI (rI cuts i) 0≤x∧x≤gI (rI cuts i) 1:=fun x hx=>by
  obtain ⟨g1,g2⟩:=List.mem_filter.1 hx
  exact ⟨g1,inA_iff.1 g2⟩
 have hB:∀ x∈(ps.getD u []).filter (inO (gI (rI cuts i) 0) (gI (rI cuts i) 1)),x∈ps.getD u []∧(x≤gI (rI cuts i) 0∨gI (rI cuts i) 1≤x):=fun x hx=>by
  obtain ⟨g1,g2⟩:=List.mem_filter.1 hx
  exact ⟨g1,inO_iff.1 g2⟩
 generalize (ps.getD u []).filter (inA (gI (rI cuts i) 0) (gI (rI cuts i) 1))=A at *
 generalize (ps.getD u []).filter (inO (gI (rI cuts i) 0) (gI (rI cuts i) 1))=B at *
 have hlen:(ps.set u A ++ [B]).length=ps.length + 1:=by rw [List.length_append,List.length_set];rfl
 refine ⟨by rw [hlen,h.len],fun u' hu'=>?_,?_,?_,fun j hij hj=>?_,fun v v' hv hv'=>?_,fun j hj v hv=>?_⟩
 ·rw [getD_split hu]
  split
  ·exact H.a
  ·split
   ·exact H.b
   ·exact h.prt u' (by rw [hlen] at hu';omega)
 ·have:=sum_split (fun l=>(subP xs l).area) [] A B ps u hu
  have:=H.area
  have:=h.sum
  omega
 ·have:=sum_split (fun l:List Int=>(l.length:Int)) [] A B ps u hu
  have:=H.len
  have:=h.cnt
  omega
 ·obtain ⟨v,hv,hvu,hvc⟩:=h.one j (by omega) hj
  obtain ⟨pj1,pj2⟩:=plan_at hp hj
  obtain ⟨bj0,bj1,-⟩:=isDiag_bd pj2
  obtain ⟨pi1,pi2⟩:=plan_at hp hi
  obtain ⟨bi0,bi1,-⟩:=isDiag_bd pi2
  have hlt:i < j:=by omega
  have hpl:=plansAt_iff.1 (hp.2 _ hj)
  obtain ⟨hne,hcr⟩:=hpl.2.2.2 i hlt
  have hli:=(plansAt_iff.1 (hp.2 _ hi)).1
  rw [crossM_yes (by rw [hpl.1];rfl) (by rw [hli];rfl) pj2 pi2] at hcr
  have hdif:¬ (gI (rI cuts j) 0=gI (rI cuts i) 0∧gI (rI cuts j) 1=gI (rI cuts i) 1):=fun g=>hne ((len2_eq hpl.1 hli).2 g)
  by_cases hvu':v=u
  ·subst hvu'
   have hd:¬ (gI (rI cuts j) 0∈A∧gI (rI cuts j) 1∈A)∨¬ (gI (rI cuts j) 0∈B∧gI (rI cuts j) 1∈B):=by
    by_cases g:gI (rI cuts j) 0∈A∧gI (rI cuts j) 1∈A
    ·right
     rintro ⟨g3,g4⟩
     have q1:=(hA _ g.1).2
     have q2:=(hA _ g.2).2
     have q3:=(hB _ g3).2
     have q4:=(hB _ g4).2
     exact hdif ⟨by omega,by omega⟩
    ·exact .inl g
   have other:∀ u',u' < ps.length→u'≠v→¬ (gI (rI cuts j) 0∈ps.getD u' []∧gI (rI cuts j) 1∈ps.getD u' []):=fun u' h1 h2 g=>h2 ((hvu u' h1).1 g)
   have hs:=H.chord _ _ hvc (fun g=>by
    rcases g with ⟨g1,g2⟩|⟨g1,g2⟩
    ·exact hdif ⟨tv_inj hr bj0 bi0 g1,tv_inj hr bj1 bi1 g2⟩
    ·have:=tv_inj hr bj0 bi1 g1
     have:=tv_inj hr bj1 bi0 g2
     omega) fun n1 n2 n3 n4=>diag_sep pj2 pi2 hcr (fun g=>n1 (by rw [g])) (fun g=>n2 (by rw [g])) (fun g=>n3 (by rw [g])) fun g=>n4 (by rw [g])
   rcases hs with hs|hs
   ·have hm':=chV_mem hr H.a bj0 bj1 hs
    refine ⟨v,by omega,fun u' hu'=>?_,by rw [getD_split hu,if_pos rfl];exact hs⟩
    rw [getD_split hu]
    split
    ·rename_i g;exact ⟨fun _=>g,fun _=>hm'⟩
    ·rename_i g
     split
     ·exact ⟨fun q=>absurd q (hd.resolve_left fun k=>k hm'),fun q=>absurd q g⟩
     ·exact ⟨fun q=>absurd q (other u' (by rw [hlen] at hu';omega) g),fun q=>absurd q g⟩
   ·have hm':=chV_mem hr H.b bj0 bj1 hs
    refine ⟨ps.length,by omega,fun u' hu'=>?_,by rw [getD_split hu,if_neg (by omega),if_pos rfl];exact hs⟩
    rw [getD_split hu]
    split
    ·rename_i g;exact ⟨fun q=>absurd q (hd.resolve_right fun k=>k hm'),fun q=>by omega⟩
    ·rename_i g
     split
     ·rename_i g2;exact ⟨fun _=>g2,fun _=>hm'⟩
     ·rename_i g2;exact ⟨fun q=>absurd q (other u' (by rw [hlen] at hu';omega) g),fun q=>absurd q g2⟩
  ·refine ⟨v,by omega,fun u' hu'=>?_,by rw [getD_split hu,if_neg hvu',if_neg (by omega)];exact hvc⟩
   have no:∀ {C:List Int},(∀ x∈C,x∈ps.getD u [])→¬ (gI (rI cuts j) 0∈C∧gI (rI cuts j) 1∈C):=fun hC g=>hvu' ((hvu u hu).1 ⟨hC _ g.1,hC _ g.2⟩).symm
   rw [getD_split hu]
   split
   ·rename_i g;exact ⟨fun q=>absurd q (no fun x hx=>(hA x hx).1),fun q=>by omega⟩
   ·rename_i g
    split
    ·rename_i g2;exact ⟨fun q=>absurd q (no fun x hx=>(hB x hx).1),fun q=>by omega⟩
    ·rename_i g2;exact hvu u' (by rw [hlen] at hu';omega)
 ·intro K x hK o1 o2
  rw [hlen] at hv'
  rw [getD_split hu] at o1 o2
  have old:∀ {a b:Nat},a < ps.length→b < ps.length→a≠b→Inn (subP xs (ps.getD a [])) K x→Inn (subP xs (ps.getD b [])) K x→False:=fun {a b} ha hb hab q1 q2=>by
   rcases Nat.lt_or_gt_of_ne hab with g|g
   ·exact h.dis a b g hb hK q1 q2
   ·exact h.dis b a g ha hK q2 q1
  split at o1
  ·rename_i g1
   rw [if_neg (by omega)] at o2
   split at o2
   ·exact H.dis hK o1 o2
   ·exact old hu (show v' < ps.length by omega) (by omega) (H.innA hK o1) o2
  ·rename_i g1
   rw [if_neg (by omega)] at o1
   split at o2
   ·exact old hu (show v < ps.length by omega) (by omega) (H.innA hK o2) o1
   ·split at o2
    ·exact old hu (show v < ps.length by omega) (by omega) (H.innB hK o2) o1
    ·exact h.dis v v' hv (by omega) hK o1 o2
 ·intro s t K hs ht e o
  rw [hlen] at hv
  rw [getD_split hu] at o
  have hK:0 < K:=by omega
  rcases (show j=i∨j < i by omega) with g|g
  ·subst g
   split at o
   ·exact H.offA hs ht e o
   ·split at o
    ·exact H.offB hs ht e o
    ·-- the chord is inside of the part that was cut
     rename_i g1 g2
     obtain ⟨a,m,e1,e2,c⟩:=hch
     have hin:=c.inn ((h.prt u hu).sim.rot a) hs ht e
     rw [Inn.rot_iff (show 1≤(subP xs (ps.getD u [])).n by have:=(h.prt u hu).len;show 1≤(ps.getD u []).length;omega)] at hin
     have w0:((subP xs (ps.getD u [])).rot a).v 0=tv xs (gI (rI cuts j) 0):=e1
     have wm:((subP xs (ps.getD u [])).rot a).v m=tv xs (gI (rI cuts j) 1):=e2
     rw [w0,wm] at hin
     rcases Nat.lt_or_gt_of_ne g1 with q|q
     ·exact h.dis v u q hu hK o hin
     ·exact h.dis u v q (by omega) hK hin o
  ·split at o
   ·exact h.off j g u hu hs ht e (H.innA hK o)
   ·split at o
    ·exact h.off j g u hu hs ht e (H.innB hK o)
    ·exact h.off j g v (by omega) hs ht e o
end Go.Proofs.YtpafacebfogkmaaGreat.Geo
namespace Go.Proofs.YtpafacebfogkmaaGreat
open Go.RowKit Go.Proofs.YtpafacebfogkmaaGreat.Nm
set_option maxRecDepth 10000
set_option maxHeartbeats 2000000
def Dg (n:Nat) (y:List Int):Prop:=∃ i k:Nat,y=[(i:Int),(k:Int)]∧i < k∧k < n
theorem Dg.at {n:Nat} {y:List Int} (h:Dg n y):y.length=2∧(0≤y.getD 0 0∧y.getD 0 0 < n)∧0≤y.getD 1 0∧y.getD 1 0 < n:=by
 obtain ⟨i,k,rfl,h1,h2⟩:=h
 refine ⟨rfl,⟨?_,?_⟩,?_,?_⟩ <;> simp <;> omega
end Go.Proofs.YtpafacebfogkmaaGreat
namespace Go.Proofs.YtpafacebfogkmaaGreat
open Go.RowKit
theorem hasM_iff {l:List Int} {k:Int}:hasM l k=true↔k∈l:=by
 unfold hasM
 rw [List.any_eq_true]
 constructor
 ·rintro ⟨x,hx,e⟩
  rw [beq_iff_eq] at e
  rw [← e];exact hx
 ·intro h;exact ⟨k,h,by rw [beq_iff_eq]⟩
def hasB (c:List Int) (l:List Int):Bool:=hasM l (gI c 0) && hasM l (gI c 1)
theorem hasB_iff {c l:List Int}:hasB c l=true↔gI c 0∈l∧gI c 1∈l:=by unfold hasB;rw [Bool.and_eq_true,hasM_iff,hasM_iff]
def atP (ps:List (List Int)) (c:List Int):Option Nat:=(List.range ps.length).find? fun u=>hasB c (ps.getD u [])
def cutA (c l:List Int):List Int:=l.filter (Geo.inA (gI c 0) (gI c 1))
def cutO (c l:List Int):List Int:=l.filter (Geo.inO (gI c 0) (gI c 1))
def stepP (ps:List (List Int)) (c:List Int):List (List Int):=ps.set ((atP ps c).getD 0) (cutA c (ps.getD ((atP ps c).getD 0) [])) ++ [cutO c (ps.getD ((atP ps c).getD 0) [])]
def rawP (xs:List Pt) (cuts:List (List Int)):Nat→List (List Int)
 | 0=>[allC xs.length]
 | i + 1=>stepP (rawP xs cuts i) (rI cuts i)
theorem atP_one {xs:List Pt} {cuts ps:List (List Int)} {i:Nat} (h:Geo.Stage xs cuts i ps) (hi:i < cuts.length):∃ u,u < ps.length∧atP ps (rI cuts i)=some u∧gI (rI cuts i) 0∈ps.getD u []∧gI (rI cuts i) 1∈ps.getD u []:=by
 obtain ⟨u,hu,huniq,-⟩:=h.one i (Nat.le_refl _) hi
 have hm:=(huniq u hu).2 rfl
 refine ⟨u,hu,find_some hu (fun j hj=>?_) (hasB_iff.2 hm),hm⟩
 rw [Bool.eq_false_iff]
 intro g
 have:=(huniq j (by omega)).1 (hasB_iff.1 g)
 omega
theorem rawP_stage {xs:List Pt} {cuts:List (List Int)} (hp:Geo.PlansX xs cuts):∀ {i:Nat},i≤cuts.length→Geo.Stage xs cuts i (rawP xs cuts i)
 | 0,_=>Geo.stage_zero hp
 | i + 1,hi=>by
  have ih:=rawP_stage hp (i:=i) (by omega)
  obtain ⟨u,hu,e,hm⟩:=atP_one ih (by omega)
  have:=ih.step hp (by omega) hu hm
  show Geo.Stage xs cuts (i + 1) (stepP (rawP xs cuts i) (rI cuts i))
  unfold stepP
  rw [e]
  exact this
end Go.Proofs.YtpafacebfogkmaaGreat
namespace Go.Proofs.YtpafacebfogkmaaGreat.Geo
open Go.RowKit
end Go.Proofs.YtpafacebfogkmaaGreat.Geo
namespace Go.Proofs.YtpafacebfogkmaaGreat.Nm
abbrev n_cmp_Compare_int:Nat:=62
abbrev n_cmp_isNaN_int:Nat:=95
end Go.Proofs.YtpafacebfogkmaaGreat.Nm
namespace Go.Proofs.YtpafacebfogkmaaGreat
open Go.Shelf Go.RowKit Go.Lib Go.Proofs.YtpafacebfogkmaaGreat.Nm
set_option maxRecDepth 10000
set_option maxHeartbeats 2000000
def idxOf (l:List Int) (v:Int):Int:=match (List.range l.length).find? (fun i=>decide (l.getD i 0=v)) with
 | some i=>i
 | none=>-1
theorem idx_some {l:List Int} {v:Int} {i:Nat} (hi:i < l.length) (h:l.getD i 0=v) (hall:∀ j,j < i→l.getD j 0≠v):idxOf l v=i:=by
 unfold idxOf
 rw [List.find?_range_eq_some.2 ⟨decide_eq_true h,List.mem_range.2 hi,fun j hj=>by rw [decide_eq_false (hall j hj)];rfl⟩]
theorem idx_none {l:List Int} {v:Int} (hall:∀ j,j < l.length→l.getD j 0≠v):idxOf l v=-1:=by
 unfold idxOf
 rw [List.find?_eq_none.2 fun j hj=>by rw [decide_eq_false (hall j (List.mem_range.1 hj))];decide]
def idxC:Con:=mkCon [.sl (.b .int),.int] (fun x=>x.1.length≤1048576) fun x=>vI (idxOf x.1 x.2.1)
theorem slIndex_ok:Good1 Tryz.prog n_slices_Index_int idxC:=by
 refine good_ofG (tys:=tyL) (env:=[]) (envw:=[]) (envd:=[]) [] [] [] [] [] mixed tys trivial trivial trivial Tryz.func59 rfl (by kernel_rfl) (by decide) (by kernel_rfl) ?_
 have hG_:=kpz [(0,[0,1]),(1,[0,1,7,8]),(2,[0,1,7,8,9]),(3,[0,1,5,7,8]),(4,[0,1,5,7,8,16]),(5,[4]),(6,[0,1,7,8]),(7,[4])] [] [] []
 rintro ⟨(l:List Int),(v:Int),⟨⟩⟩ (h1:l.length≤_)
 (repeat' (first|(with_reducible first|exact True.intro|refine zQ ?_|(refine zG hG_ ?_;intro K_ hK_)|(refine zR ?_;intro K_ hK_)|(refine hK_ _ _ ?_;try clear hK_ K_)|refine sq_n ?_|refine sq_r ?_|refine sq_e ?_|refine bq_n ?_|refine bq_r ?_|refine bq_q ?_|refine zB ?_|refine zX ?_|refine zT ?_|refine zK ?_|refine gq_n ?_|refine gq_r ?_|refine gq_e ?_|refine lq_n ?_|refine lq_r ?_|refine lq_e ?_|refine bq_e (by decide) ?_)|((with_reducible refine zC (b:=?b_) ?hb_ ?_ ?_);case hb_=>rfl)|((conv=>whnf);first|(with_reducible refine hK_ _ _ ?_;try clear hK_ K_)|(with_reducible refine fun (g_:Sl) (o_:Ow)=>?_)|(with_reducible first|exact True.intro|refine And.intro trivial ?_|refine And.intro ?_ ?_)|exact Nat.le_of_ble_eq_true rfl|exact Or.inl rfl|(intro h_;cases h_)|(intro h_;(try simp only [vS1] at h_))|rfl))) <;> (try (conv=>whnf)) <;> (try first|change (_:Int)≤_|change (_:Nat)≤_) <;> (try ((fail_if_success (with_reducible apply Exists.intro));(try dsimp only);(try simp only [vS1]))) <;> (try simp (disch:=omega) only [vS3,Int.add_sub_cancel,tn1,tnp,tnc,vS2] at *)
 all_goals (try (fail_if_success (with_reducible apply Exists.intro));first|with_reducible assumption|omega|exact mdl (by omega)|exact ilo1 (by omega)|exact ilo2 (by omega)|exact ihi1 (by omega) (by omega)|exact ihi2 (by omega) (by omega))
 refine awp'_loopG (α:=Nat) (fun k ver_=>[(8,vInt k)]) (fun k ver_=>[]) (fun k ver_=>[]) (fun k=>k≤l.length∧∀ j,j < k→l.getD j 0≠v) (fun k=>l.length - k) [0,1,7] [] (0) ?_
 conv=>whnf
 refine ⟨⟨?inv1_,?vals1_,?own1_,?fix1_⟩,?body1_⟩
 case' vals1_=>(repeat' (first|(with_reducible first|exact True.intro|refine And.intro ?_ ?_|refine Head.mk ?_ ?_ ?_ ?_)|((conv=>lhs;whnf);first|(with_reducible first|rfl|exact vInt_s (by omega))|exact rfl)|((conv=>whnf);first|(with_reducible first|exact True.intro|refine And.intro ?_ ?_)))) <;> (try (conv=>lhs;whnf))
 case' own1_=>(repeat' (first|(with_reducible first|exact True.intro|refine And.intro ?_ ?_|refine Head.mk ?_ ?_ ?_ ?_)|((conv=>lhs;whnf);first|(with_reducible first|rfl|exact vInt_s (by omega))|exact rfl)|((conv=>whnf);first|(with_reducible first|exact True.intro|refine And.intro ?_ ?_)))) <;> (try (conv=>lhs;whnf))
 case' fix1_=>(repeat' (first|(with_reducible first|exact True.intro|refine And.intro ?_ ?_|refine Head.mk ?_ ?_ ?_ ?_)|((conv=>lhs;whnf);first|(with_reducible first|rfl|exact vInt_s (by omega))|exact rfl)|((conv=>whnf);first|(with_reducible first|exact True.intro|refine And.intro ?_ ?_)))) <;> (try (conv=>lhs;whnf))
 ·exact ⟨Nat.zero_le _,fun j hj=>absurd hj (by omega)⟩
 rintro k g_ o_ v_ ⟨hk,hall⟩
 (repeat' (first|(with_reducible first|exact True.intro|refine zQ ?_|(refine zG hG_ ?_;intro K_ hK_)|(refine zR ?_;intro K_ hK_)|(refine hK_ _ _ ?_;try clear hK_ K_)|refine sq_n ?_|refine sq_r ?_|refine sq_e ?_|refine bq_n ?_|refine bq_r ?_|refine bq_q ?_|refine zB ?_|refine zX ?_|refine zT ?_|refine zK ?_|refine gq_n ?_|refine gq_r ?_|refine gq_e ?_|refine lq_n ?_|refine lq_r ?_|refine lq_e ?_|refine bq_e (by decide) ?_)|((with_reducible refine zC (b:=?b_) ?hb_ ?_ ?_);case hb_=>rfl)|((conv=>whnf);first|(with_reducible refine hK_ _ _ ?_;try clear hK_ K_)|(with_reducible refine fun (g_:Sl) (o_:Ow)=>?_)|(with_reducible first|exact True.intro|refine And.intro trivial ?_|refine And.intro ?_ ?_)|exact Nat.le_of_ble_eq_true rfl|exact Or.inl rfl|(intro h_;cases h_)|(intro h_;(try simp only [vS1] at h_))|rfl))) <;> (try (conv=>whnf)) <;> (try first|change (_:Int)≤_|change (_:Nat)≤_) <;> (try ((fail_if_success (with_reducible apply Exists.intro));(try dsimp only);(try simp only [vS1]))) <;> (try simp (disch:=omega) only [vS3,Int.add_sub_cancel,tn1,tnp,tnc,vS2] at *)
 all_goals (try (fail_if_success (with_reducible apply Exists.intro));first|with_reducible assumption|omega|exact mdl (by omega)|exact ilo1 (by omega)|exact ilo2 (by omega)|exact ihi1 (by omega) (by omega)|exact ihi2 (by omega) (by omega))
 all_goals first
  | omega
  | exact (idx_some (by assumption) (Eq.symm (by assumption)) hall).symm
  | exact (idx_some (by assumption) (by assumption) hall).symm
  | exact ⟨k + 1,by omega,⟨by omega,lt_succ_all hall (fun e=>absurd e.symm (by assumption))⟩,by (repeat' (first|(with_reducible first|exact True.intro|refine And.intro ?_ ?_|refine Head.mk ?_ ?_ ?_ ?_)|((conv=>lhs;whnf);first|(with_reducible first|rfl|exact vInt_s (by omega))|exact rfl)|((conv=>whnf);first|(with_reducible first|exact True.intro|refine And.intro ?_ ?_)))) <;> (try (conv=>lhs;whnf))⟩
  | exact ⟨k + 1,by omega,⟨by omega,lt_succ_all hall (by assumption)⟩,by (repeat' (first|(with_reducible first|exact True.intro|refine And.intro ?_ ?_|refine Head.mk ?_ ?_ ?_ ?_)|((conv=>lhs;whnf);first|(with_reducible first|rfl|exact vInt_s (by omega))|exact rfl)|((conv=>whnf);first|(with_reducible first|exact True.intro|refine And.intro ?_ ?_)))) <;> (try (conv=>lhs;whnf))⟩
  | exact (idx_none fun j hj=>hall j (by omega)).symm
  | skip
end Go.Proofs.YtpafacebfogkmaaGreat
namespace Go.Proofs.YtpafacebfogkmaaGreat
open Go.RowKit Go.Proofs.YtpafacebfogkmaaGreat.Nm
set_option maxRecDepth 10000
set_option maxHeartbeats 4000000
def cmpI (x y:Int):Int:=if x < y then -1 else if x > y then 1 else 0
def nanC:Con:=mkCon [.int] (fun _=>True) fun _=>vB false
theorem isNaN_ok:Good1 Tryz.prog n_cmp_isNaN_int nanC:=by
 refine good_ofG (tys:=tyL) (env:=[]) (envw:=[]) (envd:=[]) [] [] [] [] [] mixed tys trivial trivial trivial Tryz.func95 rfl (by kernel_rfl) (by decide) (by kernel_rfl) ?_
 have hG_:=kpz [(0,[0]),(1,[2])] [] [] []
 rintro ⟨(x:Int),⟨⟩⟩ -
 (repeat' (first|(with_reducible first|exact True.intro|refine zQ ?_|(refine zG hG_ ?_;intro K_ hK_)|(refine zR ?_;intro K_ hK_)|(refine hK_ _ _ ?_;try clear hK_ K_)|refine sq_n ?_|refine sq_r ?_|refine sq_e ?_|refine bq_n ?_|refine bq_r ?_|refine bq_q ?_|refine zB ?_|refine zX ?_|refine zT ?_|refine zK ?_|refine gq_n ?_|refine gq_r ?_|refine gq_e ?_|refine lq_n ?_|refine lq_r ?_|refine lq_e ?_|refine bq_e (by decide) ?_)|((with_reducible refine zC (b:=?b_) ?hb_ ?_ ?_);case hb_=>rfl)|((conv=>whnf);first|(with_reducible refine hK_ _ _ ?_;try clear hK_ K_)|(with_reducible refine fun (g_:Sl) (o_:Ow)=>?_)|(with_reducible first|exact True.intro|refine And.intro trivial ?_|refine And.intro ?_ ?_)|exact Nat.le_of_ble_eq_true rfl|exact Or.inl rfl|(intro h_;cases h_)|(intro h_;(try simp only [vS1] at h_))|rfl))) <;> (try (conv=>whnf)) <;> (try first|change (_:Int)≤_|change (_:Nat)≤_) <;> (try ((fail_if_success (with_reducible apply Exists.intro));(try dsimp only);(try simp only [vS1]))) <;> (try simp (disch:=omega) only [vS3,Int.add_sub_cancel,tn1,tnp,tnc,vS2] at *)
 all_goals (try ((fail_if_success (with_reducible apply Exists.intro));first|with_reducible assumption|omega))
def cmpIC:Con:=mkCon [.int,.int] (fun _=>True) fun x=>vI (cmpI x.1 x.2.1)
theorem cmpInt_ok:Good1 Tryz.prog n_cmp_Compare_int cmpIC:=by
 refine good_ofG (tys:=tyL) (env:=[(n_cmp_isNaN_int,nanC)]) (envw:=[]) (envd:=[]) [] [] [] [] [] mixed tys ⟨isNaN_ok,trivial⟩ trivial trivial Tryz.func62 rfl (by kernel_rfl) (by decide) (by kernel_rfl) ?_
 have hG_:=kpz [(0,[0,1]),(1,[0,1,5]),(2,[0,1,5,6]),(3,[0,1,6,11]),(4,[12]),(5,[4]),(6,[4]),(7,[0,1,13]),(8,[4]),(9,[0,1,16]),(10,[4]),(11,[19]),(12,[4]),(13,[4])] [] [] []
 rintro ⟨(x:Int),(y:Int),⟨⟩⟩ -
 (repeat' (first|(with_reducible first|exact True.intro|refine zQ ?_|(refine zG hG_ ?_;intro K_ hK_)|(refine zR ?_;intro K_ hK_)|(refine hK_ _ _ ?_;try clear hK_ K_)|refine sq_n ?_|refine sq_r ?_|refine sq_e ?_|refine bq_n ?_|refine bq_r ?_|refine bq_q ?_|refine zB ?_|refine zX ?_|refine zT ?_|refine zK ?_|refine gq_n ?_|refine gq_r ?_|refine gq_e ?_|refine lq_n ?_|refine lq_r ?_|refine lq_e ?_|refine bq_e (by decide) ?_)|((with_reducible refine zC (b:=?b_) ?hb_ ?_ ?_);case hb_=>rfl)|((conv=>whnf);first|(with_reducible refine hK_ _ _ ?_;try clear hK_ K_)|(with_reducible refine fun (g_:Sl) (o_:Ow)=>?_)|(with_reducible first|exact True.intro|refine And.intro trivial ?_|refine And.intro ?_ ?_)|exact Nat.le_of_ble_eq_true rfl|exact Or.inl rfl|(intro h_;cases h_)|(intro h_;(try simp only [vS1] at h_))|rfl))) <;> (try (conv=>whnf)) <;> (try first|change (_:Int)≤_|change (_:Nat)≤_) <;> (try ((fail_if_success (with_reducible apply Exists.intro));(try dsimp only);(try simp only [vS1]))) <;> (try simp (disch:=omega) only [vS3,Int.add_sub_cancel,tn1,tnp,tnc,vS2] at *)
 all_goals (try ((fail_if_success (with_reducible apply Exists.intro));first|with_reducible assumption|omega))
 ·unfold cmpI;rw [if_pos (by assumption)]
 ·unfold cmpI;rw [if_neg (by assumption),if_pos (by assumption)]
 ·unfold cmpI;rw [if_neg (by assumption),if_neg (by assumption)]
def cmpL:List Int→List Int→Int
 | [],[]=>0
 | [],_ :: _=>-1
 | _ :: _,[]=>1
 | a :: s,b :: t=>if cmpI a b≠0 then cmpI a b else cmpL s t
theorem cmpL_drop {s t:List Int}:∀ {k:Nat},k≤s.length→k≤t.length→(∀ j,j < k→cmpI (s.getD j 0) (t.getD j 0)=0)→cmpL s t=cmpL (s.drop k) (t.drop k)
 | 0,_,_,_=>by simp
 | k + 1,hs,ht,h=>by
  have ih:=cmpL_drop (s:=s) (t:=t) (k:=k) (by omega) (by omega) fun j hj=>h j (by omega)
  have h0:=h k (by omega)
  rw [ih,List.drop_eq_getElem_cons (show k < s.length by omega),List.drop_eq_getElem_cons (show k < t.length by omega)]
  rw [getD_lt _ (show k < s.length by omega),getD_lt _ (show k < t.length by omega)] at h0
  rw [cmpL,h0];simp
theorem cmpL_at {s t:List Int} {k:Nat} (hs:k < s.length) (ht:k < t.length) (h:∀ j,j < k→cmpI (s.getD j 0) (t.getD j 0)=0) (hc:cmpI (s.getD k 0) (t.getD k 0)≠0):cmpL s t=cmpI (s.getD k 0) (t.getD k 0):=by
 rw [cmpL_drop (by omega) (by omega) h,List.drop_eq_getElem_cons hs,List.drop_eq_getElem_cons ht]
 rw [getD_lt _ hs,getD_lt _ ht] at hc ⊢
 rw [cmpL,if_pos hc]
theorem cmpL_long {s t:List Int} (hl:t.length < s.length) (h:∀ j,j < t.length→cmpI (s.getD j 0) (t.getD j 0)=0):cmpL s t=1:=by
 rw [cmpL_drop (k:=t.length) (by omega) (by omega) h,List.drop_eq_getElem_cons hl,List.drop_of_length_le (Nat.le_refl _)]
 rfl
theorem cmpL_short {s t:List Int} (hl:s.length < t.length) (h:∀ j,j < s.length→cmpI (s.getD j 0) (t.getD j 0)=0):cmpL s t=-1:=by
 rw [cmpL_drop (k:=s.length) (by omega) (by omega) h,List.drop_eq_getElem_cons hl,List.drop_of_length_le (Nat.le_refl _)]
 rfl
theorem cmpL_same {s t:List Int} (hl:s.length=t.length) (h:∀ j,j < s.length→cmpI (s.getD j 0) (t.getD j 0)=0):cmpL s t=0:=by
 rw [cmpL_drop (k:=s.length) (by omega) (by omega) h,List.drop_of_length_le (Nat.le_refl _),List.drop_of_length_le (by omega)]
 rfl
def cmpLC:Con:=mkCon [.sl (.b .int),.sl (.b .int)] (fun x=>x.1.length≤1048576∧x.2.1.length≤1048576) fun x=>vI (cmpL x.1 x.2.1)
theorem slCompare_ok:Good1 Tryz.prog n_slices_Compare_int cmpLC:=by
 refine good_ofG (tys:=tyL) (env:=[(n_cmp_Compare_int,cmpIC)]) (envw:=[]) (envd:=[]) [] [] [] [] [] mixed tys ⟨cmpInt_ok,trivial⟩ trivial trivial Tryz.func31 rfl (by kernel_rfl) (by decide) (by kernel_rfl) ?_
 have hG_:=kpz [(0,[0,1]),(1,[0,1,9,10,11]),(2,[0,1,9,10,11,12]),(3,[0,1,5,6,9,10,11]),(4,[0,1,5,6,9,10,11,19]),(5,[4]),(6,[0,1,6,7,9,10,11]),(7,[0,1,8,9,10,11]),(8,[0,1,8,9,10,11,28]),(9,[4]),(10,[0,1,9,10,11]),(11,[35]),(12,[4]),(13,[4])] [] [] []
 rintro ⟨(s:List Int),(t:List Int),⟨⟩⟩ ⟨(h1:s.length≤_),(h2:t.length≤_)⟩
 (repeat' (first|(with_reducible first|exact True.intro|refine zQ ?_|(refine zG hG_ ?_;intro K_ hK_)|(refine zR ?_;intro K_ hK_)|(refine hK_ _ _ ?_;try clear hK_ K_)|refine sq_n ?_|refine sq_r ?_|refine sq_e ?_|refine bq_n ?_|refine bq_r ?_|refine bq_q ?_|refine zB ?_|refine zX ?_|refine zT ?_|refine zK ?_|refine gq_n ?_|refine gq_r ?_|refine gq_e ?_|refine lq_n ?_|refine lq_r ?_|refine lq_e ?_|refine bq_e (by decide) ?_)|((with_reducible refine zC (b:=?b_) ?hb_ ?_ ?_);case hb_=>rfl)|((conv=>whnf);first|(with_reducible refine hK_ _ _ ?_;try clear hK_ K_)|(with_reducible refine fun (g_:Sl) (o_:Ow)=>?_)|(with_reducible first|exact True.intro|refine And.intro trivial ?_|refine And.intro ?_ ?_)|exact Nat.le_of_ble_eq_true rfl|exact Or.inl rfl|(intro h_;cases h_)|(intro h_;(try simp only [vS1] at h_))|rfl))) <;> (try (conv=>whnf)) <;> (try first|change (_:Int)≤_|change (_:Nat)≤_) <;> (try ((fail_if_success (with_reducible apply Exists.intro));(try dsimp only);(try simp only [vS1]))) <;> (try simp (disch:=omega) only [vS3,Int.add_sub_cancel,tn1,tnp,tnc,vS2] at *)
 all_goals (try ((fail_if_success (with_reducible apply Exists.intro));first|with_reducible assumption|omega))
 refine awp'_loopG (α:=Nat) (fun k ver_=>[(11,vInt k)]) (fun k ver_=>[]) (fun k ver_=>[]) (fun k=>(k≤s.length∧k≤t.length)∧∀ j,j < k→cmpI (s.getD j 0) (t.getD j 0)=0) (fun k=>s.length - k) [0,1,9,10] [] (0) ?_
 conv=>whnf
 refine ⟨⟨?inv1_,?vals1_,?own1_,?fix1_⟩,?body1_⟩
 case' vals1_=>(repeat' (first|(with_reducible first|exact True.intro|refine And.intro ?_ ?_|refine Head.mk ?_ ?_ ?_ ?_)|((conv=>lhs;whnf);first|(with_reducible first|rfl|exact vInt_s (by omega))|exact rfl)|((conv=>whnf);first|(with_reducible first|exact True.intro|refine And.intro ?_ ?_)))) <;> (try (conv=>lhs;whnf))
 case' own1_=>(repeat' (first|(with_reducible first|exact True.intro|refine And.intro ?_ ?_|refine Head.mk ?_ ?_ ?_ ?_)|((conv=>lhs;whnf);first|(with_reducible first|rfl|exact vInt_s (by omega))|exact rfl)|((conv=>whnf);first|(with_reducible first|exact True.intro|refine And.intro ?_ ?_)))) <;> (try (conv=>lhs;whnf))
 case' fix1_=>(repeat' (first|(with_reducible first|exact True.intro|refine And.intro ?_ ?_|refine Head.mk ?_ ?_ ?_ ?_)|((conv=>lhs;whnf);first|(with_reducible first|rfl|exact vInt_s (by omega))|exact rfl)|((conv=>whnf);first|(with_reducible first|exact True.intro|refine And.intro ?_ ?_)))) <;> (try (conv=>lhs;whnf))
 ·exact ⟨⟨Nat.zero_le _,Nat.zero_le _⟩,fun j hj=>absurd hj (by omega)⟩
 rintro k g_ o_ v_ ⟨⟨hk,hk2⟩,hall⟩
 (repeat' (first|(with_reducible first|exact True.intro|refine zQ ?_|(refine zG hG_ ?_;intro K_ hK_)|(refine zR ?_;intro K_ hK_)|(refine hK_ _ _ ?_;try clear hK_ K_)|refine sq_n ?_|refine sq_r ?_|refine sq_e ?_|refine bq_n ?_|refine bq_r ?_|refine bq_q ?_|refine zB ?_|refine zX ?_|refine zT ?_|refine zK ?_|refine gq_n ?_|refine gq_r ?_|refine gq_e ?_|refine lq_n ?_|refine lq_r ?_|refine lq_e ?_|refine bq_e (by decide) ?_)|((with_reducible refine zC (b:=?b_) ?hb_ ?_ ?_);case hb_=>rfl)|((conv=>whnf);first|(with_reducible refine hK_ _ _ ?_;try clear hK_ K_)|(with_reducible refine fun (g_:Sl) (o_:Ow)=>?_)|(with_reducible first|exact True.intro|refine And.intro trivial ?_|refine And.intro ?_ ?_)|exact Nat.le_of_ble_eq_true rfl|exact Or.inl rfl|(intro h_;cases h_)|(intro h_;(try simp only [vS1] at h_))|rfl))) <;> (try (conv=>whnf)) <;> (try first|change (_:Int)≤_|change (_:Nat)≤_) <;> (try ((fail_if_success (with_reducible apply Exists.intro));(try dsimp only);(try simp only [vS1]))) <;> (try simp (disch:=omega) only [vS3,Int.add_sub_cancel,tn1,tnp,tnc,vS2] at *)
 all_goals (try ((fail_if_success (with_reducible apply Exists.intro));first|with_reducible assumption|omega))
 ·exact (cmpL_long (by omega) fun j hj=>hall j (by omega)).symm
 ·exact (cmpL_at (by omega) (by omega) hall (by assumption)).symm
 ·refine ⟨k + 1,by omega,⟨⟨by omega,by omega⟩,fun j hj=>?_⟩,by (repeat' (first|(with_reducible first|exact True.intro|refine And.intro ?_ ?_|refine Head.mk ?_ ?_ ?_ ?_)|((conv=>lhs;whnf);first|(with_reducible first|rfl|exact vInt_s (by omega))|exact rfl)|((conv=>whnf);first|(with_reducible first|exact True.intro|refine And.intro ?_ ?_)))) <;> (try (conv=>lhs;whnf))⟩
  rcases (show j < k∨j=k by omega) with g|g
  ·exact hall j g
  ·subst g;assumption
 ·exact (cmpL_short (by omega) fun j hj=>hall j (by omega)).symm
 ·exact (cmpL_same (by omega) fun j hj=>hall j (by omega)).symm
theorem idx_has (l:List Int) (v:Int):decide (idxOf l v ≥ 0)=hasM l v:=by
 rw [Bool.eq_iff_iff,decide_eq_true_eq,hasM_iff]
 constructor
 ·intro h
  by_cases hm:v∈l
  ·exact hm
  ·rw [idx_none fun j hj e=>hm (by rw [← e,getD_lt _ hj];exact List.getElem_mem hj)] at h
   omega
 ·intro h
  unfold idxOf
  split
  ·omega
  ·rename_i hf
   obtain ⟨j,hj,e⟩:=List.getElem_of_mem h
   have:=List.find?_eq_none.1 hf j (List.mem_range.2 hj)
   rw [getD_lt _ hj,e] at this
   simp at this
def containsC:Con:=mkCon [.sl (.b .int),.int] (fun x=>x.1.length≤1048576) fun x=>vB (hasM x.1 x.2.1)
theorem slContains_ok:Good1 Tryz.prog n_slices_Contains_int containsC:=by
 refine good_ofG (tys:=tyL) (env:=[(n_slices_Index_int,idxC)]) (envw:=[]) (envd:=[]) [] [] [] [] [] mixed tys ⟨slIndex_ok,trivial⟩ trivial trivial Tryz.func27 rfl (by kernel_rfl) (by decide) (by kernel_rfl) ?_
 have hG_:=kpz [(0,[0,1]),(1,[4])] [] [] []
 rintro ⟨(l:List Int),(v:Int),⟨⟩⟩ (h1:l.length≤_)
 (repeat' (first|(with_reducible first|exact True.intro|refine zQ ?_|(refine zG hG_ ?_;intro K_ hK_)|(refine zR ?_;intro K_ hK_)|(refine hK_ _ _ ?_;try clear hK_ K_)|refine sq_n ?_|refine sq_r ?_|refine sq_e ?_|refine bq_n ?_|refine bq_r ?_|refine bq_q ?_|refine zB ?_|refine zX ?_|refine zT ?_|refine zK ?_|refine gq_n ?_|refine gq_r ?_|refine gq_e ?_|refine lq_n ?_|refine lq_r ?_|refine lq_e ?_|refine bq_e (by decide) ?_)|((with_reducible refine zC (b:=?b_) ?hb_ ?_ ?_);case hb_=>rfl)|((conv=>whnf);first|(with_reducible refine hK_ _ _ ?_;try clear hK_ K_)|(with_reducible refine fun (g_:Sl) (o_:Ow)=>?_)|(with_reducible first|exact True.intro|refine And.intro trivial ?_|refine And.intro ?_ ?_)|exact Nat.le_of_ble_eq_true rfl|exact Or.inl rfl|(intro h_;cases h_)|(intro h_;(try simp only [vS1] at h_))|rfl))) <;> (try (conv=>whnf)) <;> (try first|change (_:Int)≤_|change (_:Nat)≤_) <;> (try ((fail_if_success (with_reducible apply Exists.intro));(try dsimp only);(try simp only [vS1]))) <;> (try simp (disch:=omega) only [vS3,Int.add_sub_cancel,tn1,tnp,tnc,vS2] at *)
 all_goals (try ((fail_if_success (with_reducible apply Exists.intro));first|with_reducible assumption|omega))
 exact idx_has l v
def hasBC:Con:=mkCon [.sl (.b .int),.rsl (.b .int)] (fun x=>x.1.length≤1048576∧x.2.1.length=2) fun x=>vB (hasB x.2.1 x.1)
theorem hasB_ok:Good1 Tryz.prog n_impl_PartsOf_1 hasBC:=by
 refine good_ofG (tys:=tyL) (env:=[(n_slices_Contains_int,containsC)]) (envw:=[]) (envd:=[]) [] [] [] [] [] mixed tys ⟨slContains_ok,trivial⟩ trivial trivial Tryz.func26 rfl (by kernel_rfl) (by decide) (by kernel_rfl) ?_
 have hG_:=kpz [(0,[0,1]),(1,[3])] [] [] []
 rintro ⟨(l:List Int),(c:List Int),⟨⟩⟩ ⟨(h1:l.length≤_),(h2:c.length=2)⟩
 (repeat' (first|(with_reducible first|exact True.intro|refine zQ ?_|(refine zG hG_ ?_;intro K_ hK_)|(refine zR ?_;intro K_ hK_)|(refine hK_ _ _ ?_;try clear hK_ K_)|refine sq_n ?_|refine sq_r ?_|refine sq_e ?_|refine bq_n ?_|refine bq_r ?_|refine bq_q ?_|refine zB ?_|refine zX ?_|refine zT ?_|refine zK ?_|refine gq_n ?_|refine gq_r ?_|refine gq_e ?_|refine lq_n ?_|refine lq_r ?_|refine lq_e ?_|refine bq_e (by decide) ?_)|((with_reducible refine zC (b:=?b_) ?hb_ ?_ ?_);case hb_=>rfl)|((conv=>whnf);first|(with_reducible refine hK_ _ _ ?_;try clear hK_ K_)|(with_reducible refine fun (g_:Sl) (o_:Ow)=>?_)|(with_reducible first|exact True.intro|refine And.intro trivial ?_|refine And.intro ?_ ?_)|exact Nat.le_of_ble_eq_true rfl|exact Or.inl rfl|(intro h_;cases h_)|(intro h_;(try simp only [vS1] at h_))|rfl))) <;> (try (conv=>whnf)) <;> (try first|change (_:Int)≤_|change (_:Nat)≤_) <;> (try ((fail_if_success (with_reducible apply Exists.intro));(try dsimp only);(try simp only [vS1]))) <;> (try simp (disch:=omega) only [vS3,Int.add_sub_cancel,tn1,tnp,tnc,vS2] at *)
 all_goals (try ((fail_if_success (with_reducible apply Exists.intro));first|with_reducible assumption|omega))
 ·unfold hasB
  rw [show hasM l (gI c 0)=true from h_];rfl
 ·unfold hasB
  rw [show hasM l (gI c 0)=false from h_];rfl
def atI (ps:List (List Int)) (c:List Int):Int:=match atP ps c with
 | some u=>(u:Int)
 | none=>-1
def cloL (f:FuncId × List D):List Int:=match f.2 with
 | [.ptr [.sl _ (.b .int) c]]=>c
 | _=>[]
def AtOk (f:FuncId × List D):Prop:=∃ c:List Int,f=(n_impl_PartsOf_1,[.ptr [.sl none (.b .int) c]])∧c.length=2
def idxFC:Con:=mkCon [.sl (.s .int),.clo] (fun x=>(x.1.length≤1048576∧∀ y∈(x.1:List (List Int)),List.length y≤1048576)∧AtOk x.2.1) fun x=>vI (atI x.1 (cloL x.2.1))
theorem atI_some {ps:List (List Int)} {c:List Int} {u:Nat} (hu:u < ps.length) (h:hasB c (ps.getD u [])=true) (hall:∀ j,j < u→hasB c (ps.getD j [])=false):atI ps c=u:=by
 unfold atI atP
 rw [find_some hu hall h]
theorem atI_none {ps:List (List Int)} {c:List Int} (hall:∀ j,j < ps.length→hasB c (ps.getD j [])=false):atI ps c=-1:=by
 unfold atI atP
 rw [find_none hall]
theorem idxF_ok:Good1 Tryz.prog n_slices_IndexFunc___int idxFC:=by
 refine good_ofG (tys:=tyL) (env:=[(n_impl_PartsOf_1,hasBC)]) (envw:=[]) (envd:=[]) [] [] [] [] [] mixed tys ⟨hasB_ok,trivial⟩ trivial trivial Tryz.func25 rfl (by kernel_rfl) (by decide) (by kernel_rfl) ?_
 have hG_:=kpz [(0,[0,1]),(1,[0,1,7,8]),(2,[0,1,7,8,9]),(3,[0,1,5,7,8]),(4,[0,1,5,7,8,16]),(5,[4]),(6,[0,1,7,8]),(7,[4])] [] [] []
 rintro ⟨(ps:List (List Int)),(f:FuncId × List D),⟨⟩⟩ ⟨⟨(h1:ps.length≤_),(h2:∀ y∈ps,y.length≤_)⟩,⟨c,rfl,hc⟩⟩
 have hlen:∀ k,k < ps.length→(ps.getD k (ElK.s ElB.int).dflt).length≤1048576:=fun k hk=>by
  rw [getD_lt _ hk];exact h2 _ (List.getElem_mem hk)
 (repeat' (first|(with_reducible first|exact True.intro|refine zQ ?_|(refine zG hG_ ?_;intro K_ hK_)|(refine zR ?_;intro K_ hK_)|(refine hK_ _ _ ?_;try clear hK_ K_)|refine sq_n ?_|refine sq_r ?_|refine sq_e ?_|refine bq_n ?_|refine bq_r ?_|refine bq_q ?_|refine zB ?_|refine zX ?_|refine zT ?_|refine zK ?_|refine gq_n ?_|refine gq_r ?_|refine gq_e ?_|refine lq_n ?_|refine lq_r ?_|refine lq_e ?_|refine bq_e (by decide) ?_)|((with_reducible refine zC (b:=?b_) ?hb_ ?_ ?_);case hb_=>rfl)|((conv=>whnf);first|(with_reducible refine hK_ _ _ ?_;try clear hK_ K_)|(with_reducible refine fun (g_:Sl) (o_:Ow)=>?_)|(with_reducible first|exact True.intro|refine And.intro trivial ?_|refine And.intro ?_ ?_)|exact Nat.le_of_ble_eq_true rfl|exact Or.inl rfl|(intro h_;cases h_)|(intro h_;(try simp only [vS1] at h_))|rfl))) <;> (try (conv=>whnf)) <;> (try first|change (_:Int)≤_|change (_:Nat)≤_) <;> (try ((fail_if_success (with_reducible apply Exists.intro));(try dsimp only);(try simp only [vS1]))) <;> (try simp (disch:=omega) only [vS3,Int.add_sub_cancel,tn1,tnp,tnc,vS2] at *)
 all_goals (try ((fail_if_success (with_reducible apply Exists.intro));first|with_reducible assumption|omega))
 refine awp'_loopG (α:=Nat) (fun k ver_=>[(8,vInt k)]) (fun k ver_=>[]) (fun k ver_=>[]) (fun k=>k≤ps.length∧∀ j,j < k→hasB c (ps.getD j [])=false) (fun k=>ps.length - k) [0,1,7] [] (0) ?_
 conv=>whnf
 refine ⟨⟨?inv2_,?vals2_,?own2_,?fix2_⟩,?body2_⟩
 case' vals2_=>(repeat' (first|(with_reducible first|exact True.intro|refine And.intro ?_ ?_|refine Head.mk ?_ ?_ ?_ ?_)|((conv=>lhs;whnf);first|(with_reducible first|rfl|exact vInt_s (by omega))|exact rfl)|((conv=>whnf);first|(with_reducible first|exact True.intro|refine And.intro ?_ ?_)))) <;> (try (conv=>lhs;whnf))
 case' own2_=>(repeat' (first|(with_reducible first|exact True.intro|refine And.intro ?_ ?_|refine Head.mk ?_ ?_ ?_ ?_)|((conv=>lhs;whnf);first|(with_reducible first|rfl|exact vInt_s (by omega))|exact rfl)|((conv=>whnf);first|(with_reducible first|exact True.intro|refine And.intro ?_ ?_)))) <;> (try (conv=>lhs;whnf))
 case' fix2_=>(repeat' (first|(with_reducible first|exact True.intro|refine And.intro ?_ ?_|refine Head.mk ?_ ?_ ?_ ?_)|((conv=>lhs;whnf);first|(with_reducible first|rfl|exact vInt_s (by omega))|exact rfl)|((conv=>whnf);first|(with_reducible first|exact True.intro|refine And.intro ?_ ?_)))) <;> (try (conv=>lhs;whnf))
 ·exact ⟨Nat.zero_le _,fun j hj=>absurd hj (by omega)⟩
 rintro k g_ o_ v_ ⟨hk,hall⟩
 (repeat' (first|(with_reducible first|exact True.intro|refine zQ ?_|(refine zG hG_ ?_;intro K_ hK_)|(refine zR ?_;intro K_ hK_)|(refine hK_ _ _ ?_;try clear hK_ K_)|refine sq_n ?_|refine sq_r ?_|refine sq_e ?_|refine bq_n ?_|refine bq_r ?_|refine bq_q ?_|refine zB ?_|refine zX ?_|refine zT ?_|refine zK ?_|refine gq_n ?_|refine gq_r ?_|refine gq_e ?_|refine lq_n ?_|refine lq_r ?_|refine lq_e ?_|refine bq_e (by decide) ?_)|((with_reducible refine zC (b:=?b_) ?hb_ ?_ ?_);case hb_=>rfl)|((conv=>whnf);first|(with_reducible refine hK_ _ _ ?_;try clear hK_ K_)|(with_reducible refine fun (g_:Sl) (o_:Ow)=>?_)|(with_reducible first|exact True.intro|refine And.intro trivial ?_|refine And.intro ?_ ?_)|exact Nat.le_of_ble_eq_true rfl|exact Or.inl rfl|(intro h_;cases h_)|(intro h_;(try simp only [vS1] at h_))|rfl))) <;> (try (conv=>whnf)) <;> (try first|change (_:Int)≤_|change (_:Nat)≤_) <;> (try ((fail_if_success (with_reducible apply Exists.intro));(try dsimp only);(try simp only [vS1]))) <;> (try simp (disch:=omega) only [vS3,Int.add_sub_cancel,tn1,tnp,tnc,vS2] at *)
 all_goals (try ((fail_if_success (with_reducible apply Exists.intro));first|with_reducible assumption|omega))
 ·exact hlen k (by assumption)
 ·exact (atI_some (by omega) (by assumption) hall).symm
 ·refine ⟨k + 1,by omega,⟨by omega,fun j hj=>?_⟩,by (repeat' (first|(with_reducible first|exact True.intro|refine And.intro ?_ ?_|refine Head.mk ?_ ?_ ?_ ?_)|((conv=>lhs;whnf);first|(with_reducible first|rfl|exact vInt_s (by omega))|exact rfl)|((conv=>whnf);first|(with_reducible first|exact True.intro|refine And.intro ?_ ?_)))) <;> (try (conv=>lhs;whnf))⟩
  rcases (show j < k∨j=k by omega) with g|g
  ·exact hall j g
  ·subst g;assumption
 ·exact (atI_none fun j hj=>hall j (by omega)).symm
theorem partsCmp_ok:Good1 Tryz.prog n_impl_PartsOf_2 cmpLC:=by
 refine good_ofG (tys:=tyL) (env:=[(n_slices_Compare_int,cmpLC)]) (envw:=[]) (envd:=[]) [] [] [] [] [] mixed tys ⟨slCompare_ok,trivial⟩ trivial trivial Tryz.func30 rfl (by kernel_rfl) (by decide) (by kernel_rfl) ?_
 have hG_:=kpz [(0,[0,1]),(1,[4])] [] [] []
 rintro ⟨(s:List Int),(t:List Int),⟨⟩⟩ ⟨(h1:s.length≤_),(h2:t.length≤_)⟩
 (repeat' (first|(with_reducible first|exact True.intro|refine zQ ?_|(refine zG hG_ ?_;intro K_ hK_)|(refine zR ?_;intro K_ hK_)|(refine hK_ _ _ ?_;try clear hK_ K_)|refine sq_n ?_|refine sq_r ?_|refine sq_e ?_|refine bq_n ?_|refine bq_r ?_|refine bq_q ?_|refine zB ?_|refine zX ?_|refine zT ?_|refine zK ?_|refine gq_n ?_|refine gq_r ?_|refine gq_e ?_|refine lq_n ?_|refine lq_r ?_|refine lq_e ?_|refine bq_e (by decide) ?_)|((with_reducible refine zC (b:=?b_) ?hb_ ?_ ?_);case hb_=>rfl)|((conv=>whnf);first|(with_reducible refine hK_ _ _ ?_;try clear hK_ K_)|(with_reducible refine fun (g_:Sl) (o_:Ow)=>?_)|(with_reducible first|exact True.intro|refine And.intro trivial ?_|refine And.intro ?_ ?_)|exact Nat.le_of_ble_eq_true rfl|exact Or.inl rfl|(intro h_;cases h_)|(intro h_;(try simp only [vS1] at h_))|rfl))) <;> (try (conv=>whnf)) <;> (try first|change (_:Int)≤_|change (_:Nat)≤_) <;> (try ((fail_if_success (with_reducible apply Exists.intro));(try dsimp only);(try simp only [vS1]))) <;> (try simp (disch:=omega) only [vS3,Int.add_sub_cancel,tn1,tnp,tnc,vS2] at *)
 all_goals (try ((fail_if_success (with_reducible apply Exists.intro));first|with_reducible assumption|omega))
end Go.Proofs.YtpafacebfogkmaaGreat
namespace Go.Proofs.YtpafacebfogkmaaGreat
open Go.Shelf Go.RowKit Go.Lib Go.Sort Go.Proofs.YtpafacebfogkmaaGreat.Nm
set_option maxRecDepth 10000
def bLen (n:Int):Int:=((Go.Lib.bitLen n.toNat:Nat):Int)
theorem len_no:sort_ren.f 15=n_math_bits_Len:=by kernel_rfl
theorem bLen_ok {n:Int} (h:0≤n∧n≤1048576) (W:World):Calls Tryz.prog n_math_bits_Len #[.int .u64 n] W fun e w'=>e=.returned (.int .i64 (bLen n))∧w'=W:=by
 have:Calls Tryz.prog (sort_ren.f 15) #[.int .u64 n] W fun e w'=>e=.returned (.int .i64 (bLen n))∧w'=W:=Any.bits_Len (SlLaysF0.n15.bits (P:=Tryz.prog) (ρ:=sort_ren) { sort_lay with }) n W (by omega) (by omega)
 rw [len_no] at this
 exact this
end Go.Proofs.YtpafacebfogkmaaGreat
namespace Go.Proofs.YtpafacebfogkmaaGreat
open Go.RowKit Go.Proofs.YtpafacebfogkmaaGreat.Nm
set_option maxRecDepth 10000
set_option maxHeartbeats 4000000
structure LenB (xs:List (List Int)):Prop where
 all:∀ y∈xs,List.length y≤1048576
theorem LenB.at {xs:List (List Int)} (h:LenB xs) (k:Nat):(xs.getD k (ElK.s ElB.int).dflt).length≤1048576:=by
 rcases Nat.lt_or_ge k xs.length with g|g
 ·rw [getD_lt _ g];exact h.all _ (List.getElem_mem g)
 ·rw [List.getD_eq_getElem?_getD,List.getElem?_eq_none g];exact Nat.zero_le _
end Go.Proofs.YtpafacebfogkmaaGreat
namespace Go.Proofs.YtpafacebfogkmaaGreat
open Go.RowKit
theorem prt_short {xs:List Pt} {l:List Int} (h:Geo.Prt xs l):l.length≤xs.length:=by
 have h3:=h.len
 have key:∀ i,i < l.length→(i:Int)≤gI l i:=fun i=>by
  induction i with
  | zero=>intro hi;exact (h.bd _ (gI_mem hi)).1
  | succ i ih=>
   intro hi
   have:=ih (by omega)
   have:=Geo.sorted_lt h.sorted (show i < i + 1 by omega) hi
   omega
 have:=key (l.length - 1) (by omega)
 have:=(h.bd _ (gI_mem (show l.length - 1 < l.length by omega))).2
 omega
end Go.Proofs.YtpafacebfogkmaaGreat
namespace Go.Proofs.YtpafacebfogkmaaGreat
open Go.RowKit Go.Proofs.YtpafacebfogkmaaGreat.Nm
set_option maxRecDepth 10000
set_option maxHeartbeats 4000000
theorem allC_take (n k:Nat) (h:k < n):(allC n).take k ++ [(k:Int)]=(allC n).take (k + 1):=by
 rw [List.take_succ_eq_append_getElem (by rw [allC_len];exact h)]
 congr 1
 simp [allC]
theorem raw_bd {xs:List Pt} {cuts:List (List Int)} {i:Nat} (hr:roomOk xs=true) (S:Geo.Stage xs cuts i (rawP xs cuts i)):∀ y∈rawP xs cuts i,List.length y≤10:=fun y hy=>by
 obtain ⟨u,hu,rfl⟩:=List.getElem_of_mem hy
 have:=prt_short (S.prt u hu)
 rw [getD_lt _ hu] at this
 have:=room_len hr
 omega
theorem raw_few {xs:List Pt} {cuts:List (List Int)} {i:Nat} (h:plansM xs cuts=true) (hi:i≤cuts.length) (S:Geo.Stage xs cuts i (rawP xs cuts i)):(rawP xs cuts i).length≤8:=by
 have:=(plansM_iff.1 h).2.1
 rw [S.len];omega
theorem filt_yes {f:Int→Bool} {l:List Int} {k:Nat} (h:k < l.length) (hf:f (l.getD k 0)=true):(l.take k).filter f ++ [l.getD k 0]=(l.take (k + 1)).filter f:=by
 rw [getD_lt _ h] at hf ⊢
 rw [List.take_succ_eq_append_getElem h,List.filter_append,List.filter_cons,if_pos hf];rfl
theorem filt_no {f:Int→Bool} {l:List Int} {k:Nat} (h:k < l.length) (hf:¬ f (l.getD k 0)=true):(l.take k).filter f=(l.take (k + 1)).filter f:=by
 rw [getD_lt _ h] at hf
 rw [List.take_succ_eq_append_getElem h,List.filter_append,List.filter_cons,if_neg hf,List.filter_nil,List.append_nil]
end Go.Proofs.YtpafacebfogkmaaGreat
namespace Go.Proofs.YtpafacebfogkmaaGreat
open Go.Shelf Go.RowKit Go.Lib Go.Sort Go.Proofs.YtpafacebfogkmaaGreat.Nm
def sortF_ren:Go.Shelf.Ren:=⟨fun|6=>29|14=>60|15=>61|20=>85|21=>86|22=>87|23=>88|24=>89|25=>90|26=>91|27=>92|28=>93|29=>94|46=>108|47=>109|48=>110|49=>111|50=>112|57=>119|n=>n,fun|0=>0|3=>3|4=>4|5=>5|9=>9|22=>27|24=>33|25=>56|39=>82|45=>98|46=>99|50=>103|53=>106|55=>108|66=>118|70=>122|76=>126|77=>127|n=>n,fun n=>n⟩
theorem sortF_lay:SlLaysF.n6 Tryz.prog sortF_ren:={
 mixed:=by kernel_rfl
 f6:=⟨Tryz.f29.name,by decide,Tryz.func29.trans (congrArg some (by kernel_rfl))⟩
 f14:=⟨Tryz.f60.name,by decide,Tryz.func60.trans (congrArg some (by kernel_rfl))⟩
 f15:=Tryz.func61.trans (congrArg some (by kernel_rfl))
 f20:=⟨Tryz.f85.name,by decide,Tryz.func85.trans (congrArg some (by kernel_rfl))⟩
 f21:=⟨Tryz.f86.name,by decide,Tryz.func86.trans (congrArg some (by kernel_rfl))⟩
 f22:=⟨Tryz.f87.name,by decide,Tryz.func87.trans (congrArg some (by kernel_rfl))⟩
 f23:=⟨Tryz.f88.name,by decide,Tryz.func88.trans (congrArg some (by kernel_rfl))⟩
 f24:=⟨Tryz.f89.name,by decide,Tryz.func89.trans (congrArg some (by kernel_rfl))⟩
 f25:=⟨Tryz.f90.name,by decide,Tryz.func90.trans (congrArg some (by kernel_rfl))⟩
 f26:=⟨Tryz.f91.name,by decide,Tryz.func91.trans (congrArg some (by kernel_rfl))⟩
 f27:=⟨Tryz.f92.name,by decide,Tryz.func92.trans (congrArg some (by kernel_rfl))⟩
 f28:=Tryz.func93.trans (congrArg some (by kernel_rfl))
 f29:=Tryz.func94.trans (congrArg some (by kernel_rfl))
 f46:=⟨Tryz.f108.name,by decide,Tryz.func108.trans (congrArg some (by kernel_rfl))⟩
 f47:=Tryz.func109.trans (congrArg some (by kernel_rfl))
 f48:=Tryz.func110.trans (congrArg some (by kernel_rfl))
 f49:=⟨Tryz.f111.name,by decide,Tryz.func111.trans (congrArg some (by kernel_rfl))⟩
 f50:=⟨Tryz.f112.name,by decide,Tryz.func112.trans (congrArg some (by kernel_rfl))⟩
 f57:=⟨Tryz.f119.name,by decide,Tryz.func119.trans (congrArg some (by kernel_rfl))⟩
 t0:=Tryz.underlying0
 v0:=Tryz.zeroValue0
 a0:=Tryz.isAgg0
 z0:=Tryz.sizeOf0
 t3:=Tryz.underlying3
 v3:=Tryz.zeroValue3
 a3:=Tryz.isAgg3
 z3:=Tryz.sizeOf3
 t4:=Tryz.underlying4
 v4:=Tryz.zeroValue4
 a4:=Tryz.isAgg4
 z4:=Tryz.sizeOf4
 t5:=Tryz.underlying5
 v5:=Tryz.zeroValue5
 a5:=Tryz.isAgg5
 z5:=Tryz.sizeOf5
 t9:=Tryz.underlying9
 v9:=Tryz.zeroValue9
 a9:=Tryz.isAgg9
 z9:=Tryz.sizeOf9
 t22:=Tryz.underlying27
 v22:=Tryz.zeroValue27
 a22:=Tryz.isAgg27
 z22:=Tryz.sizeOf27
 a24:=Tryz.isAgg33
 z24:=Tryz.sizeOf33
 t25:=Tryz.underlying56
 v25:=Tryz.zeroValue56
 a25:=Tryz.isAgg56
 z25:=Tryz.sizeOf56
 t39:=Tryz.underlying82
 v39:=Tryz.zeroValue82
 a39:=Tryz.isAgg82
 z39:=Tryz.sizeOf82
 t45:=Tryz.underlying98
 v45:=Tryz.zeroValue98
 a45:=Tryz.isAgg98
 z45:=Tryz.sizeOf98
 t46:=Tryz.underlying99
 v46:=Tryz.zeroValue99
 a46:=Tryz.isAgg99
 z46:=Tryz.sizeOf99
 t50:=Tryz.underlying103
 v50:=Tryz.zeroValue103
 a50:=Tryz.isAgg103
 z50:=Tryz.sizeOf103
 t53:=Tryz.underlying106
 v53:=Tryz.zeroValue106
 a53:=Tryz.isAgg106
 z53:=Tryz.sizeOf106
 t55:=Tryz.underlying108
 v55:=Tryz.zeroValue108
 a55:=Tryz.isAgg108
 z55:=Tryz.sizeOf108
 t66:=Tryz.underlying118
 v66:=Tryz.zeroValue118
 a66:=Tryz.isAgg118
 z66:=Tryz.sizeOf118
 t70:=Tryz.underlying122
 v70:=Tryz.zeroValue122
 a70:=Tryz.isAgg122
 z70:=Tryz.sizeOf122
 t76:=Tryz.underlying126
 v76:=Tryz.zeroValue126
 a76:=Tryz.isAgg126
 z76:=Tryz.sizeOf126
 t77:=Tryz.underlying127
 v77:=Tryz.zeroValue127
 a77:=Tryz.isAgg127
 z77:=Tryz.sizeOf127
}
set_option maxHeartbeats 1000000 in
theorem isNaN_k (x:Int) (w:World):Calls Tryz.prog 95 #[.int .i64 x] w fun e w'=>e=.returned (.bool false)∧w'=w:=by
 go_enter Tryz.func95,Tryz.ntmps95
 go_wp2
 go_ret
 exact ⟨by simp,rfl⟩
set_option maxHeartbeats 2000000 in
theorem cmpI_k (x y:Int) (w:World):Calls Tryz.prog 62 #[.int .i64 x,.int .i64 y] w fun e w'=>e=.returned (.int .i64 (cmpI x y))∧w'=w:=by
 unfold cmpI
 have eg:∀ args w,(callFunc 95 args).run Tryz.prog w=.ok (.enter 95 args) w:=enters_of Tryz.func95 (by kernel_rfl) rfl
 by_cases h1:x < y
 ·rw [if_pos h1]
  go_enter Tryz.func62,Tryz.ntmps62
  go_wp2_with (go_at_fn 95;refine (isNaN_k _ _).mono ?_;rintro e w' ⟨rfl,rfl⟩)
  go_ret
  exact ⟨rfl,rfl⟩
 ·rw [if_neg h1]
  by_cases h2:x > y
  ·rw [if_pos h2]
   go_enter Tryz.func62,Tryz.ntmps62
   go_wp2_with (go_at_fn 95;refine (isNaN_k _ _).mono ?_;rintro e w' ⟨rfl,rfl⟩)
   go_ret
   exact ⟨rfl,rfl⟩
  ·rw [if_neg h2]
   go_enter Tryz.func62,Tryz.ntmps62
   go_wp2_with (go_at_fn 95;refine (isNaN_k _ _).mono ?_;rintro e w' ⟨rfl,rfl⟩)
   go_ret
   exact ⟨rfl,rfl⟩
set_option maxHeartbeats 4000000 in
set_option maxRecDepth 100000 in
theorem slCmp_k (b1 c b2 d:Nat) (xs ys:List Int) (w:World) (hx:xs.length≤1048576) (hy:ys.length≤1048576) (hc1:∀ j,j < xs.length→w.cell? ⟨b1,j,none⟩=some (.int .i64 (xs.getD j 0))) (hc2:∀ j,j < ys.length→w.cell? ⟨b2,j,none⟩=some (.int .i64 (ys.getD j 0))) :
  Calls Tryz.prog 31 #[.slice (some ⟨b1,0,none⟩) xs.length c,.slice (some ⟨b2,0,none⟩) ys.length d] w fun e w'=>e=.returned (.int .i64 (cmpL xs ys))∧∃ q,w'=w.drewN q:=by
 have eg:∀ args w,(callFunc 62 args).run Tryz.prog w=.ok (.enter 62 args) w:=enters_of Tryz.func62 (by kernel_rfl) rfl
 go_enter Tryz.func31,Tryz.ntmps31
 go_wp2
 go_loopg [11] xs.length (fun g s11 wr=>∃ k q:Nat,k≤xs.length∧k≤ys.length∧xs.length - k≤g∧s11=.int .i64 k∧wr=w.drewN q∧Aside (∀ j,j < k→cmpI (xs.getD j 0) (ys.getD j 0)=0))
 case atStart=>exact ⟨0,0,Nat.zero_le _,Nat.zero_le _,by omega,rfl,rfl,fun j hj=>absurd hj (Nat.not_lt_zero _)⟩
 case round=>
  obtain ⟨k,q,hk,hk2,hg,rfl,rfl,A⟩:=hrel
  by_cases hlt:k < xs.length
  ·by_cases hlt2:k < ys.length
   ·have g1:w.cell? ⟨b1,k,none⟩=some (.int .i64 (xs.getD k 0)):=hc1 k hlt
    have g2:w.cell? ⟨b2,k,none⟩=some (.int .i64 (ys.getD k 0)):=hc2 k hlt2
    clear hc1 hc2
    have B:Aside (cmpI (xs.getD k 0) (ys.getD k 0)≠0→cmpL xs ys=cmpI (xs.getD k 0) (ys.getD k 0)):=fun h=>cmpL_at hlt hlt2 A.out h
    generalize hxk:xs.getD k 0=x at g1 B
    generalize hyk:ys.getD k 0=y at g2 B
    have C:Aside (xs.getD k 0=x∧ys.getD k 0=y):=⟨hxk,hyk⟩
    clear hxk hyk
    have hlz:¬ (k:Int) ≥ (ys.length:Int):=by omega
    by_cases hz:cmpI x y=0
    ·go_wp2_with (go_at_fn 62;refine (cmpI_k _ _ _).mono ?_;rintro e w' ⟨rfl,rfl⟩)
     go_roundg (xs.length - (k + 1))
     case measure=>omega
     case rel=>
      refine ⟨k + 1,q,by omega,by omega,by omega,by go_num,rfl,(show Aside _ from fun j hj=>?_)⟩
      by_cases e:j=k
      ·subst e
       rw [C.out.1,C.out.2];exact hz
      ·exact A.out j (by omega)
    ·go_wp2_with (go_at_fn 62;refine (cmpI_k _ _ _).mono ?_;rintro e w' ⟨rfl,rfl⟩)
     go_ret
     exact ⟨by rw [B.out hz];rfl,q,rfl⟩
   ·have g1:w.cell? ⟨b1,k,none⟩=some (.int .i64 (xs.getD k 0)):=hc1 k hlt
    have hkk:k=ys.length:=by omega
    have R:Aside (cmpL xs ys=1):=cmpL_long (by omega) fun j hj=>A.out j (by omega)
    clear hc1 hc2
    generalize xs.getD k 0=x at g1
    subst hkk
    go_wp2_with fail
    go_ret
    exact ⟨by rw [R.out];rfl,q,rfl⟩
  ·have hkk:k=xs.length:=by omega
   subst hkk
   clear hc1 hc2
   by_cases hs:xs.length < ys.length
   ·have R:Aside (cmpL xs ys=-1):=cmpL_short hs A.out
    go_wp2
    go_ret
    exact ⟨by rw [R.out];rfl,q,rfl⟩
   ·have R:Aside (cmpL xs ys=0):=cmpL_same (by omega) A.out
    go_wp2
    go_ret
    exact ⟨by rw [R.out];rfl,q,rfl⟩
set_option maxHeartbeats 1000000 in
theorem pCmp_k (b1 c b2 d:Nat) (xs ys:List Int) (w:World) (hx:xs.length≤1048576) (hy:ys.length≤1048576) (hc1:∀ j,j < xs.length→w.cell? ⟨b1,j,none⟩=some (.int .i64 (xs.getD j 0))) (hc2:∀ j,j < ys.length→w.cell? ⟨b2,j,none⟩=some (.int .i64 (ys.getD j 0))) :
  Calls Tryz.prog 30 #[.slice (some ⟨b1,0,none⟩) xs.length c,.slice (some ⟨b2,0,none⟩) ys.length d] w fun e w'=>e=.returned (.int .i64 (cmpL xs ys))∧∃ q,w'=w.drewN q:=by
 have eg:∀ args w,(callFunc 31 args).run Tryz.prog w=.ok (.enter 31 args) w:=enters_of Tryz.func31 (by kernel_rfl) rfl
 have hk:Aside (Calls Tryz.prog 31 #[.slice (some ⟨b1,0,none⟩) xs.length c,.slice (some ⟨b2,0,none⟩) ys.length d] w fun e w'=>e=.returned (.int .i64 (cmpL xs ys))∧∃ q,w'=w.drewN q):=slCmp_k b1 c b2 d xs ys w hx hy hc1 hc2
 clear hc1 hc2
 go_enter Tryz.func30,Tryz.ntmps30
 go_wp2_with (go_at_fn 31;refine hk.out.mono ?_;rintro e w' ⟨rfl,q,rfl⟩)
 go_ret
 exact ⟨rfl,q,rfl⟩
end Go.Proofs.YtpafacebfogkmaaGreat
namespace Go.Proofs.YtpafacebfogkmaaGreat
open Go.RowKit
theorem cmpL_cons (a b:Int) (s t:List Int):cmpL (a :: s) (b :: t)=if a < b then -1 else if b < a then 1 else cmpL s t:=by
 rw [cmpL]
 unfold cmpI
 by_cases h1:a < b
 ·simp [h1]
 ·by_cases h2:b < a
  ·simp [h1,h2]
  ·simp [h1,h2]
theorem cmpL_self:∀ s:List Int,cmpL s s=0
 | []=>rfl
 | a :: s=>by
  have:=cmpL_self s
  rw [cmpL_cons]
  repeat' split
  all_goals omega
theorem cmpL_anti:∀ s t:List Int,cmpL s t=- cmpL t s
 | [],[]=>rfl
 | [],_ :: _=>rfl
 | _ :: _,[]=>rfl
 | a :: s,b :: t=>by
  rw [cmpL_cons,cmpL_cons,cmpL_anti s t]
  by_cases h1:a < b
  ·rw [if_pos h1,if_neg (by omega),if_pos h1]
  ·by_cases h2:b < a
   ·rw [if_neg h1,if_pos h2,if_pos h2];rfl
   ·rw [if_neg h1,if_neg h2,if_neg h2,if_neg h1]
theorem cmpL_eq:∀ {s t:List Int},cmpL s t=0→s=t
 | [],[],_=>rfl
 | [],_ :: _,h=>by exact absurd (show (-1:Int)=0 from h) (by decide)
 | _ :: _,[],h=>by exact absurd (show (1:Int)=0 from h) (by decide)
 | a :: s,b :: t,h=>by
  rw [cmpL_cons] at h
  split at h
  ·exact absurd h (by decide)
  ·split at h
   ·exact absurd h (by decide)
   ·rw [cmpL_eq h,show a=b by omega]
theorem cmpL_trans:∀ {s t u:List Int},cmpL s t≤0→cmpL t u≤0→cmpL s u≤0
 | [],_,[],_,_=>by show (0:Int)≤0;decide
 | [],_,_ :: _,_,_=>by show (-1:Int)≤0;decide
 | _ :: _,[],_,h,_=>by exact absurd (show (1:Int)≤0 from h) (by decide)
 | _ :: _,_ :: _,[],_,h=>by exact absurd (show (1:Int)≤0 from h) (by decide)
 | a :: s,b :: t,c :: u,h1,h2=>by
  rw [cmpL_cons] at h1 h2 ⊢
  have ih:=@cmpL_trans s t u
  split at h1
  ·split at h2
   ·rw [if_pos (by omega)];decide
   ·split at h2
    ·omega
    ·rw [if_pos (by omega)];decide
  ·split at h1
   ·omega
   ·split at h2
    ·rw [if_pos (by omega)];decide
    ·split at h2
     ·omega
     ·rw [if_neg (by omega),if_neg (by omega)]
      exact ih h1 h2
def RiseL (xs:List (List Int)):Prop:=xs.Pairwise fun a b=>cmpL a b≤0
theorem rise_uniq {xs ys:List (List Int)} (p:xs.Perm ys) (hx:RiseL xs) (hy:RiseL ys):xs=ys:=
 List.Perm.eq_of_pairwise (fun a b _ _ h1 h2=>cmpL_eq (by have:=cmpL_anti a b;omega)) hx hy p
def leL (a b:List Int):Bool:=decide (cmpL a b≤0)
def sortL (xs:List (List Int)):List (List Int):=xs.mergeSort leL
theorem sortL_perm (xs:List (List Int)):(sortL xs).Perm xs:=List.mergeSort_perm xs leL
theorem sortL_len (xs:List (List Int)):(sortL xs).length=xs.length:=(sortL_perm xs).length_eq
theorem sortL_rise (xs:List (List Int)):RiseL (sortL xs):=by
 have:=List.pairwise_mergeSort (le:=leL) (fun a b c h1 h2=>by
  unfold leL at *
  rw [decide_eq_true_eq] at *
  exact cmpL_trans h1 h2) (fun a b=>by
  unfold leL
  rw [Bool.or_eq_true,decide_eq_true_eq,decide_eq_true_eq]
  have:=cmpL_anti a b
  omega) xs
 exact this.imp fun h=>by unfold leL at h;exact of_decide_eq_true h
theorem sortL_uniq {xs ys:List (List Int)} (p:ys.Perm xs) (h:RiseL ys):ys=sortL xs:=rise_uniq (p.trans (sortL_perm xs).symm) h (sortL_rise xs)
end Go.Proofs.YtpafacebfogkmaaGreat
namespace Go.Proofs.YtpafacebfogkmaaGreat
open Go.Shelf Go.RowKit Go.Lib Go.Sort Go.Proofs.YtpafacebfogkmaaGreat.Nm
structure SlAt (w:World) (g:Nat) where
 b:Nat
 cap:Nat
 xs:List Int
 ne:b≠g
 lt:b < w.heap.size
 len:xs.length≤1048576
 at_:∀ j,j < xs.length→w.cell? ⟨b,j,none⟩=some (.int .i64 (xs.getD j 0))
def SlAt.v {w:World} {g:Nat} (p:SlAt w g):Value:=.slice (some ⟨p.b,0,none⟩) p.xs.length p.cap
def slCmp {w:World} {g:Nat} (p q:SlAt w g):Int:=cmpL p.xs q.xs
theorem slCmp_swo (w:World) (g:Nat):SWO (ltOf (slCmp (w:=w) (g:=g))):=by
 have anti:=fun p q:SlAt w g=>cmpL_anti p.xs q.xs
 refine ⟨fun x=>?_,fun x y z h1 h2=>?_,fun x y z h1 h2=>?_⟩ <;> unfold ltOf slCmp at *
 ·rw [cmpL_self];rfl
 ·rw [decide_eq_true_eq] at *
  have h3:=cmpL_trans (s:=x.xs) (t:=y.xs) (u:=z.xs) (by omega) (by omega)
  rcases Int.lt_or_eq_of_le h3 with h|h
  ·exact h
  ·have:=cmpL_eq h
   rw [← this] at h2
   have:=anti x y
   omega
 ·rw [decide_eq_false_iff_not] at *
  have a1:=anti x y
  have a2:=anti y z
  have a3:=anti x z
  have h3:=cmpL_trans (s:=z.xs) (t:=y.xs) (u:=x.xs) (by omega) (by omega)
  omega
theorem cell_sortWorld {α:Type} [Inhabited α] {enc:α→Value} {w:World} {g n:Nat} {d:Array α} {os:Array Obj} {ad:Addr} (hne:ad.block≠g) (hl:ad.block < w.heap.size):(sortWorld enc w g 0 n d os).cell? ad=w.cell? ad:=by
 unfold sortWorld
 rw [cell?_grow _ _ _ (by rw [size_putRow];exact hl),cell?_putRow_other _ _ _ _ _ _ (.inl hne)]
 rfl
theorem slReads (w:World) (g n:Nat) [Inhabited (SlAt w g)]:CmpReads Tryz.prog 30 #[] SlAt.v (slCmp (w:=w) (g:=g)) g 0 n w:=by
 intro m os dk hdk x y
 exact pCmp_k x.b x.cap y.b y.cap x.xs y.xs _ x.len y.len (fun j hj=>by rw [cell_sortWorld x.ne x.lt];exact x.at_ j hj) (fun j hj=>by rw [cell_sortWorld y.ne y.lt];exact y.at_ j hj)
structure LenP (xs:List (List Int)):Prop where
 all:∀ l∈xs,0 < List.length l∧List.length l≤1048576
def dsortC:ConD:=mkConDW [.sl (.s .int),.clo] 0 t_sl_int t_int (fun x=>(0 < x.1.length∧x.1.length≤12)∧LenP x.1∧x.2.1=(n_impl_PartsOf_2,[])) (fun _=>.tup []) fun x=>sortL x.1
theorem decs_sortF {xs:List (List Int)} {c:AV} {x:Args [.sl (.s .int),.clo]} (h:decs [.sl (.s .int),.clo] [.one (.d (.sl none (.s .int) xs)),c]=some x) :
  xs=x.1∧c=.one (.d (.clo x.2.1.1 x.2.1.2)):=by
 simp only [decs] at h
 split at h
 next a b e1 e2=>
  injection h with h
  subst h
  refine ⟨?_,?_⟩
  ·have e1:castL (.s .int) (.s .int) xs=some a:=e1
   exact Option.some.inj e1
  split at e2
  next a' b' e3 e4=>
   injection e2 with e2
   subst e2
   cases c with
   | one cc=>
    cases cc with
    | d dd=>cases dd <;> first|(cases e3;rfl)|(simp only [Ty.dec] at e3;cases e3;done)
    | own _ _=>simp only [Ty.dec] at e3;cases e3
    | ptr _ _ _ _=>simp only [Ty.dec] at e3;cases e3
    | sub _ _ _ _=>simp only [Ty.dec] at e3;cases e3
   | agg _=>simp only [Ty.dec] at e3;cases e3
   | tup _=>simp only [Ty.dec] at e3;cases e3
   | junk=>simp only [Ty.dec] at e3;cases e3
  next=>cases e2
 next=>cases h
theorem putRow_other {α:Type} [Inhabited α] {enc:α→Value} {w:World} {g n:Nat} {d:Array α} {b:Nat} (h:b≠g):(putRow enc (Sort.ahead w n) g 0 d).heap[b]?=w.heap[b]?:=by
 simp [putRow,mapBlock,Sort.ahead,Array.getElem?_modify,Ne.symm h]
theorem putRow_at {α:Type} [Inhabited α] {enc:α→Value} {w:World} {g n:Nat} {d:Array α} {cur:Array Value} {ty:TypeId} {fr:Nat × Nat} (hh:w.heap[g]?=some (.cells cur ty fr)):(putRow enc (Sort.ahead w n) g 0 d).heap[g]?=some (.cells (Go.Sort.putCells enc 0 d cur) ty fr):=by
 simp [putRow,mapBlock,Sort.ahead,Array.getElem?_modify,hh,onCells]
theorem dsort_snd:SoundDD Tryz.prog n_slices_SortFunc___int dsortC:=by
 intro w F args vs a0 l ver (x:Args [.sl (.s .int),.clo]) s xs inner ha hoc hoth hpat hpre hout hF hlen hargs hdp hone
 have hpat:decs [.sl (.s .int),.clo] (setA args 0 (ownAs a0 (.d (.sl none (.s .int) xs))))=some x:=hpat
 have ha:nthA args 0=some a0:=ha
 match args,vs,ha,hpat,hlen,hargs with
 | [],_,ha,_,_,_=>cases ha
 | [z],_,_,hpat,_,_=>simp only [setA,decs] at hpat;split at hpat <;> simp_all
 | z :: c :: e :: r,_,_,hpat,_,_=>simp only [setA,decs] at hpat;split at hpat <;> simp_all
 | [z,c],[v0,v1],ha,hpat,hlen,hargs=>
  obtain rfl:z=a0:=Option.some.inj ha
  have h0:=hargs 0 z v0 rfl rfl
  have h1:=hargs 1 c v1 rfl rfl
  have hd:decs [.sl (.s .int),.clo] [ownAs z (.d (.sl none (.s .int) xs)),c]=some x:=hpat
  obtain ⟨x1,⟨xf,xc⟩,⟨⟩⟩:=x
  obtain ⟨⟨hp1,hp2⟩,hp4p,hp3⟩:=hpre
  have hp1:0 < x1.length:=hp1
  have hp2:x1.length≤12:=hp2
  have hp4:∀ l∈x1,0 < List.length l∧List.length l≤1048576:=(show LenP x1 from hp4p).all
  have hp3:(xf,xc)=(n_impl_PartsOf_2,([]:List D)):=hp3
  injection hp3 with hf hc
  subst hf hc
  have hz:z=.one (.own l ver):=by
   unfold ownCell at hoc
   split at hoc
   ·injection hoc with hoc;injection hoc with e1 e2;rw [e1,e2]
   ·simp only [ownAs,decs,Ty.dec] at hd;cases hd
   ·cases hoc
  subst hz
  obtain ⟨he,hcc⟩:=decs_sortF hd
  have he:xs=x1:=he
  subst he
  subst hcc
  have hv0:v0=s:=h0
  subst hv0
  obtain rfl:v1=.func (.func n_impl_PartsOf_2) #[] #[]:=by
   have h1:DC w F (.clo n_impl_PartsOf_2 []) v1:=h1
   cases h1 with
   | clo us hl h=>
    have:us=[]:=List.eq_nil_of_length_eq_zero hl
    subst this
    rfl
  obtain ⟨vs0,hw,hone',-,hin⟩:=hdp
  rcases hw.2 with ⟨_,h0⟩|⟨g,cap,cur,hs,_,hh,hn,hm,hcs,htake⟩
  ·omega
  subst hs
  have hel:∀ i (hi:i < xs.length),∃ p:SlAt w g,p.v=inner i∧p.xs=xs[i]:=by
   intro i hi
   obtain ⟨q1,⟨us,hu,hr⟩,q3⟩:=hin i xs[i] (List.getElem?_eq_getElem hi)
   have hl4:=hp4 xs[i] (List.getElem_mem hi)
   rcases hu.2 with ⟨_,h0⟩|⟨b,cp,cr,hv,_,hb,hbn,_,hbs,hbt⟩
   ·omega
   ·have hbl:blk (inner i)=some b:=by rw [hv];rfl
    have q:=q3 b hbl
    refine ⟨⟨b,cp,xs[i],fun e=>q.2.1 (by rw [e];rfl),lt_of_block hb,hl4.2,fun j hj=>?_⟩,by rw [hv];rfl,rfl⟩
    obtain ⟨es,e1,e2,e3⟩:=hr.2 j _ (List.getElem?_eq_getElem hj)
    have e2:es=[.int .i64 xs[i][j]]:=e2
    subst e2
    have h3:=hu.cells (g:=b) (by rw [hv];rfl) _ _ (e3 0 _ rfl)
    rw [add_lit',Nat.zero_add] at h3
    rw [getD_lt _ hj]
    have e0:j * ElK.size (.b .int) + 0=j:=by show j * 1 + 0=j;omega
    rw [e0] at h3
    exact h3
  haveI:Inhabited (SlAt w g):=⟨Classical.choose (hel 0 hp1)⟩
  obtain ⟨d,hds,hdi⟩:∃ d:Array (SlAt w g),d.size=xs.length∧∀ i (hi:i < xs.length) (hi':i < d.size),d[i].v=inner i∧d[i].xs=xs[i]:=
   ⟨(List.ofFn fun i:_root_.Fin xs.length=>Classical.choose (hel i.1 i.2)).toArray,by simp,fun i hi hi'=>by
    simp only [List.getElem_toArray,List.getElem_ofFn]
    exact Classical.choose_spec (hel i hi)⟩
  have eg:∀ args w,(callFunc n_impl_PartsOf_2 args).run Tryz.prog w=.ok (.enter n_impl_PartsOf_2 args) w:=enters_of Tryz.func30 (by kernel_rfl) rfl
  have hH:Holds SlAt.v w g 0 d:=fun j hj=>by
   refine ⟨?_,by simp [World.frozen?,hh]⟩
   have hjx:j < xs.length:=by omega
   have q1:=(hin j xs[j] (List.getElem?_eq_getElem hjx)).1
   have h3:=hw.cells (g:=g) rfl _ _ q1
   rw [add_lit',Nat.zero_add] at h3
   rw [Nat.zero_add,h3,getElem!_pos d j hj,(hdi j hjx hj).1]
  have hlen2:∀ (n:Nat) (W:World),n≤12→Calls Tryz.prog (sortF_ren.f 15) #[.int .u64 n] W fun e w'=>(∃ l:Int,e=.returned (.int .i64 l))∧w'=W:=fun n W hn=>by
   have:=bLen_ok (n:=(n:Int)) ⟨by omega,by omega⟩ W
   have e:sortF_ren.f 15=n_math_bits_Len:=by kernel_rfl
   rw [e]
   exact this.mono fun _ _ ⟨h1,h2⟩=>⟨⟨_,h1⟩,h2⟩
  have hmain:=Any.slices_SortFunc_small_sorted sortF_lay SlAt.v (fun x=>rfl) slCmp (slCmp_swo w g) n_impl_PartsOf_2 #[] g 0 cap d w eg (slReads w g d.size) hH (by omega) hlen2
  rw [hds] at hmain
  have hmain':Calls Tryz.prog n_slices_SortFunc___int #[.slice (some ⟨g,0,none⟩) xs.length cap,.func (.func n_impl_PartsOf_2) #[] #[]] w fun e w'=>e=.returned (.tuple #[])∧∃ d' n,PermIn 0 xs.length d d'∧SortedIn (ltOf slCmp) 0 xs.length d'∧w'=(putRow SlAt.v w g 0 d').drewN n:=hmain
  refine hmain'.mono ?_
  rintro e w' ⟨rfl,d',n,⟨hsz,-,hperm⟩,hsorted,rfl⟩
  rw [← hds,Array.extract_size] at hperm
  rw [← hsz,Array.extract_size] at hperm
  have hw':(putRow SlAt.v w g 0 d').drewN n=putRow SlAt.v (Sort.ahead w n) g 0 d':=by
   have:=putRow_drewN (enc:=SlAt.v) w 0 n g 0 d'
   rwa [ahead_zero,Nat.zero_add] at this
  rw [hw']
  have hsz':d'.size=xs.length:=by omega
  have hdx:d.toList.map SlAt.xs=xs:=List.ext_getElem (by simp [hds]) fun i h1 h2=>by
   rw [List.getElem_map]
   exact (hdi i h2 (by omega)).2
  have hys:d'.toList.map SlAt.xs=sortL xs:=by
   refine sortL_uniq ?_ ?_
   ·have:=hperm.map SlAt.xs
    rwa [hdx] at this
   ·unfold RiseL
    rw [List.pairwise_map,List.pairwise_iff_getElem]
    intro i j hi hj hij
    have hi':i < d'.size:=by simpa using hi
    have hj':j < d'.size:=by simpa using hj
    have h:=hsorted i j (Nat.zero_le _) hij (by omega)
    rw [getElem!_pos d' i hi',getElem!_pos d' j hj'] at h
    unfold ltOf slCmp at h
    rw [decide_eq_false_iff_not] at h
    have:=cmpL_anti (d'[i]).xs (d'[j]).xs
    simp only [Array.getElem_toList]
    omega
  have hmem:∀ i (hi:i < d'.size),∃ j,∃ hj:j < xs.length,d'[i].v=inner j∧d'[i].xs=xs[j]:=fun i hi=>by
   have hm1:d'[i]∈d.toList:=hperm.mem_iff.1 (by rw [← Array.getElem_toList];exact List.getElem_mem _)
   obtain ⟨j,hj,e⟩:=List.getElem_of_mem hm1
   have hj':j < d.size:=by simpa using hj
   have hjx:j < xs.length:=by omega
   have e':d[j]=d'[i]:=by rw [← e];rfl
   have:=hdi j hjx hj'
   rw [e'] at this
   exact ⟨j,hjx,this⟩
  have hnod:(d'.toList.map SlAt.b).Nodup:=by
   refine (hperm.map SlAt.b).nodup_iff.2 ?_
   unfold List.Nodup
   rw [List.pairwise_map,List.pairwise_iff_getElem]
   intro i j hi hj hij e
   have hi':i < d.size:=by simpa using hi
   have hj':j < d.size:=by simpa using hj
   have hix:i < xs.length:=by omega
   have hjx:j < xs.length:=by omega
   have e:(d[i]).b=(d[j]).b:=e
   have b1:blk (inner i)=some (d[i]).b:=by rw [← (hdi i hix hi').1];rfl
   have b2:blk (inner j)=some (d[i]).b:=by rw [← (hdi j hjx hj').1,e];rfl
   exact ((hin i xs[i] (List.getElem?_eq_getElem hix)).2.2 _ b1).2.2 j xs[j] (by omega) (List.getElem?_eq_getElem hjx) b2
  have hout':(sortL xs).length=xs.length:=sortL_len xs
  refine ⟨.tuple #[],fun i=>(d'[i]!).v,rfl,rfl,rfl,rfl,by rw [size_putRow];exact Nat.le_refl _,fun b hb hne _=>putRow_other (fun e=>hne (by rw [e];rfl)),?_,fun i b hi hb=>?_,[],rfl,rfl,fun j x u hx=>by simp at hx⟩
  ·refine ⟨d'.toList.map SlAt.v,?_,fun v hv=>?_,fun b hb=>trivial,fun i y hi=>?_⟩
   ·show World.ownsRow _ _ _ _ _ (sortL xs).length _
    rw [hout']
    refine ⟨by simp [hsz'],.inr ⟨g,cap,Go.Sort.putCells SlAt.v 0 d' cur,rfl,Nat.zero_le _,putRow_at hh,hn,hm,by simp [Go.Sort.putCells,hcs],?_⟩⟩
    refine List.ext_getElem? fun i=>?_
    rcases Nat.lt_or_ge i xs.length with hi|hi
    ·rw [List.getElem?_take_of_lt (by omega),Array.getElem?_toList,List.getElem?_map]
     have hc:i < cur.size:=by omega
     have hz:i < d'.size:=by omega
     simp only [Go.Sort.putCells,Array.getElem?_mapIdx,Array.getElem?_eq_getElem hc,Option.map_some,Nat.zero_le,true_and,Nat.zero_add,hz,if_true,Nat.sub_zero]
     rw [getElem!_pos d' i hz,Array.getElem?_toList,Array.getElem?_eq_getElem hz];rfl
    ·rw [List.getElem?_eq_none (by rw [List.length_take];omega),List.getElem?_eq_none (by simp;omega)]
   ·obtain ⟨p,-,rfl⟩:=List.mem_map.1 hv;rfl
   ·have hi:(sortL xs)[i]?=some y:=hi
    have hil:i < d'.size:=by have:=(List.getElem?_eq_some_iff.1 hi).1;omega
    have hy:y=d'[i].xs:=by
     rw [← hys,List.getElem?_map,Array.getElem?_toList,Array.getElem?_eq_getElem hil] at hi
     exact (Option.some.inj hi).symm
    subst hy
    obtain ⟨j,hj,hjv,hjx⟩:=hmem i hil
    obtain ⟨q1,⟨us,hu,hr⟩,q3⟩:=hin j xs[j] (List.getElem?_eq_getElem hj)
    simp only [getElem!_pos d' i hil]
    rw [hjv,hjx]
    have hg:∀ b,blk (inner j)=some b→b≠g:=fun b hb e=>(q3 b hb).2.1 (by rw [e];rfl)
    refine ⟨by rw [List.getElem?_map,Array.getElem?_toList,Array.getElem?_eq_getElem hil,← hjv];rfl,⟨us,owns_of hu (fun b hb=>putRow_other (hg b hb)),rowCb hr⟩,fun b hb=>⟨trivial,(q3 b hb).2.1,fun k z hk hz e=>?_⟩⟩
    have hz:(sortL xs)[k]?=some z:=hz
    have hkl:k < d'.size:=by have:=(List.getElem?_eq_some_iff.1 hz).1;omega
    rw [getElem!_pos d' k hkl] at e
    rw [← hjv] at hb
    have hb1:(d'[i]).b=b:=Option.some.inj hb
    have hb2:(d'[k]).b=b:=Option.some.inj e
    have hp:=List.pairwise_iff_getElem.1 hnod
    rcases Nat.lt_or_gt_of_ne hk with h|h
    ·exact hp k i (by simpa using hkl) (by simpa using hil) h (by simp [hb1,hb2])
    ·exact hp i k (by simpa using hil) (by simpa using hkl) h (by simp [hb1,hb2])
  ·have hil:i < d'.size:=by omega
   have hb:blk (d'[i]!).v=some b:=hb
   rw [getElem!_pos d' i hil] at hb
   obtain ⟨j,hj,hjv,hjx⟩:=hmem i hil
   exact .inr ⟨j,hj,by rw [← hjv];exact hb⟩
theorem dsort_ok:GoodD Tryz.prog (n_slices_SortFunc___int) dsortC:=by
 exact ⟨dsort_snd,_,Tryz.func29,by decide,rfl⟩
end Go.Proofs.YtpafacebfogkmaaGreat
namespace Go.Proofs.YtpafacebfogkmaaGreat
open Go.RowKit Go.Proofs.YtpafacebfogkmaaGreat.Nm
set_option maxRecDepth 10000
set_option maxHeartbeats 4000000
def partsS (xs:List Pt) (cuts:List (List Int)):List (List Int):=if plansM xs cuts then sortL (rawP xs cuts cuts.length) else []
theorem partsS_yes {xs:List Pt} {cuts:List (List Int)} (h:plansM xs cuts=true):partsS xs cuts=sortL (rawP xs cuts cuts.length):=by unfold partsS;rw [if_pos h]
theorem partsS_no {xs:List Pt} {cuts:List (List Int)} (h:plansM xs cuts=false):partsS xs cuts=[]:=by unfold partsS;rw [h];rfl
theorem noG_upd (u j:Nat):upd noG u false j=false:=by
 rw [upd_get];split <;> rfl
structure IsL (a b:List Int):Prop where
 eq:a=b
def partsDC:Con:=mkConD [.room,.sl (.s .int)] (fun x=>x.1.length≤1048576∧x.2.1.length≤1048576∧∀ c∈x.2.1,c.length≤1048576) (fun x=>⟨.one (.own 0 0),some ⟨t_sl_int,none,.s .int,partsS x.1 x.2.1⟩⟩) t_int
theorem iPartsOfD_ok:Good1 Tryz.prog (n_impl_PartsOf) partsDC:=by
 refine good_ofD (tys:=tyL) (env:=[(n_impl_ArePlans,plansC),(n_impl_PartsOf_1,hasBC),(n_slices_IndexFunc___int,idxFC),(n_impl_between,btwC),(n_impl_PartsOf_2,cmpLC)]) (envw:=[]) (envd:=[(n_slices_SortFunc___int,dsortC)]) [19,32,42,43,85,88,89,92] [9] [] [] [32,85,88,89,92] mixed tys ⟨iArePlans_ok,hasB_ok,idxF_ok,between_ok,partsCmp_ok,trivial⟩ trivial ⟨dsort_ok,trivial⟩ Tryz.func7 rfl (by kernel_rfl) (by decide) (by kernel_rfl) ?_
 have hG_:=kpz [(0,[1,2]),(1,[1,2,18]),(2,[4]),(3,[1,2,5]),(4,[1,5,22,23]),(5,[1,5,22,23,24]),(6,[1,5,6,22,23]),(7,[1,5,22,23]),(8,[1,5,22,23]),(9,[1,7]),(10,[7,33,34,35]),(11,[7,33,34,35,36]),(12,[7,9,33,34,35]),(13,[7,9,10,33,34,35]),(14,[7,9,10,11,12,33,34,35]),(15,[7,9,10,11,12,33,34,35,47,48,49]),(16,[7,9,10,11,12,33,34,35,47,48,49,50]),(17,[7,9,10,11,12,14,33,34,35,47,48,49]),(18,[7,9,10,11,12,14,33,34,35,47,48,49,60]),(19,[7,9,10,11,12,14,33,34,35,47,48,49]),(20,[7,9,10,11,12,14,33,34,35,47,48,49,76]),(21,[7,9,10,11,12,33,34,35,47,48,49]),(22,[7,9,10,11,12,33,34,35,47,48,49]),(23,[7,12,33,34,35]),(24,[7,33,34,35]),(25,[7,33,34,35]),(26,[7]),(27,[4])] [(3,[19]),(4,[19]),(5,[19]),(6,[19]),(7,[19]),(8,[19]),(9,[19,32]),(10,[19,32]),(11,[19,32]),(12,[9,19,32]),(13,[9,19,32]),(14,[9,19,32,42,43]),(15,[9,19,32,42,43]),(16,[9,19,32,42,43]),(17,[9,19,32,42,43]),(18,[9,19,32,42,43]),(19,[9,19,32,42,43]),(20,[9,19,32,42,43]),(21,[9,19,32,42,43]),(22,[9,19,32,42,43]),(23,[19,32,42,43,85]),(24,[19,32,42,43,85,88,89]),(25,[19,32,42,43,85,88,89]),(26,[19,32,92]),(27,[19,32,92])] [(12,[9])] []
 rintro ⟨(xs:List Pt),(cuts:List (List Int)),⟨⟩⟩ ⟨(h1:xs.length≤_),(h2:cuts.length≤_),(h3:∀ c∈cuts,c.length≤_)⟩
 have hal:=allC_len xs.length
 (repeat' (first|(with_reducible first|exact True.intro|refine zQ ?_|(refine zG hG_ ?_;intro K_ hK_)|(refine zR ?_;intro K_ hK_)|(refine hK_ _ _ ?_;try clear hK_ K_)|refine sq_n ?_|refine sq_r ?_|refine sq_e ?_|refine bq_n ?_|refine bq_r ?_|refine bq_q ?_|refine zB ?_|refine zX ?_|refine zT ?_|refine zK ?_|refine gq_n ?_|refine gq_r ?_|refine gq_e ?_|refine lq_n ?_|refine lq_r ?_|refine lq_e ?_|refine bq_e (by decide) ?_)|((with_reducible refine zC (b:=?b_) ?hb_ ?_ ?_);case hb_=>rfl)|((conv=>whnf);first|(with_reducible refine hK_ _ _ ?_;try clear hK_ K_)|(with_reducible refine fun (g_:Sl) (o_:Ow)=>?_)|(with_reducible first|exact True.intro|refine And.intro trivial ?_|refine And.intro ?_ ?_)|exact Nat.le_of_ble_eq_true rfl|exact Or.inl rfl|(intro h_;cases h_)|(intro h_;(try simp only [vS1] at h_))|rfl))) <;> (try (conv=>whnf)) <;> (try first|change (_:Int)≤_|change (_:Nat)≤_) <;> (try ((fail_if_success (with_reducible apply Exists.intro));(try dsimp only);(try simp only [vS1]))) <;> (try simp (disch:=omega) only [vS3,Int.add_sub_cancel,tn1,tnp,tnc,vS2] at *)
 all_goals (try ((fail_if_success (with_reducible apply Exists.intro));first|with_reducible assumption|omega))
 ·exact h3 _ List.mem_cons_self
 ·exact h3 _ (List.mem_cons_of_mem _ (by assumption))
 ·exact partsS_no h_
 have hP:=Geo.plansX h_
 have hxl:=room_len hP.1
 refine awp'_loopG (α:=Nat) (fun k ver_=>[(23,vInt k)]) (fun k ver_=>[(5,19,false,.row t_int (.b .int) ((allC xs.length).take k))]) (fun k ver_=>[(9,⟨ver_ 9,.dead⟩)]) (fun k=>k≤xs.length) (fun k=>xs.length - k) [1,22] [] (0) ?_
 conv=>whnf
 refine ⟨⟨?inv1_,?vals1_,?own1_,?fix1_⟩,?body1_⟩
 case' vals1_=>(repeat' (first|(with_reducible first|exact True.intro|refine And.intro ?_ ?_|refine Head.mk ?_ ?_ ?_ ?_)|((conv=>lhs;whnf);first|(with_reducible first|rfl|exact vInt_s (by omega))|exact rfl)|((conv=>whnf);first|(with_reducible first|exact True.intro|refine And.intro ?_ ?_)))) <;> (try (conv=>lhs;whnf))
 case' own1_=>(repeat' (first|(with_reducible first|exact True.intro|refine And.intro ?_ ?_|refine Head.mk ?_ ?_ ?_ ?_)|((conv=>lhs;whnf);first|(with_reducible first|rfl|exact vInt_s (by omega))|exact rfl)|((conv=>whnf);first|(with_reducible first|exact True.intro|refine And.intro ?_ ?_)))) <;> (try (conv=>lhs;whnf))
 case' fix1_=>(repeat' (first|(with_reducible first|exact True.intro|refine And.intro ?_ ?_|refine Head.mk ?_ ?_ ?_ ?_)|((conv=>lhs;whnf);first|(with_reducible first|rfl|exact vInt_s (by omega))|exact rfl)|((conv=>whnf);first|(with_reducible first|exact True.intro|refine And.intro ?_ ?_)))) <;> (try (conv=>lhs;whnf))
 ·exact Nat.zero_le _
 rintro k g_ o_ v_ hk
 (repeat' (first|(with_reducible first|exact True.intro|refine zQ ?_|(refine zG hG_ ?_;intro K_ hK_)|(refine zR ?_;intro K_ hK_)|(refine hK_ _ _ ?_;try clear hK_ K_)|refine sq_n ?_|refine sq_r ?_|refine sq_e ?_|refine bq_n ?_|refine bq_r ?_|refine bq_q ?_|refine zB ?_|refine zX ?_|refine zT ?_|refine zK ?_|refine gq_n ?_|refine gq_r ?_|refine gq_e ?_|refine lq_n ?_|refine lq_r ?_|refine lq_e ?_|refine bq_e (by decide) ?_)|((with_reducible refine zC (b:=?b_) ?hb_ ?_ ?_);case hb_=>rfl)|((conv=>whnf);first|(with_reducible refine hK_ _ _ ?_;try clear hK_ K_)|(with_reducible refine fun (g_:Sl) (o_:Ow)=>?_)|(with_reducible first|exact True.intro|refine And.intro trivial ?_|refine And.intro ?_ ?_)|exact Nat.le_of_ble_eq_true rfl|exact Or.inl rfl|(intro h_;cases h_)|(intro h_;(try simp only [vS1] at h_))|rfl))) <;> (try (conv=>whnf)) <;> (try first|change (_:Int)≤_|change (_:Nat)≤_) <;> (try ((fail_if_success (with_reducible apply Exists.intro));(try dsimp only);(try simp only [vS1]))) <;> (try simp (disch:=omega) only [vS3,Int.add_sub_cancel,tn1,tnp,tnc,vS2] at *)
 all_goals (try ((fail_if_success (with_reducible apply Exists.intro));first|with_reducible assumption|omega))
 ·refine ⟨k + 1,by omega,by omega,?_⟩
  (repeat' (first|(with_reducible first|exact True.intro|refine And.intro ?_ ?_|refine Head.mk ?_ ?_ ?_ ?_)|((conv=>lhs;whnf);first|(with_reducible first|rfl|exact vInt_s (by omega))|exact rfl)|((conv=>whnf);first|(with_reducible first|exact True.intro|refine And.intro ?_ ?_)))) <;> (try (conv=>lhs;whnf))
  exact congrArg (Own.row t_int (.b .int)) (allC_take xs.length k (by omega))
 refine awp'_loopG (α:=Nat) (fun i ver_=>[(35,vInt i)]) (fun i ver_=>[(7,32,false,.deep t_sl_int t_int .int (rawP xs cuts i) noG)]) (fun i ver_=>[(9,⟨ver_ 9,.dead⟩)]) (fun i=>i≤cuts.length) (fun i=>cuts.length - i) [33,34] [19] (0) ?_
 conv=>whnf
 refine ⟨⟨?inv2_,?vals2_,?own2_,?fix2_⟩,?body2_⟩
 case' vals2_=>(repeat' (first|(with_reducible first|exact True.intro|refine And.intro ?_ ?_|refine Head.mk ?_ ?_ ?_ ?_)|((conv=>lhs;whnf);first|(with_reducible first|rfl|exact vInt_s (by omega))|exact rfl)|((conv=>whnf);first|(with_reducible first|exact True.intro|refine And.intro ?_ ?_)))) <;> (try (conv=>lhs;whnf))
 case' own2_=>(repeat' (first|(with_reducible first|exact True.intro|refine And.intro ?_ ?_|refine Head.mk ?_ ?_ ?_ ?_)|((conv=>lhs;whnf);first|(with_reducible first|rfl|exact vInt_s (by omega))|exact rfl)|((conv=>whnf);first|(with_reducible first|exact True.intro|refine And.intro ?_ ?_)))) <;> (try (conv=>lhs;whnf))
 case' fix2_=>(repeat' (first|(with_reducible first|exact True.intro|refine And.intro ?_ ?_|refine Head.mk ?_ ?_ ?_ ?_)|((conv=>lhs;whnf);first|(with_reducible first|rfl|exact vInt_s (by omega))|exact rfl)|((conv=>whnf);first|(with_reducible first|exact True.intro|refine And.intro ?_ ?_)))) <;> (try (conv=>lhs;whnf))
 ·refine congrArg (fun l=>Own.deep t_sl_int t_int .int l noG) ?_
  show [_]=[_]
  rw [List.take_of_length_le (by omega)]
 ·exact Nat.zero_le _
 rintro i g_ o_ v_ hi
 have S:=rawP_stage hP (i:=i) hi
 have hpl:=raw_few (by assumption) hi S
 have hpe:PLift (∀ y∈rawP xs cuts i,List.length y≤10):=⟨raw_bd hP.1 S⟩
 obtain ⟨u,hat⟩:∃ u,i < cuts.length→u < (rawP xs cuts i).length∧atP (rawP xs cuts i) (rI cuts i)=some u∧(rI cuts i).length=2:=by
  rcases Nat.lt_or_ge i cuts.length with h|h
  ·obtain ⟨u,hu,e,-⟩:=atP_one S h
   exact ⟨u,fun _=>⟨hu,e,(plansAt_iff.1 (hP.2 _ h)).1⟩⟩
  ·exact ⟨0,fun g=>absurd g (by omega)⟩
 have hA:i < cuts.length→∀ f:FuncId,atI (rawP xs cuts i) (cloL (f,[D.ptr [D.sl none (ElK.b ElB.int) (cuts.getD i (ElK.s ElB.int).dflt)]]))=(u:Int):=fun h f=>by
  show atI (rawP xs cuts i) (rI cuts i)=_
  unfold atI
  rw [(hat h).2.1]
 (repeat' (first|(with_reducible first|exact True.intro|refine zQ ?_|(refine zG hG_ ?_;intro K_ hK_)|(refine zR ?_;intro K_ hK_)|(refine hK_ _ _ ?_;try clear hK_ K_)|refine sq_n ?_|refine sq_r ?_|refine sq_e ?_|refine bq_n ?_|refine bq_r ?_|refine bq_q ?_|refine zB ?_|refine zX ?_|refine zT ?_|refine zK ?_|refine gq_n ?_|refine gq_r ?_|refine gq_e ?_|refine lq_n ?_|refine lq_r ?_|refine lq_e ?_|refine bq_e (by decide) ?_)|((with_reducible refine zC (b:=?b_) ?hb_ ?_ ?_);case hb_=>rfl)|((conv=>whnf);first|(with_reducible refine hK_ _ _ ?_;try clear hK_ K_)|(with_reducible refine fun (g_:Sl) (o_:Ow)=>?_)|(with_reducible first|exact True.intro|refine And.intro trivial ?_|refine And.intro ?_ ?_)|exact Nat.le_of_ble_eq_true rfl|exact Or.inl rfl|(intro h_;cases h_)|(intro h_;(try simp only [vS1] at h_))|rfl))) <;> (try (conv=>whnf)) <;> (try first|change (_:Int)≤_|change (_:Nat)≤_) <;> (try ((fail_if_success (with_reducible apply Exists.intro));(try dsimp only);(try simp only [vS1]))) <;> (try simp (disch:=omega) only [vS3,Int.add_sub_cancel,tn1,tnp,tnc,vS2] at *)
 all_goals (try ((fail_if_success (with_reducible apply Exists.intro));first|with_reducible assumption|omega))
 ·exact Nat.le_trans (hpe.down _ (by assumption)) (by decide)
 ·exact ⟨_,rfl,(hat (by assumption)).2.2⟩
 ·rw [hA (by assumption)];omega
 ·rw [hA (by assumption)];have:=(hat (by assumption)).1;omega
 ·rw [hA (by assumption)];exact (hat (by assumption)).1
 ·rw [hA (by assumption)];exact (hat (by assumption)).1
 ·have hlt:=‹i < cuts.length›
  obtain ⟨hu,hau,hc2⟩:=hat hlt
  have hst:rawP xs cuts (i + 1)=(rawP xs cuts i).set u (cutA (rI cuts i) ((rawP xs cuts i).getD u [])) ++ [cutO (rI cuts i) ((rawP xs cuts i).getD u [])]:=by
   show stepP _ _=_
   unfold stepP
   rw [hau];rfl
  have hpu:((rawP xs cuts i).getD u []).length≤10:=hpe.down _ (by rw [getD_lt _ hu];exact List.getElem_mem hu)
  simp only [hA hlt,Int.toNat_natCast]
  rw [show cuts.getD i (ElK.s ElB.int).dflt=rI cuts i from rfl]
  rw [show (rawP xs cuts i).getD u (ElK.s ElB.int).dflt=(rawP xs cuts i).getD u [] from rfl]
  clear hat hA
  generalize rI cuts i=c at *
  obtain ⟨l,hLp⟩:∃ l,IsL ((rawP xs cuts i).getD u []) l:=⟨_,⟨rfl⟩⟩
  rw [hLp.eq] at hst hpu
  refine awp'_loopG (α:=Nat) (fun k ver_=>[(49,vInt k)]) (fun k ver_=>[(11,42,false,.row t_int (.b .int) ((l.take k).filter (Geo.inA (gI c 0) (gI c 1)))),(12,43,false,.row t_int (.b .int) ((l.take k).filter (Geo.inO (gI c 0) (gI c 1))))]) (fun k ver_=>[]) (fun k=>k≤l.length) (fun k=>l.length - k) [7,9,10,33,34,35,47,48] [9,19,32] (0) ?_
  conv=>whnf
  refine ⟨⟨?inv3_,?vals3_,?own3_,?fix3_⟩,?body3_⟩
  case' vals3_=>(repeat' (first|(with_reducible first|exact True.intro|refine And.intro ?_ ?_|refine Head.mk ?_ ?_ ?_ ?_)|((conv=>lhs;whnf);first|(with_reducible first|rfl|exact vInt_s (by omega))|exact rfl)|((conv=>whnf);first|(with_reducible first|exact True.intro|refine And.intro ?_ ?_)))) <;> (try (conv=>lhs;whnf))
  case' own3_=>(repeat' (first|(with_reducible first|exact True.intro|refine And.intro ?_ ?_|refine Head.mk ?_ ?_ ?_ ?_)|((conv=>lhs;whnf);first|(with_reducible first|rfl|exact vInt_s (by omega))|exact rfl)|((conv=>whnf);first|(with_reducible first|exact True.intro|refine And.intro ?_ ?_)))) <;> (try (conv=>lhs;whnf))
  case' fix3_=>(repeat' (first|(with_reducible first|exact True.intro|refine And.intro ?_ ?_|refine Head.mk ?_ ?_ ?_ ?_)|((conv=>lhs;whnf);first|(with_reducible first|rfl|exact vInt_s (by omega))|exact rfl)|((conv=>whnf);first|(with_reducible first|exact True.intro|refine And.intro ?_ ?_)))) <;> (try (conv=>lhs;whnf))
  ·exact Nat.zero_le _
  rintro k g_ o_ v_ hk
  have hf1:((l.take k).filter (Geo.inA (gI c 0) (gI c 1))).length≤10:=Nat.le_trans (List.length_filter_le ..) (by rw [List.length_take];omega)
  have hf2:((l.take k).filter (Geo.inO (gI c 0) (gI c 1))).length≤10:=Nat.le_trans (List.length_filter_le ..) (by rw [List.length_take];omega)
  (repeat' (first|(with_reducible first|exact True.intro|refine zQ ?_|(refine zG hG_ ?_;intro K_ hK_)|(refine zR ?_;intro K_ hK_)|(refine hK_ _ _ ?_;try clear hK_ K_)|refine sq_n ?_|refine sq_r ?_|refine sq_e ?_|refine bq_n ?_|refine bq_r ?_|refine bq_q ?_|refine zB ?_|refine zX ?_|refine zT ?_|refine zK ?_|refine gq_n ?_|refine gq_r ?_|refine gq_e ?_|refine lq_n ?_|refine lq_r ?_|refine lq_e ?_|refine bq_e (by decide) ?_)|((with_reducible refine zC (b:=?b_) ?hb_ ?_ ?_);case hb_=>rfl)|((conv=>whnf);first|(with_reducible refine hK_ _ _ ?_;try clear hK_ K_)|(with_reducible refine fun (g_:Sl) (o_:Ow)=>?_)|(with_reducible first|exact True.intro|refine And.intro trivial ?_|refine And.intro ?_ ?_)|exact Nat.le_of_ble_eq_true rfl|exact Or.inl rfl|(intro h_;cases h_)|(intro h_;(try simp only [vS1] at h_))|rfl))) <;> (try (conv=>whnf)) <;> (try first|change (_:Int)≤_|change (_:Nat)≤_) <;> (try ((fail_if_success (with_reducible apply Exists.intro));(try dsimp only);(try simp only [vS1]))) <;> (try simp (disch:=omega) only [vS3,Int.add_sub_cancel,tn1,tnp,tnc,vS2] at *)
  all_goals (try (have hL':=hLp.eq;simp only [hL'] at *))
  all_goals (try ((fail_if_success (with_reducible apply Exists.intro));first|with_reducible assumption|omega))
  iterate 6
   ·refine ⟨k + 1,by omega,by omega,?_⟩
    (repeat' (first|(with_reducible first|exact True.intro|refine And.intro ?_ ?_|refine Head.mk ?_ ?_ ?_ ?_)|((conv=>lhs;whnf);first|(with_reducible first|rfl|exact vInt_s (by omega))|exact rfl)|((conv=>whnf);first|(with_reducible first|exact True.intro|refine And.intro ?_ ?_)))) <;> (try (conv=>lhs;whnf)) <;> first
     | exact congrArg (Own.row t_int (.b .int)) (filt_yes (by assumption) (by assumption))
     | exact congrArg (Own.row t_int (.b .int)) (filt_no (by assumption) (f:=Geo.inA (gI c 0) (gI c 1)) (by rw [Bool.not_eq_true];assumption))
     | exact congrArg (Own.row t_int (.b .int)) (filt_yes (by assumption) (Geo.inO_iff.2 (.inl (by assumption))))
     | exact congrArg (Own.row t_int (.b .int)) (filt_yes (by assumption) (Geo.inO_iff.2 (.inr (by assumption))))
     | exact congrArg (Own.row t_int (.b .int)) (filt_no (by assumption) fun h=>(Geo.inO_iff.1 h).elim (fun h=>absurd h (by assumption)) fun h=>absurd h (by assumption))
     | skip
  ·exact srtG_lt (by unfold srt;omega) (noG_upd _ _)
  ·exact srtG_lt (by unfold srt;omega) (noG_upd _ _)
  ·refine ⟨i + 1,by omega,by omega,?_⟩
   (repeat' (first|(with_reducible first|exact True.intro|refine And.intro ?_ ?_|refine Head.mk ?_ ?_ ?_ ?_)|((conv=>lhs;whnf);first|(with_reducible first|rfl|exact vInt_s (by omega))|exact rfl)|((conv=>whnf);first|(with_reducible first|exact True.intro|refine And.intro ?_ ?_)))) <;> (try (conv=>lhs;whnf))
   refine congrArg (fun l=>Own.deep t_sl_int t_int .int l noG) ?_
   rw [hst]
   show _=(rawP xs cuts i).set u (l.filter (Geo.inA (gI c 0) (gI c 1))) ++ [l.filter (Geo.inO (gI c 0) (gI c 1))]
   rw [List.take_of_length_le (by omega)]
 ·rw [S.len];omega
 ·exact ⟨fun y hy=>by
   have h1:=hpe.down y hy
   obtain ⟨u,hu,rfl⟩:=List.getElem_of_mem hy
   have:=(S.prt u hu).len
   rw [getD_lt _ hu] at this
   omega⟩
 ·exact sortL_len _
 ·exact srtG_lt (by have:=‹_ < (dsortC.out _).length›;rw [show (dsortC.out (rawP xs cuts i,(30,[]),())).length=(rawP xs cuts i).length from sortL_len _] at this;unfold srt;omega) rfl
 ·refine congrArg some ?_
  show sortL (rawP xs cuts i)=_
  rw [partsS_yes (by assumption),show i=cuts.length by omega]
end Go.Proofs.YtpafacebfogkmaaGreat
namespace Go.Proofs.YtpafacebfogkmaaGreat
open Go.RowKit
def partS (c l:List Int):List (List Int):=if hasB c l=true then [cutA c l,cutO c l] else [l]
def rawS (xs:List Pt) (cuts:List (List Int)):Nat→List (List Int)
 | 0=>[allC xs.length]
 | i + 1=>(rawS xs cuts i).flatMap (partS (rI cuts i))
theorem flat_none {c:List Int}:∀ {l:List (List Int)},(∀ y∈l,hasB c y=false)→l.flatMap (partS c)=l
 | [],_=>rfl
 | y :: l,h=>by
  rw [List.flatMap_cons,flat_none fun z hz=>h z (List.mem_cons_of_mem _ hz)]
  unfold partS
  rw [if_neg (by rw [h y List.mem_cons_self];decide)];rfl
theorem flatP_one {ps:List (List Int)} {c:List Int} {u:Nat} (hu:u < ps.length) (h:∀ v,v < ps.length→(hasB c (ps.getD v [])=true↔v=u)) :
  (ps.flatMap (partS c)).Perm (ps.set u (cutA c (ps.getD u [])) ++ [cutO c (ps.getD u [])]):=by
 have e:ps=ps.take u ++ ps[u] :: ps.drop (u + 1):=by
  rw [← List.drop_eq_getElem_cons hu,List.take_append_drop]
 have hset:ps.set u (cutA c (ps.getD u []))=ps.take u ++ cutA c ps[u] :: ps.drop (u + 1):=by
  rw [List.set_eq_take_append_cons_drop,if_pos hu,getD_lt _ hu]
 have hno:∀ v (hv:v < ps.length),v≠u→hasB c ps[v]=false:=fun v hv hne=>by
  rw [Bool.eq_false_iff]
  intro g
  exact hne ((h v hv).1 (by rw [getD_lt _ hv];exact g))
 have h1:(ps.take u).flatMap (partS c)=ps.take u:=flat_none fun y hy=>by
  obtain ⟨v,hv,rfl⟩:=List.getElem_of_mem hy
  rw [List.getElem_take]
  rw [List.length_take] at hv
  exact hno v (by omega) (by omega)
 have h2:(ps.drop (u + 1)).flatMap (partS c)=ps.drop (u + 1):=flat_none fun y hy=>by
  obtain ⟨v,hv,rfl⟩:=List.getElem_of_mem hy
  rw [List.getElem_drop]
  rw [List.length_drop] at hv
  exact hno _ (by omega) (by omega)
 have h3:partS c ps[u]=[cutA c ps[u],cutO c ps[u]]:=by
  unfold partS
  rw [if_pos (by have:=(h u hu).2 rfl;rwa [getD_lt _ hu] at this)]
 have e1:ps.flatMap (partS c)=ps.take u ++ ([cutA c ps[u],cutO c ps[u]] ++ ps.drop (u + 1)):=by
  conv=>lhs;rw [e]
  rw [List.flatMap_append,List.flatMap_cons,h1,h2,h3]
 rw [e1,hset,getD_lt _ hu,List.append_assoc]
 refine List.Perm.append_left _ ?_
 show (cutA c ps[u] :: cutO c ps[u] :: ps.drop (u + 1)).Perm (cutA c ps[u] :: (ps.drop (u + 1) ++ [cutO c ps[u]]))
 exact List.Perm.cons _ (List.perm_append_comm (l₁:=[cutO c ps[u]]))
theorem rawS_perm {xs:List Pt} {cuts:List (List Int)} (hp:Geo.PlansX xs cuts):∀ {i:Nat},i≤cuts.length→(rawS xs cuts i).Perm (rawP xs cuts i)
 | 0,_=>List.Perm.refl _
 | i + 1,hi=>by
  have ih:=rawS_perm hp (i:=i) (by omega)
  have S:=rawP_stage hp (i:=i) (by omega)
  obtain ⟨u,hu,huniq,-⟩:=S.one i (Nat.le_refl _) (by omega)
  obtain ⟨u',hu',e,hm⟩:=atP_one S (show i < cuts.length by omega)
  have huu:u'=u:=(huniq u' hu').1 hm
  subst huu
  have:=flatP_one (c:=rI cuts i) hu fun v hv=>hasB_iff.trans (huniq v hv)
  refine (ih.flatMap_right (partS (rI cuts i))).trans (this.trans ?_)
  show List.Perm _ (stepP (rawP xs cuts i) (rI cuts i))
  unfold stepP
  rw [e]
  exact List.Perm.refl _
def shf (ys:List (List Int)) (i k:Nat):List (List Int):=ys.take (k + 1) ++ ((ys.drop k).take (i - k) ++ ys.drop (i + 1))
def insA (ys:List (List Int)) (i k:Nat):List (List Int):=ys.take k ++ ys.getD i [] :: ((ys.drop k).take (i - k) ++ ys.drop (i + 1))
theorem shf_start {ys:List (List Int)} {i:Nat}:shf ys i i=ys:=by
 unfold shf
 rw [Nat.sub_self,List.take_zero,List.nil_append,List.take_append_drop]
theorem shf_len {ys:List (List Int)} {i k:Nat} (hk:k≤i) (hi:i < ys.length):(shf ys i k).length=ys.length:=by
 unfold shf
 simp only [List.length_append,List.length_take,List.length_drop]
 omega
theorem shf_at {ys:List (List Int)} {i k j:Nat} (hk:k≤i) (hi:i < ys.length) (hj:j≤k):(shf ys i k).getD j []=ys.getD j []:=by
 unfold shf
 rw [List.getD_eq_getElem?_getD,List.getElem?_append_left (by rw [List.length_take];omega),List.getElem?_take_of_lt (by omega),← List.getD_eq_getElem?_getD]
theorem shf_step {ys:List (List Int)} {i k:Nat} (hk:k + 1≤i) (hi:i < ys.length):(shf ys i (k + 1)).set (k + 1) (ys.getD k [])=shf ys i k:=by
 unfold shf
 have e1:ys.take (k + 1 + 1)=ys.take (k + 1) ++ [ys[k + 1]]:=List.take_succ_eq_append_getElem (by omega)
 have e2:(ys.drop k).take (i - k)=ys[k] :: (ys.drop (k + 1)).take (i - (k + 1)):=by
  rw [List.drop_eq_getElem_cons (show k < ys.length by omega),show i - k=i - (k + 1) + 1 by omega,List.take_succ_cons]
 have hl:(ys.take (k + 1)).length=k + 1:=by rw [List.length_take];omega
 rw [e1,e2,getD_lt _ (show k < ys.length by omega),List.append_assoc,List.set_append,hl,if_neg (by omega),Nat.sub_self]
 rfl
theorem shf_ins {ys:List (List Int)} {i k:Nat} (hk:k≤i) (hi:i < ys.length):(shf ys i k).set k (ys.getD i [])=insA ys i k:=by
 unfold shf insA
 have e1:ys.take (k + 1)=ys.take k ++ [ys[k]]:=List.take_succ_eq_append_getElem (by omega)
 have hl:(ys.take k).length=k:=by rw [List.length_take];omega
 rw [e1,List.append_assoc,List.set_append,hl,if_neg (by omega),Nat.sub_self]
 rfl
theorem ins_perm {ys:List (List Int)} {i k:Nat} (hk:k≤i) (hi:i < ys.length):(insA ys i k).Perm ys:=by
 have e:ys=ys.take k ++ ((ys.drop k).take (i - k) ++ ys[i] :: ys.drop (i + 1)):=by
  rw [← List.drop_eq_getElem_cons hi]
  conv=>lhs;rw [← List.take_append_drop k ys,← List.take_append_drop (i - k) (ys.drop k),List.drop_drop]
  rw [show k + (i - k)=i by omega]
 unfold insA
 rw [getD_lt _ hi]
 conv=>rhs;rw [e]
 exact List.Perm.append_left _ List.perm_middle.symm
theorem ins_take {ys:List (List Int)} {i k:Nat} (hk:k≤i) (hi:i < ys.length):(insA ys i k).take (i + 1)=ys.take k ++ ys.getD i [] :: (ys.drop k).take (i - k):=by
 unfold insA
 rw [show ys.take k ++ ys.getD i [] :: ((ys.drop k).take (i - k) ++ ys.drop (i + 1))=(ys.take k ++ ys.getD i [] :: (ys.drop k).take (i - k)) ++ ys.drop (i + 1) by simp]
 refine List.take_left' ?_
 simp only [List.length_append,List.length_cons,List.length_take,List.length_drop]
 omega
theorem ins_rise {ys:List (List Int)} {i k:Nat} (hk:k≤i) (hi:i < ys.length) (hs:RiseL (ys.take i)) (hlt:∀ j,k≤j→j < i→cmpL (ys.getD i []) (ys.getD j []) < 0) (hge:k=0∨¬ cmpL (ys.getD i []) (ys.getD (k - 1) []) < 0):RiseL ((insA ys i k).take (i + 1)):=by
 rw [ins_take hk hi]
 have e:ys.take i=ys.take k ++ (ys.drop k).take (i - k):=by
  conv=>lhs;rw [show i=k + (i - k) by omega,List.take_add]
 unfold RiseL at *
 rw [e,List.pairwise_append] at hs
 obtain ⟨s1,s2,s3⟩:=hs
 have hx:∀ a∈ys.take k,cmpL a (ys.getD i [])≤0:=fun a ha=>by
  obtain ⟨j,hj,rfl⟩:=List.getElem_of_mem ha
  rw [List.length_take] at hj
  rcases hge with h|h
  ·omega
  ·have h1:cmpL (ys.getD (k - 1) []) (ys.getD i [])≤0:=by
    have:=cmpL_anti (ys.getD i []) (ys.getD (k - 1) [])
    omega
   rw [List.getElem_take]
   rcases (show j=k - 1∨j < k - 1 by omega) with q|q
   ·subst q
    rwa [getD_lt _ (show k - 1 < ys.length by omega)] at h1
   ·have h2:=List.pairwise_iff_getElem.1 s1 j (k - 1) (by rw [List.length_take];omega) (by rw [List.length_take];omega) q
    rw [List.getElem_take,List.getElem_take,← getD_lt (d:=[]) (show k - 1 < ys.length by omega)] at h2
    exact cmpL_trans h2 h1
 refine List.pairwise_append.2 ⟨s1,List.pairwise_cons.2 ⟨fun b hb=>?_,s2⟩,fun a ha b hb=>?_⟩
 ·obtain ⟨j,hj,rfl⟩:=List.getElem_of_mem hb
  rw [List.length_take,List.length_drop] at hj
  rw [List.getElem_take,List.getElem_drop]
  have:=hlt (k + j) (by omega) (by omega)
  rw [getD_lt _ (show k + j < ys.length by omega)] at this
  omega
 ·rcases List.mem_cons.1 hb with q|q
  ·subst q;exact hx a ha
  ·exact s3 a ha b q
end Go.Proofs.YtpafacebfogkmaaGreat
namespace Go.Proofs.YtpafacebfogkmaaGreat
open Go.RowKit Go.Proofs.YtpafacebfogkmaaGreat.Nm
set_option maxRecDepth 10000
set_option maxHeartbeats 4000000
def sHasC:Con:=mkCon [.sl (.b .int),.int] (fun x=>x.1.length≤1048576) fun x=>vB (hasM x.1 x.2.1)
theorem l19Has_ok:Good1 Tryz.prog n_spec_l19Has sHasC:=by
 refine good_ofG (tys:=tyL) (env:=[]) (envw:=[]) (envd:=[]) [] [] [] [] [] mixed tys trivial trivial trivial Tryz.func44 rfl (by kernel_rfl) (by decide) (by kernel_rfl) ?_
 have hG_:=kpz [(0,[0,1]),(1,[0,1,5]),(2,[0,1,5,9]),(3,[0,1,5]),(4,[0,1,5,17]),(5,[4]),(6,[4])] [] [] []
 rintro ⟨(l:List Int),(k:Int),⟨⟩⟩ (h1:l.length≤_)
 (repeat' (first|(with_reducible first|exact True.intro|refine zQ ?_|(refine zG hG_ ?_;intro K_ hK_)|(refine zR ?_;intro K_ hK_)|(refine hK_ _ _ ?_;try clear hK_ K_)|refine sq_n ?_|refine sq_r ?_|refine sq_e ?_|refine bq_n ?_|refine bq_r ?_|refine bq_q ?_|refine zB ?_|refine zX ?_|refine zT ?_|refine zK ?_|refine gq_n ?_|refine gq_r ?_|refine gq_e ?_|refine lq_n ?_|refine lq_r ?_|refine lq_e ?_|refine bq_e (by decide) ?_)|((with_reducible refine zC (b:=?b_) ?hb_ ?_ ?_);case hb_=>rfl)|((conv=>whnf);first|(with_reducible refine hK_ _ _ ?_;try clear hK_ K_)|(with_reducible refine fun (g_:Sl) (o_:Ow)=>?_)|(with_reducible first|exact True.intro|refine And.intro trivial ?_|refine And.intro ?_ ?_)|exact Nat.le_of_ble_eq_true rfl|exact Or.inl rfl|(intro h_;cases h_)|(intro h_;(try simp only [vS1] at h_))|rfl))) <;> (try (conv=>whnf)) <;> (try first|change (_:Int)≤_|change (_:Nat)≤_) <;> (try ((fail_if_success (with_reducible apply Exists.intro));(try dsimp only);(try simp only [vS1])))
 all_goals (try ((fail_if_success (with_reducible apply Exists.intro));first|with_reducible assumption|omega))
 refine awp'_loopG (α:=Nat) (fun i ver_=>[(5,vInt i)]) (fun i ver_=>[]) (fun i ver_=>[]) (fun i=>i≤l.length∧(l.take i).any (fun x=>x == k)=false) (fun i=>l.length - i) [0,1] [] (0) ?_
 conv=>whnf
 refine ⟨⟨?inv1_,?vals1_,?own1_,?fix1_⟩,?body1_⟩
 case' vals1_=>(repeat' (first|(with_reducible first|exact True.intro|refine And.intro ?_ ?_|refine Head.mk ?_ ?_ ?_ ?_)|((conv=>lhs;whnf);first|(with_reducible first|rfl|exact vInt_s (by omega))|exact rfl)|((conv=>whnf);first|(with_reducible first|exact True.intro|refine And.intro ?_ ?_)))) <;> (try (conv=>lhs;whnf))
 case' own1_=>(repeat' (first|(with_reducible first|exact True.intro|refine And.intro ?_ ?_|refine Head.mk ?_ ?_ ?_ ?_)|((conv=>lhs;whnf);first|(with_reducible first|rfl|exact vInt_s (by omega))|exact rfl)|((conv=>whnf);first|(with_reducible first|exact True.intro|refine And.intro ?_ ?_)))) <;> (try (conv=>lhs;whnf))
 case' fix1_=>(repeat' (first|(with_reducible first|exact True.intro|refine And.intro ?_ ?_|refine Head.mk ?_ ?_ ?_ ?_)|((conv=>lhs;whnf);first|(with_reducible first|rfl|exact vInt_s (by omega))|exact rfl)|((conv=>whnf);first|(with_reducible first|exact True.intro|refine And.intro ?_ ?_)))) <;> (try (conv=>lhs;whnf))
 ·exact ⟨Nat.zero_le _,rfl⟩
 rintro i g_ o_ v_ ⟨hi,hall⟩
 (repeat' (first|(with_reducible first|exact True.intro|refine zQ ?_|(refine zG hG_ ?_;intro K_ hK_)|(refine zR ?_;intro K_ hK_)|(refine hK_ _ _ ?_;try clear hK_ K_)|refine sq_n ?_|refine sq_r ?_|refine sq_e ?_|refine bq_n ?_|refine bq_r ?_|refine bq_q ?_|refine zB ?_|refine zX ?_|refine zT ?_|refine zK ?_|refine gq_n ?_|refine gq_r ?_|refine gq_e ?_|refine lq_n ?_|refine lq_r ?_|refine lq_e ?_|refine bq_e (by decide) ?_)|((with_reducible refine zC (b:=?b_) ?hb_ ?_ ?_);case hb_=>rfl)|((conv=>whnf);first|(with_reducible refine hK_ _ _ ?_;try clear hK_ K_)|(with_reducible refine fun (g_:Sl) (o_:Ow)=>?_)|(with_reducible first|exact True.intro|refine And.intro trivial ?_|refine And.intro ?_ ?_)|exact Nat.le_of_ble_eq_true rfl|exact Or.inl rfl|(intro h_;cases h_)|(intro h_;(try simp only [vS1] at h_))|rfl))) <;> (try (conv=>whnf)) <;> (try first|change (_:Int)≤_|change (_:Nat)≤_) <;> (try ((fail_if_success (with_reducible apply Exists.intro));(try dsimp only);(try simp only [vS1])))
 all_goals (try ((fail_if_success (with_reducible apply Exists.intro));first|with_reducible assumption|omega))
 ·have hlt:i < l.length:=by omega
  exact (List.any_eq_true.2 ⟨l[i],List.getElem_mem hlt,by rw [← getD_lt 0 hlt];exact h_⟩).symm
 ·have hlt:i < l.length:=by omega
  refine ⟨i + 1,by omega,⟨by omega,?_⟩,by (repeat' (first|(with_reducible first|exact True.intro|refine And.intro ?_ ?_|refine Head.mk ?_ ?_ ?_ ?_)|((conv=>lhs;whnf);first|(with_reducible first|rfl|exact vInt_s (by omega))|exact rfl)|((conv=>whnf);first|(with_reducible first|exact True.intro|refine And.intro ?_ ?_)))) <;> (try (conv=>lhs;whnf))⟩
  rw [List.take_succ_eq_append_getElem hlt,List.any_append,hall,← getD_lt 0 hlt]
  simpa using h_
 ·rw [List.take_of_length_le (by omega)] at hall
  exact hall.symm
def lessC:Con:=mkCon [.sl (.b .int),.sl (.b .int)] (fun x=>x.1.length≤1048576∧x.2.1.length≤1048576) fun x=>vB (decide (cmpL x.1 x.2.1 < 0))
theorem cmpI_zero {x y:Int} (h:x=y):cmpI x y=0:=by subst h;unfold cmpI;simp
theorem cmpI_lt {x y:Int} (h:x≠y):cmpI x y≠0∧(decide (cmpI x y < 0))=decide (x < y):=by
 unfold cmpI
 by_cases h1:x < y
 ·simp [h1]
 ·have h2:y < x:=by omega
  simp [h1,h2]
theorem l19Less_ok:Good1 Tryz.prog n_spec_l19Less lessC:=by
 refine good_ofG (tys:=tyL) (env:=[]) (envw:=[]) (envd:=[]) [] [] [] [] [] mixed tys trivial trivial trivial Tryz.func45 rfl (by kernel_rfl) (by decide) (by kernel_rfl) ?_
 have hG_:=kpz [(0,[0,1]),(1,[0,1,5]),(2,[0,1,5,15]),(3,[0,1,5]),(4,[0,1,5,26]),(5,[4]),(6,[4])] [] [] []
 rintro ⟨(s:List Int),(t:List Int),⟨⟩⟩ ⟨(h1:s.length≤_),(h2:t.length≤_)⟩
 (repeat' (first|(with_reducible first|exact True.intro|refine zQ ?_|(refine zG hG_ ?_;intro K_ hK_)|(refine zR ?_;intro K_ hK_)|(refine hK_ _ _ ?_;try clear hK_ K_)|refine sq_n ?_|refine sq_r ?_|refine sq_e ?_|refine bq_n ?_|refine bq_r ?_|refine bq_q ?_|refine zB ?_|refine zX ?_|refine zT ?_|refine zK ?_|refine gq_n ?_|refine gq_r ?_|refine gq_e ?_|refine lq_n ?_|refine lq_r ?_|refine lq_e ?_|refine bq_e (by decide) ?_)|((with_reducible refine zC (b:=?b_) ?hb_ ?_ ?_);case hb_=>rfl)|((conv=>whnf);first|(with_reducible refine hK_ _ _ ?_;try clear hK_ K_)|(with_reducible refine fun (g_:Sl) (o_:Ow)=>?_)|(with_reducible first|exact True.intro|refine And.intro trivial ?_|refine And.intro ?_ ?_)|exact Nat.le_of_ble_eq_true rfl|exact Or.inl rfl|(intro h_;cases h_)|(intro h_;(try simp only [vS1] at h_))|rfl))) <;> (try (conv=>whnf)) <;> (try first|change (_:Int)≤_|change (_:Nat)≤_) <;> (try ((fail_if_success (with_reducible apply Exists.intro));(try dsimp only);(try simp only [vS1]))) <;> (try simp (disch:=omega) only [vS3,Int.add_sub_cancel,tn1,tnp,tnc,vS2] at *)
 all_goals (try ((fail_if_success (with_reducible apply Exists.intro));first|with_reducible assumption|omega))
 refine awp'_loopG (α:=Nat) (fun k ver_=>[(5,vInt k)]) (fun k ver_=>[]) (fun k ver_=>[]) (fun k=>(k≤s.length∧k≤t.length)∧∀ j,j < k→cmpI (s.getD j 0) (t.getD j 0)=0) (fun k=>s.length - k) [0,1] [] (0) ?_
 conv=>whnf
 refine ⟨⟨?inv2_,?vals2_,?own2_,?fix2_⟩,?body2_⟩
 case' vals2_=>(repeat' (first|(with_reducible first|exact True.intro|refine And.intro ?_ ?_|refine Head.mk ?_ ?_ ?_ ?_)|((conv=>lhs;whnf);first|(with_reducible first|rfl|exact vInt_s (by omega))|exact rfl)|((conv=>whnf);first|(with_reducible first|exact True.intro|refine And.intro ?_ ?_)))) <;> (try (conv=>lhs;whnf))
 case' own2_=>(repeat' (first|(with_reducible first|exact True.intro|refine And.intro ?_ ?_|refine Head.mk ?_ ?_ ?_ ?_)|((conv=>lhs;whnf);first|(with_reducible first|rfl|exact vInt_s (by omega))|exact rfl)|((conv=>whnf);first|(with_reducible first|exact True.intro|refine And.intro ?_ ?_)))) <;> (try (conv=>lhs;whnf))
 case' fix2_=>(repeat' (first|(with_reducible first|exact True.intro|refine And.intro ?_ ?_|refine Head.mk ?_ ?_ ?_ ?_)|((conv=>lhs;whnf);first|(with_reducible first|rfl|exact vInt_s (by omega))|exact rfl)|((conv=>whnf);first|(with_reducible first|exact True.intro|refine And.intro ?_ ?_)))) <;> (try (conv=>lhs;whnf))
 ·exact ⟨⟨Nat.zero_le _,Nat.zero_le _⟩,fun j hj=>absurd hj (by omega)⟩
 rintro k g_ o_ v_ ⟨⟨hk,hk2⟩,hall⟩
 (repeat' (first|(with_reducible first|exact True.intro|refine zQ ?_|(refine zG hG_ ?_;intro K_ hK_)|(refine zR ?_;intro K_ hK_)|(refine hK_ _ _ ?_;try clear hK_ K_)|refine sq_n ?_|refine sq_r ?_|refine sq_e ?_|refine bq_n ?_|refine bq_r ?_|refine bq_q ?_|refine zB ?_|refine zX ?_|refine zT ?_|refine zK ?_|refine gq_n ?_|refine gq_r ?_|refine gq_e ?_|refine lq_n ?_|refine lq_r ?_|refine lq_e ?_|refine bq_e (by decide) ?_)|((with_reducible refine zC (b:=?b_) ?hb_ ?_ ?_);case hb_=>rfl)|((conv=>whnf);first|(with_reducible refine hK_ _ _ ?_;try clear hK_ K_)|(with_reducible refine fun (g_:Sl) (o_:Ow)=>?_)|(with_reducible first|exact True.intro|refine And.intro trivial ?_|refine And.intro ?_ ?_)|exact Nat.le_of_ble_eq_true rfl|exact Or.inl rfl|(intro h_;cases h_)|(intro h_;(try simp only [vS1] at h_))|rfl))) <;> (try (conv=>whnf)) <;> (try first|change (_:Int)≤_|change (_:Nat)≤_) <;> (try ((fail_if_success (with_reducible apply Exists.intro));(try dsimp only);(try simp only [vS1]))) <;> (try simp (disch:=omega) only [vS3,Int.add_sub_cancel,tn1,tnp,tnc,vS2] at *)
 all_goals (try ((fail_if_success (with_reducible apply Exists.intro));first|with_reducible assumption|omega))
 ·have hne:s.getD k 0≠t.getD k 0:=by assumption
  rw [cmpL_at (by omega) (by omega) hall (cmpI_lt hne).1,(cmpI_lt hne).2]
 ·refine ⟨k + 1,by omega,⟨⟨by omega,by omega⟩,fun j hj=>?_⟩,by (repeat' (first|(with_reducible first|exact True.intro|refine And.intro ?_ ?_|refine Head.mk ?_ ?_ ?_ ?_)|((conv=>lhs;whnf);first|(with_reducible first|rfl|exact vInt_s (by omega))|exact rfl)|((conv=>whnf);first|(with_reducible first|exact True.intro|refine And.intro ?_ ?_)))) <;> (try (conv=>lhs;whnf))⟩
  rcases (show j < k∨j=k by omega) with g|g
  ·exact hall j g
  ·subst g;exact cmpI_zero (by assumption)
 all_goals
  rcases Nat.lt_trichotomy s.length t.length with g|g|g
  ·rw [cmpL_short g fun j hj=>hall j (by omega),decide_eq_true g];rfl
  ·rw [cmpL_same g fun j hj=>hall j (by omega),decide_eq_false (by omega)];rfl
  ·rw [cmpL_long g fun j hj=>hall j (by omega),decide_eq_false (by omega)];rfl
theorem rawS_len {xs:List Pt} {cuts:List (List Int)} {i:Nat} (h:plansM xs cuts=true) (hi:i≤cuts.length):(rawS xs cuts i).length≤8∧∀ y∈rawS xs cuts i,List.length y≤10:=by
 have hp:=Geo.plansX h
 have S:=rawP_stage hp hi
 have p:=rawS_perm hp hi
 exact ⟨by rw [p.length_eq];exact raw_few h hi S,fun y hy=>raw_bd hp.1 S y (p.mem_iff.1 hy)⟩
theorem rawS_flat (xs:List Pt) (cuts:List (List Int)) (i:Nat):((rawS xs cuts i).take (rawS xs cuts i).length).flatMap (partS (rI cuts i))=rawS xs cuts (i + 1):=by
 rw [List.take_length];rfl
theorem flatS_no {c l:List Int} {L:List (List Int)} {k:Nat} (hk:k < L.length) (e:L.getD k []=l) (h:hasB c l=false):(L.take k).flatMap (partS c) ++ [l]=(L.take (k + 1)).flatMap (partS c):=by
 rw [List.take_succ_eq_append_getElem hk,List.flatMap_append,← getD_lt (d:=[]) hk,e]
 simp [partS,h]
theorem flatS_yes {c l:List Int} {L:List (List Int)} {k:Nat} (hk:k < L.length) (e:L.getD k []=l) (h:hasB c l=true):(L.take k).flatMap (partS c) ++ [cutA c l,cutO c l]=(L.take (k + 1)).flatMap (partS c):=by
 rw [List.take_succ_eq_append_getElem hk,List.flatMap_append,← getD_lt (d:=[]) hk,e]
 simp [partS,h]
theorem flatS_len {xs:List Pt} {cuts:List (List Int)} {i k:Nat} (h:plansM xs cuts=true) (hi:i < cuts.length):(((rawS xs cuts i).take k).flatMap (partS (rI cuts i))).length≤8:=by
 have h1:=(rawS_len h (show i + 1≤cuts.length by omega)).1
 have e:rawS xs cuts (i + 1)=((rawS xs cuts i).take k).flatMap (partS (rI cuts i)) ++ ((rawS xs cuts i).drop k).flatMap (partS (rI cuts i)):=by
  rw [← List.flatMap_append,List.take_append_drop];rfl
 rw [e,List.length_append] at h1
 omega
abbrev NL:=Nat × List (List Int)
structure IsZ (a b:List (List Int)):Prop where
 eq:a=b
structure AtL (L:List (List Int)) (k:Nat) (l:List Int):Prop where
 eq:L.getD k []=l
theorem rise_one (l:List (List Int)) (h:l.length≤1):RiseL l:=by
 match l,h with
 | [],_=>exact List.Pairwise.nil
 | [x],_=>exact List.pairwise_singleton _ _
theorem shf_mem {ys:List (List Int)} {i k:Nat} {y:List Int} (h:y∈shf ys i k):y∈ys:=by
 unfold shf at h
 rcases List.mem_append.1 h with h|h
 ·exact List.mem_of_mem_take h
 ·rcases List.mem_append.1 h with h|h
  ·exact List.mem_of_mem_drop (List.mem_of_mem_take h)
  ·exact List.mem_of_mem_drop h
theorem getD_le {l:List (List Int)} {n:Nat} (h:∀ y∈l,List.length y≤n) (j:Nat):(l.getD j (ElK.s ElB.int).dflt).length≤n:=by
 rcases Nat.lt_or_ge j l.length with g|g
 ·rw [getD_lt _ g];exact h _ (List.getElem_mem g)
 ·rw [List.getD_eq_getElem?_getD,List.getElem?_eq_none g];exact Nat.zero_le _
def sPartsC:Con:=mkCon [.room,.sl (.s .int)] (fun x=>x.1.length≤1048576∧x.2.1.length≤1048576∧∀ c∈x.2.1,c.length≤1048576) fun x=>.val (.one (.d (.sl none (.s .int) (partsS x.1 x.2.1))))
theorem sPartsOf_ok:Good1 Tryz.prog n_spec_PartsOf sPartsC:=by
  refine good_ofG (tys:=tyL) (env:=[(n_spec_ArePlans,plansC),(n_spec_l19Has,sHasC),(n_spec_l19Less,lessC)]) (envw:=[]) (envd:=[]) [23,36,43,83,84] [] [] [] [] mixed tys ⟨sArePlans_ok,l19Has_ok,l19Less_ok,trivial⟩ trivial trivial Tryz.func14 rfl (by kernel_rfl) (by decide) (by kernel_rfl) ?_
  have hG_:=kpz [(0,[1,2]),(1,[1,2,21]),(2,[4]),(3,[1,2,5]),(4,[1,2,5,6]),(5,[1,2,5,6,28]),(6,[1,2,5,6]),(7,[1,2,5,6]),(8,[1,7]),(9,[1,7,8]),(10,[1,7,8,40]),(11,[1,7,8]),(12,[1,7,8,9]),(13,[1,7,8,9,10]),(14,[1,7,8,9,10,47]),(15,[1,7,8,9,10]),(16,[1,7,8,9,10,75]),(17,[1,7,8,9,10]),(18,[1,7,8,9,10,11]),(19,[1,7,8,9,10,11,12]),(20,[1,7,8,9,10,11,12,13]),(21,[1,7,8,9,10,11,12,13,91]),(22,[1,7,8,9,10,11,12,13]),(23,[1,7,8,9,10,11,12,13,14]),(24,[1,7,8,9,10,11,12,13,14,118]),(25,[1,7,8,9,10,11,12,13,14]),(26,[1,7,8,9,10,11,12,13,14,140]),(27,[1,7,8,9,10,11,12,13]),(28,[1,7,8,9,10]),(29,[1,7,8]),(30,[7,15]),(31,[7,15,154]),(32,[7,15]),(33,[7,15,16]),(34,[7,15,16,17]),(35,[7,15,16,17,172]),(36,[7,15,16,17]),(37,[7,15,16,17]),(38,[7,15]),(39,[4]),(100008,[1,5]),(100028,[1,7,8,9,10,11,12])] [(3,[23]),(4,[23]),(5,[23]),(6,[23]),(7,[23]),(8,[23,36]),(9,[23,36]),(10,[23,36]),(11,[23,36]),(12,[23,36,43]),(13,[23,36,43]),(14,[23,36,43]),(15,[23,36,43]),(16,[23,36,43]),(17,[23,36,43]),(18,[23,36,43,83]),(19,[23,36,43,83,84]),(20,[23,36,43,83,84]),(21,[23,36,43,83,84]),(22,[23,36,43,83,84]),(23,[23,36,43,83,84]),(24,[23,36,43,83,84]),(25,[23,36,43,83,84]),(26,[23,36,43,83,84]),(27,[23,36,43,83,84]),(28,[23,36,43,83,84]),(29,[23,36,43]),(30,[23,36]),(31,[23,36]),(32,[23,36]),(33,[23,36]),(34,[23,36]),(35,[23,36]),(36,[23,36]),(37,[23,36]),(38,[23,36]),(39,[23,36]),(100008,[23,36,43,83,84]),(100028,[23,36,43,83,84])] [(100008,[23]),(100028,[83,84])] [(29,[43,36])]
  rintro ⟨(xs:List Pt),(cuts:List (List Int)),⟨⟩⟩ ⟨(h1:xs.length≤_),(h2:cuts.length≤_),(h3:∀ c∈cuts,c.length≤_)⟩
  have hal:=allC_len xs.length
  (repeat' (first|(with_reducible first|exact True.intro|refine zQ ?_|(refine zG hG_ ?_;intro K_ hK_)|(refine zR ?_;intro K_ hK_)|(refine hK_ _ _ ?_;try clear hK_ K_)|refine sq_n ?_|refine sq_r ?_|refine sq_e ?_|refine bq_n ?_|refine bq_r ?_|refine bq_q ?_|refine zB ?_|refine zX ?_|refine zT ?_|refine zK ?_|refine gq_n ?_|refine gq_r ?_|refine gq_e ?_|refine lq_n ?_|refine lq_r ?_|refine lq_e ?_|refine bq_e (by decide) ?_)|((with_reducible refine zC (b:=?b_) ?hb_ ?_ ?_);case hb_=>rfl)|((conv=>whnf);first|(with_reducible refine hK_ _ _ ?_;try clear hK_ K_)|(with_reducible refine fun (g_:Sl) (o_:Ow)=>?_)|(with_reducible first|exact True.intro|refine And.intro trivial ?_|refine And.intro ?_ ?_)|exact Nat.le_of_ble_eq_true rfl|exact Or.inl rfl|(intro h_;cases h_)|(intro h_;(try simp only [vS1] at h_))|rfl))) <;> (try (conv=>whnf)) <;> (try first|change (_:Int)≤_|change (_:Nat)≤_) <;> (try ((fail_if_success (with_reducible apply Exists.intro));(try dsimp only);(try simp only [vS1]))) <;> (try simp (disch:=omega) only [vS3,Int.add_sub_cancel,tn1,tnp,tnc,vS2] at *)
  all_goals (try ((fail_if_success (with_reducible apply Exists.intro));first|with_reducible assumption|omega))
  · exact h3 _ List.mem_cons_self
  · exact h3 _ (List.mem_cons_of_mem _ (by assumption))
  · exact congrArg some (partsS_no h_).symm
  have hpl:PLift (plansM xs cuts=true):=⟨h_⟩
  have hP:=Geo.plansX h_
  have hxl:=room_len hP.1
  refine awp'_loopG (α:=Nat) (fun k ver_=>[(6,vInt k)]) (fun k ver_=>[(5,23,false,.row t_int (.b .int) ((allC xs.length).take k))]) (fun k ver_=>[]) (fun k=>k≤xs.length) (fun k=>xs.length - k) [1,2] [] (0) ?_
  conv=>whnf
  refine ⟨⟨?inv3_,?vals3_,?own3_,?fix3_⟩,?body3_⟩
  case' vals3_=>(repeat' (first|(with_reducible first|exact True.intro|refine And.intro ?_ ?_|refine Head.mk ?_ ?_ ?_ ?_)|((conv=>lhs;whnf);first|(with_reducible first|rfl|exact vInt_s (by omega))|exact rfl)|((conv=>whnf);first|(with_reducible first|exact True.intro|refine And.intro ?_ ?_)))) <;> (try (conv=>lhs;whnf))
  case' own3_=>(repeat' (first|(with_reducible first|exact True.intro|refine And.intro ?_ ?_|refine Head.mk ?_ ?_ ?_ ?_)|((conv=>lhs;whnf);first|(with_reducible first|rfl|exact vInt_s (by omega))|exact rfl)|((conv=>whnf);first|(with_reducible first|exact True.intro|refine And.intro ?_ ?_)))) <;> (try (conv=>lhs;whnf))
  case' fix3_=>(repeat' (first|(with_reducible first|exact True.intro|refine And.intro ?_ ?_|refine Head.mk ?_ ?_ ?_ ?_)|((conv=>lhs;whnf);first|(with_reducible first|rfl|exact vInt_s (by omega))|exact rfl)|((conv=>whnf);first|(with_reducible first|exact True.intro|refine And.intro ?_ ?_)))) <;> (try (conv=>lhs;whnf))
  · exact Nat.zero_le _
  rintro k g_ o_ v_ hk
  (repeat' (first|(with_reducible first|exact True.intro|refine zQ ?_|(refine zG hG_ ?_;intro K_ hK_)|(refine zR ?_;intro K_ hK_)|(refine hK_ _ _ ?_;try clear hK_ K_)|refine sq_n ?_|refine sq_r ?_|refine sq_e ?_|refine bq_n ?_|refine bq_r ?_|refine bq_q ?_|refine zB ?_|refine zX ?_|refine zT ?_|refine zK ?_|refine gq_n ?_|refine gq_r ?_|refine gq_e ?_|refine lq_n ?_|refine lq_r ?_|refine lq_e ?_|refine bq_e (by decide) ?_)|((with_reducible refine zC (b:=?b_) ?hb_ ?_ ?_);case hb_=>rfl)|((conv=>whnf);first|(with_reducible refine hK_ _ _ ?_;try clear hK_ K_)|(with_reducible refine fun (g_:Sl) (o_:Ow)=>?_)|(with_reducible first|exact True.intro|refine And.intro trivial ?_|refine And.intro ?_ ?_)|exact Nat.le_of_ble_eq_true rfl|exact Or.inl rfl|(intro h_;cases h_)|(intro h_;(try simp only [vS1] at h_))|rfl))) <;> (try (conv=>whnf)) <;> (try first|change (_:Int)≤_|change (_:Nat)≤_) <;> (try ((fail_if_success (with_reducible apply Exists.intro));(try dsimp only);(try simp only [vS1]))) <;> (try simp (disch:=omega) only [vS3,Int.add_sub_cancel,tn1,tnp,tnc,vS2] at *)
  all_goals (try ((fail_if_success (with_reducible apply Exists.intro));first|with_reducible assumption|omega))
  · refine ⟨k + 1,by omega,by omega,?_⟩
    (repeat' (first|(with_reducible first|exact True.intro|refine And.intro ?_ ?_|refine Head.mk ?_ ?_ ?_ ?_)|((conv=>lhs;whnf);first|(with_reducible first|rfl|exact vInt_s (by omega))|exact rfl)|((conv=>whnf);first|(with_reducible first|exact True.intro|refine And.intro ?_ ?_)))) <;> (try (conv=>lhs;whnf))
    exact congrArg (Own.row t_int (.b .int)) (allC_take xs.length k (by omega))
  refine awp'_loopG (α:=Nat) (fun i ver_=>[(8,vInt i)]) (fun i ver_=>[(7,36,false,.row t_sl_int (.s .int) (rawS xs cuts i))]) (fun i ver_=>[]) (fun i=>i≤cuts.length) (fun i=>cuts.length - i) [1] [23] (0) ?_
  conv=>whnf
  refine ⟨⟨?inv4_,?vals4_,?own4_,?fix4_⟩,?body4_⟩
  case' vals4_=>(repeat' (first|(with_reducible first|exact True.intro|refine And.intro ?_ ?_|refine Head.mk ?_ ?_ ?_ ?_)|((conv=>lhs;whnf);first|(with_reducible first|rfl|exact vInt_s (by omega))|exact rfl)|((conv=>whnf);first|(with_reducible first|exact True.intro|refine And.intro ?_ ?_)))) <;> (try (conv=>lhs;whnf))
  case' own4_=>(repeat' (first|(with_reducible first|exact True.intro|refine And.intro ?_ ?_|refine Head.mk ?_ ?_ ?_ ?_)|((conv=>lhs;whnf);first|(with_reducible first|rfl|exact vInt_s (by omega))|exact rfl)|((conv=>whnf);first|(with_reducible first|exact True.intro|refine And.intro ?_ ?_)))) <;> (try (conv=>lhs;whnf))
  case' fix4_=>(repeat' (first|(with_reducible first|exact True.intro|refine And.intro ?_ ?_|refine Head.mk ?_ ?_ ?_ ?_)|((conv=>lhs;whnf);first|(with_reducible first|rfl|exact vInt_s (by omega))|exact rfl)|((conv=>whnf);first|(with_reducible first|exact True.intro|refine And.intro ?_ ?_)))) <;> (try (conv=>lhs;whnf))
  · refine congrArg (Own.row t_sl_int (.s .int)) ?_
    show [_]=[_]
    rw [List.take_of_length_le (by omega)]
  · exact Nat.zero_le _
  rintro i g_ o_ v_ hi
  have hrl:=(rawS_len hpl.down hi).1
  have hrb:PLift (∀ y∈rawS xs cuts i,List.length y≤10):=⟨(rawS_len hpl.down hi).2⟩
  (repeat' (first|(with_reducible first|exact True.intro|refine zQ ?_|(refine zG hG_ ?_;intro K_ hK_)|(refine zR ?_;intro K_ hK_)|(refine hK_ _ _ ?_;try clear hK_ K_)|refine sq_n ?_|refine sq_r ?_|refine sq_e ?_|refine bq_n ?_|refine bq_r ?_|refine bq_q ?_|refine zB ?_|refine zX ?_|refine zT ?_|refine zK ?_|refine gq_n ?_|refine gq_r ?_|refine gq_e ?_|refine lq_n ?_|refine lq_r ?_|refine lq_e ?_|refine bq_e (by decide) ?_)|((with_reducible refine zC (b:=?b_) ?hb_ ?_ ?_);case hb_=>rfl)|((conv=>whnf);first|(with_reducible refine hK_ _ _ ?_;try clear hK_ K_)|(with_reducible refine fun (g_:Sl) (o_:Ow)=>?_)|(with_reducible first|exact True.intro|refine And.intro trivial ?_|refine And.intro ?_ ?_)|exact Nat.le_of_ble_eq_true rfl|exact Or.inl rfl|(intro h_;cases h_)|(intro h_;(try simp only [vS1] at h_))|rfl))) <;> (try (conv=>whnf)) <;> (try first|change (_:Int)≤_|change (_:Nat)≤_) <;> (try ((fail_if_success (with_reducible apply Exists.intro));(try dsimp only);(try simp only [vS1]))) <;> (try simp (disch:=omega) only [vS3,Int.add_sub_cancel,tn1,tnp,tnc,vS2] at *)
  all_goals (try ((fail_if_success (with_reducible apply Exists.intro));first|with_reducible assumption|omega))
  · have hlt:=‹i < cuts.length›
    have hc2:(rI cuts i).length=2:=(plansAt_iff.1 (hP.2 _ hlt)).1
    have f0:(0:Int) + 1≤((cuts.getD i (ElK.s ElB.int).dflt).length:Int):=by
      have:(cuts.getD i (ElK.s ElB.int).dflt).length=2:=hc2
      omega
    have f1:(1:Int) + 1≤((cuts.getD i (ElK.s ElB.int).dflt).length:Int):=by
      have:(cuts.getD i (ElK.s ElB.int).dflt).length=2:=hc2
      omega
    refine awp'_loopG (α:=Nat) (fun k ver_=>[(10,vInt k)]) (fun k ver_=>[(9,43,false,.row t_sl_int (.s .int) (((rawS xs cuts i).take k).flatMap (partS (rI cuts i))))]) (fun k ver_=>[]) (fun k=>k≤(rawS xs cuts i).length) (fun k=>(rawS xs cuts i).length - k) [1,7,8] [23,36] (0) ?_
    conv=>whnf
    refine ⟨⟨?inv5_,?vals5_,?own5_,?fix5_⟩,?body5_⟩
    case' vals5_=>(repeat' (first|(with_reducible first|exact True.intro|refine And.intro ?_ ?_|refine Head.mk ?_ ?_ ?_ ?_)|((conv=>lhs;whnf);first|(with_reducible first|rfl|exact vInt_s (by omega))|exact rfl)|((conv=>whnf);first|(with_reducible first|exact True.intro|refine And.intro ?_ ?_)))) <;> (try (conv=>lhs;whnf))
    case' own5_=>(repeat' (first|(with_reducible first|exact True.intro|refine And.intro ?_ ?_|refine Head.mk ?_ ?_ ?_ ?_)|((conv=>lhs;whnf);first|(with_reducible first|rfl|exact vInt_s (by omega))|exact rfl)|((conv=>whnf);first|(with_reducible first|exact True.intro|refine And.intro ?_ ?_)))) <;> (try (conv=>lhs;whnf))
    case' fix5_=>(repeat' (first|(with_reducible first|exact True.intro|refine And.intro ?_ ?_|refine Head.mk ?_ ?_ ?_ ?_)|((conv=>lhs;whnf);first|(with_reducible first|rfl|exact vInt_s (by omega))|exact rfl)|((conv=>whnf);first|(with_reducible first|exact True.intro|refine And.intro ?_ ?_)))) <;> (try (conv=>lhs;whnf))
    · exact Nat.zero_le _
    rintro k g_ o_ v_ hk
    have hfl:=flatS_len (k:=k) hpl.down hlt
    have hb:((rawS xs cuts i).getD k (ElK.s ElB.int).dflt).length≤10:=by
      rcases Nat.lt_or_ge k (rawS xs cuts i).length with g|g
      · rw [getD_lt _ g];exact hrb.down _ (List.getElem_mem g)
      · rw [List.getD_eq_getElem?_getD,List.getElem?_eq_none g];exact Nat.zero_le _
    (repeat' (first|(with_reducible first|exact True.intro|refine zQ ?_|(refine zG hG_ ?_;intro K_ hK_)|(refine zR ?_;intro K_ hK_)|(refine hK_ _ _ ?_;try clear hK_ K_)|refine sq_n ?_|refine sq_r ?_|refine sq_e ?_|refine bq_n ?_|refine bq_r ?_|refine bq_q ?_|refine zB ?_|refine zX ?_|refine zT ?_|refine zK ?_|refine gq_n ?_|refine gq_r ?_|refine gq_e ?_|refine lq_n ?_|refine lq_r ?_|refine lq_e ?_|refine bq_e (by decide) ?_)|((with_reducible refine zC (b:=?b_) ?hb_ ?_ ?_);case hb_=>rfl)|((conv=>whnf);first|(with_reducible refine hK_ _ _ ?_;try clear hK_ K_)|(with_reducible refine fun (g_:Sl) (o_:Ow)=>?_)|(with_reducible first|exact True.intro|refine And.intro trivial ?_|refine And.intro ?_ ?_)|exact Nat.le_of_ble_eq_true rfl|exact Or.inl rfl|(intro h_;cases h_)|(intro h_;(try simp only [vS1] at h_))|rfl))) <;> (try (conv=>whnf)) <;> (try first|change (_:Int)≤_|change (_:Nat)≤_) <;> (try ((fail_if_success (with_reducible apply Exists.intro));(try dsimp only);(try simp only [vS1]))) <;> (try simp (disch:=omega) only [vS3,Int.add_sub_cancel,tn1,tnp,tnc,vS2] at *)
    all_goals (try ((fail_if_success (with_reducible apply Exists.intro));first|with_reducible assumption|omega))
    · have hh:hasM ((rawS xs cuts i).getD k []) (gI (rI cuts i) 0)=false:=by assumption
      refine ⟨k + 1,by omega,by omega,?_⟩
      (repeat' (first|(with_reducible first|exact True.intro|refine And.intro ?_ ?_|refine Head.mk ?_ ?_ ?_ ?_)|((conv=>lhs;whnf);first|(with_reducible first|rfl|exact vInt_s (by omega))|exact rfl)|((conv=>whnf);first|(with_reducible first|exact True.intro|refine And.intro ?_ ?_)))) <;> (try (conv=>lhs;whnf))
      exact congrArg (Own.row t_sl_int (.s .int)) (flatS_no (by assumption) rfl (by unfold hasB;rw [hh];rfl))
    · have hh:hasM ((rawS xs cuts i).getD k []) (gI (rI cuts i) 1)=false:=by assumption
      refine ⟨k + 1,by omega,by omega,?_⟩
      (repeat' (first|(with_reducible first|exact True.intro|refine And.intro ?_ ?_|refine Head.mk ?_ ?_ ?_ ?_)|((conv=>lhs;whnf);first|(with_reducible first|rfl|exact vInt_s (by omega))|exact rfl)|((conv=>whnf);first|(with_reducible first|exact True.intro|refine And.intro ?_ ?_)))) <;> (try (conv=>lhs;whnf))
      exact congrArg (Own.row t_sl_int (.s .int)) (flatS_no (by assumption) rfl (by unfold hasB;rw [hh,Bool.and_false]))
    · have hh1:hasM ((rawS xs cuts i).getD k []) (gI (rI cuts i) 0)=true:=by assumption
      have hh2:hasM ((rawS xs cuts i).getD k []) (gI (rI cuts i) 1)=true:=by assumption
      have hbc:hasB (rI cuts i) ((rawS xs cuts i).getD k [])=true:=by unfold hasB;rw [hh1,hh2];rfl
      obtain ⟨l,hLp⟩:∃ l,AtL (rawS xs cuts i) k l:=⟨_,⟨rfl⟩⟩
      obtain ⟨c,hCp⟩:∃ c,AtL cuts i c:=⟨_,⟨rfl⟩⟩
      have hlb:l.length≤10:=by rw [← hLp.eq];exact hb
      have f0:(0:Int) + 1≤(c.length:Int):=by rw [← hCp.eq];exact f0
      have f1:(1:Int) + 1≤(c.length:Int):=by rw [← hCp.eq];exact f1
      refine awp'_loopG (α:=Nat) (fun j ver_=>[(13,vInt j)]) (fun j ver_=>[(11,83,false,.row t_int (.b .int) ((l.take j).filter (Geo.inA (gI c 0) (gI c 1)))),(12,84,false,.row t_int (.b .int) ((l.take j).filter (Geo.inO (gI c 0) (gI c 1))))]) (fun j ver_=>[]) (fun j=>j≤l.length) (fun j=>l.length - j) [1,7,8,9,10] [23,36,43] (0) ?_
      conv=>whnf
      refine ⟨⟨?inv6_,?vals6_,?own6_,?fix6_⟩,?body6_⟩
      case' vals6_=>(repeat' (first|(with_reducible first|exact True.intro|refine And.intro ?_ ?_|refine Head.mk ?_ ?_ ?_ ?_)|((conv=>lhs;whnf);first|(with_reducible first|rfl|exact vInt_s (by omega))|exact rfl)|((conv=>whnf);first|(with_reducible first|exact True.intro|refine And.intro ?_ ?_)))) <;> (try (conv=>lhs;whnf))
      case' own6_=>(repeat' (first|(with_reducible first|exact True.intro|refine And.intro ?_ ?_|refine Head.mk ?_ ?_ ?_ ?_)|((conv=>lhs;whnf);first|(with_reducible first|rfl|exact vInt_s (by omega))|exact rfl)|((conv=>whnf);first|(with_reducible first|exact True.intro|refine And.intro ?_ ?_)))) <;> (try (conv=>lhs;whnf))
      case' fix6_=>(repeat' (first|(with_reducible first|exact True.intro|refine And.intro ?_ ?_|refine Head.mk ?_ ?_ ?_ ?_)|((conv=>lhs;whnf);first|(with_reducible first|rfl|exact vInt_s (by omega))|exact rfl)|((conv=>whnf);first|(with_reducible first|exact True.intro|refine And.intro ?_ ?_)))) <;> (try (conv=>lhs;whnf))
      · exact Nat.zero_le _
      rintro j g_ o_ v_ hj
      have hf1:((l.take j).filter (Geo.inA (gI c 0) (gI c 1))).length≤10:=Nat.le_trans (List.length_filter_le ..) (by rw [List.length_take];omega)
      have hf2:((l.take j).filter (Geo.inO (gI c 0) (gI c 1))).length≤10:=Nat.le_trans (List.length_filter_le ..) (by rw [List.length_take];omega)
      (repeat' (first|(with_reducible first|exact True.intro|refine zQ ?_|(refine zG hG_ ?_;intro K_ hK_)|(refine zR ?_;intro K_ hK_)|(refine hK_ _ _ ?_;try clear hK_ K_)|refine sq_n ?_|refine sq_r ?_|refine sq_e ?_|refine bq_n ?_|refine bq_r ?_|refine bq_q ?_|refine zB ?_|refine zX ?_|refine zT ?_|refine zK ?_|refine gq_n ?_|refine gq_r ?_|refine gq_e ?_|refine lq_n ?_|refine lq_r ?_|refine lq_e ?_|refine bq_e (by decide) ?_)|((with_reducible refine zC (b:=?b_) ?hb_ ?_ ?_);case hb_=>rfl)|((conv=>whnf);first|(with_reducible refine hK_ _ _ ?_;try clear hK_ K_)|(with_reducible refine fun (g_:Sl) (o_:Ow)=>?_)|(with_reducible first|exact True.intro|refine And.intro trivial ?_|refine And.intro ?_ ?_)|exact Nat.le_of_ble_eq_true rfl|exact Or.inl rfl|(intro h_;cases h_)|(intro h_;(try simp only [vS1] at h_))|rfl))) <;> (try (conv=>whnf)) <;> (try first|change (_:Int)≤_|change (_:Nat)≤_) <;> (try ((fail_if_success (with_reducible apply Exists.intro));(try dsimp only);(try simp only [vS1]))) <;> (try simp (disch:=omega) only [vS3,Int.add_sub_cancel,tn1,tnp,tnc,vS2] at *)
      all_goals (try (have hL':(rawS xs cuts i).getD k (ElK.s ElB.int).dflt=l:=hLp.eq;simp only [hL'] at *))
      all_goals (try (have hC':cuts.getD i (ElK.s ElB.int).dflt=c:=hCp.eq;simp only [hC'] at *))
      all_goals (try ((fail_if_success (with_reducible apply Exists.intro));first|with_reducible assumption|omega))
      iterate 9
        · refine ⟨j + 1,by omega,by omega,?_⟩
          (repeat' (first|(with_reducible first|exact True.intro|refine And.intro ?_ ?_|refine Head.mk ?_ ?_ ?_ ?_)|((conv=>lhs;whnf);first|(with_reducible first|rfl|exact vInt_s (by omega))|exact rfl)|((conv=>whnf);first|(with_reducible first|exact True.intro|refine And.intro ?_ ?_)))) <;> (try (conv=>lhs;whnf)) <;> first
            | exact congrArg (Own.row t_int (.b .int)) (filt_yes (by assumption) (Geo.inA_iff.2 ⟨by assumption,by assumption⟩))
            | exact congrArg (Own.row t_int (.b .int)) (filt_yes (by assumption) (Geo.inO_iff.2 (.inl (by assumption))))
            | exact congrArg (Own.row t_int (.b .int)) (filt_yes (by assumption) (Geo.inO_iff.2 (.inr (by assumption))))
            | exact congrArg (Own.row t_int (.b .int)) (filt_no (by assumption) (f:=Geo.inA (gI c 0) (gI c 1)) fun h=>absurd (Geo.inA_iff.1 h).1 (by assumption))
            | exact congrArg (Own.row t_int (.b .int)) (filt_no (by assumption) (f:=Geo.inA (gI c 0) (gI c 1)) fun h=>absurd (Geo.inA_iff.1 h).2 (by assumption))
            | exact congrArg (Own.row t_int (.b .int)) (filt_no (by assumption) (f:=Geo.inO (gI c 0) (gI c 1)) fun h=>(Geo.inO_iff.1 h).elim (fun h=>absurd h (by assumption)) fun h=>absurd h (by assumption))
      · refine ⟨k + 1,by omega,by omega,?_⟩
        (repeat' (first|(with_reducible first|exact True.intro|refine And.intro ?_ ?_|refine Head.mk ?_ ?_ ?_ ?_)|((conv=>lhs;whnf);first|(with_reducible first|rfl|exact vInt_s (by omega))|exact rfl)|((conv=>whnf);first|(with_reducible first|exact True.intro|refine And.intro ?_ ?_)))) <;> (try (conv=>lhs;whnf))
        rw [List.take_of_length_le (show l.length≤j by omega)]
        have hbc':hasB c l=true:=by
          unfold hasB
          rw [show hasM l (gI c 0)=true by assumption,show hasM l (gI c 1)=true by assumption];rfl
        exact congrArg (Own.row t_sl_int (.s .int)) (flatS_yes (by assumption) hLp.eq hbc')
    · refine ⟨i + 1,by omega,by omega,?_⟩
      (repeat' (first|(with_reducible first|exact True.intro|refine And.intro ?_ ?_|refine Head.mk ?_ ?_ ?_ ?_)|((conv=>lhs;whnf);first|(with_reducible first|rfl|exact vInt_s (by omega))|exact rfl)|((conv=>whnf);first|(with_reducible first|exact True.intro|refine And.intro ?_ ?_)))) <;> (try (conv=>lhs;whnf))
      refine congrArg (Own.row t_sl_int (.s .int)) ?_
      rw [show k=(rawS xs cuts i).length by omega]
      exact rawS_flat xs cuts i
  have hil:i=cuts.length:=by omega
  have hR1:1≤(rawS xs cuts i).length:=by
    rw [(rawS_perm hP hi).length_eq,(rawP_stage hP hi).len];omega
  have hRP:=rawS_perm hP hi
  generalize hR:rawS xs cuts i=R at *
  refine awp'_loopG (α:=NL) (fun s ver_=>[(15,vInt ((s.1:Int) + 1))]) (fun s ver_=>[(7,36,false,.row t_sl_int (.s .int) s.2)]) (fun s ver_=>[]) (fun s=>s.1 + 1≤R.length∧s.2.Perm R∧RiseL (s.2.take (s.1 + 1))) (fun s=>R.length - s.1) [] [23] ((0,R)) ?_
  conv=>whnf
  refine ⟨⟨?inv7_,?vals7_,?own7_,?fix7_⟩,?body7_⟩
  case' vals7_=>(repeat' (first|(with_reducible first|exact True.intro|refine And.intro ?_ ?_|refine Head.mk ?_ ?_ ?_ ?_)|((conv=>lhs;whnf);first|(with_reducible first|rfl|exact vInt_s (by omega))|exact rfl)|((conv=>whnf);first|(with_reducible first|exact True.intro|refine And.intro ?_ ?_)))) <;> (try (conv=>lhs;whnf))
  case' own7_=>(repeat' (first|(with_reducible first|exact True.intro|refine And.intro ?_ ?_|refine Head.mk ?_ ?_ ?_ ?_)|((conv=>lhs;whnf);first|(with_reducible first|rfl|exact vInt_s (by omega))|exact rfl)|((conv=>whnf);first|(with_reducible first|exact True.intro|refine And.intro ?_ ?_)))) <;> (try (conv=>lhs;whnf))
  case' fix7_=>(repeat' (first|(with_reducible first|exact True.intro|refine And.intro ?_ ?_|refine Head.mk ?_ ?_ ?_ ?_)|((conv=>lhs;whnf);first|(with_reducible first|rfl|exact vInt_s (by omega))|exact rfl)|((conv=>whnf);first|(with_reducible first|exact True.intro|refine And.intro ?_ ?_)))) <;> (try (conv=>lhs;whnf))
  · exact ⟨hR1,List.Perm.refl _,rise_one _ (by rw [List.length_take];omega)⟩
  rintro ⟨m,ys⟩ g_ o_ v_ ⟨hm,hperm,hrise⟩
  simp only at hm hperm hrise
  have hyl:ys.length=R.length:=hperm.length_eq
  have hyb:PLift (∀ y∈ys,List.length y≤10):=⟨fun y hy=>hrb.down y (hperm.mem_iff.1 hy)⟩
  have hxb:=getD_le hyb.down (m + 1)
  (repeat' (first|(with_reducible first|exact True.intro|refine zQ ?_|(refine zG hG_ ?_;intro K_ hK_)|(refine zR ?_;intro K_ hK_)|(refine hK_ _ _ ?_;try clear hK_ K_)|refine sq_n ?_|refine sq_r ?_|refine sq_e ?_|refine bq_n ?_|refine bq_r ?_|refine bq_q ?_|refine zB ?_|refine zX ?_|refine zT ?_|refine zK ?_|refine gq_n ?_|refine gq_r ?_|refine gq_e ?_|refine lq_n ?_|refine lq_r ?_|refine lq_e ?_|refine bq_e (by decide) ?_)|((with_reducible refine zC (b:=?b_) ?hb_ ?_ ?_);case hb_=>rfl)|((conv=>whnf);first|(with_reducible refine hK_ _ _ ?_;try clear hK_ K_)|(with_reducible refine fun (g_:Sl) (o_:Ow)=>?_)|(with_reducible first|exact True.intro|refine And.intro trivial ?_|refine And.intro ?_ ?_)|exact Nat.le_of_ble_eq_true rfl|exact Or.inl rfl|(intro h_;cases h_)|(intro h_;(try simp only [vS1] at h_))|rfl))) <;> (try (conv=>whnf)) <;> (try first|change (_:Int)≤_|change (_:Nat)≤_) <;> (try ((fail_if_success (with_reducible apply Exists.intro));(try dsimp only);(try simp only [vS1]))) <;> (try simp (disch:=omega) only [vS3,Int.add_sub_cancel,tn1,tnp,tnc,vS2] at *)
  all_goals (try ((fail_if_success (with_reducible apply Exists.intro));first|with_reducible assumption|omega))
  · have hmi:m + 1 < ys.length:=by omega
    refine awp'_loopG (α:=Nat) (fun q ver_=>[(17,vInt ((m:Int) + 1 - q))]) (fun q ver_=>[(7,36,false,.row t_sl_int (.s .int) (shf ys (m + 1) (m + 1 - q)))]) (fun q ver_=>[]) (fun q=>q≤m + 1∧∀ j,m + 1 - q≤j→j < m + 1→cmpL (ys.getD (m + 1) []) (ys.getD j []) < 0) (fun q=>m + 1 - q) [15,16] [23] (0) ?_
    conv=>whnf
    refine ⟨⟨?inv8_,?vals8_,?own8_,?fix8_⟩,?body8_⟩
    case' vals8_=>(repeat' (first|(with_reducible first|exact True.intro|refine And.intro ?_ ?_|refine Head.mk ?_ ?_ ?_ ?_)|((conv=>lhs;whnf);first|(with_reducible first|rfl|exact vInt_s (by omega))|exact rfl)|((conv=>whnf);first|(with_reducible first|exact True.intro|refine And.intro ?_ ?_)))) <;> (try (conv=>lhs;whnf))
    case' own8_=>(repeat' (first|(with_reducible first|exact True.intro|refine And.intro ?_ ?_|refine Head.mk ?_ ?_ ?_ ?_)|((conv=>lhs;whnf);first|(with_reducible first|rfl|exact vInt_s (by omega))|exact rfl)|((conv=>whnf);first|(with_reducible first|exact True.intro|refine And.intro ?_ ?_)))) <;> (try (conv=>lhs;whnf))
    case' fix8_=>(repeat' (first|(with_reducible first|exact True.intro|refine And.intro ?_ ?_|refine Head.mk ?_ ?_ ?_ ?_)|((conv=>lhs;whnf);first|(with_reducible first|rfl|exact vInt_s (by omega))|exact rfl)|((conv=>whnf);first|(with_reducible first|exact True.intro|refine And.intro ?_ ?_)))) <;> (try (conv=>lhs;whnf))
    · exact congrArg (Own.row t_sl_int (.s .int)) shf_start.symm
    · exact ⟨Nat.zero_le _,fun j h1 h2=>absurd h1 (by omega)⟩
    rintro q g_ o_ v_ ⟨hq,hall⟩
    have hsl:=shf_len (show m + 1 - q≤m + 1 by omega) hmi
    have hsb:=getD_le (l:=shf ys (m + 1) (m + 1 - q)) (n:=10) fun y hy=>hyb.down y (shf_mem hy)
    have hsa:∀ j,j≤m + 1 - q→(shf ys (m + 1) (m + 1 - q)).getD j []=ys.getD j []:=fun j hj=>shf_at (by omega) hmi hj
    have hst:q < m + 1→(shf ys (m + 1) (m + 1 - q)).set (m + 1 - q) (ys.getD (m - q) [])=shf ys (m + 1) (m + 1 - (q + 1)):=fun h=>by
      rw [show m + 1 - q=m - q + 1 by omega,show m + 1 - (q + 1)=m - q by omega]
      exact shf_step (by omega) hmi
    have hin:(shf ys (m + 1) (m + 1 - q)).set (m + 1 - q) (ys.getD (m + 1) [])=insA ys (m + 1) (m + 1 - q):=shf_ins (by omega) hmi
    have e2:((m:Int) + 1 - q).toNat=m + 1 - q:=by omega
    obtain ⟨z,hz⟩:∃ z,IsZ (shf ys (m + 1) (m + 1 - q)) z:=⟨_,⟨rfl⟩⟩
    have hze:=hz.eq
    simp only [hze] at *
    (repeat' (first|(with_reducible first|exact True.intro|refine zQ ?_|(refine zG hG_ ?_;intro K_ hK_)|(refine zR ?_;intro K_ hK_)|(refine hK_ _ _ ?_;try clear hK_ K_)|refine sq_n ?_|refine sq_r ?_|refine sq_e ?_|refine bq_n ?_|refine bq_r ?_|refine bq_q ?_|refine zB ?_|refine zX ?_|refine zT ?_|refine zK ?_|refine gq_n ?_|refine gq_r ?_|refine gq_e ?_|refine lq_n ?_|refine lq_r ?_|refine lq_e ?_|refine bq_e (by decide) ?_)|((with_reducible refine zC (b:=?b_) ?hb_ ?_ ?_);case hb_=>rfl)|((conv=>whnf);first|(with_reducible refine hK_ _ _ ?_;try clear hK_ K_)|(with_reducible refine fun (g_:Sl) (o_:Ow)=>?_)|(with_reducible first|exact True.intro|refine And.intro trivial ?_|refine And.intro ?_ ?_)|exact Nat.le_of_ble_eq_true rfl|exact Or.inl rfl|(intro h_;cases h_)|(intro h_;(try simp only [vS1] at h_))|rfl))) <;> (try (conv=>whnf)) <;> (try first|change (_:Int)≤_|change (_:Nat)≤_) <;> (try ((fail_if_success (with_reducible apply Exists.intro));(try dsimp only);(try simp only [vS1]))) <;> (try simp (disch:=omega) only [vS3,Int.add_sub_cancel,tn1,tnp,tnc,vS2] at *)
    all_goals (try ((fail_if_success (with_reducible apply Exists.intro));first|with_reducible assumption|omega))
    · exact Nat.le_trans (hsb _) (by decide)
    · have e1:((m:Int) + 1 - q - 1).toNat=m - q:=by omega
      have hc:=‹cmpL _ _ < 0›
      rw [e1] at hc
      have hzq:=hsa (m - q) (by omega)
      refine ⟨q + 1,by omega,⟨by omega,fun j h1 h2=>?_⟩,?_⟩
      · rcases (show j=m - q∨m + 1 - q≤j by omega) with g|g
        · subst g;rw [← hzq];exact hc
        · exact hall j g h2
      · (repeat' (first|(with_reducible first|exact True.intro|refine And.intro ?_ ?_|refine Head.mk ?_ ?_ ?_ ?_)|((conv=>lhs;whnf);first|(with_reducible first|rfl|exact vInt_s (by omega))|exact rfl)|((conv=>whnf);first|(with_reducible first|exact True.intro|refine And.intro ?_ ?_)))) <;> (try (conv=>lhs;whnf)) <;> first
          | exact congrArg vInt (by omega)
          | (refine congrArg (Own.row t_sl_int (.s .int)) ?_
             rw [e1,e2,show z.getD (m - q) (ElK.s ElB.int).dflt=ys.getD (m - q) [] from hzq]
             exact hst (by omega))
    · have e1:((m:Int) + 1 - q - 1).toNat=m - q:=by omega
      have hc:=‹¬ cmpL _ _ < 0›
      have hzq:=hsa (m - q) (by omega)
      rw [e1,show z.getD (m - q) (ElK.s ElB.int).dflt=ys.getD (m - q) [] from hzq] at hc
      refine ⟨(m + 1,insA ys (m + 1) (m + 1 - q)),by simp only;omega,⟨by simp only;omega,(ins_perm (by omega) hmi).trans hperm,ins_rise (by omega) hmi hrise hall (.inr (by rw [show m + 1 - q - 1=m - q by omega];exact hc))⟩,?_⟩
      (repeat' (first|(with_reducible first|exact True.intro|refine And.intro ?_ ?_|refine Head.mk ?_ ?_ ?_ ?_)|((conv=>lhs;whnf);first|(with_reducible first|rfl|exact vInt_s (by omega))|exact rfl)|((conv=>whnf);first|(with_reducible first|exact True.intro|refine And.intro ?_ ?_)))) <;> (try (conv=>lhs;whnf)) <;> first
        | exact congrArg vInt (by simp only;omega)
        | (refine congrArg (Own.row t_sl_int (.s .int)) ?_
           rw [e2]
           exact hin)
    · refine ⟨(m + 1,insA ys (m + 1) (m + 1 - q)),by simp only;omega,⟨by simp only;omega,(ins_perm (by omega) hmi).trans hperm,ins_rise (by omega) hmi hrise hall (.inl (by omega))⟩,?_⟩
      (repeat' (first|(with_reducible first|exact True.intro|refine And.intro ?_ ?_|refine Head.mk ?_ ?_ ?_ ?_)|((conv=>lhs;whnf);first|(with_reducible first|rfl|exact vInt_s (by omega))|exact rfl)|((conv=>whnf);first|(with_reducible first|exact True.intro|refine And.intro ?_ ?_)))) <;> (try (conv=>lhs;whnf)) <;> first
        | exact congrArg vInt (by simp only;omega)
        | (refine congrArg (Own.row t_sl_int (.s .int)) ?_
           rw [e2]
           exact hin)
  · refine congrArg some ?_
    rw [partsS_yes hpl.down,← hil]
    rw [List.take_of_length_le (by omega)] at hrise
    exact sortL_uniq (hperm.trans hRP) hrise
theorem partsS_bd (xs:List Pt) (cuts:List (List Int)):(partsS xs cuts).length≤8∧∀ y∈partsS xs cuts,List.length y≤10:=by
 unfold partsS
 split
 ·rename_i h
  have p:=sortL_perm (rawP xs cuts cuts.length)
  have S:=rawP_stage (Geo.plansX h) (i:=cuts.length) (Nat.le_refl _)
  exact ⟨by rw [p.length_eq];exact raw_few h (Nat.le_refl _) S,fun y hy=>raw_bd (Geo.plansX h).1 S y (p.mem_iff.1 hy)⟩
 ·exact ⟨Nat.zero_le _,fun y hy=>by cases hy⟩
theorem partsS_ok (xs:List Pt) (cuts:List (List Int)):okSS (partsS xs cuts):=⟨Nat.le_trans (partsS_bd xs cuts).1 (by decide),fun y hy=>Nat.le_trans ((partsS_bd xs cuts).2 y hy) (by decide)⟩
theorem partsS_tot (xs:List Pt) (cuts:List (List Int)):totI (partsS xs cuts)≤80:=by
 have h:=partsS_bd xs cuts
 have:=totI_le h.2
 omega
theorem fnExactPartsOf_ok:Good1 Tryz.prog n_laws_FnExactPartsOf (lawCon [.room,.sl (.s .int)]):=by
 refine good_ofG (tys:=tyL) (env:=[(n_laws_szRoom,szRC),(n_laws_szIntSS,szIssC),(n_laws_toRoom,toRoomC),(n_laws_toIntSS,toIssDC),(n_spec_PartsOf,sPartsC),(n_impl_PartsOf,partsDC),(n_laws_eqIntSS,eqIssLC),(n_laws_eqRoom,eqRC),(n_laws_heldIntSS,heldSSC)]) (envw:=[(n_laws_markRoom,markRC)]) (envd:=[(n_laws_markIntSS,markSSLC)]) [30,32,35,52,55,66] [] [] [] [32,35,55,66] mixed tys ⟨szRoom_ok,szIntSS_ok,toRoom_ok,toIntSSD_ok,sPartsOf_ok,iPartsOfD_ok,eqIntSSL_ok,eqRoom_ok,heldIntSS_ok,trivial⟩ ⟨markRoom_ok,trivial⟩ ⟨markIntSSL_ok,trivial⟩ Tryz.func4 rfl (by kernel_rfl) (by decide) (by kernel_rfl) ?_
 have hG_:=kpz [(0,[1,2]),(1,[1,2,5]),(2,[1,2,5]),(3,[1,2,5,18]),(4,[4]),(5,[1,2,5]),(6,[1,2,23]),(7,[4]),(8,[1,2,6]),(9,[1,2,6,7]),(10,[1,2,6,7,8]),(11,[1,2,6,7,8,9]),(12,[1,2,6,7,8,9,39]),(13,[4]),(14,[1,2,6,7,8,9,44]),(15,[4]),(16,[1,2,6,7,8,9,49]),(17,[4]),(18,[1,2,6,7,8,9,10]),(19,[1,2,6,8,9,10]),(20,[1,2,6,9,10]),(21,[1,2,6,9,63]),(22,[4]),(23,[1,2,6,9,11]),(24,[1,2,6,9,11]),(25,[1,2,6,9,11,12]),(26,[1,2,6,9,11,12]),(27,[1,2,6,9,11,12,71]),(28,[4]),(29,[1,2,6,9,11,74]),(30,[4]),(31,[6,9,11,13]),(32,[9,11,83]),(33,[4]),(34,[9,11,12]),(35,[11,12]),(36,[11,12,88]),(37,[4]),(38,[91]),(39,[4]),(40,[4])] [(9,[7,30]),(10,[7,30,32]),(11,[7,30,32,35]),(12,[7,30,32,35]),(13,[30,32,35]),(14,[7,30,32,35]),(15,[30,32,35]),(16,[7,30,32,35]),(17,[30,32,35]),(18,[7,30,32,35]),(19,[30,32,35]),(20,[30,32,35,55]),(21,[30,32,35,55]),(22,[30,32,35,55]),(23,[30,32,35,55]),(24,[30,32,35,55,66]),(25,[30,32,35,55,66]),(26,[30,32,35,55,66]),(27,[30,32,35,55,66]),(28,[30,32,35,55,66]),(29,[30,32,35,55,66]),(30,[30,32,35,55,66]),(31,[30,32,35,55,66]),(32,[30,32,35,55,66]),(33,[30,32,35,55,66]),(34,[30,32,35,55,66]),(35,[30,32,35,55,66]),(36,[30,32,35,55,66]),(37,[30,32,35,55,66]),(38,[30,32,35,55,66]),(39,[30,32,35,55,66]),(40,[30,32,35,55,66])] [] []
 rintro ⟨(xs:List Pt),(cuts:List (List Int)),⟨⟩⟩ ⟨(h1:xs.length≤_),⟨(h2:cuts.length≤_),(h3:∀ c∈cuts,c.length≤_)⟩,-⟩
 have hsl:∀ c∈cuts,c.length≤sumL cuts:=fun c hc=>sumL_le hc
 have hts:=totI_sum cuts
 have ht:=partsS_ok xs cuts
 have ht1:=ht.1
 have htt:=partsS_tot xs cuts
 (repeat' (first|(with_reducible first|exact True.intro|refine zQ ?_|(refine zG hG_ ?_;intro K_ hK_)|(refine zR ?_;intro K_ hK_)|(refine hK_ _ _ ?_;try clear hK_ K_)|refine sq_n ?_|refine sq_r ?_|refine sq_e ?_|refine bq_n ?_|refine bq_r ?_|refine bq_q ?_|refine zB ?_|refine zX ?_|refine zT ?_|refine zK ?_|refine gq_n ?_|refine gq_r ?_|refine gq_e ?_|refine lq_n ?_|refine lq_r ?_|refine lq_e ?_|refine bq_e (by decide) ?_)|((with_reducible refine zC (b:=?b_) ?hb_ ?_ ?_);case hb_=>rfl)|((conv=>whnf);first|(with_reducible refine hK_ _ _ ?_;try clear hK_ K_)|(with_reducible refine fun (g_:Sl) (o_:Ow)=>?_)|(with_reducible first|exact True.intro|refine And.intro trivial ?_|refine And.intro ?_ ?_)|exact Nat.le_of_ble_eq_true rfl|exact Or.inl rfl|(intro h_;cases h_)|(intro h_;(try simp only [vS1] at h_))|rfl))) <;> (try (conv=>whnf)) <;> (try first|change (_:Int)≤_|change (_:Nat)≤_) <;> (try ((fail_if_success (with_reducible apply Exists.intro));(try dsimp only);(try simp only [vS1])))
 all_goals (try (fail_if_success (with_reducible apply Exists.intro));first|with_reducible assumption|omega|exact mdl (by omega)|exact ilo1 (by omega)|exact ilo2 (by omega)|exact ihi1 (by omega) (by omega)|exact ihi2 (by omega) (by omega))
 all_goals ((try simp only [szF_neg1,szF_neg2,szF_nn,szF_hi1,bne_self_eq_false,beq_self_eq_true,Bool.true_eq_false,markRC,markPsC,markIsC,markBsC,markSSLC,markSSC,heldSSC,mkConW,mkConDW,marksSS_len,heldF_marks,heldI_marks,heldB_marks,heldSS_marks1,marks_len,marksI_len,marksB_len,decide_true,Bool.not_true,List.length_map,not_true_eq_false,Bool.false_eq_true,reduceCtorEq,not_false_eq_true] at *);(try omega))
 all_goals first
  | exact h3 _ (by first|exact List.mem_cons_self|exact List.mem_cons_of_mem _ (by assumption))
  | exact Nat.le_trans (hsl _ (by first|exact List.mem_cons_self|exact List.mem_cons_of_mem _ (by assumption))) (by omega)
  | exact Nat.le_trans (ht.2 _ (by assumption)) (by decide)
  | exact ht.2 _ (by assumption)
  | exact marksSS_le ht.2 _ (by assumption)
  | exact srtG_lt (by unfold srt;omega) rfl
  | skip
end Go.Proofs.YtpafacebfogkmaaGreat
