/- What the proof of 'FnCuts' needs, part 6: conditions and steps of the functions that it reaches, and the mathematics. -/
import Derived.Test.YtpafacebfogkmaaGreatRows
import Derived.WalkKit
import Derived.WalkSpells
import Derived.Below
import Derived.Orders
import Derived.Maps.AppendAt
import Derived.Laws.StructEq
import Derived.WideShapes
import Derived.ChangeSlices
import Derived.Deep.Strs
import Derived.ChangeOld
import Derived.Shelf.SlLaysF0
import Derived.Shelf.SlSortCmp.InsertionK
import Derived.Shelf.SlSortCmp.SmallK
import Derived.Shelf.SlSortCmp.Xorshift
import Derived.Sort.LotA
import Derived.Shelf.Bits.Mul64
import Derived.Test.YtpafacebfogkmaaGreatSFnCuts5
set_option linter.unusedSimpArgs false
set_option linter.unusedVariables false
namespace Go.Proofs.YtpafacebfogkmaaGreat.Geo
open Go.RowKit
def subP (xs:List Pt) (l:List Int):Poly:=⟨l.length,fun j=>(roomP xs).v (gI l (j % l.length)).toNat,fun j=>by show (roomP xs).v (gI l ((j + l.length) % l.length)).toNat=_;rw [Nat.add_mod_right]⟩
theorem sub_v (xs:List Pt) {l:List Int} {j:Nat} (h:j < l.length):(subP xs l).v j=(roomP xs).v (gI l j).toNat:=by
 show (roomP xs).v (gI l (j % l.length)).toNat=_
 rw [Nat.mod_eq_of_lt h]
theorem gI_all {n k:Nat} (h:k < n):gI (allC n) k=k:=by
 unfold gI allC
 rw [getD_lt _ (by simpa using h)];simp
theorem sub_all {xs:List Pt} (hn:0 < xs.length):subP xs (allC xs.length)=roomP xs:=by
 refine Poly.ext' (allC_len _) fun j=>?_
 show (roomP xs).v (gI (allC xs.length) (j % (allC xs.length).length)).toNat=_
 rw [allC_len,gI_all (Nat.mod_lt _ hn),Int.toNat_natCast]
 exact (roomP xs).per_mod j
theorem sub_erase (xs:List Pt) {l:List Int} (h3:3 < l.length) {i:Nat} (hi:i < l.length):(subP xs (l.eraseIdx i)).rot i=partB ((subP xs l).rot (i + l.length - 1)) 2:=by
 have hl:=List.length_eraseIdx_of_lt hi
 refine Poly.ext' (by show (l.eraseIdx i).length=l.length - 2 + 1;omega) fun j=>?_
 show (roomP xs).v (gI (l.eraseIdx i) ((i + j) % (l.eraseIdx i).length)).toNat=(roomP xs).v (gI l ((i + l.length - 1 + (2 + j % (l.length - 2 + 1))) % l.length)).toNat
 have hm:j % (l.length - 1) < l.length - 1:=Nat.mod_lt _ (by omega)
 rw [hl,show l.length - 2 + 1=l.length - 1 by omega,← Nat.add_mod_mod]
 generalize j % (l.length - 1)=r at hm
 have e1:(i + l.length - 1 + (2 + r)) % l.length=(i + 1 + r) % l.length:=by
  rw [show i + l.length - 1 + (2 + r)=i + 1 + r + l.length by omega,Nat.add_mod_right]
 rw [e1]
 rcases Nat.lt_or_ge (i + 1 + r) l.length with g|g
 ·rw [Nat.mod_eq_of_lt g,Nat.mod_eq_of_lt (show i + r < l.length - 1 by omega),gI_erase (by omega),if_neg (by omega),show i + r + 1=i + 1 + r by omega]
 ·rw [Nat.mod_eq_sub_mod g,Nat.mod_eq_of_lt (show i + 1 + r - l.length < l.length by omega),Nat.mod_eq_sub_mod (show l.length - 1≤i + r by omega),Nat.mod_eq_of_lt (show i + r - (l.length - 1) < l.length - 1 by omega),
   gI_erase (by omega),if_pos (by omega),show i + r - (l.length - 1)=i + 1 + r - l.length by omega]
structure Sub (xs:List Pt) (l:List Int):Prop where
 left:Left xs.length l
 sim:SimpleP (subP xs l)
 area:0 < (subP xs l).area
 out:∀ {K x},0 < K→Outp (roomP xs) K x→Outp (subP xs l) K x
 inn:∀ {K x},0 < K→Inn (subP xs l) K x→Inn (roomP xs) K x
theorem Sub.all {xs:List Pt} (hr:roomOk xs=true):Sub xs (allC xs.length):=by
 have e:=sub_all (room_pos hr)
 exact ⟨left_all (room_len hr).1,by rw [e];exact room_simple hr,by rw [e];exact (room_area hr).2.1,fun _ h=>by rw [e];exact h,fun _ h=>by rw [e] at h;exact h⟩
theorem Inn.rot {P:Poly} {K:Int} {x:Pt} (h:Inn P K x) (s:Nat):Inn (P.rot s) K x:=by
 obtain ⟨ho,g,hg,e⟩:=h
 refine ⟨fun k hk=>?_,g,hg,by rw [← e];exact wnd_rot g (P.sc K) s x⟩
 have hn:0 < P.n:=by have hk:k < P.n:=hk;omega
 have:=ho ((s + k) % P.n) (Nat.mod_lt _ hn)
 rw [P.per_mod,P.per_add] at this
 exact this
theorem Inn.rot_iff {P:Poly} {K:Int} {x:Pt} (hn:1≤P.n) (s:Nat):Inn (P.rot s) K x↔Inn P K x:=
 ⟨fun h=>by have:=h.rot (s * (P.n - 1));rw [rot_back P s hn] at this;exact this,fun h=>h.rot s⟩
abbrev EarL (xs:List Pt) (l:List Int) (i:Nat):Prop:=EarI (subP xs l) (i + l.length - 1)
theorem ear_pts (xs:List Pt) {l:List Int} (h3:3≤l.length) {i:Nat} (hi:i < l.length) :
  (subP xs l).v (i + l.length - 1)=(roomP xs).v (gI l (prvN l.length i)).toNat∧(subP xs l).v (i + l.length - 1 + 1)=(roomP xs).v (gI l i).toNat∧(subP xs l).v (i + l.length - 1 + 2)=(roomP xs).v (gI l (nxtN l.length i)).toNat:=by
 refine ⟨rfl,?_,?_⟩
 ·show (roomP xs).v (gI l ((i + l.length - 1 + 1) % l.length)).toNat=_
  rw [show i + l.length - 1 + 1=i + l.length by omega,Nat.add_mod_right,Nat.mod_eq_of_lt hi]
 ·show (roomP xs).v (gI l ((i + l.length - 1 + 2) % l.length)).toNat=_
  rw [show i + l.length - 1 + 2=i + 1 + l.length by omega,Nat.add_mod_right];rfl
theorem Sub.some {xs:List Pt} {l:List Int} (h:Sub xs l) (h3:3 < l.length):∃ i,i < l.length∧EarL xs l i:=by
 obtain ⟨s,d,-,-,e,-⟩:=two_ears l.length (subP xs l) rfl h3 h.sim h.area
 refine ⟨(s + 1) % l.length,Nat.mod_lt _ (by omega),?_⟩
 have key:∀ d,(subP xs l).v ((s + 1) % l.length + l.length - 1 + d)=(subP xs l).v (s + d):=fun d=>by
  rw [show (s + 1) % l.length + l.length - 1 + d=(s + 1) % (subP xs l).n + (l.length - 1 + d) by show _=(s + 1) % l.length + _;omega,(subP xs l).per_add,show s + 1 + (l.length - 1 + d)=s + d + l.length by omega]
  exact (subP xs l).per (s + d)
 show EarP _ _ _ _
 have k0:(subP xs l).v ((s + 1) % l.length + l.length - 1)=(subP xs l).v s:=key 0
 rw [k0,key 1,key 2]
 exact e
theorem room_v {xs:List Pt} {k:Int} (h0:0≤k) (h:k < xs.length):(roomP xs).v k.toNat=pI xs k:=v_lt (by omega)
theorem turnI {xs:List Pt} (hr:roomOk xs=true) {a b c:Int} (ha:0≤a∧a < xs.length) (hb:0≤b∧b < xs.length) (hc:0≤c∧c < xs.length):turn (pI xs a) (pI xs b) (pI xs c)=turnZ ((roomP xs).v a.toNat) ((roomP xs).v b.toNat) ((roomP xs).v c.toNat):=by
 rw [room_v ha.1 ha.2,room_v hb.1 hb.2,room_v hc.1 hc.2]
 exact turn_exact (bd_of_ok (corner_ok hr (by omega))) (bd_of_ok (corner_ok hr (by omega))) (bd_of_ok (corner_ok hr (by omega)))
theorem inTri_iff {a b c p:Pt} (ha:Bd a) (hb:Bd b) (hc:Bd c) (hp:Bd p):inTri a b c p=true↔0≤turnZ a b p∧0≤turnZ b c p∧0≤turnZ c a p:=by
 unfold inTri
 rw [turn_exact ha hb hp,turn_exact hb hc hp,turn_exact hc ha hp]
 simp only [Bool.and_eq_true,decide_eq_true_eq]
theorem left_bd {xs:List Pt} (hr:roomOk xs=true) {l:List Int} (hL:Left xs.length l) {k:Nat} (hk:k < l.length):Bd (pI xs (gI l k)):=by
 have:=hL.at hk
 exact bd_of_ok (corner_ok hr (by omega))
theorem Sub.ear_of {xs:List Pt} (hr:roomOk xs=true) {l:List Int} (h:Sub xs l) {i:Nat} (hi:i < l.length) (hc:cutM xs l i=true):EarL xs l i:=by
 have h3:=h.left.len
 obtain ⟨-,ht,hno⟩:=cutM_iff.1 hc
 have hp:prvN l.length i < l.length:=prv_lt (by omega)
 have hn:nxtN l.length i < l.length:=nxt_lt (by omega)
 obtain ⟨e0,e1,e2⟩:=ear_pts xs h3 hi
 show EarP _ _ _ _
 rw [e0,e1,e2]
 rw [turnI hr (h.left.at hp) (h.left.at hi) (h.left.at hn)] at ht
 refine ⟨ht,fun j n0 n1 n2 hb=>?_⟩
 have hj:j % l.length < l.length:=Nat.mod_lt _ (by omega)
 have ej:(subP xs l).v j=(roomP xs).v (gI l (j % l.length)).toNat:=rfl
 rw [ej] at n0 n1 n2 hb
 generalize j % l.length=r at hj n0 n1 n2 hb
 rcases hno r hj with g|g|g|g
 ·exact n0 (by rw [g])
 ·exact n1 (by rw [g])
 ·exact n2 (by rw [g])
 ·have rv:∀ {k},k < l.length→(roomP xs).v (gI l k).toNat=pI xs (gI l k):=fun hk=>room_v (h.left.at hk).1 (h.left.at hk).2
  rw [rv hp,rv hi,rv hn,rv hj] at hb
  have:=(inTri_iff (left_bd hr h.left hp) (left_bd hr h.left hi) (left_bd hr h.left hn) (left_bd hr h.left hj)).2 hb
  rw [g] at this
  cases this
theorem Sub.cut2 {xs:List Pt} {l:List Int} (h:Sub xs l) (h3:3 < l.length) {i:Nat} (he:EarL xs l i):Cut ((subP xs l).rot (i + l.length - 1)) 2:=
 ear_cut (h.sim.rot _) (by rw [area_rot];exact h.area) h3 ((EarI.rot (show 0 < l.length by omega)).2 he)
theorem Sub.step {xs:List Pt} {l:List Int} (h:Sub xs l) (h3:3 < l.length) {i:Nat} (hi:i < l.length) (he:EarL xs l i):Sub xs (l.eraseIdx i):=by
 have c:=h.cut2 h3 he
 have hR:=h.sim.rot (i + l.length - 1)
 have hl:=List.length_eraseIdx_of_lt hi
 have e:=sub_erase xs h3 hi
 have n1:1≤(subP xs (l.eraseIdx i)).n:=by show 1≤(l.eraseIdx i).length;omega
 have nl:1≤(subP xs l).n:=by show 1≤l.length;omega
 have hb:(subP xs (l.eraseIdx i))=(partB ((subP xs l).rot (i + l.length - 1)) 2).rot (i * ((subP xs (l.eraseIdx i)).n - 1)):=by rw [← e,rot_back _ _ n1]
 obtain ⟨c',e'⟩:=c.rot
 refine ⟨h.left.erase h3 hi,by rw [hb];exact (c.simB hR).rot _,by rw [hb,area_rot];exact c.b,fun hK o=>?_,fun hK o=>h.inn hK ?_⟩
 ·rw [← Outp.rot_iff n1 i,e]
  exact (c.out_both hR hK ((h.out hK o).rot _)).2
 ·rw [← Inn.rot_iff n1 i,e] at o
  have:=c'.inn_of (hR.rot 2) hK o
  rwa [Inn.rot_iff (P:=(subP xs l).rot (i + l.length - 1)) nl,Inn.rot_iff nl] at this
theorem Sub.chord_inn {xs:List Pt} {l:List Int} (h:Sub xs l) (h3:3 < l.length) {i:Nat} (hi:i < l.length) (he:EarL xs l i) {s t K:Int} (hs:0 < s) (ht:0 < t) (e:s + t=K) :
  Inn (roomP xs) K (padd (smul s ((roomP xs).v (gI l (prvN l.length i)).toNat)) (smul t ((roomP xs).v (gI l (nxtN l.length i)).toNat))):=by
 have c:=h.cut2 h3 he
 have:=c.inn (h.sim.rot _) hs ht e
 rw [Inn.rot_iff (show 1≤l.length by omega)] at this
 have:=h.inn (by omega) this
 obtain ⟨e0,e1,e2⟩:=ear_pts xs (by omega) hi
 rw [← e0,← e2]
 exact this
theorem mid_inn {xs:List Pt} (hr:roomOk xs=true) {p q:Pt} (hp:-40≤p.1∧p.1≤40∧-40≤p.2∧p.2≤40) (hq:-40≤q.1∧q.1≤40∧-40≤q.2∧q.2≤40):midM xs p q=2↔Inn (roomP xs) 2 (padd p q):=by
 have h:=pt_of_room hr
 have hn:=room_pos hr
 have hmo:=mid_out hr hp hq
 have e:sumP p q=padd p q:=by
  unfold sumP padd
  rw [W_in (by omega) (by omega),W_in (by omega) (by omega)]
 have hs:Bd (padd p q):=by
  unfold Bd padd
  simp only
  omega
 have hy:(xs.map twP).length=xs.length:=by simp
 have hv:∀ k,pCy (xs.map twP) k=smul 2 (pCy xs k):=fun k=>by
  have hk:k % xs.length < xs.length:=Nat.mod_lt _ hn
  show (xs.map twP).getD (k % (xs.map twP).length) (0,0)=smul 2 (xs.getD (k % xs.length) (0,0))
  rw [List.length_map,getD_lt _ (by rw [List.length_map];exact hk),getD_lt _ hk,List.getElem_map]
  exact twP_eq (h _ (List.getElem_mem hk))
 have hb:∀ q∈xs.map twP,Bd q:=fun c' hc'=>by
  obtain ⟨c,hc,rfl⟩:=List.mem_map.1 hc'
  have:=h c hc
  rw [twP_eq this]
  unfold Bd smul
  simp only
  omega
 have hP:=room_simple hr
 have ne:∀ k,k < xs.length→smul 2 ((roomP xs).v k)≠smul 2 ((roomP xs).v (k + 1)):=fun k hk e=>by
  apply hP.ne k
  have e1:=congrArg Prod.fst e
  have e2:=congrArg Prod.snd e
  exact Prod.ext (Int.eq_of_mul_eq_mul_left (by omega) e1) (Int.eq_of_mul_eq_mul_left (by omega) e2)
 have wa:∀ k,k < xs.length→pAt (xs.map twP) k=smul 2 ((roomP xs).v k)∧pCy (xs.map twP) (k + 1)=smul 2 ((roomP xs).v (k + 1)):=fun k hk=>⟨(pCy_lt (by omega)).symm.trans (hv k),hv (k + 1)⟩
 have onoff:∀ k,k < xs.length→(onAt (xs.map twP) (padd p q) k=false↔Off (padd p q) (smul 2 ((roomP xs).v k)) (smul 2 ((roomP xs).v (k + 1)))):=fun k hk=>by
  have b1:Bd (pAt (xs.map twP) k):=pAt_bd hb (by omega)
  have b2:Bd (pCy (xs.map twP) (k + 1)):=pCy_bd hb (by omega)
  show onS (padd p q) (pAt (xs.map twP) k) (pCy (xs.map twP) (k + 1))=false↔_
  constructor
  ·intro h0
   rcases off_or_on (padd p q) (ne k hk) with g|g
   ·exact g
   ·rw [← (wa k hk).1,← (wa k hk).2] at g
    rw [g.onS b1 b2 hs] at h0
    exact absurd h0 (by decide)
  ·intro g
   cases h0:onS (padd p q) (pAt (xs.map twP) k) (pCy (xs.map twP) (k + 1)) with
   | false=>rfl
   | true=>
    exfalso
    have:=onS_OnM b1 b2 hs h0
    rw [(wa k hk).1,(wa k hk).2] at this
    exact this.not_off g
 have two:midM xs p q=2↔midM xs p q≠0∧onAny (xs.map twP) (padd p q)=false:=by
  unfold midM
  rw [e]
  unfold placeM
  split
  ·rename_i g;rw [g];simp
  ·rename_i g;split <;> simp [Bool.eq_false_iff.2 g]
 rw [two,ne_eq,hmo]
 have hoff:onAny (xs.map twP) (padd p q)=false↔OffP (roomP xs) 2 (padd p q):=by
  constructor
  ·intro g k hk
   have hk:k < xs.length:=hk
   exact (onoff k hk).1 (onAny_off g (by omega))
  ·intro g
   exact onAny_no fun k hk=>(onoff k (by omega)).2 (g k (by show k < xs.length;omega))
 rw [hoff]
 constructor
 ·rintro ⟨g1,g2⟩
  exact (out_or_in hP (room_area hr).2.1 (by decide) g2).resolve_left g1
 ·intro g
  exact ⟨g.not_out,g.1⟩
theorem diag_of_inn {xs:List Pt} (hr:roomOk xs=true) {i k:Nat} (hi:i < xs.length) (hk:k < xs.length) (hik:i≠k) (hin:∀ s t K:Int,0 < s→0 < t→s + t=K→Inn (roomP xs) K (padd (smul s ((roomP xs).v i)) (smul t ((roomP xs).v k)))):diagC xs i k=true:=by
 have vi:(roomP xs).v i=pAt xs i:=v_lt hi
 have vk:(roomP xs).v k=pAt xs k:=v_lt hk
 rw [diagC_iff]
 refine ⟨?_,?_,?_⟩
 ·rw [seesS_noout hr (corner_ok hr hi) (corner_ok hr hk) (corner_in hr hi) (corner_in hr hk)]
  intro s t hs ht hst o
  rcases (show s=0∨t=0∨(0 < s∧0 < t) by omega) with g|g|⟨g1,g2⟩
  ·subst g
   have e:padd (smul 0 (pAt xs i)) (smul t (pAt xs k))=smul t ((roomP xs).v k):=by rw [vk];unfold padd smul;simp
   rw [e] at o
   refine corner_not_out (roomP xs) k (by show 0 < xs.length;omega) (Outp.desc (L:=t) (by omega) ?_)
   rw [Int.mul_one];rwa [Int.zero_add] at o
  ·subst g
   have e:padd (smul s (pAt xs i)) (smul 0 (pAt xs k))=smul s ((roomP xs).v i):=by rw [vi];unfold padd smul;simp
   rw [e] at o
   refine corner_not_out (roomP xs) i (by show 0 < xs.length;omega) (Outp.desc (L:=s) (by omega) ?_)
   rw [Int.mul_one];rwa [Int.add_zero] at o
  ·have:=hin s t (s + t) g1 g2 rfl
   rw [vi,vk] at this
   exact this.not_out o
 ·rw [freeTo_iff]
  intro j hj
  by_cases e1:j=i
  ·exact .inl e1
  by_cases e2:j=k
  ·exact .inr (.inl e2)
  refine .inr (.inr ?_)
  cases h0:onS (pAt xs j) (pAt xs i) (pAt xs k) with
  | false=>rfl
  | true=>
   exfalso
   obtain ⟨s,t,hs,ht,h0,x1,x2⟩:=(onS_OnM (bd_of_ok (corner_ok hr hi)) (bd_of_ok (corner_ok hr hk)) (bd_of_ok (corner_ok hr hj)) h0).coords
   have hne:∀ {a},a < xs.length→j≠a→pAt xs j≠pAt xs a:=fun ha hja e=>hja (room_inj hr hj ha e)
   rcases (show s=0∨t=0∨(0 < s∧0 < t) by omega) with g|g|⟨g1,g2⟩
   ·subst g
    refine hne hk e2 (Prod.ext (Int.eq_of_mul_eq_mul_left (show t≠0 by omega) (by simpa using x1)) (Int.eq_of_mul_eq_mul_left (show t≠0 by omega) (by simpa using x2)))
   ·subst g
    refine hne hi e1 (Prod.ext (Int.eq_of_mul_eq_mul_left (show s≠0 by omega) (by simpa using x1)) (Int.eq_of_mul_eq_mul_left (show s≠0 by omega) (by simpa using x2)))
   ·have:=hin s t (s + t) g1 g2 rfl
    rw [vi,vk,show padd (smul s (pAt xs i)) (smul t (pAt xs k))=smul (s + t) ((roomP xs).v j) by rw [v_lt hj];exact Prod.ext x1.symm x2.symm] at this
    have:=this.1 j hj
    exact (Off.ne this).1 rfl
 ·rw [mid_inn hr (ptOk_iff.1 (corner_ok hr hi)) (ptOk_iff.1 (corner_ok hr hk))]
  have:=hin 1 1 2 (by decide) (by decide) rfl
  rwa [vi,vk,smul_one,smul_one] at this
theorem Sub.cut_of {xs:List Pt} (hr:roomOk xs=true) {l:List Int} (h:Sub xs l) (h3:3 < l.length) {i:Nat} (hi:i < l.length) (he:EarL xs l i):cutM xs l i=true:=by
 have hp:prvN l.length i < l.length:=prv_lt (by omega)
 have hn:nxtN l.length i < l.length:=nxt_lt (by omega)
 obtain ⟨q1,q2,q3⟩:=prv_ne (by omega) hi
 obtain ⟨e0,e1,e2⟩:=ear_pts xs (by omega) hi
 have ap:=h.left.at hp
 have an:=h.left.at hn
 have hne:gI l (prvN l.length i)≠gI l (nxtN l.length i):=fun e=>q3 (h.left.inj hp hn e)
 have heP:EarP (subP xs l) _ _ _:=he
 rw [e0,e1,e2] at heP
 rw [cutM_iff]
 refine ⟨?_,by rw [turnI hr ap (h.left.at hi) an];exact heP.1,fun j hj=>?_⟩
 ·cases hnb:neighZ xs.length (gI l (prvN l.length i)) (gI l (nxtN l.length i)) with
  | true=>exact .inr rfl
  | false=>
   left
   rw [diagM_iff]
   refine ⟨btw_iff.2 (by omega),btw_iff.2 (by omega),hne,hnb,diag_of_inn hr (by omega) (by omega) (by omega) fun s t K hs ht e=>h.chord_inn h3 hi he hs ht e⟩
 ·by_cases g0:gI l j=gI l (prvN l.length i)
  ·exact .inl g0
  by_cases g1:gI l j=gI l i
  ·exact .inr (.inl g1)
  by_cases g2:gI l j=gI l (nxtN l.length i)
  ·exact .inr (.inr (.inl g2))
  refine .inr (.inr (.inr ?_))
  have rv:∀ {k},k < l.length→(roomP xs).v (gI l k).toNat=pI xs (gI l k):=fun hk=>room_v (h.left.at hk).1 (h.left.at hk).2
  have dif:∀ {k},k < l.length→gI l j≠gI l k→(subP xs l).v j≠(roomP xs).v (gI l k).toNat:=fun {k} hk hjk e=>by
   rw [sub_v xs hj,rv hj,rv hk] at e
   have a1:=h.left.at hj
   have a2:=h.left.at hk
   have:=room_inj hr (by omega) (by omega) e
   omega
  have:=heP.2 j (dif hp g0) (dif hi g1) (dif hn g2)
  rw [sub_v xs hj,rv hp,rv hi,rv hn,rv hj] at this
  exact Bool.eq_false_iff.2 fun hb=>this ((inTri_iff (left_bd hr h.left hp) (left_bd hr h.left hi) (left_bd hr h.left hn) (left_bd hr h.left hj)).1 hb)
theorem Sub.first {xs:List Pt} (hr:roomOk xs=true) {l:List Int} (h:Sub xs l) (h3:3 < l.length):∃ i,firstCut xs l=Option.some i∧i < l.length∧EarL xs l i:=by
 obtain ⟨i,hi,he⟩:=h.some h3
 cases hf:firstCut xs l with
 | some j=>
  have:=firstCut_spec hf
  exact ⟨j,rfl,this.1,h.ear_of hr this.1 this.2⟩
 | none=>
  exfalso
  unfold firstCut at hf
  rw [List.find?_eq_none] at hf
  exact hf i (List.mem_range.2 hi) (h.cut_of hr h3 hi he)
abbrev tv (xs:List Pt) (k:Int):Pt:=(roomP xs).v k.toNat
theorem NoOut.swap {P:Poly} {a b:Pt} (h:NoOut P a b):NoOut P b a:=fun s t hs ht hst o=>by
 refine h t s ht hs (by omega) ?_
 rw [show padd (smul t a) (smul s b)=padd (smul s b) (smul t a) by unfold padd;exact Prod.ext (Int.add_comm _ _) (Int.add_comm _ _),Int.add_comm]
 exact o
theorem cut_of_diag {xs:List Pt} (hr:roomOk xs=true) {i k m:Nat} (hi:i < xs.length) (hk:k < xs.length) (hm:(i + m) % xs.length=k) (m2:2≤m) (mn:m + 2≤xs.length) (hd:diagC xs i k=true):Cut ((roomP xs).rot i) m:=by
 have hP:=room_simple hr
 have hR:=hP.rot i
 obtain ⟨hs,hf,hmid⟩:=diagC_iff.1 hd
 have hf:=freeTo_iff.1 hf
 have hno:=(seesS_noout hr (corner_ok hr hi) (corner_ok hr hk) (corner_in hr hi) (corner_in hr hk)).1 hs
 have v:∀ j,((roomP xs).rot i).v j=pAt xs ((i + j) % xs.length):=fun j=>by
  show (roomP xs).v (i + j)=_
  rw [← v_lt (Nat.mod_lt _ (room_pos hr))];exact ((roomP xs).per_mod (i + j)).symm
 have v0:((roomP xs).rot i).v 0=pAt xs i:=by rw [v 0,Nat.add_zero,Nat.mod_eq_of_lt hi]
 have vm:((roomP xs).rot i).v m=pAt xs k:=by rw [v m,hm]
 have idx:∀ {a b:Nat},a < xs.length→b < xs.length→(i + a) % xs.length=(i + b) % xs.length→a=b:=fun {a b} ha hb e=>by
  rcases Nat.lt_or_ge (i + a) xs.length with g1|g1 <;> rcases Nat.lt_or_ge (i + b) xs.length with g2|g2
  ·rw [Nat.mod_eq_of_lt g1,Nat.mod_eq_of_lt g2] at e;omega
  ·rw [Nat.mod_eq_of_lt g1,Nat.mod_eq_sub_mod g2,Nat.mod_eq_of_lt (by omega)] at e;omega
  ·rw [Nat.mod_eq_sub_mod g1,Nat.mod_eq_of_lt (show i + a - xs.length < xs.length by omega),Nat.mod_eq_of_lt g2] at e;omega
  ·rw [Nat.mod_eq_sub_mod g1,Nat.mod_eq_of_lt (show i + a - xs.length < xs.length by omega),Nat.mod_eq_sub_mod g2,Nat.mod_eq_of_lt (show i + b - xs.length < xs.length by omega)] at e;omega
 have bd:∀ j,Bd (pAt xs ((i + j) % xs.length)):=fun j=>bd_of_ok (corner_ok hr (Nat.mod_lt _ (by omega)))
 have hnR:((roomP xs).rot i).n=xs.length:=rfl
 have h0m:((roomP xs).rot i).v 0≠((roomP xs).rot i).v m:=hR.inj (by omega) (by omega) (by omega)
 have noOn:∀ j,0 < j→j < xs.length→j≠m→¬ OnM (((roomP xs).rot i).v j) (((roomP xs).rot i).v 0) (((roomP xs).rot i).v m):=fun j h1 h2 h3 ho=>by
  rw [v j,v0,vm] at ho
  have:=ho.onS (bd_of_ok (corner_ok hr hi)) (bd_of_ok (corner_ok hr hk)) (bd j)
  have hlt:(i + j) % xs.length < xs.length:=Nat.mod_lt _ (by omega)
  rcases hf _ hlt with e|e|e
  ·have:=idx (a:=j) (b:=0) h2 (by omega) (by rw [Nat.add_zero,Nat.mod_eq_of_lt hi];exact e)
   omega
  ·have:=idx (a:=j) (b:=m) h2 (by omega) (by rw [hm];exact e)
   omega
  ·rw [this] at e;cases e
 have c:Chord ((roomP xs).rot i) m:=by
  refine Chord.mk' hR m2 mn (fun j h1 h2 h3=>(off_or_on _ h0m).resolve_right (noOn j h1 h2 h3)) (fun j h1 h2 h3 h4=>?_)
  have h2:j + 1 < xs.length:=h2
  have hjj:((roomP xs).rot i).v j≠((roomP xs).rot i).v (j + 1):=hR.ne j
  rcases part_or_on h0m hjj with g|g|g|g|g|⟨g1,g2⟩
  ·exact g.symm
  ·exact absurd g (noOn j h1 (by omega) h3)
  ·exact absurd g (noOn (j + 1) (by omega) h2 h4)
  ·exact absurd (hR.offI (i:=j) (k:=0) (by omega) (by omega) (by omega) (by omega) (by omega)) g.not_off
  ·exact absurd (hR.offI (i:=j) (k:=m) (by omega) (by omega) (by omega) (by omega) (by omega)) g.not_off
  ·exfalso
   have hnoR:NoOut ((roomP xs).rot i) (((roomP xs).rot i).v 0) (((roomP xs).rot i).v m):=by
    rw [NoOut.rot_iff (show 1≤xs.length by omega),v0,vm];exact hno
   exact no_cross hR (fun j=>room_turns hr (i + j)) (by rw [area_rot];exact (room_area hr).2.1) hnoR (k:=j) g2 g1
 refine cut_of hR c (s:=1) (t:=1) (K:=2) (by decide) (by decide) rfl ?_
 rw [Inn.rot_iff (show 1≤xs.length by omega),v0,vm,smul_one,smul_one]
 exact (mid_inn hr (ptOk_iff.1 (corner_ok hr hi)) (ptOk_iff.1 (corner_ok hr hk))).1 hmid
theorem Part.swap1 {a b q r:Pt} (h:Part a b q r):Part b a q r:=let ⟨f,fa,fb,fq,fr⟩:=h;⟨f,fb,fa,fq,fr⟩
theorem chord_part {P:Poly} {m:Nat} (c:Chord P m) {K:Int} (hK:0 < K) {x y:Pt} (hx:OnI x (smul K (P.v 0)) (smul K (P.v m))) (hy:OnI y (smul K (P.v 0)) (smul K (P.v m))):∀ k,k < P.n→Part (smul K (P.v k)) (smul K (P.v (k + 1))) x y:=by
 have hm2:=c.m2
 have hmn:=c.mn
 intro k hk
 rcases (show k=0∨k + 1=m∨k=m∨k + 1=P.n∨(0 < k∧k + 1 < P.n∧k≠m∧k + 1≠m) by omega) with g|g|g|g|⟨g1,g2,g3,g4⟩
 ·subst g;exact (c.b0.1.1.sc hK).part hx.swap hy.swap
 ·have:=(c.bm.1.1.sc hK).part hx hy
  rw [show m - 1=k by omega,← g] at this
  exact this.swap1
 ·subst g;exact (c.bm.2.1.sc hK).part hx hy
 ·have:=(c.b0.2.1.sc hK).part hx.swap hy.swap
  rw [show P.n - 1=k by omega] at this
  rw [g,P.vn];exact this.swap1
 ·exact ((c.apart k g1 g2 g3 g4).sc hK).inn hx hy
theorem mean_on {s t K:Int} (hs:0 < s) (ht:0 < t) (e:s + t=K) (a b:Pt):OnI (padd (smul s a) (smul t b)) (smul K a) (smul K b):=by
 refine ⟨s,t,hs,ht,?_,?_⟩
 ·rw [← e];unfold padd smul;simp only;grind
 ·rw [← e];unfold padd smul;simp only;grind
theorem near_mean (L:Int) (a b:Pt):padd (smul (L - 1) a) (smul 1 b)=padd (smul L a) (psub b a):=by
 unfold padd smul psub
 refine Prod.ext ?_ ?_ <;> simp only <;> grind
theorem mean_comm (s t:Int) (a b:Pt):padd (smul s a) (smul t b)=padd (smul t b) (smul s a):=by
 unfold padd
 refine Prod.ext ?_ ?_ <;> simp only <;> omega
theorem Cut.corner' {P:Poly} (hP:SimpleP P) {m:Nat} (c:Cut P m) {e:Nat} (h0:0 < e) (hm:e < m):Outp (partB P m) 1 (P.v e):=by
 have hmn:=c.c.mn
 have:=c.rot.1.corner (hP.rot m) (j:=P.n - m + e) (by omega) (by show _ < P.n;omega)
 rw [show (P.rot m).v (P.n - m + e)=P.v e by show P.v (m + (P.n - m + e))=_;rw [show m + (P.n - m + e)=e + P.n by omega,P.per]] at this
 exact this
theorem chord_facts {P:Poly} {i k:Nat} (hik:i < k) (hk:k < P.n) (d:Chord (P.rot i) (k - i)):(∀ t,t < P.n→t≠i→t≠k→Off (P.v t) (P.v i) (P.v k)) ∧
  (∀ t,t + 1 < P.n→t≠i→t≠k→t + 1≠i→t + 1≠k→Part (P.v t) (P.v (t + 1)) (P.v i) (P.v k)):=by
 have e0:(P.rot i).v 0=P.v i:=by show P.v (i + 0)=_;rw [Nat.add_zero]
 have em:(P.rot i).v (k - i)=P.v k:=by show P.v (i + (k - i))=_;rw [show i + (k - i)=k by omega]
 have v1:∀ t,i≤t→(P.rot i).v (t - i)=P.v t:=fun t h=>by show P.v (i + (t - i))=_;rw [show i + (t - i)=t by omega]
 have v2:∀ t,t≤i→(P.rot i).v (t + P.n - i)=P.v t:=fun t h=>by show P.v (i + (t + P.n - i))=_;rw [show i + (t + P.n - i)=t + P.n by omega,P.per]
 have hn:(P.rot i).n=P.n:=rfl
 refine ⟨fun t ht h1 h2=>?_,fun t ht h1 h2 h3 h4=>?_⟩
 ·rcases (show i≤t∨t < i by omega) with g|g
  ·have:=d.off (t - i) (by omega) (by omega) (by omega)
   rwa [e0,em,v1 t g] at this
  ·have:=d.off (t + P.n - i) (by omega) (by omega) (by omega)
   rwa [e0,em,v2 t (by omega)] at this
 ·rcases (show i≤t∨t < i by omega) with g|g
  ·have:=d.apart (t - i) (by omega) (by omega) (by omega) (by omega)
   rwa [e0,em,v1 t g,show t - i + 1=t + 1 - i by omega,v1 (t + 1) (by omega)] at this
  ·have:=d.apart (t + P.n - i) (by omega) (by omega) (by omega) (by omega)
   rwa [e0,em,v2 t (by omega),show t + P.n - i + 1=t + 1 + P.n - i by omega,v2 (t + 1) (by omega)] at this
theorem Cut.sub_chord {P:Poly} (hP:SimpleP P) {m:Nat} (c:Cut P m) {i k:Nat} (hik:i + 2≤k) (hk:k≤m) (hne:¬ (i=0∧k=m)) (d:Cut (P.rot i) (k - i)) (hsep:i≠0→k≠m→Part (P.v i) (P.v k) (P.v m) (P.v 0)):Cut ((P.arc m).rot i) (k - i):=by
 have hm2:=c.c.m2
 have hmn:=c.c.mn
 have hA:=c.simA hP
 have hA':=hA.rot i
 obtain ⟨dO,dP⟩:=chord_facts (by omega) (by omega) d.c
 have av:∀ j,((P.arc m).rot i).v j=P.v ((i + j) % (m + 1)):=fun _=>rfl
 have a0:((P.arc m).rot i).v 0=P.v i:=by rw [av,Nat.add_zero,Nat.mod_eq_of_lt (by omega)]
 have ak:((P.arc m).rot i).v (k - i)=P.v k:=by rw [av,show i + (k - i)=k by omega,Nat.mod_eq_of_lt (by omega)]
 have hn:((P.arc m).rot i).n=m + 1:=rfl
 have idx:∀ j,j < m + 1→(i + j < m + 1∧(i + j) % (m + 1)=i + j)∨(m + 1≤i + j∧(i + j) % (m + 1)=i + j - (m + 1)):=fun j hj=>by
  rcases Nat.lt_or_ge (i + j) (m + 1) with g|g
  ·exact .inl ⟨g,Nat.mod_eq_of_lt g⟩
  ·exact .inr ⟨g,by rw [Nat.mod_eq_sub_mod g,Nat.mod_eq_of_lt (by omega)]⟩
 have ch:Chord ((P.arc m).rot i) (k - i):=by
  refine Chord.mk' hA' (by omega) (by omega) (fun j j0 hj jk=>?_) (fun j j0 hj jk jk1=>?_)
  ·rw [a0,ak,av]
   rcases idx j (by omega) with ⟨g,e⟩|⟨g,e⟩ <;> rw [e] <;> exact dO _ (by omega) (by omega) (by omega)
  ·rw [a0,ak,av,av]
   rcases idx j (by omega) with ⟨g,e⟩|⟨g,e⟩
   ·rcases idx (j + 1) (by omega) with ⟨g',e'⟩|⟨g',e'⟩
    ·rw [e,e',show i + (j + 1)=i + j + 1 by omega]
     exact dP _ (by omega) (by omega) (by omega) (by omega) (by omega)
    ·rw [e,e',show i + j=m by omega,show i + (j + 1) - (m + 1)=0 by omega]
     exact (hsep (by omega) (by omega)).symm
   ·rcases idx (j + 1) (by omega) with ⟨g',e'⟩|⟨g',e'⟩
    ·omega
    ·rw [e,e',show i + (j + 1) - (m + 1)=i + j - (m + 1) + 1 by omega]
     exact dP _ (by omega) (by omega) (by omega) (by omega) (by omega)
 have hR:=hP.rot i
 have e0:(P.rot i).v 0=P.v i:=by show P.v (i + 0)=_;rw [Nat.add_zero]
 have em:(P.rot i).v (k - i)=P.v k:=by show P.v (i + (k - i))=_;rw [show i + (k - i)=k by omega]
 have key:∃ s t K:Int,0 < s∧0 < t∧s + t=K∧wnd (up.sc K) ((partB P m).sc K).way (padd (smul s (P.v i)) (smul t (P.v k)))=0:=by
  by_cases hi:i=0
  ·have ho:=c.corner' hP (e:=k) (by omega) (by omega)
   obtain ⟨L,hL,⟨g1,g2⟩,g3⟩:=((near ho.off (psub (P.v i) (P.v k))).and (Late.ge 2)).get
   refine ⟨1,L - 1,L,by omega,by omega,by omega,?_⟩
   have:=g2 up
   rw [Int.mul_one,ho.w nc_up] at this
   rw [mean_comm,near_mean];exact this
  ·have ho:=c.corner' hP (e:=i) (by omega) (by omega)
   obtain ⟨L,hL,⟨g1,g2⟩,g3⟩:=((near ho.off (psub (P.v k) (P.v i))).and (Late.ge 2)).get
   refine ⟨L - 1,1,L,by omega,by omega,by omega,?_⟩
   have:=g2 up
   rw [Int.mul_one,ho.w nc_up] at this
   rw [near_mean];exact this
 obtain ⟨s,t,K,hs,ht,e,hB⟩:=key
 have hK:0 < K:=by omega
 have hoff:=chord_off ch hs ht e
 rw [a0,ak] at hoff
 rcases out_or_in hA' (by rw [area_rot];exact c.a) hK hoff with g|g
 ·exfalso
  have g:=(Outp.rot_iff (show 1≤(P.arc m).n by show 1≤m + 1;omega) i).1 g
  have hin:=d.inn hR hs ht e
  rw [e0,em,Inn.rot_iff (show 1≤P.n by omega)] at hin
  have sum:=cut_sum (up.sc K) P K (show m≤P.n by omega) (padd (smul s (P.v i)) (smul t (P.v k)))
  rw [hB,g.w (g:=up.sc K) nc_up,hin.w (g:=up.sc K) nc_up] at sum
  omega
 ·exact cut_of hA' ch hs ht e (by rw [a0,ak];exact g)
theorem Cut.no_lace {P:Poly} (hP:SimpleP P) {m:Nat} (c:Cut P m) {i k:Nat} (h0:0 < i) (hi:i < m) (hmk:m < k) (hk:k < P.n) (d:Cut (P.rot i) (k - i)) (hsep:Part (P.v i) (P.v k) (P.v m) (P.v 0)):False:=by
 have hm2:=c.c.m2
 have hmn:=c.c.mn
 have hR:=hP.rot i
 have e0:(P.rot i).v 0=P.v i:=by show P.v (i + 0)=_;rw [Nat.add_zero]
 have em:(P.rot i).v (k - i)=P.v k:=by show P.v (i + (k - i))=_;rw [show i + (k - i)=k by omega]
 have oB:=c.corner' hP h0 hi
 have oA:=c.corner hP hmk hk
 obtain ⟨L,hL,⟨⟨b1,b2⟩,a1,a2⟩,hL2⟩:=(((near oB.off (psub (P.v k) (P.v i))).and (near oA.off (psub (P.v i) (P.v k)))).and (Late.ge 2)).get
 have wB:=b2 up
 have wA:=a2 up
 rw [Int.mul_one,oB.w nc_up,← near_mean] at wB
 rw [Int.mul_one,oA.w nc_up,← near_mean,mean_comm] at wA
 have hx:=mean_on (s:=L - 1) (t:=1) (K:=L) (by omega) (by omega) (by omega) (P.v i) (P.v k)
 have hy:=mean_on (s:=1) (t:=L - 1) (K:=L) (by omega) (by omega) (by omega) (P.v i) (P.v k)
 have hwalls:=chord_part d.c hL (x:=padd (smul (L - 1) (P.v i)) (smul 1 (P.v k))) (y:=padd (smul 1 (P.v i)) (smul (L - 1) (P.v k))) (by rw [e0,em];exact hx) (by rw [e0,em];exact hy)
 have wall:∀ t,t < m→Part (smul L (P.v t)) (smul L (P.v (t + 1))) (padd (smul (L - 1) (P.v i)) (smul 1 (P.v k))) (padd (smul 1 (P.v i)) (smul (L - 1) (P.v k))):=fun t ht=>by
  rcases (show i≤t∨t < i by omega) with g|g
  ·have:=hwalls (t - i) (by show _ < P.n;omega)
   rwa [show (P.rot i).v (t - i)=P.v t by show P.v (i + (t - i))=_;rw [show i + (t - i)=t by omega],show (P.rot i).v (t - i + 1)=P.v (t + 1) by show P.v (i + (t - i + 1))=_;rw [show i + (t - i + 1)=t + 1 by omega]] at this
  ·have:=hwalls (t + P.n - i) (by show _ < P.n;omega)
   rwa [show (P.rot i).v (t + P.n - i)=P.v t by show P.v (i + (t + P.n - i))=_;rw [show i + (t + P.n - i)=t + P.n by omega,P.per],show (P.rot i).v (t + P.n - i + 1)=P.v (t + 1) by show P.v (i + (t + P.n - i + 1))=_;rw [show i + (t + P.n - i + 1)=t + 1 + P.n by omega,P.per]] at this
 have hcw:Part (smul L (P.v m)) (smul L (P.v 0)) (padd (smul (L - 1) (P.v i)) (smul 1 (P.v k))) (padd (smul 1 (P.v i)) (smul (L - 1) (P.v k))):=(hsep.symm.sc hL).inn hx hy
 have same:=wnd_step (up.sc L) ((P.arc m).sc L).way (q:=padd (smul (L - 1) (P.v i)) (smul 1 (P.v k))) (r:=padd (smul 1 (P.v i)) (smul (L - 1) (P.v k)))
  (A_walls (Q:=fun a b=>Part (smul L a) (smul L b) (padd (smul (L - 1) (P.v i)) (smul 1 (P.v k))) (padd (smul 1 (P.v i)) (smul (L - 1) (P.v k)))) |>.2 ⟨wall,hcw⟩)
 have hin:=d.inn hR (s:=L - 1) (t:=1) (K:=L) (by omega) (by omega) (by omega)
 rw [e0,em,Inn.rot_iff (show 1≤P.n by omega)] at hin
 have sum:=cut_sum (up.sc L) P L (show m≤P.n by omega) (padd (smul (L - 1) (P.v i)) (smul 1 (P.v k)))
 rw [hin.w (g:=up.sc L) nc_up,wB,same,wA] at sum
 omega
end Go.Proofs.YtpafacebfogkmaaGreat.Geo
namespace Go.Proofs.YtpafacebfogkmaaGreat
open Go.RowKit Go.Proofs.YtpafacebfogkmaaGreat.Nm
set_option maxRecDepth 10000
set_option maxHeartbeats 2000000
def strAt (l:List Pt) (i:Nat):Bool:=decide (turn (pAt l (prvN l.length i)) (pAt l i) (pAt l (nxtN l.length i))=0)
def firstStr (l:List Pt):Option Nat:=if 2 < l.length then (List.range l.length).find? (strAt l) else none
def strRun:Nat→List Pt→List Pt
 | 0,l=>l
 | f + 1,l=>match firstStr l with
  | none=>l
  | some i=>strRun f (l.eraseIdx i)
def straightM (l:List Pt):List Pt:=strRun l.length l
structure StrSt (xs l:List Pt):Prop where
 run:strRun l.length l=straightM xs
 len:l.length≤xs.length
theorem StrSt.step {xs l:List Pt} (h:StrSt xs l) {i:Nat} (hi:i < l.length) (hf:firstStr l=some i):StrSt xs (l.eraseIdx i):=by
 have hl:=List.length_eraseIdx_of_lt hi
 have hr:=h.run
 have:=h.len
 refine ⟨?_,by omega⟩
 rw [hl]
 rw [show l.length=(l.length - 1) + 1 by omega] at hr
 unfold strRun at hr
 rw [hf] at hr
 exact hr
def isDiagM (xs:List Pt) (i k:Int):Bool:=roomOk xs && diagM xs i k
theorem isDiag_iff {xs:List Pt} {i k:Int}:isDiagM xs i k=true↔roomOk xs=true∧diagM xs i k=true:=by unfold isDiagM;rw [Bool.and_eq_true]
theorem isDiag_bd {xs:List Pt} {i k:Int} (h:isDiagM xs i k=true):(0≤i∧i < xs.length)∧(0≤k∧k < xs.length)∧xs.length≤10:=by
 have h1:=isDiag_iff.1 h
 have h2:=diagM_iff.1 h1.2
 have h3:=btw_iff.1 h2.1
 have h4:=btw_iff.1 h2.2.1
 have h5:=room_len h1.1
 omega
def isDiagC:Con:=mkCon [.room,.int,.int] (fun x=>x.1.length≤1048576) fun x=>vB (isDiagM x.1 x.2.1 x.2.2.1)
theorem iIsDiagonal_ok:Good1 Tryz.prog n_impl_IsDiagonal isDiagC:=by
 refine good_ofG (tys:=tyL) (env:=[(n_impl_RoomOk,roomOkC),(n_impl_diagonal,diagonalC)]) (envw:=[]) (envd:=[]) [] [] [] [] [] mixed tys ⟨iRoomOk_ok,diagonal_ok,trivial⟩ trivial trivial Tryz.func71 rfl (by kernel_rfl) (by decide) (by kernel_rfl) ?_
 have hG_:=kpz [(0,[1,2,3]),(1,[6])] [] [] []
 rintro ⟨(xs:List Pt),(i:Int),(k:Int),⟨⟩⟩ (h1:xs.length≤_)
 (repeat' (first|(with_reducible first|exact True.intro|refine zQ ?_|(refine zG hG_ ?_;intro K_ hK_)|(refine zR ?_;intro K_ hK_)|(refine hK_ _ _ ?_;try clear hK_ K_)|refine sq_n ?_|refine sq_r ?_|refine sq_e ?_|refine bq_n ?_|refine bq_r ?_|refine bq_q ?_|refine zB ?_|refine zX ?_|refine zT ?_|refine zK ?_|refine gq_n ?_|refine gq_r ?_|refine gq_e ?_|refine lq_n ?_|refine lq_r ?_|refine lq_e ?_|refine bq_e (by decide) ?_)|((with_reducible refine zC (b:=?b_) ?hb_ ?_ ?_);case hb_=>rfl)|((conv=>whnf);first|(with_reducible refine hK_ _ _ ?_;try clear hK_ K_)|(with_reducible refine fun (g_:Sl) (o_:Ow)=>?_)|(with_reducible first|exact True.intro|refine And.intro trivial ?_|refine And.intro ?_ ?_)|exact Nat.le_of_ble_eq_true rfl|exact Or.inl rfl|(intro h_;cases h_)|(intro h_;(try simp only [vS1] at h_))|rfl))) <;> (try (conv=>whnf)) <;> (try first|change (_:Int)≤_|change (_:Nat)≤_) <;> (try ((fail_if_success (with_reducible apply Exists.intro));(try dsimp only);(try simp only [vS1]))) <;> (try simp (disch:=omega) only [vS3,Int.add_sub_cancel,tn1,tnp,tnc,vS2] at *)
 all_goals (try (fail_if_success (with_reducible apply Exists.intro));first|with_reducible assumption|omega|exact mdl (by omega)|exact ilo1 (by omega)|exact ilo2 (by omega)|exact ihi1 (by omega) (by omega)|exact ihi2 (by omega) (by omega))
 all_goals first
  | (unfold isDiagM;rw [‹roomOk xs=true›];rfl)
  | (unfold isDiagM;rw [‹roomOk xs=false›];rfl)
def crossM (xs:List Pt) (a b:List Int):Bool:=(decide ((a.length:Int)=2) && (decide ((b.length:Int)=2) && (isDiagM xs (gI a 0) (gI a 1) && isDiagM xs (gI b 0) (gI b 1)))) && crs (pI xs (gI a 0)) (pI xs (gI a 1)) (pI xs (gI b 0)) (pI xs (gI b 1))
theorem crossM_no {xs:List Pt} {a b:List Int} (h:(decide ((a.length:Int)=2) && (decide ((b.length:Int)=2) && (isDiagM xs (gI a 0) (gI a 1) && isDiagM xs (gI b 0) (gI b 1))))=false):crossM xs a b=false:=by unfold crossM;rw [h];rfl
theorem crossM_yes {xs:List Pt} {a b:List Int} (h1:(a.length:Int)=2) (h2:(b.length:Int)=2) (h3:isDiagM xs (gI a 0) (gI a 1)=true) (h4:isDiagM xs (gI b 0) (gI b 1)=true):crossM xs a b=crs (pI xs (gI a 0)) (pI xs (gI a 1)) (pI xs (gI b 0)) (pI xs (gI b 1)):=by
 unfold crossM;rw [h3,h4];simp [h1,h2]
theorem crossM_no1 {xs:List Pt} {a b:List Int} (h:¬(a.length:Int)=2):false=crossM xs a b:=(crossM_no (by rw [decide_eq_false h];rfl)).symm
theorem crossM_no2 {xs:List Pt} {a b:List Int} (h:¬(b.length:Int)=2):false=crossM xs a b:=(crossM_no (by rw [decide_eq_false h];simp)).symm
theorem crossM_no3 {xs:List Pt} {a b:List Int} (h:isDiagM xs (gI a 0) (gI a 1)=false):false=crossM xs a b:=(crossM_no (by rw [h];simp)).symm
theorem crossM_no4 {xs:List Pt} {a b:List Int} (h:isDiagM xs (gI b 0) (gI b 1)=false):false=crossM xs a b:=(crossM_no (by rw [h];simp)).symm
def dcrossC:Con:=mkCon [.room,.sl (.b .int),.sl (.b .int)] (fun x=>x.1.length≤1048576∧x.2.1.length≤1048576∧x.2.2.1.length≤1048576) fun x=>vB (crossM x.1 x.2.1 x.2.2.1)
theorem iDoDiagonalsCross_ok:Good1 Tryz.prog n_impl_DoDiagonalsCross dcrossC:=by
 refine good_ofG (tys:=tyL) (env:=[(n_impl_IsDiagonal,isDiagC),(n_impl_crosses,crossesC)]) (envw:=[]) (envd:=[]) [] [] [] [] [] mixed tys ⟨iIsDiagonal_ok,crosses_ok,trivial⟩ trivial trivial Tryz.func39 rfl (by kernel_rfl) (by decide) (by kernel_rfl) ?_
 have hG_:=kpz [(0,[1,2,3]),(1,[1,2,3,36]),(2,[6]),(3,[6])] [] [] []
 rintro ⟨(xs:List Pt),(a:List Int),(b:List Int),⟨⟩⟩ ⟨(h1:xs.length≤_),(h2:a.length≤_),(h3:b.length≤_)⟩
 (repeat' (first|(with_reducible first|exact True.intro|refine zQ ?_|(refine zG hG_ ?_;intro K_ hK_)|(refine zR ?_;intro K_ hK_)|(refine hK_ _ _ ?_;try clear hK_ K_)|refine sq_n ?_|refine sq_r ?_|refine sq_e ?_|refine bq_n ?_|refine bq_r ?_|refine bq_q ?_|refine zB ?_|refine zX ?_|refine zT ?_|refine zK ?_|refine gq_n ?_|refine gq_r ?_|refine gq_e ?_|refine lq_n ?_|refine lq_r ?_|refine lq_e ?_|refine bq_e (by decide) ?_)|((with_reducible refine zC (b:=?b_) ?hb_ ?_ ?_);case hb_=>rfl)|((conv=>whnf);first|(with_reducible refine hK_ _ _ ?_;try clear hK_ K_)|(with_reducible refine fun (g_:Sl) (o_:Ow)=>?_)|(with_reducible first|exact True.intro|refine And.intro trivial ?_|refine And.intro ?_ ?_)|exact Nat.le_of_ble_eq_true rfl|exact Or.inl rfl|(intro h_;cases h_)|(intro h_;(try simp only [vS1] at h_))|rfl))) <;> (try (conv=>whnf)) <;> (try first|change (_:Int)≤_|change (_:Nat)≤_) <;> (try ((fail_if_success (with_reducible apply Exists.intro));(try dsimp only);(try simp only [vS1]))) <;> (try simp (disch:=omega) only [vS3,Int.add_sub_cancel,tn1,tnp,tnc,vS2] at *)
 all_goals (try (fail_if_success (with_reducible apply Exists.intro));first|with_reducible assumption|omega|exact mdl (by omega)|exact ilo1 (by omega)|exact ilo2 (by omega)|exact ihi1 (by omega) (by omega)|exact ihi2 (by omega) (by omega))
 all_goals first
  | exact crossM_no1 ‹¬(a.length:Int)=2›
  | exact crossM_no2 ‹¬(b.length:Int)=2›
  | exact crossM_no3 ‹isDiagM xs (gI a 0) (gI a 1)=false›
  | exact crossM_no4 ‹isDiagM xs (gI b 0) (gI b 1)=false›
  | exact (isDiag_bd ‹isDiagM xs (gI a 0) (gI a 1)=true›).1.1
  | exact (isDiag_bd ‹isDiagM xs (gI a 0) (gI a 1)=true›).1.2
  | exact (isDiag_bd ‹isDiagM xs (gI a 0) (gI a 1)=true›).2.1.1
  | exact (isDiag_bd ‹isDiagM xs (gI a 0) (gI a 1)=true›).2.1.2
  | exact (isDiag_bd ‹isDiagM xs (gI b 0) (gI b 1)=true›).1.1
  | exact (isDiag_bd ‹isDiagM xs (gI b 0) (gI b 1)=true›).1.2
  | exact (isDiag_bd ‹isDiagM xs (gI b 0) (gI b 1)=true›).2.1.1
  | exact (isDiag_bd ‹isDiagM xs (gI b 0) (gI b 1)=true›).2.1.2
  | exact (crs_comm _ _ _ _).trans (crossM_yes ‹_› ‹_› ‹isDiagM xs (gI a 0) (gI a 1)=true› ‹isDiagM xs (gI b 0) (gI b 1)=true›).symm
  | exact (crossM_yes ‹_› ‹_› ‹isDiagM xs (gI a 0) (gI a 1)=true› ‹isDiagM xs (gI b 0) (gI b 1)=true›).symm
  | skip
def eqLC:Con:=mkCon [.sl (.b .int),.sl (.b .int)] (fun x=>x.1.length≤1048576∧x.2.1.length≤1048576) fun x=>vB (decide (x.1=x.2.1))
theorem slEqual_ok:Good1 Tryz.prog n_slices_Equal_int eqLC:=by
 refine good_ofG (tys:=tyL) (env:=[]) (envw:=[]) (envd:=[]) [] [] [] [] [] mixed tys trivial trivial trivial Tryz.func38 rfl (by kernel_rfl) (by decide) (by kernel_rfl) ?_
 have hG_:=kpz [(0,[0,1]),(1,[0,1,10]),(2,[4]),(3,[0,1,12,13]),(4,[0,1,12,13,14]),(5,[0,1,5,12,13]),(6,[0,1,12,13,24]),(7,[4]),(8,[0,1,12,13]),(9,[4])] [] [] []
 rintro ⟨(a:List Int),(b:List Int),⟨⟩⟩ ⟨(h1:a.length≤_),(h2:b.length≤_)⟩
 (repeat' (first|(with_reducible first|exact True.intro|refine zQ ?_|(refine zG hG_ ?_;intro K_ hK_)|(refine zR ?_;intro K_ hK_)|(refine hK_ _ _ ?_;try clear hK_ K_)|refine sq_n ?_|refine sq_r ?_|refine sq_e ?_|refine bq_n ?_|refine bq_r ?_|refine bq_q ?_|refine zB ?_|refine zX ?_|refine zT ?_|refine zK ?_|refine gq_n ?_|refine gq_r ?_|refine gq_e ?_|refine lq_n ?_|refine lq_r ?_|refine lq_e ?_|refine bq_e (by decide) ?_)|((with_reducible refine zC (b:=?b_) ?hb_ ?_ ?_);case hb_=>rfl)|((conv=>whnf);first|(with_reducible refine hK_ _ _ ?_;try clear hK_ K_)|(with_reducible refine fun (g_:Sl) (o_:Ow)=>?_)|(with_reducible first|exact True.intro|refine And.intro trivial ?_|refine And.intro ?_ ?_)|exact Nat.le_of_ble_eq_true rfl|exact Or.inl rfl|(intro h_;cases h_)|(intro h_;(try simp only [vS1] at h_))|rfl))) <;> (try (conv=>whnf)) <;> (try first|change (_:Int)≤_|change (_:Nat)≤_) <;> (try ((fail_if_success (with_reducible apply Exists.intro));(try dsimp only);(try simp only [vS1]))) <;> (try simp (disch:=omega) only [vS3,Int.add_sub_cancel,tn1,tnp,tnc,vS2] at *)
 all_goals (try (fail_if_success (with_reducible apply Exists.intro));first|with_reducible assumption|omega|exact mdl (by omega)|exact ilo1 (by omega)|exact ilo2 (by omega)|exact ihi1 (by omega) (by omega)|exact ihi2 (by omega) (by omega))
 ·exact eq_false_of fun hc=>by have:=of_decide_eq_true hc;subst this;simp_all
 refine awp'_loopG (α:=Nat) (fun k ver_=>[(13,vInt k)]) (fun k ver_=>[]) (fun k ver_=>[]) (fun k=>k≤a.length∧∀ j,j < k→a.getD j 0=b.getD j 0) (fun k=>a.length - k) [0,1,12] [] (0) ?_
 conv=>whnf
 refine ⟨⟨?inv1_,?vals1_,?own1_,?fix1_⟩,?body1_⟩
 case' vals1_=>(repeat' (first|(with_reducible first|exact True.intro|refine And.intro ?_ ?_|refine Head.mk ?_ ?_ ?_ ?_)|((conv=>lhs;whnf);first|(with_reducible first|rfl|exact vInt_s (by omega))|exact rfl)|((conv=>whnf);first|(with_reducible first|exact True.intro|refine And.intro ?_ ?_)))) <;> (try (conv=>lhs;whnf))
 case' own1_=>(repeat' (first|(with_reducible first|exact True.intro|refine And.intro ?_ ?_|refine Head.mk ?_ ?_ ?_ ?_)|((conv=>lhs;whnf);first|(with_reducible first|rfl|exact vInt_s (by omega))|exact rfl)|((conv=>whnf);first|(with_reducible first|exact True.intro|refine And.intro ?_ ?_)))) <;> (try (conv=>lhs;whnf))
 case' fix1_=>(repeat' (first|(with_reducible first|exact True.intro|refine And.intro ?_ ?_|refine Head.mk ?_ ?_ ?_ ?_)|((conv=>lhs;whnf);first|(with_reducible first|rfl|exact vInt_s (by omega))|exact rfl)|((conv=>whnf);first|(with_reducible first|exact True.intro|refine And.intro ?_ ?_)))) <;> (try (conv=>lhs;whnf))
 ·exact ⟨Nat.zero_le _,fun j hj=>absurd hj (by omega)⟩
 rintro k g_ o_ v_ ⟨hk,hall⟩
 (repeat' (first|(with_reducible first|exact True.intro|refine zQ ?_|(refine zG hG_ ?_;intro K_ hK_)|(refine zR ?_;intro K_ hK_)|(refine hK_ _ _ ?_;try clear hK_ K_)|refine sq_n ?_|refine sq_r ?_|refine sq_e ?_|refine bq_n ?_|refine bq_r ?_|refine bq_q ?_|refine zB ?_|refine zX ?_|refine zT ?_|refine zK ?_|refine gq_n ?_|refine gq_r ?_|refine gq_e ?_|refine lq_n ?_|refine lq_r ?_|refine lq_e ?_|refine bq_e (by decide) ?_)|((with_reducible refine zC (b:=?b_) ?hb_ ?_ ?_);case hb_=>rfl)|((conv=>whnf);first|(with_reducible refine hK_ _ _ ?_;try clear hK_ K_)|(with_reducible refine fun (g_:Sl) (o_:Ow)=>?_)|(with_reducible first|exact True.intro|refine And.intro trivial ?_|refine And.intro ?_ ?_)|exact Nat.le_of_ble_eq_true rfl|exact Or.inl rfl|(intro h_;cases h_)|(intro h_;(try simp only [vS1] at h_))|rfl))) <;> (try (conv=>whnf)) <;> (try first|change (_:Int)≤_|change (_:Nat)≤_) <;> (try ((fail_if_success (with_reducible apply Exists.intro));(try dsimp only);(try simp only [vS1]))) <;> (try simp (disch:=omega) only [vS3,Int.add_sub_cancel,tn1,tnp,tnc,vS2] at *)
 all_goals (try (fail_if_success (with_reducible apply Exists.intro));first|with_reducible assumption|omega|exact mdl (by omega)|exact ilo1 (by omega)|exact ilo2 (by omega)|exact ihi1 (by omega) (by omega)|exact ihi2 (by omega) (by omega))
 all_goals first
  | omega
  | exact eq_false_of fun hc=>by have:=of_decide_eq_true hc;subst this;simp_all
  | exact ⟨k + 1,by omega,⟨by omega,lt_succ_all hall (by assumption)⟩,by (repeat' (first|(with_reducible first|exact True.intro|refine And.intro ?_ ?_|refine Head.mk ?_ ?_ ?_ ?_)|((conv=>lhs;whnf);first|(with_reducible first|rfl|exact vInt_s (by omega))|exact rfl)|((conv=>whnf);first|(with_reducible first|exact True.intro|refine And.intro ?_ ?_)))) <;> (try (conv=>lhs;whnf))⟩
  | exact eq_true_of (decide_eq_true (ext_getD 0 (by omega) fun p hp=>hall p (by omega)))
  | skip
abbrev rI (cuts:List (List Int)) (i:Nat):List Int:=cuts.getD i []
def plansAt (xs:List Pt) (cuts:List (List Int)) (i:Nat):Bool:=(decide ((rI cuts i).length=2) && (decide (gI (rI cuts i) 0 < gI (rI cuts i) 1) && isDiagM xs (gI (rI cuts i) 0) (gI (rI cuts i) 1))) && (List.range i).all fun j=>!(decide (rI cuts i=rI cuts j) || crossM xs (rI cuts i) (rI cuts j))
theorem plansAt_iff {xs:List Pt} {cuts:List (List Int)} {i:Nat}:plansAt xs cuts i=true↔(rI cuts i).length=2∧gI (rI cuts i) 0 < gI (rI cuts i) 1∧isDiagM xs (gI (rI cuts i) 0) (gI (rI cuts i) 1)=true∧∀ j,j < i→rI cuts i≠rI cuts j∧crossM xs (rI cuts i) (rI cuts j)=false:=by
 unfold plansAt
 simp only [Bool.and_eq_true,decide_eq_true_eq,List.all_eq_true,List.mem_range,Bool.not_eq_true',Bool.or_eq_false_iff,decide_eq_false_iff_not,and_assoc]
def plansM (xs:List Pt) (cuts:List (List Int)):Bool:=roomOk xs && (decide (cuts.length≤7) && (List.range cuts.length).all (plansAt xs cuts))
theorem plansM_iff {xs:List Pt} {cuts:List (List Int)}:plansM xs cuts=true↔roomOk xs=true∧cuts.length≤7∧∀ i,i < cuts.length→plansAt xs cuts i=true:=by
 unfold plansM
 simp only [Bool.and_eq_true,decide_eq_true_eq,List.all_eq_true,List.mem_range]
theorem len2_eq {a b:List Int} (ha:a.length=2) (hb:b.length=2):a=b↔gI a 0=gI b 0∧gI a 1=gI b 1:=by
 match a,b,ha,hb with
 | [x,y],[z,u],_,_=>simp [gI]
theorem plans_at {xs:List Pt} {cuts:List (List Int)} {i:Nat} (hc:plansM xs cuts=true) (hi:i < cuts.length):plansAt xs cuts i=true:=(plansM_iff.1 hc).2.2 i hi
theorem plans_no1 {xs:List Pt} {cuts:List (List Int)} {i:Nat} (hi:i < cuts.length) (h:¬((rI cuts i).length:Int)=2):false=plansM xs cuts:=eq_false_of fun hc=>h (by have:=(plansAt_iff.1 (plans_at hc hi)).1;omega)
theorem plans_no2 {xs:List Pt} {cuts:List (List Int)} {i:Nat} (hi:i < cuts.length) (h:gI (rI cuts i) 0 ≥ gI (rI cuts i) 1):false=plansM xs cuts:=eq_false_of fun hc=>by have:=(plansAt_iff.1 (plans_at hc hi)).2.1;omega
theorem plans_no3 {xs:List Pt} {cuts:List (List Int)} {i:Nat} (hi:i < cuts.length) (h:isDiagM xs (gI (rI cuts i) 0) (gI (rI cuts i) 1)=false):false=plansM xs cuts:=eq_false_of fun hc=>by have:=(plansAt_iff.1 (plans_at hc hi)).2.2.1;rw [h] at this;cases this
theorem plans_no3d {xs:List Pt} {cuts:List (List Int)} {i:Nat} (hi:i < cuts.length) (h:diagM xs (gI (rI cuts i) 0) (gI (rI cuts i) 1)=false):false=plansM xs cuts:=plans_no3 hi (by unfold isDiagM;rw [h,Bool.and_false])
theorem plans_no4 {xs:List Pt} {cuts:List (List Int)} {i k:Nat} (hi:i < cuts.length) (hk:k < i) (h:rI cuts i=rI cuts k):false=plansM xs cuts:=eq_false_of fun hc=>((plansAt_iff.1 (plans_at hc hi)).2.2.2 k hk).1 h
theorem plans_no5 {xs:List Pt} {cuts:List (List Int)} {i k:Nat} (hi:i < cuts.length) (hk:k < i) (h:crossM xs (rI cuts i) (rI cuts k)=true):false=plansM xs cuts:=eq_false_of fun hc=>by have:=((plansAt_iff.1 (plans_at hc hi)).2.2.2 k hk).2;rw [h] at this;cases this
abbrev rT (cuts:List (List Int)) (i k:Nat):List Int:=(cuts.take i).getD k []
theorem rT_eq {cuts:List (List Int)} {i k:Nat} (hk:k < i):rT cuts i k=rI cuts k:=by
 simp only [rT,rI,List.getD_eq_getElem?_getD,List.getElem?_take,hk,if_true]
theorem plans_no4T {xs:List Pt} {cuts:List (List Int)} {i k:Nat} (hi:i < cuts.length) (hk:k < i) (h:rI cuts i=rT cuts i k):false=plansM xs cuts:=plans_no4 hi hk (h.trans (rT_eq hk))
theorem plans_no5T {xs:List Pt} {cuts:List (List Int)} {i k:Nat} (hi:i < cuts.length) (hk:k < i) (h:crossM xs (rI cuts i) (rT cuts i k)=true):false=plansM xs cuts:=plans_no5 hi hk (by rw [← rT_eq hk];exact h)
theorem plans_stepT {xs:List Pt} {cuts:List (List Int)} {i k:Nat} (hk:k < i) (h:¬rI cuts i=rT cuts i k) (h2:crossM xs (rI cuts i) (rT cuts i k)=false):rI cuts i≠rI cuts k∧crossM xs (rI cuts i) (rI cuts k)=false:=by
 rw [← rT_eq hk];exact ⟨h,h2⟩
theorem plansAt_mk {xs:List Pt} {cuts:List (List Int)} {i:Nat} (h1:((rI cuts i).length:Int)=2) (h2:¬gI (rI cuts i) 0 ≥ gI (rI cuts i) 1) (h3:isDiagM xs (gI (rI cuts i) 0) (gI (rI cuts i) 1)=true) (h4:∀ j,j < i→rI cuts i≠rI cuts j∧crossM xs (rI cuts i) (rI cuts j)=false):plansAt xs cuts i=true:=plansAt_iff.2 ⟨by omega,by omega,h3,h4⟩
theorem isDiag_mk {xs:List Pt} {i k:Int} (hr:roomOk xs=true) (h:diagM xs i k=true):isDiagM xs i k=true:=isDiag_iff.2 ⟨hr,h⟩
theorem rows_len {cuts:List (List Int)} (h:∀ c∈cuts,c.length≤1048576) (k:Nat):(rI cuts k).length≤1048576:=by
 rcases Nat.lt_or_ge k cuts.length with hk|hk
 ·exact h _ (by rw [show rI cuts k=cuts[k] from getD_lt _ hk];exact List.getElem_mem _)
 ·rw [show rI cuts k=[] by simp [rI,List.getD_eq_getElem?_getD,List.getElem?_eq_none hk]];exact Nat.zero_le _
def plansC:Con:=mkCon [.room,.sl (.s .int)] (fun x=>x.1.length≤1048576∧x.2.1.length≤1048576∧∀ c∈x.2.1,c.length≤1048576) fun x=>vB (plansM x.1 x.2.1)
theorem iArePlans_ok:Good1 Tryz.prog n_impl_ArePlans plansC:=by
 refine good_ofG (tys:=tyL) (env:=[(n_impl_RoomOk,roomOkC),(n_impl_diagonal,diagonalC),(n_slices_Equal_int,eqLC),(n_impl_DoDiagonalsCross,dcrossC)]) (envw:=[]) (envd:=[]) [] [] [] [] [] mixed tys ⟨iRoomOk_ok,diagonal_ok,slEqual_ok,iDoDiagonalsCross_ok,trivial⟩ trivial trivial Tryz.func10 rfl (by kernel_rfl) (by decide) (by kernel_rfl) ?_
 have hG_:=kpz [(0,[1,2]),(1,[1,2,16]),(2,[4]),(3,[1,2,17,18,19]),(4,[1,2,17,18,19,20]),(5,[1,2,5,6,17,18,19]),(6,[1,2,5,6,17,18,19,46]),(7,[4]),(8,[1,2,6,17,18,19,49,50,51]),(9,[1,2,6,17,18,19,49,50,51,52]),(10,[1,2,6,8,17,18,19,49,50,51]),(11,[1,2,6,17,18,19,49,50,51,63]),(12,[4]),(13,[1,2,6,17,18,19,49,50,51]),(14,[1,2,17,18,19]),(15,[4])] [] [] []
 rintro ⟨(xs:List Pt),(cuts:List (List Int)),⟨⟩⟩ ⟨(h1:xs.length≤_),(h2:cuts.length≤_),(h3:∀ c∈cuts,c.length≤_)⟩
 (repeat' (first|(with_reducible first|exact True.intro|refine zQ ?_|(refine zG hG_ ?_;intro K_ hK_)|(refine zR ?_;intro K_ hK_)|(refine hK_ _ _ ?_;try clear hK_ K_)|refine sq_n ?_|refine sq_r ?_|refine sq_e ?_|refine bq_n ?_|refine bq_r ?_|refine bq_q ?_|refine zB ?_|refine zX ?_|refine zT ?_|refine zK ?_|refine gq_n ?_|refine gq_r ?_|refine gq_e ?_|refine lq_n ?_|refine lq_r ?_|refine lq_e ?_|refine bq_e (by decide) ?_)|((with_reducible refine zC (b:=?b_) ?hb_ ?_ ?_);case hb_=>rfl)|((conv=>whnf);first|(with_reducible refine hK_ _ _ ?_;try clear hK_ K_)|(with_reducible refine fun (g_:Sl) (o_:Ow)=>?_)|(with_reducible first|exact True.intro|refine And.intro trivial ?_|refine And.intro ?_ ?_)|exact Nat.le_of_ble_eq_true rfl|exact Or.inl rfl|(intro h_;cases h_)|(intro h_;(try simp only [vS1] at h_))|rfl))) <;> (try (conv=>whnf)) <;> (try first|change (_:Int)≤_|change (_:Nat)≤_) <;> (try ((fail_if_success (with_reducible apply Exists.intro));(try dsimp only);(try simp only [vS1]))) <;> (try simp (disch:=omega) only [vS3,Int.add_sub_cancel,tn1,tnp,tnc,vS2] at *)
 all_goals (try (fail_if_success (with_reducible apply Exists.intro));first|with_reducible assumption|omega|exact mdl (by omega)|exact ilo1 (by omega)|exact ilo2 (by omega)|exact ihi1 (by omega) (by omega)|exact ihi2 (by omega) (by omega))
 ·unfold plansM;rw [‹roomOk xs=false›];rfl
 ·exact eq_false_of fun hc=>by have:=(plansM_iff.1 hc).2.1;omega
 refine awp'_loopG (α:=Nat) (fun i ver_=>[(19,vInt i)]) (fun i ver_=>[]) (fun i ver_=>[]) (fun i=>i≤cuts.length∧∀ j,j < i→plansAt xs cuts j=true) (fun i=>cuts.length - i) [1,2,17,18] [] (0) ?_
 conv=>whnf
 refine ⟨⟨?inv2_,?vals2_,?own2_,?fix2_⟩,?body2_⟩
 case' vals2_=>(repeat' (first|(with_reducible first|exact True.intro|refine And.intro ?_ ?_|refine Head.mk ?_ ?_ ?_ ?_)|((conv=>lhs;whnf);first|(with_reducible first|rfl|exact vInt_s (by omega))|exact rfl)|((conv=>whnf);first|(with_reducible first|exact True.intro|refine And.intro ?_ ?_)))) <;> (try (conv=>lhs;whnf))
 case' own2_=>(repeat' (first|(with_reducible first|exact True.intro|refine And.intro ?_ ?_|refine Head.mk ?_ ?_ ?_ ?_)|((conv=>lhs;whnf);first|(with_reducible first|rfl|exact vInt_s (by omega))|exact rfl)|((conv=>whnf);first|(with_reducible first|exact True.intro|refine And.intro ?_ ?_)))) <;> (try (conv=>lhs;whnf))
 case' fix2_=>(repeat' (first|(with_reducible first|exact True.intro|refine And.intro ?_ ?_|refine Head.mk ?_ ?_ ?_ ?_)|((conv=>lhs;whnf);first|(with_reducible first|rfl|exact vInt_s (by omega))|exact rfl)|((conv=>whnf);first|(with_reducible first|exact True.intro|refine And.intro ?_ ?_)))) <;> (try (conv=>lhs;whnf))
 ·exact ⟨Nat.zero_le _,fun j hj=>absurd hj (by omega)⟩
 rintro i g_ o_ v_ ⟨hk,hall⟩
 (repeat' (first|(with_reducible first|exact True.intro|refine zQ ?_|(refine zG hG_ ?_;intro K_ hK_)|(refine zR ?_;intro K_ hK_)|(refine hK_ _ _ ?_;try clear hK_ K_)|refine sq_n ?_|refine sq_r ?_|refine sq_e ?_|refine bq_n ?_|refine bq_r ?_|refine bq_q ?_|refine zB ?_|refine zX ?_|refine zT ?_|refine zK ?_|refine gq_n ?_|refine gq_r ?_|refine gq_e ?_|refine lq_n ?_|refine lq_r ?_|refine lq_e ?_|refine bq_e (by decide) ?_)|((with_reducible refine zC (b:=?b_) ?hb_ ?_ ?_);case hb_=>rfl)|((conv=>whnf);first|(with_reducible refine hK_ _ _ ?_;try clear hK_ K_)|(with_reducible refine fun (g_:Sl) (o_:Ow)=>?_)|(with_reducible first|exact True.intro|refine And.intro trivial ?_|refine And.intro ?_ ?_)|exact Nat.le_of_ble_eq_true rfl|exact Or.inl rfl|(intro h_;cases h_)|(intro h_;(try simp only [vS1] at h_))|rfl))) <;> (try (conv=>whnf)) <;> (try first|change (_:Int)≤_|change (_:Nat)≤_) <;> (try ((fail_if_success (with_reducible apply Exists.intro));(try dsimp only);(try simp only [vS1]))) <;> (try simp (disch:=omega) only [vS3,Int.add_sub_cancel,tn1,tnp,tnc,vS2] at *)
 all_goals (try (fail_if_success (with_reducible apply Exists.intro));first|with_reducible assumption|omega|exact mdl (by omega)|exact ilo1 (by omega)|exact ilo2 (by omega)|exact ihi1 (by omega) (by omega)|exact ihi2 (by omega) (by omega))
 rotate_left 1
 all_goals first
  | exact plans_no1 ‹i < cuts.length› ‹¬((rI cuts i).length:Int)=2›
  | exact plans_no2 ‹i < cuts.length› ‹gI (rI cuts i) 0 ≥ gI (rI cuts i) 1›
  | exact plans_no3 ‹i < cuts.length› ‹isDiagM xs (gI (rI cuts i) 0) (gI (rI cuts i) 1)=false›
  | exact plans_no3d ‹i < cuts.length› ‹diagM xs (gI (rI cuts i) 0) (gI (rI cuts i) 1)=false›
  | exact (rows_len h3 _)
  | exact rows_len (fun c hc=>h3 c (List.mem_of_mem_take hc)) _
  | omega
  | exact eq_true_of (plansM_iff.2 ⟨‹roomOk xs=true›,by omega,fun j hj=>hall j (by omega)⟩)
  | skip
 refine awp'_loopG (α:=Nat) (fun k ver_=>[(51,vInt k)]) (fun k ver_=>[]) (fun k ver_=>[]) (fun k=>k≤i∧∀ j,j < k→rI cuts i≠rI cuts j∧crossM xs (rI cuts i) (rI cuts j)=false) (fun k=>i - k) [1,2,6,17,18,19,49,50] [] (0) ?_
 conv=>whnf
 refine ⟨⟨?inv3_,?vals3_,?own3_,?fix3_⟩,?body3_⟩
 case' vals3_=>(repeat' (first|(with_reducible first|exact True.intro|refine And.intro ?_ ?_|refine Head.mk ?_ ?_ ?_ ?_)|((conv=>lhs;whnf);first|(with_reducible first|rfl|exact vInt_s (by omega))|exact rfl)|((conv=>whnf);first|(with_reducible first|exact True.intro|refine And.intro ?_ ?_)))) <;> (try (conv=>lhs;whnf))
 case' own3_=>(repeat' (first|(with_reducible first|exact True.intro|refine And.intro ?_ ?_|refine Head.mk ?_ ?_ ?_ ?_)|((conv=>lhs;whnf);first|(with_reducible first|rfl|exact vInt_s (by omega))|exact rfl)|((conv=>whnf);first|(with_reducible first|exact True.intro|refine And.intro ?_ ?_)))) <;> (try (conv=>lhs;whnf))
 case' fix3_=>(repeat' (first|(with_reducible first|exact True.intro|refine And.intro ?_ ?_|refine Head.mk ?_ ?_ ?_ ?_)|((conv=>lhs;whnf);first|(with_reducible first|rfl|exact vInt_s (by omega))|exact rfl)|((conv=>whnf);first|(with_reducible first|exact True.intro|refine And.intro ?_ ?_)))) <;> (try (conv=>lhs;whnf))
 ·exact ⟨Nat.zero_le _,fun j hj=>absurd hj (by omega)⟩
 rintro k g_ o_ v_ ⟨hki,hin⟩
 (repeat' (first|(with_reducible first|exact True.intro|refine zQ ?_|(refine zG hG_ ?_;intro K_ hK_)|(refine zR ?_;intro K_ hK_)|(refine hK_ _ _ ?_;try clear hK_ K_)|refine sq_n ?_|refine sq_r ?_|refine sq_e ?_|refine bq_n ?_|refine bq_r ?_|refine bq_q ?_|refine zB ?_|refine zX ?_|refine zT ?_|refine zK ?_|refine gq_n ?_|refine gq_r ?_|refine gq_e ?_|refine lq_n ?_|refine lq_r ?_|refine lq_e ?_|refine bq_e (by decide) ?_)|((with_reducible refine zC (b:=?b_) ?hb_ ?_ ?_);case hb_=>rfl)|((conv=>whnf);first|(with_reducible refine hK_ _ _ ?_;try clear hK_ K_)|(with_reducible refine fun (g_:Sl) (o_:Ow)=>?_)|(with_reducible first|exact True.intro|refine And.intro trivial ?_|refine And.intro ?_ ?_)|exact Nat.le_of_ble_eq_true rfl|exact Or.inl rfl|(intro h_;cases h_)|(intro h_;(try simp only [vS1] at h_))|rfl))) <;> (try (conv=>whnf)) <;> (try first|change (_:Int)≤_|change (_:Nat)≤_) <;> (try ((fail_if_success (with_reducible apply Exists.intro));(try dsimp only);(try simp only [vS1]))) <;> (try simp (disch:=omega) only [vS3,Int.add_sub_cancel,tn1,tnp,tnc,vS2] at *)
 all_goals (try (fail_if_success (with_reducible apply Exists.intro));first|with_reducible assumption|omega|exact mdl (by omega)|exact ilo1 (by omega)|exact ilo2 (by omega)|exact ihi1 (by omega) (by omega)|exact ihi2 (by omega) (by omega))
 all_goals first
  | exact plans_no1 ‹i < cuts.length› ‹¬((rI cuts i).length:Int)=2›
  | exact plans_no2 ‹i < cuts.length› ‹gI (rI cuts i) 0 ≥ gI (rI cuts i) 1›
  | exact plans_no3 ‹i < cuts.length› ‹isDiagM xs (gI (rI cuts i) 0) (gI (rI cuts i) 1)=false›
  | exact plans_no3d ‹i < cuts.length› ‹diagM xs (gI (rI cuts i) 0) (gI (rI cuts i) 1)=false›
  | exact (rows_len h3 _)
  | exact rows_len (fun c hc=>h3 c (List.mem_of_mem_take hc)) _
  | omega
  | exact plans_no4T (k:=k) ‹i < cuts.length› (by omega) (by assumption)
  | exact plans_no5T (k:=k) ‹i < cuts.length› (by omega) (by assumption)
  | exact ⟨by omega,rows_len h3 _,rows_len (fun c hc=>h3 c (List.mem_of_mem_take hc)) _⟩
  | exact ⟨rows_len h3 _,rows_len (fun c hc=>h3 c (List.mem_of_mem_take hc)) _⟩
  | exact ⟨k + 1,by omega,⟨by omega,lt_succ_all hin (plans_stepT (by omega) (by assumption) (by assumption))⟩,by (repeat' (first|(with_reducible first|exact True.intro|refine And.intro ?_ ?_|refine Head.mk ?_ ?_ ?_ ?_)|((conv=>lhs;whnf);first|(with_reducible first|rfl|exact vInt_s (by omega))|exact rfl)|((conv=>whnf);first|(with_reducible first|exact True.intro|refine And.intro ?_ ?_)))) <;> (try (conv=>lhs;whnf))⟩
  | exact ⟨i + 1,by omega,⟨by omega,lt_succ_all hall (plansAt_mk (by assumption) (by assumption) (isDiag_mk (by assumption) (by assumption)) fun j hj=>hin j (by omega))⟩,by (repeat' (first|(with_reducible first|exact True.intro|refine And.intro ?_ ?_|refine Head.mk ?_ ?_ ?_ ?_)|((conv=>lhs;whnf);first|(with_reducible first|rfl|exact vInt_s (by omega))|exact rfl)|((conv=>whnf);first|(with_reducible first|exact True.intro|refine And.intro ?_ ?_)))) <;> (try (conv=>lhs;whnf))⟩
  | skip
end Go.Proofs.YtpafacebfogkmaaGreat
namespace Go.Proofs.YtpafacebfogkmaaGreat
open Go.RowKit Go.Proofs.YtpafacebfogkmaaGreat.Nm
set_option maxRecDepth 10000
abbrev Cur:=List Int × Int × Int
def curL (c:Cur):List D:=[.sl none (.b .u8) c.1,.int .i64 c.2.1,.int .i64 c.2.2]
structure curOk (c:Cur):Prop where
 len:c.1.length≤1048576
 lo:0≤c.2.1
 hi:c.2.1≤1048576
def newH (bs:List Int):Nat→Int
 | 0=>W (99143 + (bs.length:Int))
 | i + 1=>bitI .and .i64 (W (W (W (newH bs i * 131) + W (bs.getD i 0)) + 7)) 1073741823
def newC (bs:List Int):Cur:=(bs,0,newH bs (min bs.length 4000))
def byteH (c:Cur):Int:=W (c.2.2 * 6364136223846793005 + 1442695040888963407)
def byte0 (c:Cur):Int:=bitI .and .i64 (bitI .xor .i64 (bitI .shr .i64 (byteH c) 33) (bitI .shr .i64 (byteH c) 45)) 255
def byteX (c:Cur):Int:=if c.2.1 < (c.1.length:Int) then bitI .and .i64 (W (byte0 c + W (c.1.getD c.2.1.toNat 0))) 255 else byte0 c
def byteC (c:Cur):Cur:=(c.1,if c.2.1 < (c.1.length:Int) then c.2.1 + 1 else c.2.1,byteH c)
theorem and255 (x:Int):0≤bitI .and .i64 x 255∧bitI .and .i64 x 255≤255:=by
 have h:(BitVec.ofInt IntKind.i64.bits x &&& BitVec.ofInt IntKind.i64.bits 255).toNat≤255:=by
  rw [BitVec.toNat_and]
  exact Nat.le_trans Nat.and_le_right (by decide)
 have e:bitI .and .i64 x 255=(((BitVec.ofInt IntKind.i64.bits x &&& BitVec.ofInt IntKind.i64.bits 255).toNat:Nat):Int):=W_in (by omega) (by omega)
 rw [e]
 omega
theorem byteX_bd (c:Cur):0≤byteX c∧byteX c≤255:=by
 unfold byteX
 split
 ·exact and255 _
 ·exact and255 _
theorem byteC_ok {c:Cur} (h:curOk c):curOk (byteC c):=by
 obtain ⟨h1,h2,h3⟩:=h
 refine ⟨h1,?_,?_⟩ <;> (unfold byteC;simp only;split <;> omega)
def belowX (c:Cur) (n:Int):Int:=
 if n≤0 then 0 else if n≤256 then (byteX c).tmod n
 else (byteX c * 16777216 + byteX (byteC c) * 65536 + byteX (byteC (byteC c)) * 256 + byteX (byteC (byteC (byteC c)))).tmod n
def belowC (c:Cur) (n:Int):Cur:=if n≤0 then c else if n≤256 then byteC c else byteC (byteC (byteC (byteC c)))
theorem below_bd {c:Cur} {n:Int} (h:0 < n):0≤belowX c n∧belowX c n < n:=by
 unfold belowX
 have h1:=byteX_bd c
 have h2:=byteX_bd (byteC c)
 have h3:=byteX_bd (byteC (byteC c))
 have h4:=byteX_bd (byteC (byteC (byteC c)))
 rw [if_neg (by omega)]
 split
 ·exact ⟨Int.tmod_nonneg _ h1.1,Int.tmod_lt_of_pos _ h⟩
 ·exact ⟨Int.tmod_nonneg _ (by omega),Int.tmod_lt_of_pos _ h⟩
theorem belowC_ok {c:Cur} {n:Int} (h:curOk c):curOk (belowC c n):=by
 unfold belowC
 split
 ·exact h
 ·split
  ·exact byteC_ok h
  ·exact byteC_ok (byteC_ok (byteC_ok (byteC_ok h)))
theorem newC_ok {bs:List Int} (h:bs.length≤1048576):curOk (newC bs):=⟨h,Int.le_refl 0,show (0:Int)≤1048576 by decide⟩
def l01NewC:ConD:=mkConN [.sl (.b .u8)] t_spec_l01Cur (fun x=>x.1.length≤1048576) fun x=>curL (newC x.1)
set_option maxRecDepth 200000 in
theorem l01New_ok:GoodD Tryz.prog n_spec_l01New l01NewC:=by
 refine good_ofN (tys:=tyL) (env:=[]) (envw:=[]) (envd:=[]) [31] [] [] [] [] mixed tys trivial trivial trivial Tryz.func22 rfl (by kernel_rfl) (by decide) (by kernel_rfl) ?_
 have hG_:=kpz [(0,[0]),(1,[0,3]),(2,[0,3,4]),(3,[0,3,4,15]),(4,[0,3,4]),(5,[0,3,4]),(6,[2])] [] [] []
 rintro ⟨(bs:List Int),⟨⟩⟩ (h1:bs.length≤_)
 (repeat' (first|(with_reducible first|exact True.intro|refine zQ ?_|(refine zG hG_ ?_;intro K_ hK_)|(refine zR ?_;intro K_ hK_)|(refine hK_ _ _ ?_;try clear hK_ K_)|refine sq_n ?_|refine sq_r ?_|refine sq_e ?_|refine bq_n ?_|refine bq_r ?_|refine bq_q ?_|refine zB ?_|refine zX ?_|refine zT ?_|refine zK ?_|refine gq_n ?_|refine gq_r ?_|refine gq_e ?_|refine lq_n ?_|refine lq_r ?_|refine lq_e ?_|refine bq_e (by decide) ?_)|((with_reducible refine zC (b:=?b_) ?hb_ ?_ ?_);case hb_=>rfl)|((conv=>whnf);first|(with_reducible refine hK_ _ _ ?_;try clear hK_ K_)|(with_reducible refine fun (g_:Sl) (o_:Ow)=>?_)|(with_reducible first|exact True.intro|refine And.intro trivial ?_|refine And.intro ?_ ?_)|exact Nat.le_of_ble_eq_true rfl|exact Or.inl rfl|(intro h_;cases h_)|(intro h_;(try simp only [vS1] at h_))|rfl))) <;> (try (conv=>whnf)) <;> (try first|change (_:Int)≤_|change (_:Nat)≤_) <;> (try ((fail_if_success (with_reducible apply Exists.intro));(try dsimp only);(try simp only [vS1])))
 refine awp'_loopG (α:=Nat) (fun i ver_=>[(3,vInt (newH bs i)),(4,vInt i)]) (fun i ver_=>[]) (fun i ver_=>[]) (fun i=>i≤bs.length∧i≤4000) (fun i=>bs.length - i) [0] [] (0) ?_
 conv=>whnf
 refine ⟨⟨?inv1_,?vals1_,?own1_,?fix1_⟩,?body1_⟩
 case' vals1_=>(repeat' (first|(with_reducible first|exact True.intro|refine And.intro ?_ ?_|refine Head.mk ?_ ?_ ?_ ?_)|((conv=>lhs;whnf);first|(with_reducible first|rfl|exact vInt_s (by omega))|exact rfl)|((conv=>whnf);first|(with_reducible first|exact True.intro|refine And.intro ?_ ?_)))) <;> (try (conv=>lhs;whnf))
 case' own1_=>(repeat' (first|(with_reducible first|exact True.intro|refine And.intro ?_ ?_|refine Head.mk ?_ ?_ ?_ ?_)|((conv=>lhs;whnf);first|(with_reducible first|rfl|exact vInt_s (by omega))|exact rfl)|((conv=>whnf);first|(with_reducible first|exact True.intro|refine And.intro ?_ ?_)))) <;> (try (conv=>lhs;whnf))
 case' fix1_=>(repeat' (first|(with_reducible first|exact True.intro|refine And.intro ?_ ?_|refine Head.mk ?_ ?_ ?_ ?_)|((conv=>lhs;whnf);first|(with_reducible first|rfl|exact vInt_s (by omega))|exact rfl)|((conv=>whnf);first|(with_reducible first|exact True.intro|refine And.intro ?_ ?_)))) <;> (try (conv=>lhs;whnf))
 ·exact ⟨Nat.zero_le _,Nat.zero_le _⟩
 rintro i g_ o_ v_ ⟨hi,hi2⟩
 have hG_:=kpz [(0,[0]),(1,[0,3]),(2,[0,3,4]),(3,[0,3,4,15]),(4,[0,3,4]),(5,[0,3,4]),(6,[2])] [(6,[31])] [] []
 (repeat' (first|(with_reducible first|exact True.intro|refine zQ ?_|(refine zG hG_ ?_;intro K_ hK_)|(refine zR ?_;intro K_ hK_)|(refine hK_ _ _ ?_;try clear hK_ K_)|refine sq_n ?_|refine sq_r ?_|refine sq_e ?_|refine bq_n ?_|refine bq_r ?_|refine bq_q ?_|refine zB ?_|refine zX ?_|refine zT ?_|refine zK ?_|refine gq_n ?_|refine gq_r ?_|refine gq_e ?_|refine lq_n ?_|refine lq_r ?_|refine lq_e ?_|refine bq_e (by decide) ?_)|((with_reducible refine zC (b:=?b_) ?hb_ ?_ ?_);case hb_=>rfl)|((conv=>whnf);first|(with_reducible refine hK_ _ _ ?_;try clear hK_ K_)|(with_reducible refine fun (g_:Sl) (o_:Ow)=>?_)|(with_reducible first|exact True.intro|refine And.intro trivial ?_|refine And.intro ?_ ?_)|exact Nat.le_of_ble_eq_true rfl|exact Or.inl rfl|(intro h_;cases h_)|(intro h_;(try simp only [vS1] at h_))|rfl))) <;> (try (conv=>whnf)) <;> (try first|change (_:Int)≤_|change (_:Nat)≤_) <;> (try ((fail_if_success (with_reducible apply Exists.intro));(try dsimp only);(try simp only [vS1])))
 all_goals (try (fail_if_success (with_reducible apply Exists.intro));first|with_reducible assumption|omega|exact mdl (by omega)|exact ilo1 (by omega)|exact ilo2 (by omega)|exact ihi1 (by omega) (by omega)|exact ihi2 (by omega) (by omega))
 ·refine ⟨i + 1,by omega,by omega,?_⟩
  (repeat' (first|(with_reducible first|exact True.intro|refine And.intro ?_ ?_|refine Head.mk ?_ ?_ ?_ ?_)|((conv=>lhs;whnf);first|(with_reducible first|rfl|exact vInt_s (by omega))|exact rfl)|((conv=>whnf);first|(with_reducible first|exact True.intro|refine And.intro ?_ ?_)))) <;> (try (conv=>lhs;whnf))
 ·show dOf _=some _
  unfold curL newC
  rw [show min bs.length 4000=i by omega];rfl
 ·show dOf _=some _
  unfold curL newC
  rw [show min bs.length 4000=i by omega];rfl
def l01ByteC:ConD:=mkConB [.cur] 0 t_spec_l01Cur (fun x=>curOk x.1) (fun x=>vInt (byteX x.1)) fun x=>curL (byteC x.1)
theorem l01Byte_ok:GoodD Tryz.prog n_spec_l01Byte l01ByteC:=by
 refine good_ofB (tys:=tyL) (env:=[]) (envw:=[]) (envd:=[]) [1000] [] [] [] [] mixed tys trivial trivial trivial Tryz.func77 rfl (by kernel_rfl) ⟨by decide,rfl⟩ (by kernel_rfl) ?_
 have hG_:=kpz [(0,[0]),(1,[0]),(2,[0,3]),(3,[0,3,34]),(4,[0,3]),(5,[3]),(6,[2])] [(0,[1000]),(1,[1000]),(2,[1000]),(3,[1000]),(4,[1000]),(5,[1000]),(6,[1000])] [] []
 rintro ⟨⟨(bs:List Int),(i:Int),(h:Int)⟩,⟨⟩⟩ ⟨(h1:bs.length≤_),(h2:0≤i),(h3:i≤_)⟩
 (repeat' (first|(with_reducible first|exact True.intro|refine zQ ?_|(refine zG hG_ ?_;intro K_ hK_)|(refine zR ?_;intro K_ hK_)|(refine hK_ _ _ ?_;try clear hK_ K_)|refine sq_n ?_|refine sq_r ?_|refine sq_e ?_|refine bq_n ?_|refine bq_r ?_|refine bq_q ?_|refine zB ?_|refine zX ?_|refine zT ?_|refine zK ?_|refine gq_n ?_|refine gq_r ?_|refine gq_e ?_|refine lq_n ?_|refine lq_r ?_|refine lq_e ?_|refine bq_e (by decide) ?_)|((with_reducible refine zC (b:=?b_) ?hb_ ?_ ?_);case hb_=>rfl)|((conv=>whnf);first|(with_reducible refine hK_ _ _ ?_;try clear hK_ K_)|(with_reducible refine fun (g_:Sl) (o_:Ow)=>?_)|(with_reducible first|exact True.intro|refine And.intro trivial ?_|refine And.intro ?_ ?_)|exact Nat.le_of_ble_eq_true rfl|exact Or.inl rfl|(intro h_;cases h_)|(intro h_;(try simp only [vS1] at h_))|rfl))) <;> (try (conv=>whnf)) <;> (try first|change (_:Int)≤_|change (_:Nat)≤_) <;> (try ((fail_if_success (with_reducible apply Exists.intro));(try dsimp only);(try simp only [vS1])))
 all_goals (try (fail_if_success (with_reducible apply Exists.intro));first|with_reducible assumption|omega|exact mdl (by omega)|exact ilo1 (by omega)|exact ilo2 (by omega)|exact ihi1 (by omega) (by omega)|exact ihi2 (by omega) (by omega))
 ·show dOf _=some _
  unfold curL byteC byteH
  simp only [W_l1,if_pos h_,W_in (show -9223372036854775808≤i + 1 by omega) (show i + 1≤9223372036854775807 by omega)];rfl
 ·unfold byteX byte0 byteH
  simp only [W_l1,if_pos h_]
 ·show dOf _=some _
  unfold curL byteC byteH
  simp only [W_l1,if_neg h_];rfl
 ·unfold byteX byte0 byteH
  simp only [W_l1,if_neg h_]
def l01BelowC:ConD:=mkConB [.cur,.int] 0 t_spec_l01Cur (fun x=>curOk x.1) (fun x=>vInt (belowX x.1 x.2.1)) fun x=>curL (belowC x.1 x.2.1)
theorem l01Below_ok:GoodD Tryz.prog n_spec_l01Below l01BelowC:=by
 refine good_ofB (tys:=tyL) (env:=[]) (envw:=[]) (envd:=[(n_spec_l01Byte,l01ByteC)]) [14,18,20,22,24,1000] [14,18,20,22,24,1000] [] [] [14,18,20,22,24] mixed tys trivial trivial ⟨l01Byte_ok,trivial⟩ Tryz.func54 rfl (by kernel_rfl) ⟨by decide,rfl⟩ (by kernel_rfl) ?_
 have hG_:=kpz [(0,[0,1]),(1,[0,1,10]),(2,[4]),(3,[0,1,12]),(4,[4]),(5,[0,1,5]),(6,[0,1,5,6]),(7,[0,1,5,6,7]),(8,[1,5,6,7,8]),(9,[4])] [(0,[1000]),(1,[1000]),(2,[1000]),(3,[1000]),(4,[1000]),(5,[1000]),(6,[1000]),(7,[1000]),(8,[1000]),(9,[1000])] [] []
 rintro ⟨⟨(bs:List Int),(i:Int),(h:Int)⟩,(n:Int),⟨⟩⟩ (hc:curOk (bs,i,h))
 have h1:=byteC_ok hc
 have h2:=byteC_ok h1
 have h3:=byteC_ok h2
 have b0:=byteX_bd (bs,i,h)
 have b1:=byteX_bd (byteC (bs,i,h))
 have b2:=byteX_bd (byteC (byteC (bs,i,h)))
 have b3:=byteX_bd (byteC (byteC (byteC (bs,i,h))))
 (repeat' (first|(with_reducible first|exact True.intro|refine zQ ?_|(refine zG hG_ ?_;intro K_ hK_)|(refine zR ?_;intro K_ hK_)|(refine hK_ _ _ ?_;try clear hK_ K_)|refine sq_n ?_|refine sq_r ?_|refine sq_e ?_|refine bq_n ?_|refine bq_r ?_|refine bq_q ?_|refine zB ?_|refine zX ?_|refine zT ?_|refine zK ?_|refine gq_n ?_|refine gq_r ?_|refine gq_e ?_|refine lq_n ?_|refine lq_r ?_|refine lq_e ?_|refine bq_e (by decide) ?_)|((with_reducible refine zC (b:=?b_) ?hb_ ?_ ?_);case hb_=>rfl)|((conv=>whnf);first|(with_reducible refine hK_ _ _ ?_;try clear hK_ K_)|(with_reducible refine fun (g_:Sl) (o_:Ow)=>?_)|(with_reducible first|exact True.intro|refine And.intro trivial ?_|refine And.intro ?_ ?_)|exact Nat.le_of_ble_eq_true rfl|exact Or.inl rfl|(intro h_;cases h_)|(intro h_;(try simp only [vS1] at h_))|rfl))) <;> (try (conv=>whnf)) <;> (try first|change (_:Int)≤_|change (_:Nat)≤_) <;> (try ((fail_if_success (with_reducible apply Exists.intro));(try dsimp only);(try simp only [vS1])))
 all_goals (try (fail_if_success (with_reducible apply Exists.intro));first|with_reducible assumption|omega|exact mdl (by omega)|exact ilo1 (by omega)|exact ilo2 (by omega)|exact ihi1 (by omega) (by omega)|exact ihi2 (by omega) (by omega))
 ·show dOf _=some _
  unfold curL belowC
  simp only [if_pos h_];rfl
 ·unfold belowX
  simp only [if_pos h_]
 ·exact ‹¬ Int.ofNat 0≤0› (by decide)
 ·show dOf _=some _
  unfold curL belowC
  simp only [if_neg ‹¬ n≤0›,if_pos h_];rfl
 ·unfold belowX
  simp only [if_neg ‹¬ n≤0›,if_pos h_]
 ·exact ‹¬ Int.ofNat 0≤0› (by decide)
 ·show dOf _=some _
  unfold curL belowC
  simp only [if_neg ‹¬ n≤0›,if_neg h_];rfl
 ·unfold belowX
  simp only [if_neg ‹¬ n≤0›,if_neg h_,W_l1,W_l2]
  rw [W_in (by omega) (by omega)]
end Go.Proofs.YtpafacebfogkmaaGreat
namespace Go.Proofs.YtpafacebfogkmaaGreat
open Go.RowKit Go.Proofs.YtpafacebfogkmaaGreat.Nm
set_option maxRecDepth 10000
set_option maxHeartbeats 2000000
def bigC:Con:=mkCon [.sl (.b .u8)] (fun _=>True) fun x=>vB (decide ((x.1.length:Int) > 1048576))
theorem big_ok:Good1 Tryz.prog n_laws_big bigC:=by
 refine good_ofG (tys:=tyL) (env:=[]) (envw:=[]) (envd:=[]) [] [] [] [] [] mixed tys trivial trivial trivial Tryz.func5 rfl (by kernel_rfl) (by decide) (by kernel_rfl) ?_
 have hG_:=kpz [(0,[0]),(1,[2])] [] [] []
 rintro ⟨(bs:List Int),⟨⟩⟩ -
 (repeat' (first|(with_reducible first|exact True.intro|refine zQ ?_|(refine zG hG_ ?_;intro K_ hK_)|(refine zR ?_;intro K_ hK_)|(refine hK_ _ _ ?_;try clear hK_ K_)|refine sq_n ?_|refine sq_r ?_|refine sq_e ?_|refine bq_n ?_|refine bq_r ?_|refine bq_q ?_|refine zB ?_|refine zX ?_|refine zT ?_|refine zK ?_|refine gq_n ?_|refine gq_r ?_|refine gq_e ?_|refine lq_n ?_|refine lq_r ?_|refine lq_e ?_|refine bq_e (by decide) ?_)|((with_reducible refine zC (b:=?b_) ?hb_ ?_ ?_);case hb_=>rfl)|((conv=>whnf);first|(with_reducible refine hK_ _ _ ?_;try clear hK_ K_)|(with_reducible refine fun (g_:Sl) (o_:Ow)=>?_)|(with_reducible first|exact True.intro|refine And.intro trivial ?_|refine And.intro ?_ ?_)|exact Nat.le_of_ble_eq_true rfl|exact Or.inl rfl|(intro h_;cases h_)|(intro h_;(try simp only [vS1] at h_))|rfl))) <;> (try (conv=>whnf)) <;> (try first|change (_:Int)≤_|change (_:Nat)≤_) <;> (try ((fail_if_success (with_reducible apply Exists.intro));(try dsimp only);(try simp only [vS1])))
 all_goals (try ((fail_if_success (with_reducible apply Exists.intro));first|with_reducible assumption|omega))
def hasM (l:List Int) (k:Int):Bool:=l.any fun x=>x == k
end Go.Proofs.YtpafacebfogkmaaGreat
namespace Go.Proofs.YtpafacebfogkmaaGreat.Geo
open Go.RowKit
def ChV (Q:Poly) (u w:Pt):Prop:=∃ i m,Q.v i=u∧Q.v (i + m)=w∧Cut (Q.rot i) m
theorem rot_mul (Q:Poly) (i s:Nat):Q.rot (i + Q.n * s)=Q.rot i:=Poly.ext' rfl fun j=>by
 show Q.v (i + Q.n * s + j)=Q.v (i + j)
 rw [show i + Q.n * s + j=i + j + Q.n * s by omega,Q.per_mul]
theorem rot_n (Q:Poly) (i:Nat):Q.rot (i + Q.n)=Q.rot i:=by have:=rot_mul Q i 1;rwa [Nat.mul_one] at this
theorem rot_mod (Q:Poly) (i:Nat):Q.rot (i % Q.n)=Q.rot i:=Poly.ext' rfl fun j=>Q.per_add i j
theorem ChV.symm {Q:Poly} {u w:Pt} (h:ChV Q u w):ChV Q w u:=by
 obtain ⟨i,m,h1,h2,c⟩:=h
 have hmn:m + 2≤Q.n:=c.c.mn
 have c':=c.rot.1
 rw [rot_rot] at c'
 exact ⟨i + m,Q.n - m,h2,by rw [show i + m + (Q.n - m)=i + Q.n by omega,Q.per];exact h1,c'⟩
theorem ChV.of_rot {Q:Poly} {u w:Pt} {s:Nat} (h:ChV (Q.rot s) u w):ChV Q u w:=by
 obtain ⟨i,m,h1,h2,c⟩:=h
 rw [rot_rot] at c
 exact ⟨s + i,m,h1,by rw [Nat.add_assoc];exact h2,c⟩
theorem ChV.rot {Q:Poly} {u w:Pt} (h:ChV Q u w) (s:Nat):ChV (Q.rot s) u w:=by
 obtain ⟨i,m,h1,h2,c⟩:=h
 have hmn:m + 2≤Q.n:=c.c.mn
 have hle:s≤Q.n * s:=Nat.le_mul_of_pos_left _ (by omega)
 refine ⟨i + Q.n * s - s,m,?_,?_,?_⟩
 ·show Q.v (s + (i + Q.n * s - s))=u
  rw [show s + (i + Q.n * s - s)=i + Q.n * s by omega,Q.per_mul];exact h1
 ·show Q.v (s + (i + Q.n * s - s + m))=w
  rw [show s + (i + Q.n * s - s + m)=i + m + Q.n * s by omega,Q.per_mul];exact h2
 ·rw [rot_rot,show s + (i + Q.n * s - s)=i + Q.n * s by omega,rot_mul];exact c
theorem ChV.norm {Q:Poly} {u w:Pt} (h:ChV Q u w):∃ i k,i < k∧k < Q.n∧((Q.v i=u∧Q.v k=w)∨(Q.v i=w∧Q.v k=u))∧Cut (Q.rot i) (k - i):=by
 obtain ⟨i,m,h1,h2,c⟩:=h
 have hm2:=c.c.m2
 have hmn:m + 2≤Q.n:=c.c.mn
 have hi:=Nat.mod_lt i (show 0 < Q.n by omega)
 rw [← rot_mod] at c
 rw [← Q.per_mod i] at h1
 rw [← Q.per_add i m] at h2
 generalize i % Q.n=r at *
 rcases Nat.lt_or_ge (r + m) Q.n with g|g
 ·exact ⟨r,r + m,by omega,g,.inl ⟨h1,h2⟩,by rw [show r + m - r=m by omega];exact c⟩
 ·have c':=c.rot.1
  rw [rot_rot,show (Q.rot r).n=Q.n from rfl] at c'
  refine ⟨r + m - Q.n,r,by omega,hi,.inr ⟨?_,h1⟩,?_⟩
  ·rw [← h2,← Q.per (r + m - Q.n),show r + m - Q.n + Q.n=r + m by omega]
  ·rw [← rot_n,show r + m - Q.n + Q.n=r + m by omega,show r - (r + m - Q.n)=Q.n - m by omega];exact c'
theorem ChV.split {Q:Poly} (hQ:SimpleP Q) {m:Nat} (c:Cut Q m) {u w:Pt} (h:ChV Q u w) (hne:¬ ((u=Q.v 0∧w=Q.v m)∨(u=Q.v m∧w=Q.v 0)))
  (hsep:u≠Q.v 0→u≠Q.v m→w≠Q.v 0→w≠Q.v m→Part u w (Q.v m) (Q.v 0)):ChV (Q.arc m) u w∨ChV (partB Q m) u w:=by
 have hm2:=c.c.m2
 have hmn:=c.c.mn
 have key:∀ i k,i < k→k < Q.n→Cut (Q.rot i) (k - i)→¬ (i=0∧k=m)→(i≠0→i≠m→k≠m→Part (Q.v i) (Q.v k) (Q.v m) (Q.v 0))→ChV (Q.arc m) (Q.v i) (Q.v k)∨ChV (partB Q m) (Q.v i) (Q.v k):=fun i k hik hk d hne hs=>by
  have hd2:=d.c.m2
  have c':=c.rot.1
  have hQm:=hQ.rot m
  rcases (show k≤m∨m≤i∨(i=0∧m < k)∨(0 < i∧i < m∧m < k) by omega) with g|g|⟨g1,g2⟩|⟨g1,g2,g3⟩
  ·left
   exact ⟨i,k - i,arc_v _ (by omega),(congrArg _ (show i + (k - i)=k by omega)).trans (arc_v _ g),c.sub_chord hQ (by omega) g hne d fun a b=>hs a (by omega) b⟩
  ·right
   have e1:(Q.rot m).v (i - m)=Q.v i:=by show Q.v (m + (i - m))=_;rw [show m + (i - m)=i by omega]
   have e2:(Q.rot m).v (k - m)=Q.v k:=by show Q.v (m + (k - m))=_;rw [show m + (k - m)=k by omega]
   have e3:(Q.rot m).v (Q.n - m)=Q.v 0:=by show Q.v (m + (Q.n - m))=_;rw [show m + (Q.n - m)=0 + Q.n by omega,Q.per]
   have e4:(Q.rot m).v 0=Q.v m:=rfl
   have:=c'.sub_chord hQm (i:=i - m) (k:=k - m) (by omega) (by omega) (by omega) (by rw [rot_rot,show m + (i - m)=i by omega,show k - m - (i - m)=k - i by omega];exact d) (fun a b=>by
    rw [e1,e2,e3,e4]
    exact (hs (by omega) (by omega) (by omega)).comm2)
   refine ⟨i - m,k - m - (i - m),?_,?_,this⟩
   ·rw [B_v (by omega) (by omega),show m + (i - m)=i by omega]
   ·rw [B_v (by omega) (by omega),show m + (i - m + (k - m - (i - m)))=k by omega]
  ·right
   subst g1
   have d':=d.rot.1
   rw [rot_rot,show (Q.rot 0).n=Q.n from rfl,Nat.zero_add,Nat.sub_zero] at d'
   have:=c'.sub_chord hQm (i:=k - m) (k:=Q.n - m) (by have:=d'.c.m2;omega) (by omega) (by omega) (by rw [rot_rot,show m + (k - m)=k by omega,show Q.n - m - (k - m)=Q.n - k by omega];exact d') (fun a b=>absurd rfl b)
   refine ChV.symm ⟨k - m,Q.n - m - (k - m),?_,?_,this⟩
   ·rw [B_v (by omega) (by omega),show m + (k - m)=k by omega]
   ·rw [B_v (by omega) (by omega),show m + (k - m + (Q.n - m - (k - m)))=0 + Q.n by omega,Q.per]
  ·exact (c.no_lace hQ g1 g2 g3 hk d (hs (by omega) (by omega) (by omega))).elim
 obtain ⟨i,k,hik,hk,ho,d⟩:=h.norm
 have inj:∀ {a b},a < Q.n→b < Q.n→Q.v a=Q.v b→a=b:=fun {a b} ha hb e=>by
  by_cases q:a=b
  ·exact q
  ·exact absurd e (hQ.inj ha hb q)
 rcases ho with ⟨rfl,rfl⟩|⟨rfl,rfl⟩
 ·exact key i k hik hk d (fun ⟨a,b⟩=>hne (.inl ⟨by rw [a],by rw [b]⟩)) fun a b c=>hsep (fun e=>a (inj (by omega) (by omega) e)) (fun e=>b (inj (by omega) (by omega) e)) (fun e=>by have:=inj (by omega) (by omega) e;omega) fun e=>c (inj (by omega) (by omega) e)
 ·have:=key i k hik hk d (fun ⟨a,b⟩=>hne (.inr ⟨by rw [b],by rw [a]⟩)) fun a b c=>(hsep (fun e=>by have:=inj (by omega) (by omega) e;omega) (fun e=>c (inj (by omega) (by omega) e)) (fun e=>a (inj (by omega) (by omega) e)) fun e=>b (inj (by omega) (by omega) e)).swap1
  exact this.imp ChV.symm ChV.symm
structure Prt (xs:List Pt) (l:List Int):Prop where
 sorted:l.Pairwise (· < ·)
 bd:∀ x∈l,0≤x∧x < xs.length
 sim:SimpleP (subP xs l)
 area:0 < (subP xs l).area
 inn:∀ {K x},0 < K→Inn (subP xs l) K x→Inn (roomP xs) K x
theorem Prt.len {xs:List Pt} {l:List Int} (h:Prt xs l):3≤l.length:=h.sim.n3
theorem sorted_lt {l:List Int} (h:l.Pairwise (· < ·)) {i j:Nat} (hij:i < j) (hj:j < l.length):gI l i < gI l j:=by
 have:=List.pairwise_iff_getElem.1 h i j (by omega) hj hij
 rwa [← getD_lt 0 (show i < l.length by omega),← getD_lt 0 hj] at this
theorem filt_mid {l:List Int} {f:Int→Bool} {p q:Nat} (hpq:p≤q) (hq:q < l.length) (hf:∀ t,t < l.length→(f (gI l t)=true↔p≤t∧t≤q)):l.filter f=(l.drop p).take (q + 1 - p):=by
 have e:l=l.take p ++ ((l.drop p).take (q + 1 - p) ++ l.drop (q + 1)):=by
  have e2:(l.drop p).drop (q + 1 - p)=l.drop (q + 1):=by rw [List.drop_drop];congr 1;omega
  rw [← e2,List.take_append_drop,List.take_append_drop]
 have at_:∀ {t} (h:t < l.length),l[t]=gI l t:=fun h=>(getD_lt 0 h).symm
 have f1:(l.take p).filter f=[]:=by
  rw [List.filter_eq_nil_iff]
  intro x hx
  obtain ⟨t,ht,rfl⟩:=List.getElem_of_mem hx
  rw [List.length_take] at ht
  rw [List.getElem_take,at_ (by omega)]
  intro g
  have:=(hf t (by omega)).1 g
  omega
 have f3:(l.drop (q + 1)).filter f=[]:=by
  rw [List.filter_eq_nil_iff]
  intro x hx
  obtain ⟨t,ht,rfl⟩:=List.getElem_of_mem hx
  rw [List.length_drop] at ht
  rw [List.getElem_drop,at_ (by omega)]
  intro g
  have:=(hf (q + 1 + t) (by omega)).1 g
  omega
 have f2:((l.drop p).take (q + 1 - p)).filter f=(l.drop p).take (q + 1 - p):=by
  rw [List.filter_eq_self]
  intro x hx
  obtain ⟨t,ht,rfl⟩:=List.getElem_of_mem hx
  rw [List.length_take,List.length_drop] at ht
  rw [List.getElem_take,List.getElem_drop,at_ (by omega)]
  exact (hf (p + t) (by omega)).2 (by omega)
 conv=>lhs;rw [e]
 rw [List.filter_append,List.filter_append,f1,f2,f3,List.nil_append,List.append_nil]
theorem filt_out {l:List Int} {f:Int→Bool} {p q:Nat} (hpq:p < q) (hq:q < l.length) (hf:∀ t,t < l.length→(f (gI l t)=true↔t≤p∨q≤t)):l.filter f=l.take (p + 1) ++ l.drop q:=by
 have e:l=l.take (p + 1) ++ ((l.drop (p + 1)).take (q - (p + 1)) ++ l.drop q):=by
  have e2:(l.drop (p + 1)).drop (q - (p + 1))=l.drop q:=by rw [List.drop_drop];congr 1;omega
  rw [← e2,List.take_append_drop,List.take_append_drop]
 have at_:∀ {t} (h:t < l.length),l[t]=gI l t:=fun h=>(getD_lt 0 h).symm
 have f1:(l.take (p + 1)).filter f=l.take (p + 1):=by
  rw [List.filter_eq_self]
  intro x hx
  obtain ⟨t,ht,rfl⟩:=List.getElem_of_mem hx
  rw [List.length_take] at ht
  rw [List.getElem_take,at_ (by omega)]
  exact (hf t (by omega)).2 (by omega)
 have f3:(l.drop q).filter f=l.drop q:=by
  rw [List.filter_eq_self]
  intro x hx
  obtain ⟨t,ht,rfl⟩:=List.getElem_of_mem hx
  rw [List.length_drop] at ht
  rw [List.getElem_drop,at_ (by omega)]
  exact (hf (q + t) (by omega)).2 (by omega)
 have f2:((l.drop (p + 1)).take (q - (p + 1))).filter f=[]:=by
  rw [List.filter_eq_nil_iff]
  intro x hx
  obtain ⟨t,ht,rfl⟩:=List.getElem_of_mem hx
  rw [List.length_take,List.length_drop] at ht
  rw [List.getElem_take,List.getElem_drop,at_ (by omega)]
  intro g
  have:=(hf (p + 1 + t) (by omega)).1 g
  omega
 conv=>lhs;rw [e]
 rw [List.filter_append,List.filter_append,f1,f2,f3,List.nil_append]
theorem gI_mid {l:List Int} {p q r:Nat} (hq:q < l.length) (hr:p + r≤q):gI ((l.drop p).take (q + 1 - p)) r=gI l (p + r):=by
 show List.getD _ r 0=List.getD l (p + r) 0
 rw [getD_lt _ (by rw [List.length_take,List.length_drop];omega),getD_lt _ (by omega),List.getElem_take,List.getElem_drop]
theorem sub_mid (xs:List Pt) {l:List Int} {p q:Nat} (hpq:p < q) (hq:q < l.length):subP xs ((l.drop p).take (q + 1 - p))=((subP xs l).rot p).arc (q - p):=by
 have hl:((l.drop p).take (q + 1 - p)).length=q - p + 1:=by rw [List.length_take,List.length_drop];omega
 refine Poly.ext' hl fun j=>?_
 show (roomP xs).v (gI _ (j % _)).toNat=(roomP xs).v (gI l ((p + j % (q - p + 1)) % l.length)).toNat
 rw [hl]
 have hr:j % (q - p + 1) < q - p + 1:=Nat.mod_lt _ (by omega)
 rw [gI_mid hq (by omega),Nat.mod_eq_of_lt (show p + j % (q - p + 1) < l.length by omega)]
theorem sub_out (xs:List Pt) {l:List Int} {p q:Nat} (hpq:p < q) (hq:q < l.length):(subP xs (l.take (p + 1) ++ l.drop q)).rot (p + 1)=partB ((subP xs l).rot p) (q - p):=by
 have hl:(l.take (p + 1) ++ l.drop q).length=p + 1 + (l.length - q):=by rw [List.length_append,List.length_take,List.length_drop];omega
 have hn:(subP xs l).n - (q - p) + 1=p + 1 + (l.length - q):=by show l.length - (q - p) + 1=_;omega
 refine Poly.ext' (by show (l.take (p + 1) ++ l.drop q).length=(subP xs l).n - (q - p) + 1;rw [hl,hn]) fun j=>?_
 show (roomP xs).v (gI _ ((p + 1 + j) % (l.take (p + 1) ++ l.drop q).length)).toNat=(roomP xs).v (gI l ((p + (q - p + j % ((subP xs l).n - (q - p) + 1))) % l.length)).toNat
 rw [hl,hn,← Nat.add_mod_mod]
 have hr:j % (p + 1 + (l.length - q)) < p + 1 + (l.length - q):=Nat.mod_lt _ (by omega)
 generalize j % (p + 1 + (l.length - q))=r at *
 congr 2
 rcases Nat.lt_or_ge r (l.length - q) with g|g
 ·rw [Nat.mod_eq_of_lt (show p + 1 + r < p + 1 + (l.length - q) by omega),Nat.mod_eq_of_lt (show p + (q - p + r) < l.length by omega)]
  show List.getD _ (p + 1 + r) 0=List.getD l (p + (q - p + r)) 0
  rw [List.getD_eq_getElem?_getD,List.getElem?_append_right (by rw [List.length_take];omega),List.length_take,List.getElem?_drop,List.getD_eq_getElem?_getD]
  congr 2;omega
 ·rw [Nat.mod_eq_sub_mod (show p + 1 + (l.length - q)≤p + 1 + r by omega),Nat.mod_eq_of_lt (show p + 1 + r - (p + 1 + (l.length - q)) < p + 1 + (l.length - q) by omega),Nat.mod_eq_sub_mod (show l.length≤p + (q - p + r) by omega),Nat.mod_eq_of_lt (show p + (q - p + r) - l.length < l.length by omega)]
  show List.getD _ (p + 1 + r - (p + 1 + (l.length - q))) 0=List.getD l (p + (q - p + r) - l.length) 0
  rw [List.getD_eq_getElem?_getD,List.getElem?_append_left (by rw [List.length_take];omega),List.getElem?_take_of_lt (by omega),List.getD_eq_getElem?_getD]
  congr 2;omega
theorem tv_inj {xs:List Pt} (hr:roomOk xs=true) {a b:Int} (ha:0≤a∧a < xs.length) (hb:0≤b∧b < xs.length) (e:tv xs a=tv xs b):a=b:=by
 by_cases q:a.toNat=b.toNat
 ·omega
 ·exact absurd e ((room_simple hr).inj (show a.toNat < xs.length by omega) (show b.toNat < xs.length by omega) q)
def inA (c0 c1 k:Int):Bool:=btw k c0 c1
def inO (c0 c1 k:Int):Bool:=decide (k≤c0) || decide (k ≥ c1)
theorem inA_iff {c0 c1 k:Int}:inA c0 c1 k=true↔c0≤k∧k≤c1:=btw_iff
theorem inO_iff {c0 c1 k:Int}:inO c0 c1 k=true↔k≤c0∨c1≤k:=by
 unfold inO
 rw [Bool.or_eq_true,decide_eq_true_eq,decide_eq_true_eq]
structure Halves (xs:List Pt) (l A B:List Int) (c0 c1:Int):Prop where
 a:Prt xs A
 b:Prt xs B
 area:(subP xs l).area=(subP xs A).area + (subP xs B).area
 len:A.length + B.length=l.length + 2
 chord:∀ u w,ChV (subP xs l) u w→¬ ((u=tv xs c0∧w=tv xs c1)∨(u=tv xs c1∧w=tv xs c0))→(u≠tv xs c0→u≠tv xs c1→w≠tv xs c0→w≠tv xs c1→Part u w (tv xs c1) (tv xs c0))→ChV (subP xs A) u w∨ChV (subP xs B) u w
 innA:∀ {K x},0 < K→Inn (subP xs A) K x→Inn (subP xs l) K x
 innB:∀ {K x},0 < K→Inn (subP xs B) K x→Inn (subP xs l) K x
 dis:∀ {K x},0 < K→Inn (subP xs A) K x→Inn (subP xs B) K x→False
 offA:∀ {s t K:Int},0 < s→0 < t→s + t=K→¬ Inn (subP xs A) K (padd (smul s (tv xs c0)) (smul t (tv xs c1)))
 offB:∀ {s t K:Int},0 < s→0 < t→s + t=K→¬ Inn (subP xs B) K (padd (smul s (tv xs c0)) (smul t (tv xs c1)))
theorem halves {xs:List Pt} {l:List Int} (h:Prt xs l) {c0 c1:Int} (m0:c0∈l) (m1:c1∈l) (h01:c0 < c1) (hc:ChV (subP xs l) (tv xs c0) (tv xs c1)):Halves xs l (l.filter (inA c0 c1)) (l.filter (inO c0 c1)) c0 c1:=by
 have hQ:=h.sim
 have h3:=h.len
 obtain ⟨p,hp,ep⟩:=mem_gI.1 m0
 obtain ⟨q,hq,eq⟩:=mem_gI.1 m1
 have hpq:p < q:=by
  rcases Nat.lt_trichotomy p q with g|g|g
  ·exact g
  ·subst g;omega
  ·have:=sorted_lt h.sorted g hp;omega
 have mono:∀ {i j},i < l.length→j < l.length→(gI l i≤gI l j↔i≤j):=fun {i j} hi hj=>by
  rcases Nat.lt_trichotomy i j with g|g|g
  ·have:=sorted_lt h.sorted g hj;omega
  ·subst g;omega
  ·have:=sorted_lt h.sorted g hi;omega
 have fA:=filt_mid (f:=inA c0 c1) (l:=l) (Nat.le_of_lt hpq) hq fun t ht=>by
  rw [inA_iff,← ep,← eq,mono hp ht,mono ht hq]
 have fB:=filt_out (f:=inO c0 c1) (l:=l) hpq hq fun t ht=>by
  rw [inO_iff,← ep,← eq,mono ht hp,mono hq ht]
 have vp:(subP xs l).v p=tv xs c0:=by rw [sub_v xs hp,ep]
 have vq:(subP xs l).v q=tv xs c1:=by rw [sub_v xs hq,eq]
 have hn:(subP xs l).n=l.length:=rfl
 have c:Cut ((subP xs l).rot p) (q - p):=by
  obtain ⟨i,m,h1,h2,c⟩:=hc
  have hm2:=c.c.m2
  have hmn:m + 2≤l.length:=c.c.mn
  have hi:=Nat.mod_lt i (show 0 < l.length by omega)
  have e1:i % l.length=p:=by
   by_cases g:i % l.length=p
   ·exact g
   ·exact absurd (((subP xs l).per_mod i).trans (h1.trans vp.symm)) (hQ.inj hi hp g)
  have e2:(p + m) % l.length=q:=by
   by_cases g:(p + m) % l.length=q
   ·exact g
   ·refine absurd ?_ (hQ.inj (Nat.mod_lt (p + m) (show 0 < (subP xs l).n by omega)) hq g)
    rw [(subP xs l).per_mod,vq,← h2,← (subP xs l).per_add i m]
    rw [hn,e1]
  have em:m=q - p:=by
   rcases Nat.lt_or_ge (p + m) l.length with g|g
   ·rw [Nat.mod_eq_of_lt g] at e2;omega
   ·rw [Nat.mod_eq_sub_mod g,Nat.mod_eq_of_lt (by omega)] at e2;omega
  rw [← rot_mod,hn,e1,em] at c
  exact c
 have eA:=sub_mid xs hpq hq
 have eB:=sub_out xs hpq hq
 rw [← fA] at eA
 rw [← fB] at eB
 have lA:(l.filter (inA c0 c1)).length=q - p + 1:=by rw [fA,List.length_take,List.length_drop];omega
 have lB:(l.filter (inO c0 c1)).length=p + 1 + (l.length - q):=by rw [fB,List.length_append,List.length_take,List.length_drop];omega
 have sA:(l.filter (inA c0 c1)).Sublist l:=List.filter_sublist
 have sB:(l.filter (inO c0 c1)).Sublist l:=List.filter_sublist
 generalize l.filter (inA c0 c1)=A at *
 generalize l.filter (inO c0 c1)=B at *
 have nB:1≤(subP xs B).n:=by show 1≤B.length;omega
 have nQ:1≤(subP xs l).n:=by omega
 have bB:subP xs B=(partB ((subP xs l).rot p) (q - p)).rot ((p + 1) * ((subP xs B).n - 1)):=by rw [← eB,rot_back _ _ nB]
 have hR:=hQ.rot p
 have aB:(subP xs B).area=(partB ((subP xs l).rot p) (q - p)).area:=by rw [← eB,area_rot]
 have iA:∀ {K x},0 < K→Inn (subP xs A) K x→Inn (subP xs l) K x:=fun {K x} hK o=>by
  rw [eA] at o
  exact (Inn.rot_iff nQ p).1 (c.inn_of hR hK o)
 have toB:∀ {K x},Inn (subP xs B) K x→Inn (partB ((subP xs l).rot p) (q - p)) K x:=fun {K x} o=>by
  rw [← eB];exact o.rot (p + 1)
 have iB:∀ {K x},0 < K→Inn (subP xs B) K x→Inn (subP xs l) K x:=fun {K x} hK o=>by
  have:=c.rot.1.inn_of (hR.rot (q - p)) hK (toB o)
  rw [Inn.rot_iff (show 1≤((subP xs l).rot p).n from nQ),Inn.rot_iff nQ] at this
  exact this
 have v0:((subP xs l).rot p).v 0=tv xs c0:=vp
 have vm:((subP xs l).rot p).v (q - p)=tv xs c1:=by
  show (subP xs l).v (p + (q - p))=_
  rw [show p + (q - p)=q by omega];exact vq
 refine { a:=?_,b:=?_,area:=?_,len:=by omega,chord:=?_,innA:=iA,innB:=iB,dis:=?_,offA:=?_,offB:=?_ }
 ·exact ⟨h.sorted.sublist sA,fun x hx=>h.bd x (sA.mem hx),by rw [eA];exact c.simA hR,by rw [eA];exact c.a,fun hK o=>h.inn hK (iA hK o)⟩
 ·exact ⟨h.sorted.sublist sB,fun x hx=>h.bd x (sB.mem hx),by rw [bB];exact (c.simB hR).rot _,by rw [aB];exact c.b,fun hK o=>h.inn hK (iB hK o)⟩
 ·rw [aB,eA,← area_rot (subP xs l) p]
  exact area_cut ((subP xs l).rot p) (m:=q - p) (by show q - p≤l.length;omega)
 ·intro u w hu hne hsep
  rw [← v0,← vm] at hne hsep
  rcases (hu.rot p).split hR c hne hsep with g|g
  ·rw [← eA] at g;exact .inl g
  ·rw [← eB] at g;exact .inr g.of_rot
 ·intro K x hK oA oB
  rw [eA] at oA
  have oB:=toB oB
  have hmn:q - p < ((subP xs l).rot p).n:=by show q - p < l.length;omega
  have sum:=cut_sum up ((subP xs l).rot p) K (Nat.le_of_lt hmn) x
  rw [oA.w nc_up,oB.w nc_up] at sum
  have:=wnd_zero_oneK hR c.area hK nc_up (P_walls (m:=q - p) hmn (Q:=fun a b=>Off x (smul K a) (smul K b)) oA.1 oB.1)
  omega
 ·intro s t K hs ht e o
  rw [eA] at o
  have:=(A_walls (Q:=fun a b=>Off _ (smul K a) (smul K b)) |>.1 o.1).2
  rw [v0,vm] at this
  exact this.swap.not_on (mean_on hs ht e _ _)
 ·intro s t K hs ht e o
  have hmn:q - p < ((subP xs l).rot p).n:=by show q - p < l.length;omega
  have:=((B_walls hmn (Q:=fun a b=>Off _ (smul K a) (smul K b))).1 (toB o).1).2
  rw [v0,vm] at this
  exact this.not_on (mean_on hs ht e _ _)
theorem diag_sep {xs:List Pt} {a b c d:Int} (h1:isDiagM xs a b=true) (h2:isDiagM xs c d=true) (hx:crs (pI xs a) (pI xs b) (pI xs c) (pI xs d)=false) (hac:a≠c) (had:a≠d) (hbc:b≠c) (hbd:b≠d):Part (tv xs a) (tv xs b) (tv xs d) (tv xs c):=by
 obtain ⟨hr,g1⟩:=isDiag_iff.1 h1
 obtain ⟨-,g2⟩:=isDiag_iff.1 h2
 obtain ⟨a1,b1,-⟩:=isDiag_bd h1
 obtain ⟨c1,d1,-⟩:=isDiag_bd h2
 obtain ⟨-,-,nab,-,k1⟩:=diagM_iff.1 g1
 obtain ⟨-,-,ncd,-,k2⟩:=diagM_iff.1 g2
 have f1:=freeTo_iff.1 (diagC_iff.1 k1).2.1
 have f2:=freeTo_iff.1 (diagC_iff.1 k2).2.1
 have hb:∀ {k:Int},0≤k∧k < xs.length→Bd (pI xs k):=fun hk=>bd_of_ok (corner_ok hr (by omega))
 have hv:∀ {k:Int},0≤k∧k < xs.length→tv xs k=pI xs k:=fun hk=>room_v hk.1 hk.2
 have no:∀ {p q r:Int},0≤p∧p < xs.length→0≤q∧q < xs.length→0≤r∧r < xs.length→(∀ j,j < xs.length→j=q.toNat∨j=r.toNat∨onS (pAt xs j) (pAt xs q.toNat) (pAt xs r.toNat)=false)→p≠q→p≠r→¬ OnM (tv xs p) (tv xs q) (tv xs r):=fun {p q r} hp hq hrr f pq pr o=>by
  rw [hv hp,hv hq,hv hrr] at o
  have:=o.onS (hb hq) (hb hrr) (hb hp)
  rcases f p.toNat (by omega) with e|e|e
  ·omega
  ·omega
  ·rw [show onS (pAt xs p.toNat) (pAt xs q.toNat) (pAt xs r.toNat)=true from this] at e;cases e
 have tab:tv xs a≠tv xs b:=fun e=>nab (tv_inj hr a1 b1 e)
 have tcd:tv xs c≠tv xs d:=fun e=>ncd (tv_inj hr c1 d1 e)
 rcases part_or_on tab tcd with g|g|g|g|g|⟨g1,g2⟩
 ·exact g.comm2
 ·exact absurd g (no c1 a1 b1 f1 (Ne.symm hac) (Ne.symm hbc))
 ·exact absurd g (no d1 a1 b1 f1 (Ne.symm had) (Ne.symm hbd))
 ·exact absurd g (no a1 c1 d1 f2 hac had)
 ·exact absurd g (no b1 c1 d1 f2 hbc hbd)
 ·exfalso
  rw [hv a1,hv b1,hv c1,hv d1] at g1 g2
  unfold crs at hx
  rw [turn_exact (hb a1) (hb b1) (hb c1),turn_exact (hb a1) (hb b1) (hb d1),turn_exact (hb c1) (hb d1) (hb a1),turn_exact (hb c1) (hb d1) (hb b1),decide_eq_true (sgn_opp.2 g2),decide_eq_true (sgn_opp.2 g1)] at hx
  cases hx
theorem sum_split {α:Type} (f:α→Int) (d A B:α):∀ (ps:List α) (u:Nat),u < ps.length→((ps.set u A ++ [B]).map f).sum + f (ps.getD u d)=(ps.map f).sum + f A + f B
 | [],u,h=>by simp at h
 | x :: ps,0,_=>by simp;omega
 | x :: ps,u + 1,h=>by
  have ih:=sum_split f d A B ps u (by simpa using h)
  simp only [List.set_cons_succ,List.cons_append,List.map_cons,List.sum_cons,List.getD_cons_succ] at ih ⊢
  omega
def PlansX (xs:List Pt) (cuts:List (List Int)):Prop:=roomOk xs=true∧∀ i,i < cuts.length→plansAt xs cuts i=true
theorem plansX {xs:List Pt} {cuts:List (List Int)} (h:plansM xs cuts=true):PlansX xs cuts:=⟨(plansM_iff.1 h).1,(plansM_iff.1 h).2.2⟩
structure Stage (xs:List Pt) (cuts:List (List Int)) (i:Nat) (ps:List (List Int)):Prop where
 len:ps.length=i + 1
 prt:∀ u,u < ps.length→Prt xs (ps.getD u [])
 sum:(ps.map fun l=>(subP xs l).area).sum=(roomP xs).area
 cnt:(ps.map fun l=>(l.length:Int)).sum=xs.length + 2 * i
 one:∀ j,i≤j→j < cuts.length→∃ u,u < ps.length∧(∀ u',u' < ps.length→((gI (rI cuts j) 0∈ps.getD u' []∧gI (rI cuts j) 1∈ps.getD u' [])↔u'=u))∧ChV (subP xs (ps.getD u [])) (tv xs (gI (rI cuts j) 0)) (tv xs (gI (rI cuts j) 1))
 dis:∀ u u',u < u'→u' < ps.length→∀ {K x},0 < K→Inn (subP xs (ps.getD u [])) K x→Inn (subP xs (ps.getD u' [])) K x→False
 off:∀ j,j < i→∀ u,u < ps.length→∀ {s t K:Int},0 < s→0 < t→s + t=K→¬ Inn (subP xs (ps.getD u [])) K (padd (smul s (tv xs (gI (rI cuts j) 0))) (smul t (tv xs (gI (rI cuts j) 1))))
theorem plan_at {xs:List Pt} {cuts:List (List Int)} (hp:PlansX xs cuts) {j:Nat} (hj:j < cuts.length):gI (rI cuts j) 0 < gI (rI cuts j) 1∧isDiagM xs (gI (rI cuts j) 0) (gI (rI cuts j) 1)=true:=by
 have:=plansAt_iff.1 (hp.2 _ hj)
 exact ⟨this.2.1,this.2.2.1⟩
theorem chV_diag {xs:List Pt} {a b:Int} (hab:a < b) (h:isDiagM xs a b=true):ChV (roomP xs) (tv xs a) (tv xs b):=by
 obtain ⟨hr,g⟩:=isDiag_iff.1 h
 obtain ⟨a1,b1,-⟩:=isDiag_bd h
 obtain ⟨i,rfl⟩:=Int.eq_ofNat_of_zero_le a1.1
 obtain ⟨k,rfl⟩:=Int.eq_ofNat_of_zero_le b1.1
 obtain ⟨-,n1,n2,hd⟩:=(diagN_iff (by omega) (by omega)).1 g
 have hik:i < k:=by omega
 have hk:k < xs.length:=by omega
 rw [Nat.mod_eq_of_lt (by omega)] at n1
 have n2:¬ (i=0∧k + 1=xs.length):=fun ⟨e1,e2⟩=>n2 (by rw [e2,Nat.mod_self,e1])
 refine ⟨i,k - i,rfl,by rw [show i + (k - i)=k by omega];rfl,?_⟩
 exact cut_of_diag hr (by omega) hk (by rw [show i + (k - i)=k by omega,Nat.mod_eq_of_lt hk]) (by omega) (by omega) hd
theorem stage_zero {xs:List Pt} {cuts:List (List Int)} (hp:PlansX xs cuts):Stage xs cuts 0 [allC xs.length]:=by
 have hr:=hp.1
 have hn:=room_pos hr
 have e:=sub_all hn
 refine ⟨rfl,fun u hu=>?_,?_,?_,fun j _ hj=>⟨0,by simp,fun u' hu'=>?_,?_⟩,fun u u' h1 h2=>?_,fun j hj=>by omega⟩
 ·rw [show u=0 by simpa using hu]
  show Prt xs (allC xs.length)
  refine ⟨?_,fun x hx=>?_,by rw [e];exact room_simple hr,by rw [e];exact (room_area hr).2.1,fun _ o=>by rw [e] at o;exact o⟩
  ·unfold allC
   rw [List.pairwise_map]
   exact List.pairwise_lt_range.imp fun h=>by omega
  ·unfold allC at hx
   obtain ⟨k,hk,rfl⟩:=List.mem_map.1 hx
   have:=List.mem_range.1 hk
   omega
 ·show (subP xs (allC xs.length)).area + 0=_
  rw [e];omega
 ·show ((allC xs.length).length:Int) + 0=_
  rw [allC_len];omega
 ·rw [show u'=0 by simpa using hu']
  have hd:=isDiag_bd (plan_at hp hj).2
  have mem:∀ {a:Int},0≤a∧a < xs.length→a∈allC xs.length:=fun {a} ha=>List.mem_map.2 ⟨a.toNat,List.mem_range.2 (by omega),by show ((a.toNat:Nat):Int)=a;omega⟩
  exact ⟨fun _=>rfl,fun _=>⟨mem hd.1,mem hd.2.1⟩⟩
 ·show ChV (subP xs (allC xs.length)) _ _
  rw [e]
  exact chV_diag (plan_at hp hj).1 (plan_at hp hj).2
 ·simp at h2;omega
theorem chV_mem {xs:List Pt} (hr:roomOk xs=true) {l:List Int} (h:Prt xs l) {a b:Int} (ha:0≤a∧a < xs.length) (hb:0≤b∧b < xs.length) (hc:ChV (subP xs l) (tv xs a) (tv xs b)):a∈l∧b∈l:=by
 have h3:=h.len
 have key:∀ {i:Nat} {c:Int},0≤c∧c < xs.length→(subP xs l).v i=tv xs c→c∈l:=fun {i c} hc e=>by
  have hi:=Nat.mod_lt i (show 0 < l.length by omega)
  have hm:=gI_mem hi
  have:tv xs (gI l (i % l.length))=tv xs c:=e
  rw [← tv_inj hr (h.bd _ hm) hc this];exact hm
 obtain ⟨i,m,h1,h2,-⟩:=hc
 exact ⟨key ha h1,key hb h2⟩
theorem getD_split {ps:List (List Int)} {u u':Nat} {A B:List Int} (hu:u < ps.length):(ps.set u A ++ [B]).getD u' []=if u'=u then A else if u'=ps.length then B else ps.getD u' []:=by
 rw [List.getD_eq_getElem?_getD,List.getElem?_append,List.length_set]
 by_cases h1:u' < ps.length
 ·rw [if_pos h1,List.getElem?_set]
  by_cases h2:u=u'
  ·rw [if_pos h2,if_pos h2.symm,if_pos hu];rfl
  ·rw [if_neg h2,if_neg (Ne.symm h2),if_neg (by omega),List.getD_eq_getElem?_getD]
 ·rw [if_neg h1,if_neg (by omega)]
  by_cases h2:u'=ps.length
  ·rw [if_pos h2,h2,Nat.sub_self];rfl
  ·rw [if_neg h2,List.getD_eq_getElem?_getD,List.getElem?_eq_none (by simp;omega),List.getElem?_eq_none (by omega)]
theorem Stage.step {xs:List Pt} {cuts:List (List Int)} (hp:PlansX xs cuts) {i:Nat} {ps:List (List Int)} (h:Stage xs cuts i ps) (hi:i < cuts.length) {u:Nat} (hu:u < ps.length) (hm:gI (rI cuts i) 0∈ps.getD u []∧gI (rI cuts i) 1∈ps.getD u []) :
  Stage xs cuts (i + 1) (ps.set u ((ps.getD u []).filter (inA (gI (rI cuts i) 0) (gI (rI cuts i) 1))) ++ [(ps.getD u []).filter (inO (gI (rI cuts i) 0) (gI (rI cuts i) 1))]):=by
 have hr:=hp.1
 obtain ⟨u0,hu0,huniq,hch⟩:=h.one i (Nat.le_refl _) hi
 have e:=(huniq u hu).1 hm
 subst e
 have H:=halves (h.prt u hu) hm.1 hm.2 (plan_at hp hi).1 hch
 have hA:∀ x∈(ps.getD u []).filter (inA (gI (rI cuts i) 0) (gI (rI cuts i) 1)),x∈ps.getD u []∧gI (rI cuts i) 0≤x∧x≤gI (rI cuts i) 1:=fun x hx=>by
  obtain ⟨g1,g2⟩:=List.mem_filter.1 hx
  exact ⟨g1,inA_iff.1 g2⟩
 have hB:∀ x∈(ps.getD u []).filter (inO (gI (rI cuts i) 0) (gI (rI cuts i) 1)),x∈ps.getD u []∧(x≤gI (rI cuts i) 0∨gI (rI cuts i) 1≤x):=fun x hx=>by
  obtain ⟨g1,g2⟩:=List.mem_filter.1 hx
  exact ⟨g1,inO_iff.1 g2⟩
 generalize (ps.getD u []).filter (inA (gI (rI cuts i) 0) (gI (rI cuts i) 1))=A at *
 generalize (ps.getD u []).filter (inO (gI (rI cuts i) 0) (gI (rI cuts i) 1))=B at *
 have hlen:(ps.set u A ++ [B]).length=ps.length + 1:=by rw [List.length_append,List.length_set];rfl
 refine ⟨by rw [hlen,h.len],fun u' hu'=>?_,?_,?_,fun j hij hj=>?_,fun v v' hv hv'=>?_,fun j hj v hv=>?_⟩
 ·rw [getD_split hu]
  split
  ·exact H.a
  ·split
   ·exact H.b
   ·exact h.prt u' (by rw [hlen] at hu';omega)
 ·have:=sum_split (fun l=>(subP xs l).area) [] A B ps u hu
  have:=H.area
  have:=h.sum
  omega
 ·have:=sum_split (fun l:List Int=>(l.length:Int)) [] A B ps u hu
  have:=H.len
  have:=h.cnt
  omega
 ·obtain ⟨v,hv,hvu,hvc⟩:=h.one j (by omega) hj
  obtain ⟨pj1,pj2⟩:=plan_at hp hj
  obtain ⟨bj0,bj1,-⟩:=isDiag_bd pj2
  obtain ⟨pi1,pi2⟩:=plan_at hp hi
  obtain ⟨bi0,bi1,-⟩:=isDiag_bd pi2
  have hlt:i < j:=by omega
  have hpl:=plansAt_iff.1 (hp.2 _ hj)
  obtain ⟨hne,hcr⟩:=hpl.2.2.2 i hlt
  have hli:=(plansAt_iff.1 (hp.2 _ hi)).1
  rw [crossM_yes (by rw [hpl.1];rfl) (by rw [hli];rfl) pj2 pi2] at hcr
  have hdif:¬ (gI (rI cuts j) 0=gI (rI cuts i) 0∧gI (rI cuts j) 1=gI (rI cuts i) 1):=fun g=>hne ((len2_eq hpl.1 hli).2 g)
  by_cases hvu':v=u
  ·subst hvu'
   have hd:¬ (gI (rI cuts j) 0∈A∧gI (rI cuts j) 1∈A)∨¬ (gI (rI cuts j) 0∈B∧gI (rI cuts j) 1∈B):=by
    by_cases g:gI (rI cuts j) 0∈A∧gI (rI cuts j) 1∈A
    ·right
     rintro ⟨g3,g4⟩
     have q1:=(hA _ g.1).2
     have q2:=(hA _ g.2).2
     have q3:=(hB _ g3).2
     have q4:=(hB _ g4).2
     exact hdif ⟨by omega,by omega⟩
    ·exact .inl g
   have other:∀ u',u' < ps.length→u'≠v→¬ (gI (rI cuts j) 0∈ps.getD u' []∧gI (rI cuts j) 1∈ps.getD u' []):=fun u' h1 h2 g=>h2 ((hvu u' h1).1 g)
   have hs:=H.chord _ _ hvc (fun g=>by
    rcases g with ⟨g1,g2⟩|⟨g1,g2⟩
    ·exact hdif ⟨tv_inj hr bj0 bi0 g1,tv_inj hr bj1 bi1 g2⟩
    ·have:=tv_inj hr bj0 bi1 g1
     have:=tv_inj hr bj1 bi0 g2
     omega) fun n1 n2 n3 n4=>diag_sep pj2 pi2 hcr (fun g=>n1 (by rw [g])) (fun g=>n2 (by rw [g])) (fun g=>n3 (by rw [g])) fun g=>n4 (by rw [g])
   rcases hs with hs|hs
   ·have hm':=chV_mem hr H.a bj0 bj1 hs
    refine ⟨v,by omega,fun u' hu'=>?_,by rw [getD_split hu,if_pos rfl];exact hs⟩
    rw [getD_split hu]
    split
    ·rename_i g;exact ⟨fun _=>g,fun _=>hm'⟩
    ·rename_i g
     split
     ·exact ⟨fun q=>absurd q (hd.resolve_left fun k=>k hm'),fun q=>absurd q g⟩
     ·exact ⟨fun q=>absurd q (other u' (by rw [hlen] at hu';omega) g),fun q=>absurd q g⟩
   ·have hm':=chV_mem hr H.b bj0 bj1 hs
    refine ⟨ps.length,by omega,fun u' hu'=>?_,by rw [getD_split hu,if_neg (by omega),if_pos rfl];exact hs⟩
    rw [getD_split hu]
    split
    ·rename_i g;exact ⟨fun q=>absurd q (hd.resolve_right fun k=>k hm'),fun q=>by omega⟩
    ·rename_i g
     split
     ·rename_i g2;exact ⟨fun _=>g2,fun _=>hm'⟩
     ·rename_i g2;exact ⟨fun q=>absurd q (other u' (by rw [hlen] at hu';omega) g),fun q=>absurd q g2⟩
  ·refine ⟨v,by omega,fun u' hu'=>?_,by rw [getD_split hu,if_neg hvu',if_neg (by omega)];exact hvc⟩
   have no:∀ {C:List Int},(∀ x∈C,x∈ps.getD u [])→¬ (gI (rI cuts j) 0∈C∧gI (rI cuts j) 1∈C):=fun hC g=>hvu' ((hvu u hu).1 ⟨hC _ g.1,hC _ g.2⟩).symm
   rw [getD_split hu]
   split
   ·rename_i g;exact ⟨fun q=>absurd q (no fun x hx=>(hA x hx).1),fun q=>by omega⟩
   ·rename_i g
    split
    ·rename_i g2;exact ⟨fun q=>absurd q (no fun x hx=>(hB x hx).1),fun q=>by omega⟩
    ·rename_i g2;exact hvu u' (by rw [hlen] at hu';omega)
 ·intro K x hK o1 o2
  rw [hlen] at hv'
  rw [getD_split hu] at o1 o2
  have old:∀ {a b:Nat},a < ps.length→b < ps.length→a≠b→Inn (subP xs (ps.getD a [])) K x→Inn (subP xs (ps.getD b [])) K x→False:=fun {a b} ha hb hab q1 q2=>by
   rcases Nat.lt_or_gt_of_ne hab with g|g
   ·exact h.dis a b g hb hK q1 q2
   ·exact h.dis b a g ha hK q2 q1
  split at o1
  ·rename_i g1
   rw [if_neg (by omega)] at o2
   split at o2
   ·exact H.dis hK o1 o2
   ·exact old hu (show v' < ps.length by omega) (by omega) (H.innA hK o1) o2
  ·rename_i g1
   rw [if_neg (by omega)] at o1
   split at o2
   ·exact old hu (show v < ps.length by omega) (by omega) (H.innA hK o2) o1
   ·split at o2
    ·exact old hu (show v < ps.length by omega) (by omega) (H.innB hK o2) o1
    ·exact h.dis v v' hv (by omega) hK o1 o2
 ·intro s t K hs ht e o
  rw [hlen] at hv
  rw [getD_split hu] at o
  have hK:0 < K:=by omega
  rcases (show j=i∨j < i by omega) with g|g
  ·subst g
   split at o
   ·exact H.offA hs ht e o
   ·split at o
    ·exact H.offB hs ht e o
    ·-- the chord is inside of the part that was cut
     rename_i g1 g2
     obtain ⟨a,m,e1,e2,c⟩:=hch
     have hin:=c.inn ((h.prt u hu).sim.rot a) hs ht e
     rw [Inn.rot_iff (show 1≤(subP xs (ps.getD u [])).n by have:=(h.prt u hu).len;show 1≤(ps.getD u []).length;omega)] at hin
     have w0:((subP xs (ps.getD u [])).rot a).v 0=tv xs (gI (rI cuts j) 0):=e1
     have wm:((subP xs (ps.getD u [])).rot a).v m=tv xs (gI (rI cuts j) 1):=e2
     rw [w0,wm] at hin
     rcases Nat.lt_or_gt_of_ne g1 with q|q
     ·exact h.dis v u q hu hK o hin
     ·exact h.dis u v q (by omega) hK hin o
  ·split at o
   ·exact h.off j g u hu hs ht e (H.innA hK o)
   ·split at o
    ·exact h.off j g u hu hs ht e (H.innB hK o)
    ·exact h.off j g v (by omega) hs ht e o
end Go.Proofs.YtpafacebfogkmaaGreat.Geo
namespace Go.Proofs.YtpafacebfogkmaaGreat
open Go.RowKit Go.Proofs.YtpafacebfogkmaaGreat.Nm
set_option maxRecDepth 10000
set_option maxHeartbeats 2000000
theorem mem_getD {α:Type} {xs:List α} {i:Nat} {d:α} (h:i < xs.length):xs.getD i d∈xs:=by rw [getD_lt _ h];exact List.getElem_mem h
def okSS (xs:List (List Int)):Prop:=xs.length≤1024∧∀ y∈xs,y.length≤1024
def dgAt (xs:List Pt) (i k:Nat):Bool:=decide (i < k) && diagM xs i k
def diagL (xs:List Pt) (i m:Nat):List (List Int):=((List.range m).filter (dgAt xs i)).map fun k:Nat=>[(i:Int),(k:Int)]
theorem diagL_succ (xs:List Pt) (i m:Nat):diagL xs i (m + 1)=diagL xs i m ++ (if dgAt xs i m then [[(i:Int),(m:Int)]] else []):=by
 unfold diagL
 rw [List.range_succ,List.filter_append,List.map_append]
 congr 1
 rw [List.filter_cons]
 by_cases h:dgAt xs i m=true
 ·rw [if_pos h,if_pos h];rfl
 ·rw [if_neg h,if_neg h];rfl
theorem diagL_yes {xs:List Pt} {i m:Nat} (h:i < m) (hd:diagM xs i m=true):diagL xs i m ++ [[(i:Int),(m:Int)]]=diagL xs i (m + 1):=by
 rw [diagL_succ,if_pos (by unfold dgAt;rw [decide_eq_true h,hd];rfl)]
theorem diagL_no {xs:List Pt} {i m:Nat} (hd:diagM xs i m=false):diagL xs i m=diagL xs i (m + 1):=by
 rw [diagL_succ,if_neg (by unfold dgAt;rw [hd,Bool.and_false];decide),List.append_nil]
theorem diagL_low (xs:List Pt) (i:Nat):∀ m,m≤i + 1→diagL xs i m=[]
 | 0,_=>rfl
 | m + 1,h=>by rw [diagL_succ,diagL_low xs i m (by omega),if_neg (by unfold dgAt;rw [decide_eq_false (by omega),Bool.false_and];decide)];rfl
theorem diagL_len (xs:List Pt) (i m:Nat):(diagL xs i m).length≤m:=by
 unfold diagL
 rw [List.length_map]
 exact Nat.le_trans (List.length_filter_le _ _) (by simp)
def diagTo (xs:List Pt) (i:Nat):List (List Int):=(List.range i).flatMap fun j=>diagL xs j xs.length
theorem diagTo_succ (xs:List Pt) (i:Nat):diagTo xs (i + 1)=diagTo xs i ++ diagL xs i xs.length:=by unfold diagTo;rw [List.range_succ,List.flatMap_append];simp
theorem diagTo_len (xs:List Pt):∀ i,(diagTo xs i).length≤i * xs.length
 | 0=>by simp [diagTo]
 | i + 1=>by
  rw [diagTo_succ,List.length_append,Nat.add_mul]
  have h1:=diagTo_len xs i
  have h2:=diagL_len xs i xs.length
  omega
def diagsM (xs:List Pt):List (List Int):=if roomOk xs then diagTo xs xs.length else []
def Dg (n:Nat) (y:List Int):Prop:=∃ i k:Nat,y=[(i:Int),(k:Int)]∧i < k∧k < n
theorem Dg.at {n:Nat} {y:List Int} (h:Dg n y):y.length=2∧(0≤y.getD 0 0∧y.getD 0 0 < n)∧0≤y.getD 1 0∧y.getD 1 0 < n:=by
 obtain ⟨i,k,rfl,h1,h2⟩:=h
 refine ⟨rfl,⟨?_,?_⟩,?_,?_⟩ <;> simp <;> omega
theorem diagTo_dg {xs:List Pt} {i:Nat} (hi:i≤xs.length):∀ y∈diagTo xs i,Dg xs.length y:=by
 intro y hy
 obtain ⟨j,hj,hy⟩:=List.mem_flatMap.1 hy
 unfold diagL at hy
 obtain ⟨k,hk,rfl⟩:=List.mem_map.1 hy
 rw [List.mem_filter] at hk
 obtain ⟨hk,hd⟩:=hk
 unfold dgAt at hd
 rw [Bool.and_eq_true,decide_eq_true_eq] at hd
 exact ⟨j,k,rfl,hd.1,List.mem_range.1 hk⟩
theorem diags_dg (xs:List Pt):∀ y∈diagsM xs,Dg xs.length y:=by
 unfold diagsM
 split
 ·exact diagTo_dg (Nat.le_refl _)
 ·intro y hy;simp at hy
theorem diags_len (xs:List Pt):(diagsM xs).length≤100:=by
 unfold diagsM
 split
 ·rename_i hr
  have h:=room_len hr
  have h1:=diagTo_len xs xs.length
  have h2:=Nat.mul_le_mul h.2 h.2
  omega
 ·simp
def sDiagsC:Con:=mkCon [.room] (fun x=>x.1.length≤1048576) fun x=>⟨.one (.own 0 0),some ⟨t_sl_int,none,.s .int,diagsM x.1⟩⟩
def cutX (xs:List Pt) (d e:List Int):Bool:=crs (pAt xs (d.getD 0 0).toNat) (pAt xs (d.getD 1 0).toNat) (pAt xs (e.getD 0 0).toNat) (pAt xs (e.getD 1 0).toNat)
def freeX (xs:List Pt) (d:List Int) (out:List (List Int)) (j:Nat):Bool:=(List.range j).all fun i=>!cutX xs d (out.getD i [])
theorem freeX_succ (xs:List Pt) (d:List Int) (out:List (List Int)) (j:Nat):freeX xs d out (j + 1)=(freeX xs d out j && !cutX xs d (out.getD j [])):=by
 unfold freeX;rw [List.range_succ,List.all_append];simp
def greedyF (xs:List Pt) (ds:List (List Int)):Nat→List (List Int)
 | 0=>[]
 | j + 1=>if freeX xs (ds.getD j []) (greedyF xs ds j) (greedyF xs ds j).length then greedyF xs ds j ++ [ds.getD j []] else greedyF xs ds j
theorem greedyF_mem {xs:List Pt} {ds:List (List Int)}:∀ {j:Nat},j≤ds.length→∀ y∈greedyF xs ds j,y∈ds
 | 0,_,y,hy=>by simp [greedyF] at hy
 | j + 1,h,y,hy=>by
  unfold greedyF at hy
  split at hy
  ·rcases List.mem_append.1 hy with hy|hy
   ·exact greedyF_mem (by omega) y hy
   ·rw [List.mem_singleton.1 hy];exact mem_getD (by omega)
  ·exact greedyF_mem (by omega) y hy
theorem greedyF_len (xs:List Pt) (ds:List (List Int)):∀ j,(greedyF xs ds j).length≤j
 | 0=>by simp [greedyF]
 | j + 1=>by
  have:=greedyF_len xs ds j
  unfold greedyF
  split
  ·simp;omega
  ·omega
def greedyM (xs:List Pt):List (List Int):=greedyF xs (diagsM xs) (diagsM xs).length
theorem greedy_ok (xs:List Pt):okSS (greedyM xs):=by
 refine ⟨Nat.le_trans (greedyF_len _ _ _) (Nat.le_trans (diags_len xs) (by decide)),fun y hy=>?_⟩
 rw [(diags_dg xs y (greedyF_mem (Nat.le_refl _) y hy)).at.1];decide
def sGreedyC:Con:=mkCon [.room] (fun x=>x.1.length≤1048576) fun x=>⟨.one (.own 0 0),some ⟨t_sl_int,none,.s .int,greedyM x.1⟩⟩
theorem sDiagonalsOf_ok:Good1 Tryz.prog n_spec_DiagonalsOf sDiagsC:=by
 refine good_ofG (tys:=tyL) (env:=[(n_spec_RoomOk,roomOkC),(n_spec_l09Diagonal,l09C)]) (envw:=[]) (envd:=[]) [6] [] [] [] [] mixed tys ⟨sRoomOk_ok,l09Diagonal_ok,trivial⟩ trivial trivial Tryz.func83 rfl (by kernel_rfl) (by decide) (by kernel_rfl) ?_
 have hG_:=kpz [(0,[1]),(1,[1,3]),(2,[1,3,4]),(3,[1,3,4,15]),(4,[1,3,4]),(5,[1,3,4,5]),(6,[1,3,4,5,24]),(7,[1,3,4,5]),(8,[1,3,4,5,31]),(9,[1,3,4,5]),(10,[2])] [(1,[6]),(2,[6]),(3,[6]),(4,[6]),(5,[6]),(6,[6]),(7,[6]),(8,[6]),(9,[6]),(10,[6])] [] []
 rintro ⟨(xs:List Pt),⟨⟩⟩ (h1:xs.length≤_)
 (repeat' (first|(with_reducible first|exact True.intro|refine zQ ?_|(refine zG hG_ ?_;intro K_ hK_)|(refine zR ?_;intro K_ hK_)|(refine hK_ _ _ ?_;try clear hK_ K_)|refine sq_n ?_|refine sq_r ?_|refine sq_e ?_|refine bq_n ?_|refine bq_r ?_|refine bq_q ?_|refine zB ?_|refine zX ?_|refine zT ?_|refine zK ?_|refine gq_n ?_|refine gq_r ?_|refine gq_e ?_|refine lq_n ?_|refine lq_r ?_|refine lq_e ?_|refine bq_e (by decide) ?_)|((with_reducible refine zC (b:=?b_) ?hb_ ?_ ?_);case hb_=>rfl)|((conv=>whnf);first|(with_reducible refine hK_ _ _ ?_;try clear hK_ K_)|(with_reducible refine fun (g_:Sl) (o_:Ow)=>?_)|(with_reducible first|exact True.intro|refine And.intro trivial ?_|refine And.intro ?_ ?_)|exact Nat.le_of_ble_eq_true rfl|exact Or.inl rfl|(intro h_;cases h_)|(intro h_;(try simp only [vS1] at h_))|rfl))) <;> (try (conv=>whnf)) <;> (try first|change (_:Int)≤_|change (_:Nat)≤_) <;> (try ((fail_if_success (with_reducible apply Exists.intro));(try dsimp only);(try simp only [vS1]))) <;> (try simp (disch:=omega) only [vS3,Int.add_sub_cancel,tn1,tnp,tnc,vS2] at *)
 all_goals (try (fail_if_success (with_reducible apply Exists.intro));first|with_reducible assumption|omega|exact mdl (by omega)|exact ilo1 (by omega)|exact ilo2 (by omega)|exact ihi1 (by omega) (by omega)|exact ihi2 (by omega) (by omega))
 refine awp'_loopG (α:=Nat) (fun i ver_=>[(4,vInt i)]) (fun i ver_=>[(3,6,false,.row t_sl_int (.s .int) (diagTo xs i))]) (fun i ver_=>[]) (fun i=>i≤xs.length∧(0 < i→roomOk xs=true)) (fun i=>xs.length - i) [1] [] (0) ?_
 conv=>whnf
 refine ⟨⟨?inv3_,?vals3_,?own3_,?fix3_⟩,?body3_⟩
 case' vals3_=>(repeat' (first|(with_reducible first|exact True.intro|refine And.intro ?_ ?_|refine Head.mk ?_ ?_ ?_ ?_)|((conv=>lhs;whnf);first|(with_reducible first|rfl|exact vInt_s (by omega))|exact rfl)|((conv=>whnf);first|(with_reducible first|exact True.intro|refine And.intro ?_ ?_)))) <;> (try (conv=>lhs;whnf))
 case' own3_=>(repeat' (first|(with_reducible first|exact True.intro|refine And.intro ?_ ?_|refine Head.mk ?_ ?_ ?_ ?_)|((conv=>lhs;whnf);first|(with_reducible first|rfl|exact vInt_s (by omega))|exact rfl)|((conv=>whnf);first|(with_reducible first|exact True.intro|refine And.intro ?_ ?_)))) <;> (try (conv=>lhs;whnf))
 case' fix3_=>(repeat' (first|(with_reducible first|exact True.intro|refine And.intro ?_ ?_|refine Head.mk ?_ ?_ ?_ ?_)|((conv=>lhs;whnf);first|(with_reducible first|rfl|exact vInt_s (by omega))|exact rfl)|((conv=>whnf);first|(with_reducible first|exact True.intro|refine And.intro ?_ ?_)))) <;> (try (conv=>lhs;whnf))
 ·exact ⟨Nat.zero_le _,fun h=>absurd h (by omega)⟩
 rintro i g_ o_ v_ ⟨hi,hr0⟩
 have hel:=diagTo_len xs i
 (repeat' (first|(with_reducible first|exact True.intro|refine zQ ?_|(refine zG hG_ ?_;intro K_ hK_)|(refine zR ?_;intro K_ hK_)|(refine hK_ _ _ ?_;try clear hK_ K_)|refine sq_n ?_|refine sq_r ?_|refine sq_e ?_|refine bq_n ?_|refine bq_r ?_|refine bq_q ?_|refine zB ?_|refine zX ?_|refine zT ?_|refine zK ?_|refine gq_n ?_|refine gq_r ?_|refine gq_e ?_|refine lq_n ?_|refine lq_r ?_|refine lq_e ?_|refine bq_e (by decide) ?_)|((with_reducible refine zC (b:=?b_) ?hb_ ?_ ?_);case hb_=>rfl)|((conv=>whnf);first|(with_reducible refine hK_ _ _ ?_;try clear hK_ K_)|(with_reducible refine fun (g_:Sl) (o_:Ow)=>?_)|(with_reducible first|exact True.intro|refine And.intro trivial ?_|refine And.intro ?_ ?_)|exact Nat.le_of_ble_eq_true rfl|exact Or.inl rfl|(intro h_;cases h_)|(intro h_;(try simp only [vS1] at h_))|rfl))) <;> (try (conv=>whnf)) <;> (try first|change (_:Int)≤_|change (_:Nat)≤_) <;> (try ((fail_if_success (with_reducible apply Exists.intro));(try dsimp only);(try simp only [vS1]))) <;> (try simp (disch:=omega) only [vS3,Int.add_sub_cancel,tn1,tnp,tnc,vS2] at *)
 all_goals (try (fail_if_success (with_reducible apply Exists.intro));first|with_reducible assumption|omega|exact mdl (by omega)|exact ilo1 (by omega)|exact ilo2 (by omega)|exact ihi1 (by omega) (by omega)|exact ihi2 (by omega) (by omega))
 ·skip
  have hr:roomOk xs=true:=by assumption
  have hn:=room_len hr
  have hmul:i * xs.length≤10 * 10:=Nat.mul_le_mul (by omega) hn.2
  refine awp'_loopG (α:=Nat) (fun k ver_=>[(5,vInt k)]) (fun k ver_=>[(3,6,false,.row t_sl_int (.s .int) (diagTo xs i ++ diagL xs i k))]) (fun k ver_=>[]) (fun k=>i < k∧k≤xs.length) (fun k=>xs.length - k) [1,4] [] (i + 1) ?_
  conv=>whnf
  refine ⟨⟨?inv4_,?vals4_,?own4_,?fix4_⟩,?body4_⟩
  case' vals4_=>(repeat' (first|(with_reducible first|exact True.intro|refine And.intro ?_ ?_|refine Head.mk ?_ ?_ ?_ ?_)|((conv=>lhs;whnf);first|(with_reducible first|rfl|exact vInt_s (by omega))|exact rfl)|((conv=>whnf);first|(with_reducible first|exact True.intro|refine And.intro ?_ ?_)))) <;> (try (conv=>lhs;whnf))
  case' own4_=>(repeat' (first|(with_reducible first|exact True.intro|refine And.intro ?_ ?_|refine Head.mk ?_ ?_ ?_ ?_)|((conv=>lhs;whnf);first|(with_reducible first|rfl|exact vInt_s (by omega))|exact rfl)|((conv=>whnf);first|(with_reducible first|exact True.intro|refine And.intro ?_ ?_)))) <;> (try (conv=>lhs;whnf))
  case' fix4_=>(repeat' (first|(with_reducible first|exact True.intro|refine And.intro ?_ ?_|refine Head.mk ?_ ?_ ?_ ?_)|((conv=>lhs;whnf);first|(with_reducible first|rfl|exact vInt_s (by omega))|exact rfl)|((conv=>whnf);first|(with_reducible first|exact True.intro|refine And.intro ?_ ?_)))) <;> (try (conv=>lhs;whnf))
  ·refine congrArg (Own.row _ _) ?_
   rw [diagL_low _ _ _ (Nat.le_refl _),List.append_nil]
  ·exact ⟨by omega,by omega⟩
  rintro k g_ o_ v_ ⟨hik,hk⟩
  have hl2:=diagL_len xs i k
  have hl3:(diagTo xs i ++ diagL xs i k).length≤200:=by rw [List.length_append];omega
  (repeat' (first|(with_reducible first|exact True.intro|refine zQ ?_|(refine zG hG_ ?_;intro K_ hK_)|(refine zR ?_;intro K_ hK_)|(refine hK_ _ _ ?_;try clear hK_ K_)|refine sq_n ?_|refine sq_r ?_|refine sq_e ?_|refine bq_n ?_|refine bq_r ?_|refine bq_q ?_|refine zB ?_|refine zX ?_|refine zT ?_|refine zK ?_|refine gq_n ?_|refine gq_r ?_|refine gq_e ?_|refine lq_n ?_|refine lq_r ?_|refine lq_e ?_|refine bq_e (by decide) ?_)|((with_reducible refine zC (b:=?b_) ?hb_ ?_ ?_);case hb_=>rfl)|((conv=>whnf);first|(with_reducible refine hK_ _ _ ?_;try clear hK_ K_)|(with_reducible refine fun (g_:Sl) (o_:Ow)=>?_)|(with_reducible first|exact True.intro|refine And.intro trivial ?_|refine And.intro ?_ ?_)|exact Nat.le_of_ble_eq_true rfl|exact Or.inl rfl|(intro h_;cases h_)|(intro h_;(try simp only [vS1] at h_))|rfl))) <;> (try (conv=>whnf)) <;> (try first|change (_:Int)≤_|change (_:Nat)≤_) <;> (try ((fail_if_success (with_reducible apply Exists.intro));(try dsimp only);(try simp only [vS1]))) <;> (try simp (disch:=omega) only [vS3,Int.add_sub_cancel,tn1,tnp,tnc,vS2] at *)
  all_goals (try (fail_if_success (with_reducible apply Exists.intro));first|with_reducible assumption|omega|exact mdl (by omega)|exact ilo1 (by omega)|exact ilo2 (by omega)|exact ihi1 (by omega) (by omega)|exact ihi2 (by omega) (by omega))
  ·refine ⟨k + 1,by omega,⟨by omega,by omega⟩,?_⟩
   (repeat' (first|(with_reducible first|exact True.intro|refine And.intro ?_ ?_|refine Head.mk ?_ ?_ ?_ ?_)|((conv=>lhs;whnf);first|(with_reducible first|rfl|exact vInt_s (by omega))|exact rfl)|((conv=>whnf);first|(with_reducible first|exact True.intro|refine And.intro ?_ ?_)))) <;> (try (conv=>lhs;whnf))
   refine congrArg (Own.row _ _) ?_
   rw [← diagL_yes hik (by assumption),List.append_assoc]
  ·refine ⟨k + 1,by omega,⟨by omega,by omega⟩,?_⟩
   (repeat' (first|(with_reducible first|exact True.intro|refine And.intro ?_ ?_|refine Head.mk ?_ ?_ ?_ ?_)|((conv=>lhs;whnf);first|(with_reducible first|rfl|exact vInt_s (by omega))|exact rfl)|((conv=>whnf);first|(with_reducible first|exact True.intro|refine And.intro ?_ ?_)))) <;> (try (conv=>lhs;whnf))
   refine congrArg (Own.row _ _) ?_
   rw [← diagL_no (by assumption)]
  ·refine ⟨i + 1,by omega,⟨by omega,fun _=>hr⟩,?_⟩
   (repeat' (first|(with_reducible first|exact True.intro|refine And.intro ?_ ?_|refine Head.mk ?_ ?_ ?_ ?_)|((conv=>lhs;whnf);first|(with_reducible first|rfl|exact vInt_s (by omega))|exact rfl)|((conv=>whnf);first|(with_reducible first|exact True.intro|refine And.intro ?_ ?_)))) <;> (try (conv=>lhs;whnf))
   refine congrArg (Own.row _ _) ?_
   rw [diagTo_succ,show k=xs.length by omega]
 ·have hf:roomOk xs=false:=by assumption
  have h0:i=0:=by
   rcases Nat.eq_zero_or_pos i with e|e
   ·exact e
   ·exact absurd ((hr0 e).symm.trans hf) (by decide)
  subst h0
  exact congrArg some (by unfold diagsM;rw [if_neg (by rw [hf];decide)];rfl)
 ·have hil:i=xs.length:=by omega
  refine congrArg some ?_
  unfold diagsM
  split
  ·rw [hil]
  ·rename_i hf
   rcases Nat.eq_zero_or_pos i with e|e
   ·subst e;rfl
   ·exact absurd (hr0 e) hf
theorem sGreedyCuts_ok:Good1 Tryz.prog n_spec_GreedyCuts sGreedyC:=by
 refine good_ofG (tys:=tyL) (env:=[(n_spec_DiagonalsOf,sDiagsC),(n_spec_l03Cross,l03CrossC)]) (envw:=[]) (envd:=[]) [8] [] [] [] [] mixed tys ⟨sDiagonalsOf_ok,l03Cross_ok,trivial⟩ trivial trivial Tryz.func57 rfl (by kernel_rfl) (by decide) (by kernel_rfl) ?_
 have hG_:=kpz [(0,[1]),(1,[1,3]),(2,[1,3,4]),(3,[1,3,4,5]),(4,[1,3,4,5,14]),(5,[1,3,4,5]),(6,[1,3,4,5,6]),(7,[1,3,4,5,6,7]),(8,[1,3,4,5,6,7,20]),(9,[1,3,4,5,6,7]),(10,[1,3,4,5,6,7]),(11,[1,3,4,5,68]),(12,[1,3,4,5]),(13,[2])] [(1,[8]),(2,[8]),(3,[8]),(4,[8]),(5,[8]),(6,[8]),(7,[8]),(8,[8]),(9,[8]),(10,[8]),(11,[8]),(12,[8]),(13,[8])] [] []
 rintro ⟨(xs:List Pt),⟨⟩⟩ (h1:xs.length≤_)
 have hdl:=diags_len xs
 have hdd:=diags_dg xs
 (repeat' (first|(with_reducible first|exact True.intro|refine zQ ?_|(refine zG hG_ ?_;intro K_ hK_)|(refine zR ?_;intro K_ hK_)|(refine hK_ _ _ ?_;try clear hK_ K_)|refine sq_n ?_|refine sq_r ?_|refine sq_e ?_|refine bq_n ?_|refine bq_r ?_|refine bq_q ?_|refine zB ?_|refine zX ?_|refine zT ?_|refine zK ?_|refine gq_n ?_|refine gq_r ?_|refine gq_e ?_|refine lq_n ?_|refine lq_r ?_|refine lq_e ?_|refine bq_e (by decide) ?_)|((with_reducible refine zC (b:=?b_) ?hb_ ?_ ?_);case hb_=>rfl)|((conv=>whnf);first|(with_reducible refine hK_ _ _ ?_;try clear hK_ K_)|(with_reducible refine fun (g_:Sl) (o_:Ow)=>?_)|(with_reducible first|exact True.intro|refine And.intro trivial ?_|refine And.intro ?_ ?_)|exact Nat.le_of_ble_eq_true rfl|exact Or.inl rfl|(intro h_;cases h_)|(intro h_;(try simp only [vS1] at h_))|rfl))) <;> (try (conv=>whnf)) <;> (try first|change (_:Int)≤_|change (_:Nat)≤_) <;> (try ((fail_if_success (with_reducible apply Exists.intro));(try dsimp only);(try simp only [vS1]))) <;> (try simp (disch:=omega) only [vS3,Int.add_sub_cancel,tn1,tnp,tnc,vS2] at *)
 all_goals (try (fail_if_success (with_reducible apply Exists.intro));first|with_reducible assumption|omega|exact mdl (by omega)|exact ilo1 (by omega)|exact ilo2 (by omega)|exact ihi1 (by omega) (by omega)|exact ihi2 (by omega) (by omega))
 refine awp'_loopG (α:=Nat) (fun j ver_=>[(5,vInt j)]) (fun j ver_=>[(3,8,false,.row t_sl_int (.s .int) (greedyF xs (diagsM xs) j))]) (fun j ver_=>[]) (fun j=>j≤(diagsM xs).length) (fun j=>(diagsM xs).length - j) [1,4] [] (0) ?_
 conv=>whnf
 refine ⟨⟨?inv7_,?vals7_,?own7_,?fix7_⟩,?body7_⟩
 case' vals7_=>(repeat' (first|(with_reducible first|exact True.intro|refine And.intro ?_ ?_|refine Head.mk ?_ ?_ ?_ ?_)|((conv=>lhs;whnf);first|(with_reducible first|rfl|exact vInt_s (by omega))|exact rfl)|((conv=>whnf);first|(with_reducible first|exact True.intro|refine And.intro ?_ ?_)))) <;> (try (conv=>lhs;whnf))
 case' own7_=>(repeat' (first|(with_reducible first|exact True.intro|refine And.intro ?_ ?_|refine Head.mk ?_ ?_ ?_ ?_)|((conv=>lhs;whnf);first|(with_reducible first|rfl|exact vInt_s (by omega))|exact rfl)|((conv=>whnf);first|(with_reducible first|exact True.intro|refine And.intro ?_ ?_)))) <;> (try (conv=>lhs;whnf))
 case' fix7_=>(repeat' (first|(with_reducible first|exact True.intro|refine And.intro ?_ ?_|refine Head.mk ?_ ?_ ?_ ?_)|((conv=>lhs;whnf);first|(with_reducible first|rfl|exact vInt_s (by omega))|exact rfl)|((conv=>whnf);first|(with_reducible first|exact True.intro|refine And.intro ?_ ?_)))) <;> (try (conv=>lhs;whnf))
 ·exact Nat.zero_le _
 rintro j g_ o_ v_ hj
 have hgl:=greedyF_len xs (diagsM xs) j
 have hgm:=greedyF_mem (xs:=xs) hj
 (repeat' (first|(with_reducible first|exact True.intro|refine zQ ?_|(refine zG hG_ ?_;intro K_ hK_)|(refine zR ?_;intro K_ hK_)|(refine hK_ _ _ ?_;try clear hK_ K_)|refine sq_n ?_|refine sq_r ?_|refine sq_e ?_|refine bq_n ?_|refine bq_r ?_|refine bq_q ?_|refine zB ?_|refine zX ?_|refine zT ?_|refine zK ?_|refine gq_n ?_|refine gq_r ?_|refine gq_e ?_|refine lq_n ?_|refine lq_r ?_|refine lq_e ?_|refine bq_e (by decide) ?_)|((with_reducible refine zC (b:=?b_) ?hb_ ?_ ?_);case hb_=>rfl)|((conv=>whnf);first|(with_reducible refine hK_ _ _ ?_;try clear hK_ K_)|(with_reducible refine fun (g_:Sl) (o_:Ow)=>?_)|(with_reducible first|exact True.intro|refine And.intro trivial ?_|refine And.intro ?_ ?_)|exact Nat.le_of_ble_eq_true rfl|exact Or.inl rfl|(intro h_;cases h_)|(intro h_;(try simp only [vS1] at h_))|rfl))) <;> (try (conv=>whnf)) <;> (try first|change (_:Int)≤_|change (_:Nat)≤_) <;> (try ((fail_if_success (with_reducible apply Exists.intro));(try dsimp only);(try simp only [vS1]))) <;> (try simp (disch:=omega) only [vS3,Int.add_sub_cancel,tn1,tnp,tnc,vS2] at *)
 all_goals (try (fail_if_success (with_reducible apply Exists.intro));first|with_reducible assumption|omega|exact mdl (by omega)|exact ilo1 (by omega)|exact ilo2 (by omega)|exact ihi1 (by omega) (by omega)|exact ihi2 (by omega) (by omega))
 ·skip
  have hjl:j < (diagsM xs).length:=by assumption
  have hd:=(hdd _ (mem_getD (d:=[]) hjl)).at
  obtain ⟨o,ho⟩:∃ o,greedyF xs (diagsM xs) j=o:=⟨_,rfl⟩
  simp only [ho] at hgl hgm ⊢
  refine awp'_loopG (α:=Nat) (fun i ver_=>[(7,vInt i),(6,vBool (freeX xs ((diagsM xs).getD j []) o i))]) (fun i ver_=>[]) (fun i ver_=>[]) (fun i=>i≤o.length) (fun i=>o.length - i) [1,3,4,5] [8] (0) ?_
  conv=>whnf
  refine ⟨⟨?inv8_,?vals8_,?own8_,?fix8_⟩,?body8_⟩
  case' vals8_=>(repeat' (first|(with_reducible first|exact True.intro|refine And.intro ?_ ?_|refine Head.mk ?_ ?_ ?_ ?_)|((conv=>lhs;whnf);first|(with_reducible first|rfl|exact vInt_s (by omega))|exact rfl)|((conv=>whnf);first|(with_reducible first|exact True.intro|refine And.intro ?_ ?_)))) <;> (try (conv=>lhs;whnf))
  case' own8_=>(repeat' (first|(with_reducible first|exact True.intro|refine And.intro ?_ ?_|refine Head.mk ?_ ?_ ?_ ?_)|((conv=>lhs;whnf);first|(with_reducible first|rfl|exact vInt_s (by omega))|exact rfl)|((conv=>whnf);first|(with_reducible first|exact True.intro|refine And.intro ?_ ?_)))) <;> (try (conv=>lhs;whnf))
  case' fix8_=>(repeat' (first|(with_reducible first|exact True.intro|refine And.intro ?_ ?_|refine Head.mk ?_ ?_ ?_ ?_)|((conv=>lhs;whnf);first|(with_reducible first|rfl|exact vInt_s (by omega))|exact rfl)|((conv=>whnf);first|(with_reducible first|exact True.intro|refine And.intro ?_ ?_)))) <;> (try (conv=>lhs;whnf))
  ·exact Nat.zero_le _
  rintro i g_ o_ v_ hi
  have he:∀ h:i < o.length,_:=fun h=>(hdd _ (hgm _ (mem_getD (d:=[]) h))).at
  have f0:(0:Int) + 1≤(((diagsM xs).getD j []).length:Int):=by omega
  have f1:(1:Int) + 1≤(((diagsM xs).getD j []).length:Int):=by omega
  have f2:((diagsM xs).getD j []).getD 0 0 + 1≤(xs.length:Int):=by omega
  have f3:((diagsM xs).getD j []).getD 1 0 + 1≤(xs.length:Int):=by omega
  have g0:i < o.length→(0:Int) + 1≤((o.getD i []).length:Int):=fun h=>by have:=he h;omega
  have g1:i < o.length→(1:Int) + 1≤((o.getD i []).length:Int):=fun h=>by have:=he h;omega
  have g2:i < o.length→(o.getD i []).getD 0 0 + 1≤(xs.length:Int):=fun h=>by have:=he h;omega
  have g3:i < o.length→(o.getD i []).getD 1 0 + 1≤(xs.length:Int):=fun h=>by have:=he h;omega
  (repeat' (first|(with_reducible first|exact True.intro|refine zQ ?_|(refine zG hG_ ?_;intro K_ hK_)|(refine zR ?_;intro K_ hK_)|(refine hK_ _ _ ?_;try clear hK_ K_)|refine sq_n ?_|refine sq_r ?_|refine sq_e ?_|refine bq_n ?_|refine bq_r ?_|refine bq_q ?_|refine zB ?_|refine zX ?_|refine zT ?_|refine zK ?_|refine gq_n ?_|refine gq_r ?_|refine gq_e ?_|refine lq_n ?_|refine lq_r ?_|refine lq_e ?_|refine bq_e (by decide) ?_)|((with_reducible refine zC (b:=?b_) ?hb_ ?_ ?_);case hb_=>rfl)|((conv=>whnf);first|(with_reducible refine hK_ _ _ ?_;try clear hK_ K_)|(with_reducible refine fun (g_:Sl) (o_:Ow)=>?_)|(with_reducible first|exact True.intro|refine And.intro trivial ?_|refine And.intro ?_ ?_)|exact Nat.le_of_ble_eq_true rfl|exact Or.inl rfl|(intro h_;cases h_)|(intro h_;(try simp only [vS1] at h_))|rfl))) <;> (try (conv=>whnf)) <;> (try first|change (_:Int)≤_|change (_:Nat)≤_) <;> (try ((fail_if_success (with_reducible apply Exists.intro));(try dsimp only);(try simp only [vS1]))) <;> (try simp (disch:=omega) only [vS3,Int.add_sub_cancel,tn1,tnp,tnc,vS2] at *)
  all_goals (try (fail_if_success (with_reducible apply Exists.intro));first|with_reducible assumption|omega|exact mdl (by omega)|exact ilo1 (by omega)|exact ilo2 (by omega)|exact ihi1 (by omega) (by omega)|exact ihi2 (by omega) (by omega))
  all_goals first|exact f0|exact f1|exact f2|exact f3|exact hd.2.1.1|exact hd.2.2.1|exact g0 (by assumption)|exact g1 (by assumption)|exact g2 (by assumption)|exact g3 (by assumption)|exact (he (by assumption)).2.1.1|exact (he (by assumption)).2.2.1|skip
  ·have hf:freeX xs ((diagsM xs).getD j []) o i=true:=by assumption
   refine ⟨i + 1,by omega,by omega,?_⟩
   (repeat' (first|(with_reducible first|exact True.intro|refine And.intro ?_ ?_|refine Head.mk ?_ ?_ ?_ ?_)|((conv=>lhs;whnf);first|(with_reducible first|rfl|exact vInt_s (by omega))|exact rfl)|((conv=>whnf);first|(with_reducible first|exact True.intro|refine And.intro ?_ ?_)))) <;> (try (conv=>lhs;whnf))
   refine congrArg vBool ?_
   rw [freeX_succ,hf,Bool.true_and]
   rfl
  ·have hf:freeX xs ((diagsM xs).getD j []) o i=false:=by assumption
   refine ⟨i + 1,by omega,by omega,?_⟩
   (repeat' (first|(with_reducible first|exact True.intro|refine And.intro ?_ ?_|refine Head.mk ?_ ?_ ?_ ?_)|((conv=>lhs;whnf);first|(with_reducible first|rfl|exact vInt_s (by omega))|exact rfl)|((conv=>whnf);first|(with_reducible first|exact True.intro|refine And.intro ?_ ?_)))) <;> (try (conv=>lhs;whnf))
   refine congrArg vBool ?_
   rw [freeX_succ,hf,Bool.false_and]
  ·have hf:freeX xs ((diagsM xs).getD j []) o o.length=true:=by rw [← show i=o.length by omega];assumption
   refine ⟨j + 1,by omega,by omega,?_⟩
   (repeat' (first|(with_reducible first|exact True.intro|refine And.intro ?_ ?_|refine Head.mk ?_ ?_ ?_ ?_)|((conv=>lhs;whnf);first|(with_reducible first|rfl|exact vInt_s (by omega))|exact rfl)|((conv=>whnf);first|(with_reducible first|exact True.intro|refine And.intro ?_ ?_)))) <;> (try (conv=>lhs;whnf))
   refine congrArg (Own.row _ _) ?_
   unfold greedyF;rw [ho,if_pos hf]
  ·have hf:freeX xs ((diagsM xs).getD j []) o o.length=false:=by rw [← show i=o.length by omega];assumption
   refine ⟨j + 1,by omega,by omega,?_⟩
   (repeat' (first|(with_reducible first|exact True.intro|refine And.intro ?_ ?_|refine Head.mk ?_ ?_ ?_ ?_)|((conv=>lhs;whnf);first|(with_reducible first|rfl|exact vInt_s (by omega))|exact rfl)|((conv=>whnf);first|(with_reducible first|exact True.intro|refine And.intro ?_ ?_)))) <;> (try (conv=>lhs;whnf))
   refine congrArg (Own.row _ _) ?_
   unfold greedyF;rw [ho,hf];rfl
 ·exact congrArg some (by unfold greedyM;rw [show j=(diagsM xs).length by omega])
end Go.Proofs.YtpafacebfogkmaaGreat
namespace Go.Proofs.YtpafacebfogkmaaGreat
open Go.RowKit
theorem hasM_iff {l:List Int} {k:Int}:hasM l k=true↔k∈l:=by
 unfold hasM
 rw [List.any_eq_true]
 constructor
 ·rintro ⟨x,hx,e⟩
  rw [beq_iff_eq] at e
  rw [← e];exact hx
 ·intro h;exact ⟨k,h,by rw [beq_iff_eq]⟩
def hasB (c:List Int) (l:List Int):Bool:=hasM l (gI c 0) && hasM l (gI c 1)
theorem hasB_iff {c l:List Int}:hasB c l=true↔gI c 0∈l∧gI c 1∈l:=by unfold hasB;rw [Bool.and_eq_true,hasM_iff,hasM_iff]
def atP (ps:List (List Int)) (c:List Int):Option Nat:=(List.range ps.length).find? fun u=>hasB c (ps.getD u [])
def cutA (c l:List Int):List Int:=l.filter (Geo.inA (gI c 0) (gI c 1))
def cutO (c l:List Int):List Int:=l.filter (Geo.inO (gI c 0) (gI c 1))
def stepP (ps:List (List Int)) (c:List Int):List (List Int):=ps.set ((atP ps c).getD 0) (cutA c (ps.getD ((atP ps c).getD 0) [])) ++ [cutO c (ps.getD ((atP ps c).getD 0) [])]
def rawP (xs:List Pt) (cuts:List (List Int)):Nat→List (List Int)
 | 0=>[allC xs.length]
 | i + 1=>stepP (rawP xs cuts i) (rI cuts i)
theorem atP_one {xs:List Pt} {cuts ps:List (List Int)} {i:Nat} (h:Geo.Stage xs cuts i ps) (hi:i < cuts.length):∃ u,u < ps.length∧atP ps (rI cuts i)=some u∧gI (rI cuts i) 0∈ps.getD u []∧gI (rI cuts i) 1∈ps.getD u []:=by
 obtain ⟨u,hu,huniq,-⟩:=h.one i (Nat.le_refl _) hi
 have hm:=(huniq u hu).2 rfl
 refine ⟨u,hu,find_some hu (fun j hj=>?_) (hasB_iff.2 hm),hm⟩
 rw [Bool.eq_false_iff]
 intro g
 have:=(huniq j (by omega)).1 (hasB_iff.1 g)
 omega
theorem rawP_stage {xs:List Pt} {cuts:List (List Int)} (hp:Geo.PlansX xs cuts):∀ {i:Nat},i≤cuts.length→Geo.Stage xs cuts i (rawP xs cuts i)
 | 0,_=>Geo.stage_zero hp
 | i + 1,hi=>by
  have ih:=rawP_stage hp (i:=i) (by omega)
  obtain ⟨u,hu,e,hm⟩:=atP_one ih (by omega)
  have:=ih.step hp (by omega) hu hm
  show Geo.Stage xs cuts (i + 1) (stepP (rawP xs cuts i) (rI cuts i))
  unfold stepP
  rw [e]
  exact this
theorem plansX_of {xs:List Pt} {cuts:List (List Int)} (hr:roomOk xs=true) (hg:∀ c∈cuts,c.length=2∧gI c 0 < gI c 1∧isDiagM xs (gI c 0) (gI c 1)=true) (hp:cuts.Pairwise fun e d=>d≠e∧crossM xs d e=false):Geo.PlansX xs cuts:=by
 refine ⟨hr,fun i hi=>plansAt_iff.2 ?_⟩
 have at_:∀ {j},(h:j < cuts.length)→rI cuts j=cuts[j]:=fun h=>getD_lt _ h
 have m:rI cuts i∈cuts:=by rw [at_ hi];exact List.getElem_mem hi
 obtain ⟨h1,h2,h3⟩:=hg _ m
 refine ⟨h1,h2,h3,fun j hj=>?_⟩
 have:=List.pairwise_iff_getElem.1 hp j i (by omega) hi hj
 rw [at_ hi,at_ (by omega)]
 exact this
theorem mem_diags {xs:List Pt} {y:List Int}:y∈diagsM xs↔roomOk xs=true∧∃ i k:Nat,y=[(i:Int),(k:Int)]∧i < k∧k < xs.length∧diagM xs i k=true:=by
 unfold diagsM
 by_cases hr:roomOk xs=true
 ·rw [if_pos hr]
  unfold diagTo
  rw [List.mem_flatMap]
  constructor
  ·rintro ⟨i,hi,hy⟩
   unfold diagL at hy
   obtain ⟨k,hk,rfl⟩:=List.mem_map.1 hy
   obtain ⟨h1,h2⟩:=List.mem_filter.1 hk
   unfold dgAt at h2
   rw [Bool.and_eq_true,decide_eq_true_eq] at h2
   exact ⟨hr,i,k,rfl,h2.1,List.mem_range.1 h1,h2.2⟩
  ·rintro ⟨-,i,k,rfl,h1,h2,h3⟩
   refine ⟨i,List.mem_range.2 (by omega),List.mem_map.2 ⟨k,List.mem_filter.2 ⟨List.mem_range.2 h2,?_⟩,rfl⟩⟩
   unfold dgAt
   rw [Bool.and_eq_true,decide_eq_true_eq]
   exact ⟨h1,h3⟩
 ·rw [if_neg hr]
  constructor
  ·intro h;cases h
  ·rintro ⟨h,-⟩;exact absurd h hr
theorem diags_nodup (xs:List Pt):(diagsM xs).Nodup:=by
 unfold diagsM
 split
 ·unfold diagTo
  refine List.pairwise_flatMap.2 ⟨fun i _=>?_,List.pairwise_lt_range.imp fun {a b} hab x hx y hy e=>?_⟩
  ·unfold diagL
   rw [List.pairwise_map]
   refine (List.pairwise_lt_range.filter _).imp fun {a b} hab e=>?_
   simp at e
   omega
  ·unfold diagL at hx hy
   obtain ⟨k,-,rfl⟩:=List.mem_map.1 hx
   obtain ⟨k',-,rfl⟩:=List.mem_map.1 hy
   simp at e
   omega
 ·exact List.nodup_nil
theorem greedy_sub (xs:List Pt) (ds:List (List Int)):∀ {j:Nat},j≤ds.length→(greedyF xs ds j).Sublist (ds.take j)
 | 0,_=>by simp [greedyF]
 | j + 1,h=>by
  have ih:=greedy_sub xs ds (j:=j) (by omega)
  unfold greedyF
  rw [List.take_succ_eq_append_getElem (by omega)]
  split
  ·rw [getD_lt _ (by omega)]
   exact ih.append (List.Sublist.refl _)
  ·exact ih.trans (List.sublist_append_left _ _)
theorem free_iff {xs:List Pt} {d:List Int} {out:List (List Int)} {j:Nat}:freeX xs d out j=true↔∀ i,i < j→cutX xs d (out.getD i [])=false:=by
 unfold freeX
 rw [List.all_eq_true]
 constructor
 ·intro h i hi
  have:=h i (List.mem_range.2 hi)
  simpa using this
 ·intro h i hi
  rw [h i (List.mem_range.1 hi)];rfl
theorem greedy_pair (xs:List Pt) (ds:List (List Int)):∀ j,(greedyF xs ds j).Pairwise fun e d=>cutX xs d e=false
 | 0=>by simp [greedyF]
 | j + 1=>by
  have ih:=greedy_pair xs ds j
  unfold greedyF
  split
  ·rename_i h
   refine List.pairwise_append.2 ⟨ih,by simp,fun e he d hd=>?_⟩
   rw [List.mem_singleton.1 hd]
   obtain ⟨i,hi,rfl⟩:=List.getElem_of_mem he
   have:=free_iff.1 h i hi
   rwa [getD_lt _ hi] at this
  ·exact ih
theorem greedy_max (xs:List Pt) (ds:List (List Int)):∀ {j:Nat},j≤ds.length→∀ i,i < j→ds.getD i []∈greedyF xs ds j∨∃ e∈greedyF xs ds j,cutX xs (ds.getD i []) e=true
 | 0,_,i,h=>by omega
 | j + 1,hj,i,hi=>by
  have grow:∀ y,y∈greedyF xs ds j→y∈greedyF xs ds (j + 1):=fun y hy=>by
   rw [greedyF]
   split
   ·exact List.mem_append_left _ hy
   ·exact hy
  rcases (show i < j∨i=j by omega) with g|g
  ·rcases greedy_max xs ds (j:=j) (by omega) i g with h|⟨e,he,hc⟩
   ·exact .inl (grow _ h)
   ·exact .inr ⟨e,grow _ he,hc⟩
  ·subst g
   by_cases hf:freeX xs (ds.getD i []) (greedyF xs ds i) (greedyF xs ds i).length=true
   ·left
    rw [greedyF,if_pos hf]
    exact List.mem_append_right _ (by simp)
   ·right
    by_cases hex:∃ t,t < (greedyF xs ds i).length∧cutX xs (ds.getD i []) ((greedyF xs ds i).getD t [])=true
    ·obtain ⟨t,ht,hc⟩:=hex
     exact ⟨_,grow _ (by rw [getD_lt _ ht];exact List.getElem_mem ht),hc⟩
    ·exact absurd (free_iff.2 fun t ht=>Bool.eq_false_iff.2 fun g=>hex ⟨t,ht,g⟩) hf
theorem greedy_good {xs:List Pt}:∀ c∈greedyM xs,c.length=2∧gI c 0 < gI c 1∧isDiagM xs (gI c 0) (gI c 1)=true:=fun c hc=>by
 obtain ⟨hr,i,k,rfl,h1,h2,h3⟩:=mem_diags.1 (greedyF_mem (Nat.le_refl _) c hc)
 exact ⟨rfl,show (i:Int) < k by omega,isDiag_iff.2 ⟨hr,h3⟩⟩
theorem greedy_pairs (xs:List Pt):(greedyM xs).Pairwise fun e d=>d≠e∧crossM xs d e=false:=by
 have h1:=greedy_pair xs (diagsM xs) (diagsM xs).length
 have h2:=(diags_nodup xs).sublist ((greedy_sub xs (diagsM xs) (Nat.le_refl _)).trans (List.take_sublist _ _))
 refine (h1.and h2).imp fun {e d} h=>⟨fun q=>h.2 q.symm,?_⟩
 unfold crossM
 rw [show crs (pI xs (gI d 0)) (pI xs (gI d 1)) (pI xs (gI e 0)) (pI xs (gI e 1))=false from h.1,Bool.and_false]
theorem plans_sub {xs:List Pt} (hr:roomOk xs=true) {cuts:List (List Int)} (h:cuts.Sublist (greedyM xs)):Geo.PlansX xs cuts:=plansX_of hr (fun c hc=>greedy_good c (h.mem hc)) ((greedy_pairs xs).sublist h)
end Go.Proofs.YtpafacebfogkmaaGreat
namespace Go.Proofs.YtpafacebfogkmaaGreat.Geo
open Go.RowKit
theorem ear_chord {xs:List Pt} {l:List Int} (h:Prt xs l) (h4:4≤l.length):∃ a b,a∈l∧b∈l∧a≠b∧∀ s t K:Int,0 < s→0 < t→s + t=K→Inn (subP xs l) K (padd (smul s (tv xs a)) (smul t (tv xs b))):=by
 obtain ⟨s,d,-,-,he,-⟩:=two_ears l.length (subP xs l) rfl h4 h.sim h.area
 have hn:0 < (subP xs l).n:=by show 0 < l.length;omega
 have c:=ear_cut (h.sim.rot s) (by rw [area_rot];exact h.area) h4 ((EarI.rot hn).2 he)
 have hm:∀ j,j % l.length < l.length:=fun j=>Nat.mod_lt _ (by omega)
 have hR:=h.sim.rot s
 refine ⟨gI l ((s + 0) % l.length),gI l ((s + 2) % l.length),gI_mem (hm _),gI_mem (hm _),fun e=>?_,fun s' t K hs ht e=>?_⟩
 ·have:((subP xs l).rot s).v 0=((subP xs l).rot s).v 2:=by
   show (roomP xs).v (gI l ((s + 0) % l.length)).toNat=(roomP xs).v (gI l ((s + 2) % l.length)).toNat
   rw [e]
  exact hR.inj (show 0 < l.length by omega) (show 2 < l.length by omega) (by decide) this
 ·have:=c.inn hR hs ht e
  rw [Inn.rot_iff (show 1≤(subP xs l).n from hn)] at this
  exact this
theorem chord_diag {xs:List Pt} (hr:roomOk xs=true) {a b:Int} (ha:0≤a∧a < xs.length) (hb:0≤b∧b < xs.length) (hab:a≠b) (hin:∀ s t K:Int,0 < s→0 < t→s + t=K→Inn (roomP xs) K (padd (smul s (tv xs a)) (smul t (tv xs b)))):diagM xs a b=true:=by
 obtain ⟨i,rfl⟩:=Int.eq_ofNat_of_zero_le ha.1
 obtain ⟨k,rfl⟩:=Int.eq_ofNat_of_zero_le hb.1
 have hi:i < xs.length:=by omega
 have hk:k < xs.length:=by omega
 have hm:=hin 1 1 2 (by decide) (by decide) rfl
 have hon:=mean_on (s:=1) (t:=1) (K:=2) (by decide) (by decide) rfl ((roomP xs).v i) ((roomP xs).v k)
 refine (diagN_iff hi hk).2 ⟨by omega,fun e=>?_,fun e=>?_,diag_of_inn hr hi hk (by omega) hin⟩
 ·have:=hm.1 i hi
  rw [show (roomP xs).v (i + 1)=(roomP xs).v k by rw [← e];exact ((roomP xs).per_mod (i + 1)).symm] at this
  exact this.not_on hon
 ·have:=hm.1 k hk
  rw [show (roomP xs).v (k + 1)=(roomP xs).v i by rw [← e];exact ((roomP xs).per_mod (k + 1)).symm] at this
  exact this.swap.not_on hon
theorem cross_point {a b c d:Pt} (h1:(turnZ c d a < 0∧0 < turnZ c d b)∨(turnZ c d b < 0∧0 < turnZ c d a)) (h2:(turnZ a b c < 0∧0 < turnZ a b d)∨(turnZ a b d < 0∧0 < turnZ a b c)) :
  ∃ s t s' t' K:Int,0 < s∧0 < t∧0 < s'∧0 < t'∧s + t=K∧s' + t'=K∧padd (smul s a) (smul t b)=padd (smul s' c) (smul t' d):=by
 have e0:turnZ c d a - turnZ c d b=turnZ a b d - turnZ a b c:=by unfold turnZ;grind
 have e1:-turnZ c d b * a.1 + turnZ c d a * b.1=turnZ a b d * c.1 + -turnZ a b c * d.1:=by unfold turnZ;grind
 have e2:-turnZ c d b * a.2 + turnZ c d a * b.2=turnZ a b d * c.2 + -turnZ a b c * d.2:=by unfold turnZ;grind
 generalize turnZ c d a=t1 at *
 generalize turnZ c d b=t2 at *
 generalize turnZ a b c=t3 at *
 generalize turnZ a b d=t4 at *
 rcases h1 with h1|h1
 ·refine ⟨t2,-t1,-t4,t3,t2 - t1,by omega,by omega,by omega,by omega,by omega,by omega,?_⟩
  unfold padd smul
  refine Prod.ext ?_ ?_
  ·show t2 * a.1 + -t1 * b.1=-t4 * c.1 + t3 * d.1
   grind
  ·show t2 * a.2 + -t1 * b.2=-t4 * c.2 + t3 * d.2
   grind
 ·exact ⟨-t2,t1,t4,-t3,t1 - t2,by omega,by omega,by omega,by omega,by omega,by omega,by unfold padd smul;exact Prod.ext e1 e2⟩
theorem greedy_three {xs:List Pt} (hr:roomOk xs=true) {u:Nat} (hu:u < (rawP xs (greedyM xs) (greedyM xs).length).length):((rawP xs (greedyM xs) (greedyM xs).length).getD u []).length=3:=by
 have S:=rawP_stage (plans_sub hr (List.Sublist.refl _)) (i:=(greedyM xs).length) (Nat.le_refl _)
 generalize rawP xs (greedyM xs) (greedyM xs).length=ps at *
 have hP:=S.prt u hu
 have h3:=hP.len
 rcases (show (ps.getD u []).length=3∨4≤(ps.getD u []).length by omega) with g|g
 ·exact g
 ·exfalso
  obtain ⟨a0,b0,ma0,mb0,hne,hin0⟩:=ear_chord hP g
  obtain ⟨a,b,ha,hb,hlt,hin⟩:∃ a b:Int,(0≤a∧a < xs.length)∧(0≤b∧b < xs.length)∧a < b∧∀ s t K:Int,0 < s→0 < t→s + t=K→Inn (subP xs (ps.getD u [])) K (padd (smul s (tv xs a)) (smul t (tv xs b))):=by
   rcases Int.lt_or_gt_of_ne hne with q|q
   ·exact ⟨a0,b0,hP.bd _ ma0,hP.bd _ mb0,q,hin0⟩
   ·exact ⟨b0,a0,hP.bd _ mb0,hP.bd _ ma0,q,fun s t K hs ht e=>by rw [mean_comm];exact hin0 t s K ht hs (by omega)⟩
  have hd:=chord_diag hr ha hb (by omega) fun s t K hs ht e=>hP.inn (by omega) (hin s t K hs ht e)
  obtain ⟨i,rfl⟩:=Int.eq_ofNat_of_zero_le ha.1
  obtain ⟨k,rfl⟩:=Int.eq_ofNat_of_zero_le hb.1
  have hm:[(i:Int),(k:Int)]∈diagsM xs:=mem_diags.2 ⟨hr,i,k,rfl,by omega,by omega,hd⟩
  obtain ⟨w,hw,ew⟩:=List.getElem_of_mem hm
  have hmax:=greedy_max xs (diagsM xs) (Nat.le_refl _) w hw
  rw [getD_lt _ hw,ew] at hmax
  rcases hmax with q|⟨e,he,hc⟩
  ·obtain ⟨j,hj,ej⟩:=List.getElem_of_mem q
   have hj:j < (greedyM xs).length:=hj
   have hr':rI (greedyM xs) j=[(i:Int),(k:Int)]:=(getD_lt _ hj).trans ej
   have:=S.off j hj u hu (s:=1) (t:=1) (K:=2) (by decide) (by decide) rfl
   rw [hr'] at this
   exact this (hin 1 1 2 (by decide) (by decide) rfl)
  ·obtain ⟨j,hj,ej⟩:=List.getElem_of_mem he
   have hj:j < (greedyM xs).length:=hj
   have hr':rI (greedyM xs) j=e:=(getD_lt _ hj).trans ej
   obtain ⟨-,-,hde⟩:=greedy_good e he
   obtain ⟨c0,c1,-⟩:=isDiag_bd hde
   have hbd:∀ {k:Int},0≤k∧k < xs.length→Bd (pI xs k):=fun hk=>bd_of_ok (corner_ok hr (by omega))
   have hv:∀ {k:Int},0≤k∧k < xs.length→tv xs k=pI xs k:=fun hk=>room_v hk.1 hk.2
   have hc:crs (pI xs i) (pI xs k) (pI xs (gI e 0)) (pI xs (gI e 1))=true:=hc
   unfold crs at hc
   rw [turn_exact (hbd ha) (hbd hb) (hbd c0),turn_exact (hbd ha) (hbd hb) (hbd c1),turn_exact (hbd c0) (hbd c1) (hbd ha),turn_exact (hbd c0) (hbd c1) (hbd hb),Bool.and_eq_true,decide_eq_true_eq,decide_eq_true_eq,sgn_opp,sgn_opp] at hc
   obtain ⟨s,t,s',t',K,p1,p2,p3,p4,q1,q2,q3⟩:=cross_point hc.2 hc.1
   have o:=S.off j hj u hu p3 p4 q2
   rw [hr',hv c0,hv c1,← q3] at o
   have:=hin s t K p1 p2 q1
   rw [hv ha,hv hb] at this
   exact o this
theorem sum_three:∀ {ps:List (List Int)},(∀ u,u < ps.length→(ps.getD u []).length=3)→(ps.map fun l=>(l.length:Int)).sum=3 * ps.length
 | [],_=>rfl
 | l :: ps,h=>by
  have ih:=sum_three (ps:=ps) fun u hu=>by
   have:=h (u + 1) (by simpa using hu)
   rwa [List.getD_cons_succ] at this
  have h0:=h 0 (by simp)
  rw [List.getD_cons_zero] at h0
  simp only [List.map_cons,List.sum_cons,List.length_cons]
  rw [ih,h0]
  omega
theorem greedy_count {xs:List Pt} (hr:roomOk xs=true):(greedyM xs).length + 3=xs.length:=by
 have S:=rawP_stage (plans_sub hr (List.Sublist.refl _)) (i:=(greedyM xs).length) (Nat.le_refl _)
 have h3:=sum_three fun u hu=>greedy_three hr hu
 have:=S.len
 have:=S.cnt
 omega
theorem plans_greedy {xs:List Pt} (hr:roomOk xs=true) {cuts:List (List Int)} (h:cuts.Sublist (greedyM xs)):plansM xs cuts=true:=by
 have:=greedy_count hr
 have:=room_len hr
 have:=h.length_le
 exact plansM_iff.2 ⟨hr,by omega,(plans_sub hr h).2⟩
end Go.Proofs.YtpafacebfogkmaaGreat.Geo
namespace Go.Proofs.YtpafacebfogkmaaGreat.Nm
abbrev n_cmp_Compare_int:Nat:=62
abbrev n_cmp_isNaN_int:Nat:=95
end Go.Proofs.YtpafacebfogkmaaGreat.Nm
namespace Go.Proofs.YtpafacebfogkmaaGreat
open Go.Shelf Go.RowKit Go.Lib Go.Proofs.YtpafacebfogkmaaGreat.Nm
set_option maxRecDepth 10000
set_option maxHeartbeats 2000000
theorem wrapU {n:Int} (h1:0≤n) (h2:n < 18446744073709551616):IntKind.u64.wrap n=n:=by rw [IntKind.wrap_u64];omega
def idxOf (l:List Int) (v:Int):Int:=match (List.range l.length).find? (fun i=>decide (l.getD i 0=v)) with
 | some i=>i
 | none=>-1
theorem idx_some {l:List Int} {v:Int} {i:Nat} (hi:i < l.length) (h:l.getD i 0=v) (hall:∀ j,j < i→l.getD j 0≠v):idxOf l v=i:=by
 unfold idxOf
 rw [List.find?_range_eq_some.2 ⟨decide_eq_true h,List.mem_range.2 hi,fun j hj=>by rw [decide_eq_false (hall j hj)];rfl⟩]
theorem idx_none {l:List Int} {v:Int} (hall:∀ j,j < l.length→l.getD j 0≠v):idxOf l v=-1:=by
 unfold idxOf
 rw [List.find?_eq_none.2 fun j hj=>by rw [decide_eq_false (hall j (List.mem_range.1 hj))];decide]
def idxC:Con:=mkCon [.sl (.b .int),.int] (fun x=>x.1.length≤1048576) fun x=>vI (idxOf x.1 x.2.1)
theorem slIndex_ok:Good1 Tryz.prog n_slices_Index_int idxC:=by
 refine good_ofG (tys:=tyL) (env:=[]) (envw:=[]) (envd:=[]) [] [] [] [] [] mixed tys trivial trivial trivial Tryz.func59 rfl (by kernel_rfl) (by decide) (by kernel_rfl) ?_
 have hG_:=kpz [(0,[0,1]),(1,[0,1,7,8]),(2,[0,1,7,8,9]),(3,[0,1,5,7,8]),(4,[0,1,5,7,8,16]),(5,[4]),(6,[0,1,7,8]),(7,[4])] [] [] []
 rintro ⟨(l:List Int),(v:Int),⟨⟩⟩ (h1:l.length≤_)
 (repeat' (first|(with_reducible first|exact True.intro|refine zQ ?_|(refine zG hG_ ?_;intro K_ hK_)|(refine zR ?_;intro K_ hK_)|(refine hK_ _ _ ?_;try clear hK_ K_)|refine sq_n ?_|refine sq_r ?_|refine sq_e ?_|refine bq_n ?_|refine bq_r ?_|refine bq_q ?_|refine zB ?_|refine zX ?_|refine zT ?_|refine zK ?_|refine gq_n ?_|refine gq_r ?_|refine gq_e ?_|refine lq_n ?_|refine lq_r ?_|refine lq_e ?_|refine bq_e (by decide) ?_)|((with_reducible refine zC (b:=?b_) ?hb_ ?_ ?_);case hb_=>rfl)|((conv=>whnf);first|(with_reducible refine hK_ _ _ ?_;try clear hK_ K_)|(with_reducible refine fun (g_:Sl) (o_:Ow)=>?_)|(with_reducible first|exact True.intro|refine And.intro trivial ?_|refine And.intro ?_ ?_)|exact Nat.le_of_ble_eq_true rfl|exact Or.inl rfl|(intro h_;cases h_)|(intro h_;(try simp only [vS1] at h_))|rfl))) <;> (try (conv=>whnf)) <;> (try first|change (_:Int)≤_|change (_:Nat)≤_) <;> (try ((fail_if_success (with_reducible apply Exists.intro));(try dsimp only);(try simp only [vS1]))) <;> (try simp (disch:=omega) only [vS3,Int.add_sub_cancel,tn1,tnp,tnc,vS2] at *)
 all_goals (try (fail_if_success (with_reducible apply Exists.intro));first|with_reducible assumption|omega|exact mdl (by omega)|exact ilo1 (by omega)|exact ilo2 (by omega)|exact ihi1 (by omega) (by omega)|exact ihi2 (by omega) (by omega))
 refine awp'_loopG (α:=Nat) (fun k ver_=>[(8,vInt k)]) (fun k ver_=>[]) (fun k ver_=>[]) (fun k=>k≤l.length∧∀ j,j < k→l.getD j 0≠v) (fun k=>l.length - k) [0,1,7] [] (0) ?_
 conv=>whnf
 refine ⟨⟨?inv1_,?vals1_,?own1_,?fix1_⟩,?body1_⟩
 case' vals1_=>(repeat' (first|(with_reducible first|exact True.intro|refine And.intro ?_ ?_|refine Head.mk ?_ ?_ ?_ ?_)|((conv=>lhs;whnf);first|(with_reducible first|rfl|exact vInt_s (by omega))|exact rfl)|((conv=>whnf);first|(with_reducible first|exact True.intro|refine And.intro ?_ ?_)))) <;> (try (conv=>lhs;whnf))
 case' own1_=>(repeat' (first|(with_reducible first|exact True.intro|refine And.intro ?_ ?_|refine Head.mk ?_ ?_ ?_ ?_)|((conv=>lhs;whnf);first|(with_reducible first|rfl|exact vInt_s (by omega))|exact rfl)|((conv=>whnf);first|(with_reducible first|exact True.intro|refine And.intro ?_ ?_)))) <;> (try (conv=>lhs;whnf))
 case' fix1_=>(repeat' (first|(with_reducible first|exact True.intro|refine And.intro ?_ ?_|refine Head.mk ?_ ?_ ?_ ?_)|((conv=>lhs;whnf);first|(with_reducible first|rfl|exact vInt_s (by omega))|exact rfl)|((conv=>whnf);first|(with_reducible first|exact True.intro|refine And.intro ?_ ?_)))) <;> (try (conv=>lhs;whnf))
 ·exact ⟨Nat.zero_le _,fun j hj=>absurd hj (by omega)⟩
 rintro k g_ o_ v_ ⟨hk,hall⟩
 (repeat' (first|(with_reducible first|exact True.intro|refine zQ ?_|(refine zG hG_ ?_;intro K_ hK_)|(refine zR ?_;intro K_ hK_)|(refine hK_ _ _ ?_;try clear hK_ K_)|refine sq_n ?_|refine sq_r ?_|refine sq_e ?_|refine bq_n ?_|refine bq_r ?_|refine bq_q ?_|refine zB ?_|refine zX ?_|refine zT ?_|refine zK ?_|refine gq_n ?_|refine gq_r ?_|refine gq_e ?_|refine lq_n ?_|refine lq_r ?_|refine lq_e ?_|refine bq_e (by decide) ?_)|((with_reducible refine zC (b:=?b_) ?hb_ ?_ ?_);case hb_=>rfl)|((conv=>whnf);first|(with_reducible refine hK_ _ _ ?_;try clear hK_ K_)|(with_reducible refine fun (g_:Sl) (o_:Ow)=>?_)|(with_reducible first|exact True.intro|refine And.intro trivial ?_|refine And.intro ?_ ?_)|exact Nat.le_of_ble_eq_true rfl|exact Or.inl rfl|(intro h_;cases h_)|(intro h_;(try simp only [vS1] at h_))|rfl))) <;> (try (conv=>whnf)) <;> (try first|change (_:Int)≤_|change (_:Nat)≤_) <;> (try ((fail_if_success (with_reducible apply Exists.intro));(try dsimp only);(try simp only [vS1]))) <;> (try simp (disch:=omega) only [vS3,Int.add_sub_cancel,tn1,tnp,tnc,vS2] at *)
 all_goals (try (fail_if_success (with_reducible apply Exists.intro));first|with_reducible assumption|omega|exact mdl (by omega)|exact ilo1 (by omega)|exact ilo2 (by omega)|exact ihi1 (by omega) (by omega)|exact ihi2 (by omega) (by omega))
 all_goals first
  | omega
  | exact (idx_some (by assumption) (Eq.symm (by assumption)) hall).symm
  | exact (idx_some (by assumption) (by assumption) hall).symm
  | exact ⟨k + 1,by omega,⟨by omega,lt_succ_all hall (fun e=>absurd e.symm (by assumption))⟩,by (repeat' (first|(with_reducible first|exact True.intro|refine And.intro ?_ ?_|refine Head.mk ?_ ?_ ?_ ?_)|((conv=>lhs;whnf);first|(with_reducible first|rfl|exact vInt_s (by omega))|exact rfl)|((conv=>whnf);first|(with_reducible first|exact True.intro|refine And.intro ?_ ?_)))) <;> (try (conv=>lhs;whnf))⟩
  | exact ⟨k + 1,by omega,⟨by omega,lt_succ_all hall (by assumption)⟩,by (repeat' (first|(with_reducible first|exact True.intro|refine And.intro ?_ ?_|refine Head.mk ?_ ?_ ?_ ?_)|((conv=>lhs;whnf);first|(with_reducible first|rfl|exact vInt_s (by omega))|exact rfl)|((conv=>whnf);first|(with_reducible first|exact True.intro|refine And.intro ?_ ?_)))) <;> (try (conv=>lhs;whnf))⟩
  | exact (idx_none fun j hj=>hall j (by omega)).symm
  | skip
end Go.Proofs.YtpafacebfogkmaaGreat
namespace Go.Proofs.YtpafacebfogkmaaGreat
open Go.RowKit Go.Proofs.YtpafacebfogkmaaGreat.Nm
set_option maxRecDepth 10000
set_option maxHeartbeats 4000000
def cmpI (x y:Int):Int:=if x < y then -1 else if x > y then 1 else 0
def nanC:Con:=mkCon [.int] (fun _=>True) fun _=>vB false
theorem isNaN_ok:Good1 Tryz.prog n_cmp_isNaN_int nanC:=by
 refine good_ofG (tys:=tyL) (env:=[]) (envw:=[]) (envd:=[]) [] [] [] [] [] mixed tys trivial trivial trivial Tryz.func95 rfl (by kernel_rfl) (by decide) (by kernel_rfl) ?_
 have hG_:=kpz [(0,[0]),(1,[2])] [] [] []
 rintro ⟨(x:Int),⟨⟩⟩ -
 (repeat' (first|(with_reducible first|exact True.intro|refine zQ ?_|(refine zG hG_ ?_;intro K_ hK_)|(refine zR ?_;intro K_ hK_)|(refine hK_ _ _ ?_;try clear hK_ K_)|refine sq_n ?_|refine sq_r ?_|refine sq_e ?_|refine bq_n ?_|refine bq_r ?_|refine bq_q ?_|refine zB ?_|refine zX ?_|refine zT ?_|refine zK ?_|refine gq_n ?_|refine gq_r ?_|refine gq_e ?_|refine lq_n ?_|refine lq_r ?_|refine lq_e ?_|refine bq_e (by decide) ?_)|((with_reducible refine zC (b:=?b_) ?hb_ ?_ ?_);case hb_=>rfl)|((conv=>whnf);first|(with_reducible refine hK_ _ _ ?_;try clear hK_ K_)|(with_reducible refine fun (g_:Sl) (o_:Ow)=>?_)|(with_reducible first|exact True.intro|refine And.intro trivial ?_|refine And.intro ?_ ?_)|exact Nat.le_of_ble_eq_true rfl|exact Or.inl rfl|(intro h_;cases h_)|(intro h_;(try simp only [vS1] at h_))|rfl))) <;> (try (conv=>whnf)) <;> (try first|change (_:Int)≤_|change (_:Nat)≤_) <;> (try ((fail_if_success (with_reducible apply Exists.intro));(try dsimp only);(try simp only [vS1]))) <;> (try simp (disch:=omega) only [vS3,Int.add_sub_cancel,tn1,tnp,tnc,vS2] at *)
 all_goals (try ((fail_if_success (with_reducible apply Exists.intro));first|with_reducible assumption|omega))
def cmpIC:Con:=mkCon [.int,.int] (fun _=>True) fun x=>vI (cmpI x.1 x.2.1)
theorem cmpInt_ok:Good1 Tryz.prog n_cmp_Compare_int cmpIC:=by
 refine good_ofG (tys:=tyL) (env:=[(n_cmp_isNaN_int,nanC)]) (envw:=[]) (envd:=[]) [] [] [] [] [] mixed tys ⟨isNaN_ok,trivial⟩ trivial trivial Tryz.func62 rfl (by kernel_rfl) (by decide) (by kernel_rfl) ?_
 have hG_:=kpz [(0,[0,1]),(1,[0,1,5]),(2,[0,1,5,6]),(3,[0,1,6,11]),(4,[12]),(5,[4]),(6,[4]),(7,[0,1,13]),(8,[4]),(9,[0,1,16]),(10,[4]),(11,[19]),(12,[4]),(13,[4])] [] [] []
 rintro ⟨(x:Int),(y:Int),⟨⟩⟩ -
 (repeat' (first|(with_reducible first|exact True.intro|refine zQ ?_|(refine zG hG_ ?_;intro K_ hK_)|(refine zR ?_;intro K_ hK_)|(refine hK_ _ _ ?_;try clear hK_ K_)|refine sq_n ?_|refine sq_r ?_|refine sq_e ?_|refine bq_n ?_|refine bq_r ?_|refine bq_q ?_|refine zB ?_|refine zX ?_|refine zT ?_|refine zK ?_|refine gq_n ?_|refine gq_r ?_|refine gq_e ?_|refine lq_n ?_|refine lq_r ?_|refine lq_e ?_|refine bq_e (by decide) ?_)|((with_reducible refine zC (b:=?b_) ?hb_ ?_ ?_);case hb_=>rfl)|((conv=>whnf);first|(with_reducible refine hK_ _ _ ?_;try clear hK_ K_)|(with_reducible refine fun (g_:Sl) (o_:Ow)=>?_)|(with_reducible first|exact True.intro|refine And.intro trivial ?_|refine And.intro ?_ ?_)|exact Nat.le_of_ble_eq_true rfl|exact Or.inl rfl|(intro h_;cases h_)|(intro h_;(try simp only [vS1] at h_))|rfl))) <;> (try (conv=>whnf)) <;> (try first|change (_:Int)≤_|change (_:Nat)≤_) <;> (try ((fail_if_success (with_reducible apply Exists.intro));(try dsimp only);(try simp only [vS1]))) <;> (try simp (disch:=omega) only [vS3,Int.add_sub_cancel,tn1,tnp,tnc,vS2] at *)
 all_goals (try ((fail_if_success (with_reducible apply Exists.intro));first|with_reducible assumption|omega))
 ·unfold cmpI;rw [if_pos (by assumption)]
 ·unfold cmpI;rw [if_neg (by assumption),if_pos (by assumption)]
 ·unfold cmpI;rw [if_neg (by assumption),if_neg (by assumption)]
def cmpL:List Int→List Int→Int
 | [],[]=>0
 | [],_ :: _=>-1
 | _ :: _,[]=>1
 | a :: s,b :: t=>if cmpI a b≠0 then cmpI a b else cmpL s t
theorem cmpL_drop {s t:List Int}:∀ {k:Nat},k≤s.length→k≤t.length→(∀ j,j < k→cmpI (s.getD j 0) (t.getD j 0)=0)→cmpL s t=cmpL (s.drop k) (t.drop k)
 | 0,_,_,_=>by simp
 | k + 1,hs,ht,h=>by
  have ih:=cmpL_drop (s:=s) (t:=t) (k:=k) (by omega) (by omega) fun j hj=>h j (by omega)
  have h0:=h k (by omega)
  rw [ih,List.drop_eq_getElem_cons (show k < s.length by omega),List.drop_eq_getElem_cons (show k < t.length by omega)]
  rw [getD_lt _ (show k < s.length by omega),getD_lt _ (show k < t.length by omega)] at h0
  rw [cmpL,h0];simp
theorem cmpL_at {s t:List Int} {k:Nat} (hs:k < s.length) (ht:k < t.length) (h:∀ j,j < k→cmpI (s.getD j 0) (t.getD j 0)=0) (hc:cmpI (s.getD k 0) (t.getD k 0)≠0):cmpL s t=cmpI (s.getD k 0) (t.getD k 0):=by
 rw [cmpL_drop (by omega) (by omega) h,List.drop_eq_getElem_cons hs,List.drop_eq_getElem_cons ht]
 rw [getD_lt _ hs,getD_lt _ ht] at hc ⊢
 rw [cmpL,if_pos hc]
theorem cmpL_long {s t:List Int} (hl:t.length < s.length) (h:∀ j,j < t.length→cmpI (s.getD j 0) (t.getD j 0)=0):cmpL s t=1:=by
 rw [cmpL_drop (k:=t.length) (by omega) (by omega) h,List.drop_eq_getElem_cons hl,List.drop_of_length_le (Nat.le_refl _)]
 rfl
theorem cmpL_short {s t:List Int} (hl:s.length < t.length) (h:∀ j,j < s.length→cmpI (s.getD j 0) (t.getD j 0)=0):cmpL s t=-1:=by
 rw [cmpL_drop (k:=s.length) (by omega) (by omega) h,List.drop_eq_getElem_cons hl,List.drop_of_length_le (Nat.le_refl _)]
 rfl
theorem cmpL_same {s t:List Int} (hl:s.length=t.length) (h:∀ j,j < s.length→cmpI (s.getD j 0) (t.getD j 0)=0):cmpL s t=0:=by
 rw [cmpL_drop (k:=s.length) (by omega) (by omega) h,List.drop_of_length_le (Nat.le_refl _),List.drop_of_length_le (by omega)]
 rfl
def cmpLC:Con:=mkCon [.sl (.b .int),.sl (.b .int)] (fun x=>x.1.length≤1048576∧x.2.1.length≤1048576) fun x=>vI (cmpL x.1 x.2.1)
theorem slCompare_ok:Good1 Tryz.prog n_slices_Compare_int cmpLC:=by
 refine good_ofG (tys:=tyL) (env:=[(n_cmp_Compare_int,cmpIC)]) (envw:=[]) (envd:=[]) [] [] [] [] [] mixed tys ⟨cmpInt_ok,trivial⟩ trivial trivial Tryz.func31 rfl (by kernel_rfl) (by decide) (by kernel_rfl) ?_
 have hG_:=kpz [(0,[0,1]),(1,[0,1,9,10,11]),(2,[0,1,9,10,11,12]),(3,[0,1,5,6,9,10,11]),(4,[0,1,5,6,9,10,11,19]),(5,[4]),(6,[0,1,6,7,9,10,11]),(7,[0,1,8,9,10,11]),(8,[0,1,8,9,10,11,28]),(9,[4]),(10,[0,1,9,10,11]),(11,[35]),(12,[4]),(13,[4])] [] [] []
 rintro ⟨(s:List Int),(t:List Int),⟨⟩⟩ ⟨(h1:s.length≤_),(h2:t.length≤_)⟩
 (repeat' (first|(with_reducible first|exact True.intro|refine zQ ?_|(refine zG hG_ ?_;intro K_ hK_)|(refine zR ?_;intro K_ hK_)|(refine hK_ _ _ ?_;try clear hK_ K_)|refine sq_n ?_|refine sq_r ?_|refine sq_e ?_|refine bq_n ?_|refine bq_r ?_|refine bq_q ?_|refine zB ?_|refine zX ?_|refine zT ?_|refine zK ?_|refine gq_n ?_|refine gq_r ?_|refine gq_e ?_|refine lq_n ?_|refine lq_r ?_|refine lq_e ?_|refine bq_e (by decide) ?_)|((with_reducible refine zC (b:=?b_) ?hb_ ?_ ?_);case hb_=>rfl)|((conv=>whnf);first|(with_reducible refine hK_ _ _ ?_;try clear hK_ K_)|(with_reducible refine fun (g_:Sl) (o_:Ow)=>?_)|(with_reducible first|exact True.intro|refine And.intro trivial ?_|refine And.intro ?_ ?_)|exact Nat.le_of_ble_eq_true rfl|exact Or.inl rfl|(intro h_;cases h_)|(intro h_;(try simp only [vS1] at h_))|rfl))) <;> (try (conv=>whnf)) <;> (try first|change (_:Int)≤_|change (_:Nat)≤_) <;> (try ((fail_if_success (with_reducible apply Exists.intro));(try dsimp only);(try simp only [vS1]))) <;> (try simp (disch:=omega) only [vS3,Int.add_sub_cancel,tn1,tnp,tnc,vS2] at *)
 all_goals (try ((fail_if_success (with_reducible apply Exists.intro));first|with_reducible assumption|omega))
 refine awp'_loopG (α:=Nat) (fun k ver_=>[(11,vInt k)]) (fun k ver_=>[]) (fun k ver_=>[]) (fun k=>(k≤s.length∧k≤t.length)∧∀ j,j < k→cmpI (s.getD j 0) (t.getD j 0)=0) (fun k=>s.length - k) [0,1,9,10] [] (0) ?_
 conv=>whnf
 refine ⟨⟨?inv1_,?vals1_,?own1_,?fix1_⟩,?body1_⟩
 case' vals1_=>(repeat' (first|(with_reducible first|exact True.intro|refine And.intro ?_ ?_|refine Head.mk ?_ ?_ ?_ ?_)|((conv=>lhs;whnf);first|(with_reducible first|rfl|exact vInt_s (by omega))|exact rfl)|((conv=>whnf);first|(with_reducible first|exact True.intro|refine And.intro ?_ ?_)))) <;> (try (conv=>lhs;whnf))
 case' own1_=>(repeat' (first|(with_reducible first|exact True.intro|refine And.intro ?_ ?_|refine Head.mk ?_ ?_ ?_ ?_)|((conv=>lhs;whnf);first|(with_reducible first|rfl|exact vInt_s (by omega))|exact rfl)|((conv=>whnf);first|(with_reducible first|exact True.intro|refine And.intro ?_ ?_)))) <;> (try (conv=>lhs;whnf))
 case' fix1_=>(repeat' (first|(with_reducible first|exact True.intro|refine And.intro ?_ ?_|refine Head.mk ?_ ?_ ?_ ?_)|((conv=>lhs;whnf);first|(with_reducible first|rfl|exact vInt_s (by omega))|exact rfl)|((conv=>whnf);first|(with_reducible first|exact True.intro|refine And.intro ?_ ?_)))) <;> (try (conv=>lhs;whnf))
 ·exact ⟨⟨Nat.zero_le _,Nat.zero_le _⟩,fun j hj=>absurd hj (by omega)⟩
 rintro k g_ o_ v_ ⟨⟨hk,hk2⟩,hall⟩
 (repeat' (first|(with_reducible first|exact True.intro|refine zQ ?_|(refine zG hG_ ?_;intro K_ hK_)|(refine zR ?_;intro K_ hK_)|(refine hK_ _ _ ?_;try clear hK_ K_)|refine sq_n ?_|refine sq_r ?_|refine sq_e ?_|refine bq_n ?_|refine bq_r ?_|refine bq_q ?_|refine zB ?_|refine zX ?_|refine zT ?_|refine zK ?_|refine gq_n ?_|refine gq_r ?_|refine gq_e ?_|refine lq_n ?_|refine lq_r ?_|refine lq_e ?_|refine bq_e (by decide) ?_)|((with_reducible refine zC (b:=?b_) ?hb_ ?_ ?_);case hb_=>rfl)|((conv=>whnf);first|(with_reducible refine hK_ _ _ ?_;try clear hK_ K_)|(with_reducible refine fun (g_:Sl) (o_:Ow)=>?_)|(with_reducible first|exact True.intro|refine And.intro trivial ?_|refine And.intro ?_ ?_)|exact Nat.le_of_ble_eq_true rfl|exact Or.inl rfl|(intro h_;cases h_)|(intro h_;(try simp only [vS1] at h_))|rfl))) <;> (try (conv=>whnf)) <;> (try first|change (_:Int)≤_|change (_:Nat)≤_) <;> (try ((fail_if_success (with_reducible apply Exists.intro));(try dsimp only);(try simp only [vS1]))) <;> (try simp (disch:=omega) only [vS3,Int.add_sub_cancel,tn1,tnp,tnc,vS2] at *)
 all_goals (try ((fail_if_success (with_reducible apply Exists.intro));first|with_reducible assumption|omega))
 ·exact (cmpL_long (by omega) fun j hj=>hall j (by omega)).symm
 ·exact (cmpL_at (by omega) (by omega) hall (by assumption)).symm
 ·refine ⟨k + 1,by omega,⟨⟨by omega,by omega⟩,fun j hj=>?_⟩,by (repeat' (first|(with_reducible first|exact True.intro|refine And.intro ?_ ?_|refine Head.mk ?_ ?_ ?_ ?_)|((conv=>lhs;whnf);first|(with_reducible first|rfl|exact vInt_s (by omega))|exact rfl)|((conv=>whnf);first|(with_reducible first|exact True.intro|refine And.intro ?_ ?_)))) <;> (try (conv=>lhs;whnf))⟩
  rcases (show j < k∨j=k by omega) with g|g
  ·exact hall j g
  ·subst g;assumption
 ·exact (cmpL_short (by omega) fun j hj=>hall j (by omega)).symm
 ·exact (cmpL_same (by omega) fun j hj=>hall j (by omega)).symm
theorem idx_has (l:List Int) (v:Int):decide (idxOf l v ≥ 0)=hasM l v:=by
 rw [Bool.eq_iff_iff,decide_eq_true_eq,hasM_iff]
 constructor
 ·intro h
  by_cases hm:v∈l
  ·exact hm
  ·rw [idx_none fun j hj e=>hm (by rw [← e,getD_lt _ hj];exact List.getElem_mem hj)] at h
   omega
 ·intro h
  unfold idxOf
  split
  ·omega
  ·rename_i hf
   obtain ⟨j,hj,e⟩:=List.getElem_of_mem h
   have:=List.find?_eq_none.1 hf j (List.mem_range.2 hj)
   rw [getD_lt _ hj,e] at this
   simp at this
def containsC:Con:=mkCon [.sl (.b .int),.int] (fun x=>x.1.length≤1048576) fun x=>vB (hasM x.1 x.2.1)
theorem slContains_ok:Good1 Tryz.prog n_slices_Contains_int containsC:=by
 refine good_ofG (tys:=tyL) (env:=[(n_slices_Index_int,idxC)]) (envw:=[]) (envd:=[]) [] [] [] [] [] mixed tys ⟨slIndex_ok,trivial⟩ trivial trivial Tryz.func27 rfl (by kernel_rfl) (by decide) (by kernel_rfl) ?_
 have hG_:=kpz [(0,[0,1]),(1,[4])] [] [] []
 rintro ⟨(l:List Int),(v:Int),⟨⟩⟩ (h1:l.length≤_)
 (repeat' (first|(with_reducible first|exact True.intro|refine zQ ?_|(refine zG hG_ ?_;intro K_ hK_)|(refine zR ?_;intro K_ hK_)|(refine hK_ _ _ ?_;try clear hK_ K_)|refine sq_n ?_|refine sq_r ?_|refine sq_e ?_|refine bq_n ?_|refine bq_r ?_|refine bq_q ?_|refine zB ?_|refine zX ?_|refine zT ?_|refine zK ?_|refine gq_n ?_|refine gq_r ?_|refine gq_e ?_|refine lq_n ?_|refine lq_r ?_|refine lq_e ?_|refine bq_e (by decide) ?_)|((with_reducible refine zC (b:=?b_) ?hb_ ?_ ?_);case hb_=>rfl)|((conv=>whnf);first|(with_reducible refine hK_ _ _ ?_;try clear hK_ K_)|(with_reducible refine fun (g_:Sl) (o_:Ow)=>?_)|(with_reducible first|exact True.intro|refine And.intro trivial ?_|refine And.intro ?_ ?_)|exact Nat.le_of_ble_eq_true rfl|exact Or.inl rfl|(intro h_;cases h_)|(intro h_;(try simp only [vS1] at h_))|rfl))) <;> (try (conv=>whnf)) <;> (try first|change (_:Int)≤_|change (_:Nat)≤_) <;> (try ((fail_if_success (with_reducible apply Exists.intro));(try dsimp only);(try simp only [vS1]))) <;> (try simp (disch:=omega) only [vS3,Int.add_sub_cancel,tn1,tnp,tnc,vS2] at *)
 all_goals (try ((fail_if_success (with_reducible apply Exists.intro));first|with_reducible assumption|omega))
 exact idx_has l v
def hasBC:Con:=mkCon [.sl (.b .int),.rsl (.b .int)] (fun x=>x.1.length≤1048576∧x.2.1.length=2) fun x=>vB (hasB x.2.1 x.1)
theorem hasB_ok:Good1 Tryz.prog n_impl_PartsOf_1 hasBC:=by
 refine good_ofG (tys:=tyL) (env:=[(n_slices_Contains_int,containsC)]) (envw:=[]) (envd:=[]) [] [] [] [] [] mixed tys ⟨slContains_ok,trivial⟩ trivial trivial Tryz.func26 rfl (by kernel_rfl) (by decide) (by kernel_rfl) ?_
 have hG_:=kpz [(0,[0,1]),(1,[3])] [] [] []
 rintro ⟨(l:List Int),(c:List Int),⟨⟩⟩ ⟨(h1:l.length≤_),(h2:c.length=2)⟩
 (repeat' (first|(with_reducible first|exact True.intro|refine zQ ?_|(refine zG hG_ ?_;intro K_ hK_)|(refine zR ?_;intro K_ hK_)|(refine hK_ _ _ ?_;try clear hK_ K_)|refine sq_n ?_|refine sq_r ?_|refine sq_e ?_|refine bq_n ?_|refine bq_r ?_|refine bq_q ?_|refine zB ?_|refine zX ?_|refine zT ?_|refine zK ?_|refine gq_n ?_|refine gq_r ?_|refine gq_e ?_|refine lq_n ?_|refine lq_r ?_|refine lq_e ?_|refine bq_e (by decide) ?_)|((with_reducible refine zC (b:=?b_) ?hb_ ?_ ?_);case hb_=>rfl)|((conv=>whnf);first|(with_reducible refine hK_ _ _ ?_;try clear hK_ K_)|(with_reducible refine fun (g_:Sl) (o_:Ow)=>?_)|(with_reducible first|exact True.intro|refine And.intro trivial ?_|refine And.intro ?_ ?_)|exact Nat.le_of_ble_eq_true rfl|exact Or.inl rfl|(intro h_;cases h_)|(intro h_;(try simp only [vS1] at h_))|rfl))) <;> (try (conv=>whnf)) <;> (try first|change (_:Int)≤_|change (_:Nat)≤_) <;> (try ((fail_if_success (with_reducible apply Exists.intro));(try dsimp only);(try simp only [vS1]))) <;> (try simp (disch:=omega) only [vS3,Int.add_sub_cancel,tn1,tnp,tnc,vS2] at *)
 all_goals (try ((fail_if_success (with_reducible apply Exists.intro));first|with_reducible assumption|omega))
 ·unfold hasB
  rw [show hasM l (gI c 0)=true from h_];rfl
 ·unfold hasB
  rw [show hasM l (gI c 0)=false from h_];rfl
def atI (ps:List (List Int)) (c:List Int):Int:=match atP ps c with
 | some u=>(u:Int)
 | none=>-1
def cloL (f:FuncId × List D):List Int:=match f.2 with
 | [.ptr [.sl _ (.b .int) c]]=>c
 | _=>[]
def AtOk (f:FuncId × List D):Prop:=∃ c:List Int,f=(n_impl_PartsOf_1,[.ptr [.sl none (.b .int) c]])∧c.length=2
def idxFC:Con:=mkCon [.sl (.s .int),.clo] (fun x=>(x.1.length≤1048576∧∀ y∈(x.1:List (List Int)),List.length y≤1048576)∧AtOk x.2.1) fun x=>vI (atI x.1 (cloL x.2.1))
theorem atI_some {ps:List (List Int)} {c:List Int} {u:Nat} (hu:u < ps.length) (h:hasB c (ps.getD u [])=true) (hall:∀ j,j < u→hasB c (ps.getD j [])=false):atI ps c=u:=by
 unfold atI atP
 rw [find_some hu hall h]
theorem atI_none {ps:List (List Int)} {c:List Int} (hall:∀ j,j < ps.length→hasB c (ps.getD j [])=false):atI ps c=-1:=by
 unfold atI atP
 rw [find_none hall]
theorem idxF_ok:Good1 Tryz.prog n_slices_IndexFunc___int idxFC:=by
 refine good_ofG (tys:=tyL) (env:=[(n_impl_PartsOf_1,hasBC)]) (envw:=[]) (envd:=[]) [] [] [] [] [] mixed tys ⟨hasB_ok,trivial⟩ trivial trivial Tryz.func25 rfl (by kernel_rfl) (by decide) (by kernel_rfl) ?_
 have hG_:=kpz [(0,[0,1]),(1,[0,1,7,8]),(2,[0,1,7,8,9]),(3,[0,1,5,7,8]),(4,[0,1,5,7,8,16]),(5,[4]),(6,[0,1,7,8]),(7,[4])] [] [] []
 rintro ⟨(ps:List (List Int)),(f:FuncId × List D),⟨⟩⟩ ⟨⟨(h1:ps.length≤_),(h2:∀ y∈ps,y.length≤_)⟩,⟨c,rfl,hc⟩⟩
 have hlen:∀ k,k < ps.length→(ps.getD k (ElK.s ElB.int).dflt).length≤1048576:=fun k hk=>by
  rw [getD_lt _ hk];exact h2 _ (List.getElem_mem hk)
 (repeat' (first|(with_reducible first|exact True.intro|refine zQ ?_|(refine zG hG_ ?_;intro K_ hK_)|(refine zR ?_;intro K_ hK_)|(refine hK_ _ _ ?_;try clear hK_ K_)|refine sq_n ?_|refine sq_r ?_|refine sq_e ?_|refine bq_n ?_|refine bq_r ?_|refine bq_q ?_|refine zB ?_|refine zX ?_|refine zT ?_|refine zK ?_|refine gq_n ?_|refine gq_r ?_|refine gq_e ?_|refine lq_n ?_|refine lq_r ?_|refine lq_e ?_|refine bq_e (by decide) ?_)|((with_reducible refine zC (b:=?b_) ?hb_ ?_ ?_);case hb_=>rfl)|((conv=>whnf);first|(with_reducible refine hK_ _ _ ?_;try clear hK_ K_)|(with_reducible refine fun (g_:Sl) (o_:Ow)=>?_)|(with_reducible first|exact True.intro|refine And.intro trivial ?_|refine And.intro ?_ ?_)|exact Nat.le_of_ble_eq_true rfl|exact Or.inl rfl|(intro h_;cases h_)|(intro h_;(try simp only [vS1] at h_))|rfl))) <;> (try (conv=>whnf)) <;> (try first|change (_:Int)≤_|change (_:Nat)≤_) <;> (try ((fail_if_success (with_reducible apply Exists.intro));(try dsimp only);(try simp only [vS1]))) <;> (try simp (disch:=omega) only [vS3,Int.add_sub_cancel,tn1,tnp,tnc,vS2] at *)
 all_goals (try ((fail_if_success (with_reducible apply Exists.intro));first|with_reducible assumption|omega))
 refine awp'_loopG (α:=Nat) (fun k ver_=>[(8,vInt k)]) (fun k ver_=>[]) (fun k ver_=>[]) (fun k=>k≤ps.length∧∀ j,j < k→hasB c (ps.getD j [])=false) (fun k=>ps.length - k) [0,1,7] [] (0) ?_
 conv=>whnf
 refine ⟨⟨?inv2_,?vals2_,?own2_,?fix2_⟩,?body2_⟩
 case' vals2_=>(repeat' (first|(with_reducible first|exact True.intro|refine And.intro ?_ ?_|refine Head.mk ?_ ?_ ?_ ?_)|((conv=>lhs;whnf);first|(with_reducible first|rfl|exact vInt_s (by omega))|exact rfl)|((conv=>whnf);first|(with_reducible first|exact True.intro|refine And.intro ?_ ?_)))) <;> (try (conv=>lhs;whnf))
 case' own2_=>(repeat' (first|(with_reducible first|exact True.intro|refine And.intro ?_ ?_|refine Head.mk ?_ ?_ ?_ ?_)|((conv=>lhs;whnf);first|(with_reducible first|rfl|exact vInt_s (by omega))|exact rfl)|((conv=>whnf);first|(with_reducible first|exact True.intro|refine And.intro ?_ ?_)))) <;> (try (conv=>lhs;whnf))
 case' fix2_=>(repeat' (first|(with_reducible first|exact True.intro|refine And.intro ?_ ?_|refine Head.mk ?_ ?_ ?_ ?_)|((conv=>lhs;whnf);first|(with_reducible first|rfl|exact vInt_s (by omega))|exact rfl)|((conv=>whnf);first|(with_reducible first|exact True.intro|refine And.intro ?_ ?_)))) <;> (try (conv=>lhs;whnf))
 ·exact ⟨Nat.zero_le _,fun j hj=>absurd hj (by omega)⟩
 rintro k g_ o_ v_ ⟨hk,hall⟩
 (repeat' (first|(with_reducible first|exact True.intro|refine zQ ?_|(refine zG hG_ ?_;intro K_ hK_)|(refine zR ?_;intro K_ hK_)|(refine hK_ _ _ ?_;try clear hK_ K_)|refine sq_n ?_|refine sq_r ?_|refine sq_e ?_|refine bq_n ?_|refine bq_r ?_|refine bq_q ?_|refine zB ?_|refine zX ?_|refine zT ?_|refine zK ?_|refine gq_n ?_|refine gq_r ?_|refine gq_e ?_|refine lq_n ?_|refine lq_r ?_|refine lq_e ?_|refine bq_e (by decide) ?_)|((with_reducible refine zC (b:=?b_) ?hb_ ?_ ?_);case hb_=>rfl)|((conv=>whnf);first|(with_reducible refine hK_ _ _ ?_;try clear hK_ K_)|(with_reducible refine fun (g_:Sl) (o_:Ow)=>?_)|(with_reducible first|exact True.intro|refine And.intro trivial ?_|refine And.intro ?_ ?_)|exact Nat.le_of_ble_eq_true rfl|exact Or.inl rfl|(intro h_;cases h_)|(intro h_;(try simp only [vS1] at h_))|rfl))) <;> (try (conv=>whnf)) <;> (try first|change (_:Int)≤_|change (_:Nat)≤_) <;> (try ((fail_if_success (with_reducible apply Exists.intro));(try dsimp only);(try simp only [vS1]))) <;> (try simp (disch:=omega) only [vS3,Int.add_sub_cancel,tn1,tnp,tnc,vS2] at *)
 all_goals (try ((fail_if_success (with_reducible apply Exists.intro));first|with_reducible assumption|omega))
 ·exact hlen k (by assumption)
 ·exact (atI_some (by omega) (by assumption) hall).symm
 ·refine ⟨k + 1,by omega,⟨by omega,fun j hj=>?_⟩,by (repeat' (first|(with_reducible first|exact True.intro|refine And.intro ?_ ?_|refine Head.mk ?_ ?_ ?_ ?_)|((conv=>lhs;whnf);first|(with_reducible first|rfl|exact vInt_s (by omega))|exact rfl)|((conv=>whnf);first|(with_reducible first|exact True.intro|refine And.intro ?_ ?_)))) <;> (try (conv=>lhs;whnf))⟩
  rcases (show j < k∨j=k by omega) with g|g
  ·exact hall j g
  ·subst g;assumption
 ·exact (atI_none fun j hj=>hall j (by omega)).symm
theorem partsCmp_ok:Good1 Tryz.prog n_impl_PartsOf_2 cmpLC:=by
 refine good_ofG (tys:=tyL) (env:=[(n_slices_Compare_int,cmpLC)]) (envw:=[]) (envd:=[]) [] [] [] [] [] mixed tys ⟨slCompare_ok,trivial⟩ trivial trivial Tryz.func30 rfl (by kernel_rfl) (by decide) (by kernel_rfl) ?_
 have hG_:=kpz [(0,[0,1]),(1,[4])] [] [] []
 rintro ⟨(s:List Int),(t:List Int),⟨⟩⟩ ⟨(h1:s.length≤_),(h2:t.length≤_)⟩
 (repeat' (first|(with_reducible first|exact True.intro|refine zQ ?_|(refine zG hG_ ?_;intro K_ hK_)|(refine zR ?_;intro K_ hK_)|(refine hK_ _ _ ?_;try clear hK_ K_)|refine sq_n ?_|refine sq_r ?_|refine sq_e ?_|refine bq_n ?_|refine bq_r ?_|refine bq_q ?_|refine zB ?_|refine zX ?_|refine zT ?_|refine zK ?_|refine gq_n ?_|refine gq_r ?_|refine gq_e ?_|refine lq_n ?_|refine lq_r ?_|refine lq_e ?_|refine bq_e (by decide) ?_)|((with_reducible refine zC (b:=?b_) ?hb_ ?_ ?_);case hb_=>rfl)|((conv=>whnf);first|(with_reducible refine hK_ _ _ ?_;try clear hK_ K_)|(with_reducible refine fun (g_:Sl) (o_:Ow)=>?_)|(with_reducible first|exact True.intro|refine And.intro trivial ?_|refine And.intro ?_ ?_)|exact Nat.le_of_ble_eq_true rfl|exact Or.inl rfl|(intro h_;cases h_)|(intro h_;(try simp only [vS1] at h_))|rfl))) <;> (try (conv=>whnf)) <;> (try first|change (_:Int)≤_|change (_:Nat)≤_) <;> (try ((fail_if_success (with_reducible apply Exists.intro));(try dsimp only);(try simp only [vS1]))) <;> (try simp (disch:=omega) only [vS3,Int.add_sub_cancel,tn1,tnp,tnc,vS2] at *)
 all_goals (try ((fail_if_success (with_reducible apply Exists.intro));first|with_reducible assumption|omega))
end Go.Proofs.YtpafacebfogkmaaGreat
namespace Go.Proofs.YtpafacebfogkmaaGreat
open Go.Shelf Go.RowKit Go.Lib Go.Sort Go.Proofs.YtpafacebfogkmaaGreat.Nm
set_option maxRecDepth 10000
def bLen (n:Int):Int:=((Go.Lib.bitLen n.toNat:Nat):Int)
theorem len_no:sort_ren.f 15=n_math_bits_Len:=by kernel_rfl
theorem bLen_ok {n:Int} (h:0≤n∧n≤1048576) (W:World):Calls Tryz.prog n_math_bits_Len #[.int .u64 n] W fun e w'=>e=.returned (.int .i64 (bLen n))∧w'=W:=by
 have:Calls Tryz.prog (sort_ren.f 15) #[.int .u64 n] W fun e w'=>e=.returned (.int .i64 (bLen n))∧w'=W:=Any.bits_Len (SlLaysF0.n15.bits (P:=Tryz.prog) (ρ:=sort_ren) { sort_lay with }) n W (by omega) (by omega)
 rw [len_no] at this
 exact this
def bLenC:Con:=⟨Int,fun|[.one (.d (.int .u64 a))]=>some a|_=>none,fun x=>0≤x∧x≤1048576,fun x=>.val (.one (.d (.int .i64 (bLen x)))),none⟩
theorem bLen_snd:Sound Tryz.prog n_math_bits_Len bLenC:=by
 intro w F args vs x hp hpre hF hlen hargs
 have hp2:∃ a',args=[.one (.d (.int .u64 a'))]∧some a'=some x:=by
  have hp:bLenC.pat args=some x:=hp
  unfold bLenC at hp
  simp only at hp
  split at hp
  ·exact ⟨_,rfl,hp⟩
  ·cases hp
 clear hp
 obtain ⟨a',rfl,hp⟩:=hp2
 obtain rfl:=Option.some.inj hp
 match vs,hlen with
 | [v0],_=>
  have h0:v0=.int .u64 a':=intD (hargs 0 _ v0 rfl rfl)
  subst h0
  have hpre:0≤a'∧a'≤1048576:=hpre
  refine (bLen_ok hpre w).mono ?_
  rintro e w' ⟨rfl,rfl⟩
  refine ⟨_,rfl,Below.refl _ _,?_⟩
  exact (show RetC _ _ F (bLenC.res a') _ from DC.int _ _)
theorem bLenG_ok:Good1 Tryz.prog n_math_bits_Len bLenC:=by
 exact ⟨bLen_snd,_,Tryz.func61,by decide,rfl⟩
end Go.Proofs.YtpafacebfogkmaaGreat
namespace Go.Proofs.YtpafacebfogkmaaGreat
open Go.RowKit Go.Proofs.YtpafacebfogkmaaGreat.Nm
set_option maxRecDepth 10000
set_option maxHeartbeats 4000000
def swp (xs:List (List Int)) (j:Nat):List (List Int):=(xs.set j (xs.getD (j - 1) [])).set (j - 1) (xs.getD j [])
def bubF:Nat→List (List Int)→List (List Int)
 | 0,xs=>xs
 | j + 1,xs=>if cmpL (xs.getD (j + 1) []) (xs.getD j []) < 0 then bubF j (swp xs (j + 1)) else xs
def insF (xs:List (List Int)):Nat→List (List Int)
 | 0=>xs
 | i + 1=>bubF i (insF xs i)
def sortF (xs:List (List Int)):List (List Int):=insF xs xs.length
theorem swp_len (xs:List (List Int)) (j:Nat):(swp xs j).length=xs.length:=by unfold swp;simp
theorem bubF_len:∀ (j:Nat) (xs:List (List Int)),(bubF j xs).length=xs.length
 | 0,_=>rfl
 | j + 1,xs=>by
  unfold bubF
  split
  ·rw [bubF_len j,swp_len]
  ·rfl
theorem insF_len (xs:List (List Int)):∀ i,(insF xs i).length=xs.length
 | 0=>rfl
 | i + 1=>by
  unfold insF
  rw [bubF_len,insF_len xs i]
theorem swp_perm {xs:List (List Int)} {j:Nat} (h:j + 1 < xs.length):(swp xs (j + 1)).Perm xs:=by
 have e:xs=xs.take j ++ (xs[j] :: xs[j + 1] :: xs.drop (j + 2)):=by
  rw [← List.drop_eq_getElem_cons (show j + 1 < xs.length by omega),← List.drop_eq_getElem_cons (show j < xs.length by omega),List.take_append_drop]
 have e2:swp xs (j + 1)=xs.take j ++ (xs[j + 1] :: xs[j] :: xs.drop (j + 2)):=by
  unfold swp
  rw [Nat.add_sub_cancel,getD_lt _ (show j < xs.length by omega),getD_lt _ h]
  refine List.ext_getElem (by simp;omega) fun i h1 h2=>?_
  rw [List.getElem_set,List.getElem_set,List.getElem_append]
  simp only [List.length_take]
  by_cases g0:j=i
  ·subst g0
   rw [if_pos rfl,dif_neg (by omega)]
   simp [Nat.min_eq_left (show j≤xs.length by omega)]
  ·rw [if_neg g0]
   by_cases g1:j + 1=i
   ·subst g1
    rw [if_pos rfl,dif_neg (by omega)]
    simp [Nat.min_eq_left (show j≤xs.length by omega)]
   ·rw [if_neg g1]
    by_cases g2:i < j
    ·rw [dif_pos (by omega),List.getElem_take]
    ·rw [dif_neg (by omega)]
     have:i - min j xs.length=(i - j - 2) + 2:=by omega
     simp only [this,List.getElem_cons_succ,List.getElem_drop]
     congr 1;omega
 rw [e2]
 conv=>rhs;rw [e]
 exact List.Perm.append_left _ (List.Perm.swap _ _ _)
theorem bubF_perm:∀ (j:Nat) {xs:List (List Int)},j < xs.length→(bubF j xs).Perm xs
 | 0,xs,_=>List.Perm.refl _
 | j + 1,xs,h=>by
  unfold bubF
  split
  ·exact (bubF_perm j (xs:=swp xs (j + 1)) (by rw [swp_len];omega)).trans (swp_perm h)
  ·exact List.Perm.refl _
theorem insF_perm (xs:List (List Int)):∀ {i:Nat},i≤xs.length→(insF xs i).Perm xs
 | 0,_=>List.Perm.refl _
 | i + 1,h=>by
  have ih:=insF_perm xs (i:=i) (by omega)
  unfold insF
  exact (bubF_perm i (by rw [insF_len];omega)).trans ih
theorem sortF_perm (xs:List (List Int)):(sortF xs).Perm xs:=insF_perm xs (Nat.le_refl _)
def swpK (xs:List (List Int)) (i:Nat):Nat→List (List Int)
 | 0=>xs
 | k + 1=>swp (swpK xs i k) (i - k)
theorem swpK_len (xs:List (List Int)) (i:Nat):∀ k,(swpK xs i k).length=xs.length
 | 0=>rfl
 | k + 1=>by
  show (swp (swpK xs i k) (i - k)).length=_
  rw [swp_len,swpK_len xs i k]
theorem swpK_perm {xs:List (List Int)} {i:Nat} (hi:i < xs.length):∀ {k:Nat},k≤i→(swpK xs i k).Perm xs
 | 0,_=>List.Perm.refl _
 | k + 1,h=>by
  have:=swp_perm (xs:=swpK xs i k) (j:=i - k - 1) (by rw [swpK_len];omega)
  rw [show i - k - 1 + 1=i - k by omega] at this
  exact this.trans (swpK_perm hi (by omega))
theorem bub_yes {xs:List (List Int)} {j:Nat} (h:cmpL (xs.getD (j + 1) []) (xs.getD j []) < 0):bubF (j + 1) xs=bubF j (swp xs (j + 1)):=by rw [bubF,if_pos h]
theorem bub_no {xs:List (List Int)} {j:Nat} (h:¬ cmpL (xs.getD (j + 1) []) (xs.getD j []) < 0):bubF (j + 1) xs=xs:=by rw [bubF,if_neg h]
structure LenB (xs:List (List Int)):Prop where
 all:∀ y∈xs,List.length y≤1048576
theorem LenB.perm {xs ys:List (List Int)} (h:LenB xs) (p:ys.Perm xs):LenB ys:=⟨fun y hy=>h.all y (p.mem_iff.1 hy)⟩
theorem LenB.at {xs:List (List Int)} (h:LenB xs) (k:Nat):(xs.getD k (ElK.s ElB.int).dflt).length≤1048576:=by
 rcases Nat.lt_or_ge k xs.length with g|g
 ·rw [getD_lt _ g];exact h.all _ (List.getElem_mem g)
 ·rw [List.getD_eq_getElem?_getD,List.getElem?_eq_none g];exact Nat.zero_le _
def insC:ConW:=mkConW [.sl (.s .int),.int,.int,.clo] 0 t_sl_int (fun x=>(x.1.length≤12∧LenB x.1)∧x.2.1=0∧x.2.2.1=x.1.length∧x.2.2.2.1=(n_impl_PartsOf_2,[])) (fun _=>.tup []) fun x=>⟨.s .int,sortF x.1,false⟩
theorem insertion_ok:GoodW Tryz.prog n_slices_insertionSortCmpFunc___int insC:=by
 refine good_ofW (tys:=tyL) (env:=[(n_impl_PartsOf_2,cmpLC)]) (envw:=[]) (envd:=[]) [] [] [] [] [] mixed tys ⟨partsCmp_ok,trivial⟩ trivial trivial Tryz.func85 rfl (by kernel_rfl) (by decide) (by kernel_rfl) ?_
 have hG_:=kpz [(0,[0,1,2,3,8]),(1,[0,1,2,3,8,14]),(2,[0,1,2,3,8]),(3,[0,1,2,3,8,9]),(4,[0,1,2,3,8,9,34]),(5,[0,1,2,3,8,9]),(6,[0,1,2,3,8,9])] [(0,[1000]),(1,[1000]),(2,[1000]),(3,[1000]),(4,[1000]),(5,[1000]),(6,[1000])] [] []
 rintro ⟨(xs:List (List Int)),(a:Int),(b:Int),(f:FuncId × List D),⟨⟩⟩ ⟨⟨(h1:xs.length≤_),(h2:LenB xs)⟩,(ha:a=0),(hb:b=(xs.length:Int)),(hf:f=(n_impl_PartsOf_2,[]))⟩
 subst ha
 subst hb
 subst hf
 (repeat' (first|(with_reducible first|exact True.intro|refine zQ ?_|(refine zG hG_ ?_;intro K_ hK_)|(refine zR ?_;intro K_ hK_)|(refine hK_ _ _ ?_;try clear hK_ K_)|refine sq_n ?_|refine sq_r ?_|refine sq_e ?_|refine bq_n ?_|refine bq_r ?_|refine bq_q ?_|refine zB ?_|refine zX ?_|refine zT ?_|refine zK ?_|refine gq_n ?_|refine gq_r ?_|refine gq_e ?_|refine lq_n ?_|refine lq_r ?_|refine lq_e ?_|refine bq_e (by decide) ?_)|((with_reducible refine zC (b:=?b_) ?hb_ ?_ ?_);case hb_=>rfl)|((conv=>whnf);first|(with_reducible refine hK_ _ _ ?_;try clear hK_ K_)|(with_reducible refine fun (g_:Sl) (o_:Ow)=>?_)|(with_reducible first|exact True.intro|refine And.intro trivial ?_|refine And.intro ?_ ?_)|exact Nat.le_of_ble_eq_true rfl|exact Or.inl rfl|(intro h_;cases h_)|(intro h_;(try simp only [vS1] at h_))|rfl))) <;> (try (conv=>whnf)) <;> (try first|change (_:Int)≤_|change (_:Nat)≤_) <;> (try ((fail_if_success (with_reducible apply Exists.intro));(try dsimp only);(try simp only [vS1]))) <;> (try simp (disch:=omega) only [vS3,Int.add_sub_cancel,tn1,tnp,tnc,vS2] at *)
 all_goals (try ((fail_if_success (with_reducible apply Exists.intro));first|with_reducible assumption|omega))
 refine awp'_loopG (α:=Nat) (fun i ver_=>[(8,vInt ((i:Int) + 1))]) (fun i ver_=>[]) (fun i ver_=>[(1000,⟨0,.row t_sl_int (.s .int) (insF xs (i + 1))⟩)]) (fun i=>i + 1≤xs.length∨(i=0∧xs.length=0)) (fun i=>xs.length - i) [0,1,2,3] [] (0) ?_
 conv=>whnf
 refine ⟨⟨?inv1_,?vals1_,?own1_,?fix1_⟩,?body1_⟩
 case' vals1_=>(repeat' (first|(with_reducible first|exact True.intro|refine And.intro ?_ ?_|refine Head.mk ?_ ?_ ?_ ?_)|((conv=>lhs;whnf);first|(with_reducible first|rfl|exact vInt_s (by omega))|exact rfl)|((conv=>whnf);first|(with_reducible first|exact True.intro|refine And.intro ?_ ?_)))) <;> (try (conv=>lhs;whnf))
 case' own1_=>(repeat' (first|(with_reducible first|exact True.intro|refine And.intro ?_ ?_|refine Head.mk ?_ ?_ ?_ ?_)|((conv=>lhs;whnf);first|(with_reducible first|rfl|exact vInt_s (by omega))|exact rfl)|((conv=>whnf);first|(with_reducible first|exact True.intro|refine And.intro ?_ ?_)))) <;> (try (conv=>lhs;whnf))
 case' fix1_=>(repeat' (first|(with_reducible first|exact True.intro|refine And.intro ?_ ?_|refine Head.mk ?_ ?_ ?_ ?_)|((conv=>lhs;whnf);first|(with_reducible first|rfl|exact vInt_s (by omega))|exact rfl)|((conv=>whnf);first|(with_reducible first|exact True.intro|refine And.intro ?_ ?_)))) <;> (try (conv=>lhs;whnf))
 ·omega
 rintro i g_ o_ v_ hi
 have hil:=insF_len xs (i + 1)
 (repeat' (first|(with_reducible first|exact True.intro|refine zQ ?_|(refine zG hG_ ?_;intro K_ hK_)|(refine zR ?_;intro K_ hK_)|(refine hK_ _ _ ?_;try clear hK_ K_)|refine sq_n ?_|refine sq_r ?_|refine sq_e ?_|refine bq_n ?_|refine bq_r ?_|refine bq_q ?_|refine zB ?_|refine zX ?_|refine zT ?_|refine zK ?_|refine gq_n ?_|refine gq_r ?_|refine gq_e ?_|refine lq_n ?_|refine lq_r ?_|refine lq_e ?_|refine bq_e (by decide) ?_)|((with_reducible refine zC (b:=?b_) ?hb_ ?_ ?_);case hb_=>rfl)|((conv=>whnf);first|(with_reducible refine hK_ _ _ ?_;try clear hK_ K_)|(with_reducible refine fun (g_:Sl) (o_:Ow)=>?_)|(with_reducible first|exact True.intro|refine And.intro trivial ?_|refine And.intro ?_ ?_)|exact Nat.le_of_ble_eq_true rfl|exact Or.inl rfl|(intro h_;cases h_)|(intro h_;(try simp only [vS1] at h_))|rfl))) <;> (try (conv=>whnf)) <;> (try first|change (_:Int)≤_|change (_:Nat)≤_) <;> (try ((fail_if_success (with_reducible apply Exists.intro));(try dsimp only);(try simp only [vS1]))) <;> (try simp (disch:=omega) only [vS3,Int.add_sub_cancel,tn1,tnp,tnc,vS2] at *)
 all_goals (try ((fail_if_success (with_reducible apply Exists.intro));first|with_reducible assumption|omega))
 ·
  have hi1:i + 1 < xs.length:=by omega
  refine awp'_loopG (α:=Nat) (fun k ver_=>[(8,vInt ((i:Int) + 1)),(9,vInt ((i:Int) + 1 - k))]) (fun k ver_=>[]) (fun k ver_=>[(1000,⟨0,.row t_sl_int (.s .int) (swpK (insF xs (i + 1)) (i + 1) k)⟩)]) (fun k=>k≤i + 1∧bubF (i + 1) (insF xs (i + 1))=bubF (i + 1 - k) (swpK (insF xs (i + 1)) (i + 1) k)) (fun k=>i + 1 - k) [0,1,2,3] [] (0) ?_
  conv=>whnf
  refine ⟨⟨?inv2_,?vals2_,?own2_,?fix2_⟩,?body2_⟩
  case' vals2_=>(repeat' (first|(with_reducible first|exact True.intro|refine And.intro ?_ ?_|refine Head.mk ?_ ?_ ?_ ?_)|((conv=>lhs;whnf);first|(with_reducible first|rfl|exact vInt_s (by omega))|exact rfl)|((conv=>whnf);first|(with_reducible first|exact True.intro|refine And.intro ?_ ?_)))) <;> (try (conv=>lhs;whnf))
  case' own2_=>(repeat' (first|(with_reducible first|exact True.intro|refine And.intro ?_ ?_|refine Head.mk ?_ ?_ ?_ ?_)|((conv=>lhs;whnf);first|(with_reducible first|rfl|exact vInt_s (by omega))|exact rfl)|((conv=>whnf);first|(with_reducible first|exact True.intro|refine And.intro ?_ ?_)))) <;> (try (conv=>lhs;whnf))
  case' fix2_=>(repeat' (first|(with_reducible first|exact True.intro|refine And.intro ?_ ?_|refine Head.mk ?_ ?_ ?_ ?_)|((conv=>lhs;whnf);first|(with_reducible first|rfl|exact vInt_s (by omega))|exact rfl)|((conv=>whnf);first|(with_reducible first|exact True.intro|refine And.intro ?_ ?_)))) <;> (try (conv=>lhs;whnf))
  ·exact ⟨Nat.zero_le _,rfl⟩
  rintro k g_ o_ v_ ⟨hk,hb⟩
  have hsl:=swpK_len (insF xs (i + 1)) (i + 1) k
  have hLB:LenB (swpK (insF xs (i + 1)) (i + 1) k):=(h2.perm (insF_perm xs (by omega))).perm (swpK_perm (by omega) hk)
  generalize hS:swpK (insF xs (i + 1)) (i + 1) k=s at *
  have hat:=hLB.at
  (repeat' (first|(with_reducible first|exact True.intro|refine zQ ?_|(refine zG hG_ ?_;intro K_ hK_)|(refine zR ?_;intro K_ hK_)|(refine hK_ _ _ ?_;try clear hK_ K_)|refine sq_n ?_|refine sq_r ?_|refine sq_e ?_|refine bq_n ?_|refine bq_r ?_|refine bq_q ?_|refine zB ?_|refine zX ?_|refine zT ?_|refine zK ?_|refine gq_n ?_|refine gq_r ?_|refine gq_e ?_|refine lq_n ?_|refine lq_r ?_|refine lq_e ?_|refine bq_e (by decide) ?_)|((with_reducible refine zC (b:=?b_) ?hb_ ?_ ?_);case hb_=>rfl)|((conv=>whnf);first|(with_reducible refine hK_ _ _ ?_;try clear hK_ K_)|(with_reducible refine fun (g_:Sl) (o_:Ow)=>?_)|(with_reducible first|exact True.intro|refine And.intro trivial ?_|refine And.intro ?_ ?_)|exact Nat.le_of_ble_eq_true rfl|exact Or.inl rfl|(intro h_;cases h_)|(intro h_;(try simp only [vS1] at h_))|rfl))) <;> (try (conv=>whnf)) <;> (try first|change (_:Int)≤_|change (_:Nat)≤_) <;> (try ((fail_if_success (with_reducible apply Exists.intro));(try dsimp only);(try simp only [vS1]))) <;> (try simp (disch:=omega) only [vS3,Int.add_sub_cancel,tn1,tnp,tnc,vS2] at *)
  all_goals (try ((fail_if_success (with_reducible apply Exists.intro));first|with_reducible assumption|omega))
  ·exact hat _
  ·exact hat _
  ·have e1:((i:Int) + 1 - k).toNat=i - k + 1:=by omega
   have e2:((i:Int) + 1 - k - 1).toNat=i - k:=by omega
   have hc:=‹cmpL _ _ < 0›
   rw [e1,e2] at hc
   refine ⟨k + 1,by omega,⟨by omega,?_⟩,?_⟩
   ·rw [hb,show i + 1 - k=i - k + 1 by omega,bub_yes hc,show i + 1 - (k + 1)=i - k by omega]
    show _=bubF (i - k) (swp (swpK (insF xs (i + 1)) (i + 1) k) (i + 1 - k))
    rw [hS,show i + 1 - k=i - k + 1 by omega]
   ·(repeat' (first|(with_reducible first|exact True.intro|refine And.intro ?_ ?_|refine Head.mk ?_ ?_ ?_ ?_)|((conv=>lhs;whnf);first|(with_reducible first|rfl|exact vInt_s (by omega))|exact rfl)|((conv=>whnf);first|(with_reducible first|exact True.intro|refine And.intro ?_ ?_)))) <;> (try (conv=>lhs;whnf))
    ·exact congrArg vInt (by omega)
    ·refine congrArg (fun l=>(⟨0,.row t_sl_int (.s .int) l⟩:Loc)) ?_
     show _=swp (swpK (insF xs (i + 1)) (i + 1) k) (i + 1 - k)
     rw [hS,e1,e2,show i + 1 - k=i - k + 1 by omega]
     unfold swp
     rw [Nat.add_sub_cancel]
  ·have e1:((i:Int) + 1 - k).toNat=i - k + 1:=by omega
   have e2:((i:Int) + 1 - k - 1).toNat=i - k:=by omega
   have hc:=‹¬ cmpL _ _ < 0›
   rw [e1,e2] at hc
   refine ⟨i + 1,by omega,.inl (by omega),?_⟩
   (repeat' (first|(with_reducible first|exact True.intro|refine And.intro ?_ ?_|refine Head.mk ?_ ?_ ?_ ?_)|((conv=>lhs;whnf);first|(with_reducible first|rfl|exact vInt_s (by omega))|exact rfl)|((conv=>whnf);first|(with_reducible first|exact True.intro|refine And.intro ?_ ?_)))) <;> (try (conv=>lhs;whnf))
   refine congrArg (fun l=>(⟨0,.row t_sl_int (.s .int) l⟩:Loc)) ?_
   show s=bubF (i + 1) (insF xs (i + 1))
   rw [hb,show i + 1 - k=i - k + 1 by omega,bub_no hc]
  ·refine ⟨i + 1,by omega,.inl (by omega),?_⟩
   (repeat' (first|(with_reducible first|exact True.intro|refine And.intro ?_ ?_|refine Head.mk ?_ ?_ ?_ ?_)|((conv=>lhs;whnf);first|(with_reducible first|rfl|exact vInt_s (by omega))|exact rfl)|((conv=>whnf);first|(with_reducible first|exact True.intro|refine And.intro ?_ ?_)))) <;> (try (conv=>lhs;whnf))
   refine congrArg (fun l=>(⟨0,.row t_sl_int (.s .int) l⟩:Loc)) ?_
   show s=bubF (i + 1) (insF xs (i + 1))
   rw [hb,show i + 1 - k=0 by omega];rfl
 ·refine congrArg some ?_
  show insF xs (i + 1)=insF xs xs.length
  rcases hi with g|⟨g1,g2⟩
  ·rw [show i + 1=xs.length by omega]
  ·rw [g1,g2];rfl
def pdqC:ConW:=mkConW [.sl (.s .int),.int,.int,.int,.clo] 0 t_sl_int (fun x=>(x.1.length≤12∧LenB x.1)∧x.2.1=0∧x.2.2.1=x.1.length∧x.2.2.2.2.1=(n_impl_PartsOf_2,[])) (fun _=>.tup []) fun x=>⟨.s .int,sortF x.1,false⟩
theorem pdq_ok:GoodW Tryz.prog (n_slices_pdqsortCmpFunc___int) pdqC:=by
 refine good_ofW (tys:=tyL) (env:=[(n_impl_PartsOf_2,cmpLC)]) (envw:=[(n_slices_insertionSortCmpFunc___int,insC)]) (envd:=[]) [30] [] [] [] [] mixed tys ⟨partsCmp_ok,trivial⟩ ⟨insertion_ok,trivial⟩ trivial Tryz.func60 rfl (by kernel_rfl) (by decide) (by kernel_rfl) ?_
 have hG_:=kpz [(0,[0,1,2,3,4,10]),(1,[0,1,2,3,4,10,11]),(2,[0,1,2,3,4,10,11,12]),(3,[0,1,2,3,4,10,11,12,25]),(4,[]),(5,[0,1,2,3,4,10,11,12,32]),(6,[]),(7,[0,1,2,3,4,10,11,12,39]),(8,[0,1,2,3,4,10,11,12]),(9,[0,1,2,3,4,10,11,12]),(10,[0,1,2,3,4,10,11,12,13,14]),(11,[0,1,2,3,4,10,11,12,13,14,56]),(12,[0,1,2,3,4,10,11,12,13]),(13,[0,1,2,3,4,10,11,12,13]),(14,[0,1,2,3,4,10,11,12,13,14]),(15,[0,1,2,3,4,10,11,12,13,75]),(16,[0,1,2,3,4,10,11,12,13,80]),(17,[0,1,2,3,4,10,11,12,13,97]),(18,[0,2,3,4,10,11,15]),(19,[0,1,2,3,4,10,11]),(20,[0,1,2,3,4,12,16,17]),(21,[0,1,2,3,4,11,12,16]),(22,[0,1,2,3,4,11,12,16,18,19]),(23,[0,1,2,3,4,11,16,18,19,20]),(24,[0,1,2,3,4,11,16,18,19,20,125]),(25,[0,1,2,3,4,10,11,16]),(26,[0,2,3,4,10,11,16]),(27,[0,1,2,3,4,10,11]),(28,[0,1,2,3,4,10,11,16]),(29,[0,1,3,4,10,11,16]),(30,[0,1,2,3,4,10,11])] [(0,[1000]),(1,[1000]),(2,[1000]),(3,[1000]),(4,[1000]),(5,[1000]),(6,[1000]),(7,[1000]),(8,[1000]),(9,[1000]),(10,[1000]),(11,[1000]),(12,[1000]),(13,[1000]),(14,[1000]),(15,[1000]),(16,[1000]),(17,[1000]),(18,[1000]),(19,[1000]),(20,[1000]),(21,[1000]),(22,[1000]),(23,[1000]),(24,[1000]),(25,[1000]),(26,[1000]),(27,[1000]),(28,[1000]),(29,[1000]),(30,[1000])] [] []
 rintro ⟨(xs:List (List Int)),(a:Int),(b:Int),(c:Int),(f:FuncId × List D),⟨⟩⟩ ⟨⟨(h1:xs.length≤_),(h2:LenB xs)⟩,(ha:a=0),(hb:b=(xs.length:Int)),(hf:f=(n_impl_PartsOf_2,[]))⟩
 subst ha
 subst hb
 subst hf
 (repeat' (first|(with_reducible first|exact True.intro|refine zQ ?_|(refine zG hG_ ?_;intro K_ hK_)|(refine zR ?_;intro K_ hK_)|(refine hK_ _ _ ?_;try clear hK_ K_)|refine sq_n ?_|refine sq_r ?_|refine sq_e ?_|refine bq_n ?_|refine bq_r ?_|refine bq_q ?_|refine zB ?_|refine zX ?_|refine zT ?_|refine zK ?_|refine gq_n ?_|refine gq_r ?_|refine gq_e ?_|refine lq_n ?_|refine lq_r ?_|refine lq_e ?_|refine bq_e (by decide) ?_)|((with_reducible refine zC (b:=?b_) ?hb_ ?_ ?_);case hb_=>rfl)|((conv=>whnf);first|(with_reducible refine hK_ _ _ ?_;try clear hK_ K_)|(with_reducible refine fun (g_:Sl) (o_:Ow)=>?_)|(with_reducible first|exact True.intro|refine And.intro trivial ?_|refine And.intro ?_ ?_)|exact Nat.le_of_ble_eq_true rfl|exact Or.inl rfl|(intro h_;cases h_)|(intro h_;(try simp only [vS1] at h_))|rfl))) <;> (try (conv=>whnf)) <;> (try first|change (_:Int)≤_|change (_:Nat)≤_) <;> (try ((fail_if_success (with_reducible apply Exists.intro));(try dsimp only);(try simp only [vS1]))) <;> (try simp (disch:=omega) only [vS3,Int.add_sub_cancel,tn1,tnp,tnc,vS2] at *)
 all_goals (try ((fail_if_success (with_reducible apply Exists.intro));first|with_reducible assumption|omega))
 refine awp'_loopG (α:=Nat) (fun i ver_=>[(1,vInt 0),(2,vInt xs.length),(3,vInt c),(10,vBool true),(11,vBool true)]) (fun i ver_=>[]) (fun i ver_=>[(1000,⟨0,.row t_sl_int (.s .int) xs⟩)]) (fun i=>i=0) (fun i=>1 - i) [0,4] [] (0) ?_
 conv=>whnf
 refine ⟨⟨?inv3_,?vals3_,?own3_,?fix3_⟩,?body3_⟩
 case' vals3_=>(repeat' (first|(with_reducible first|exact True.intro|refine And.intro ?_ ?_|refine Head.mk ?_ ?_ ?_ ?_)|((conv=>lhs;whnf);first|(with_reducible first|rfl|exact vInt_s (by omega))|exact rfl)|((conv=>whnf);first|(with_reducible first|exact True.intro|refine And.intro ?_ ?_)))) <;> (try (conv=>lhs;whnf))
 case' own3_=>(repeat' (first|(with_reducible first|exact True.intro|refine And.intro ?_ ?_|refine Head.mk ?_ ?_ ?_ ?_)|((conv=>lhs;whnf);first|(with_reducible first|rfl|exact vInt_s (by omega))|exact rfl)|((conv=>whnf);first|(with_reducible first|exact True.intro|refine And.intro ?_ ?_)))) <;> (try (conv=>lhs;whnf))
 case' fix3_=>(repeat' (first|(with_reducible first|exact True.intro|refine And.intro ?_ ?_|refine Head.mk ?_ ?_ ?_ ?_)|((conv=>lhs;whnf);first|(with_reducible first|rfl|exact vInt_s (by omega))|exact rfl)|((conv=>whnf);first|(with_reducible first|exact True.intro|refine And.intro ?_ ?_)))) <;> (try (conv=>lhs;whnf))
 ·rfl
 rintro i g_ o_ v_ hi
 have hl0:IntKind.i64.wrap ((xs.length:Int) - 0)=xs.length:=W_in (by omega) (by omega)
 (repeat' (first|(with_reducible first|exact True.intro|refine zQ ?_|(refine zG hG_ ?_;intro K_ hK_)|(refine zR ?_;intro K_ hK_)|(refine hK_ _ _ ?_;try clear hK_ K_)|refine sq_n ?_|refine sq_r ?_|refine sq_e ?_|refine bq_n ?_|refine bq_r ?_|refine bq_q ?_|refine zB ?_|refine zX ?_|refine zT ?_|refine zK ?_|refine gq_n ?_|refine gq_r ?_|refine gq_e ?_|refine lq_n ?_|refine lq_r ?_|refine lq_e ?_|refine bq_e (by decide) ?_)|((with_reducible refine zC (b:=?b_) ?hb_ ?_ ?_);case hb_=>rfl)|((conv=>whnf);first|(with_reducible refine hK_ _ _ ?_;try clear hK_ K_)|(with_reducible refine fun (g_:Sl) (o_:Ow)=>?_)|(with_reducible first|exact True.intro|refine And.intro trivial ?_|refine And.intro ?_ ?_)|exact Nat.le_of_ble_eq_true rfl|exact Or.inl rfl|(intro h_;cases h_)|(intro h_;(try simp only [vS1] at h_))|rfl))) <;> (try (conv=>whnf)) <;> (try first|change (_:Int)≤_|change (_:Nat)≤_) <;> (try ((fail_if_success (with_reducible apply Exists.intro));(try dsimp only);(try simp only [vS1]))) <;> (try simp (disch:=omega) only [vS3,Int.add_sub_cancel,tn1,tnp,tnc,vS2] at *)
 all_goals (try ((fail_if_success (with_reducible apply Exists.intro));first|with_reducible assumption|omega))
 all_goals skip
def sortFC:ConW:=mkConW [.sl (.s .int),.clo] 0 t_sl_int (fun x=>(x.1.length≤12∧LenB x.1)∧x.2.1=(n_impl_PartsOf_2,[])) (fun _=>.tup []) fun x=>⟨.s .int,sortF x.1,false⟩
theorem sortFF_ok:GoodW Tryz.prog n_slices_SortFunc___int sortFC:=by
 refine good_ofW (tys:=tyL) (env:=[(n_math_bits_Len,bLenC)]) (envw:=[(n_slices_pdqsortCmpFunc___int,pdqC)]) (envd:=[]) [13] [] [] [] [] mixed tys ⟨bLenG_ok,trivial⟩ ⟨pdq_ok,trivial⟩ trivial Tryz.func29 rfl (by kernel_rfl) (by decide) (by kernel_rfl) ?_
 have hG_:=kpz [(0,[0,1,4]),(1,[])] [(0,[1000]),(1,[13,1000])] [] []
 rintro ⟨(xs:List (List Int)),(f:FuncId × List D),⟨⟩⟩ ⟨⟨(h1:xs.length≤_),(h2:LenB xs)⟩,(hf:f=(n_impl_PartsOf_2,[]))⟩
 subst hf
 have hw:IntKind.u64.wrap (xs.length:Int)=xs.length:=wrapU (by omega) (by omega)
 (repeat' (first|(with_reducible first|exact True.intro|refine zQ ?_|(refine zG hG_ ?_;intro K_ hK_)|(refine zR ?_;intro K_ hK_)|(refine hK_ _ _ ?_;try clear hK_ K_)|refine sq_n ?_|refine sq_r ?_|refine sq_e ?_|refine bq_n ?_|refine bq_r ?_|refine bq_q ?_|refine zB ?_|refine zX ?_|refine zT ?_|refine zK ?_|refine gq_n ?_|refine gq_r ?_|refine gq_e ?_|refine lq_n ?_|refine lq_r ?_|refine lq_e ?_|refine bq_e (by decide) ?_)|((with_reducible refine zC (b:=?b_) ?hb_ ?_ ?_);case hb_=>rfl)|((conv=>whnf);first|(with_reducible refine hK_ _ _ ?_;try clear hK_ K_)|(with_reducible refine fun (g_:Sl) (o_:Ow)=>?_)|(with_reducible first|exact True.intro|refine And.intro trivial ?_|refine And.intro ?_ ?_)|exact Nat.le_of_ble_eq_true rfl|exact Or.inl rfl|(intro h_;cases h_)|(intro h_;(try simp only [vS1] at h_))|rfl))) <;> (try (conv=>whnf)) <;> (try first|change (_:Int)≤_|change (_:Nat)≤_) <;> (try ((fail_if_success (with_reducible apply Exists.intro));(try dsimp only);(try simp only [vS1]))) <;> (try simp (disch:=omega) only [vS3,Int.add_sub_cancel,tn1,tnp,tnc,vS2] at *)
 all_goals (try ((fail_if_success (with_reducible apply Exists.intro));first|with_reducible assumption|omega))
 all_goals skip
end Go.Proofs.YtpafacebfogkmaaGreat
namespace Go.Proofs.YtpafacebfogkmaaGreat
open Go.RowKit
def partsM (xs:List Pt) (cuts:List (List Int)):List (List Int):=if plansM xs cuts then sortF (rawP xs cuts cuts.length) else []
theorem partsM_yes {xs:List Pt} {cuts:List (List Int)} (h:plansM xs cuts=true):partsM xs cuts=sortF (rawP xs cuts cuts.length):=by unfold partsM;rw [if_pos h]
theorem partsM_no {xs:List Pt} {cuts:List (List Int)} (h:plansM xs cuts=false):partsM xs cuts=[]:=by unfold partsM;rw [h];rfl
theorem perm_sum {α:Type} (f:α→Int) {l l':List α} (h:l.Perm l'):(l.map f).sum=(l'.map f).sum:=by
 induction h with
 | nil=>rfl
 | cons x _ ih=>simp only [List.map_cons,List.sum_cons,ih]
 | swap x y l=>simp only [List.map_cons,List.sum_cons];omega
 | trans _ _ h1 h2=>exact h1.trans h2
theorem prt_short {xs:List Pt} {l:List Int} (h:Geo.Prt xs l):l.length≤xs.length:=by
 have h3:=h.len
 have key:∀ i,i < l.length→(i:Int)≤gI l i:=fun i=>by
  induction i with
  | zero=>intro hi;exact (h.bd _ (gI_mem hi)).1
  | succ i ih=>
   intro hi
   have:=ih (by omega)
   have:=Geo.sorted_lt h.sorted (show i < i + 1 by omega) hi
   omega
 have:=key (l.length - 1) (by omega)
 have:=(h.bd _ (gI_mem (show l.length - 1 < l.length by omega))).2
 omega
theorem part_area {xs:List Pt} (hr:roomOk xs=true) {l:List Int} (h:Geo.Prt xs l) (hl:l.length≤10):partArea xs l=(Geo.subP xs l).area:=by
 have hn:=room_pos hr
 have hp:ptsOf xs l=l.map (pI xs):=ptsOf_ok hr (List.all_eq_true.2 fun x hx=>by
  have:=h.bd x hx
  rw [btw_iff];omega)
 have h3:=h.len
 have hv:∀ j,j < l.length→pAt (l.map (pI xs)) j=pI xs (gI l j):=fun j hj=>by
  unfold pAt
  rw [getD_lt _ (by rw [List.length_map];exact hj),List.getElem_map,show gI l j=l[j] from getD_lt _ hj]
 have e:Geo.roomP (l.map (pI xs))=Geo.subP xs l:=by
  refine Geo.Poly.ext' (by show (l.map (pI xs)).length=l.length;rw [List.length_map]) fun j=>?_
  show pAt (l.map (pI xs)) (j % (l.map (pI xs)).length)=(Geo.roomP xs).v (gI l (j % l.length)).toNat
  have hj:=Nat.mod_lt j (show 0 < l.length by omega)
  have hb:=h.bd _ (gI_mem hj)
  rw [List.length_map,hv _ hj,Geo.room_v hb.1 hb.2]
 have hok:∀ q∈l.map (pI xs),-40≤q.1∧q.1≤40∧-40≤q.2∧q.2≤40:=fun q hq=>by
  obtain ⟨x,hx,rfl⟩:=List.mem_map.1 hq
  have hb:=h.bd x hx
  exact pt_of_room hr _ (pAt_mem (by omega))
 obtain ⟨e1,lo,hi⟩:=Geo.room_dbl hok (by rw [List.length_map];omega) (l.map (pI xs)).length (Nat.le_refl _)
 have e1:dbl (l.map (pI xs))=(Geo.roomP (l.map (pI xs))).area:=e1
 have hd:dbl (l.map (pI xs))=dblTo (l.map (pI xs)) (l.map (pI xs)).length:=rfl
 have hml:(l.map (pI xs)).length=l.length:=List.length_map ..
 unfold partArea
 rw [hp,W_in (by omega) (by omega),e1,e]
theorem sum_split_ge {α:Type} (f:α→Int):∀ (l:List α),(∀ x∈l,0≤f x)→∀ k,0≤((l.take k).map f).sum∧((l.take k).map f).sum≤(l.map f).sum
 | [],_,k=>by simp
 | x :: l,h,0=>by
  have:=sum_split_ge f l (fun y hy=>h y (List.mem_cons_of_mem _ hy)) l.length
  have h0:=h x List.mem_cons_self
  rw [List.take_of_length_le (Nat.le_refl _)] at this
  simp only [List.take_zero,List.map_nil,List.sum_nil,List.map_cons,List.sum_cons]
  omega
 | x :: l,h,k + 1=>by
  have:=sum_split_ge f l (fun y hy=>h y (List.mem_cons_of_mem _ hy)) k
  have h0:=h x List.mem_cons_self
  simp only [List.take_succ_cons,List.map_cons,List.sum_cons]
  omega
structure CutX (xs:List Pt) (cuts:List (List Int)):Prop where
 plans:plansM xs cuts=true
 len:(partsM xs cuts).length=cuts.length + 1
 pos:∀ k,k < (partsM xs cuts).length→0 < partArea xs ((partsM xs cuts).getD k [])
 sum:((partsM xs cuts).map (partArea xs)).sum=(Geo.roomP xs).area
 small:∀ k,((partsM xs cuts).getD k []).length≤10
theorem cutX_of {xs:List Pt} (hr:roomOk xs=true) {cuts:List (List Int)} (h:cuts.Sublist (greedyM xs)):CutX xs cuts:=by
 have hp:=Geo.plans_greedy hr h
 have S:=rawP_stage (Geo.plansX hp) (i:=cuts.length) (Nat.le_refl _)
 have P:=sortF_perm (rawP xs cuts cuts.length)
 have hl:=room_len hr
 have hprt:∀ l∈rawP xs cuts cuts.length,Geo.Prt xs l:=fun l hl=>by
  obtain ⟨u,hu,rfl⟩:=List.getElem_of_mem hl
  have:=S.prt u hu
  rwa [getD_lt _ hu] at this
 have hten:∀ l∈rawP xs cuts cuts.length,l.length≤10:=fun l hl'=>by
  have:=prt_short (hprt l hl')
  omega
 rw [← partsM_yes hp] at P
 have hmem:∀ k,k < (partsM xs cuts).length→(partsM xs cuts).getD k []∈rawP xs cuts cuts.length:=fun k hk=>P.mem_iff.1 (by rw [getD_lt _ hk];exact List.getElem_mem hk)
 refine ⟨hp,by rw [P.length_eq,S.len],fun k hk=>?_,?_,fun k=>?_⟩
 ·have m:=hmem k hk
  rw [part_area hr (hprt _ m) (hten _ m)]
  exact (hprt _ m).area
 ·rw [perm_sum _ P,← S.sum]
  congr 1
  exact List.map_congr_left fun l hl=>part_area hr (hprt l hl) (hten l hl)
 ·rcases Nat.lt_or_ge k (partsM xs cuts).length with g|g
  ·exact hten _ (hmem k g)
  ·rw [List.getD_eq_getElem?_getD,List.getElem?_eq_none g];exact Nat.zero_le _
theorem greedy_parts {xs:List Pt} (hr:roomOk xs=true):∀ k,k < (partsM xs (greedyM xs)).length→((partsM xs (greedyM xs)).getD k []).length=3:=fun k hk=>by
 have hp:=Geo.plans_greedy hr (List.Sublist.refl _)
 have P:=sortF_perm (rawP xs (greedyM xs) (greedyM xs).length)
 rw [← partsM_yes hp] at P
 have m:=P.mem_iff.1 (show (partsM xs (greedyM xs)).getD k []∈partsM xs (greedyM xs) by rw [getD_lt _ hk];exact List.getElem_mem hk)
 obtain ⟨u,hu,e⟩:=List.getElem_of_mem m
 have:=Geo.greedy_three hr hu
 rwa [getD_lt _ hu,e] at this
end Go.Proofs.YtpafacebfogkmaaGreat
namespace Go.Proofs.YtpafacebfogkmaaGreat
open Go.RowKit Go.Proofs.YtpafacebfogkmaaGreat.Nm
set_option maxRecDepth 10000
set_option maxHeartbeats 4000000
theorem allC_take (n k:Nat) (h:k < n):(allC n).take k ++ [(k:Int)]=(allC n).take (k + 1):=by
 rw [List.take_succ_eq_append_getElem (by rw [allC_len];exact h)]
 congr 1
 simp [allC]
theorem raw_bd {xs:List Pt} {cuts:List (List Int)} {i:Nat} (hr:roomOk xs=true) (S:Geo.Stage xs cuts i (rawP xs cuts i)):∀ y∈rawP xs cuts i,List.length y≤10:=fun y hy=>by
 obtain ⟨u,hu,rfl⟩:=List.getElem_of_mem hy
 have:=prt_short (S.prt u hu)
 rw [getD_lt _ hu] at this
 have:=room_len hr
 omega
theorem raw_few {xs:List Pt} {cuts:List (List Int)} {i:Nat} (h:plansM xs cuts=true) (hi:i≤cuts.length) (S:Geo.Stage xs cuts i (rawP xs cuts i)):(rawP xs cuts i).length≤8:=by
 have:=(plansM_iff.1 h).2.1
 rw [S.len];omega
theorem filt_yes {f:Int→Bool} {l:List Int} {k:Nat} (h:k < l.length) (hf:f (l.getD k 0)=true):(l.take k).filter f ++ [l.getD k 0]=(l.take (k + 1)).filter f:=by
 rw [getD_lt _ h] at hf ⊢
 rw [List.take_succ_eq_append_getElem h,List.filter_append,List.filter_cons,if_pos hf];rfl
theorem filt_no {f:Int→Bool} {l:List Int} {k:Nat} (h:k < l.length) (hf:¬ f (l.getD k 0)=true):(l.take k).filter f=(l.take (k + 1)).filter f:=by
 rw [getD_lt _ h] at hf
 rw [List.take_succ_eq_append_getElem h,List.filter_append,List.filter_cons,if_neg hf,List.filter_nil,List.append_nil]
def partsC:Con:=mkCon [.room,.sl (.s .int)] (fun x=>x.1.length≤1048576∧x.2.1.length≤1048576∧∀ c∈x.2.1,c.length≤1048576) fun x=>.val (.one (.d (.sl none (.s .int) (partsM x.1 x.2.1))))
theorem iPartsOf_ok:Good1 Tryz.prog n_impl_PartsOf partsC:=by
 refine good_ofG (tys:=tyL) (env:=[(n_impl_ArePlans,plansC),(n_impl_PartsOf_1,hasBC),(n_slices_IndexFunc___int,idxFC),(n_impl_between,btwC),(n_impl_PartsOf_2,cmpLC)]) (envw:=[(n_slices_SortFunc___int,sortFC)]) (envd:=[]) [19,29,32,42,43,64,80,89,92] [9] [] [] [] mixed tys ⟨iArePlans_ok,hasB_ok,idxF_ok,between_ok,partsCmp_ok,trivial⟩ ⟨sortFF_ok,trivial⟩ trivial Tryz.func7 rfl (by kernel_rfl) (by decide) (by kernel_rfl) ?_
 have hG_:=kpz [(0,[1,2]),(1,[1,2,18]),(2,[4]),(3,[1,2,5]),(4,[1,5,22,23]),(5,[1,5,22,23,24]),(6,[1,5,6,22,23]),(7,[1,5,22,23]),(8,[1,5,22,23]),(9,[1,7]),(10,[7,33,34,35]),(11,[7,33,34,35,36]),(12,[7,9,33,34,35]),(13,[7,9,10,33,34,35]),(14,[7,9,10,11,12,33,34,35]),(15,[7,9,10,11,12,33,34,35,47,48,49]),(16,[7,9,10,11,12,33,34,35,47,48,49,50]),(17,[7,9,10,11,12,14,33,34,35,47,48,49]),(18,[7,9,10,11,12,14,33,34,35,47,48,49,60]),(19,[7,9,10,11,12,14,33,34,35,47,48,49]),(20,[7,9,10,11,12,14,33,34,35,47,48,49,76]),(21,[7,9,10,11,12,33,34,35,47,48,49]),(22,[7,9,10,11,12,33,34,35,47,48,49]),(23,[7,12,33,34,35]),(24,[7,33,34,35]),(25,[7,33,34,35]),(26,[7]),(27,[4]),(100009,[1,5]),(100023,[7,10,11,12,33,34,35])] [(3,[19]),(4,[19]),(5,[19]),(6,[19]),(7,[19]),(8,[19]),(9,[19,32]),(10,[19,32]),(11,[19,32]),(12,[9,19,32]),(13,[9,19,32]),(14,[9,19,32,42,43]),(15,[9,19,32,42,43]),(16,[9,19,32,42,43]),(17,[9,19,32,42,43]),(18,[9,19,32,42,43]),(19,[9,19,32,42,43]),(20,[9,19,32,42,43]),(21,[9,19,32,42,43]),(22,[9,19,32,42,43]),(23,[19,32,42,43]),(24,[19,32,42,43]),(25,[19,32,42,43]),(26,[19,32]),(27,[19,32]),(100009,[9,19,32,42,43]),(100023,[9,19,32,42,43])] [(12,[9]),(100009,[19]),(100023,[42,43])] []
 rintro ⟨(xs:List Pt),(cuts:List (List Int)),⟨⟩⟩ ⟨(h1:xs.length≤_),(h2:cuts.length≤_),(h3:∀ c∈cuts,c.length≤_)⟩
 have hal:=allC_len xs.length
 (repeat' (first|(with_reducible first|exact True.intro|refine zQ ?_|(refine zG hG_ ?_;intro K_ hK_)|(refine zR ?_;intro K_ hK_)|(refine hK_ _ _ ?_;try clear hK_ K_)|refine sq_n ?_|refine sq_r ?_|refine sq_e ?_|refine bq_n ?_|refine bq_r ?_|refine bq_q ?_|refine zB ?_|refine zX ?_|refine zT ?_|refine zK ?_|refine gq_n ?_|refine gq_r ?_|refine gq_e ?_|refine lq_n ?_|refine lq_r ?_|refine lq_e ?_|refine bq_e (by decide) ?_)|((with_reducible refine zC (b:=?b_) ?hb_ ?_ ?_);case hb_=>rfl)|((conv=>whnf);first|(with_reducible refine hK_ _ _ ?_;try clear hK_ K_)|(with_reducible refine fun (g_:Sl) (o_:Ow)=>?_)|(with_reducible first|exact True.intro|refine And.intro trivial ?_|refine And.intro ?_ ?_)|exact Nat.le_of_ble_eq_true rfl|exact Or.inl rfl|(intro h_;cases h_)|(intro h_;(try simp only [vS1] at h_))|rfl))) <;> (try (conv=>whnf)) <;> (try first|change (_:Int)≤_|change (_:Nat)≤_) <;> (try ((fail_if_success (with_reducible apply Exists.intro));(try dsimp only);(try simp only [vS1]))) <;> (try simp (disch:=omega) only [vS3,Int.add_sub_cancel,tn1,tnp,tnc,vS2] at *)
 all_goals (try ((fail_if_success (with_reducible apply Exists.intro));first|with_reducible assumption|omega))
 ·exact h3 _ List.mem_cons_self
 ·exact h3 _ (List.mem_cons_of_mem _ (by assumption))
 ·exact partsM_no h_
 have hP:=Geo.plansX h_
 have hxl:=room_len hP.1
 refine awp'_loopG (α:=Nat) (fun k ver_=>[(23,vInt k)]) (fun k ver_=>[(5,19,false,.row t_int (.b .int) ((allC xs.length).take k))]) (fun k ver_=>[(9,⟨ver_ 9,.dead⟩)]) (fun k=>k≤xs.length) (fun k=>xs.length - k) [1,22] [] (0) ?_
 conv=>whnf
 refine ⟨⟨?inv1_,?vals1_,?own1_,?fix1_⟩,?body1_⟩
 case' vals1_=>(repeat' (first|(with_reducible first|exact True.intro|refine And.intro ?_ ?_|refine Head.mk ?_ ?_ ?_ ?_)|((conv=>lhs;whnf);first|(with_reducible first|rfl|exact vInt_s (by omega))|exact rfl)|((conv=>whnf);first|(with_reducible first|exact True.intro|refine And.intro ?_ ?_)))) <;> (try (conv=>lhs;whnf))
 case' own1_=>(repeat' (first|(with_reducible first|exact True.intro|refine And.intro ?_ ?_|refine Head.mk ?_ ?_ ?_ ?_)|((conv=>lhs;whnf);first|(with_reducible first|rfl|exact vInt_s (by omega))|exact rfl)|((conv=>whnf);first|(with_reducible first|exact True.intro|refine And.intro ?_ ?_)))) <;> (try (conv=>lhs;whnf))
 case' fix1_=>(repeat' (first|(with_reducible first|exact True.intro|refine And.intro ?_ ?_|refine Head.mk ?_ ?_ ?_ ?_)|((conv=>lhs;whnf);first|(with_reducible first|rfl|exact vInt_s (by omega))|exact rfl)|((conv=>whnf);first|(with_reducible first|exact True.intro|refine And.intro ?_ ?_)))) <;> (try (conv=>lhs;whnf))
 ·exact Nat.zero_le _
 rintro k g_ o_ v_ hk
 (repeat' (first|(with_reducible first|exact True.intro|refine zQ ?_|(refine zG hG_ ?_;intro K_ hK_)|(refine zR ?_;intro K_ hK_)|(refine hK_ _ _ ?_;try clear hK_ K_)|refine sq_n ?_|refine sq_r ?_|refine sq_e ?_|refine bq_n ?_|refine bq_r ?_|refine bq_q ?_|refine zB ?_|refine zX ?_|refine zT ?_|refine zK ?_|refine gq_n ?_|refine gq_r ?_|refine gq_e ?_|refine lq_n ?_|refine lq_r ?_|refine lq_e ?_|refine bq_e (by decide) ?_)|((with_reducible refine zC (b:=?b_) ?hb_ ?_ ?_);case hb_=>rfl)|((conv=>whnf);first|(with_reducible refine hK_ _ _ ?_;try clear hK_ K_)|(with_reducible refine fun (g_:Sl) (o_:Ow)=>?_)|(with_reducible first|exact True.intro|refine And.intro trivial ?_|refine And.intro ?_ ?_)|exact Nat.le_of_ble_eq_true rfl|exact Or.inl rfl|(intro h_;cases h_)|(intro h_;(try simp only [vS1] at h_))|rfl))) <;> (try (conv=>whnf)) <;> (try first|change (_:Int)≤_|change (_:Nat)≤_) <;> (try ((fail_if_success (with_reducible apply Exists.intro));(try dsimp only);(try simp only [vS1]))) <;> (try simp (disch:=omega) only [vS3,Int.add_sub_cancel,tn1,tnp,tnc,vS2] at *)
 all_goals (try ((fail_if_success (with_reducible apply Exists.intro));first|with_reducible assumption|omega))
 ·refine ⟨k + 1,by omega,by omega,?_⟩
  (repeat' (first|(with_reducible first|exact True.intro|refine And.intro ?_ ?_|refine Head.mk ?_ ?_ ?_ ?_)|((conv=>lhs;whnf);first|(with_reducible first|rfl|exact vInt_s (by omega))|exact rfl)|((conv=>whnf);first|(with_reducible first|exact True.intro|refine And.intro ?_ ?_)))) <;> (try (conv=>lhs;whnf))
  exact congrArg (Own.row t_int (.b .int)) (allC_take xs.length k (by omega))
 refine awp'_loopG (α:=Nat) (fun i ver_=>[(35,vInt i)]) (fun i ver_=>[(7,32,false,.row t_sl_int (.s .int) (rawP xs cuts i))]) (fun i ver_=>[(9,⟨ver_ 9,.dead⟩)]) (fun i=>i≤cuts.length) (fun i=>cuts.length - i) [33,34] [19] (0) ?_
 conv=>whnf
 refine ⟨⟨?inv2_,?vals2_,?own2_,?fix2_⟩,?body2_⟩
 case' vals2_=>(repeat' (first|(with_reducible first|exact True.intro|refine And.intro ?_ ?_|refine Head.mk ?_ ?_ ?_ ?_)|((conv=>lhs;whnf);first|(with_reducible first|rfl|exact vInt_s (by omega))|exact rfl)|((conv=>whnf);first|(with_reducible first|exact True.intro|refine And.intro ?_ ?_)))) <;> (try (conv=>lhs;whnf))
 case' own2_=>(repeat' (first|(with_reducible first|exact True.intro|refine And.intro ?_ ?_|refine Head.mk ?_ ?_ ?_ ?_)|((conv=>lhs;whnf);first|(with_reducible first|rfl|exact vInt_s (by omega))|exact rfl)|((conv=>whnf);first|(with_reducible first|exact True.intro|refine And.intro ?_ ?_)))) <;> (try (conv=>lhs;whnf))
 case' fix2_=>(repeat' (first|(with_reducible first|exact True.intro|refine And.intro ?_ ?_|refine Head.mk ?_ ?_ ?_ ?_)|((conv=>lhs;whnf);first|(with_reducible first|rfl|exact vInt_s (by omega))|exact rfl)|((conv=>whnf);first|(with_reducible first|exact True.intro|refine And.intro ?_ ?_)))) <;> (try (conv=>lhs;whnf))
 ·refine congrArg (Own.row t_sl_int (.s .int)) ?_
  show [_]=[_]
  rw [List.take_of_length_le (by omega)]
 ·exact Nat.zero_le _
 rintro i g_ o_ v_ hi
 have S:=rawP_stage hP (i:=i) hi
 have hpl:=raw_few (by assumption) hi S
 have hpe:PLift (∀ y∈rawP xs cuts i,List.length y≤10):=⟨raw_bd hP.1 S⟩
 obtain ⟨u,hat⟩:∃ u,i < cuts.length→u < (rawP xs cuts i).length∧atP (rawP xs cuts i) (rI cuts i)=some u∧(rI cuts i).length=2:=by
  rcases Nat.lt_or_ge i cuts.length with h|h
  ·obtain ⟨u,hu,e,-⟩:=atP_one S h
   exact ⟨u,fun _=>⟨hu,e,(plansAt_iff.1 (hP.2 _ h)).1⟩⟩
  ·exact ⟨0,fun g=>absurd g (by omega)⟩
 have hA:i < cuts.length→∀ f:FuncId,atI (rawP xs cuts i) (cloL (f,[D.ptr [D.sl none (ElK.b ElB.int) (cuts.getD i (ElK.s ElB.int).dflt)]]))=(u:Int):=fun h f=>by
  show atI (rawP xs cuts i) (rI cuts i)=_
  unfold atI
  rw [(hat h).2.1]
 (repeat' (first|(with_reducible first|exact True.intro|refine zQ ?_|(refine zG hG_ ?_;intro K_ hK_)|(refine zR ?_;intro K_ hK_)|(refine hK_ _ _ ?_;try clear hK_ K_)|refine sq_n ?_|refine sq_r ?_|refine sq_e ?_|refine bq_n ?_|refine bq_r ?_|refine bq_q ?_|refine zB ?_|refine zX ?_|refine zT ?_|refine zK ?_|refine gq_n ?_|refine gq_r ?_|refine gq_e ?_|refine lq_n ?_|refine lq_r ?_|refine lq_e ?_|refine bq_e (by decide) ?_)|((with_reducible refine zC (b:=?b_) ?hb_ ?_ ?_);case hb_=>rfl)|((conv=>whnf);first|(with_reducible refine hK_ _ _ ?_;try clear hK_ K_)|(with_reducible refine fun (g_:Sl) (o_:Ow)=>?_)|(with_reducible first|exact True.intro|refine And.intro trivial ?_|refine And.intro ?_ ?_)|exact Nat.le_of_ble_eq_true rfl|exact Or.inl rfl|(intro h_;cases h_)|(intro h_;(try simp only [vS1] at h_))|rfl))) <;> (try (conv=>whnf)) <;> (try first|change (_:Int)≤_|change (_:Nat)≤_) <;> (try ((fail_if_success (with_reducible apply Exists.intro));(try dsimp only);(try simp only [vS1]))) <;> (try simp (disch:=omega) only [vS3,Int.add_sub_cancel,tn1,tnp,tnc,vS2] at *)
 all_goals (try ((fail_if_success (with_reducible apply Exists.intro));first|with_reducible assumption|omega))
 ·exact Nat.le_trans (hpe.down _ (by assumption)) (by decide)
 ·exact ⟨_,rfl,(hat (by assumption)).2.2⟩
 ·rw [hA (by assumption)];omega
 ·rw [hA (by assumption)];have:=(hat (by assumption)).1;omega
 ·rw [hA (by assumption)];exact (hat (by assumption)).1
 ·have hlt:=‹i < cuts.length›
  obtain ⟨hu,hau,hc2⟩:=hat hlt
  have hst:rawP xs cuts (i + 1)=(rawP xs cuts i).set u (cutA (rI cuts i) ((rawP xs cuts i).getD u [])) ++ [cutO (rI cuts i) ((rawP xs cuts i).getD u [])]:=by
   show stepP _ _=_
   unfold stepP
   rw [hau];rfl
  have hpu:((rawP xs cuts i).getD u []).length≤10:=hpe.down _ (by rw [getD_lt _ hu];exact List.getElem_mem hu)
  simp only [hA hlt,Int.toNat_natCast]
  rw [show cuts.getD i (ElK.s ElB.int).dflt=rI cuts i from rfl]
  rw [show (rawP xs cuts i).getD u (ElK.s ElB.int).dflt=(rawP xs cuts i).getD u [] from rfl]
  clear hat hA
  generalize rI cuts i=c at *
  generalize (rawP xs cuts i).getD u []=l at *
  refine awp'_loopG (α:=Nat) (fun k ver_=>[(49,vInt k)]) (fun k ver_=>[(11,42,false,.row t_int (.b .int) ((l.take k).filter (Geo.inA (gI c 0) (gI c 1)))),(12,43,false,.row t_int (.b .int) ((l.take k).filter (Geo.inO (gI c 0) (gI c 1))))]) (fun k ver_=>[]) (fun k=>k≤l.length) (fun k=>l.length - k) [7,9,10,33,34,35,47,48] [9,19,32] (0) ?_
  conv=>whnf
  refine ⟨⟨?inv3_,?vals3_,?own3_,?fix3_⟩,?body3_⟩
  case' vals3_=>(repeat' (first|(with_reducible first|exact True.intro|refine And.intro ?_ ?_|refine Head.mk ?_ ?_ ?_ ?_)|((conv=>lhs;whnf);first|(with_reducible first|rfl|exact vInt_s (by omega))|exact rfl)|((conv=>whnf);first|(with_reducible first|exact True.intro|refine And.intro ?_ ?_)))) <;> (try (conv=>lhs;whnf))
  case' own3_=>(repeat' (first|(with_reducible first|exact True.intro|refine And.intro ?_ ?_|refine Head.mk ?_ ?_ ?_ ?_)|((conv=>lhs;whnf);first|(with_reducible first|rfl|exact vInt_s (by omega))|exact rfl)|((conv=>whnf);first|(with_reducible first|exact True.intro|refine And.intro ?_ ?_)))) <;> (try (conv=>lhs;whnf))
  case' fix3_=>(repeat' (first|(with_reducible first|exact True.intro|refine And.intro ?_ ?_|refine Head.mk ?_ ?_ ?_ ?_)|((conv=>lhs;whnf);first|(with_reducible first|rfl|exact vInt_s (by omega))|exact rfl)|((conv=>whnf);first|(with_reducible first|exact True.intro|refine And.intro ?_ ?_)))) <;> (try (conv=>lhs;whnf))
  ·exact Nat.zero_le _
  rintro k g_ o_ v_ hk
  have hf1:((l.take k).filter (Geo.inA (gI c 0) (gI c 1))).length≤10:=Nat.le_trans (List.length_filter_le ..) (by rw [List.length_take];omega)
  have hf2:((l.take k).filter (Geo.inO (gI c 0) (gI c 1))).length≤10:=Nat.le_trans (List.length_filter_le ..) (by rw [List.length_take];omega)
  (repeat' (first|(with_reducible first|exact True.intro|refine zQ ?_|(refine zG hG_ ?_;intro K_ hK_)|(refine zR ?_;intro K_ hK_)|(refine hK_ _ _ ?_;try clear hK_ K_)|refine sq_n ?_|refine sq_r ?_|refine sq_e ?_|refine bq_n ?_|refine bq_r ?_|refine bq_q ?_|refine zB ?_|refine zX ?_|refine zT ?_|refine zK ?_|refine gq_n ?_|refine gq_r ?_|refine gq_e ?_|refine lq_n ?_|refine lq_r ?_|refine lq_e ?_|refine bq_e (by decide) ?_)|((with_reducible refine zC (b:=?b_) ?hb_ ?_ ?_);case hb_=>rfl)|((conv=>whnf);first|(with_reducible refine hK_ _ _ ?_;try clear hK_ K_)|(with_reducible refine fun (g_:Sl) (o_:Ow)=>?_)|(with_reducible first|exact True.intro|refine And.intro trivial ?_|refine And.intro ?_ ?_)|exact Nat.le_of_ble_eq_true rfl|exact Or.inl rfl|(intro h_;cases h_)|(intro h_;(try simp only [vS1] at h_))|rfl))) <;> (try (conv=>whnf)) <;> (try first|change (_:Int)≤_|change (_:Nat)≤_) <;> (try ((fail_if_success (with_reducible apply Exists.intro));(try dsimp only);(try simp only [vS1]))) <;> (try simp (disch:=omega) only [vS3,Int.add_sub_cancel,tn1,tnp,tnc,vS2] at *)
  all_goals (try ((fail_if_success (with_reducible apply Exists.intro));first|with_reducible assumption|omega))
  iterate 6
   ·refine ⟨k + 1,by omega,by omega,?_⟩
    (repeat' (first|(with_reducible first|exact True.intro|refine And.intro ?_ ?_|refine Head.mk ?_ ?_ ?_ ?_)|((conv=>lhs;whnf);first|(with_reducible first|rfl|exact vInt_s (by omega))|exact rfl)|((conv=>whnf);first|(with_reducible first|exact True.intro|refine And.intro ?_ ?_)))) <;> (try (conv=>lhs;whnf)) <;> first
     | exact congrArg (Own.row t_int (.b .int)) (filt_yes (by assumption) (by assumption))
     | exact congrArg (Own.row t_int (.b .int)) (filt_no (by assumption) (f:=Geo.inA (gI c 0) (gI c 1)) (by rw [Bool.not_eq_true];assumption))
     | exact congrArg (Own.row t_int (.b .int)) (filt_yes (by assumption) (Geo.inO_iff.2 (.inl (by assumption))))
     | exact congrArg (Own.row t_int (.b .int)) (filt_yes (by assumption) (Geo.inO_iff.2 (.inr (by assumption))))
     | exact congrArg (Own.row t_int (.b .int)) (filt_no (by assumption) fun h=>(Geo.inO_iff.1 h).elim (fun h=>absurd h (by assumption)) fun h=>absurd h (by assumption))
     | skip
  ·refine ⟨i + 1,by omega,by omega,?_⟩
   (repeat' (first|(with_reducible first|exact True.intro|refine And.intro ?_ ?_|refine Head.mk ?_ ?_ ?_ ?_)|((conv=>lhs;whnf);first|(with_reducible first|rfl|exact vInt_s (by omega))|exact rfl)|((conv=>whnf);first|(with_reducible first|exact True.intro|refine And.intro ?_ ?_)))) <;> (try (conv=>lhs;whnf))
   refine congrArg (Own.row t_sl_int (.s .int)) ?_
   rw [hst]
   show _=(rawP xs cuts i).set u (l.filter (Geo.inA (gI c 0) (gI c 1))) ++ [l.filter (Geo.inO (gI c 0) (gI c 1))]
   rw [List.take_of_length_le (by omega)]
 ·exact ⟨fun y hy=>Nat.le_trans (hpe.down y hy) (by decide)⟩
 ·refine congrArg some ?_
  show sortF (rawP xs cuts i)=_
  rw [partsM_yes (by assumption),show i=cuts.length by omega]
end Go.Proofs.YtpafacebfogkmaaGreat
namespace Go.Proofs.YtpafacebfogkmaaGreat
open Go.RowKit Go.Proofs.YtpafacebfogkmaaGreat.Nm
set_option maxRecDepth 10000
theorem l04Copy_ok:Good1 Tryz.prog n_spec_l04Copy (roomRoomC id):=by
 refine good_ofG (tys:=tyL) (env:=[]) (envw:=[]) (envd:=[]) [3] [] [] [] [] mixed tys trivial trivial trivial Tryz.func55 rfl (by kernel_rfl) (by decide) (by kernel_rfl) ?_
 have hG_:=kpz [(0,[1,2]),(1,[2])] [(0,[2]),(1,[2,3])] [] []
 rintro ⟨(xs:List Pt),⟨⟩⟩ (h1:xs.length≤_)
 (repeat' (first|(with_reducible first|exact True.intro|refine zQ ?_|(refine zG hG_ ?_;intro K_ hK_)|(refine zR ?_;intro K_ hK_)|(refine hK_ _ _ ?_;try clear hK_ K_)|refine sq_n ?_|refine sq_r ?_|refine sq_e ?_|refine bq_n ?_|refine bq_r ?_|refine bq_q ?_|refine zB ?_|refine zX ?_|refine zT ?_|refine zK ?_|refine gq_n ?_|refine gq_r ?_|refine gq_e ?_|refine lq_n ?_|refine lq_r ?_|refine lq_e ?_|refine bq_e (by decide) ?_)|((with_reducible refine zC (b:=?b_) ?hb_ ?_ ?_);case hb_=>rfl)|((conv=>whnf);first|(with_reducible refine hK_ _ _ ?_;try clear hK_ K_)|(with_reducible refine fun (g_:Sl) (o_:Ow)=>?_)|(with_reducible first|exact True.intro|refine And.intro trivial ?_|refine And.intro ?_ ?_)|exact Nat.le_of_ble_eq_true rfl|exact Or.inl rfl|(intro h_;cases h_)|(intro h_;(try simp only [vS1] at h_))|rfl))) <;> (try (conv=>whnf)) <;> (try first|change (_:Int)≤_|change (_:Nat)≤_) <;> (try ((fail_if_success (with_reducible apply Exists.intro));(try dsimp only);(try simp only [vS1]))) <;> (try simp (disch:=omega) only [vS3,vS2] at *)
 all_goals (try (fail_if_success (with_reducible apply Exists.intro));first|with_reducible assumption|omega|exact mdl (by omega)|exact ilo1 (by omega)|exact ilo2 (by omega)|exact ihi1 (by omega) (by omega)|exact ihi2 (by omega) (by omega))
end Go.Proofs.YtpafacebfogkmaaGreat
namespace Go.Proofs.YtpafacebfogkmaaGreat
open Go.RowKit Go.Proofs.YtpafacebfogkmaaGreat.Nm
set_option maxRecDepth 10000
set_option maxHeartbeats 4000000
def shapeM (k:Int):List Pt:=
 if k=0 then [(0,0),(4,0),(4,4),(0,4)] else
 if k=1 then [(0,0),(5,0),(2,4)] else
 if k=2 then [(0,0),(6,0),(6,2),(2,2),(2,6),(0,6)] else
 if k=3 then [(0,0),(8,0),(8,6),(4,2),(0,6)] else
 if k=4 then [(0,0),(10,0),(10,5),(8,1),(5,5),(2,1),(0,5)] else
 if k=5 then [(0,0),(7,0),(7,7),(1,7),(1,3),(3,3),(3,5),(5,5),(5,2),(0,2)] else
 if k=6 then [(0,0),(4,2),(8,0),(5,3),(4,7),(3,3)] else [(0,0),(6,1),(7,4),(3,6),(1,3)]
def l04ShapeC:Con:=mkCon [.int] (fun _=>True) fun x=>.val (.agg [.d (.sl none (.b .pt) (shapeM x.1))])
theorem l04Shape_ok:Good1 Tryz.prog n_spec_l04Shape l04ShapeC:=by
 refine good_ofG (tys:=tyL) (env:=[]) (envw:=[]) (envd:=[]) [] [] [] [] [] mixed tys trivial trivial trivial Tryz.func53 rfl (by kernel_rfl) (by decide) (by kernel_rfl) ?_
 have hG_:=kpz [(0,[0,2]),(1,[2,3]),(2,[2,3,4]),(3,[2]),(4,[2,3,12]),(5,[2]),(6,[2,3,19]),(7,[2]),(8,[2,3,29]),(9,[2]),(10,[2,3,38]),(11,[2]),(12,[2,3,49]),(13,[2]),(14,[2,63]),(15,[2]),(16,[2])] [(0,[2]),(1,[2]),(2,[2]),(3,[2]),(4,[2]),(5,[2]),(6,[2]),(7,[2]),(8,[2]),(9,[2]),(10,[2]),(11,[2]),(12,[2]),(13,[2]),(14,[2]),(15,[2]),(16,[2])] [] []
 rintro ⟨(k:Int),⟨⟩⟩ -
 (repeat' (first|(with_reducible first|exact True.intro|refine zQ ?_|(refine zG hG_ ?_;intro K_ hK_)|(refine zR ?_;intro K_ hK_)|(refine hK_ _ _ ?_;try clear hK_ K_)|refine sq_n ?_|refine sq_r ?_|refine sq_e ?_|refine bq_n ?_|refine bq_r ?_|refine bq_q ?_|refine zB ?_|refine zX ?_|refine zT ?_|refine zK ?_|refine gq_n ?_|refine gq_r ?_|refine gq_e ?_|refine lq_n ?_|refine lq_r ?_|refine lq_e ?_|refine bq_e (by decide) ?_)|((with_reducible refine zC (b:=?b_) ?hb_ ?_ ?_);case hb_=>rfl)|((conv=>whnf);first|(with_reducible refine hK_ _ _ ?_;try clear hK_ K_)|(with_reducible refine fun (g_:Sl) (o_:Ow)=>?_)|(with_reducible first|exact True.intro|refine And.intro trivial ?_|refine And.intro ?_ ?_)|exact Nat.le_of_ble_eq_true rfl|exact Or.inl rfl|(intro h_;cases h_)|(intro h_;(try simp only [vS1] at h_))|rfl))) <;> (try (conv=>whnf)) <;> (try first|change (_:Int)≤_|change (_:Nat)≤_) <;> (try ((fail_if_success (with_reducible apply Exists.intro));(try dsimp only);(try simp only [vS1])))
 all_goals (try (fail_if_success (with_reducible apply Exists.intro));first|with_reducible assumption|omega|exact mdl (by omega)|exact ilo1 (by omega)|exact ilo2 (by omega)|exact ihi1 (by omega) (by omega)|exact ihi2 (by omega) (by omega))
 all_goals first
  | (have e:=eq_of_beq h_;subst e;rfl)
  | (unfold shapeM;simp_all;rfl)
def stepX (xs:List Pt) (c:Cur):List Pt:=
 xs.set (belowX c xs.length).toNat ((xs.getD (belowX c xs.length).toNat (0,0)).1 + belowX (belowC c xs.length) 3 - 1,(xs.getD (belowX c xs.length).toNat (0,0)).2 + belowX (belowC (belowC c xs.length) 3) 3 - 1)
def stepC (n:Int) (c:Cur):Cur:=belowC (belowC (belowC c n) 3) 3
def stepR (s:List Pt × Cur):List Pt × Cur:=(if roomOk (stepX s.1 s.2) then stepX s.1 s.2 else s.1,stepC s.1.length s.2)
def iterR (s:List Pt × Cur):Nat→List Pt × Cur
 | 0=>s
 | j + 1=>stepR (iterR s j)
def turnP (turn:Int) (p:Pt):Pt:=if turn=1 then (-p.2,p.1) else if turn=2 then (-p.1,-p.2) else p
def laidP (turn dx:Int) (p:Pt):Pt:=((turnP turn p).1 + dx,(turnP turn p).2)
def laidAt (xs:List Pt) (turn first dx:Int) (k:Nat):Pt:=laidP turn dx (xs.getD ((first.toNat + k) % xs.length) (0,0))
def laidR (xs:List Pt) (turn first dx:Int):List Pt:=(List.range xs.length).map (laidAt xs turn first dx)
def room0 (c:Cur):List Pt × Cur:=(shapeM (belowX c 8),belowC (belowC c 8) 4)
def roomK (c:Cur):Int:=belowX (belowC c 8) 4
def roomS (c:Cur):List Pt × Cur:=iterR (room0 c) (roomK c).toNat
def roomX (c:Cur):List Pt:=
 laidR (roomS c).1 (belowX (roomS c).2 4) (belowX (belowC (roomS c).2 4) (roomS c).1.length) (belowX (belowC (belowC (roomS c).2 4) (roomS c).1.length) 5 - 2)
def roomC (c:Cur):Cur:=belowC (belowC (belowC (roomS c).2 4) (roomS c).1.length) 5
theorem stepX_len (xs:List Pt) (c:Cur):(stepX xs c).length=xs.length:=List.length_set ..
theorem stepR_len (s:List Pt × Cur):(stepR s).1.length=s.1.length:=by
 unfold stepR
 simp only
 split
 ·exact stepX_len _ _
 ·rfl
theorem iterR_len (s:List Pt × Cur):∀ j,(iterR s j).1.length=s.1.length
 | 0=>rfl
 | j + 1=>(stepR_len _).trans (iterR_len s j)
theorem stepC_ok {n:Int} {c:Cur} (h:curOk c):curOk (stepC n c):=belowC_ok (belowC_ok (belowC_ok h))
theorem iterR_cur {s:List Pt × Cur} (h:curOk s.2):∀ j,curOk (iterR s j).2
 | 0=>h
 | j + 1=>stepC_ok (iterR_cur h j)
theorem shape_len (k:Int):3≤(shapeM k).length∧(shapeM k).length≤10:=by
 unfold shapeM
 repeat' split
 all_goals decide
def setXY (xs:List Pt) (i:Nat) (a b:Int):List Pt:=
 (xs.set i (W (W ((xs.getD i (0,0)).1 + a) - 1),(xs.getD i (0,0)).2)).set i
  (((xs.set i (W (W ((xs.getD i (0,0)).1 + a) - 1),(xs.getD i (0,0)).2)).getD i (0,0)).1,
   W (W (((xs.set i (W (W ((xs.getD i (0,0)).1 + a) - 1),(xs.getD i (0,0)).2)).getD i (0,0)).2 + b) - 1))
theorem pt_room {xs:List Pt} (hr:roomOk xs=true) {i:Nat} (hi:i < xs.length):-40≤(xs.getD i (0,0)).1∧(xs.getD i (0,0)).1≤40∧-40≤(xs.getD i (0,0)).2∧(xs.getD i (0,0)).2≤40:=by
 rw [getD_lt _ hi]
 exact ptOk_iff.1 (List.all_eq_true.1 (roomOk_iff.1 hr).2.1 _ (List.getElem_mem hi))
theorem setXY_eq {xs:List Pt} (hr:roomOk xs=true) {i:Nat} (hi:i < xs.length) {a b:Int} (ha:0≤a∧a < 3) (hb:0≤b∧b < 3) :
  setXY xs i a b=xs.set i ((xs.getD i (0,0)).1 + a - 1,(xs.getD i (0,0)).2 + b - 1):=by
 have h:=pt_room hr hi
 have g:∀ x:Pt,(xs.set i x).getD i (0,0)=x:=fun x=>by rw [getD_lt _ (by rw [List.length_set];exact hi),List.getElem_set_self]
 unfold setXY
 rw [List.set_set,g]
 simp only [W_l3]
 rw [W_in (by omega) (by omega),W_in (by omega) (by omega)]
theorem shape_ok (k:Int):roomOk (shapeM k)=true:=by
 unfold shapeM
 repeat' split
 all_goals decide +kernel
theorem iterR_ok {s:List Pt × Cur} (h:roomOk s.1=true):∀ j,roomOk (iterR s j).1=true
 | 0=>h
 | j + 1=>by
  show roomOk (stepR (iterR s j)).1=true
  unfold stepR
  simp only
  split
  ·assumption
  ·exact iterR_ok h j
theorem stepX_setXY {xs:List Pt} (hr:roomOk xs=true) (c:Cur):setXY xs (belowX c xs.length).toNat (belowX (belowC c xs.length) 3) (belowX (belowC (belowC c xs.length) 3) 3)=stepX xs c:=by
 have h3:=(roomOk_iff.1 hr).1
 have hb:=below_bd (c:=c) (n:=(xs.length:Int)) (by omega)
 exact setXY_eq hr (by omega) (below_bd (by decide)) (below_bd (by decide))
theorem rng1 {f:Nat→Pt} {x:Pt} (h:x=f 0):[x]=(List.range (0 + 1)).map f:=by rw [h];rfl
theorem rngS {f:Nat→Pt} {k:Nat} {x:Pt} (h:x=f k):(List.range k).map f ++ [x]=(List.range (k + 1)).map f:=by
 rw [List.range_succ,List.map_append,h];rfl
theorem laid_1 {xs:List Pt} (hr:roomOk xs=true) {turn first dx:Int} {k m:Nat} (ht:(turn == 1)=true) (hm:m=(first.toNat + k) % xs.length) (hdx:-2≤dx∧dx≤2) :
  (W (W (0 - (xs.getD m (0,0)).2) + dx),(xs.getD m (0,0)).1)=laidAt xs turn first dx k:=by
 have h3:=(roomOk_iff.1 hr).1
 have h:=pt_room hr (i:=m) (by rw [hm];exact Nat.mod_lt _ (by omega))
 unfold laidAt laidP turnP W
 rw [← hm,if_pos (eq_of_beq ht),W_l1,W_in (by omega) (by omega)]
 simp
theorem laid_2 {xs:List Pt} (hr:roomOk xs=true) {turn first dx:Int} {k m:Nat} (hn:(turn == 1)=false) (ht:(turn == 2)=true) (hm:m=(first.toNat + k) % xs.length) (hdx:-2≤dx∧dx≤2) :
  (W (W (0 - (xs.getD m (0,0)).1) + dx),W (0 - (xs.getD m (0,0)).2))=laidAt xs turn first dx k:=by
 have h3:=(roomOk_iff.1 hr).1
 have h:=pt_room hr (i:=m) (by rw [hm];exact Nat.mod_lt _ (by omega))
 unfold laidAt laidP turnP W
 rw [← hm,if_neg (ne_of_beq_false hn),if_pos (eq_of_beq ht),W_l1,W_in (by omega) (by omega),W_in (by omega) (by omega)]
 simp
theorem laid_0 {xs:List Pt} (hr:roomOk xs=true) {turn first dx:Int} {k m:Nat} (hn:(turn == 1)=false) (ht:(turn == 2)=false) (hm:m=(first.toNat + k) % xs.length) (hdx:-2≤dx∧dx≤2) :
  (W ((xs.getD m (0,0)).1 + dx),(xs.getD m (0,0)).2)=laidAt xs turn first dx k:=by
 have h3:=(roomOk_iff.1 hr).1
 have h:=pt_room hr (i:=m) (by rw [hm];exact Nat.mod_lt _ (by omega))
 unfold laidAt laidP turnP W
 rw [← hm,if_neg (ne_of_beq_false hn),if_neg (ne_of_beq_false ht),W_in (by omega) (by omega)]
def l04RoomC:ConD:=mkConB [.cur] 0 t_spec_l01Cur (fun x=>curOk x.1) (fun x=>.agg [.d (.sl none (.b .pt) (roomX x.1))]) fun x=>curL (roomC x.1)
theorem l04Room_ok:GoodD Tryz.prog n_spec_l04Room l04RoomC:=by
 refine good_ofB (tys:=tyL) (env:=[(n_spec_l04Shape,l04ShapeC),(n_spec_l04Copy,(roomRoomC id)),(n_spec_RoomOk,roomOkC)]) (envw:=[]) (envd:=[(n_spec_l01Below,l01BelowC)]) [15,21,28,30,41,56,66,69,71,1000] [13,15,21,28,41,56,66,69,71,1000] [31,32,34,35,37,38,39,44,45,46,47,49,50,52,53,54,59,60] [] [15,21,28,41,56,66,69,71] mixed tys ⟨l04Shape_ok,l04Copy_ok,sRoomOk_ok,trivial⟩ trivial ⟨l01Below_ok,trivial⟩ Tryz.func23 rfl (by kernel_rfl) ⟨by decide,rfl⟩ (by kernel_rfl) ?_
 have hG_:=kpz [(0,[0,2]),(1,[0,2,3]),(2,[0,2,3,4]),(3,[0,2,3,4,5]),(4,[0,2,3,4,5,23]),(5,[0,2,3,4,5]),(6,[0,2,3,4,5,6]),(7,[0,2,3,4,5,6,7]),(8,[0,2,3,4,5,6,7]),(9,[0,2,3,4,5,7]),(10,[0,2,3,4,5,7,62]),(11,[0,2,3,4,5]),(12,[0,2,3,4,8]),(13,[0,2,3,4,8,9]),(14,[0,2,3,4,8,9,10]),(15,[2,3,4,8,9,10,11]),(16,[2,3,4,8,9,10,11,12]),(17,[2,3,4,8,9,10,11,12,75]),(18,[2,3,4,8,9,10,11,12]),(19,[2,3,4,8,9,10,11,12,13]),(20,[2,3,4,8,9,10,11,12,13,87]),(21,[2,3,4,8,9,10,11,12,13,87,88]),(22,[2,3,4,8,9,10,11,12,13]),(23,[2,3,4,8,9,10,11,12,13,96]),(24,[2,3,4,8,9,10,11,12,13]),(25,[2,3,4,8,9,10,11,12,13]),(26,[2,3,4,8,9,10,11,12]),(27,[2])] [(0,[2,1000]),(1,[2,3,1000]),(2,[2,3,1000]),(3,[2,3,1000]),(4,[2,3,1000]),(5,[2,3,30,1000]),(6,[2,3,1000]),(7,[2,3,7,30,1000]),(8,[2,3,7,30,1000]),(9,[2,3,7,30,1000]),(10,[2,3,7,30,1000]),(11,[2,3,30,1000]),(12,[2,3,8,1000]),(13,[2,3,8,1000]),(14,[2,3,8,1000]),(15,[2,3,8,1000]),(16,[2,3,8,1000]),(17,[2,3,8,1000]),(18,[2,3,8,1000]),(19,[2,3,8,13,1000]),(20,[2,3,8,13,1000]),(21,[2,3,8,13,1000]),(22,[2,3,8,13,1000]),(23,[2,3,8,13,1000]),(24,[2,3,8,13,1000]),(25,[2,3,8,13,1000]),(26,[2,3,8,1000]),(27,[2,1000])] [(11,[30])] []
 rintro ⟨⟨(bs:List Int),(i:Int),(h:Int)⟩,⟨⟩⟩ (hc:curOk (bs,i,h))
 have hb1:0≤roomK (bs,i,h)∧roomK (bs,i,h) < 4:=below_bd (c:=belowC (bs,i,h) 8) (n:=4) (by decide)
 have hl0:3≤(room0 (bs,i,h)).1.length∧(room0 (bs,i,h)).1.length≤10:=shape_len _
 have h1:curOk (belowC (bs,i,h) 8):=belowC_ok hc
 have hlen:=iterR_len (room0 (bs,i,h))
 have hcur:∀ j,curOk (iterR (room0 (bs,i,h)) j).2:=iterR_cur (s:=room0 (bs,i,h)) (show curOk (belowC (belowC (bs,i,h) 8) 4) from belowC_ok (belowC_ok hc))
 (repeat' (first|(with_reducible first|exact True.intro|refine zQ ?_|(refine zG hG_ ?_;intro K_ hK_)|(refine zR ?_;intro K_ hK_)|(refine hK_ _ _ ?_;try clear hK_ K_)|refine sq_n ?_|refine sq_r ?_|refine sq_e ?_|refine bq_n ?_|refine bq_r ?_|refine bq_q ?_|refine zB ?_|refine zX ?_|refine zT ?_|refine zK ?_|refine gq_n ?_|refine gq_r ?_|refine gq_e ?_|refine lq_n ?_|refine lq_r ?_|refine lq_e ?_|refine bq_e (by decide) ?_)|((with_reducible refine zC (b:=?b_) ?hb_ ?_ ?_);case hb_=>rfl)|((conv=>whnf);first|(with_reducible refine hK_ _ _ ?_;try clear hK_ K_)|(with_reducible refine fun (g_:Sl) (o_:Ow)=>?_)|(with_reducible first|exact True.intro|refine And.intro trivial ?_|refine And.intro ?_ ?_)|exact Nat.le_of_ble_eq_true rfl|exact Or.inl rfl|(intro h_;cases h_)|(intro h_;(try simp only [vS1] at h_))|rfl))) <;> (try (conv=>whnf)) <;> (try first|change (_:Int)≤_|change (_:Nat)≤_) <;> (try ((fail_if_success (with_reducible apply Exists.intro));(try dsimp only);(try simp only [vS1])))
 all_goals (try (fail_if_success (with_reducible apply Exists.intro));first|with_reducible assumption|omega|exact mdl (by omega)|exact ilo1 (by omega)|exact ilo2 (by omega)|exact ihi1 (by omega) (by omega)|exact ihi2 (by omega) (by omega))
 refine awp'_loopG (α:=Nat) (fun j ver_=>[(5,vInt (roomK (bs,i,h) - j)),(4,vInt ((iterR (room0 (bs,i,h)) j).1.length:Nat))]) (fun j ver_=>[(3,3,true,.box t_impl_Room [.d (.sl none (.b .pt) (iterR (room0 (bs,i,h)) j).1)])]) (fun j ver_=>[(1000,⟨0,.box t_spec_l01Cur ((curL (iterR (room0 (bs,i,h)) j).2).map .d)⟩),(13,⟨ver_ 13,.dead⟩)]) (fun j=>j≤(roomK (bs,i,h)).toNat) (fun j=>(roomK (bs,i,h)).toNat - j) [0,2] [2] (0) ?_
 conv=>whnf
 refine ⟨⟨?inv1_,?vals1_,?own1_,?fix1_⟩,?body1_⟩
 case' vals1_=>(repeat' (first|(with_reducible first|exact True.intro|refine And.intro ?_ ?_|refine Head.mk ?_ ?_ ?_ ?_)|((conv=>lhs;whnf);first|(with_reducible first|rfl|exact vInt_s (by omega))|exact rfl)|((conv=>whnf);first|(with_reducible first|exact True.intro|refine And.intro ?_ ?_)))) <;> (try (conv=>lhs;whnf))
 case' own1_=>(repeat' (first|(with_reducible first|exact True.intro|refine And.intro ?_ ?_|refine Head.mk ?_ ?_ ?_ ?_)|((conv=>lhs;whnf);first|(with_reducible first|rfl|exact vInt_s (by omega))|exact rfl)|((conv=>whnf);first|(with_reducible first|exact True.intro|refine And.intro ?_ ?_)))) <;> (try (conv=>lhs;whnf))
 case' fix1_=>(repeat' (first|(with_reducible first|exact True.intro|refine And.intro ?_ ?_|refine Head.mk ?_ ?_ ?_ ?_)|((conv=>lhs;whnf);first|(with_reducible first|rfl|exact vInt_s (by omega))|exact rfl)|((conv=>whnf);first|(with_reducible first|exact True.intro|refine And.intro ?_ ?_)))) <;> (try (conv=>lhs;whnf))
 ·exact (Int.sub_zero _).symm ▸ rfl
 ·exact Nat.zero_le _
 rintro j g_ o_ v_ hj
 have hn:=hlen j
 have hcj:=hcur j
 have hrj:=iterR_ok (s:=room0 (bs,i,h)) (shape_ok _) j
 generalize hs:iterR (room0 (bs,i,h)) j=s at *
 have hstep:iterR (room0 (bs,i,h)) (j + 1)=stepR s:=by show stepR _=_;rw [hs]
 obtain ⟨xs,c⟩:=s
 have hc1:curOk (belowC c (xs.length:Int)):=belowC_ok hcj
 have hc2:curOk (belowC (belowC c (xs.length:Int)) 3):=belowC_ok hc1
 have hx3:3≤xs.length∧xs.length≤10:=by have:xs.length=_:=hn;omega
 have hbx:=below_bd (c:=c) (n:=(xs.length:Int)) (by omega)
 (repeat' (first|(with_reducible first|exact True.intro|refine zQ ?_|(refine zG hG_ ?_;intro K_ hK_)|(refine zR ?_;intro K_ hK_)|(refine hK_ _ _ ?_;try clear hK_ K_)|refine sq_n ?_|refine sq_r ?_|refine sq_e ?_|refine bq_n ?_|refine bq_r ?_|refine bq_q ?_|refine zB ?_|refine zX ?_|refine zT ?_|refine zK ?_|refine gq_n ?_|refine gq_r ?_|refine gq_e ?_|refine lq_n ?_|refine lq_r ?_|refine lq_e ?_|refine bq_e (by decide) ?_)|((with_reducible refine zC (b:=?b_) ?hb_ ?_ ?_);case hb_=>rfl)|((conv=>whnf);first|(with_reducible refine hK_ _ _ ?_;try clear hK_ K_)|(with_reducible refine fun (g_:Sl) (o_:Ow)=>?_)|(with_reducible first|exact True.intro|refine And.intro trivial ?_|refine And.intro ?_ ?_)|exact Nat.le_of_ble_eq_true rfl|exact Or.inl rfl|(intro h_;cases h_)|(intro h_;(try simp only [vS1] at h_))|rfl))) <;> (try (conv=>whnf)) <;> (try first|change (_:Int)≤_|change (_:Nat)≤_) <;> (try ((fail_if_success (with_reducible apply Exists.intro));(try dsimp only);(try simp only [vS1])))
 all_goals (try (fail_if_success (with_reducible apply Exists.intro));first|with_reducible assumption|omega|exact mdl (by omega)|exact ilo1 (by omega)|exact ilo2 (by omega)|exact ihi1 (by omega) (by omega)|exact ihi2 (by omega) (by omega))
 all_goals (try (simp only [id_eq,List.length_set];omega))
 ·have hE:=stepX_setXY hrj c
  have h_:roomOk (setXY xs (belowX c xs.length).toNat (belowX (belowC c xs.length) 3) (belowX (belowC (belowC c xs.length) 3) 3))=true:=h_
  rw [hE] at h_
  have e1:iterR (room0 (bs,i,h)) (j + 1)=(stepX xs c,stepC xs.length c):=by rw [hstep];unfold stepR;simp only;rw [if_pos h_]
  refine ⟨j + 1,by omega,by omega,?_⟩
  rw [e1]
  (repeat' (first|(with_reducible first|exact True.intro|refine And.intro ?_ ?_|refine Head.mk ?_ ?_ ?_ ?_)|((conv=>lhs;whnf);first|(with_reducible first|rfl|exact vInt_s (by omega))|exact rfl)|((conv=>whnf);first|(with_reducible first|exact True.intro|refine And.intro ?_ ?_)))) <;> (try (conv=>lhs;whnf))
  ·exact congrArg vInt (by rw [W_in (by omega) (by omega)];omega)
  ·exact congrArg vInt (by show ((xs.length:Nat):Int)=((stepX xs c).length:Int);rw [stepX_len])
  ·exact congrArg (fun l=>Own.box t_impl_Room [.d (.sl none (.b .pt) l)]) hE
 ·have hE:=stepX_setXY hrj c
  have h_:roomOk (setXY xs (belowX c xs.length).toNat (belowX (belowC c xs.length) 3) (belowX (belowC (belowC c xs.length) 3) 3))=false:=h_
  rw [hE] at h_
  have e1:iterR (room0 (bs,i,h)) (j + 1)=(xs,stepC xs.length c):=by rw [hstep];unfold stepR;simp only;rw [if_neg (by rw [h_];decide)]
  refine ⟨j + 1,by omega,by omega,?_⟩
  rw [e1]
  (repeat' (first|(with_reducible first|exact True.intro|refine And.intro ?_ ?_|refine Head.mk ?_ ?_ ?_ ?_)|((conv=>lhs;whnf);first|(with_reducible first|rfl|exact vInt_s (by omega))|exact rfl)|((conv=>whnf);first|(with_reducible first|exact True.intro|refine And.intro ?_ ?_)))) <;> (try (conv=>lhs;whnf))
  ·exact congrArg vInt (by rw [W_in (by omega) (by omega)];omega)
 ·exact belowC_ok hcj
 ·exact belowC_ok (belowC_ok hcj)
 have hj2:j=(roomK (bs,i,h)).toNat:=by omega
 have hS:roomS (bs,i,h)=(xs,c):=by unfold roomS;rw [← hj2];exact hs
 have b1:=below_bd (c:=c) (n:=4) (by decide)
 have b2:=below_bd (c:=belowC c 4) (n:=(xs.length:Int)) (by omega)
 have b3:=below_bd (c:=belowC (belowC c 4) xs.length) (n:=5) (by decide)
 have hX:roomX (bs,i,h)=laidR xs (belowX c 4) (belowX (belowC c 4) xs.length) (belowX (belowC (belowC c 4) xs.length) 5 - 2):=by unfold roomX;rw [hS]
 have hC:roomC (bs,i,h)=belowC (belowC (belowC c 4) xs.length) 5:=by unfold roomC;rw [hS]
 generalize hT:belowX c 4=turn at *
 generalize hF:belowX (belowC c 4) xs.length=first at *
 generalize hD:belowX (belowC (belowC c 4) xs.length) 5=dx at *
 refine awp'_loopG (α:=Nat) (fun k ver_=>[(4,vInt (xs.length:Nat)),(9,vInt turn),(10,vInt first),(11,vInt (dx - 2)),(12,vInt k)]) (fun k ver_=>[(8,8,true,.box t_impl_Room [match k with|0=>.d .nil|_ + 1=>.own 114 (ver_ 114)])]) (fun k ver_=>match k with|0=>[]|_ + 1=>[(114,⟨ver_ 114,.row t_impl_Point (.b .pt) ((List.range k).map (laidAt xs turn first (dx - 2)))⟩)]) (fun k=>k≤xs.length) (fun k=>xs.length - k) [2,3] [2,3,1000] (0) ?_
 conv=>whnf
 refine ⟨⟨?inv2_,?vals2_,?own2_,?fix2_⟩,?body2_⟩
 case' vals2_=>(repeat' (first|(with_reducible first|exact True.intro|refine And.intro ?_ ?_|refine Head.mk ?_ ?_ ?_ ?_)|((conv=>lhs;whnf);first|(with_reducible first|rfl|exact vInt_s (by omega))|exact rfl)|((conv=>whnf);first|(with_reducible first|exact True.intro|refine And.intro ?_ ?_)))) <;> (try (conv=>lhs;whnf))
 case' own2_=>(repeat' (first|(with_reducible first|exact True.intro|refine And.intro ?_ ?_|refine Head.mk ?_ ?_ ?_ ?_)|((conv=>lhs;whnf);first|(with_reducible first|rfl|exact vInt_s (by omega))|exact rfl)|((conv=>whnf);first|(with_reducible first|exact True.intro|refine And.intro ?_ ?_)))) <;> (try (conv=>lhs;whnf))
 case' fix2_=>(repeat' (first|(with_reducible first|exact True.intro|refine And.intro ?_ ?_|refine Head.mk ?_ ?_ ?_ ?_)|((conv=>lhs;whnf);first|(with_reducible first|rfl|exact vInt_s (by omega))|exact rfl)|((conv=>whnf);first|(with_reducible first|exact True.intro|refine And.intro ?_ ?_)))) <;> (try (conv=>lhs;whnf))
 ·exact congrArg vInt (W_in (by omega) (by omega))
 ·exact Nat.zero_le _
 have hix:∀ k:Nat,k < xs.length→Int.tmod (W (first + (k:Int))) (xs.length:Int)=(((first.toNat + k) % xs.length:Nat):Int):=fun k hk=>by
  rw [show first=((first.toNat:Nat):Int) by omega]
  exact mod_nat (by omega)
 have hlt:∀ k:Nat,((first.toNat + k) % xs.length) < xs.length:=fun k=>Nat.mod_lt _ (by omega)
 have hin:∀ k:Nat,k < xs.length→0≤Int.tmod (W (first + (k:Int))) (xs.length:Int)∧Int.tmod (W (first + (k:Int))) (xs.length:Int) + 1≤(xs.length:Int):=fun k hk=>by
  have:=hlt k
  rw [hix k hk];omega
 have him:∀ k:Nat,k < xs.length→(Int.tmod (W (first + (k:Int))) (xs.length:Int)).toNat=(first.toNat + k) % xs.length:=fun k hk=>by rw [hix k hk];exact Int.toNat_natCast _
 rintro (_|k) g_ o_ v_ hk
 ·
  have hG_:=kpz [(0,[0,2]),(1,[0,2,3]),(2,[0,2,3,4]),(3,[0,2,3,4,5]),(4,[0,2,3,4,5,23]),(5,[0,2,3,4,5]),(6,[0,2,3,4,5,6]),(7,[0,2,3,4,5,6,7]),(8,[0,2,3,4,5,6,7]),(9,[0,2,3,4,5,7]),(10,[0,2,3,4,5,7,62]),(11,[0,2,3,4,5]),(12,[0,2,3,4,8]),(13,[0,2,3,4,8,9]),(14,[0,2,3,4,8,9,10]),(15,[2,3,4,8,9,10,11]),(16,[2,3,4,8,9,10,11,12]),(17,[2,3,4,8,9,10,11,12,75]),(18,[2,3,4,8,9,10,11,12]),(19,[2,3,4,8,9,10,11,12,13]),(20,[2,3,4,8,9,10,11,12,13,87]),(21,[2,3,4,8,9,10,11,12,13,87,88]),(22,[2,3,4,8,9,10,11,12,13]),(23,[2,3,4,8,9,10,11,12,13,96]),(24,[2,3,4,8,9,10,11,12,13]),(25,[2,3,4,8,9,10,11,12,13]),(26,[2,3,4,8,9,10,11,12]),(27,[2])] [(0,[2,1000]),(1,[2,3,1000]),(2,[2,3,1000]),(3,[2,3,1000]),(4,[2,3,1000]),(5,[2,3,30,1000]),(6,[2,3,1000]),(7,[2,3,7,30,1000]),(8,[2,3,7,30,1000]),(9,[2,3,7,30,1000]),(10,[2,3,7,30,1000]),(11,[2,3,30,1000]),(12,[2,3,8,1000]),(13,[2,3,8,1000]),(14,[2,3,8,1000]),(15,[2,3,8,1000]),(16,[2,3,8,1000]),(17,[2,3,8,1000]),(18,[2,3,8,114,1000]),(19,[2,3,8,13,1000]),(20,[2,3,8,13,1000]),(21,[2,3,8,13,1000]),(22,[2,3,8,13,1000]),(23,[2,3,8,13,1000]),(24,[2,3,8,13,1000]),(25,[2,3,8,13,1000]),(26,[2,3,8,114,1000]),(27,[2,1000])] [(11,[30])] []
  (repeat' (first|(with_reducible first|exact True.intro|refine zQ ?_|(refine zG hG_ ?_;intro K_ hK_)|(refine zR ?_;intro K_ hK_)|(refine hK_ _ _ ?_;try clear hK_ K_)|refine sq_n ?_|refine sq_r ?_|refine sq_e ?_|refine bq_n ?_|refine bq_r ?_|refine bq_q ?_|refine zB ?_|refine zX ?_|refine zT ?_|refine zK ?_|refine gq_n ?_|refine gq_r ?_|refine gq_e ?_|refine lq_n ?_|refine lq_r ?_|refine lq_e ?_|refine bq_e (by decide) ?_)|((with_reducible refine zC (b:=?b_) ?hb_ ?_ ?_);case hb_=>rfl)|((conv=>whnf);first|(with_reducible refine hK_ _ _ ?_;try clear hK_ K_)|(with_reducible refine fun (g_:Sl) (o_:Ow)=>?_)|(with_reducible first|exact True.intro|refine And.intro trivial ?_|refine And.intro ?_ ?_)|exact Nat.le_of_ble_eq_true rfl|exact Or.inl rfl|(intro h_;cases h_)|(intro h_;(try simp only [vS1] at h_))|rfl))) <;> (try (conv=>whnf)) <;> (try first|change (_:Int)≤_|change (_:Nat)≤_) <;> (try ((fail_if_success (with_reducible apply Exists.intro));(try dsimp only);(try simp only [vS1])))
  all_goals (try ((fail_if_success (with_reducible apply Exists.intro));first|with_reducible assumption|exact (hin _ (by omega)).1|exact (hin _ (by omega)).2|(simp only [List.length_map,List.length_range,List.length_singleton];omega)|omega))
  ·refine ⟨1,by omega,by omega,?_⟩
   (repeat' (first|(with_reducible first|exact True.intro|refine And.intro ?_ ?_|refine Head.mk ?_ ?_ ?_ ?_)|((conv=>lhs;whnf);first|(with_reducible first|rfl|exact vInt_s (by omega))|exact rfl)|((conv=>whnf);first|(with_reducible first|exact True.intro|refine And.intro ?_ ?_)))) <;> (try (conv=>lhs;whnf))
   exact locRow_eq (rng1 (laid_1 hrj ‹_› (him 0 (by omega)) (by omega)))
  ·refine ⟨1,by omega,by omega,?_⟩
   (repeat' (first|(with_reducible first|exact True.intro|refine And.intro ?_ ?_|refine Head.mk ?_ ?_ ?_ ?_)|((conv=>lhs;whnf);first|(with_reducible first|rfl|exact vInt_s (by omega))|exact rfl)|((conv=>whnf);first|(with_reducible first|exact True.intro|refine And.intro ?_ ?_)))) <;> (try (conv=>lhs;whnf))
   exact locRow_eq (rng1 (laid_2 hrj ‹_› ‹_› (him 0 (by omega)) (by omega)))
  ·refine ⟨1,by omega,by omega,?_⟩
   (repeat' (first|(with_reducible first|exact True.intro|refine And.intro ?_ ?_|refine Head.mk ?_ ?_ ?_ ?_)|((conv=>lhs;whnf);first|(with_reducible first|rfl|exact vInt_s (by omega))|exact rfl)|((conv=>whnf);first|(with_reducible first|exact True.intro|refine And.intro ?_ ?_)))) <;> (try (conv=>lhs;whnf))
   exact locRow_eq (rng1 (laid_0 hrj ‹_› ‹_› (him 0 (by omega)) (by omega)))
 ·
  have hG_:=kpz [(0,[0,2]),(1,[0,2,3]),(2,[0,2,3,4]),(3,[0,2,3,4,5]),(4,[0,2,3,4,5,23]),(5,[0,2,3,4,5]),(6,[0,2,3,4,5,6]),(7,[0,2,3,4,5,6,7]),(8,[0,2,3,4,5,6,7]),(9,[0,2,3,4,5,7]),(10,[0,2,3,4,5,7,62]),(11,[0,2,3,4,5]),(12,[0,2,3,4,8]),(13,[0,2,3,4,8,9]),(14,[0,2,3,4,8,9,10]),(15,[2,3,4,8,9,10,11]),(16,[2,3,4,8,9,10,11,12]),(17,[2,3,4,8,9,10,11,12,75]),(18,[2,3,4,8,9,10,11,12]),(19,[2,3,4,8,9,10,11,12,13]),(20,[2,3,4,8,9,10,11,12,13,87]),(21,[2,3,4,8,9,10,11,12,13,87,88]),(22,[2,3,4,8,9,10,11,12,13]),(23,[2,3,4,8,9,10,11,12,13,96]),(24,[2,3,4,8,9,10,11,12,13]),(25,[2,3,4,8,9,10,11,12,13]),(26,[2,3,4,8,9,10,11,12]),(27,[2])] [(0,[2,114,1000]),(1,[2,3,114,1000]),(2,[2,3,114,1000]),(3,[2,3,114,1000]),(4,[2,3,114,1000]),(5,[2,3,30,114,1000]),(6,[2,3,114,1000]),(7,[2,3,7,30,114,1000]),(8,[2,3,7,30,114,1000]),(9,[2,3,7,30,114,1000]),(10,[2,3,7,30,114,1000]),(11,[2,3,30,114,1000]),(12,[2,3,8,114,1000]),(13,[2,3,8,114,1000]),(14,[2,3,8,114,1000]),(15,[2,3,8,114,1000]),(16,[2,3,8,114,1000]),(17,[2,3,8,114,1000]),(18,[2,3,8,114,1000]),(19,[2,3,8,13,114,1000]),(20,[2,3,8,13,114,1000]),(21,[2,3,8,13,114,1000]),(22,[2,3,8,13,114,1000]),(23,[2,3,8,13,114,1000]),(24,[2,3,8,13,114,1000]),(25,[2,3,8,13,114,1000]),(26,[2,3,8,114,1000]),(27,[2,114,1000])] [(11,[30])] []
  (repeat' (first|(with_reducible first|exact True.intro|refine zQ ?_|(refine zG hG_ ?_;intro K_ hK_)|(refine zR ?_;intro K_ hK_)|(refine hK_ _ _ ?_;try clear hK_ K_)|refine sq_n ?_|refine sq_r ?_|refine sq_e ?_|refine bq_n ?_|refine bq_r ?_|refine bq_q ?_|refine zB ?_|refine zX ?_|refine zT ?_|refine zK ?_|refine gq_n ?_|refine gq_r ?_|refine gq_e ?_|refine lq_n ?_|refine lq_r ?_|refine lq_e ?_|refine bq_e (by decide) ?_)|((with_reducible refine zC (b:=?b_) ?hb_ ?_ ?_);case hb_=>rfl)|((conv=>whnf);first|(with_reducible refine hK_ _ _ ?_;try clear hK_ K_)|(with_reducible refine fun (g_:Sl) (o_:Ow)=>?_)|(with_reducible first|exact True.intro|refine And.intro trivial ?_|refine And.intro ?_ ?_)|exact Nat.le_of_ble_eq_true rfl|exact Or.inl rfl|(intro h_;cases h_)|(intro h_;(try simp only [vS1] at h_))|rfl))) <;> (try (conv=>whnf)) <;> (try first|change (_:Int)≤_|change (_:Nat)≤_) <;> (try ((fail_if_success (with_reducible apply Exists.intro));(try dsimp only);(try simp only [vS1])))
  all_goals (try ((fail_if_success (with_reducible apply Exists.intro));first|with_reducible assumption|exact (hin _ (by omega)).1|exact (hin _ (by omega)).2|(simp only [List.length_map,List.length_range,List.length_singleton];omega)|omega))
  ·refine ⟨k + 2,by omega,by omega,?_⟩
   (repeat' (first|(with_reducible first|exact True.intro|refine And.intro ?_ ?_|refine Head.mk ?_ ?_ ?_ ?_)|((conv=>lhs;whnf);first|(with_reducible first|rfl|exact vInt_s (by omega))|exact rfl)|((conv=>whnf);first|(with_reducible first|exact True.intro|refine And.intro ?_ ?_)))) <;> (try (conv=>lhs;whnf))
   exact locRow_eq (rngS (laid_1 hrj ‹_› (him (k + 1) (by omega)) (by omega)))
  ·refine ⟨k + 2,by omega,by omega,?_⟩
   (repeat' (first|(with_reducible first|exact True.intro|refine And.intro ?_ ?_|refine Head.mk ?_ ?_ ?_ ?_)|((conv=>lhs;whnf);first|(with_reducible first|rfl|exact vInt_s (by omega))|exact rfl)|((conv=>whnf);first|(with_reducible first|exact True.intro|refine And.intro ?_ ?_)))) <;> (try (conv=>lhs;whnf))
   exact locRow_eq (rngS (laid_2 hrj ‹_› ‹_› (him (k + 1) (by omega)) (by omega)))
  ·refine ⟨k + 2,by omega,by omega,?_⟩
   (repeat' (first|(with_reducible first|exact True.intro|refine And.intro ?_ ?_|refine Head.mk ?_ ?_ ?_ ?_)|((conv=>lhs;whnf);first|(with_reducible first|rfl|exact vInt_s (by omega))|exact rfl)|((conv=>whnf);first|(with_reducible first|exact True.intro|refine And.intro ?_ ?_)))) <;> (try (conv=>lhs;whnf))
   exact locRow_eq (rngS (laid_0 hrj ‹_› ‹_› (him (k + 1) (by omega)) (by omega)))
  ·show dOf _=some _
   rw [hC];rfl
  ·rw [hX,show k + 1=xs.length by omega];rfl
theorem roomC_ok {c:Cur} (h:curOk c):curOk (roomC c):=belowC_ok (belowC_ok (belowC_ok (iterR_cur (s:=room0 c) (show curOk (belowC (belowC c 8) 4) from belowC_ok (belowC_ok h)) _)))
def drawRoomM (bs:List Int):List Pt:=roomX (newC bs)
def sightC0 (bs:List Int):Cur:=roomC (newC bs)
end Go.Proofs.YtpafacebfogkmaaGreat
