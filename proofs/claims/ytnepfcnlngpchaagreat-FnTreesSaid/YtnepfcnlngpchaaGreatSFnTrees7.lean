/- What the proof of 'FnTrees' needs, part 7: conditions and steps of the functions that it reaches, and the mathematics. -/
import Derived.Test.YtnepfcnlngpchaaGreatRows
import Derived.WalkKit
import Derived.WalkSpells
import Derived.Below
import Derived.Orders
import Derived.Maps.AppendAt
import Derived.Laws.StructEq
import Derived.WideShapes
import Derived.ChangeSlices
import Derived.Deep.Strs
import Derived.ChangeOld
import Derived.Shelf.SlLaysF0
import Derived.Shelf.SlSortCmp.InsertionK
import Derived.Shelf.SlSortCmp.SmallK
import Derived.Shelf.SlSortCmp.Xorshift
import Derived.Sort.LotA
import Derived.Shelf.Slices.Delete
import Derived.Shelf.Sort.Plain
import Derived.Shelf.Bits.Mul64
import Derived.Test.YtnepfcnlngpchaaGreatSFnTrees6
set_option linter.unusedSimpArgs false
set_option linter.unusedVariables false
namespace Go.Proofs.YtnepfcnlngpchaaGreat.Geo
abbrev partB (P:Poly) (m:Nat):Poly:=(P.rot m).arc (P.n - m)
theorem A_walls {P:Poly} {m:Nat} {Q:Pt→Pt→Prop}:(∀ k,k < (P.arc m).n→Q ((P.arc m).v k) ((P.arc m).v (k + 1)))↔(∀ k,k < m→Q (P.v k) (P.v (k + 1)))∧Q (P.v m) (P.v 0):=by
 constructor
 ·intro h
  refine ⟨fun k hk=>?_,?_⟩
  ·have:=h k (by show k < m + 1;omega)
   rwa [arc_v P (by omega),arc_v P (by omega)] at this
  ·have:=h m (by show m < m + 1;omega)
   rwa [arc_v P (Nat.le_refl m),arc_v0] at this
 ·rintro ⟨h1,h2⟩ k hk
  have hk:k < m + 1:=hk
  rcases (show k < m∨k=m by omega) with g|g
  ·rw [arc_v P (by omega),arc_v P (by omega)];exact h1 k g
  ·subst g;rw [arc_v P (Nat.le_refl k),arc_v0];exact h2
theorem B_v {P:Poly} {m j:Nat} (hm:m≤P.n) (hj:j≤P.n - m):(partB P m).v j=P.v (m + j):=arc_v (P.rot m) hj
theorem B_walls {P:Poly} {m:Nat} (hm:m < P.n) {Q:Pt→Pt→Prop}:(∀ k,k < (partB P m).n→Q ((partB P m).v k) ((partB P m).v (k + 1)))↔(∀ k,m≤k→k < P.n→Q (P.v k) (P.v (k + 1)))∧Q (P.v 0) (P.v m):=by
 have h:=A_walls (P:=P.rot m) (m:=P.n - m) (Q:=Q)
 have e1:(P.rot m).v (P.n - m)=P.v 0:=by show P.v (m + (P.n - m))=_;rw [show m + (P.n - m)=P.n by omega,P.vn]
 have e0:(P.rot m).v 0=P.v m:=by show P.v (m + 0)=_;rw [Nat.add_zero]
 rw [e1,e0] at h
 rw [h]
 refine and_congr ⟨fun g k h1 h2=>?_,fun g k hk=>?_⟩ Iff.rfl
 ·have:=g (k - m) (by omega)
  rwa [show (P.rot m).v (k - m)=P.v k by show P.v (m + (k - m))=_;rw [show m + (k - m)=k by omega],show (P.rot m).v (k - m + 1)=P.v (k + 1) by show P.v (m + (k - m + 1))=_;rw [show m + (k - m + 1)=k + 1 by omega]] at this
 ·exact g (m + k) (by omega) (by omega)
theorem P_walls {P:Poly} {m:Nat} (hm:m < P.n) {Q:Pt→Pt→Prop} (hA:∀ k,k < (P.arc m).n→Q ((P.arc m).v k) ((P.arc m).v (k + 1))) (hB:∀ k,k < (partB P m).n→Q ((partB P m).v k) ((partB P m).v (k + 1))):∀ k,k < P.n→Q (P.v k) (P.v (k + 1)):=fun k hk=>by
 rcases (show k < m∨m≤k by omega) with g|g
 ·exact (A_walls.1 hA).1 k g
 ·exact ((B_walls hm).1 hB).1 k g hk
theorem cut_sum (h:Aff) (P:Poly) (K:Int) {m:Nat} (hm:m≤P.n) (x:Pt):wnd h (P.sc K).way x=wnd h ((P.arc m).sc K).way x + wnd h ((partB P m).sc K).way x:=wnd_cut h (P.sc K) hm x
def OffP (P:Poly) (K:Int) (m:Pt):Prop:=∀ k,k < P.n→Off m (smul K (P.v k)) (smul K (P.v (k + 1)))
def Inn (P:Poly) (K:Int) (m:Pt):Prop:=OffP P K m∧∃ h,NC h∧wnd h (P.sc K).way m=1
theorem Outp.off {P:Poly} {K:Int} {m:Pt} (h:Outp P K m):OffP P K m:=h.1
theorem Outp.w {P:Poly} {K:Int} {m:Pt} (h:Outp P K m) {g:Aff} (hg:NC g):wnd g (P.sc K).way m=0:=by
 obtain ⟨ho,f,hf,e⟩:=h
 rw [← e];exact wnd_free hg hf ho
theorem Inn.w {P:Poly} {K:Int} {m:Pt} (h:Inn P K m) {g:Aff} (hg:NC g):wnd g (P.sc K).way m=1:=by
 obtain ⟨ho,f,hf,e⟩:=h
 rw [← e];exact wnd_free hg hf ho
def up:Aff:=⟨0,1,0⟩
theorem nc_up:NC up:=.inr (by decide)
theorem out_or_in {P:Poly} (hP:SimpleP P) (ha:0 < P.area) {K:Int} (hK:0 < K) {m:Pt} (ho:OffP P K m):Outp P K m∨Inn P K m:=by
 rcases wnd_zero_oneK hP ha hK nc_up ho with g|g
 ·exact .inl ⟨ho,up,nc_up,g⟩
 ·exact .inr ⟨ho,up,nc_up,g⟩
theorem Inn.not_out {P:Poly} {K:Int} {m:Pt} (h:Inn P K m):¬ Outp P K m:=fun o=>by
 have:=o.w nc_up
 rw [h.w nc_up] at this
 exact absurd this (by decide)
theorem OffP.scale {P:Poly} {K:Int} {m:Pt} (h:OffP P K m) {L:Int} (hL:0 < L):OffP P (L * K) (smul L m):=fun k hk=>by
 rw [← smul2,← smul2];exact (h k hk).sc hL
theorem Inn.scale {P:Poly} {K:Int} {m:Pt} (h:Inn P K m) {L:Int} (hL:0 < L):Inn P (L * K) (smul L m):=by
 obtain ⟨ho,g,hg,e⟩:=h
 exact ⟨OffP.scale ho hL,g.sc L,hg,by rw [wnd_scale g P hL];exact e⟩
theorem near {P:Poly} {K:Int} {x:Pt} (ho:OffP P K x) (d:Pt):Late fun L=>OffP P (L * K) (padd (smul L x) d)∧∀ h:Aff,wnd (h.sc L) (P.sc (L * K)).way (padd (smul L x) d)=wnd h (P.sc K).way x:=by
 have:Late fun L=>∀ k,k < P.n→Part (smul L (smul K (P.v k))) (smul L (smul K (P.v (k + 1)))) (padd (smul L x) d) (padd (smul L x) (0,0)):=Late.all fun k hk=>(ho k hk).near d (0,0)
 refine this.imp fun L hL g=>?_
 have e0:padd (smul L x) (0,0)=smul L x:=by unfold padd;simp
 rw [e0] at g
 refine ⟨fun k hk=>?_,fun h=>?_⟩
 ·have:=(g k hk).off1
  rwa [smul2,smul2] at this
 ·rw [← wnd_scale h P hL]
  refine wnd_step (h.sc L) (P.sc (L * K)).way fun k hk=>?_
  have:=g k hk
  rw [smul2,smul2] at this
  exact this
theorem wall_sides {Q:Poly} (hQ:SimpleP Q) {h:Aff} (hg:Gen h Q) {l:Int} (hl:LeftIs h Q.way l) {k:Nat} (hk:k < Q.n) {s t K:Int} (hs:0 < s) (ht:0 < t) (e:s + t=K) {x:Pt} (hx:x=padd (smul s (Q.v k)) (smul t (Q.v (k + 1)))) {d:Pt} :
  Late fun L=>(0 < turnZ (Q.v k) (Q.v (k + 1)) (padd (Q.v k) d)→wnd (h.sc (L * K)) (Q.sc (L * K)).way (padd (smul L x) d)=l∧OffP Q (L * K) (padd (smul L x) d)) ∧
   (turnZ (Q.v k) (Q.v (k + 1)) (padd (Q.v k) d) < 0→wnd (h.sc (L * K)) (Q.sc (L * K)).way (padd (smul L x) d)=l - 1∧OffP Q (L * K) (padd (smul L x) d)):=by
 have hn:=hQ.n3
 have hK:0 < K:=by omega
 have hon:OnI x (smul K (Q.v k)) (smul K (Q.v (k + 1))):=by
  refine ⟨s,t,hs,ht,?_,?_⟩
  ·rw [hx,← e];unfold padd smul;simp only;grind
  ·rw [hx,← e];unfold padd smul;simp only;grind
 have hoff:∀ j,j < Q.n→j≠k→Off x (smul K (Q.v j)) (smul K (Q.v (j + 1))):=fun j hj hjk=>by
  have:=(hQ.simple.sc hK).inn (k:=k) hk hon hon (j:=j) hj hjk
  exact this.off1
 have:Late fun L=>∀ j,j < Q.n→j≠k→Part (smul L (smul K (Q.v j))) (smul L (smul K (Q.v (j + 1)))) (padd (smul L x) d) (padd (smul L x) (0,0)):=Late.all fun j hj=>by
  by_cases hjk:j=k
  ·exact Late.of fun _ _ h=>absurd hjk h
  ·exact ((hoff j hj hjk).near d (0,0)).imp fun _ _ g _=>g
 refine this.imp fun L hL g=>?_
 have e0:padd (smul L x) (0,0)=smul L x:=by unfold padd;simp
 rw [e0] at g
 have hLK:0 < L * K:=pp hL hK
 have g':∀ j,j < Q.n→j≠k→Part (smul (L * K) (Q.v j)) (smul (L * K) (Q.v (j + 1))) (padd (smul L x) d) (smul L x):=fun j hj hjk=>by
  have:=g j hj hjk
  rwa [smul2,smul2] at this
 have honL:OnI (smul L x) (smul (L * K) (Q.v k)) (smul (L * K) (Q.v (k + 1))):=by
  have:=smul_on hL hon
  rwa [smul2,smul2] at this
 have hlam:=hl.2.1 (L * K) k (smul L x) hLK hk honL
 have hsl:Sloped (h.sc (L * K)) (Q.way.sc (L * K)):=fun j hj=>by
  have:=hg.sloped (by omega) j hj
  show (h.sc (L * K)).ev (smul (L * K) (Q.v j))≠(h.sc (L * K)).ev (smul (L * K) (Q.v (j + 1)))
  rw [ev_sc0,ev_sc0]
  exact fun e=>this (Int.eq_of_mul_eq_mul_left (by omega) e)
 have hturn:turnZ (smul (L * K) (Q.v k)) (smul (L * K) (Q.v (k + 1))) (padd (smul L x) d)=(L * K) * turnZ (Q.v k) (Q.v (k + 1)) (padd (Q.v k) d):=by
  rw [hx,← e];unfold turnZ padd smul;grind
 have off:turnZ (Q.v k) (Q.v (k + 1)) (padd (Q.v k) d)≠0→OffP Q (L * K) (padd (smul L x) d):=fun hne j hj=>by
  by_cases hjk:j=k
  ·subst hjk
   exact off_turn (by rw [hturn];exact fun e=>by rcases Int.mul_eq_zero.1 e with q|q <;> omega)
  ·exact (g' j hj hjk).off1
 refine ⟨fun hp=>⟨?_,off (by omega)⟩,fun hp=>⟨?_,off (by omega)⟩⟩
 ·have:=wnd_left hsl (k:=k) hk honL (fun j hj hjk=>g' j hj hjk) (by show 0 < turnZ (smul (L * K) (Q.v k)) (smul (L * K) (Q.v (k + 1))) _;rw [hturn];exact pp hLK hp)
  rw [hlam] at this;exact this
 ·have:=wnd_right hsl (k:=k) hk honL (fun j hj hjk=>g' j hj hjk) (by show turnZ (smul (L * K) (Q.v k)) (smul (L * K) (Q.v (k + 1))) _ < 0;rw [hturn];exact pm hLK hp)
  rw [hlam] at this;exact this
theorem chord_off {P:Poly} {m:Nat} (c:Chord P m) {s t K:Int} (hs:0 < s) (ht:0 < t) (e:s + t=K):OffP P K (padd (smul s (P.v 0)) (smul t (P.v m))):=by
 have hm2:=c.m2
 have hmn:=c.mn
 have hK:0 < K:=by omega
 have hon:OnI (padd (smul s (P.v 0)) (smul t (P.v m))) (smul K (P.v 0)) (smul K (P.v m)):=by
  refine ⟨s,t,hs,ht,?_,?_⟩
  ·rw [← e];unfold padd smul;simp only;grind
  ·rw [← e];unfold padd smul;simp only;grind
 have bend:∀ {a b z:Pt},Bends a b z→OnI (padd (smul s (P.v 0)) (smul t (P.v m))) (smul K a) (smul K b)→Off (padd (smul s (P.v 0)) (smul t (P.v m))) (smul K b) (smul K z):=fun hb ho=>((hb.sc hK).part ho ho).off1
 intro k hk
 rcases (show k=0∨k + 1=m∨k=m∨k + 1=P.n∨(0 < k∧k + 1 < P.n∧k≠m∧k + 1≠m) by omega) with g|g|g|g|⟨g1,g2,g3,g4⟩
 ·subst g;exact bend c.b0.1.1 hon.swap
 ·have:=bend c.bm.1.1 hon
  rw [← g] at this ⊢
  rw [show k + 1 - 1=k by omega] at this
  exact this.swap
 ·subst g;exact bend c.bm.2.1 hon
 ·have:=bend c.b0.2.1 hon.swap
  rw [show P.n - 1=k by omega] at this
  rw [g,P.vn];exact this.swap
 ·exact (((c.apart k g1 g2 g3 g4).sc hK).inn hon hon).off1
theorem sc_sc (h:Aff) (L K:Int):(h.sc K).sc L=h.sc (L * K):=by unfold Aff.sc;rw [Int.mul_assoc]
theorem chord_sum {P:Poly} (hP:SimpleP P) {m:Nat} (c:Chord P m) {h:Aff} (hg:Gen h P) {l1 l2:Int} (hA:LeftIs h (P.arc m).way l1) (hB:LeftIs h (partB P m).way l2) {s t K:Int} (hs:0 < s) (ht:0 < t) (e:s + t=K) :
  wnd (h.sc K) (P.sc K).way (padd (smul s (P.v 0)) (smul t (P.v m)))=l1 + l2 - 1:=by
 have hm2:=c.m2
 have hmn:=c.mn
 have hSA:=hP.arc c
 have hSB:SimpleP (partB P m):=(hP.rot m).arc c.rot
 have hgA:Gen h (P.arc m):=hg.arc (by omega)
 have hgB:Gen h (partB P m):=(hg.rot m).arc (by show P.n - m < P.n;omega)
 have hab:P.v 0≠P.v m:=hP.inj (by omega) (by omega) (by omega)
 have hN:=sq_pos hab
 have nB:P.n - m < (partB P m).n:=by show P.n - m < P.n - m + 1;omega
 have bB0:(partB P m).v (P.n - m)=P.v 0:=by rw [B_v (by omega) (by omega),show m + (P.n - m)=P.n by omega,P.vn]
 have bB1:(partB P m).v (P.n - m + 1)=P.v m:=by show (P.rot m).v ((P.n - m + 1) % (P.n - m + 1))=_;rw [Nat.mod_self];show P.v (m + 0)=_;rw [Nat.add_zero]
 have lA:=wall_sides hSA hgA hA (k:=m) (by show m < m + 1;omega) ht hs (show t + s=K by omega) (x:=padd (smul s (P.v 0)) (smul t (P.v m))) (by rw [arc_v P (Nat.le_refl m),arc_v0];unfold padd smul;refine Prod.ext ?_ ?_ <;> simp only <;> omega) (d:=rotP (psub (P.v 0) (P.v m)))
 have lB:=wall_sides hSB hgB hB (k:=P.n - m) nB hs ht e (x:=padd (smul s (P.v 0)) (smul t (P.v m))) (by rw [bB0,bB1]) (d:=rotP (psub (P.v 0) (P.v m)))
 obtain ⟨L,hL,⟨gA,gB⟩,gP⟩:=((lA.and lB).and (near (chord_off c hs ht e) (rotP (psub (P.v 0) (P.v m))))).get
 rw [arc_v P (Nat.le_refl m),arc_v0] at gA
 rw [bB0,bB1] at gB
 have tA:0 < turnZ (P.v m) (P.v 0) (padd (P.v m) (rotP (psub (P.v 0) (P.v m)))):=by
  have:turnZ (P.v m) (P.v 0) (padd (P.v m) (rotP (psub (P.v 0) (P.v m))))=((P.v m).1 - (P.v 0).1) * ((P.v m).1 - (P.v 0).1) + ((P.v m).2 - (P.v 0).2) * ((P.v m).2 - (P.v 0).2):=by unfold turnZ padd rotP psub;grind
  omega
 have tB:turnZ (P.v 0) (P.v m) (padd (P.v 0) (rotP (psub (P.v 0) (P.v m)))) < 0:=by
  have:turnZ (P.v 0) (P.v m) (padd (P.v 0) (rotP (psub (P.v 0) (P.v m))))=-(((P.v m).1 - (P.v 0).1) * ((P.v m).1 - (P.v 0).1) + ((P.v m).2 - (P.v 0).2) * ((P.v m).2 - (P.v 0).2)):=by unfold turnZ padd rotP psub;grind
  omega
 have wA:=(gA.1 tA).1
 have wB:=(gB.2 tB).1
 have wP:=gP.2 (h.sc K)
 rw [sc_sc,cut_sum _ P _ (show m≤P.n by omega),wA,wB] at wP
 omega
structure Cut (P:Poly) (m:Nat):Prop where
 c:Chord P m
 a:0 < (P.arc m).area
 b:0 < (partB P m).area
theorem left_of_area {P:Poly} (hP:SimpleP P) {h:Aff} (hg:Gen h P) (ha:0 < P.area):LeftIs h P.way 1:=((pos_iff hP hg).2 ha).left hP hg
theorem left_ex {P:Poly} (hP:SimpleP P) {h:Aff} (hg:Gen h P):∃ l,LeftIs h P.way l∧(l=1→0 < P.area):=by
 obtain ⟨s,hs⟩:=hg.low hP.n3
 rcases side_or hP hg hs with ⟨g,q⟩|⟨g,q⟩
 ·exact ⟨1,g,fun _=>area_pos hP hg ⟨s,hs,q⟩⟩
 ·exact ⟨0,g,fun e=>by omega⟩
theorem cut_of {P:Poly} (hP:SimpleP P) {m:Nat} (c:Chord P m) {s t K:Int} (hs:0 < s) (ht:0 < t) (e:s + t=K) (hin:Inn P K (padd (smul s (P.v 0)) (smul t (P.v m)))):Cut P m:=by
 have hm2:=c.m2
 have hmn:=c.mn
 have hSA:=hP.arc c
 have hSB:SimpleP (partB P m):=(hP.rot m).arc c.rot
 obtain ⟨M,-,hg⟩:=(hM_gen hP).get
 obtain ⟨l1,hA,a1⟩:=left_ex hSA (hg.arc (by omega))
 obtain ⟨l2,hB,a2⟩:=left_ex hSB (h:=hM M) ((hg.rot m).arc (by show P.n - m < P.n;omega))
 have:=chord_sum hP c hg hA hB hs ht e
 rw [hin.w (g:=(hM M).sc K) (.inl (show (1:Int)≠0 by decide))] at this
 have b1:=hA.1
 have b2:=hB.1
 exact ⟨c,a1 (by omega),a2 (by omega)⟩
theorem Cut.simA {P:Poly} (hP:SimpleP P) {m:Nat} (c:Cut P m):SimpleP (P.arc m):=hP.arc c.c
theorem Cut.simB {P:Poly} (hP:SimpleP P) {m:Nat} (c:Cut P m):SimpleP (partB P m):=(hP.rot m).arc c.c.rot
theorem Cut.area {P:Poly} {m:Nat} (c:Cut P m):0 < P.area:=by
 have:=area_cut P (m:=m) (by have:=c.c.mn;omega)
 have h1:=c.a
 have h2:0 < ((P.rot m).arc (P.n - m)).area:=c.b
 omega
theorem Cut.inn {P:Poly} (hP:SimpleP P) {m:Nat} (c:Cut P m) {s t K:Int} (hs:0 < s) (ht:0 < t) (e:s + t=K):Inn P K (padd (smul s (P.v 0)) (smul t (P.v m))):=by
 have hm2:=c.c.m2
 have hmn:=c.c.mn
 obtain ⟨M,-,hg⟩:=(hM_gen hP).get
 have:=chord_sum hP c.c hg (left_of_area (c.simA hP) (hg.arc (by omega)) c.a) (left_of_area (c.simB hP) ((hg.rot m).arc (by show P.n - m < P.n;omega)) c.b) hs ht e
 exact ⟨chord_off c.c hs ht e,(hM M).sc K,.inl (show (1:Int)≠0 by decide),this⟩
theorem Cut.out {P:Poly} {m:Nat} (c:Cut P m) {K:Int} {x:Pt} (hA:Outp (P.arc m) K x) (hB:Outp (partB P m) K x):Outp P K x:=by
 have hmn:=c.c.mn
 refine ⟨P_walls (m:=m) (by omega) (Q:=fun a b=>Off x (smul K a) (smul K b)) hA.1 hB.1,up,nc_up,?_⟩
 rw [cut_sum _ P K (show m≤P.n by omega),hA.w nc_up,hB.w nc_up];rfl
theorem Cut.out_both {P:Poly} (hP:SimpleP P) {m:Nat} (c:Cut P m) {K:Int} (hK:0 < K) {x:Pt} (h:Outp P K x):Outp (P.arc m) K x∧Outp (partB P m) K x:=by
 have hm2:=c.c.m2
 have hmn:=c.c.mn
 have hab:P.v 0≠P.v m:=hP.inj (by omega) (by omega) (by omega)
 have habK:smul K (P.v 0)≠smul K (P.v m):=fun e=>hab (Prod.ext (Int.eq_of_mul_eq_mul_left (by omega) (congrArg Prod.fst e)) (Int.eq_of_mul_eq_mul_left (by omega) (congrArg Prod.snd e)))
 have hoff:Off x (smul K (P.v 0)) (smul K (P.v m)):=by
  rcases off_or_on x habK with g|g
  ·exact g
  ·exfalso
   obtain ⟨s,t,hs,ht,h0,hf⟩:=g
   have x1:=hf ⟨1,0,0⟩
   have x2:=hf ⟨0,1,0⟩
   simp only [Aff.ev,Int.one_mul,Int.zero_mul,Int.zero_add,Int.add_zero] at x1 x2
   have ends:∀ j,j < P.n→x≠smul K (P.v j):=fun j hj e=>by
    have:=h.1 j hj
    rw [e] at this
    exact (Off.ne this).1 rfl
   by_cases s0:s=0
   ·refine ends m (by omega) (Prod.ext ?_ ?_)
    ·rw [s0] at x1;exact Int.eq_of_mul_eq_mul_left (show t≠0 by omega) (by simpa using x1)
    ·rw [s0] at x2;exact Int.eq_of_mul_eq_mul_left (show t≠0 by omega) (by simpa using x2)
   by_cases t0:t=0
   ·refine ends 0 (by omega) (Prod.ext ?_ ?_)
    ·rw [t0] at x1;exact Int.eq_of_mul_eq_mul_left (show s≠0 by omega) (by simpa using x1)
    ·rw [t0] at x2;exact Int.eq_of_mul_eq_mul_left (show s≠0 by omega) (by simpa using x2)
   have hi:=c.inn hP (s:=s * K) (t:=t * K) (K:=(s + t) * K) (pp (by omega) hK) (pp (by omega) hK) (by rw [Int.add_mul])
   have ho:=h.scale (L:=s + t) h0
   have e:smul (s + t) x=padd (smul (s * K) (P.v 0)) (smul (t * K) (P.v m)):=by
    unfold smul padd at *
    refine Prod.ext ?_ ?_
    ·show (s + t) * x.1=s * K * (P.v 0).1 + t * K * (P.v m).1
     rw [x1];grind
    ·show (s + t) * x.2=s * K * (P.v 0).2 + t * K * (P.v m).2
     rw [x2];grind
   rw [e] at ho
   exact hi.not_out ho
 have oA:OffP (P.arc m) K x:=A_walls (Q:=fun a b=>Off x (smul K a) (smul K b)) |>.2 ⟨fun k hk=>h.1 k (by omega),hoff.swap⟩
 have oB:OffP (partB P m) K x:=(B_walls (show m < P.n by omega) (Q:=fun a b=>Off x (smul K a) (smul K b))).2 ⟨fun k _ hk=>h.1 k hk,hoff⟩
 have sum:=cut_sum up P K (show m≤P.n by omega) x
 rw [h.w nc_up] at sum
 have wA:=wnd_zero_oneK (c.simA hP) c.a hK nc_up oA
 have wB:=wnd_zero_oneK (c.simB hP) c.b hK nc_up oB
 exact ⟨⟨oA,up,nc_up,by omega⟩,⟨oB,up,nc_up,by omega⟩⟩
theorem tri_in {P:Poly} (hn:P.n=3) {p:Pt} (hp:¬ Outp P 1 p):∀ k,k < P.n→0≤turnZ (P.v k) (P.v (k + 1)) (P.v (k + 2))→0≤turnZ (P.v k) (P.v (k + 1)) p:=fun k hk ht=>by
 rcases (show 0≤turnZ (P.v k) (P.v (k + 1)) p∨turnZ (P.v k) (P.v (k + 1)) p < 0 by omega) with g|g
 ·exact g
 ·refine absurd (out_half (f:=Aff.turn (P.v k) (P.v (k + 1))) fun j hj=>?_) hp
  rw [ev_turn,ev_turn]
  have e:P.v j=P.v k∨P.v j=P.v (k + 1)∨P.v j=P.v (k + 2):=by
   rcases (show j=k∨j=k + 1∨j=k + 2∨j + 3=k + 1∨j + 3=k + 2 by omega) with q|q|q|q|q
   ·exact .inl (by rw [q])
   ·exact .inr (.inl (by rw [q]))
   ·exact .inr (.inr (by rw [q]))
   ·exact .inr (.inl (by rw [← q,← hn,P.per]))
   ·exact .inr (.inr (by rw [← q,← hn,P.per]))
  have taa:turnZ (P.v k) (P.v (k + 1)) (P.v k)=0:=by unfold turnZ;grind
  have tbb:turnZ (P.v k) (P.v (k + 1)) (P.v (k + 1))=0:=by unfold turnZ;grind
  rcases e with e|e|e <;> rw [e] <;> omega
theorem corner_not_out (P:Poly) (j:Nat) (hn:0 < P.n):¬ Outp P 1 (P.v j):=fun h=>by
 have:=h.1 (j % P.n) (Nat.mod_lt _ hn)
 rw [smul_one,smul_one,P.per_mod] at this
 exact (Off.ne this).1 rfl
theorem tri_area' {P:Poly} (hn:P.n=3):P.area=turnZ (P.v 0) (P.v 1) (P.v 2):=by
 unfold Poly.area;rw [hn];simp only [sumN]
 have e:=P.vn;rw [hn] at e;rw [e]
 unfold crs0 turnZ;grind
theorem tri_turns {P:Poly} (hn:P.n=3) (j:Nat):turnZ (P.v j) (P.v (j + 1)) (P.v (j + 2))=turnZ (P.v 0) (P.v 1) (P.v 2):=by
 have c3:∀ j,P.v (j + 3)=P.v j:=fun j=>by rw [← hn,P.per]
 have t1:turnZ (P.v 1) (P.v 2) (P.v 3)=turnZ (P.v 0) (P.v 1) (P.v 2):=by rw [c3 0];unfold turnZ;grind
 have t2:turnZ (P.v 2) (P.v 3) (P.v 4)=turnZ (P.v 0) (P.v 1) (P.v 2):=by rw [c3 0,c3 1];unfold turnZ;grind
 have hm:∀ i d,P.v (i + d)=P.v (i % 3 + d):=fun i d=>by rw [← hn,P.per_add]
 have h0:P.v j=P.v (j % 3):=by have:=hm j 0;simpa using this
 rw [h0,hm j 1,hm j 2]
 rcases (show j % 3=0∨j % 3=1∨j % 3=2 by omega) with q|q|q <;> rw [q]
 ·exact t1
 ·exact t2
theorem Outp.rot {P:Poly} {K:Int} {x:Pt} (h:Outp P K x) (s:Nat):Outp (P.rot s) K x:=by
 obtain ⟨ho,g,hg,e⟩:=h
 refine ⟨fun k hk=>?_,g,hg,by rw [← e];exact wnd_rot g (P.sc K) s x⟩
 have hn:0 < P.n:=by have hk:k < P.n:=hk;omega
 have:=ho ((s + k) % P.n) (Nat.mod_lt _ hn)
 rw [P.per_mod,P.per_add] at this
 exact this
theorem Outp.rot_iff {P:Poly} {K:Int} {x:Pt} (hn:1≤P.n) (s:Nat):Outp (P.rot s) K x↔Outp P K x:=
 ⟨fun h=>by have:=h.rot (s * (P.n - 1));rw [rot_back P s hn] at this;exact this,fun h=>h.rot s⟩
theorem NoOut.rot_iff {P:Poly} {a b:Pt} (hn:1≤P.n) (s:Nat):NoOut (P.rot s) a b↔NoOut P a b:=
 ⟨fun h s' t' hs ht hst o=>h s' t' hs ht hst (o.rot s),fun h s' t' hs ht hst o=>h s' t' hs ht hst ((Outp.rot_iff hn s).1 o)⟩
theorem Cut.rot {P:Poly} {m:Nat} (c:Cut P m):Cut (P.rot m) (P.n - m)∧partB (P.rot m) (P.n - m)=P.arc m:=by
 have hm2:=c.c.m2
 have hmn:=c.c.mn
 have e:partB (P.rot m) (P.n - m)=P.arc m:=by
  have e1:(P.rot m).rot (P.n - m)=P:=by
   rw [rot_rot]
   exact Poly.ext' rfl fun j=>by show P.v (m + (P.n - m) + j)=P.v j;rw [show m + (P.n - m) + j=j + P.n by omega,P.per]
  show ((P.rot m).rot (P.n - m)).arc (P.n - (P.n - m))=P.arc m
  rw [e1,show P.n - (P.n - m)=m by omega]
 exact ⟨⟨c.c.rot,c.b,by rw [e];exact c.a⟩,e⟩
theorem Cut.wall {P:Poly} (hP:SimpleP P) {m:Nat} (c:Cut P m) {k:Nat} (h1:m≤k) (h2:k < P.n) {s t K:Int} (hs:0 < s) (ht:0 < t) (e:s + t=K) (hin:Inn (P.arc m) K (padd (smul s (P.v k)) (smul t (P.v (k + 1))))):False:=by
 have hm2:=c.c.m2
 have hmn:=c.c.mn
 have hK:0 < K:=by omega
 have hSB:=c.simB hP
 obtain ⟨M,-,hg⟩:=(hM_gen hP).get
 have hgB:Gen (hM M) (partB P m):=(hg.rot m).arc (by show P.n - m < P.n;omega)
 have b0:(partB P m).v (k - m)=P.v k:=by rw [B_v (by omega) (by omega),show m + (k - m)=k by omega]
 have b1:(partB P m).v (k - m + 1)=P.v (k + 1):=by rw [B_v (by omega) (by omega),show m + (k - m + 1)=k + 1 by omega]
 have hab:P.v k≠P.v (k + 1):=hP.ne k
 have hN:=sq_pos hab
 have lB:=wall_sides hSB hgB (left_of_area hSB hgB c.b) (k:=k - m) (by show k - m < P.n - m + 1;omega) hs ht e (x:=padd (smul s (P.v k)) (smul t (P.v (k + 1)))) (by rw [b0,b1]) (d:=rotP (psub (P.v (k + 1)) (P.v k)))
 obtain ⟨L,hL,gB,gA⟩:=(lB.and (near hin.1 (rotP (psub (P.v (k + 1)) (P.v k))))).get
 rw [b0,b1] at gB
 have tB:0 < turnZ (P.v k) (P.v (k + 1)) (padd (P.v k) (rotP (psub (P.v (k + 1)) (P.v k)))):=by
  have:turnZ (P.v k) (P.v (k + 1)) (padd (P.v k) (rotP (psub (P.v (k + 1)) (P.v k))))=((P.v (k + 1)).1 - (P.v k).1) * ((P.v (k + 1)).1 - (P.v k).1) + ((P.v (k + 1)).2 - (P.v k).2) * ((P.v (k + 1)).2 - (P.v k).2):=by unfold turnZ padd rotP psub;grind
  omega
 obtain ⟨wB,oB⟩:=gB.1 tB
 obtain ⟨oA,wA⟩:=gA
 have wA:=wA ((hM M).sc K)
 rw [hin.w (g:=(hM M).sc K) (.inl (show (1:Int)≠0 by decide)),sc_sc] at wA
 have sum:=cut_sum ((hM M).sc (L * K)) P (L * K) (show m≤P.n by omega) (padd (smul L (padd (smul s (P.v k)) (smul t (P.v (k + 1))))) (rotP (psub (P.v (k + 1)) (P.v k))))
 rw [wA,wB] at sum
 have:=wnd_zero_oneK hP c.area (pp hL hK) (h:=(hM M).sc (L * K)) (.inl (show (1:Int)≠0 by decide)) (P_walls (m:=m) (by omega) (Q:=fun a b=>Off _ (smul (L * K) a) (smul (L * K) b)) oA oB)
 omega
theorem Cut.corner {P:Poly} (hP:SimpleP P) {m:Nat} (c:Cut P m) {j:Nat} (h1:m < j) (h2:j < P.n):Outp (P.arc m) 1 (P.v j):=by
 have hm2:=c.c.m2
 have hmn:=c.c.mn
 have ho:OffP (P.arc m) 1 (P.v j):=A_walls (Q:=fun a b=>Off (P.v j) (smul 1 a) (smul 1 b)) |>.2 ⟨fun k hk=>by
  rw [smul_one,smul_one]
  exact hP.offI (by omega) h2 (by omega) (by omega) (by omega),by rw [smul_one,smul_one];exact (c.c.off j (by omega) h2 (by omega)).swap⟩
 rcases out_or_in (c.simA hP) c.a (by decide) ho with g|g
 ·exact g
 ·exfalso
  obtain ⟨L,hL,⟨gA,wA⟩,h2L⟩:=((near ho (psub (P.v (j + 1)) (P.v j))).and (Late.ge 2)).get
  refine c.wall hP (k:=j) (by omega) h2 (s:=L - 1) (t:=1) (K:=L * 1) (by omega) (by decide) (by omega) ?_
  have e:padd (smul (L - 1) (P.v j)) (smul 1 (P.v (j + 1)))=padd (smul L (P.v j)) (psub (P.v (j + 1)) (P.v j)):=by
   unfold padd smul psub
   refine Prod.ext ?_ ?_ <;> simp only <;> grind
  rw [e]
  exact ⟨gA,up.sc L,nc_up,by rw [wA up];exact g.w nc_up⟩
theorem Cut.inn_of {P:Poly} (hP:SimpleP P) {m:Nat} (c:Cut P m) {K:Int} (hK:0 < K) {x:Pt} (h:Inn (P.arc m) K x):Inn P K x:=by
 have hm2:=c.c.m2
 have hmn:=c.c.mn
 have hA:=A_walls (Q:=fun a b=>Off x (smul K a) (smul K b)) |>.1 h.1
 have corner:∀ j,m≤j→j≤P.n→x≠smul K (P.v j):=fun j g1 g2 e=>by
  rcases (show j=m∨j=P.n∨(m < j∧j < P.n) by omega) with q|q|⟨q1,q2⟩
  ·have:=hA.2
   rw [e,q] at this
   exact (Off.ne this).1 rfl
  ·have:=hA.2
   rw [e,q,P.vn] at this
   exact (Off.ne this).2 rfl
  ·have:=(c.corner hP q1 q2).scale (L:=K) hK
   rw [Int.mul_one,← e] at this
   exact h.not_out this
 have oP:OffP P K x:=fun k hk=>by
  rcases (show k < m∨m≤k by omega) with g|g
  ·exact hA.1 k g
  ·have hne:smul K (P.v k)≠smul K (P.v (k + 1)):=fun e=>hP.ne k (Prod.ext (Int.eq_of_mul_eq_mul_left (by omega) (congrArg Prod.fst e)) (Int.eq_of_mul_eq_mul_left (by omega) (congrArg Prod.snd e)))
   rcases off_or_on x hne with q|q
   ·exact q
   ·exfalso
    obtain ⟨s,t,hs,ht,h0,hf⟩:=q
    have x1:=hf ⟨1,0,0⟩
    have x2:=hf ⟨0,1,0⟩
    simp only [Aff.ev,Int.one_mul,Int.zero_mul,Int.zero_add,Int.add_zero] at x1 x2
    by_cases s0:s=0
    ·refine corner (k + 1) (by omega) (by omega) (Prod.ext ?_ ?_)
     ·rw [s0] at x1;exact Int.eq_of_mul_eq_mul_left (show t≠0 by omega) (by simpa using x1)
     ·rw [s0] at x2;exact Int.eq_of_mul_eq_mul_left (show t≠0 by omega) (by simpa using x2)
    by_cases t0:t=0
    ·refine corner k g (by omega) (Prod.ext ?_ ?_)
     ·rw [t0] at x1;exact Int.eq_of_mul_eq_mul_left (show s≠0 by omega) (by simpa using x1)
     ·rw [t0] at x2;exact Int.eq_of_mul_eq_mul_left (show s≠0 by omega) (by simpa using x2)
    refine c.wall hP g hk (s:=s * K) (t:=t * K) (K:=(s + t) * K) (pp (by omega) hK) (pp (by omega) hK) (by rw [Int.add_mul]) ?_
    have e:padd (smul (s * K) (P.v k)) (smul (t * K) (P.v (k + 1)))=smul (s + t) x:=by
     unfold smul padd at *
     refine Prod.ext ?_ ?_
     ·show s * K * (P.v k).1 + t * K * (P.v (k + 1)).1=(s + t) * x.1
      rw [x1];grind
     ·show s * K * (P.v k).2 + t * K * (P.v (k + 1)).2=(s + t) * x.2
      rw [x2];grind
    rw [e]
    exact h.scale h0
 have oB:OffP (partB P m) K x:=(B_walls (show m < P.n by omega) (Q:=fun a b=>Off x (smul K a) (smul K b))).2 ⟨fun k _ hk=>oP k hk,hA.2.swap⟩
 refine ⟨oP,up,nc_up,?_⟩
 have sum:=cut_sum up P K (show m≤P.n by omega) x
 rw [h.w nc_up] at sum
 have:=wnd_zero_oneK hP c.area hK nc_up oP
 have:=wnd_zero_oneK (c.simB hP) c.b hK nc_up oB
 omega
theorem cut_of_far {P:Poly} (hP:SimpleP P) (ha:0 < P.area) {m:Nat} (c:Chord P m) (hA:0 < (P.arc m).area) {k:Nat} (h1:m≤k) (h2:k < P.n) {f:Aff} (hf:∀ j,j≤m→0≤f.ev (P.v j)) (hneg:f.ev (P.v (k + 1)) < 0):Cut P m:=by
 have hm2:=c.m2
 have hmn:=c.mn
 refine ⟨c,hA,?_⟩
 have hSB:SimpleP (partB P m):=(hP.rot m).arc c.rot
 obtain ⟨M,-,hg⟩:=(hM_gen hP).get
 have hgB:Gen (hM M) (partB P m):=(hg.rot m).arc (by show P.n - m < P.n;omega)
 obtain ⟨l2,hB,a2⟩:=left_ex hSB hgB
 have b0:(partB P m).v (k - m)=P.v k:=by rw [B_v (by omega) (by omega),show m + (k - m)=k by omega]
 have b1:(partB P m).v (k - m + 1)=P.v (k + 1):=by rw [B_v (by omega) (by omega),show m + (k - m + 1)=k + 1 by omega]
 have hN:=sq_pos (hP.ne k)
 obtain ⟨t,ht,htf⟩:∃ t:Int,0 < t∧f.ev (P.v k) + t * f.ev (P.v (k + 1)) < 0:=by
  refine ⟨(f.ev (P.v k)).natAbs + 1,by omega,?_⟩
  have:=Int.mul_le_mul_of_nonneg_left (show f.ev (P.v (k + 1))≤-1 by omega) (show 0≤((f.ev (P.v k)).natAbs:Int) + 1 by omega)
  omega
 obtain ⟨d,hd⟩:∃ d,d=rotP (psub (P.v (k + 1)) (P.v k)):=⟨_,rfl⟩
 obtain ⟨x,hx⟩:∃ x,x=padd (smul 1 (P.v k)) (smul t (P.v (k + 1))):=⟨_,rfl⟩
 have lB:=wall_sides hSB hgB hB (k:=k - m) (by show k - m < P.n - m + 1;omega) (s:=1) (by decide) ht rfl (x:=x) (by rw [b0,b1];exact hx) (d:=d)
 have lP:=wall_sides hP hg (left_of_area hP hg ha) (k:=k) h2 (s:=1) (by decide) ht rfl (x:=x) hx (d:=d)
 obtain ⟨L,hL,⟨gB,gP⟩,hbig⟩:=((lB.and lP).and (Late.ge (f.lin d + 1))).get
 rw [b0,b1] at gB
 have tB:0 < turnZ (P.v k) (P.v (k + 1)) (padd (P.v k) d):=by
  have:turnZ (P.v k) (P.v (k + 1)) (padd (P.v k) d)=((P.v (k + 1)).1 - (P.v k).1) * ((P.v (k + 1)).1 - (P.v k).1) + ((P.v (k + 1)).2 - (P.v k).2) * ((P.v (k + 1)).2 - (P.v k).2):=by rw [hd];unfold turnZ padd rotP psub;grind
  omega
 have wB:=(gB.1 tB).1
 have wP:=(gP.1 tB).1
 have hLK:0 < L * (1 + t):=pp hL (by omega)
 have wA:wnd ((hM M).sc (L * (1 + t))) ((P.arc m).sc (L * (1 + t))).way (padd (smul L x) d)=0:=by
  refine wnd_out _ (f.sc (L * (1 + t))) fun j hj=>?_
  have hj:j < m + 1:=hj
  show (f.sc (L * (1 + t))).ev (padd (smul L x) d) < (f.sc (L * (1 + t))).ev (smul (L * (1 + t)) ((P.arc m).v j))
  rw [arc_v P (by omega),ev_sc0]
  have r:=nn0 (show 0≤L * (1 + t) by omega) (hf j (by omega))
  have e:(f.sc (L * (1 + t))).ev (padd (smul L x) d)=L * (f.ev (P.v k) + t * f.ev (P.v (k + 1))) + f.lin d:=by
   rw [hx];unfold Aff.sc Aff.ev Aff.lin padd smul;grind
  rw [e]
  have:=Int.mul_le_mul_of_nonneg_left (show f.ev (P.v k) + t * f.ev (P.v (k + 1))≤-1 by omega) (show 0≤L by omega)
  omega
 have sum:=cut_sum ((hM M).sc (L * (1 + t))) P (L * (1 + t)) (show m≤P.n by omega) (padd (smul L x) d)
 rw [wA,wB,wP] at sum
 exact a2 (by omega)
def EarP (P:Poly) (a b c:Pt):Prop:=0 < turnZ a b c∧∀ j,P.v j≠a→P.v j≠b→P.v j≠c→¬ (0≤turnZ a b (P.v j)∧0≤turnZ b c (P.v j)∧0≤turnZ c a (P.v j))
def EarI (P:Poly) (k:Nat):Prop:=EarP P (P.v k) (P.v (k + 1)) (P.v (k + 2))
theorem tri_closed {Q:Poly} (hQ:SimpleP Q) (hn:Q.n=3) (ht:0 < turnZ (Q.v 0) (Q.v 1) (Q.v 2)) {p:Pt} (h0:0≤turnZ (Q.v 0) (Q.v 1) p) (h1:0≤turnZ (Q.v 1) (Q.v 2) p) (h2:0≤turnZ (Q.v 2) (Q.v 0) p):¬ Outp Q 1 p:=by
 have c3:∀ j,Q.v (j + 3)=Q.v j:=fun j=>by rw [← hn,Q.per]
 have:=star hQ (fun j=>by rw [tri_turns hn];omega) (by rw [tri_area' hn];exact ht) (p:=p) (fun k hk=>by
  rcases (show k=0∨k=1∨k=2 by omega) with q|q|q <;> subst q
  ·exact h0
  ·exact h1
  ·rw [c3 0];exact h2) (corner_not_out Q 0 (by omega))
 have:=this 1 0 (by decide) (by decide) (by decide)
 rwa [show padd (smul 1 p) (smul 0 (Q.v 0))=p by unfold padd smul;simp,show (1:Int) + 0=1 from rfl] at this
theorem ear_cut {P:Poly} (hP:SimpleP P) (ha:0 < P.area) (h4:4≤P.n) (he:EarI P 0):Cut P 2:=by
 have ht:0 < turnZ (P.v 0) (P.v 1) (P.v 2):=he.1
 have hno:=he.2
 have hin:∀ j,¬ InT P j:=fun j ⟨g1,g2,gA,gB,gC⟩=>hno j (hP.inj g2 (by omega) (by omega)) (hP.inj g2 (by omega) (by omega)) (hP.inj g2 (by omega) (by omega)) ⟨gB,gA,gC⟩
 have c:=chord_tri hP h4 ht hin
 have hA:0 < (P.arc 2).area:=by
  rw [tri_area' (show (P.arc 2).n=3 from rfl),arc_v P (by omega),arc_v P (by omega),arc_v P (by omega)];exact ht
 have h3:=hin 3
 have vals:=tri_vals P
 have key:∀ (f:Aff),(∀ j,j≤2→0≤f.ev (P.v j))→f.ev (P.v 3) < 0→Cut P 2:=fun f g1 g2=>cut_of_far hP ha c hA (k:=2) (by omega) (by omega) g1 g2
 have small:∀ (Q:Nat→Prop),Q 0→Q 1→Q 2→∀ j,j≤2→Q j:=fun Q q0 q1 q2 j hj=>by
  rcases (show j=0∨j=1∨j=2 by omega) with q|q|q <;> subst q <;> assumption
 have t00:∀ a b:Pt,turnZ a b a=0:=fun a b=>by unfold turnZ;grind
 have t01:∀ a b:Pt,turnZ a b b=0:=fun a b=>by unfold turnZ;grind
 have r1:turnZ (P.v 1) (P.v 2) (P.v 0)=turnZ (P.v 0) (P.v 1) (P.v 2):=by unfold turnZ;grind
 have r2:turnZ (P.v 2) (P.v 0) (P.v 1)=turnZ (P.v 0) (P.v 1) (P.v 2):=by unfold turnZ;grind
 by_cases gA:0≤tA P (P.v 3)
 ·by_cases gB:0≤tB P (P.v 3)
  ·by_cases gC:0≤tC P (P.v 3)
   ·exact absurd ⟨by omega,by omega,gA,gB,gC⟩ h3
   ·refine key (Aff.turn (P.v 2) (P.v 0)) (small _ ?_ ?_ ?_) (by rw [ev_turn];exact Int.not_le.1 gC) <;> rw [ev_turn]
    ·rw [t01];exact Int.le_refl _
    ·rw [r2];omega
    ·rw [t00];exact Int.le_refl _
  ·refine key (Aff.turn (P.v 0) (P.v 1)) (small _ ?_ ?_ ?_) (by rw [ev_turn];exact Int.not_le.1 gB) <;> rw [ev_turn]
   ·rw [t00];exact Int.le_refl _
   ·rw [t01];exact Int.le_refl _
   ·omega
 ·refine key (Aff.turn (P.v 1) (P.v 2)) (small _ ?_ ?_ ?_) (by rw [ev_turn];exact Int.not_le.1 gA) <;> rw [ev_turn]
  ·rw [r1];omega
  ·rw [t00];exact Int.le_refl _
  ·rw [t01];exact Int.le_refl _
theorem EarI.rot {P:Poly} (g:0 < P.n) {s k:Nat}:EarI (P.rot s) k↔EarI P (s + k):=by
 unfold EarI EarP
 have e:∀ j,(P.rot s).v j=P.v (s + j):=fun _=>rfl
 simp only [e,← Nat.add_assoc]
 refine and_congr_right fun _=>⟨fun h j=>?_,fun h j=>h (s + j)⟩
 have hle:s≤P.n * (s + 1):=by
  have:1 * (s + 1)≤P.n * (s + 1):=Nat.mul_le_mul_right _ g
  omega
 have:=h (j + P.n * (s + 1) - s)
 rwa [show s + (j + P.n * (s + 1) - s)=j + P.n * (s + 1) by omega,P.per_mul] at this
theorem ear_lift {P:Poly} (hP:SimpleP P) {m:Nat} (c:Cut P m) {i:Nat} (hi:i + 2≤m) (he:EarP (P.arc m) (P.v i) (P.v (i + 1)) (P.v (i + 2))):EarI P i:=by
 have hm2:=c.c.m2
 have hmn:=c.c.mn
 refine ⟨he.1,fun j n0 n1 n2 hb=>?_⟩
 have hj:j % P.n < P.n:=Nat.mod_lt _ (by omega)
 rw [← P.per_mod j] at n0 n1 n2 hb
 generalize j % P.n=r at hj n0 n1 n2 hb
 rcases (show r≤m∨m < r by omega) with g|g
 ·refine he.2 r ?_ ?_ ?_ ?_ <;> rw [arc_v P g] <;> assumption
 ·have ho:=c.corner hP g hj
  have hA:=c.simA hP
  have tr:∀ {Q:Poly},SimpleP Q→Q.n=3→Q.v 0=P.v i→Q.v 1=P.v (i + 1)→Q.v 2=P.v (i + 2)→¬ Outp Q 1 (P.v r):=fun hQ h3 e0 e1 e2=>by
   refine tri_closed hQ h3 ?_ ?_ ?_ ?_ <;> (try rw [e0]) <;> (try rw [e1]) <;> (try rw [e2]) <;> first|exact he.1|exact hb.1|exact hb.2.1|exact hb.2.2
  rcases (show m=2∨3≤m by omega) with q|q
  ·subst q
   have:i=0:=by omega
   subst this
   exact tr hA rfl (arc_v P (by omega)) (arc_v P (by omega)) (arc_v P (by omega)) ho
  ·-- the ear cut off from the part
   have hR:SimpleP ((P.arc m).rot i):=hA.rot i
   have hv:∀ d,d≤2→((P.arc m).rot i).v d=P.v (i + d):=fun d hd=>arc_v P (by omega)
   have hE:EarI ((P.arc m).rot i) 0:=(EarI.rot (by show 0 < m + 1;omega)).2 (by
    show EarP (P.arc m) ((P.arc m).v (i + 0)) ((P.arc m).v (i + 0 + 1)) ((P.arc m).v (i + 0 + 2))
    rw [arc_v P (by omega),arc_v P (by omega),arc_v P (by omega)];exact he)
   have c2:=ear_cut hR (by rw [area_rot];exact c.a) (by show 4≤m + 1;omega) hE
   refine tr (c2.simA hR) rfl ?_ ?_ ?_ (c2.out_both hR (by decide) (ho.rot i)).1
   ·rw [arc_v _ (by omega)];exact hv 0 (by omega)
   ·rw [arc_v _ (by omega)];exact hv 1 (by omega)
   ·rw [arc_v _ (by omega)];exact hv 2 (by omega)
def TwoEars (P:Poly):Prop:=∃ s d,2≤d∧d + 2≤P.n∧EarI P s∧EarI P (s + d)
theorem side_ear {P:Poly} (hP:SimpleP P) {m:Nat} (c:Cut P m) (ih:4≤m + 1→TwoEars (P.arc m)):∃ i,i + 2≤m∧EarI P i:=by
 have hm2:=c.c.m2
 have hmn:=c.c.mn
 rcases (show m=2∨3≤m by omega) with q|q
 ·subst q
  refine ⟨0,by omega,ear_lift hP c (by omega) ⟨?_,fun j n0 n1 n2 _=>?_⟩⟩
  ·have:=c.a
   rwa [tri_area' (show (P.arc 2).n=3 from rfl),arc_v P (by omega),arc_v P (by omega),arc_v P (by omega)] at this
  ·have hj:j % 3 < 3:=Nat.mod_lt _ (by omega)
   have e:(P.arc 2).v j=(P.arc 2).v (j % 3):=((P.arc 2).per_mod j).symm
   rw [e,arc_v P (by omega)] at n0 n1 n2
   rcases (show j % 3=0∨j % 3=1∨j % 3=2 by omega) with g|g|g <;> rw [g] at n0 n1 n2
   ·exact n0 rfl
   ·exact n1 rfl
   ·exact n2 rfl
 ·obtain ⟨s,d,d2,dn,e1,e2⟩:=ih (by omega)
  have dn:d + 2≤m + 1:=dn
  have mk:∀ t,EarI (P.arc m) t→(t % (m + 1)) + 2≤m→∃ i,i + 2≤m∧EarI P i:=fun t ht h=>by
   refine ⟨t % (m + 1),h,ear_lift hP c h ?_⟩
   have per:∀ x,(P.arc m).v (t + x)=P.v (t % (m + 1) + x)∨2 < x:=fun x=>by
    rcases (show x≤2∨2 < x by omega) with g|g
    ·left
     rw [← arc_v P (show t % (m + 1) + x≤m by omega)]
     exact ((P.arc m).per_add t x).symm
    ·exact .inr g
   have p0:=(per 0).resolve_right (by omega)
   have p1:=(per 1).resolve_right (by omega)
   have p2:=(per 2).resolve_right (by omega)
   unfold EarI at ht
   rw [p1,p2,show (P.arc m).v t=P.v (t % (m + 1)) from p0] at ht
   exact ht
  have hs:s % (m + 1) < m + 1:=Nat.mod_lt _ (by omega)
  have hd:(s + d) % (m + 1) < m + 1:=Nat.mod_lt _ (by omega)
  rcases (show s % (m + 1) + 2≤m∨s % (m + 1)=m∨s % (m + 1)=m - 1 by omega) with g|g|g
  ·exact mk s e1 g
  all_goals
   refine mk (s + d) e2 ?_
   have:(s + d) % (m + 1)=(s % (m + 1) + d) % (m + 1):=by rw [Nat.mod_add_mod]
   rw [this,g]
   rw [Nat.mod_eq_sub_mod (by omega),Nat.mod_eq_of_lt (by omega)]
   omega
theorem two_ears:∀ (n:Nat) (P:Poly),P.n=n→4≤n→SimpleP P→0 < P.area→TwoEars P:=fun n=>by
 induction n using Nat.strongRecOn with
 | ind n ih=>
  intro P hn h4 hP ha
  obtain ⟨M,-,hg⟩:=(hM_gen hP).get
  obtain ⟨s,m,c0,p1,p2⟩:=exists_cut hP hg ((pos_iff hP hg).2 ha) (by omega)
  have c:Cut (P.rot s) m:=⟨c0,area_pos ((hP.rot s).arc c0) ((hg.rot s).arc (show m < P.n from by have:m + 2≤P.n:=c0.mn;omega)) p1,area_pos (((hP.rot s).rot m).arc c0.rot) (((hg.rot s).rot m).arc (by have:=c0.m2;have:m + 2≤P.n:=c0.mn;show P.n - m < P.n;omega)) p2⟩
  have hm2:=c.c.m2
  have hmn:=c.c.mn
  have hR:=hP.rot s
  have hnR:(P.rot s).n=n:=hn
  obtain ⟨i,hi,ei⟩:=side_ear hR c fun h=>ih (m + 1) (by omega) ((P.rot s).arc m) rfl h (c.simA hR) c.a
  obtain ⟨c',e'⟩:=c.rot
  have hR':=hR.rot m
  obtain ⟨k,hk,ek⟩:=side_ear hR' c' fun h=>ih ((P.rot s).n - m + 1) (by omega) _ rfl h (c.simB hR) c.b
  refine ⟨s + i,m + k - i,by omega,by omega,(EarI.rot (by omega)).1 ei,?_⟩
  rw [show s + i + (m + k - i)=s + (m + k) by omega]
  exact (EarI.rot (by omega)).1 ((EarI.rot (by omega)).1 ek)
end Go.Proofs.YtnepfcnlngpchaaGreat.Geo
namespace Go.Proofs.YtnepfcnlngpchaaGreat.Geo
open Go.RowKit
def subP (xs:List Pt) (l:List Int):Poly:=⟨l.length,fun j=>(roomP xs).v (gI l (j % l.length)).toNat,fun j=>by show (roomP xs).v (gI l ((j + l.length) % l.length)).toNat=_;rw [Nat.add_mod_right]⟩
theorem sub_v (xs:List Pt) {l:List Int} {j:Nat} (h:j < l.length):(subP xs l).v j=(roomP xs).v (gI l j).toNat:=by
 show (roomP xs).v (gI l (j % l.length)).toNat=_
 rw [Nat.mod_eq_of_lt h]
theorem gI_all {n k:Nat} (h:k < n):gI (allC n) k=k:=by
 unfold gI allC
 rw [getD_lt _ (by simpa using h)];simp
theorem sub_all {xs:List Pt} (hn:0 < xs.length):subP xs (allC xs.length)=roomP xs:=by
 refine Poly.ext' (allC_len _) fun j=>?_
 show (roomP xs).v (gI (allC xs.length) (j % (allC xs.length).length)).toNat=_
 rw [allC_len,gI_all (Nat.mod_lt _ hn),Int.toNat_natCast]
 exact (roomP xs).per_mod j
theorem sub_erase (xs:List Pt) {l:List Int} (h3:3 < l.length) {i:Nat} (hi:i < l.length):(subP xs (l.eraseIdx i)).rot i=partB ((subP xs l).rot (i + l.length - 1)) 2:=by
 have hl:=List.length_eraseIdx_of_lt hi
 refine Poly.ext' (by show (l.eraseIdx i).length=l.length - 2 + 1;omega) fun j=>?_
 show (roomP xs).v (gI (l.eraseIdx i) ((i + j) % (l.eraseIdx i).length)).toNat=(roomP xs).v (gI l ((i + l.length - 1 + (2 + j % (l.length - 2 + 1))) % l.length)).toNat
 have hm:j % (l.length - 1) < l.length - 1:=Nat.mod_lt _ (by omega)
 rw [hl,show l.length - 2 + 1=l.length - 1 by omega,← Nat.add_mod_mod]
 generalize j % (l.length - 1)=r at hm
 have e1:(i + l.length - 1 + (2 + r)) % l.length=(i + 1 + r) % l.length:=by
  rw [show i + l.length - 1 + (2 + r)=i + 1 + r + l.length by omega,Nat.add_mod_right]
 rw [e1]
 rcases Nat.lt_or_ge (i + 1 + r) l.length with g|g
 ·rw [Nat.mod_eq_of_lt g,Nat.mod_eq_of_lt (show i + r < l.length - 1 by omega),gI_erase (by omega),if_neg (by omega),show i + r + 1=i + 1 + r by omega]
 ·rw [Nat.mod_eq_sub_mod g,Nat.mod_eq_of_lt (show i + 1 + r - l.length < l.length by omega),Nat.mod_eq_sub_mod (show l.length - 1≤i + r by omega),Nat.mod_eq_of_lt (show i + r - (l.length - 1) < l.length - 1 by omega),
   gI_erase (by omega),if_pos (by omega),show i + r - (l.length - 1)=i + 1 + r - l.length by omega]
structure Sub (xs:List Pt) (l:List Int):Prop where
 left:Left xs.length l
 sim:SimpleP (subP xs l)
 area:0 < (subP xs l).area
 out:∀ {K x},0 < K→Outp (roomP xs) K x→Outp (subP xs l) K x
 inn:∀ {K x},0 < K→Inn (subP xs l) K x→Inn (roomP xs) K x
theorem Sub.all {xs:List Pt} (hr:roomOk xs=true):Sub xs (allC xs.length):=by
 have e:=sub_all (room_pos hr)
 exact ⟨left_all (room_len hr).1,by rw [e];exact room_simple hr,by rw [e];exact (room_area hr).2.1,fun _ h=>by rw [e];exact h,fun _ h=>by rw [e] at h;exact h⟩
theorem Inn.rot {P:Poly} {K:Int} {x:Pt} (h:Inn P K x) (s:Nat):Inn (P.rot s) K x:=by
 obtain ⟨ho,g,hg,e⟩:=h
 refine ⟨fun k hk=>?_,g,hg,by rw [← e];exact wnd_rot g (P.sc K) s x⟩
 have hn:0 < P.n:=by have hk:k < P.n:=hk;omega
 have:=ho ((s + k) % P.n) (Nat.mod_lt _ hn)
 rw [P.per_mod,P.per_add] at this
 exact this
theorem Inn.rot_iff {P:Poly} {K:Int} {x:Pt} (hn:1≤P.n) (s:Nat):Inn (P.rot s) K x↔Inn P K x:=
 ⟨fun h=>by have:=h.rot (s * (P.n - 1));rw [rot_back P s hn] at this;exact this,fun h=>h.rot s⟩
abbrev EarL (xs:List Pt) (l:List Int) (i:Nat):Prop:=EarI (subP xs l) (i + l.length - 1)
theorem ear_pts (xs:List Pt) {l:List Int} (h3:3≤l.length) {i:Nat} (hi:i < l.length) :
  (subP xs l).v (i + l.length - 1)=(roomP xs).v (gI l (prvN l.length i)).toNat∧(subP xs l).v (i + l.length - 1 + 1)=(roomP xs).v (gI l i).toNat∧(subP xs l).v (i + l.length - 1 + 2)=(roomP xs).v (gI l (nxtN l.length i)).toNat:=by
 refine ⟨rfl,?_,?_⟩
 ·show (roomP xs).v (gI l ((i + l.length - 1 + 1) % l.length)).toNat=_
  rw [show i + l.length - 1 + 1=i + l.length by omega,Nat.add_mod_right,Nat.mod_eq_of_lt hi]
 ·show (roomP xs).v (gI l ((i + l.length - 1 + 2) % l.length)).toNat=_
  rw [show i + l.length - 1 + 2=i + 1 + l.length by omega,Nat.add_mod_right];rfl
theorem Sub.some {xs:List Pt} {l:List Int} (h:Sub xs l) (h3:3 < l.length):∃ i,i < l.length∧EarL xs l i:=by
 obtain ⟨s,d,-,-,e,-⟩:=two_ears l.length (subP xs l) rfl h3 h.sim h.area
 refine ⟨(s + 1) % l.length,Nat.mod_lt _ (by omega),?_⟩
 have key:∀ d,(subP xs l).v ((s + 1) % l.length + l.length - 1 + d)=(subP xs l).v (s + d):=fun d=>by
  rw [show (s + 1) % l.length + l.length - 1 + d=(s + 1) % (subP xs l).n + (l.length - 1 + d) by show _=(s + 1) % l.length + _;omega,(subP xs l).per_add,show s + 1 + (l.length - 1 + d)=s + d + l.length by omega]
  exact (subP xs l).per (s + d)
 show EarP _ _ _ _
 have k0:(subP xs l).v ((s + 1) % l.length + l.length - 1)=(subP xs l).v s:=key 0
 rw [k0,key 1,key 2]
 exact e
theorem room_v {xs:List Pt} {k:Int} (h0:0≤k) (h:k < xs.length):(roomP xs).v k.toNat=pI xs k:=v_lt (by omega)
theorem turnI {xs:List Pt} (hr:roomOk xs=true) {a b c:Int} (ha:0≤a∧a < xs.length) (hb:0≤b∧b < xs.length) (hc:0≤c∧c < xs.length):turn (pI xs a) (pI xs b) (pI xs c)=turnZ ((roomP xs).v a.toNat) ((roomP xs).v b.toNat) ((roomP xs).v c.toNat):=by
 rw [room_v ha.1 ha.2,room_v hb.1 hb.2,room_v hc.1 hc.2]
 exact turn_exact (bd_of_ok (corner_ok hr (by omega))) (bd_of_ok (corner_ok hr (by omega))) (bd_of_ok (corner_ok hr (by omega)))
theorem inTri_iff {a b c p:Pt} (ha:Bd a) (hb:Bd b) (hc:Bd c) (hp:Bd p):inTri a b c p=true↔0≤turnZ a b p∧0≤turnZ b c p∧0≤turnZ c a p:=by
 unfold inTri
 rw [turn_exact ha hb hp,turn_exact hb hc hp,turn_exact hc ha hp]
 simp only [Bool.and_eq_true,decide_eq_true_eq]
theorem left_bd {xs:List Pt} (hr:roomOk xs=true) {l:List Int} (hL:Left xs.length l) {k:Nat} (hk:k < l.length):Bd (pI xs (gI l k)):=by
 have:=hL.at hk
 exact bd_of_ok (corner_ok hr (by omega))
theorem Sub.ear_of {xs:List Pt} (hr:roomOk xs=true) {l:List Int} (h:Sub xs l) {i:Nat} (hi:i < l.length) (hc:cutM xs l i=true):EarL xs l i:=by
 have h3:=h.left.len
 obtain ⟨-,ht,hno⟩:=cutM_iff.1 hc
 have hp:prvN l.length i < l.length:=prv_lt (by omega)
 have hn:nxtN l.length i < l.length:=nxt_lt (by omega)
 obtain ⟨e0,e1,e2⟩:=ear_pts xs h3 hi
 show EarP _ _ _ _
 rw [e0,e1,e2]
 rw [turnI hr (h.left.at hp) (h.left.at hi) (h.left.at hn)] at ht
 refine ⟨ht,fun j n0 n1 n2 hb=>?_⟩
 have hj:j % l.length < l.length:=Nat.mod_lt _ (by omega)
 have ej:(subP xs l).v j=(roomP xs).v (gI l (j % l.length)).toNat:=rfl
 rw [ej] at n0 n1 n2 hb
 generalize j % l.length=r at hj n0 n1 n2 hb
 rcases hno r hj with g|g|g|g
 ·exact n0 (by rw [g])
 ·exact n1 (by rw [g])
 ·exact n2 (by rw [g])
 ·have rv:∀ {k},k < l.length→(roomP xs).v (gI l k).toNat=pI xs (gI l k):=fun hk=>room_v (h.left.at hk).1 (h.left.at hk).2
  rw [rv hp,rv hi,rv hn,rv hj] at hb
  have:=(inTri_iff (left_bd hr h.left hp) (left_bd hr h.left hi) (left_bd hr h.left hn) (left_bd hr h.left hj)).2 hb
  rw [g] at this
  cases this
theorem Sub.cut2 {xs:List Pt} {l:List Int} (h:Sub xs l) (h3:3 < l.length) {i:Nat} (he:EarL xs l i):Cut ((subP xs l).rot (i + l.length - 1)) 2:=
 ear_cut (h.sim.rot _) (by rw [area_rot];exact h.area) h3 ((EarI.rot (show 0 < l.length by omega)).2 he)
theorem Sub.step {xs:List Pt} {l:List Int} (h:Sub xs l) (h3:3 < l.length) {i:Nat} (hi:i < l.length) (he:EarL xs l i):Sub xs (l.eraseIdx i):=by
 have c:=h.cut2 h3 he
 have hR:=h.sim.rot (i + l.length - 1)
 have hl:=List.length_eraseIdx_of_lt hi
 have e:=sub_erase xs h3 hi
 have n1:1≤(subP xs (l.eraseIdx i)).n:=by show 1≤(l.eraseIdx i).length;omega
 have nl:1≤(subP xs l).n:=by show 1≤l.length;omega
 have hb:(subP xs (l.eraseIdx i))=(partB ((subP xs l).rot (i + l.length - 1)) 2).rot (i * ((subP xs (l.eraseIdx i)).n - 1)):=by rw [← e,rot_back _ _ n1]
 obtain ⟨c',e'⟩:=c.rot
 refine ⟨h.left.erase h3 hi,by rw [hb];exact (c.simB hR).rot _,by rw [hb,area_rot];exact c.b,fun hK o=>?_,fun hK o=>h.inn hK ?_⟩
 ·rw [← Outp.rot_iff n1 i,e]
  exact (c.out_both hR hK ((h.out hK o).rot _)).2
 ·rw [← Inn.rot_iff n1 i,e] at o
  have:=c'.inn_of (hR.rot 2) hK o
  rwa [Inn.rot_iff (P:=(subP xs l).rot (i + l.length - 1)) nl,Inn.rot_iff nl] at this
theorem Sub.chord_inn {xs:List Pt} {l:List Int} (h:Sub xs l) (h3:3 < l.length) {i:Nat} (hi:i < l.length) (he:EarL xs l i) {s t K:Int} (hs:0 < s) (ht:0 < t) (e:s + t=K) :
  Inn (roomP xs) K (padd (smul s ((roomP xs).v (gI l (prvN l.length i)).toNat)) (smul t ((roomP xs).v (gI l (nxtN l.length i)).toNat))):=by
 have c:=h.cut2 h3 he
 have:=c.inn (h.sim.rot _) hs ht e
 rw [Inn.rot_iff (show 1≤l.length by omega)] at this
 have:=h.inn (by omega) this
 obtain ⟨e0,e1,e2⟩:=ear_pts xs (by omega) hi
 rw [← e0,← e2]
 exact this
theorem mid_inn {xs:List Pt} (hr:roomOk xs=true) {p q:Pt} (hp:-40≤p.1∧p.1≤40∧-40≤p.2∧p.2≤40) (hq:-40≤q.1∧q.1≤40∧-40≤q.2∧q.2≤40):midM xs p q=2↔Inn (roomP xs) 2 (padd p q):=by
 have h:=pt_of_room hr
 have hn:=room_pos hr
 have hmo:=mid_out hr hp hq
 have e:sumP p q=padd p q:=by
  unfold sumP padd
  rw [W_in (by omega) (by omega),W_in (by omega) (by omega)]
 have hs:Bd (padd p q):=by
  unfold Bd padd
  simp only
  omega
 have hy:(xs.map twP).length=xs.length:=by simp
 have hv:∀ k,pCy (xs.map twP) k=smul 2 (pCy xs k):=fun k=>by
  have hk:k % xs.length < xs.length:=Nat.mod_lt _ hn
  show (xs.map twP).getD (k % (xs.map twP).length) (0,0)=smul 2 (xs.getD (k % xs.length) (0,0))
  rw [List.length_map,getD_lt _ (by rw [List.length_map];exact hk),getD_lt _ hk,List.getElem_map]
  exact twP_eq (h _ (List.getElem_mem hk))
 have hb:∀ q∈xs.map twP,Bd q:=fun c' hc'=>by
  obtain ⟨c,hc,rfl⟩:=List.mem_map.1 hc'
  have:=h c hc
  rw [twP_eq this]
  unfold Bd smul
  simp only
  omega
 have hP:=room_simple hr
 have ne:∀ k,k < xs.length→smul 2 ((roomP xs).v k)≠smul 2 ((roomP xs).v (k + 1)):=fun k hk e=>by
  apply hP.ne k
  have e1:=congrArg Prod.fst e
  have e2:=congrArg Prod.snd e
  exact Prod.ext (Int.eq_of_mul_eq_mul_left (by omega) e1) (Int.eq_of_mul_eq_mul_left (by omega) e2)
 have wa:∀ k,k < xs.length→pAt (xs.map twP) k=smul 2 ((roomP xs).v k)∧pCy (xs.map twP) (k + 1)=smul 2 ((roomP xs).v (k + 1)):=fun k hk=>⟨(pCy_lt (by omega)).symm.trans (hv k),hv (k + 1)⟩
 have onoff:∀ k,k < xs.length→(onAt (xs.map twP) (padd p q) k=false↔Off (padd p q) (smul 2 ((roomP xs).v k)) (smul 2 ((roomP xs).v (k + 1)))):=fun k hk=>by
  have b1:Bd (pAt (xs.map twP) k):=pAt_bd hb (by omega)
  have b2:Bd (pCy (xs.map twP) (k + 1)):=pCy_bd hb (by omega)
  show onS (padd p q) (pAt (xs.map twP) k) (pCy (xs.map twP) (k + 1))=false↔_
  constructor
  ·intro h0
   rcases off_or_on (padd p q) (ne k hk) with g|g
   ·exact g
   ·rw [← (wa k hk).1,← (wa k hk).2] at g
    rw [g.onS b1 b2 hs] at h0
    exact absurd h0 (by decide)
  ·intro g
   cases h0:onS (padd p q) (pAt (xs.map twP) k) (pCy (xs.map twP) (k + 1)) with
   | false=>rfl
   | true=>
    exfalso
    have:=onS_OnM b1 b2 hs h0
    rw [(wa k hk).1,(wa k hk).2] at this
    exact this.not_off g
 have two:midM xs p q=2↔midM xs p q≠0∧onAny (xs.map twP) (padd p q)=false:=by
  unfold midM
  rw [e]
  unfold placeM
  split
  ·rename_i g;rw [g];simp
  ·rename_i g;split <;> simp [Bool.eq_false_iff.2 g]
 rw [two,ne_eq,hmo]
 have hoff:onAny (xs.map twP) (padd p q)=false↔OffP (roomP xs) 2 (padd p q):=by
  constructor
  ·intro g k hk
   have hk:k < xs.length:=hk
   exact (onoff k hk).1 (onAny_off g (by omega))
  ·intro g
   exact onAny_no fun k hk=>(onoff k (by omega)).2 (g k (by show k < xs.length;omega))
 rw [hoff]
 constructor
 ·rintro ⟨g1,g2⟩
  exact (out_or_in hP (room_area hr).2.1 (by decide) g2).resolve_left g1
 ·intro g
  exact ⟨g.not_out,g.1⟩
theorem diag_of_inn {xs:List Pt} (hr:roomOk xs=true) {i k:Nat} (hi:i < xs.length) (hk:k < xs.length) (hik:i≠k) (hin:∀ s t K:Int,0 < s→0 < t→s + t=K→Inn (roomP xs) K (padd (smul s ((roomP xs).v i)) (smul t ((roomP xs).v k)))):diagC xs i k=true:=by
 have vi:(roomP xs).v i=pAt xs i:=v_lt hi
 have vk:(roomP xs).v k=pAt xs k:=v_lt hk
 rw [diagC_iff]
 refine ⟨?_,?_,?_⟩
 ·rw [seesS_noout hr (corner_ok hr hi) (corner_ok hr hk) (corner_in hr hi) (corner_in hr hk)]
  intro s t hs ht hst o
  rcases (show s=0∨t=0∨(0 < s∧0 < t) by omega) with g|g|⟨g1,g2⟩
  ·subst g
   have e:padd (smul 0 (pAt xs i)) (smul t (pAt xs k))=smul t ((roomP xs).v k):=by rw [vk];unfold padd smul;simp
   rw [e] at o
   refine corner_not_out (roomP xs) k (by show 0 < xs.length;omega) (Outp.desc (L:=t) (by omega) ?_)
   rw [Int.mul_one];rwa [Int.zero_add] at o
  ·subst g
   have e:padd (smul s (pAt xs i)) (smul 0 (pAt xs k))=smul s ((roomP xs).v i):=by rw [vi];unfold padd smul;simp
   rw [e] at o
   refine corner_not_out (roomP xs) i (by show 0 < xs.length;omega) (Outp.desc (L:=s) (by omega) ?_)
   rw [Int.mul_one];rwa [Int.add_zero] at o
  ·have:=hin s t (s + t) g1 g2 rfl
   rw [vi,vk] at this
   exact this.not_out o
 ·rw [freeTo_iff]
  intro j hj
  by_cases e1:j=i
  ·exact .inl e1
  by_cases e2:j=k
  ·exact .inr (.inl e2)
  refine .inr (.inr ?_)
  cases h0:onS (pAt xs j) (pAt xs i) (pAt xs k) with
  | false=>rfl
  | true=>
   exfalso
   obtain ⟨s,t,hs,ht,h0,x1,x2⟩:=(onS_OnM (bd_of_ok (corner_ok hr hi)) (bd_of_ok (corner_ok hr hk)) (bd_of_ok (corner_ok hr hj)) h0).coords
   have hne:∀ {a},a < xs.length→j≠a→pAt xs j≠pAt xs a:=fun ha hja e=>hja (room_inj hr hj ha e)
   rcases (show s=0∨t=0∨(0 < s∧0 < t) by omega) with g|g|⟨g1,g2⟩
   ·subst g
    refine hne hk e2 (Prod.ext (Int.eq_of_mul_eq_mul_left (show t≠0 by omega) (by simpa using x1)) (Int.eq_of_mul_eq_mul_left (show t≠0 by omega) (by simpa using x2)))
   ·subst g
    refine hne hi e1 (Prod.ext (Int.eq_of_mul_eq_mul_left (show s≠0 by omega) (by simpa using x1)) (Int.eq_of_mul_eq_mul_left (show s≠0 by omega) (by simpa using x2)))
   ·have:=hin s t (s + t) g1 g2 rfl
    rw [vi,vk,show padd (smul s (pAt xs i)) (smul t (pAt xs k))=smul (s + t) ((roomP xs).v j) by rw [v_lt hj];exact Prod.ext x1.symm x2.symm] at this
    have:=this.1 j hj
    exact (Off.ne this).1 rfl
 ·rw [mid_inn hr (ptOk_iff.1 (corner_ok hr hi)) (ptOk_iff.1 (corner_ok hr hk))]
  have:=hin 1 1 2 (by decide) (by decide) rfl
  rwa [vi,vk,smul_one,smul_one] at this
theorem Sub.cut_of {xs:List Pt} (hr:roomOk xs=true) {l:List Int} (h:Sub xs l) (h3:3 < l.length) {i:Nat} (hi:i < l.length) (he:EarL xs l i):cutM xs l i=true:=by
 have hp:prvN l.length i < l.length:=prv_lt (by omega)
 have hn:nxtN l.length i < l.length:=nxt_lt (by omega)
 obtain ⟨q1,q2,q3⟩:=prv_ne (by omega) hi
 obtain ⟨e0,e1,e2⟩:=ear_pts xs (by omega) hi
 have ap:=h.left.at hp
 have an:=h.left.at hn
 have hne:gI l (prvN l.length i)≠gI l (nxtN l.length i):=fun e=>q3 (h.left.inj hp hn e)
 have heP:EarP (subP xs l) _ _ _:=he
 rw [e0,e1,e2] at heP
 rw [cutM_iff]
 refine ⟨?_,by rw [turnI hr ap (h.left.at hi) an];exact heP.1,fun j hj=>?_⟩
 ·cases hnb:neighZ xs.length (gI l (prvN l.length i)) (gI l (nxtN l.length i)) with
  | true=>exact .inr rfl
  | false=>
   left
   rw [diagM_iff]
   refine ⟨btw_iff.2 (by omega),btw_iff.2 (by omega),hne,hnb,diag_of_inn hr (by omega) (by omega) (by omega) fun s t K hs ht e=>h.chord_inn h3 hi he hs ht e⟩
 ·by_cases g0:gI l j=gI l (prvN l.length i)
  ·exact .inl g0
  by_cases g1:gI l j=gI l i
  ·exact .inr (.inl g1)
  by_cases g2:gI l j=gI l (nxtN l.length i)
  ·exact .inr (.inr (.inl g2))
  refine .inr (.inr (.inr ?_))
  have rv:∀ {k},k < l.length→(roomP xs).v (gI l k).toNat=pI xs (gI l k):=fun hk=>room_v (h.left.at hk).1 (h.left.at hk).2
  have dif:∀ {k},k < l.length→gI l j≠gI l k→(subP xs l).v j≠(roomP xs).v (gI l k).toNat:=fun {k} hk hjk e=>by
   rw [sub_v xs hj,rv hj,rv hk] at e
   have a1:=h.left.at hj
   have a2:=h.left.at hk
   have:=room_inj hr (by omega) (by omega) e
   omega
  have:=heP.2 j (dif hp g0) (dif hi g1) (dif hn g2)
  rw [sub_v xs hj,rv hp,rv hi,rv hn,rv hj] at this
  exact Bool.eq_false_iff.2 fun hb=>this ((inTri_iff (left_bd hr h.left hp) (left_bd hr h.left hi) (left_bd hr h.left hn) (left_bd hr h.left hj)).1 hb)
theorem Sub.first {xs:List Pt} (hr:roomOk xs=true) {l:List Int} (h:Sub xs l) (h3:3 < l.length):∃ i,firstCut xs l=Option.some i∧i < l.length∧EarL xs l i:=by
 obtain ⟨i,hi,he⟩:=h.some h3
 cases hf:firstCut xs l with
 | some j=>
  have:=firstCut_spec hf
  exact ⟨j,rfl,this.1,h.ear_of hr this.1 this.2⟩
 | none=>
  exfalso
  unfold firstCut at hf
  rw [List.find?_eq_none] at hf
  exact hf i (List.mem_range.2 hi) (h.cut_of hr h3 hi he)
abbrev tv (xs:List Pt) (k:Int):Pt:=(roomP xs).v k.toNat
def areaT (xs:List Pt) (t:Tri):Int:=turnZ (tv xs t.1) (tv xs t.2.1) (tv xs t.2.2)
def InC (a b c p:Pt):Prop:=0≤turnZ a b p∧0≤turnZ b c p∧0≤turnZ c a p
theorem InC.cyc {a b c p:Pt} (h:InC a b c p):InC b c a p:=⟨h.2.1,h.2.2,h.1⟩
abbrev InT3 (xs:List Pt) (t:Tri) (p:Pt):Prop:=InC (tv xs t.1) (tv xs t.2.1) (tv xs t.2.2) p
theorem triAt_cyc {n:Nat} {l:List Int} (hL:Left n l) {i:Nat} (hi:i < l.length) :
  triAt l i=(gI l (prvN l.length i),gI l i,gI l (nxtN l.length i))∨triAt l i=(gI l i,gI l (nxtN l.length i),gI l (prvN l.length i))∨triAt l i=(gI l (nxtN l.length i),gI l (prvN l.length i),gI l i):=by
 have h3:=hL.len
 unfold triAt
 rcases prv_eq hi with ⟨h1,h2⟩|⟨h1,h2⟩ <;> rcases nxt_eq hi with ⟨h4,h5⟩|⟨h4,h5⟩
 ·omega
 ·right;left
  have m1:=hL.mono (i:=i) (j:=nxtN l.length i) (by omega) (by omega)
  have m2:=hL.mono (i:=nxtN l.length i) (j:=prvN l.length i) (by omega) (by omega)
  unfold triS
  simp only [Prod.mk.injEq]
  omega
 ·right;right
  have m1:=hL.mono (i:=nxtN l.length i) (j:=prvN l.length i) (by omega) (by omega)
  have m2:=hL.mono (i:=prvN l.length i) (j:=i) (by omega) (by omega)
  unfold triS
  simp only [Prod.mk.injEq]
  omega
 ·left
  have m1:=hL.mono (i:=prvN l.length i) (j:=i) (by omega) (by omega)
  have m2:=hL.mono (i:=i) (j:=nxtN l.length i) (by omega) (by omega)
  unfold triS
  simp only [Prod.mk.injEq]
  omega
structure Tri3 (xs:List Pt) (a b c:Pt):Prop where
 pos:0 < turnZ a b c
 see:∀ p,InC a b c p→NoOut (roomP xs) a p∧NoOut (roomP xs) b p∧NoOut (roomP xs) c p
theorem Tri3.cyc {xs:List Pt} {a b c:Pt} (h:Tri3 xs a b c):Tri3 xs b c a:=
 ⟨by rw [turn_cyc];exact h.pos,fun p hp=>by
  obtain ⟨h1,h2,h3⟩:=h.see p hp.cyc.cyc
  exact ⟨h2,h3,h1⟩⟩
theorem NoOut.swap {P:Poly} {a b:Pt} (h:NoOut P a b):NoOut P b a:=fun s t hs ht hst o=>by
 refine h t s ht hs (by omega) ?_
 rw [show padd (smul t a) (smul s b)=padd (smul s b) (smul t a) by unfold padd;exact Prod.ext (Int.add_comm _ _) (Int.add_comm _ _),Int.add_comm]
 exact o
theorem tri3_of {xs:List Pt} {Q:Poly} (hQ:SimpleP Q) (hn:Q.n=3) (ha:0 < Q.area) (out:∀ {K x},0 < K→Outp (roomP xs) K x→Outp Q K x):Tri3 xs (Q.v 0) (Q.v 1) (Q.v 2):=by
 have ht:0 < turnZ (Q.v 0) (Q.v 1) (Q.v 2):=by rwa [tri_area' hn] at ha
 have c3:∀ j,Q.v (j + 3)=Q.v j:=fun j=>by rw [← hn,Q.per]
 refine ⟨ht,fun p ⟨h0,h1,h2⟩=>?_⟩
 have st:∀ k,NoOut (roomP xs) (Q.v k) p:=fun k=>NoOut.swap fun s t hs ht' hst o=>by
  refine star hQ (fun j=>by rw [tri_turns hn];omega) ha (p:=p) (fun k hk=>?_) (corner_not_out Q k (by omega)) s t hs ht' hst (out hst o)
  rcases (show k=0∨k=1∨k=2 by omega) with q|q|q <;> subst q
  ·exact h0
  ·exact h1
  ·rw [c3 0];exact h2
 exact ⟨st 0,st 1,st 2⟩
theorem inC_of {Q:Poly} (hn:Q.n=3) (ha:0 < Q.area) {p:Pt} (h:¬ Outp Q 1 p):InC (Q.v 0) (Q.v 1) (Q.v 2) p:=by
 have ht:0 < turnZ (Q.v 0) (Q.v 1) (Q.v 2):=by rwa [tri_area' hn] at ha
 have c3:∀ j,Q.v (j + 3)=Q.v j:=fun j=>by rw [← hn,Q.per]
 have g:∀ k,k < 3→0≤turnZ (Q.v k) (Q.v (k + 1)) p:=fun k hk=>tri_in hn h k (by omega) (by rw [tri_turns hn];omega)
 refine ⟨g 0 (by decide),g 1 (by decide),?_⟩
 have:=g 2 (by decide)
 rwa [c3 0] at this
structure TriGood (xs:List Pt) (l:List Int) (ts:List Tri):Prop where
 cut:Cutd l ts
 len:ts.length + 2=l.length
 sum:(ts.map (areaT xs)).sum=(subP xs l).area
 tri:∀ t∈ts,Tri3 xs (tv xs t.1) (tv xs t.2.1) (tv xs t.2.2)
 all:∀ p,¬ Outp (subP xs l) 1 p→∃ t∈ts,InT3 xs t p
theorem sub3 {xs:List Pt} {l:List Int} (h:l.length=3):(subP xs l).v 0=tv xs (gI l 0)∧(subP xs l).v 1=tv xs (gI l 1)∧(subP xs l).v 2=tv xs (gI l 2):=
 ⟨sub_v xs (by omega),sub_v xs (by omega),sub_v xs (by omega)⟩
theorem Sub.good {xs:List Pt} (hr:roomOk xs=true):∀ (f:Nat) (l:List Int) (out:List Tri),l.length=f + 3→Sub xs l→∃ ts,triRun xs f l out=out ++ ts∧TriGood xs l ts
 | 0,l,out,hl,h=>by
  have hl:l.length=3:=by omega
  have h01:=h.left.mono (i:=0) (j:=1) (by omega) (by omega)
  have h12:=h.left.mono (i:=1) (j:=2) (by omega) (by omega)
  obtain ⟨e0,e1,e2⟩:=sub3 (xs:=xs) hl
  have es:=triS_sorted h01 h12
  have hn:(subP xs l).n=3:=hl
  refine ⟨_,rfl,.last hl,by simp [hl],?_,fun t ht=>?_,fun p hp=>⟨_,List.mem_singleton.2 rfl,?_⟩⟩
  ·rw [tri_area' hn,e0,e1,e2,List.map_cons,List.map_nil,List.sum_cons,List.sum_nil,Int.add_zero,areaT,es]
  ·rw [List.mem_singleton.1 ht,es]
   have:=tri3_of h.sim hn h.area h.out
   rw [e0,e1,e2] at this
   exact this
  ·rw [es]
   have:=inC_of hn h.area hp
   rw [e0,e1,e2] at this
   exact this
 | f + 1,l,out,hl,h=>by
  have h3:3 < l.length:=by omega
  obtain ⟨i,hf,hi,he⟩:=h.first hr h3
  have hle:=List.length_eraseIdx_of_lt hi
  have hS:=h.step h3 hi he
  obtain ⟨ts,er,G⟩:=Sub.good hr f (l.eraseIdx i) (out ++ [triAt l i]) (by omega) hS
  have c:=h.cut2 h3 he
  have hR:=h.sim.rot (i + l.length - 1)
  have ep:=sub_erase xs h3 hi
  obtain ⟨e0,e1,e2⟩:=ear_pts xs (by omega) hi
  have a0:(((subP xs l).rot (i + l.length - 1)).arc 2).v 0=tv xs (gI l (prvN l.length i)):=by rw [arc_v _ (by omega)];exact e0
  have a1:(((subP xs l).rot (i + l.length - 1)).arc 2).v 1=tv xs (gI l i):=by rw [arc_v _ (by omega)];exact e1
  have a2:(((subP xs l).rot (i + l.length - 1)).arc 2).v 2=tv xs (gI l (nxtN l.length i)):=by rw [arc_v _ (by omega)];exact e2
  have T:=tri3_of (xs:=xs) (c.simA hR) rfl c.a fun hK o=>(c.out_both hR hK ((h.out hK o).rot _)).1
  rw [a0,a1,a2] at T
  have nl:1≤(subP xs l).n:=by show 1≤l.length;omega
  have ne:1≤(subP xs (l.eraseIdx i)).n:=by show 1≤(l.eraseIdx i).length;omega
  have hcyc:=triAt_cyc h.left hi
  refine ⟨triAt l i :: ts,?_,.step h3 hi G.cut,?_,?_,fun t ht=>?_,fun p hp=>?_⟩
  ·unfold triRun
   rw [hf]
   show triRun xs f (l.eraseIdx i) (out ++ [triAt l i])=_
   rw [er];simp
  ·have:=G.len
   simp only [List.length_cons];omega
  ·rw [List.map_cons,List.sum_cons,G.sum]
   have q:=area_cut ((subP xs l).rot (i + l.length - 1)) (m:=2) (by show 2≤l.length;omega)
   have q2:(((subP xs l).rot (i + l.length - 1)).rot 2).arc (((subP xs l).rot (i + l.length - 1)).n - 2)=(subP xs (l.eraseIdx i)).rot i:=ep.symm
   rw [q2,area_rot,area_rot,tri_area' (show (((subP xs l).rot (i + l.length - 1)).arc 2).n=3 from rfl),a0,a1,a2] at q
   rw [q]
   congr 1
   unfold areaT
   rcases hcyc with e|e|e <;> rw [e]
   ·exact turn_cyc _ _ _
   ·exact (turn_cyc _ _ _).symm
  ·rcases List.mem_cons.1 ht with rfl|ht
   ·rcases hcyc with e|e|e <;> rw [e]
    ·exact T
    ·exact T.cyc
    ·exact T.cyc.cyc
   ·exact G.tri t ht
  ·by_cases hB:Outp (subP xs (l.eraseIdx i)) 1 p
   ·have hA:¬ Outp (((subP xs l).rot (i + l.length - 1)).arc 2) 1 p:=fun hA=>by
     have hB:=hB.rot i
     rw [ep] at hB
     have:=c.out hA hB
     rw [Outp.rot_iff nl] at this
     exact hp this
    have hI:=inC_of rfl c.a hA
    rw [a0,a1,a2] at hI
    refine ⟨triAt l i,List.mem_cons_self,?_⟩
    show InC _ _ _ _
    rcases hcyc with e|e|e <;> rw [e]
    ·exact hI
    ·exact hI.cyc
    ·exact hI.cyc.cyc
   ·obtain ⟨t,ht,h'⟩:=G.all p hB
    exact ⟨t,List.mem_cons_of_mem _ ht,h'⟩
theorem tris_good {xs:List Pt} (hr:roomOk xs=true):TriGood xs (allC xs.length) (trisM xs):=by
 have h3:=(room_len hr).1
 obtain ⟨ts,e,G⟩:=Sub.good hr (xs.length - 3) (allC xs.length) [] (by rw [allC_len];omega) (Sub.all hr)
 unfold trisM
 rw [if_pos hr,e,List.nil_append]
 exact G
theorem tris_count {xs:List Pt} (hr:roomOk xs=true):(trisM xs).length + 2=xs.length:=by
 have:=(tris_good hr).len
 rwa [allC_len] at this
theorem tris_ne {xs:List Pt} (hr:roomOk xs=true):trisM xs≠[]:=fun e=>by
 have:=tris_count hr
 have:=(room_len hr).1
 rw [e] at *
 simp at *
 omega
theorem tris_all {xs:List Pt} {p:Pt} (hp:p∈floorPts xs):∃ t∈trisM xs,InT3 xs t p:=by
 obtain ⟨hr,hpt,hi⟩:=mem_floor.1 hp
 refine (tris_good hr).all p ?_
 rw [sub_all (room_pos hr)]
 exact fun o=>hi ((out_iff hr (bd_of_ok hpt)).2 o)
end Go.Proofs.YtnepfcnlngpchaaGreat.Geo
namespace Go.Proofs.YtnepfcnlngpchaaGreat
open Go.RowKit Go.Proofs.YtnepfcnlngpchaaGreat.Nm
set_option maxRecDepth 10000
abbrev Cur:=List Int × Int × Int
def curL (c:Cur):List D:=[.sl none (.b .u8) c.1,.int .i64 c.2.1,.int .i64 c.2.2]
structure curOk (c:Cur):Prop where
 len:c.1.length≤1048576
 lo:0≤c.2.1
 hi:c.2.1≤1048576
def newH (bs:List Int):Nat→Int
 | 0=>W (99143 + (bs.length:Int))
 | i + 1=>bitI .and .i64 (W (W (W (newH bs i * 131) + W (bs.getD i 0)) + 7)) 1073741823
def newC (bs:List Int):Cur:=(bs,0,newH bs (min bs.length 4000))
def byteH (c:Cur):Int:=W (c.2.2 * 6364136223846793005 + 1442695040888963407)
def byte0 (c:Cur):Int:=bitI .and .i64 (bitI .xor .i64 (bitI .shr .i64 (byteH c) 33) (bitI .shr .i64 (byteH c) 45)) 255
def byteX (c:Cur):Int:=if c.2.1 < (c.1.length:Int) then bitI .and .i64 (W (byte0 c + W (c.1.getD c.2.1.toNat 0))) 255 else byte0 c
def byteC (c:Cur):Cur:=(c.1,if c.2.1 < (c.1.length:Int) then c.2.1 + 1 else c.2.1,byteH c)
theorem and255 (x:Int):0≤bitI .and .i64 x 255∧bitI .and .i64 x 255≤255:=by
 have h:(BitVec.ofInt IntKind.i64.bits x &&& BitVec.ofInt IntKind.i64.bits 255).toNat≤255:=by
  rw [BitVec.toNat_and]
  exact Nat.le_trans Nat.and_le_right (by decide)
 have e:bitI .and .i64 x 255=(((BitVec.ofInt IntKind.i64.bits x &&& BitVec.ofInt IntKind.i64.bits 255).toNat:Nat):Int):=W_in (by omega) (by omega)
 rw [e]
 omega
theorem byteX_bd (c:Cur):0≤byteX c∧byteX c≤255:=by
 unfold byteX
 split
 ·exact and255 _
 ·exact and255 _
theorem byteC_ok {c:Cur} (h:curOk c):curOk (byteC c):=by
 obtain ⟨h1,h2,h3⟩:=h
 refine ⟨h1,?_,?_⟩ <;> (unfold byteC;simp only;split <;> omega)
def belowX (c:Cur) (n:Int):Int:=
 if n≤0 then 0 else if n≤256 then (byteX c).tmod n
 else (byteX c * 16777216 + byteX (byteC c) * 65536 + byteX (byteC (byteC c)) * 256 + byteX (byteC (byteC (byteC c)))).tmod n
def belowC (c:Cur) (n:Int):Cur:=if n≤0 then c else if n≤256 then byteC c else byteC (byteC (byteC (byteC c)))
theorem below_bd {c:Cur} {n:Int} (h:0 < n):0≤belowX c n∧belowX c n < n:=by
 unfold belowX
 have h1:=byteX_bd c
 have h2:=byteX_bd (byteC c)
 have h3:=byteX_bd (byteC (byteC c))
 have h4:=byteX_bd (byteC (byteC (byteC c)))
 rw [if_neg (by omega)]
 split
 ·exact ⟨Int.tmod_nonneg _ h1.1,Int.tmod_lt_of_pos _ h⟩
 ·exact ⟨Int.tmod_nonneg _ (by omega),Int.tmod_lt_of_pos _ h⟩
theorem belowC_ok {c:Cur} {n:Int} (h:curOk c):curOk (belowC c n):=by
 unfold belowC
 split
 ·exact h
 ·split
  ·exact byteC_ok h
  ·exact byteC_ok (byteC_ok (byteC_ok (byteC_ok h)))
theorem newC_ok {bs:List Int} (h:bs.length≤1048576):curOk (newC bs):=⟨h,Int.le_refl 0,show (0:Int)≤1048576 by decide⟩
def l01NewC:ConD:=mkConN [.sl (.b .u8)] t_spec_l01Cur (fun x=>x.1.length≤1048576) fun x=>curL (newC x.1)
set_option maxRecDepth 200000 in
theorem l01New_ok:GoodD Tryz.prog n_spec_l01New l01NewC:=by
 refine good_ofN (tys:=tyL) (env:=[]) (envw:=[]) (envd:=[]) [31] [] [] [] [] mixed tys trivial trivial trivial Tryz.func29 rfl (by kernel_rfl) (by decide) (by kernel_rfl) ?_
 have hG_:=kpz [(0,[0]),(1,[0,3]),(2,[0,3,4]),(3,[0,3,4,15]),(4,[0,3,4]),(5,[0,3,4]),(6,[2])] [] [] []
 rintro ⟨(bs:List Int),⟨⟩⟩ (h1:bs.length≤_)
 (repeat' (first|(with_reducible first|exact True.intro|refine zQ ?_|(refine zG hG_ ?_;intro K_ hK_)|(refine zR ?_;intro K_ hK_)|(refine hK_ _ _ ?_;try clear hK_ K_)|refine sq_n ?_|refine sq_r ?_|refine sq_e ?_|refine bq_n ?_|refine bq_r ?_|refine bq_q ?_|refine zB ?_|refine zX ?_|refine zT ?_|refine zK ?_|refine gq_n ?_|refine gq_r ?_|refine gq_e ?_|refine lq_n ?_|refine lq_r ?_|refine lq_e ?_|refine bq_e (by decide) ?_)|((with_reducible refine zC (b:=?b_) ?hb_ ?_ ?_);case hb_=>rfl)|((conv=>whnf);first|(with_reducible refine hK_ _ _ ?_;try clear hK_ K_)|(with_reducible refine fun (g_:Sl) (o_:Ow)=>?_)|(with_reducible first|exact True.intro|refine And.intro trivial ?_|refine And.intro ?_ ?_)|exact Nat.le_of_ble_eq_true rfl|exact Or.inl rfl|(intro h_;cases h_)|(intro h_;(try simp only [vS1] at h_))|rfl))) <;> (try (conv=>whnf)) <;> (try first|change (_:Int)≤_|change (_:Nat)≤_) <;> (try ((fail_if_success (with_reducible apply Exists.intro));(try dsimp only);(try simp only [vS1])))
 refine awp'_loopG (α:=Nat) (fun i ver_=>[(3,vInt (newH bs i)),(4,vInt i)]) (fun i ver_=>[]) (fun i ver_=>[]) (fun i=>i≤bs.length∧i≤4000) (fun i=>bs.length - i) [0] [] (0) ?_
 conv=>whnf
 refine ⟨⟨?inv1_,?vals1_,?own1_,?fix1_⟩,?body1_⟩
 case' vals1_=>(repeat' (first|(with_reducible first|exact True.intro|refine And.intro ?_ ?_|refine Head.mk ?_ ?_ ?_ ?_)|((conv=>lhs;whnf);first|(with_reducible first|rfl|exact vInt_s (by omega))|exact rfl)|((conv=>whnf);first|(with_reducible first|exact True.intro|refine And.intro ?_ ?_)))) <;> (try (conv=>lhs;whnf))
 case' own1_=>(repeat' (first|(with_reducible first|exact True.intro|refine And.intro ?_ ?_|refine Head.mk ?_ ?_ ?_ ?_)|((conv=>lhs;whnf);first|(with_reducible first|rfl|exact vInt_s (by omega))|exact rfl)|((conv=>whnf);first|(with_reducible first|exact True.intro|refine And.intro ?_ ?_)))) <;> (try (conv=>lhs;whnf))
 case' fix1_=>(repeat' (first|(with_reducible first|exact True.intro|refine And.intro ?_ ?_|refine Head.mk ?_ ?_ ?_ ?_)|((conv=>lhs;whnf);first|(with_reducible first|rfl|exact vInt_s (by omega))|exact rfl)|((conv=>whnf);first|(with_reducible first|exact True.intro|refine And.intro ?_ ?_)))) <;> (try (conv=>lhs;whnf))
 ·exact ⟨Nat.zero_le _,Nat.zero_le _⟩
 rintro i g_ o_ v_ ⟨hi,hi2⟩
 have hG_:=kpz [(0,[0]),(1,[0,3]),(2,[0,3,4]),(3,[0,3,4,15]),(4,[0,3,4]),(5,[0,3,4]),(6,[2])] [(6,[31])] [] []
 (repeat' (first|(with_reducible first|exact True.intro|refine zQ ?_|(refine zG hG_ ?_;intro K_ hK_)|(refine zR ?_;intro K_ hK_)|(refine hK_ _ _ ?_;try clear hK_ K_)|refine sq_n ?_|refine sq_r ?_|refine sq_e ?_|refine bq_n ?_|refine bq_r ?_|refine bq_q ?_|refine zB ?_|refine zX ?_|refine zT ?_|refine zK ?_|refine gq_n ?_|refine gq_r ?_|refine gq_e ?_|refine lq_n ?_|refine lq_r ?_|refine lq_e ?_|refine bq_e (by decide) ?_)|((with_reducible refine zC (b:=?b_) ?hb_ ?_ ?_);case hb_=>rfl)|((conv=>whnf);first|(with_reducible refine hK_ _ _ ?_;try clear hK_ K_)|(with_reducible refine fun (g_:Sl) (o_:Ow)=>?_)|(with_reducible first|exact True.intro|refine And.intro trivial ?_|refine And.intro ?_ ?_)|exact Nat.le_of_ble_eq_true rfl|exact Or.inl rfl|(intro h_;cases h_)|(intro h_;(try simp only [vS1] at h_))|rfl))) <;> (try (conv=>whnf)) <;> (try first|change (_:Int)≤_|change (_:Nat)≤_) <;> (try ((fail_if_success (with_reducible apply Exists.intro));(try dsimp only);(try simp only [vS1])))
 all_goals (try (fail_if_success (with_reducible apply Exists.intro));first|with_reducible assumption|omega|exact mdl (by omega)|exact ilo1 (by omega)|exact ilo2 (by omega)|exact ihi1 (by omega) (by omega)|exact ihi2 (by omega) (by omega))
 ·refine ⟨i + 1,by omega,by omega,?_⟩
  (repeat' (first|(with_reducible first|exact True.intro|refine And.intro ?_ ?_|refine Head.mk ?_ ?_ ?_ ?_)|((conv=>lhs;whnf);first|(with_reducible first|rfl|exact vInt_s (by omega))|exact rfl)|((conv=>whnf);first|(with_reducible first|exact True.intro|refine And.intro ?_ ?_)))) <;> (try (conv=>lhs;whnf))
 ·show dOf _=some _
  unfold curL newC
  rw [show min bs.length 4000=i by omega];rfl
 ·show dOf _=some _
  unfold curL newC
  rw [show min bs.length 4000=i by omega];rfl
def l01ByteC:ConD:=mkConB [.cur] 0 t_spec_l01Cur (fun x=>curOk x.1) (fun x=>vInt (byteX x.1)) fun x=>curL (byteC x.1)
theorem l01Byte_ok:GoodD Tryz.prog n_spec_l01Byte l01ByteC:=by
 refine good_ofB (tys:=tyL) (env:=[]) (envw:=[]) (envd:=[]) [1000] [] [] [] [] mixed tys trivial trivial trivial Tryz.func102 rfl (by kernel_rfl) ⟨by decide,rfl⟩ (by kernel_rfl) ?_
 have hG_:=kpz [(0,[0]),(1,[0]),(2,[0,3]),(3,[0,3,34]),(4,[0,3]),(5,[3]),(6,[2])] [(0,[1000]),(1,[1000]),(2,[1000]),(3,[1000]),(4,[1000]),(5,[1000]),(6,[1000])] [] []
 rintro ⟨⟨(bs:List Int),(i:Int),(h:Int)⟩,⟨⟩⟩ ⟨(h1:bs.length≤_),(h2:0≤i),(h3:i≤_)⟩
 (repeat' (first|(with_reducible first|exact True.intro|refine zQ ?_|(refine zG hG_ ?_;intro K_ hK_)|(refine zR ?_;intro K_ hK_)|(refine hK_ _ _ ?_;try clear hK_ K_)|refine sq_n ?_|refine sq_r ?_|refine sq_e ?_|refine bq_n ?_|refine bq_r ?_|refine bq_q ?_|refine zB ?_|refine zX ?_|refine zT ?_|refine zK ?_|refine gq_n ?_|refine gq_r ?_|refine gq_e ?_|refine lq_n ?_|refine lq_r ?_|refine lq_e ?_|refine bq_e (by decide) ?_)|((with_reducible refine zC (b:=?b_) ?hb_ ?_ ?_);case hb_=>rfl)|((conv=>whnf);first|(with_reducible refine hK_ _ _ ?_;try clear hK_ K_)|(with_reducible refine fun (g_:Sl) (o_:Ow)=>?_)|(with_reducible first|exact True.intro|refine And.intro trivial ?_|refine And.intro ?_ ?_)|exact Nat.le_of_ble_eq_true rfl|exact Or.inl rfl|(intro h_;cases h_)|(intro h_;(try simp only [vS1] at h_))|rfl))) <;> (try (conv=>whnf)) <;> (try first|change (_:Int)≤_|change (_:Nat)≤_) <;> (try ((fail_if_success (with_reducible apply Exists.intro));(try dsimp only);(try simp only [vS1])))
 all_goals (try (fail_if_success (with_reducible apply Exists.intro));first|with_reducible assumption|omega|exact mdl (by omega)|exact ilo1 (by omega)|exact ilo2 (by omega)|exact ihi1 (by omega) (by omega)|exact ihi2 (by omega) (by omega))
 ·show dOf _=some _
  unfold curL byteC byteH
  simp only [W_l1,if_pos h_,W_in (show -9223372036854775808≤i + 1 by omega) (show i + 1≤9223372036854775807 by omega)];rfl
 ·unfold byteX byte0 byteH
  simp only [W_l1,if_pos h_]
 ·show dOf _=some _
  unfold curL byteC byteH
  simp only [W_l1,if_neg h_];rfl
 ·unfold byteX byte0 byteH
  simp only [W_l1,if_neg h_]
def l01BelowC:ConD:=mkConB [.cur,.int] 0 t_spec_l01Cur (fun x=>curOk x.1) (fun x=>vInt (belowX x.1 x.2.1)) fun x=>curL (belowC x.1 x.2.1)
theorem l01Below_ok:GoodD Tryz.prog n_spec_l01Below l01BelowC:=by
 refine good_ofB (tys:=tyL) (env:=[]) (envw:=[]) (envd:=[(n_spec_l01Byte,l01ByteC)]) [14,18,20,22,24,1000] [14,18,20,22,24,1000] [] [] [14,18,20,22,24] mixed tys trivial trivial ⟨l01Byte_ok,trivial⟩ Tryz.func65 rfl (by kernel_rfl) ⟨by decide,rfl⟩ (by kernel_rfl) ?_
 have hG_:=kpz [(0,[0,1]),(1,[0,1,10]),(2,[4]),(3,[0,1,12]),(4,[4]),(5,[0,1,5]),(6,[0,1,5,6]),(7,[0,1,5,6,7]),(8,[1,5,6,7,8]),(9,[4])] [(0,[1000]),(1,[1000]),(2,[1000]),(3,[1000]),(4,[1000]),(5,[1000]),(6,[1000]),(7,[1000]),(8,[1000]),(9,[1000])] [] []
 rintro ⟨⟨(bs:List Int),(i:Int),(h:Int)⟩,(n:Int),⟨⟩⟩ (hc:curOk (bs,i,h))
 have h1:=byteC_ok hc
 have h2:=byteC_ok h1
 have h3:=byteC_ok h2
 have b0:=byteX_bd (bs,i,h)
 have b1:=byteX_bd (byteC (bs,i,h))
 have b2:=byteX_bd (byteC (byteC (bs,i,h)))
 have b3:=byteX_bd (byteC (byteC (byteC (bs,i,h))))
 (repeat' (first|(with_reducible first|exact True.intro|refine zQ ?_|(refine zG hG_ ?_;intro K_ hK_)|(refine zR ?_;intro K_ hK_)|(refine hK_ _ _ ?_;try clear hK_ K_)|refine sq_n ?_|refine sq_r ?_|refine sq_e ?_|refine bq_n ?_|refine bq_r ?_|refine bq_q ?_|refine zB ?_|refine zX ?_|refine zT ?_|refine zK ?_|refine gq_n ?_|refine gq_r ?_|refine gq_e ?_|refine lq_n ?_|refine lq_r ?_|refine lq_e ?_|refine bq_e (by decide) ?_)|((with_reducible refine zC (b:=?b_) ?hb_ ?_ ?_);case hb_=>rfl)|((conv=>whnf);first|(with_reducible refine hK_ _ _ ?_;try clear hK_ K_)|(with_reducible refine fun (g_:Sl) (o_:Ow)=>?_)|(with_reducible first|exact True.intro|refine And.intro trivial ?_|refine And.intro ?_ ?_)|exact Nat.le_of_ble_eq_true rfl|exact Or.inl rfl|(intro h_;cases h_)|(intro h_;(try simp only [vS1] at h_))|rfl))) <;> (try (conv=>whnf)) <;> (try first|change (_:Int)≤_|change (_:Nat)≤_) <;> (try ((fail_if_success (with_reducible apply Exists.intro));(try dsimp only);(try simp only [vS1])))
 all_goals (try (fail_if_success (with_reducible apply Exists.intro));first|with_reducible assumption|omega|exact mdl (by omega)|exact ilo1 (by omega)|exact ilo2 (by omega)|exact ihi1 (by omega) (by omega)|exact ihi2 (by omega) (by omega))
 ·show dOf _=some _
  unfold curL belowC
  simp only [if_pos h_];rfl
 ·unfold belowX
  simp only [if_pos h_]
 ·exact ‹¬ Int.ofNat 0≤0› (by decide)
 ·show dOf _=some _
  unfold curL belowC
  simp only [if_neg ‹¬ n≤0›,if_pos h_];rfl
 ·unfold belowX
  simp only [if_neg ‹¬ n≤0›,if_pos h_]
 ·exact ‹¬ Int.ofNat 0≤0› (by decide)
 ·show dOf _=some _
  unfold curL belowC
  simp only [if_neg ‹¬ n≤0›,if_neg h_];rfl
 ·unfold belowX
  simp only [if_neg ‹¬ n≤0›,if_neg h_,W_l1,W_l2]
  rw [W_in (by omega) (by omega)]
end Go.Proofs.YtnepfcnlngpchaaGreat
namespace Go.Proofs.YtnepfcnlngpchaaGreat
open Go.RowKit Go.Proofs.YtnepfcnlngpchaaGreat.Nm
set_option maxRecDepth 10000
set_option maxHeartbeats 2000000
def bigC:Con:=mkCon [.sl (.b .u8)] (fun _=>True) fun x=>vB (decide ((x.1.length:Int) > 1048576))
theorem big_ok:Good1 Tryz.prog n_laws_big bigC:=by
 refine good_ofG (tys:=tyL) (env:=[]) (envw:=[]) (envd:=[]) [] [] [] [] [] mixed tys trivial trivial trivial Tryz.func6 rfl (by kernel_rfl) (by decide) (by kernel_rfl) ?_
 have hG_:=kpz [(0,[0]),(1,[2])] [] [] []
 rintro ⟨(bs:List Int),⟨⟩⟩ -
 (repeat' (first|(with_reducible first|exact True.intro|refine zQ ?_|(refine zG hG_ ?_;intro K_ hK_)|(refine zR ?_;intro K_ hK_)|(refine hK_ _ _ ?_;try clear hK_ K_)|refine sq_n ?_|refine sq_r ?_|refine sq_e ?_|refine bq_n ?_|refine bq_r ?_|refine bq_q ?_|refine zB ?_|refine zX ?_|refine zT ?_|refine zK ?_|refine gq_n ?_|refine gq_r ?_|refine gq_e ?_|refine lq_n ?_|refine lq_r ?_|refine lq_e ?_|refine bq_e (by decide) ?_)|((with_reducible refine zC (b:=?b_) ?hb_ ?_ ?_);case hb_=>rfl)|((conv=>whnf);first|(with_reducible refine hK_ _ _ ?_;try clear hK_ K_)|(with_reducible refine fun (g_:Sl) (o_:Ow)=>?_)|(with_reducible first|exact True.intro|refine And.intro trivial ?_|refine And.intro ?_ ?_)|exact Nat.le_of_ble_eq_true rfl|exact Or.inl rfl|(intro h_;cases h_)|(intro h_;(try simp only [vS1] at h_))|rfl))) <;> (try (conv=>whnf)) <;> (try first|change (_:Int)≤_|change (_:Nat)≤_) <;> (try ((fail_if_success (with_reducible apply Exists.intro));(try dsimp only);(try simp only [vS1])))
 all_goals (try ((fail_if_success (with_reducible apply Exists.intro));first|with_reducible assumption|omega))
def hasM (l:List Int) (k:Int):Bool:=l.any fun x=>x == k
def hasC:Con:=mkCon [.sl (.b .int),.int] (fun x=>x.1.length≤1048576) fun x=>vB (hasM x.1 x.2.1)
theorem has_ok:Good1 Tryz.prog n_laws_has hasC:=by
 refine good_ofG (tys:=tyL) (env:=[]) (envw:=[]) (envd:=[]) [] [] [] [] [] mixed tys trivial trivial trivial Tryz.func25 rfl (by kernel_rfl) (by decide) (by kernel_rfl) ?_
 have hG_:=kpz [(0,[0,1]),(1,[0,1,5]),(2,[0,1,5,9]),(3,[0,1,5]),(4,[0,1,5,17]),(5,[4]),(6,[4])] [] [] []
 rintro ⟨(l:List Int),(k:Int),⟨⟩⟩ (h1:l.length≤_)
 (repeat' (first|(with_reducible first|exact True.intro|refine zQ ?_|(refine zG hG_ ?_;intro K_ hK_)|(refine zR ?_;intro K_ hK_)|(refine hK_ _ _ ?_;try clear hK_ K_)|refine sq_n ?_|refine sq_r ?_|refine sq_e ?_|refine bq_n ?_|refine bq_r ?_|refine bq_q ?_|refine zB ?_|refine zX ?_|refine zT ?_|refine zK ?_|refine gq_n ?_|refine gq_r ?_|refine gq_e ?_|refine lq_n ?_|refine lq_r ?_|refine lq_e ?_|refine bq_e (by decide) ?_)|((with_reducible refine zC (b:=?b_) ?hb_ ?_ ?_);case hb_=>rfl)|((conv=>whnf);first|(with_reducible refine hK_ _ _ ?_;try clear hK_ K_)|(with_reducible refine fun (g_:Sl) (o_:Ow)=>?_)|(with_reducible first|exact True.intro|refine And.intro trivial ?_|refine And.intro ?_ ?_)|exact Nat.le_of_ble_eq_true rfl|exact Or.inl rfl|(intro h_;cases h_)|(intro h_;(try simp only [vS1] at h_))|rfl))) <;> (try (conv=>whnf)) <;> (try first|change (_:Int)≤_|change (_:Nat)≤_) <;> (try ((fail_if_success (with_reducible apply Exists.intro));(try dsimp only);(try simp only [vS1])))
 all_goals (try ((fail_if_success (with_reducible apply Exists.intro));first|with_reducible assumption|omega))
 refine awp'_loopG (α:=Nat) (fun i ver_=>[(5,vInt i)]) (fun i ver_=>[]) (fun i ver_=>[]) (fun i=>i≤l.length∧(l.take i).any (fun x=>x == k)=false) (fun i=>l.length - i) [0,1] [] (0) ?_
 conv=>whnf
 refine ⟨⟨?inv1_,?vals1_,?own1_,?fix1_⟩,?body1_⟩
 case' vals1_=>(repeat' (first|(with_reducible first|exact True.intro|refine And.intro ?_ ?_|refine Head.mk ?_ ?_ ?_ ?_)|((conv=>lhs;whnf);first|(with_reducible first|rfl|exact vInt_s (by omega))|exact rfl)|((conv=>whnf);first|(with_reducible first|exact True.intro|refine And.intro ?_ ?_)))) <;> (try (conv=>lhs;whnf))
 case' own1_=>(repeat' (first|(with_reducible first|exact True.intro|refine And.intro ?_ ?_|refine Head.mk ?_ ?_ ?_ ?_)|((conv=>lhs;whnf);first|(with_reducible first|rfl|exact vInt_s (by omega))|exact rfl)|((conv=>whnf);first|(with_reducible first|exact True.intro|refine And.intro ?_ ?_)))) <;> (try (conv=>lhs;whnf))
 case' fix1_=>(repeat' (first|(with_reducible first|exact True.intro|refine And.intro ?_ ?_|refine Head.mk ?_ ?_ ?_ ?_)|((conv=>lhs;whnf);first|(with_reducible first|rfl|exact vInt_s (by omega))|exact rfl)|((conv=>whnf);first|(with_reducible first|exact True.intro|refine And.intro ?_ ?_)))) <;> (try (conv=>lhs;whnf))
 ·exact ⟨Nat.zero_le _,rfl⟩
 rintro i g_ o_ v_ ⟨hi,hall⟩
 (repeat' (first|(with_reducible first|exact True.intro|refine zQ ?_|(refine zG hG_ ?_;intro K_ hK_)|(refine zR ?_;intro K_ hK_)|(refine hK_ _ _ ?_;try clear hK_ K_)|refine sq_n ?_|refine sq_r ?_|refine sq_e ?_|refine bq_n ?_|refine bq_r ?_|refine bq_q ?_|refine zB ?_|refine zX ?_|refine zT ?_|refine zK ?_|refine gq_n ?_|refine gq_r ?_|refine gq_e ?_|refine lq_n ?_|refine lq_r ?_|refine lq_e ?_|refine bq_e (by decide) ?_)|((with_reducible refine zC (b:=?b_) ?hb_ ?_ ?_);case hb_=>rfl)|((conv=>whnf);first|(with_reducible refine hK_ _ _ ?_;try clear hK_ K_)|(with_reducible refine fun (g_:Sl) (o_:Ow)=>?_)|(with_reducible first|exact True.intro|refine And.intro trivial ?_|refine And.intro ?_ ?_)|exact Nat.le_of_ble_eq_true rfl|exact Or.inl rfl|(intro h_;cases h_)|(intro h_;(try simp only [vS1] at h_))|rfl))) <;> (try (conv=>whnf)) <;> (try first|change (_:Int)≤_|change (_:Nat)≤_) <;> (try ((fail_if_success (with_reducible apply Exists.intro));(try dsimp only);(try simp only [vS1])))
 all_goals (try ((fail_if_success (with_reducible apply Exists.intro));first|with_reducible assumption|omega))
 ·have hlt:i < l.length:=by omega
  exact (List.any_eq_true.2 ⟨l[i],List.getElem_mem hlt,by rw [← getD_lt 0 hlt];exact h_⟩).symm
 ·have hlt:i < l.length:=by omega
  refine ⟨i + 1,by omega,⟨by omega,?_⟩,by (repeat' (first|(with_reducible first|exact True.intro|refine And.intro ?_ ?_|refine Head.mk ?_ ?_ ?_ ?_)|((conv=>lhs;whnf);first|(with_reducible first|rfl|exact vInt_s (by omega))|exact rfl)|((conv=>whnf);first|(with_reducible first|exact True.intro|refine And.intro ?_ ?_)))) <;> (try (conv=>lhs;whnf))⟩
  rw [List.take_succ_eq_append_getElem hlt,List.any_append,hall,← getD_lt 0 hlt]
  simpa using h_
 ·rw [List.take_of_length_le (by omega)] at hall
  exact hall.symm
def atX (bs:List Int) (i:Int):Int:=if bs.length=0 then 0 else W (bs.getD (Int.tmod (W (W (i * 5) + 1)) bs.length).toNat 0)
def atC:Con:=mkCon [.sl (.b .u8),.int] (fun x=>x.1.length≤1048576∧0≤x.2.1∧x.2.1≤1000) fun x=>vI (atX x.1 x.2.1)
theorem at_ok:Good1 Tryz.prog n_laws_at atC:=by
 refine good_ofG (tys:=tyL) (env:=[]) (envw:=[]) (envd:=[]) [] [] [] [] [] mixed tys trivial trivial trivial Tryz.func23 rfl (by kernel_rfl) (by decide) (by kernel_rfl) ?_
 have hG_:=kpz [(0,[0,1]),(1,[0,1,7]),(2,[4]),(3,[4])] [] [] []
 rintro ⟨(bs:List Int),(i:Int),⟨⟩⟩ ⟨(h1:bs.length≤_),(h2:0≤i),(h3:i≤_)⟩
 have hx:0 < bs.length→0≤Int.tmod (W (W (i * 5) + 1)) bs.length∧Int.tmod (W (W (i * 5) + 1)) bs.length + 1≤bs.length:=fun h=>by
  unfold W
  rw [W_in (show -9223372036854775808≤i * 5 by omega) (by omega),W_in (by omega) (by omega)]
  have:=Int.tmod_nonneg (bs.length:Int) (show 0≤i * 5 + 1 by omega)
  have:=Int.tmod_lt_of_pos (i * 5 + 1) (show 0 < (bs.length:Int) by omega)
  omega
 unfold W at hx
 (repeat' (first|(with_reducible first|exact True.intro|refine zQ ?_|(refine zG hG_ ?_;intro K_ hK_)|(refine zR ?_;intro K_ hK_)|(refine hK_ _ _ ?_;try clear hK_ K_)|refine sq_n ?_|refine sq_r ?_|refine sq_e ?_|refine bq_n ?_|refine bq_r ?_|refine bq_q ?_|refine zB ?_|refine zX ?_|refine zT ?_|refine zK ?_|refine gq_n ?_|refine gq_r ?_|refine gq_e ?_|refine lq_n ?_|refine lq_r ?_|refine lq_e ?_|refine bq_e (by decide) ?_)|((with_reducible refine zC (b:=?b_) ?hb_ ?_ ?_);case hb_=>rfl)|((conv=>whnf);first|(with_reducible refine hK_ _ _ ?_;try clear hK_ K_)|(with_reducible refine fun (g_:Sl) (o_:Ow)=>?_)|(with_reducible first|exact True.intro|refine And.intro trivial ?_|refine And.intro ?_ ?_)|exact Nat.le_of_ble_eq_true rfl|exact Or.inl rfl|(intro h_;cases h_)|(intro h_;(try simp only [vS1] at h_))|rfl))) <;> (try (conv=>whnf)) <;> (try first|change (_:Int)≤_|change (_:Nat)≤_) <;> (try ((fail_if_success (with_reducible apply Exists.intro));(try dsimp only);(try simp only [vS1])))
 all_goals (try ((fail_if_success (with_reducible apply Exists.intro));first|with_reducible assumption|omega))
 ·unfold atX
  have:=eq_of_beq h_
  rw [if_pos (by omega)]
 ·exact absurd ‹(bs.length:Int)=0› (ne_of_beq_false ‹_›)
 ·have:=ne_of_beq_false h_
  exact (hx (by omega)).1
 ·have:=ne_of_beq_false h_
  exact (hx (by omega)).2
 ·have:=ne_of_beq_false h_
  unfold atX W
  rw [if_neg (by omega)]
end Go.Proofs.YtnepfcnlngpchaaGreat
namespace Go.Proofs.YtnepfcnlngpchaaGreat
open Go.RowKit Go.Proofs.YtnepfcnlngpchaaGreat.Nm
set_option maxRecDepth 10000
theorem l04Copy_ok:Good1 Tryz.prog n_spec_l04Copy (roomRoomC id):=by
 refine good_ofG (tys:=tyL) (env:=[]) (envw:=[]) (envd:=[]) [3] [] [] [] [] mixed tys trivial trivial trivial Tryz.func66 rfl (by kernel_rfl) (by decide) (by kernel_rfl) ?_
 have hG_:=kpz [(0,[1,2]),(1,[2])] [(0,[2]),(1,[2,3])] [] []
 rintro ⟨(xs:List Pt),⟨⟩⟩ (h1:xs.length≤_)
 (repeat' (first|(with_reducible first|exact True.intro|refine zQ ?_|(refine zG hG_ ?_;intro K_ hK_)|(refine zR ?_;intro K_ hK_)|(refine hK_ _ _ ?_;try clear hK_ K_)|refine sq_n ?_|refine sq_r ?_|refine sq_e ?_|refine bq_n ?_|refine bq_r ?_|refine bq_q ?_|refine zB ?_|refine zX ?_|refine zT ?_|refine zK ?_|refine gq_n ?_|refine gq_r ?_|refine gq_e ?_|refine lq_n ?_|refine lq_r ?_|refine lq_e ?_|refine bq_e (by decide) ?_)|((with_reducible refine zC (b:=?b_) ?hb_ ?_ ?_);case hb_=>rfl)|((conv=>whnf);first|(with_reducible refine hK_ _ _ ?_;try clear hK_ K_)|(with_reducible refine fun (g_:Sl) (o_:Ow)=>?_)|(with_reducible first|exact True.intro|refine And.intro trivial ?_|refine And.intro ?_ ?_)|exact Nat.le_of_ble_eq_true rfl|exact Or.inl rfl|(intro h_;cases h_)|(intro h_;(try simp only [vS1] at h_))|rfl))) <;> (try (conv=>whnf)) <;> (try first|change (_:Int)≤_|change (_:Nat)≤_) <;> (try ((fail_if_success (with_reducible apply Exists.intro));(try dsimp only);(try simp only [vS1]))) <;> (try simp (disch:=omega) only [vS3,vS2] at *)
 all_goals (try (fail_if_success (with_reducible apply Exists.intro));first|with_reducible assumption|omega|exact mdl (by omega)|exact ilo1 (by omega)|exact ilo2 (by omega)|exact ihi1 (by omega) (by omega)|exact ihi2 (by omega) (by omega))
end Go.Proofs.YtnepfcnlngpchaaGreat
namespace Go.Proofs.YtnepfcnlngpchaaGreat
open Go.RowKit Go.Proofs.YtnepfcnlngpchaaGreat.Nm
set_option maxRecDepth 10000
set_option maxHeartbeats 4000000
def shapeM (k:Int):List Pt:=
 if k=0 then [(0,0),(4,0),(4,4),(0,4)] else
 if k=1 then [(0,0),(5,0),(2,4)] else
 if k=2 then [(0,0),(6,0),(6,2),(2,2),(2,6),(0,6)] else
 if k=3 then [(0,0),(8,0),(8,6),(4,2),(0,6)] else
 if k=4 then [(0,0),(10,0),(10,5),(8,1),(5,5),(2,1),(0,5)] else
 if k=5 then [(0,0),(7,0),(7,7),(1,7),(1,3),(3,3),(3,5),(5,5),(5,2),(0,2)] else
 if k=6 then [(0,0),(4,2),(8,0),(5,3),(4,7),(3,3)] else [(0,0),(6,1),(7,4),(3,6),(1,3)]
def l04ShapeC:Con:=mkCon [.int] (fun _=>True) fun x=>.val (.agg [.d (.sl none (.b .pt) (shapeM x.1))])
theorem l04Shape_ok:Good1 Tryz.prog n_spec_l04Shape l04ShapeC:=by
 refine good_ofG (tys:=tyL) (env:=[]) (envw:=[]) (envd:=[]) [] [] [] [] [] mixed tys trivial trivial trivial Tryz.func64 rfl (by kernel_rfl) (by decide) (by kernel_rfl) ?_
 have hG_:=kpz [(0,[0,2]),(1,[2,3]),(2,[2,3,4]),(3,[2]),(4,[2,3,12]),(5,[2]),(6,[2,3,19]),(7,[2]),(8,[2,3,29]),(9,[2]),(10,[2,3,38]),(11,[2]),(12,[2,3,49]),(13,[2]),(14,[2,63]),(15,[2]),(16,[2])] [(0,[2]),(1,[2]),(2,[2]),(3,[2]),(4,[2]),(5,[2]),(6,[2]),(7,[2]),(8,[2]),(9,[2]),(10,[2]),(11,[2]),(12,[2]),(13,[2]),(14,[2]),(15,[2]),(16,[2])] [] []
 rintro ⟨(k:Int),⟨⟩⟩ -
 (repeat' (first|(with_reducible first|exact True.intro|refine zQ ?_|(refine zG hG_ ?_;intro K_ hK_)|(refine zR ?_;intro K_ hK_)|(refine hK_ _ _ ?_;try clear hK_ K_)|refine sq_n ?_|refine sq_r ?_|refine sq_e ?_|refine bq_n ?_|refine bq_r ?_|refine bq_q ?_|refine zB ?_|refine zX ?_|refine zT ?_|refine zK ?_|refine gq_n ?_|refine gq_r ?_|refine gq_e ?_|refine lq_n ?_|refine lq_r ?_|refine lq_e ?_|refine bq_e (by decide) ?_)|((with_reducible refine zC (b:=?b_) ?hb_ ?_ ?_);case hb_=>rfl)|((conv=>whnf);first|(with_reducible refine hK_ _ _ ?_;try clear hK_ K_)|(with_reducible refine fun (g_:Sl) (o_:Ow)=>?_)|(with_reducible first|exact True.intro|refine And.intro trivial ?_|refine And.intro ?_ ?_)|exact Nat.le_of_ble_eq_true rfl|exact Or.inl rfl|(intro h_;cases h_)|(intro h_;(try simp only [vS1] at h_))|rfl))) <;> (try (conv=>whnf)) <;> (try first|change (_:Int)≤_|change (_:Nat)≤_) <;> (try ((fail_if_success (with_reducible apply Exists.intro));(try dsimp only);(try simp only [vS1])))
 all_goals (try (fail_if_success (with_reducible apply Exists.intro));first|with_reducible assumption|omega|exact mdl (by omega)|exact ilo1 (by omega)|exact ilo2 (by omega)|exact ihi1 (by omega) (by omega)|exact ihi2 (by omega) (by omega))
 all_goals first
  | (have e:=eq_of_beq h_;subst e;rfl)
  | (unfold shapeM;simp_all;rfl)
def stepX (xs:List Pt) (c:Cur):List Pt:=
 xs.set (belowX c xs.length).toNat ((xs.getD (belowX c xs.length).toNat (0,0)).1 + belowX (belowC c xs.length) 3 - 1,(xs.getD (belowX c xs.length).toNat (0,0)).2 + belowX (belowC (belowC c xs.length) 3) 3 - 1)
def stepC (n:Int) (c:Cur):Cur:=belowC (belowC (belowC c n) 3) 3
def stepR (s:List Pt × Cur):List Pt × Cur:=(if roomOk (stepX s.1 s.2) then stepX s.1 s.2 else s.1,stepC s.1.length s.2)
def iterR (s:List Pt × Cur):Nat→List Pt × Cur
 | 0=>s
 | j + 1=>stepR (iterR s j)
def turnP (turn:Int) (p:Pt):Pt:=if turn=1 then (-p.2,p.1) else if turn=2 then (-p.1,-p.2) else p
def laidP (turn dx:Int) (p:Pt):Pt:=((turnP turn p).1 + dx,(turnP turn p).2)
def laidAt (xs:List Pt) (turn first dx:Int) (k:Nat):Pt:=laidP turn dx (xs.getD ((first.toNat + k) % xs.length) (0,0))
def laidR (xs:List Pt) (turn first dx:Int):List Pt:=(List.range xs.length).map (laidAt xs turn first dx)
def room0 (c:Cur):List Pt × Cur:=(shapeM (belowX c 8),belowC (belowC c 8) 4)
def roomK (c:Cur):Int:=belowX (belowC c 8) 4
def roomS (c:Cur):List Pt × Cur:=iterR (room0 c) (roomK c).toNat
def roomX (c:Cur):List Pt:=
 laidR (roomS c).1 (belowX (roomS c).2 4) (belowX (belowC (roomS c).2 4) (roomS c).1.length) (belowX (belowC (belowC (roomS c).2 4) (roomS c).1.length) 5 - 2)
def roomC (c:Cur):Cur:=belowC (belowC (belowC (roomS c).2 4) (roomS c).1.length) 5
theorem stepX_len (xs:List Pt) (c:Cur):(stepX xs c).length=xs.length:=List.length_set ..
theorem stepR_len (s:List Pt × Cur):(stepR s).1.length=s.1.length:=by
 unfold stepR
 simp only
 split
 ·exact stepX_len _ _
 ·rfl
theorem iterR_len (s:List Pt × Cur):∀ j,(iterR s j).1.length=s.1.length
 | 0=>rfl
 | j + 1=>(stepR_len _).trans (iterR_len s j)
theorem stepC_ok {n:Int} {c:Cur} (h:curOk c):curOk (stepC n c):=belowC_ok (belowC_ok (belowC_ok h))
theorem iterR_cur {s:List Pt × Cur} (h:curOk s.2):∀ j,curOk (iterR s j).2
 | 0=>h
 | j + 1=>stepC_ok (iterR_cur h j)
theorem shape_len (k:Int):3≤(shapeM k).length∧(shapeM k).length≤10:=by
 unfold shapeM
 repeat' split
 all_goals decide
def setXY (xs:List Pt) (i:Nat) (a b:Int):List Pt:=
 (xs.set i (W (W ((xs.getD i (0,0)).1 + a) - 1),(xs.getD i (0,0)).2)).set i
  (((xs.set i (W (W ((xs.getD i (0,0)).1 + a) - 1),(xs.getD i (0,0)).2)).getD i (0,0)).1,
   W (W (((xs.set i (W (W ((xs.getD i (0,0)).1 + a) - 1),(xs.getD i (0,0)).2)).getD i (0,0)).2 + b) - 1))
theorem pt_room {xs:List Pt} (hr:roomOk xs=true) {i:Nat} (hi:i < xs.length):-40≤(xs.getD i (0,0)).1∧(xs.getD i (0,0)).1≤40∧-40≤(xs.getD i (0,0)).2∧(xs.getD i (0,0)).2≤40:=by
 rw [getD_lt _ hi]
 exact ptOk_iff.1 (List.all_eq_true.1 (roomOk_iff.1 hr).2.1 _ (List.getElem_mem hi))
theorem setXY_eq {xs:List Pt} (hr:roomOk xs=true) {i:Nat} (hi:i < xs.length) {a b:Int} (ha:0≤a∧a < 3) (hb:0≤b∧b < 3) :
  setXY xs i a b=xs.set i ((xs.getD i (0,0)).1 + a - 1,(xs.getD i (0,0)).2 + b - 1):=by
 have h:=pt_room hr hi
 have g:∀ x:Pt,(xs.set i x).getD i (0,0)=x:=fun x=>by rw [getD_lt _ (by rw [List.length_set];exact hi),List.getElem_set_self]
 unfold setXY
 rw [List.set_set,g]
 simp only [W_l3]
 rw [W_in (by omega) (by omega),W_in (by omega) (by omega)]
theorem shape_ok (k:Int):roomOk (shapeM k)=true:=by
 unfold shapeM
 repeat' split
 all_goals decide +kernel
theorem iterR_ok {s:List Pt × Cur} (h:roomOk s.1=true):∀ j,roomOk (iterR s j).1=true
 | 0=>h
 | j + 1=>by
  show roomOk (stepR (iterR s j)).1=true
  unfold stepR
  simp only
  split
  ·assumption
  ·exact iterR_ok h j
theorem stepX_setXY {xs:List Pt} (hr:roomOk xs=true) (c:Cur):setXY xs (belowX c xs.length).toNat (belowX (belowC c xs.length) 3) (belowX (belowC (belowC c xs.length) 3) 3)=stepX xs c:=by
 have h3:=(roomOk_iff.1 hr).1
 have hb:=below_bd (c:=c) (n:=(xs.length:Int)) (by omega)
 exact setXY_eq hr (by omega) (below_bd (by decide)) (below_bd (by decide))
theorem rng1 {f:Nat→Pt} {x:Pt} (h:x=f 0):[x]=(List.range (0 + 1)).map f:=by rw [h];rfl
theorem rngS {f:Nat→Pt} {k:Nat} {x:Pt} (h:x=f k):(List.range k).map f ++ [x]=(List.range (k + 1)).map f:=by
 rw [List.range_succ,List.map_append,h];rfl
theorem laid_1 {xs:List Pt} (hr:roomOk xs=true) {turn first dx:Int} {k m:Nat} (ht:(turn == 1)=true) (hm:m=(first.toNat + k) % xs.length) (hdx:-2≤dx∧dx≤2) :
  (W (W (0 - (xs.getD m (0,0)).2) + dx),(xs.getD m (0,0)).1)=laidAt xs turn first dx k:=by
 have h3:=(roomOk_iff.1 hr).1
 have h:=pt_room hr (i:=m) (by rw [hm];exact Nat.mod_lt _ (by omega))
 unfold laidAt laidP turnP W
 rw [← hm,if_pos (eq_of_beq ht),W_l1,W_in (by omega) (by omega)]
 simp
theorem laid_2 {xs:List Pt} (hr:roomOk xs=true) {turn first dx:Int} {k m:Nat} (hn:(turn == 1)=false) (ht:(turn == 2)=true) (hm:m=(first.toNat + k) % xs.length) (hdx:-2≤dx∧dx≤2) :
  (W (W (0 - (xs.getD m (0,0)).1) + dx),W (0 - (xs.getD m (0,0)).2))=laidAt xs turn first dx k:=by
 have h3:=(roomOk_iff.1 hr).1
 have h:=pt_room hr (i:=m) (by rw [hm];exact Nat.mod_lt _ (by omega))
 unfold laidAt laidP turnP W
 rw [← hm,if_neg (ne_of_beq_false hn),if_pos (eq_of_beq ht),W_l1,W_in (by omega) (by omega),W_in (by omega) (by omega)]
 simp
theorem laid_0 {xs:List Pt} (hr:roomOk xs=true) {turn first dx:Int} {k m:Nat} (hn:(turn == 1)=false) (ht:(turn == 2)=false) (hm:m=(first.toNat + k) % xs.length) (hdx:-2≤dx∧dx≤2) :
  (W ((xs.getD m (0,0)).1 + dx),(xs.getD m (0,0)).2)=laidAt xs turn first dx k:=by
 have h3:=(roomOk_iff.1 hr).1
 have h:=pt_room hr (i:=m) (by rw [hm];exact Nat.mod_lt _ (by omega))
 unfold laidAt laidP turnP W
 rw [← hm,if_neg (ne_of_beq_false hn),if_neg (ne_of_beq_false ht),W_in (by omega) (by omega)]
def l04RoomC:ConD:=mkConB [.cur] 0 t_spec_l01Cur (fun x=>curOk x.1) (fun x=>.agg [.d (.sl none (.b .pt) (roomX x.1))]) fun x=>curL (roomC x.1)
theorem l04Room_ok:GoodD Tryz.prog n_spec_l04Room l04RoomC:=by
 refine good_ofB (tys:=tyL) (env:=[(n_spec_l04Shape,l04ShapeC),(n_spec_l04Copy,(roomRoomC id)),(n_spec_RoomOk,roomOkC)]) (envw:=[]) (envd:=[(n_spec_l01Below,l01BelowC)]) [15,21,28,30,41,56,66,69,71,1000] [13,15,21,28,41,56,66,69,71,1000] [31,32,34,35,37,38,39,44,45,46,47,49,50,52,53,54,59,60] [] [15,21,28,41,56,66,69,71] mixed tys ⟨l04Shape_ok,l04Copy_ok,sRoomOk_ok,trivial⟩ trivial ⟨l01Below_ok,trivial⟩ Tryz.func30 rfl (by kernel_rfl) ⟨by decide,rfl⟩ (by kernel_rfl) ?_
 have hG_:=kpz [(0,[0,2]),(1,[0,2,3]),(2,[0,2,3,4]),(3,[0,2,3,4,5]),(4,[0,2,3,4,5,23]),(5,[0,2,3,4,5]),(6,[0,2,3,4,5,6]),(7,[0,2,3,4,5,6,7]),(8,[0,2,3,4,5,6,7]),(9,[0,2,3,4,5,7]),(10,[0,2,3,4,5,7,62]),(11,[0,2,3,4,5]),(12,[0,2,3,4,8]),(13,[0,2,3,4,8,9]),(14,[0,2,3,4,8,9,10]),(15,[2,3,4,8,9,10,11]),(16,[2,3,4,8,9,10,11,12]),(17,[2,3,4,8,9,10,11,12,75]),(18,[2,3,4,8,9,10,11,12]),(19,[2,3,4,8,9,10,11,12,13]),(20,[2,3,4,8,9,10,11,12,13,87]),(21,[2,3,4,8,9,10,11,12,13,87,88]),(22,[2,3,4,8,9,10,11,12,13]),(23,[2,3,4,8,9,10,11,12,13,96]),(24,[2,3,4,8,9,10,11,12,13]),(25,[2,3,4,8,9,10,11,12,13]),(26,[2,3,4,8,9,10,11,12]),(27,[2])] [(0,[2,1000]),(1,[2,3,1000]),(2,[2,3,1000]),(3,[2,3,1000]),(4,[2,3,1000]),(5,[2,3,30,1000]),(6,[2,3,1000]),(7,[2,3,7,30,1000]),(8,[2,3,7,30,1000]),(9,[2,3,7,30,1000]),(10,[2,3,7,30,1000]),(11,[2,3,30,1000]),(12,[2,3,8,1000]),(13,[2,3,8,1000]),(14,[2,3,8,1000]),(15,[2,3,8,1000]),(16,[2,3,8,1000]),(17,[2,3,8,1000]),(18,[2,3,8,1000]),(19,[2,3,8,13,1000]),(20,[2,3,8,13,1000]),(21,[2,3,8,13,1000]),(22,[2,3,8,13,1000]),(23,[2,3,8,13,1000]),(24,[2,3,8,13,1000]),(25,[2,3,8,13,1000]),(26,[2,3,8,1000]),(27,[2,1000])] [(11,[30])] []
 rintro ⟨⟨(bs:List Int),(i:Int),(h:Int)⟩,⟨⟩⟩ (hc:curOk (bs,i,h))
 have hb1:0≤roomK (bs,i,h)∧roomK (bs,i,h) < 4:=below_bd (c:=belowC (bs,i,h) 8) (n:=4) (by decide)
 have hl0:3≤(room0 (bs,i,h)).1.length∧(room0 (bs,i,h)).1.length≤10:=shape_len _
 have h1:curOk (belowC (bs,i,h) 8):=belowC_ok hc
 have hlen:=iterR_len (room0 (bs,i,h))
 have hcur:∀ j,curOk (iterR (room0 (bs,i,h)) j).2:=iterR_cur (s:=room0 (bs,i,h)) (show curOk (belowC (belowC (bs,i,h) 8) 4) from belowC_ok (belowC_ok hc))
 (repeat' (first|(with_reducible first|exact True.intro|refine zQ ?_|(refine zG hG_ ?_;intro K_ hK_)|(refine zR ?_;intro K_ hK_)|(refine hK_ _ _ ?_;try clear hK_ K_)|refine sq_n ?_|refine sq_r ?_|refine sq_e ?_|refine bq_n ?_|refine bq_r ?_|refine bq_q ?_|refine zB ?_|refine zX ?_|refine zT ?_|refine zK ?_|refine gq_n ?_|refine gq_r ?_|refine gq_e ?_|refine lq_n ?_|refine lq_r ?_|refine lq_e ?_|refine bq_e (by decide) ?_)|((with_reducible refine zC (b:=?b_) ?hb_ ?_ ?_);case hb_=>rfl)|((conv=>whnf);first|(with_reducible refine hK_ _ _ ?_;try clear hK_ K_)|(with_reducible refine fun (g_:Sl) (o_:Ow)=>?_)|(with_reducible first|exact True.intro|refine And.intro trivial ?_|refine And.intro ?_ ?_)|exact Nat.le_of_ble_eq_true rfl|exact Or.inl rfl|(intro h_;cases h_)|(intro h_;(try simp only [vS1] at h_))|rfl))) <;> (try (conv=>whnf)) <;> (try first|change (_:Int)≤_|change (_:Nat)≤_) <;> (try ((fail_if_success (with_reducible apply Exists.intro));(try dsimp only);(try simp only [vS1])))
 all_goals (try (fail_if_success (with_reducible apply Exists.intro));first|with_reducible assumption|omega|exact mdl (by omega)|exact ilo1 (by omega)|exact ilo2 (by omega)|exact ihi1 (by omega) (by omega)|exact ihi2 (by omega) (by omega))
 refine awp'_loopG (α:=Nat) (fun j ver_=>[(5,vInt (roomK (bs,i,h) - j)),(4,vInt ((iterR (room0 (bs,i,h)) j).1.length:Nat))]) (fun j ver_=>[(3,3,true,.box t_impl_Room [.d (.sl none (.b .pt) (iterR (room0 (bs,i,h)) j).1)])]) (fun j ver_=>[(1000,⟨0,.box t_spec_l01Cur ((curL (iterR (room0 (bs,i,h)) j).2).map .d)⟩),(13,⟨ver_ 13,.dead⟩)]) (fun j=>j≤(roomK (bs,i,h)).toNat) (fun j=>(roomK (bs,i,h)).toNat - j) [0,2] [2] (0) ?_
 conv=>whnf
 refine ⟨⟨?inv1_,?vals1_,?own1_,?fix1_⟩,?body1_⟩
 case' vals1_=>(repeat' (first|(with_reducible first|exact True.intro|refine And.intro ?_ ?_|refine Head.mk ?_ ?_ ?_ ?_)|((conv=>lhs;whnf);first|(with_reducible first|rfl|exact vInt_s (by omega))|exact rfl)|((conv=>whnf);first|(with_reducible first|exact True.intro|refine And.intro ?_ ?_)))) <;> (try (conv=>lhs;whnf))
 case' own1_=>(repeat' (first|(with_reducible first|exact True.intro|refine And.intro ?_ ?_|refine Head.mk ?_ ?_ ?_ ?_)|((conv=>lhs;whnf);first|(with_reducible first|rfl|exact vInt_s (by omega))|exact rfl)|((conv=>whnf);first|(with_reducible first|exact True.intro|refine And.intro ?_ ?_)))) <;> (try (conv=>lhs;whnf))
 case' fix1_=>(repeat' (first|(with_reducible first|exact True.intro|refine And.intro ?_ ?_|refine Head.mk ?_ ?_ ?_ ?_)|((conv=>lhs;whnf);first|(with_reducible first|rfl|exact vInt_s (by omega))|exact rfl)|((conv=>whnf);first|(with_reducible first|exact True.intro|refine And.intro ?_ ?_)))) <;> (try (conv=>lhs;whnf))
 ·exact (Int.sub_zero _).symm ▸ rfl
 ·exact Nat.zero_le _
 rintro j g_ o_ v_ hj
 have hn:=hlen j
 have hcj:=hcur j
 have hrj:=iterR_ok (s:=room0 (bs,i,h)) (shape_ok _) j
 generalize hs:iterR (room0 (bs,i,h)) j=s at *
 have hstep:iterR (room0 (bs,i,h)) (j + 1)=stepR s:=by show stepR _=_;rw [hs]
 obtain ⟨xs,c⟩:=s
 have hc1:curOk (belowC c (xs.length:Int)):=belowC_ok hcj
 have hc2:curOk (belowC (belowC c (xs.length:Int)) 3):=belowC_ok hc1
 have hx3:3≤xs.length∧xs.length≤10:=by have:xs.length=_:=hn;omega
 have hbx:=below_bd (c:=c) (n:=(xs.length:Int)) (by omega)
 (repeat' (first|(with_reducible first|exact True.intro|refine zQ ?_|(refine zG hG_ ?_;intro K_ hK_)|(refine zR ?_;intro K_ hK_)|(refine hK_ _ _ ?_;try clear hK_ K_)|refine sq_n ?_|refine sq_r ?_|refine sq_e ?_|refine bq_n ?_|refine bq_r ?_|refine bq_q ?_|refine zB ?_|refine zX ?_|refine zT ?_|refine zK ?_|refine gq_n ?_|refine gq_r ?_|refine gq_e ?_|refine lq_n ?_|refine lq_r ?_|refine lq_e ?_|refine bq_e (by decide) ?_)|((with_reducible refine zC (b:=?b_) ?hb_ ?_ ?_);case hb_=>rfl)|((conv=>whnf);first|(with_reducible refine hK_ _ _ ?_;try clear hK_ K_)|(with_reducible refine fun (g_:Sl) (o_:Ow)=>?_)|(with_reducible first|exact True.intro|refine And.intro trivial ?_|refine And.intro ?_ ?_)|exact Nat.le_of_ble_eq_true rfl|exact Or.inl rfl|(intro h_;cases h_)|(intro h_;(try simp only [vS1] at h_))|rfl))) <;> (try (conv=>whnf)) <;> (try first|change (_:Int)≤_|change (_:Nat)≤_) <;> (try ((fail_if_success (with_reducible apply Exists.intro));(try dsimp only);(try simp only [vS1])))
 all_goals (try (fail_if_success (with_reducible apply Exists.intro));first|with_reducible assumption|omega|exact mdl (by omega)|exact ilo1 (by omega)|exact ilo2 (by omega)|exact ihi1 (by omega) (by omega)|exact ihi2 (by omega) (by omega))
 all_goals (try (simp only [id_eq,List.length_set];omega))
 ·have hE:=stepX_setXY hrj c
  have h_:roomOk (setXY xs (belowX c xs.length).toNat (belowX (belowC c xs.length) 3) (belowX (belowC (belowC c xs.length) 3) 3))=true:=h_
  rw [hE] at h_
  have e1:iterR (room0 (bs,i,h)) (j + 1)=(stepX xs c,stepC xs.length c):=by rw [hstep];unfold stepR;simp only;rw [if_pos h_]
  refine ⟨j + 1,by omega,by omega,?_⟩
  rw [e1]
  (repeat' (first|(with_reducible first|exact True.intro|refine And.intro ?_ ?_|refine Head.mk ?_ ?_ ?_ ?_)|((conv=>lhs;whnf);first|(with_reducible first|rfl|exact vInt_s (by omega))|exact rfl)|((conv=>whnf);first|(with_reducible first|exact True.intro|refine And.intro ?_ ?_)))) <;> (try (conv=>lhs;whnf))
  ·exact congrArg vInt (by rw [W_in (by omega) (by omega)];omega)
  ·exact congrArg vInt (by show ((xs.length:Nat):Int)=((stepX xs c).length:Int);rw [stepX_len])
  ·exact congrArg (fun l=>Own.box t_impl_Room [.d (.sl none (.b .pt) l)]) hE
 ·have hE:=stepX_setXY hrj c
  have h_:roomOk (setXY xs (belowX c xs.length).toNat (belowX (belowC c xs.length) 3) (belowX (belowC (belowC c xs.length) 3) 3))=false:=h_
  rw [hE] at h_
  have e1:iterR (room0 (bs,i,h)) (j + 1)=(xs,stepC xs.length c):=by rw [hstep];unfold stepR;simp only;rw [if_neg (by rw [h_];decide)]
  refine ⟨j + 1,by omega,by omega,?_⟩
  rw [e1]
  (repeat' (first|(with_reducible first|exact True.intro|refine And.intro ?_ ?_|refine Head.mk ?_ ?_ ?_ ?_)|((conv=>lhs;whnf);first|(with_reducible first|rfl|exact vInt_s (by omega))|exact rfl)|((conv=>whnf);first|(with_reducible first|exact True.intro|refine And.intro ?_ ?_)))) <;> (try (conv=>lhs;whnf))
  ·exact congrArg vInt (by rw [W_in (by omega) (by omega)];omega)
 ·exact belowC_ok hcj
 ·exact belowC_ok (belowC_ok hcj)
 have hj2:j=(roomK (bs,i,h)).toNat:=by omega
 have hS:roomS (bs,i,h)=(xs,c):=by unfold roomS;rw [← hj2];exact hs
 have b1:=below_bd (c:=c) (n:=4) (by decide)
 have b2:=below_bd (c:=belowC c 4) (n:=(xs.length:Int)) (by omega)
 have b3:=below_bd (c:=belowC (belowC c 4) xs.length) (n:=5) (by decide)
 have hX:roomX (bs,i,h)=laidR xs (belowX c 4) (belowX (belowC c 4) xs.length) (belowX (belowC (belowC c 4) xs.length) 5 - 2):=by unfold roomX;rw [hS]
 have hC:roomC (bs,i,h)=belowC (belowC (belowC c 4) xs.length) 5:=by unfold roomC;rw [hS]
 generalize hT:belowX c 4=turn at *
 generalize hF:belowX (belowC c 4) xs.length=first at *
 generalize hD:belowX (belowC (belowC c 4) xs.length) 5=dx at *
 refine awp'_loopG (α:=Nat) (fun k ver_=>[(4,vInt (xs.length:Nat)),(9,vInt turn),(10,vInt first),(11,vInt (dx - 2)),(12,vInt k)]) (fun k ver_=>[(8,8,true,.box t_impl_Room [match k with|0=>.d .nil|_ + 1=>.own 114 (ver_ 114)])]) (fun k ver_=>match k with|0=>[]|_ + 1=>[(114,⟨ver_ 114,.row t_impl_Point (.b .pt) ((List.range k).map (laidAt xs turn first (dx - 2)))⟩)]) (fun k=>k≤xs.length) (fun k=>xs.length - k) [2,3] [2,3,1000] (0) ?_
 conv=>whnf
 refine ⟨⟨?inv2_,?vals2_,?own2_,?fix2_⟩,?body2_⟩
 case' vals2_=>(repeat' (first|(with_reducible first|exact True.intro|refine And.intro ?_ ?_|refine Head.mk ?_ ?_ ?_ ?_)|((conv=>lhs;whnf);first|(with_reducible first|rfl|exact vInt_s (by omega))|exact rfl)|((conv=>whnf);first|(with_reducible first|exact True.intro|refine And.intro ?_ ?_)))) <;> (try (conv=>lhs;whnf))
 case' own2_=>(repeat' (first|(with_reducible first|exact True.intro|refine And.intro ?_ ?_|refine Head.mk ?_ ?_ ?_ ?_)|((conv=>lhs;whnf);first|(with_reducible first|rfl|exact vInt_s (by omega))|exact rfl)|((conv=>whnf);first|(with_reducible first|exact True.intro|refine And.intro ?_ ?_)))) <;> (try (conv=>lhs;whnf))
 case' fix2_=>(repeat' (first|(with_reducible first|exact True.intro|refine And.intro ?_ ?_|refine Head.mk ?_ ?_ ?_ ?_)|((conv=>lhs;whnf);first|(with_reducible first|rfl|exact vInt_s (by omega))|exact rfl)|((conv=>whnf);first|(with_reducible first|exact True.intro|refine And.intro ?_ ?_)))) <;> (try (conv=>lhs;whnf))
 ·exact congrArg vInt (W_in (by omega) (by omega))
 ·exact Nat.zero_le _
 have hix:∀ k:Nat,k < xs.length→Int.tmod (W (first + (k:Int))) (xs.length:Int)=(((first.toNat + k) % xs.length:Nat):Int):=fun k hk=>by
  rw [show first=((first.toNat:Nat):Int) by omega]
  exact mod_nat (by omega)
 have hlt:∀ k:Nat,((first.toNat + k) % xs.length) < xs.length:=fun k=>Nat.mod_lt _ (by omega)
 have hin:∀ k:Nat,k < xs.length→0≤Int.tmod (W (first + (k:Int))) (xs.length:Int)∧Int.tmod (W (first + (k:Int))) (xs.length:Int) + 1≤(xs.length:Int):=fun k hk=>by
  have:=hlt k
  rw [hix k hk];omega
 have him:∀ k:Nat,k < xs.length→(Int.tmod (W (first + (k:Int))) (xs.length:Int)).toNat=(first.toNat + k) % xs.length:=fun k hk=>by rw [hix k hk];exact Int.toNat_natCast _
 rintro (_|k) g_ o_ v_ hk
 ·
  have hG_:=kpz [(0,[0,2]),(1,[0,2,3]),(2,[0,2,3,4]),(3,[0,2,3,4,5]),(4,[0,2,3,4,5,23]),(5,[0,2,3,4,5]),(6,[0,2,3,4,5,6]),(7,[0,2,3,4,5,6,7]),(8,[0,2,3,4,5,6,7]),(9,[0,2,3,4,5,7]),(10,[0,2,3,4,5,7,62]),(11,[0,2,3,4,5]),(12,[0,2,3,4,8]),(13,[0,2,3,4,8,9]),(14,[0,2,3,4,8,9,10]),(15,[2,3,4,8,9,10,11]),(16,[2,3,4,8,9,10,11,12]),(17,[2,3,4,8,9,10,11,12,75]),(18,[2,3,4,8,9,10,11,12]),(19,[2,3,4,8,9,10,11,12,13]),(20,[2,3,4,8,9,10,11,12,13,87]),(21,[2,3,4,8,9,10,11,12,13,87,88]),(22,[2,3,4,8,9,10,11,12,13]),(23,[2,3,4,8,9,10,11,12,13,96]),(24,[2,3,4,8,9,10,11,12,13]),(25,[2,3,4,8,9,10,11,12,13]),(26,[2,3,4,8,9,10,11,12]),(27,[2])] [(0,[2,1000]),(1,[2,3,1000]),(2,[2,3,1000]),(3,[2,3,1000]),(4,[2,3,1000]),(5,[2,3,30,1000]),(6,[2,3,1000]),(7,[2,3,7,30,1000]),(8,[2,3,7,30,1000]),(9,[2,3,7,30,1000]),(10,[2,3,7,30,1000]),(11,[2,3,30,1000]),(12,[2,3,8,1000]),(13,[2,3,8,1000]),(14,[2,3,8,1000]),(15,[2,3,8,1000]),(16,[2,3,8,1000]),(17,[2,3,8,1000]),(18,[2,3,8,114,1000]),(19,[2,3,8,13,1000]),(20,[2,3,8,13,1000]),(21,[2,3,8,13,1000]),(22,[2,3,8,13,1000]),(23,[2,3,8,13,1000]),(24,[2,3,8,13,1000]),(25,[2,3,8,13,1000]),(26,[2,3,8,114,1000]),(27,[2,1000])] [(11,[30])] []
  (repeat' (first|(with_reducible first|exact True.intro|refine zQ ?_|(refine zG hG_ ?_;intro K_ hK_)|(refine zR ?_;intro K_ hK_)|(refine hK_ _ _ ?_;try clear hK_ K_)|refine sq_n ?_|refine sq_r ?_|refine sq_e ?_|refine bq_n ?_|refine bq_r ?_|refine bq_q ?_|refine zB ?_|refine zX ?_|refine zT ?_|refine zK ?_|refine gq_n ?_|refine gq_r ?_|refine gq_e ?_|refine lq_n ?_|refine lq_r ?_|refine lq_e ?_|refine bq_e (by decide) ?_)|((with_reducible refine zC (b:=?b_) ?hb_ ?_ ?_);case hb_=>rfl)|((conv=>whnf);first|(with_reducible refine hK_ _ _ ?_;try clear hK_ K_)|(with_reducible refine fun (g_:Sl) (o_:Ow)=>?_)|(with_reducible first|exact True.intro|refine And.intro trivial ?_|refine And.intro ?_ ?_)|exact Nat.le_of_ble_eq_true rfl|exact Or.inl rfl|(intro h_;cases h_)|(intro h_;(try simp only [vS1] at h_))|rfl))) <;> (try (conv=>whnf)) <;> (try first|change (_:Int)≤_|change (_:Nat)≤_) <;> (try ((fail_if_success (with_reducible apply Exists.intro));(try dsimp only);(try simp only [vS1])))
  all_goals (try ((fail_if_success (with_reducible apply Exists.intro));first|with_reducible assumption|exact (hin _ (by omega)).1|exact (hin _ (by omega)).2|(simp only [List.length_map,List.length_range,List.length_singleton];omega)|omega))
  ·refine ⟨1,by omega,by omega,?_⟩
   (repeat' (first|(with_reducible first|exact True.intro|refine And.intro ?_ ?_|refine Head.mk ?_ ?_ ?_ ?_)|((conv=>lhs;whnf);first|(with_reducible first|rfl|exact vInt_s (by omega))|exact rfl)|((conv=>whnf);first|(with_reducible first|exact True.intro|refine And.intro ?_ ?_)))) <;> (try (conv=>lhs;whnf))
   exact locRow_eq (rng1 (laid_1 hrj ‹_› (him 0 (by omega)) (by omega)))
  ·refine ⟨1,by omega,by omega,?_⟩
   (repeat' (first|(with_reducible first|exact True.intro|refine And.intro ?_ ?_|refine Head.mk ?_ ?_ ?_ ?_)|((conv=>lhs;whnf);first|(with_reducible first|rfl|exact vInt_s (by omega))|exact rfl)|((conv=>whnf);first|(with_reducible first|exact True.intro|refine And.intro ?_ ?_)))) <;> (try (conv=>lhs;whnf))
   exact locRow_eq (rng1 (laid_2 hrj ‹_› ‹_› (him 0 (by omega)) (by omega)))
  ·refine ⟨1,by omega,by omega,?_⟩
   (repeat' (first|(with_reducible first|exact True.intro|refine And.intro ?_ ?_|refine Head.mk ?_ ?_ ?_ ?_)|((conv=>lhs;whnf);first|(with_reducible first|rfl|exact vInt_s (by omega))|exact rfl)|((conv=>whnf);first|(with_reducible first|exact True.intro|refine And.intro ?_ ?_)))) <;> (try (conv=>lhs;whnf))
   exact locRow_eq (rng1 (laid_0 hrj ‹_› ‹_› (him 0 (by omega)) (by omega)))
 ·
  have hG_:=kpz [(0,[0,2]),(1,[0,2,3]),(2,[0,2,3,4]),(3,[0,2,3,4,5]),(4,[0,2,3,4,5,23]),(5,[0,2,3,4,5]),(6,[0,2,3,4,5,6]),(7,[0,2,3,4,5,6,7]),(8,[0,2,3,4,5,6,7]),(9,[0,2,3,4,5,7]),(10,[0,2,3,4,5,7,62]),(11,[0,2,3,4,5]),(12,[0,2,3,4,8]),(13,[0,2,3,4,8,9]),(14,[0,2,3,4,8,9,10]),(15,[2,3,4,8,9,10,11]),(16,[2,3,4,8,9,10,11,12]),(17,[2,3,4,8,9,10,11,12,75]),(18,[2,3,4,8,9,10,11,12]),(19,[2,3,4,8,9,10,11,12,13]),(20,[2,3,4,8,9,10,11,12,13,87]),(21,[2,3,4,8,9,10,11,12,13,87,88]),(22,[2,3,4,8,9,10,11,12,13]),(23,[2,3,4,8,9,10,11,12,13,96]),(24,[2,3,4,8,9,10,11,12,13]),(25,[2,3,4,8,9,10,11,12,13]),(26,[2,3,4,8,9,10,11,12]),(27,[2])] [(0,[2,114,1000]),(1,[2,3,114,1000]),(2,[2,3,114,1000]),(3,[2,3,114,1000]),(4,[2,3,114,1000]),(5,[2,3,30,114,1000]),(6,[2,3,114,1000]),(7,[2,3,7,30,114,1000]),(8,[2,3,7,30,114,1000]),(9,[2,3,7,30,114,1000]),(10,[2,3,7,30,114,1000]),(11,[2,3,30,114,1000]),(12,[2,3,8,114,1000]),(13,[2,3,8,114,1000]),(14,[2,3,8,114,1000]),(15,[2,3,8,114,1000]),(16,[2,3,8,114,1000]),(17,[2,3,8,114,1000]),(18,[2,3,8,114,1000]),(19,[2,3,8,13,114,1000]),(20,[2,3,8,13,114,1000]),(21,[2,3,8,13,114,1000]),(22,[2,3,8,13,114,1000]),(23,[2,3,8,13,114,1000]),(24,[2,3,8,13,114,1000]),(25,[2,3,8,13,114,1000]),(26,[2,3,8,114,1000]),(27,[2,114,1000])] [(11,[30])] []
  (repeat' (first|(with_reducible first|exact True.intro|refine zQ ?_|(refine zG hG_ ?_;intro K_ hK_)|(refine zR ?_;intro K_ hK_)|(refine hK_ _ _ ?_;try clear hK_ K_)|refine sq_n ?_|refine sq_r ?_|refine sq_e ?_|refine bq_n ?_|refine bq_r ?_|refine bq_q ?_|refine zB ?_|refine zX ?_|refine zT ?_|refine zK ?_|refine gq_n ?_|refine gq_r ?_|refine gq_e ?_|refine lq_n ?_|refine lq_r ?_|refine lq_e ?_|refine bq_e (by decide) ?_)|((with_reducible refine zC (b:=?b_) ?hb_ ?_ ?_);case hb_=>rfl)|((conv=>whnf);first|(with_reducible refine hK_ _ _ ?_;try clear hK_ K_)|(with_reducible refine fun (g_:Sl) (o_:Ow)=>?_)|(with_reducible first|exact True.intro|refine And.intro trivial ?_|refine And.intro ?_ ?_)|exact Nat.le_of_ble_eq_true rfl|exact Or.inl rfl|(intro h_;cases h_)|(intro h_;(try simp only [vS1] at h_))|rfl))) <;> (try (conv=>whnf)) <;> (try first|change (_:Int)≤_|change (_:Nat)≤_) <;> (try ((fail_if_success (with_reducible apply Exists.intro));(try dsimp only);(try simp only [vS1])))
  all_goals (try ((fail_if_success (with_reducible apply Exists.intro));first|with_reducible assumption|exact (hin _ (by omega)).1|exact (hin _ (by omega)).2|(simp only [List.length_map,List.length_range,List.length_singleton];omega)|omega))
  ·refine ⟨k + 2,by omega,by omega,?_⟩
   (repeat' (first|(with_reducible first|exact True.intro|refine And.intro ?_ ?_|refine Head.mk ?_ ?_ ?_ ?_)|((conv=>lhs;whnf);first|(with_reducible first|rfl|exact vInt_s (by omega))|exact rfl)|((conv=>whnf);first|(with_reducible first|exact True.intro|refine And.intro ?_ ?_)))) <;> (try (conv=>lhs;whnf))
   exact locRow_eq (rngS (laid_1 hrj ‹_› (him (k + 1) (by omega)) (by omega)))
  ·refine ⟨k + 2,by omega,by omega,?_⟩
   (repeat' (first|(with_reducible first|exact True.intro|refine And.intro ?_ ?_|refine Head.mk ?_ ?_ ?_ ?_)|((conv=>lhs;whnf);first|(with_reducible first|rfl|exact vInt_s (by omega))|exact rfl)|((conv=>whnf);first|(with_reducible first|exact True.intro|refine And.intro ?_ ?_)))) <;> (try (conv=>lhs;whnf))
   exact locRow_eq (rngS (laid_2 hrj ‹_› ‹_› (him (k + 1) (by omega)) (by omega)))
  ·refine ⟨k + 2,by omega,by omega,?_⟩
   (repeat' (first|(with_reducible first|exact True.intro|refine And.intro ?_ ?_|refine Head.mk ?_ ?_ ?_ ?_)|((conv=>lhs;whnf);first|(with_reducible first|rfl|exact vInt_s (by omega))|exact rfl)|((conv=>whnf);first|(with_reducible first|exact True.intro|refine And.intro ?_ ?_)))) <;> (try (conv=>lhs;whnf))
   exact locRow_eq (rngS (laid_0 hrj ‹_› ‹_› (him (k + 1) (by omega)) (by omega)))
  ·show dOf _=some _
   rw [hC];rfl
  ·rw [hX,show k + 1=xs.length by omega];rfl
def drawRoomM (bs:List Int):List Pt:=roomX (newC bs)
def drawRoomC:Con:=mkCon [.sl (.b .u8)] (fun x=>x.1.length≤1048576) fun x=>.val (.agg [.d (.sl none (.b .pt) (drawRoomM x.1))])
theorem drawRoom_ok:Good1 Tryz.prog n_spec_DrawRoom drawRoomC:=by
 refine good_ofG (tys:=tyL) (env:=[]) (envw:=[]) (envd:=[(n_spec_l01New,l01NewC),(n_spec_l04Room,l04RoomC)]) [4,5] [4,5] [] [] [4,5] mixed tys trivial trivial ⟨l01New_ok,l04Room_ok,trivial⟩ Tryz.func20 rfl (by kernel_rfl) (by decide) (by kernel_rfl) ?_
 have hG_:=kpz [(0,[0,2]),(1,[2])] [(0,[2]),(1,[2,4])] [] []
 rintro ⟨(bs:List Int),⟨⟩⟩ (h1:bs.length≤_)
 have hc:=newC_ok h1
 (repeat' (first|(with_reducible first|exact True.intro|refine zQ ?_|(refine zG hG_ ?_;intro K_ hK_)|(refine zR ?_;intro K_ hK_)|(refine hK_ _ _ ?_;try clear hK_ K_)|refine sq_n ?_|refine sq_r ?_|refine sq_e ?_|refine bq_n ?_|refine bq_r ?_|refine bq_q ?_|refine zB ?_|refine zX ?_|refine zT ?_|refine zK ?_|refine gq_n ?_|refine gq_r ?_|refine gq_e ?_|refine lq_n ?_|refine lq_r ?_|refine lq_e ?_|refine bq_e (by decide) ?_)|((with_reducible refine zC (b:=?b_) ?hb_ ?_ ?_);case hb_=>rfl)|((conv=>whnf);first|(with_reducible refine hK_ _ _ ?_;try clear hK_ K_)|(with_reducible refine fun (g_:Sl) (o_:Ow)=>?_)|(with_reducible first|exact True.intro|refine And.intro trivial ?_|refine And.intro ?_ ?_)|exact Nat.le_of_ble_eq_true rfl|exact Or.inl rfl|(intro h_;cases h_)|(intro h_;(try simp only [vS1] at h_))|rfl))) <;> (try (conv=>whnf)) <;> (try first|change (_:Int)≤_|change (_:Nat)≤_) <;> (try ((fail_if_success (with_reducible apply Exists.intro));(try dsimp only);(try simp only [vS1])))
 all_goals (try (fail_if_success (with_reducible apply Exists.intro));first|with_reducible assumption|omega|exact mdl (by omega)|exact ilo1 (by omega)|exact ilo2 (by omega)|exact ihi1 (by omega) (by omega)|exact ihi2 (by omega) (by omega))
end Go.Proofs.YtnepfcnlngpchaaGreat
namespace Go.Proofs.YtnepfcnlngpchaaGreat
open Go.RowKit Go.Proofs.YtnepfcnlngpchaaGreat.Nm
set_option maxRecDepth 10000
theorem shape_bd (k:Int):∀ q∈shapeM k,0≤q.1∧q.1≤10∧0≤q.2∧q.2≤10:=by
 unfold shapeM
 repeat' split
 all_goals decide
theorem stepR_bd {s:List Pt × Cur} {j:Int} (hr:roomOk s.1=true) (h:∀ q∈s.1,-j≤q.1∧q.1≤10 + j∧-j≤q.2∧q.2≤10 + j):∀ q∈(stepR s).1,-(j + 1)≤q.1∧q.1≤10 + (j + 1)∧-(j + 1)≤q.2∧q.2≤10 + (j + 1):=by
 have h3:=(roomOk_iff.1 hr).1
 intro q hq
 have old:q∈s.1→-(j + 1)≤q.1∧q.1≤10 + (j + 1)∧-(j + 1)≤q.2∧q.2≤10 + (j + 1):=fun hq=>by have:=h q hq;omega
 unfold stepR at hq
 simp only at hq
 split at hq
 ·unfold stepX at hq
  rcases List.mem_or_eq_of_mem_set hq with hq|rfl
  ·exact old hq
  ·have hb:=below_bd (c:=s.2) (n:=(s.1.length:Int)) (by omega)
   have hi:(belowX s.2 s.1.length).toNat < s.1.length:=by omega
   have:=h _ (List.getElem_mem hi)
   rw [← getD_lt (0,0) hi] at this
   have b1:=below_bd (c:=belowC s.2 s.1.length) (n:=3) (by decide)
   have b2:=below_bd (c:=belowC (belowC s.2 s.1.length) 3) (n:=3) (by decide)
   simp only
   omega
 ·exact old hq
theorem iterR_bd (c:Cur):∀ j:Nat,∀ q∈(iterR (room0 c) j).1,-(j:Int)≤q.1∧q.1≤10 + (j:Int)∧-(j:Int)≤q.2∧q.2≤10 + (j:Int)
 | 0=>fun q hq=>by have:=shape_bd _ q hq;omega
 | j + 1=>stepR_bd (iterR_ok (shape_ok _) j) (iterR_bd c j)
def laidMv (turn dx:Int):Geo.Mv:=if turn=1 then ⟨0,1,dx,0,rfl⟩ else if turn=2 then ⟨-1,0,dx,0,rfl⟩ else ⟨1,0,dx,0,rfl⟩
theorem laidMv_app (turn dx:Int) (p:Pt):laidP turn dx p=(laidMv turn dx).app p:=by
 unfold laidP turnP laidMv Geo.Mv.app
 split
 ·refine Prod.ext ?_ ?_ <;> simp only <;> omega
 ·split
  ·refine Prod.ext ?_ ?_ <;> simp only <;> omega
  ·refine Prod.ext ?_ ?_ <;> simp only <;> omega
theorem laidR_len (xs:List Pt) (turn first dx:Int):(laidR xs turn first dx).length=xs.length:=by unfold laidR;simp
theorem laid_ok {xs:List Pt} (hr:roomOk xs=true) {turn first dx:Int} (hb:∀ q∈xs,-30≤q.1∧q.1≤30∧-30≤q.2∧q.2≤30) (hd:-2≤dx∧dx≤2):roomOk (laidR xs turn first dx)=true:=by
 have h3:=(roomOk_iff.1 hr).1
 have hn:0 < xs.length:=by omega
 refine Geo.room_moved hr first.toNat (laidMv turn dx) (laidR_len _ _ _ _) (fun j=>?_) fun q hq=>?_
 ·show (laidR xs turn first dx).getD (j % (laidR xs turn first dx).length) (0,0)=_
  rw [laidR_len]
  have hj:=Nat.mod_lt j hn
  rw [getD_lt _ (by rw [laidR_len];exact hj)]
  unfold laidR
  rw [List.getElem_map,List.getElem_range]
  show laidP turn dx (xs.getD ((first.toNat + j % xs.length) % xs.length) (0,0))=_
  rw [laidMv_app,Nat.add_mod_mod]
 ·unfold laidR at hq
  obtain ⟨k,-,rfl⟩:=List.mem_map.1 hq
  have hm:(first.toNat + k) % xs.length < xs.length:=Nat.mod_lt _ hn
  have:=hb _ (List.getElem_mem hm)
  rw [← getD_lt (0,0) hm] at this
  show ptOk (laidP turn dx (xs.getD _ _))=true
  refine ptOk_iff.2 ?_
  unfold laidP turnP
  repeat' split
  all_goals simp only;omega
theorem roomX_ok (c:Cur):roomOk (roomX c)=true:=by
 have hK:0≤roomK c∧roomK c < 4:=below_bd (by decide)
 refine laid_ok (iterR_ok (s:=room0 c) (shape_ok _) _) (fun q hq=>?_) ?_
 ·have:=iterR_bd c _ q hq
  omega
 ·have:=below_bd (c:=belowC (belowC (roomS c).2 4) (roomS c).1.length) (n:=5) (by decide)
  omega
theorem drawRoom_room (bs:List Int):roomOk (drawRoomM bs)=true:=roomX_ok _
end Go.Proofs.YtnepfcnlngpchaaGreat
namespace Go.Proofs.YtnepfcnlngpchaaGreat
open Go.RowKit Go.Proofs.YtnepfcnlngpchaaGreat.Nm
set_option maxRecDepth 10000
set_option maxHeartbeats 4000000
theorem triArea_on {xs:List Pt} {t:Tri} (ht:t∈trisM xs):triArea xs t=Geo.areaT xs t∧0 < triArea xs t:=by
 rcases tris_cutd xs with e|⟨hr,-⟩
 ·rw [e] at ht;cases ht
 ·obtain ⟨h0,h1,h2,h3⟩:=tris_in ht
  have e:triArea xs t=Geo.areaT xs t:=by
   unfold triArea
   rw [if_pos (by simp [triOk,hr];omega)]
   exact Geo.turnI hr (by omega) (by omega) (by omega)
  exact ⟨e,by rw [e];exact ((Geo.tris_good hr).tri t ht).pos⟩
theorem inTriangle_on {xs:List Pt} {t:Tri} {p:Pt} (ht:t∈trisM xs) (hp:ptOk p=true) (h:Geo.InT3 xs t p):inTriangle xs t p=true:=by
 rcases tris_cutd xs with e|⟨hr,-⟩
 ·rw [e] at ht;cases ht
 ·obtain ⟨h0,h1,h2,h3⟩:=tris_in ht
  have ha:=(triArea_on ht).2
  have b:∀ {k:Int},0≤k→k < xs.length→Bd (pI xs k):=fun g1 g2=>bd_of_ok (Geo.corner_ok hr (by omega))
  have hi:=(Geo.inTri_iff (b (k:=t.1) (by omega) (by omega)) (b (k:=t.2.1) (by omega) (by omega)) (b (k:=t.2.2) (by omega) (by omega)) (bd_of_ok hp)).2 (by
   have:=h
   unfold Geo.InT3 Geo.InC at this
   rwa [show Geo.tv xs t.1=pI xs t.1 from Geo.room_v (by omega) (by omega),show Geo.tv xs t.2.1=pI xs t.2.1 from Geo.room_v (by omega) (by omega),show Geo.tv xs t.2.2=pI xs t.2.2 from Geo.room_v (by omega) (by omega)] at this)
  unfold inTriangle
  rw [decide_eq_true ha,hp,hi];rfl
theorem triOf_on {xs:List Pt} {p:Pt} (hp:p∈floorPts xs):∃ i,i < (trisM xs).length∧triOfM xs p=(i:Int)∧inTriangle xs ((trisM xs).getD i (0,0,0)) p=true:=by
 obtain ⟨hr,hpt,-⟩:=Geo.mem_floor.1 hp
 obtain ⟨t,ht,hI⟩:=Geo.tris_all hp
 have hI:=inTriangle_on ht hpt hI
 obtain ⟨j,hj,rfl⟩:=List.getElem_of_mem ht
 unfold triOfM
 cases hf:(List.range (trisM xs).length).find? (fun i=>inTriangle xs ((trisM xs).getD i (0,0,0)) p) with
 | some i=>
  rw [List.find?_range_eq_some] at hf
  exact ⟨i,List.mem_range.1 hf.2.1,rfl,hf.1⟩
 | none=>
  exfalso
  rw [List.find?_eq_none] at hf
  exact hf j (List.mem_range.2 hj) (by rw [getD_lt _ hj];exact hI)
end Go.Proofs.YtnepfcnlngpchaaGreat
namespace Go.Proofs.YtnepfcnlngpchaaGreat
open Go.RowKit
section
variable {H : Type} {enc : TypeId × Value → H} {P : Program} {w : World} {base : Nat} {spare : Nat → Bool} {held : Bool} {fuel : Nat} {t : TypeId} {cs : List Value} {x : DataW H × List MemPlace}
theorem u8_cellsQ (ht:U8T P t) (h:DataW.trod enc P w base spare held fuel t cs=some x):∃ n:Int,cs=[.int .u8 n]∧0≤n∧n≤255:=by
 obtain ⟨n,h1,_,hw⟩:=DataW.trod_int ht.1 h
 refine ⟨n,h1,?_⟩
 simp only [Lit.wf,Bool.and_eq_true,decide_eq_true_eq] at hw
 exact hw
theorem sl_cellsQ {e:TypeId} {k:ElB} {Q:k.T→Prop} (hu:P.underlying t=some (.slice e)) (hs:P.cellsOf e=k.size)
  (hel:∀ {n:Nat} {cs:List Value} {x:DataW H × List MemPlace},DataW.trod enc P w base spare held n e cs=some x→∃ y:k.T,cs=k.encV y∧Q y) {F:Nat→Prop}
  (hF:∀ a l c,cs=[.slice (some a) l c]→l=0∨F a.block) (h:DataW.trod enc P w base spare held fuel t cs=some x) :
  ∃ (v:Value) (xs:List k.T),cs=[v]∧SLK w F (.b k) xs v∧xs.length≤9223372036854775807∧∀ y∈xs,Q y:=by
 rcases DataW.trod_slice hu h with ⟨rfl,_⟩|⟨a,len,cap,elems,rest,n,_,rfl,_,_,hl,hm,hlen,hE,_⟩
 ·exact ⟨_,[],rfl,.inl ⟨rfl,rfl⟩,by simp,fun y hy=>by cases hy⟩
 ·have each:∀ i,i < len→∃ y:k.T,w.cells? base (a.add (i * k.size)) k.size=some (k.encV y)∧Q y:=by
   intro i hi
   have h1:=hE i hi
   obtain ⟨hlt⟩:i < elems.length∧True:=⟨by omega,trivial⟩
   rw [List.getElem?_eq_getElem hlt,Option.bind_eq_some_iff] at h1
   obtain ⟨us,h2,h3⟩:=h1
   obtain ⟨y,rfl,hq⟩:=hel h3
   rw [hs] at h2
   exact ⟨y,h2,hq⟩
  obtain ⟨xs,hxl,hxs⟩:=list_of each
  refine ⟨_,xs,rfl,.inr ⟨a,cap,by rw [hxl],by omega,(hF a len cap rfl).imp (fun e=>List.eq_nil_of_length_eq_zero (by omega)) id,fun i y hy=>?_⟩,by unfold maxLen at hm;omega,fun y hy=>?_⟩
  ·obtain ⟨_,h2,h3⟩:=World.cells?_some (hxs i y hy).1
   refine ⟨k.encV y,h2,rfl,fun j u hj=>?_⟩
   have hlt:=(List.getElem?_eq_some_iff.1 hj).1
   have:=h3 j (by omega)
   rw [hj] at this
   rwa [add_add'] at this
  ·obtain ⟨i,hi,rfl⟩:=List.getElem_of_mem hy
   exact (hxs i _ (List.getElem?_eq_getElem hi)).2
theorem open_u8 {r:Reach} {b0:Nat} {v:Value} {d:DataW H} {p:List MemPlace} (hs:SlU8T P t) (hk:Value.okWide P w r b0 t v) (hd:DataW.Trod enc P w base spare held t v d p) :
  ∃ x:List Int,(Ty.sl (.b .u8)).lenOk x∧(∀ b∈x,0≤b∧b≤255)∧AVC w (fun b=>b < w.heap.size) noRho deadOwn ((Ty.sl (.b .u8)).enc x) v:=by
 obtain ⟨fuel,hf⟩:=hd
 have slice:∀ {e:TypeId},P.underlying t=some (.slice e)→(∀ a l c,v=.slice (some a) l c→a.block < w.heap.size):=by
  intro e hu a l c hv
  subst hv
  refine cell_lt (u:=t) (P:=P) (r:=r) (base:=b0) (l:=l) (c:=c) ?_
  simpa only [Value.okWide,hu] using hk
 obtain ⟨h1,e,hue,hpe⟩:=hs
 obtain ⟨a,l,c,rfl⟩:=Go.WideShapes.okWide_slice hue hk
 obtain ⟨v,xs,hv,hsl,hlen,hq⟩:=sl_cellsQ (k:=.u8) (Q:=fun n:Int=>0≤n∧n≤255) (F:=fun b=>b < w.heap.size) hue hpe.2 (fun h=>u8_cellsQ hpe h) (fun a' l' c' he=>by
  simp [Value.cells] at he
  exact .inr (slice hue a' l' c' (by rw [he.1,he.2.1,he.2.2]))) hf
 simp [Value.cells] at hv
 subst hv
 exact ⟨xs,hlen,hq,dc_weak (k:=.b .u8) hsl⟩
end
def lawCon8:Con:=mkCon [.sl (.b .u8)] (fun x=>x.1.length≤9223372036854775807∧∀ b∈(x.1:List Int),0≤b∧b≤255) fun _=>.val (.one (.d (.bool true)))
end Go.Proofs.YtnepfcnlngpchaaGreat
namespace Go.Proofs.YtnepfcnlngpchaaGreat
open Go.RowKit Go.Proofs.YtnepfcnlngpchaaGreat.Nm
set_option maxRecDepth 10000
set_option maxHeartbeats 4000000
noncomputable def hidR (bs:List Int):List Pt:=Classical.choose (⟨drawRoomM bs,rfl⟩:∃ y,y=drawRoomM bs)
theorem hidR_eq (bs:List Int):hidR bs=drawRoomM bs:=Classical.choose_spec (⟨drawRoomM bs,rfl⟩:∃ y,y=drawRoomM bs)
theorem hidR_room (bs:List Int):roomOk (hidR bs)=true:=by rw [hidR_eq];exact drawRoom_room bs
noncomputable def drawRoomHC:Con:=mkCon [.sl (.b .u8)] (fun x=>x.1.length≤1048576) fun x=>.val (.agg [.d (.sl none (.b .pt) (hidR x.1))])
theorem drawRoomH_ok:Good1 Tryz.prog n_spec_DrawRoom drawRoomHC:=by
 exact Good1.imp drawRoom_ok fun x h=>⟨h,by
  show RV.val (.agg [.d (.sl none (.b .pt) (hidR x.1))])=_
  rw [hidR_eq]⟩
theorem at_byte {bs:List Int} (h:∀ b∈bs,0≤b∧b≤255) (i:Int):0≤atX bs i∧atX bs i≤255:=by
 unfold atX
 split
 ·omega
 ·have:0≤bs.getD (Int.tmod (W (W (i * 5) + 1)) bs.length).toNat 0∧bs.getD (Int.tmod (W (W (i * 5) + 1)) bs.length).toNat 0≤255:=by
   rcases Nat.lt_or_ge (Int.tmod (W (W (i * 5) + 1)) bs.length).toNat bs.length with g|g
   ·rw [getD_lt _ g];exact h _ (List.getElem_mem g)
   ·rw [List.getD_eq_getElem?_getD,List.getElem?_eq_none g];exact ⟨by decide,by decide⟩
  show 0≤IntKind.i64.wrap _∧IntKind.i64.wrap _≤255
  rw [W_in (by omega) (by omega)];exact this
structure WayX (xs:List Pt) (a b:Int) (w:List Int):Prop where
 pos:0 < w.length
 short:w.length≤(trisM xs).length
 first:w.getD 0 (ElK.b ElB.int).dflt=a
 last:w.getD (w.length - 1) (ElK.b ElB.int).dflt=b
 near:∀ {k},k + 1 < w.length→hasM (neighM2 xs (w.getD k (ElK.b ElB.int).dflt)) (w.getD (k + 1) (ElK.b ElB.int).dflt)=true
 len:∀ {k},(neighM2 xs k).length≤(trisM xs).length
 back:(wayM xs b a).length=w.length
theorem wayX {xs:List Pt} {a b:Int} (ha:0≤a∧a < (trisM xs).length) (hb:0≤b∧b < (trisM xs).length):WayX xs a b (wayM xs a b):=by
 obtain ⟨a,rfl⟩:=Int.eq_ofNat_of_zero_le ha.1
 obtain ⟨b,rfl⟩:=Int.eq_ofNat_of_zero_le hb.1
 have ha:a < (trisM xs).length:=by omega
 have hb:b < (trisM xs).length:=by omega
 have hp:=parT_is xs
 have e1:wayM xs a b=(pth (trisM xs).length (parT xs) a b).map fun j:Nat=>(j:Int):=wayM_yes (btw_iff.2 (by omega)) (btw_iff.2 (by omega))
 have e2:wayM xs b a=(pth (trisM xs).length (parT xs) b a).map fun j:Nat=>(j:Int):=wayM_yes (btw_iff.2 (by omega)) (btw_iff.2 (by omega))
 have hlen:=pth_len hp ha hb
 have get:∀ k,k < (pth (trisM xs).length (parT xs) a b).length→((pth (trisM xs).length (parT xs) a b).map fun j:Nat=>(j:Int)).getD k (ElK.b ElB.int).dflt=(((pth (trisM xs).length (parT xs) a b).getD k 0:Nat):Int):=fun k hk=>by
  rw [getD_lt _ (by rw [List.length_map];exact hk),getD_lt _ hk,List.getElem_map]
 have hat:=pth_at hp ha hb
 refine ⟨?_,?_,?_,?_,fun {k} hk=>?_,fun {k}=>?_,?_⟩
 ·rw [e1,List.length_map];exact hlen
 ·rw [e1,List.length_map];exact pth_short hp ha hb
 ·rw [e1,get 0 hlen,hat.1]
 ·rw [e1,List.length_map,get _ (by omega),hat.2]
 ·rw [e1,List.length_map] at hk
  rw [e1,get k (by omega),get (k + 1) hk]
  have l1:=pth_lt_all hp ha hb (k:=k) (by omega)
  have l2:=pth_lt_all hp ha hb (k:=k + 1) hk
  have hs:=pth_step hp hb k a ha hk
  unfold hasM neighM2
  rw [if_pos (btw_iff.2 (by omega)),List.any_eq_true]
  exact ⟨_,bes_mem.2 ⟨_,l2,rfl,(adj_iff l1 l2).2 hs⟩,by rw [beq_iff_eq]⟩
 ·unfold neighM2
  split
  ·exact besTo_len _ _ _
  ·exact Nat.zero_le _
 ·rw [e1,e2,List.length_map,List.length_map,← pth_rev hp b a hb ha,List.length_reverse]
theorem walk_pos {xs:List Pt} {p q:Pt} (hp:p∈floorPts xs) (hq:q∈floorPts xs):0 < (wbM xs p q).length:=by
 obtain ⟨i,hi,ei,-⟩:=triOf_on hp
 obtain ⟨j,hj,ej,-⟩:=triOf_on hq
 unfold wbM
 rw [ei,ej]
 exact (wayX (xs:=xs) (a:=i) (b:=j) (by omega) (by omega)).pos
theorem fnTrees_ok:Good1 Tryz.prog n_laws_FnTrees lawCon8:=by
 refine good_ofG (tys:=tyL) (env:=[(n_laws_big,bigC),(n_spec_DrawRoom,drawRoomHC),(n_spec_TrianglesOf,sTrisC),(n_impl_TreeEdges,treeEC),(n_laws_at,atC),(n_impl_TreeWay,treeWayC),(n_impl_NeighborsOf,neigh2C),(n_laws_has,hasC),(n_impl_WalkBetween,wbC),(n_impl_LeafTriangles,leafC)]) (envw:=[]) (envd:=[]) [] [] [] [] [] mixed tys ⟨big_ok,drawRoomH_ok,sTrianglesOf_ok,iTreeEdges_ok,at_ok,iTreeWay_ok,iNeighborsOf_ok,has_ok,iWalkBetween_ok,iLeafTriangles_ok,trivial⟩ trivial trivial Tryz.func5 rfl (by kernel_rfl) (by decide) (by kernel_rfl) ?_
 have hG_:=kpz [(0,[0]),(1,[0,13]),(2,[2]),(3,[0,3]),(4,[0,3,4]),(5,[0,3,5]),(6,[0,3,5,6]),(7,[0,3,5,26]),(8,[2]),(9,[0,3,5,7]),(10,[3,5,7,8]),(11,[3,5,7,8,9]),(12,[3,5,7,8,9,58]),(13,[2]),(14,[3,5,7,8,9,10]),(15,[3,5,7,8,9,10,62]),(16,[3,5,7,8,9,10]),(17,[3,5,7,8,9,10,77]),(18,[2]),(19,[3,5,7,8,9,11]),(20,[2])] [(3,[3]),(4,[3]),(5,[3]),(6,[3]),(7,[3]),(9,[3]),(10,[3]),(11,[3]),(12,[3]),(14,[3]),(15,[3]),(16,[3]),(17,[3]),(19,[3])] [] []
 rintro ⟨(bs:List Int),⟨⟩⟩ ⟨(h0:bs.length≤_),(hby:∀ b∈bs,0≤b∧b≤255)⟩
 have hr:=hidR_room bs
 have hl:=room_len hr
 have a0:=at_byte hby 0
 have a1:=at_byte hby 1
 have htl:=tris_len12 (hidR bs)
 have hne:=Geo.tris_ne hr
 have htp:=List.length_pos_iff.2 hne
 have hte:=treeE_cnt hne
 have hA:0≤(atX bs 0).tmod ((trisM (hidR bs)).length:Int)∧(atX bs 0).tmod ((trisM (hidR bs)).length:Int) < (trisM (hidR bs)).length:=⟨Int.tmod_nonneg _ a0.1,Int.tmod_lt_of_pos _ (by omega)⟩
 have hB:0≤(atX bs 1).tmod ((trisM (hidR bs)).length:Int)∧(atX bs 1).tmod ((trisM (hidR bs)).length:Int) < (trisM (hidR bs)).length:=⟨Int.tmod_nonneg _ a1.1,Int.tmod_lt_of_pos _ (by omega)⟩
 have hW:=wayX hA hB
 have hwp:=hW.pos
 have hws:=hW.short
 have hwb:=hW.back
 have hlv:(leafM (hidR bs)).length≤12:=by
  unfold leafM selTo
  rw [List.length_map]
  exact Nat.le_trans (List.length_filter_le _ _) (by rw [List.length_range];exact htl)
 have hl2:2≤(trisM (hidR bs)).length→2≤(leafM (hidR bs)).length:=two_leaves
 have hwk:=walk_pos (Geo.corner_floor hr (show 0 < (hidR bs).length by omega)) (Geo.corner_floor hr (show 1 < (hidR bs).length by omega))
 (repeat' (first|(with_reducible first|exact True.intro|refine zQ ?_|(refine zG hG_ ?_;intro K_ hK_)|(refine zR ?_;intro K_ hK_)|(refine hK_ _ _ ?_;try clear hK_ K_)|refine sq_n ?_|refine sq_r ?_|refine sq_e ?_|refine bq_n ?_|refine bq_r ?_|refine bq_q ?_|refine zB ?_|refine zX ?_|refine zT ?_|refine zK ?_|refine gq_n ?_|refine gq_r ?_|refine gq_e ?_|refine lq_n ?_|refine lq_r ?_|refine lq_e ?_|refine bq_e (by decide) ?_)|((with_reducible refine zC (b:=?b_) ?hb_ ?_ ?_);case hb_=>rfl)|((conv=>whnf);first|(with_reducible refine hK_ _ _ ?_;try clear hK_ K_)|(with_reducible refine fun (g_:Sl) (o_:Ow)=>?_)|(with_reducible first|exact True.intro|refine And.intro trivial ?_|refine And.intro ?_ ?_)|exact Nat.le_of_ble_eq_true rfl|exact Or.inl rfl|(intro h_;cases h_)|(intro h_;(try simp only [vS1] at h_))|rfl))) <;> (try (conv=>whnf)) <;> (try first|change (_:Int)≤_|change (_:Nat)≤_) <;> (try ((fail_if_success (with_reducible apply Exists.intro));(try dsimp only);(try simp only [vS1]))) <;> (try simp (disch:=omega) only [vS3,Int.add_sub_cancel,tn1,tnp,tnc,vS2] at *)
 all_goals (try ((fail_if_success (with_reducible apply Exists.intro));first|with_reducible assumption|omega))
 all_goals first
  | exact absurd hW.first (by assumption)
  | exact absurd hW.last (by assumption)
  | skip
 refine awp'_loopG (α:=Nat) (fun k ver_=>[(10,vInt k)]) (fun k ver_=>[]) (fun k ver_=>[]) (fun k=>1≤k∧k≤(wayM (hidR bs) ((atX bs 0).tmod ↑(trisM (hidR bs)).length) ((atX bs 1).tmod ↑(trisM (hidR bs)).length)).length) (fun k=>(wayM (hidR bs) ((atX bs 0).tmod ↑(trisM (hidR bs)).length) ((atX bs 1).tmod ↑(trisM (hidR bs)).length)).length - k) [3,5,7,8,9] [3] (1) ?_
 conv=>whnf
 refine ⟨⟨?inv1_,?vals1_,?own1_,?fix1_⟩,?body1_⟩
 case' vals1_=>(repeat' (first|(with_reducible first|exact True.intro|refine And.intro ?_ ?_|refine Head.mk ?_ ?_ ?_ ?_)|((conv=>lhs;whnf);first|(with_reducible first|rfl|exact vInt_s (by omega))|exact rfl)|((conv=>whnf);first|(with_reducible first|exact True.intro|refine And.intro ?_ ?_)))) <;> (try (conv=>lhs;whnf))
 case' own1_=>(repeat' (first|(with_reducible first|exact True.intro|refine And.intro ?_ ?_|refine Head.mk ?_ ?_ ?_ ?_)|((conv=>lhs;whnf);first|(with_reducible first|rfl|exact vInt_s (by omega))|exact rfl)|((conv=>whnf);first|(with_reducible first|exact True.intro|refine And.intro ?_ ?_)))) <;> (try (conv=>lhs;whnf))
 case' fix1_=>(repeat' (first|(with_reducible first|exact True.intro|refine And.intro ?_ ?_|refine Head.mk ?_ ?_ ?_ ?_)|((conv=>lhs;whnf);first|(with_reducible first|rfl|exact vInt_s (by omega))|exact rfl)|((conv=>whnf);first|(with_reducible first|exact True.intro|refine And.intro ?_ ?_)))) <;> (try (conv=>lhs;whnf))
 ·exact ⟨Nat.le_refl _,by omega⟩
 rintro k g_ o_ v_ ⟨hk1,hk2⟩
 (repeat' (first|(with_reducible first|exact True.intro|refine zQ ?_|(refine zG hG_ ?_;intro K_ hK_)|(refine zR ?_;intro K_ hK_)|(refine hK_ _ _ ?_;try clear hK_ K_)|refine sq_n ?_|refine sq_r ?_|refine sq_e ?_|refine bq_n ?_|refine bq_r ?_|refine bq_q ?_|refine zB ?_|refine zX ?_|refine zT ?_|refine zK ?_|refine gq_n ?_|refine gq_r ?_|refine gq_e ?_|refine lq_n ?_|refine lq_r ?_|refine lq_e ?_|refine bq_e (by decide) ?_)|((with_reducible refine zC (b:=?b_) ?hb_ ?_ ?_);case hb_=>rfl)|((conv=>whnf);first|(with_reducible refine hK_ _ _ ?_;try clear hK_ K_)|(with_reducible refine fun (g_:Sl) (o_:Ow)=>?_)|(with_reducible first|exact True.intro|refine And.intro trivial ?_|refine And.intro ?_ ?_)|exact Nat.le_of_ble_eq_true rfl|exact Or.inl rfl|(intro h_;cases h_)|(intro h_;(try simp only [vS1] at h_))|rfl))) <;> (try (conv=>whnf)) <;> (try first|change (_:Int)≤_|change (_:Nat)≤_) <;> (try ((fail_if_success (with_reducible apply Exists.intro));(try dsimp only);(try simp only [vS1]))) <;> (try simp (disch:=omega) only [vS3,Int.add_sub_cancel,tn1,tnp,tnc,vS2] at *)
 all_goals (try ((fail_if_success (with_reducible apply Exists.intro));first|with_reducible assumption|omega))
 ·exact Nat.le_trans hW.len (by omega)
 ·have:=hW.near (k:=k - 1) (by omega)
  rw [show k - 1 + 1=k by omega] at this
  exact absurd (this.symm.trans ‹hasM _ _=false›) (by decide)
 ·exact ⟨k + 1,by omega,⟨by omega,by omega⟩,by (repeat' (first|(with_reducible first|exact True.intro|refine And.intro ?_ ?_|refine Head.mk ?_ ?_ ?_ ?_)|((conv=>lhs;whnf);first|(with_reducible first|rfl|exact vInt_s (by omega))|exact rfl)|((conv=>whnf);first|(with_reducible first|exact True.intro|refine And.intro ?_ ?_)))) <;> (try (conv=>lhs;whnf))⟩
 ·have hwk':((wbM (hidR bs) ((hidR bs).getD 0 (ElK.b ElB.pt).dflt) ((hidR bs).getD (Int.toNat 1) (ElK.b ElB.pt).dflt)).length:Int) ≥ 1:=Int.ofNat_le.2 hwk
  exact absurd hwk' (by assumption)
end Go.Proofs.YtnepfcnlngpchaaGreat
