/- What the proof of 'FnMovements' needs, part 5: conditions and steps of the functions that it reaches, and the mathematics. -/
import Derived.Test.YtnepfcnlngpchaaRows
import Derived.WalkKit
import Derived.WalkSpells
import Derived.Below
import Derived.Orders
import Derived.Maps.AppendAt
import Derived.Laws.StructEq
import Derived.WideShapes
import Derived.ChangeSlices
import Derived.Deep.Strs
import Derived.ChangeOld
import Derived.Shelf.SlLaysF0
import Derived.Shelf.SlSortCmp.InsertionK
import Derived.Shelf.SlSortCmp.SmallK
import Derived.Shelf.SlSortCmp.Xorshift
import Derived.Sort.LotA
import Derived.Test.YtnepfcnlngpchaaSFnMovements4
set_option linter.unusedSimpArgs false
set_option linter.unusedVariables false
namespace Go.Proofs.Ytnepfcnlngpchaa.Geo
structure Mv where
 a:Int
 b:Int
 e:Int
 f:Int
 one:a * a + b * b=1
def Mv.app (g:Mv) (p:Pt):Pt:=(g.a * p.1 - g.b * p.2 + g.e,g.b * p.1 + g.a * p.2 + g.f)
theorem turn_mv (g:Mv) (p q r:Pt):turnZ (g.app p) (g.app q) (g.app r)=turnZ p q r:=by
 have:turnZ (g.app p) (g.app q) (g.app r)=(g.a * g.a + g.b * g.b) * turnZ p q r:=by unfold turnZ Mv.app;grind
 rw [this,g.one,Int.one_mul]
theorem dot_mv (g:Mv) (p q r:Pt):dotZ (g.app p) (g.app q) (g.app r)=dotZ p q r:=by
 have:dotZ (g.app p) (g.app q) (g.app r)=(g.a * g.a + g.b * g.b) * dotZ p q r:=by unfold dotZ Mv.app;grind
 rw [this,g.one,Int.one_mul]
def Aff.mv (h:Aff) (g:Mv):Aff:=⟨h.u * g.a - h.v * g.b,h.u * g.b + h.v * g.a,h.w - (h.u * g.a - h.v * g.b) * g.e - (h.u * g.b + h.v * g.a) * g.f⟩
theorem ev_mv (h:Aff) (g:Mv) (p:Pt):(h.mv g).ev (g.app p)=h.ev p:=by
 have:(h.mv g).ev (g.app p)=(g.a * g.a + g.b * g.b) * (h.u * p.1 + h.v * p.2) + h.w:=by unfold Aff.ev Aff.mv Mv.app;grind
 rw [this,g.one,Int.one_mul];rfl
theorem mv_inj (g:Mv) {p q:Pt} (h:g.app p=g.app q):p=q:=by
 have h1:=congrArg Prod.fst h
 have h2:=congrArg Prod.snd h
 simp only [Mv.app] at h1 h2
 have o:=g.one
 refine Prod.ext ?_ ?_
 ·have:(g.a * g.a + g.b * g.b) * p.1=(g.a * g.a + g.b * g.b) * q.1:=by grind
  rwa [o,Int.one_mul,Int.one_mul] at this
 ·have:(g.a * g.a + g.b * g.b) * p.2=(g.a * g.a + g.b * g.b) * q.2:=by grind
  rwa [o,Int.one_mul,Int.one_mul] at this
def Poly.mv (P:Poly) (g:Mv):Poly:=⟨P.n,fun j=>g.app (P.v j),fun j=>by show g.app (P.v (j + P.n))=_;rw [P.per]⟩
theorem Part.mv {a b q r:Pt} (h:Part a b q r) (g:Mv):Part (g.app a) (g.app b) (g.app q) (g.app r):=by
 obtain ⟨f,h1,h2,h3,h4⟩:=h
 exact ⟨f.mv g,by rwa [ev_mv],by rwa [ev_mv],by rwa [ev_mv],by rwa [ev_mv]⟩
theorem Off.mv {p a b:Pt} (h:Off p a b) (g:Mv):Off (g.app p) (g.app a) (g.app b):=by
 obtain ⟨f,h1,h2,h3⟩:=h
 exact ⟨f.mv g,by rwa [ev_mv],by rwa [ev_mv],by rwa [ev_mv]⟩
theorem Bends.mv {a b z:Pt} (h:Bends a b z) (g:Mv):Bends (g.app a) (g.app b) (g.app z):=
 ⟨fun e=>h.1 (mv_inj g e),by rw [turn_mv,dot_mv];exact h.2⟩
theorem SimpleP.mv {P:Poly} (h:SimpleP P) (g:Mv):SimpleP (P.mv g):=
 ⟨h.n3,fun j d h1 h2=>(h.off j d h1 h2).mv g,fun j d h1 h2=>(h.apart j d h1 h2).mv g,fun k=>⟨(h.bend k).1.mv g,(h.bend k).2.mv g⟩⟩
theorem sumN_add (f g:Nat→Int):∀ n,sumN (fun k=>f k + g k) n=sumN f n + sumN g n
 | 0=>rfl
 | n + 1=>by simp only [sumN];rw [sumN_add f g n];omega
theorem area_mv (P:Poly) (g:Mv):(P.mv g).area=P.area:=by
 obtain ⟨J,hJ⟩:∃ J:Nat→Int,∀ j,J j=g.e * (g.b * (P.v j).1 + g.a * (P.v j).2) - g.f * (g.a * (P.v j).1 - g.b * (P.v j).2):=⟨_,fun _=>rfl⟩
 have e:∀ k,crs0 ((P.mv g).v k) ((P.mv g).v (k + 1))=crs0 (P.v k) (P.v (k + 1)) + (J (k + 1) - J k):=fun k=>by
  have o:=g.one
  show crs0 (g.app (P.v k)) (g.app (P.v (k + 1)))=_
  rw [hJ,hJ]
  generalize P.v k=p
  generalize P.v (k + 1)=q
  have:crs0 (g.app p) (g.app q)=(g.a * g.a + g.b * g.b) * crs0 p q + (g.e * (g.b * q.1 + g.a * q.2) - g.f * (g.a * q.1 - g.b * q.2) - (g.e * (g.b * p.1 + g.a * p.2) - g.f * (g.a * p.1 - g.b * p.2))):=by unfold crs0 Mv.app;grind
  rw [this,o,Int.one_mul]
 unfold Poly.area
 show sumN (fun k=>crs0 ((P.mv g).v k) ((P.mv g).v (k + 1))) P.n=_
 rw [sumN_congr fun k _=>e k,sumN_add,sumN_tel,hJ,hJ,P.vn]
 omega
theorem part_meet {v w:Pt × Pt} (hv:Bd v.1∧Bd v.2) (hw:Bd w.1∧Bd w.2) (h:Part v.1 v.2 w.1 w.2):meet v w=false:=by
 have on:∀ {p a b:Pt},Bd p→Bd a→Bd b→Off p a b→onS p a b=false:=fun {p a b} hp ha hb ho=>by
  cases hc:onS p a b with
  | false=>rfl
  | true=>exact absurd ho (onS_OnM ha hb hp hc).not_off
 have hs:=h.symm
 have o1:=on hv.1 hw.1 hw.2 hs.off1
 have o2:=on hv.2 hw.1 hw.2 hs.off2
 have o3:=on hw.1 hv.1 hv.2 h.off1
 have o4:=on hw.2 hv.1 hv.2 h.off2
 have o5:crs w.1 w.2 v.1 v.2=false:=by
  cases hc:crs w.1 w.2 v.1 v.2 with
  | false=>rfl
  | true=>
   exfalso
   unfold crs at hc
   rw [turn_exact hw.1 hw.2 hv.1,turn_exact hw.1 hw.2 hv.2,turn_exact hv.1 hv.2 hw.1,turn_exact hv.1 hv.2 hw.2,Bool.and_eq_true,decide_eq_true_eq,decide_eq_true_eq,sgn_opp,sgn_opp] at hc
   exact cross_not_part h hc.1 hc.2
 unfold meet
 rw [o1,o2,o3,o4,o5]
 simp
theorem room_of {xs:List Pt} (h3:3≤xs.length) (h10:xs.length≤10) (hp:∀ q∈xs,ptOk q=true) (hs:SimpleP (roomP xs)) (ht:∀ j,turnZ ((roomP xs).v j) ((roomP xs).v (j + 1)) ((roomP xs).v (j + 2))≠0) (hA:0 < (roomP xs).area):roomOk xs=true:=by
 have hb:∀ q∈xs,Bd q:=fun q hq=>bd_of_ok (hp q hq)
 refine roomOk_iff.2 ⟨⟨h3,h10⟩,List.all_eq_true.2 hp,okAt_half.2 fun i hi=>⟨?_,fun k hik hk hne=>?_⟩,?_⟩
 ·rw [turn_exact (pAt_bd hb hi) (pCy_bd hb (by omega)) (pCy_bd hb (by omega)),← v_lt hi]
  exact ht i
 ·refine part_meet ⟨pAt_bd hb hi,pCy_bd hb (by omega)⟩ ⟨pAt_bd hb hk,pCy_bd hb (by omega)⟩ ?_
  show Part (pAt xs i) (pCy xs (i + 1)) (pAt xs k) (pCy xs (k + 1))
  rw [← v_lt hi,← v_lt hk]
  refine hs.apartI hk hik fun ⟨e1,e2⟩=>hne ?_
  have e2:k + 1=xs.length:=e2
  rw [e2,Nat.mod_self,e1]
 ·obtain ⟨e,l,u⟩:=room_dbl (fun q hq=>ptOk_iff.1 (hp q hq)) (by omega) xs.length (Nat.le_refl _)
  have e:dbl xs=(roomP xs).area:=e
  have hd:dbl xs=dblTo xs xs.length:=rfl
  rw [W_in (by omega) (by omega),e];exact hA
theorem area_rot' (P:Poly) (s:Nat) (g:Mv):((P.rot s).mv g).area=P.area:=(area_mv _ g).trans (area_rot P s)
theorem room_moved {xs ys:List Pt} (hr:roomOk xs=true) (s:Nat) (g:Mv) (hl:ys.length=xs.length) (hv:∀ j,pCy ys j=g.app (pCy xs (s + j))) (hp:∀ q∈ys,ptOk q=true):roomOk ys=true:=by
 have h3:=(roomOk_iff.1 hr).1
 have e:roomP ys=((roomP xs).rot s).mv g:=Poly.ext' hl fun j=>hv j
 refine room_of (by omega) (by omega) hp (by rw [e];exact ((room_simple hr).rot s).mv g) (fun j=>?_) (by rw [e,area_rot'];exact (room_area hr).2.1)
 rw [e]
 show turnZ (g.app _) (g.app _) (g.app _)≠0
 rw [turn_mv]
 exact room_turns hr (s + j)
end Go.Proofs.Ytnepfcnlngpchaa.Geo
namespace Go.Proofs.Ytnepfcnlngpchaa
def sub (b a:Pt):Pt:=(b.1 - a.1,b.2 - a.2)
end Go.Proofs.Ytnepfcnlngpchaa
namespace Go.Proofs.Ytnepfcnlngpchaa.Geo
abbrev partB (P:Poly) (m:Nat):Poly:=(P.rot m).arc (P.n - m)
theorem A_walls {P:Poly} {m:Nat} {Q:Pt→Pt→Prop}:(∀ k,k < (P.arc m).n→Q ((P.arc m).v k) ((P.arc m).v (k + 1)))↔(∀ k,k < m→Q (P.v k) (P.v (k + 1)))∧Q (P.v m) (P.v 0):=by
 constructor
 ·intro h
  refine ⟨fun k hk=>?_,?_⟩
  ·have:=h k (by show k < m + 1;omega)
   rwa [arc_v P (by omega),arc_v P (by omega)] at this
  ·have:=h m (by show m < m + 1;omega)
   rwa [arc_v P (Nat.le_refl m),arc_v0] at this
 ·rintro ⟨h1,h2⟩ k hk
  have hk:k < m + 1:=hk
  rcases (show k < m∨k=m by omega) with g|g
  ·rw [arc_v P (by omega),arc_v P (by omega)];exact h1 k g
  ·subst g;rw [arc_v P (Nat.le_refl k),arc_v0];exact h2
theorem B_v {P:Poly} {m j:Nat} (hm:m≤P.n) (hj:j≤P.n - m):(partB P m).v j=P.v (m + j):=arc_v (P.rot m) hj
theorem B_walls {P:Poly} {m:Nat} (hm:m < P.n) {Q:Pt→Pt→Prop}:(∀ k,k < (partB P m).n→Q ((partB P m).v k) ((partB P m).v (k + 1)))↔(∀ k,m≤k→k < P.n→Q (P.v k) (P.v (k + 1)))∧Q (P.v 0) (P.v m):=by
 have h:=A_walls (P:=P.rot m) (m:=P.n - m) (Q:=Q)
 have e1:(P.rot m).v (P.n - m)=P.v 0:=by show P.v (m + (P.n - m))=_;rw [show m + (P.n - m)=P.n by omega,P.vn]
 have e0:(P.rot m).v 0=P.v m:=by show P.v (m + 0)=_;rw [Nat.add_zero]
 rw [e1,e0] at h
 rw [h]
 refine and_congr ⟨fun g k h1 h2=>?_,fun g k hk=>?_⟩ Iff.rfl
 ·have:=g (k - m) (by omega)
  rwa [show (P.rot m).v (k - m)=P.v k by show P.v (m + (k - m))=_;rw [show m + (k - m)=k by omega],show (P.rot m).v (k - m + 1)=P.v (k + 1) by show P.v (m + (k - m + 1))=_;rw [show m + (k - m + 1)=k + 1 by omega]] at this
 ·exact g (m + k) (by omega) (by omega)
theorem P_walls {P:Poly} {m:Nat} (hm:m < P.n) {Q:Pt→Pt→Prop} (hA:∀ k,k < (P.arc m).n→Q ((P.arc m).v k) ((P.arc m).v (k + 1))) (hB:∀ k,k < (partB P m).n→Q ((partB P m).v k) ((partB P m).v (k + 1))):∀ k,k < P.n→Q (P.v k) (P.v (k + 1)):=fun k hk=>by
 rcases (show k < m∨m≤k by omega) with g|g
 ·exact (A_walls.1 hA).1 k g
 ·exact ((B_walls hm).1 hB).1 k g hk
theorem cut_sum (h:Aff) (P:Poly) (K:Int) {m:Nat} (hm:m≤P.n) (x:Pt):wnd h (P.sc K).way x=wnd h ((P.arc m).sc K).way x + wnd h ((partB P m).sc K).way x:=wnd_cut h (P.sc K) hm x
def OffP (P:Poly) (K:Int) (m:Pt):Prop:=∀ k,k < P.n→Off m (smul K (P.v k)) (smul K (P.v (k + 1)))
def Inn (P:Poly) (K:Int) (m:Pt):Prop:=OffP P K m∧∃ h,NC h∧wnd h (P.sc K).way m=1
theorem Outp.off {P:Poly} {K:Int} {m:Pt} (h:Outp P K m):OffP P K m:=h.1
theorem Outp.w {P:Poly} {K:Int} {m:Pt} (h:Outp P K m) {g:Aff} (hg:NC g):wnd g (P.sc K).way m=0:=by
 obtain ⟨ho,f,hf,e⟩:=h
 rw [← e];exact wnd_free hg hf ho
theorem Inn.w {P:Poly} {K:Int} {m:Pt} (h:Inn P K m) {g:Aff} (hg:NC g):wnd g (P.sc K).way m=1:=by
 obtain ⟨ho,f,hf,e⟩:=h
 rw [← e];exact wnd_free hg hf ho
def up:Aff:=⟨0,1,0⟩
theorem nc_up:NC up:=.inr (by decide)
theorem out_or_in {P:Poly} (hP:SimpleP P) (ha:0 < P.area) {K:Int} (hK:0 < K) {m:Pt} (ho:OffP P K m):Outp P K m∨Inn P K m:=by
 rcases wnd_zero_oneK hP ha hK nc_up ho with g|g
 ·exact .inl ⟨ho,up,nc_up,g⟩
 ·exact .inr ⟨ho,up,nc_up,g⟩
theorem Inn.not_out {P:Poly} {K:Int} {m:Pt} (h:Inn P K m):¬ Outp P K m:=fun o=>by
 have:=o.w nc_up
 rw [h.w nc_up] at this
 exact absurd this (by decide)
theorem OffP.scale {P:Poly} {K:Int} {m:Pt} (h:OffP P K m) {L:Int} (hL:0 < L):OffP P (L * K) (smul L m):=fun k hk=>by
 rw [← smul2,← smul2];exact (h k hk).sc hL
theorem Inn.scale {P:Poly} {K:Int} {m:Pt} (h:Inn P K m) {L:Int} (hL:0 < L):Inn P (L * K) (smul L m):=by
 obtain ⟨ho,g,hg,e⟩:=h
 exact ⟨OffP.scale ho hL,g.sc L,hg,by rw [wnd_scale g P hL];exact e⟩
theorem near {P:Poly} {K:Int} {x:Pt} (ho:OffP P K x) (d:Pt):Late fun L=>OffP P (L * K) (padd (smul L x) d)∧∀ h:Aff,wnd (h.sc L) (P.sc (L * K)).way (padd (smul L x) d)=wnd h (P.sc K).way x:=by
 have:Late fun L=>∀ k,k < P.n→Part (smul L (smul K (P.v k))) (smul L (smul K (P.v (k + 1)))) (padd (smul L x) d) (padd (smul L x) (0,0)):=Late.all fun k hk=>(ho k hk).near d (0,0)
 refine this.imp fun L hL g=>?_
 have e0:padd (smul L x) (0,0)=smul L x:=by unfold padd;simp
 rw [e0] at g
 refine ⟨fun k hk=>?_,fun h=>?_⟩
 ·have:=(g k hk).off1
  rwa [smul2,smul2] at this
 ·rw [← wnd_scale h P hL]
  refine wnd_step (h.sc L) (P.sc (L * K)).way fun k hk=>?_
  have:=g k hk
  rw [smul2,smul2] at this
  exact this
theorem wall_sides {Q:Poly} (hQ:SimpleP Q) {h:Aff} (hg:Gen h Q) {l:Int} (hl:LeftIs h Q.way l) {k:Nat} (hk:k < Q.n) {s t K:Int} (hs:0 < s) (ht:0 < t) (e:s + t=K) {x:Pt} (hx:x=padd (smul s (Q.v k)) (smul t (Q.v (k + 1)))) {d:Pt} :
  Late fun L=>(0 < turnZ (Q.v k) (Q.v (k + 1)) (padd (Q.v k) d)→wnd (h.sc (L * K)) (Q.sc (L * K)).way (padd (smul L x) d)=l∧OffP Q (L * K) (padd (smul L x) d)) ∧
   (turnZ (Q.v k) (Q.v (k + 1)) (padd (Q.v k) d) < 0→wnd (h.sc (L * K)) (Q.sc (L * K)).way (padd (smul L x) d)=l - 1∧OffP Q (L * K) (padd (smul L x) d)):=by
 have hn:=hQ.n3
 have hK:0 < K:=by omega
 have hon:OnI x (smul K (Q.v k)) (smul K (Q.v (k + 1))):=by
  refine ⟨s,t,hs,ht,?_,?_⟩
  ·rw [hx,← e];unfold padd smul;simp only;grind
  ·rw [hx,← e];unfold padd smul;simp only;grind
 have hoff:∀ j,j < Q.n→j≠k→Off x (smul K (Q.v j)) (smul K (Q.v (j + 1))):=fun j hj hjk=>by
  have:=(hQ.simple.sc hK).inn (k:=k) hk hon hon (j:=j) hj hjk
  exact this.off1
 have:Late fun L=>∀ j,j < Q.n→j≠k→Part (smul L (smul K (Q.v j))) (smul L (smul K (Q.v (j + 1)))) (padd (smul L x) d) (padd (smul L x) (0,0)):=Late.all fun j hj=>by
  by_cases hjk:j=k
  ·exact Late.of fun _ _ h=>absurd hjk h
  ·exact ((hoff j hj hjk).near d (0,0)).imp fun _ _ g _=>g
 refine this.imp fun L hL g=>?_
 have e0:padd (smul L x) (0,0)=smul L x:=by unfold padd;simp
 rw [e0] at g
 have hLK:0 < L * K:=pp hL hK
 have g':∀ j,j < Q.n→j≠k→Part (smul (L * K) (Q.v j)) (smul (L * K) (Q.v (j + 1))) (padd (smul L x) d) (smul L x):=fun j hj hjk=>by
  have:=g j hj hjk
  rwa [smul2,smul2] at this
 have honL:OnI (smul L x) (smul (L * K) (Q.v k)) (smul (L * K) (Q.v (k + 1))):=by
  have:=smul_on hL hon
  rwa [smul2,smul2] at this
 have hlam:=hl.2.1 (L * K) k (smul L x) hLK hk honL
 have hsl:Sloped (h.sc (L * K)) (Q.way.sc (L * K)):=fun j hj=>by
  have:=hg.sloped (by omega) j hj
  show (h.sc (L * K)).ev (smul (L * K) (Q.v j))≠(h.sc (L * K)).ev (smul (L * K) (Q.v (j + 1)))
  rw [ev_sc0,ev_sc0]
  exact fun e=>this (Int.eq_of_mul_eq_mul_left (by omega) e)
 have hturn:turnZ (smul (L * K) (Q.v k)) (smul (L * K) (Q.v (k + 1))) (padd (smul L x) d)=(L * K) * turnZ (Q.v k) (Q.v (k + 1)) (padd (Q.v k) d):=by
  rw [hx,← e];unfold turnZ padd smul;grind
 have off:turnZ (Q.v k) (Q.v (k + 1)) (padd (Q.v k) d)≠0→OffP Q (L * K) (padd (smul L x) d):=fun hne j hj=>by
  by_cases hjk:j=k
  ·subst hjk
   exact off_turn (by rw [hturn];exact fun e=>by rcases Int.mul_eq_zero.1 e with q|q <;> omega)
  ·exact (g' j hj hjk).off1
 refine ⟨fun hp=>⟨?_,off (by omega)⟩,fun hp=>⟨?_,off (by omega)⟩⟩
 ·have:=wnd_left hsl (k:=k) hk honL (fun j hj hjk=>g' j hj hjk) (by show 0 < turnZ (smul (L * K) (Q.v k)) (smul (L * K) (Q.v (k + 1))) _;rw [hturn];exact pp hLK hp)
  rw [hlam] at this;exact this
 ·have:=wnd_right hsl (k:=k) hk honL (fun j hj hjk=>g' j hj hjk) (by show turnZ (smul (L * K) (Q.v k)) (smul (L * K) (Q.v (k + 1))) _ < 0;rw [hturn];exact pm hLK hp)
  rw [hlam] at this;exact this
theorem chord_off {P:Poly} {m:Nat} (c:Chord P m) {s t K:Int} (hs:0 < s) (ht:0 < t) (e:s + t=K):OffP P K (padd (smul s (P.v 0)) (smul t (P.v m))):=by
 have hm2:=c.m2
 have hmn:=c.mn
 have hK:0 < K:=by omega
 have hon:OnI (padd (smul s (P.v 0)) (smul t (P.v m))) (smul K (P.v 0)) (smul K (P.v m)):=by
  refine ⟨s,t,hs,ht,?_,?_⟩
  ·rw [← e];unfold padd smul;simp only;grind
  ·rw [← e];unfold padd smul;simp only;grind
 have bend:∀ {a b z:Pt},Bends a b z→OnI (padd (smul s (P.v 0)) (smul t (P.v m))) (smul K a) (smul K b)→Off (padd (smul s (P.v 0)) (smul t (P.v m))) (smul K b) (smul K z):=fun hb ho=>((hb.sc hK).part ho ho).off1
 intro k hk
 rcases (show k=0∨k + 1=m∨k=m∨k + 1=P.n∨(0 < k∧k + 1 < P.n∧k≠m∧k + 1≠m) by omega) with g|g|g|g|⟨g1,g2,g3,g4⟩
 ·subst g;exact bend c.b0.1.1 hon.swap
 ·have:=bend c.bm.1.1 hon
  rw [← g] at this ⊢
  rw [show k + 1 - 1=k by omega] at this
  exact this.swap
 ·subst g;exact bend c.bm.2.1 hon
 ·have:=bend c.b0.2.1 hon.swap
  rw [show P.n - 1=k by omega] at this
  rw [g,P.vn];exact this.swap
 ·exact (((c.apart k g1 g2 g3 g4).sc hK).inn hon hon).off1
theorem sc_sc (h:Aff) (L K:Int):(h.sc K).sc L=h.sc (L * K):=by unfold Aff.sc;rw [Int.mul_assoc]
theorem chord_sum {P:Poly} (hP:SimpleP P) {m:Nat} (c:Chord P m) {h:Aff} (hg:Gen h P) {l1 l2:Int} (hA:LeftIs h (P.arc m).way l1) (hB:LeftIs h (partB P m).way l2) {s t K:Int} (hs:0 < s) (ht:0 < t) (e:s + t=K) :
  wnd (h.sc K) (P.sc K).way (padd (smul s (P.v 0)) (smul t (P.v m)))=l1 + l2 - 1:=by
 have hm2:=c.m2
 have hmn:=c.mn
 have hSA:=hP.arc c
 have hSB:SimpleP (partB P m):=(hP.rot m).arc c.rot
 have hgA:Gen h (P.arc m):=hg.arc (by omega)
 have hgB:Gen h (partB P m):=(hg.rot m).arc (by show P.n - m < P.n;omega)
 have hab:P.v 0≠P.v m:=hP.inj (by omega) (by omega) (by omega)
 have hN:=sq_pos hab
 have nB:P.n - m < (partB P m).n:=by show P.n - m < P.n - m + 1;omega
 have bB0:(partB P m).v (P.n - m)=P.v 0:=by rw [B_v (by omega) (by omega),show m + (P.n - m)=P.n by omega,P.vn]
 have bB1:(partB P m).v (P.n - m + 1)=P.v m:=by show (P.rot m).v ((P.n - m + 1) % (P.n - m + 1))=_;rw [Nat.mod_self];show P.v (m + 0)=_;rw [Nat.add_zero]
 have lA:=wall_sides hSA hgA hA (k:=m) (by show m < m + 1;omega) ht hs (show t + s=K by omega) (x:=padd (smul s (P.v 0)) (smul t (P.v m))) (by rw [arc_v P (Nat.le_refl m),arc_v0];unfold padd smul;refine Prod.ext ?_ ?_ <;> simp only <;> omega) (d:=rotP (psub (P.v 0) (P.v m)))
 have lB:=wall_sides hSB hgB hB (k:=P.n - m) nB hs ht e (x:=padd (smul s (P.v 0)) (smul t (P.v m))) (by rw [bB0,bB1]) (d:=rotP (psub (P.v 0) (P.v m)))
 obtain ⟨L,hL,⟨gA,gB⟩,gP⟩:=((lA.and lB).and (near (chord_off c hs ht e) (rotP (psub (P.v 0) (P.v m))))).get
 rw [arc_v P (Nat.le_refl m),arc_v0] at gA
 rw [bB0,bB1] at gB
 have tA:0 < turnZ (P.v m) (P.v 0) (padd (P.v m) (rotP (psub (P.v 0) (P.v m)))):=by
  have:turnZ (P.v m) (P.v 0) (padd (P.v m) (rotP (psub (P.v 0) (P.v m))))=((P.v m).1 - (P.v 0).1) * ((P.v m).1 - (P.v 0).1) + ((P.v m).2 - (P.v 0).2) * ((P.v m).2 - (P.v 0).2):=by unfold turnZ padd rotP psub;grind
  omega
 have tB:turnZ (P.v 0) (P.v m) (padd (P.v 0) (rotP (psub (P.v 0) (P.v m)))) < 0:=by
  have:turnZ (P.v 0) (P.v m) (padd (P.v 0) (rotP (psub (P.v 0) (P.v m))))=-(((P.v m).1 - (P.v 0).1) * ((P.v m).1 - (P.v 0).1) + ((P.v m).2 - (P.v 0).2) * ((P.v m).2 - (P.v 0).2)):=by unfold turnZ padd rotP psub;grind
  omega
 have wA:=(gA.1 tA).1
 have wB:=(gB.2 tB).1
 have wP:=gP.2 (h.sc K)
 rw [sc_sc,cut_sum _ P _ (show m≤P.n by omega),wA,wB] at wP
 omega
structure Cut (P:Poly) (m:Nat):Prop where
 c:Chord P m
 a:0 < (P.arc m).area
 b:0 < (partB P m).area
theorem left_of_area {P:Poly} (hP:SimpleP P) {h:Aff} (hg:Gen h P) (ha:0 < P.area):LeftIs h P.way 1:=((pos_iff hP hg).2 ha).left hP hg
theorem left_ex {P:Poly} (hP:SimpleP P) {h:Aff} (hg:Gen h P):∃ l,LeftIs h P.way l∧(l=1→0 < P.area):=by
 obtain ⟨s,hs⟩:=hg.low hP.n3
 rcases side_or hP hg hs with ⟨g,q⟩|⟨g,q⟩
 ·exact ⟨1,g,fun _=>area_pos hP hg ⟨s,hs,q⟩⟩
 ·exact ⟨0,g,fun e=>by omega⟩
theorem cut_of {P:Poly} (hP:SimpleP P) {m:Nat} (c:Chord P m) {s t K:Int} (hs:0 < s) (ht:0 < t) (e:s + t=K) (hin:Inn P K (padd (smul s (P.v 0)) (smul t (P.v m)))):Cut P m:=by
 have hm2:=c.m2
 have hmn:=c.mn
 have hSA:=hP.arc c
 have hSB:SimpleP (partB P m):=(hP.rot m).arc c.rot
 obtain ⟨M,-,hg⟩:=(hM_gen hP).get
 obtain ⟨l1,hA,a1⟩:=left_ex hSA (hg.arc (by omega))
 obtain ⟨l2,hB,a2⟩:=left_ex hSB (h:=hM M) ((hg.rot m).arc (by show P.n - m < P.n;omega))
 have:=chord_sum hP c hg hA hB hs ht e
 rw [hin.w (g:=(hM M).sc K) (.inl (show (1:Int)≠0 by decide))] at this
 have b1:=hA.1
 have b2:=hB.1
 exact ⟨c,a1 (by omega),a2 (by omega)⟩
theorem Cut.simA {P:Poly} (hP:SimpleP P) {m:Nat} (c:Cut P m):SimpleP (P.arc m):=hP.arc c.c
theorem Cut.simB {P:Poly} (hP:SimpleP P) {m:Nat} (c:Cut P m):SimpleP (partB P m):=(hP.rot m).arc c.c.rot
theorem Cut.area {P:Poly} {m:Nat} (c:Cut P m):0 < P.area:=by
 have:=area_cut P (m:=m) (by have:=c.c.mn;omega)
 have h1:=c.a
 have h2:0 < ((P.rot m).arc (P.n - m)).area:=c.b
 omega
theorem Cut.inn {P:Poly} (hP:SimpleP P) {m:Nat} (c:Cut P m) {s t K:Int} (hs:0 < s) (ht:0 < t) (e:s + t=K):Inn P K (padd (smul s (P.v 0)) (smul t (P.v m))):=by
 have hm2:=c.c.m2
 have hmn:=c.c.mn
 obtain ⟨M,-,hg⟩:=(hM_gen hP).get
 have:=chord_sum hP c.c hg (left_of_area (c.simA hP) (hg.arc (by omega)) c.a) (left_of_area (c.simB hP) ((hg.rot m).arc (by show P.n - m < P.n;omega)) c.b) hs ht e
 exact ⟨chord_off c.c hs ht e,(hM M).sc K,.inl (show (1:Int)≠0 by decide),this⟩
theorem Cut.out {P:Poly} {m:Nat} (c:Cut P m) {K:Int} {x:Pt} (hA:Outp (P.arc m) K x) (hB:Outp (partB P m) K x):Outp P K x:=by
 have hmn:=c.c.mn
 refine ⟨P_walls (m:=m) (by omega) (Q:=fun a b=>Off x (smul K a) (smul K b)) hA.1 hB.1,up,nc_up,?_⟩
 rw [cut_sum _ P K (show m≤P.n by omega),hA.w nc_up,hB.w nc_up];rfl
theorem Cut.out_both {P:Poly} (hP:SimpleP P) {m:Nat} (c:Cut P m) {K:Int} (hK:0 < K) {x:Pt} (h:Outp P K x):Outp (P.arc m) K x∧Outp (partB P m) K x:=by
 have hm2:=c.c.m2
 have hmn:=c.c.mn
 have hab:P.v 0≠P.v m:=hP.inj (by omega) (by omega) (by omega)
 have habK:smul K (P.v 0)≠smul K (P.v m):=fun e=>hab (Prod.ext (Int.eq_of_mul_eq_mul_left (by omega) (congrArg Prod.fst e)) (Int.eq_of_mul_eq_mul_left (by omega) (congrArg Prod.snd e)))
 have hoff:Off x (smul K (P.v 0)) (smul K (P.v m)):=by
  rcases off_or_on x habK with g|g
  ·exact g
  ·exfalso
   obtain ⟨s,t,hs,ht,h0,hf⟩:=g
   have x1:=hf ⟨1,0,0⟩
   have x2:=hf ⟨0,1,0⟩
   simp only [Aff.ev,Int.one_mul,Int.zero_mul,Int.zero_add,Int.add_zero] at x1 x2
   have ends:∀ j,j < P.n→x≠smul K (P.v j):=fun j hj e=>by
    have:=h.1 j hj
    rw [e] at this
    exact (Off.ne this).1 rfl
   by_cases s0:s=0
   ·refine ends m (by omega) (Prod.ext ?_ ?_)
    ·rw [s0] at x1;exact Int.eq_of_mul_eq_mul_left (show t≠0 by omega) (by simpa using x1)
    ·rw [s0] at x2;exact Int.eq_of_mul_eq_mul_left (show t≠0 by omega) (by simpa using x2)
   by_cases t0:t=0
   ·refine ends 0 (by omega) (Prod.ext ?_ ?_)
    ·rw [t0] at x1;exact Int.eq_of_mul_eq_mul_left (show s≠0 by omega) (by simpa using x1)
    ·rw [t0] at x2;exact Int.eq_of_mul_eq_mul_left (show s≠0 by omega) (by simpa using x2)
   have hi:=c.inn hP (s:=s * K) (t:=t * K) (K:=(s + t) * K) (pp (by omega) hK) (pp (by omega) hK) (by rw [Int.add_mul])
   have ho:=h.scale (L:=s + t) h0
   have e:smul (s + t) x=padd (smul (s * K) (P.v 0)) (smul (t * K) (P.v m)):=by
    unfold smul padd at *
    refine Prod.ext ?_ ?_
    ·show (s + t) * x.1=s * K * (P.v 0).1 + t * K * (P.v m).1
     rw [x1];grind
    ·show (s + t) * x.2=s * K * (P.v 0).2 + t * K * (P.v m).2
     rw [x2];grind
   rw [e] at ho
   exact hi.not_out ho
 have oA:OffP (P.arc m) K x:=A_walls (Q:=fun a b=>Off x (smul K a) (smul K b)) |>.2 ⟨fun k hk=>h.1 k (by omega),hoff.swap⟩
 have oB:OffP (partB P m) K x:=(B_walls (show m < P.n by omega) (Q:=fun a b=>Off x (smul K a) (smul K b))).2 ⟨fun k _ hk=>h.1 k hk,hoff⟩
 have sum:=cut_sum up P K (show m≤P.n by omega) x
 rw [h.w nc_up] at sum
 have wA:=wnd_zero_oneK (c.simA hP) c.a hK nc_up oA
 have wB:=wnd_zero_oneK (c.simB hP) c.b hK nc_up oB
 exact ⟨⟨oA,up,nc_up,by omega⟩,⟨oB,up,nc_up,by omega⟩⟩
theorem Cut.noout {P:Poly} (hP:SimpleP P) {m:Nat} (c:Cut P m) {a b:Pt} (h:NoOut (P.arc m) a b∨NoOut (partB P m) a b):NoOut P a b:=fun s t hs ht hst o=>by
 obtain ⟨h1,h2⟩:=c.out_both hP hst o
 rcases h with h|h
 ·exact h s t hs ht hst h1
 ·exact h s t hs ht hst h2
theorem tri_in {P:Poly} (hn:P.n=3) {p:Pt} (hp:¬ Outp P 1 p):∀ k,k < P.n→0≤turnZ (P.v k) (P.v (k + 1)) (P.v (k + 2))→0≤turnZ (P.v k) (P.v (k + 1)) p:=fun k hk ht=>by
 rcases (show 0≤turnZ (P.v k) (P.v (k + 1)) p∨turnZ (P.v k) (P.v (k + 1)) p < 0 by omega) with g|g
 ·exact g
 ·refine absurd (out_half (f:=Aff.turn (P.v k) (P.v (k + 1))) fun j hj=>?_) hp
  rw [ev_turn,ev_turn]
  have e:P.v j=P.v k∨P.v j=P.v (k + 1)∨P.v j=P.v (k + 2):=by
   rcases (show j=k∨j=k + 1∨j=k + 2∨j + 3=k + 1∨j + 3=k + 2 by omega) with q|q|q|q|q
   ·exact .inl (by rw [q])
   ·exact .inr (.inl (by rw [q]))
   ·exact .inr (.inr (by rw [q]))
   ·exact .inr (.inl (by rw [← q,← hn,P.per]))
   ·exact .inr (.inr (by rw [← q,← hn,P.per]))
  have taa:turnZ (P.v k) (P.v (k + 1)) (P.v k)=0:=by unfold turnZ;grind
  have tbb:turnZ (P.v k) (P.v (k + 1)) (P.v (k + 1))=0:=by unfold turnZ;grind
  rcases e with e|e|e <;> rw [e] <;> omega
theorem corner_not_out (P:Poly) (j:Nat) (hn:0 < P.n):¬ Outp P 1 (P.v j):=fun h=>by
 have:=h.1 (j % P.n) (Nat.mod_lt _ hn)
 rw [smul_one,smul_one,P.per_mod] at this
 exact (Off.ne this).1 rfl
theorem tri_area' {P:Poly} (hn:P.n=3):P.area=turnZ (P.v 0) (P.v 1) (P.v 2):=by
 unfold Poly.area;rw [hn];simp only [sumN]
 have e:=P.vn;rw [hn] at e;rw [e]
 unfold crs0 turnZ;grind
theorem tri_turns {P:Poly} (hn:P.n=3) (j:Nat):turnZ (P.v j) (P.v (j + 1)) (P.v (j + 2))=turnZ (P.v 0) (P.v 1) (P.v 2):=by
 have c3:∀ j,P.v (j + 3)=P.v j:=fun j=>by rw [← hn,P.per]
 have t1:turnZ (P.v 1) (P.v 2) (P.v 3)=turnZ (P.v 0) (P.v 1) (P.v 2):=by rw [c3 0];unfold turnZ;grind
 have t2:turnZ (P.v 2) (P.v 3) (P.v 4)=turnZ (P.v 0) (P.v 1) (P.v 2):=by rw [c3 0,c3 1];unfold turnZ;grind
 have hm:∀ i d,P.v (i + d)=P.v (i % 3 + d):=fun i d=>by rw [← hn,P.per_add]
 have h0:P.v j=P.v (j % 3):=by have:=hm j 0;simpa using this
 rw [h0,hm j 1,hm j 2]
 rcases (show j % 3=0∨j % 3=1∨j % 3=2 by omega) with q|q|q <;> rw [q]
 ·exact t1
 ·exact t2
theorem Outp.rot {P:Poly} {K:Int} {x:Pt} (h:Outp P K x) (s:Nat):Outp (P.rot s) K x:=by
 obtain ⟨ho,g,hg,e⟩:=h
 refine ⟨fun k hk=>?_,g,hg,by rw [← e];exact wnd_rot g (P.sc K) s x⟩
 have hn:0 < P.n:=by have hk:k < P.n:=hk;omega
 have:=ho ((s + k) % P.n) (Nat.mod_lt _ hn)
 rw [P.per_mod,P.per_add] at this
 exact this
theorem Outp.rot_iff {P:Poly} {K:Int} {x:Pt} (hn:1≤P.n) (s:Nat):Outp (P.rot s) K x↔Outp P K x:=
 ⟨fun h=>by have:=h.rot (s * (P.n - 1));rw [rot_back P s hn] at this;exact this,fun h=>h.rot s⟩
theorem NoOut.rot_iff {P:Poly} {a b:Pt} (hn:1≤P.n) (s:Nat):NoOut (P.rot s) a b↔NoOut P a b:=
 ⟨fun h s' t' hs ht hst o=>h s' t' hs ht hst (o.rot s),fun h s' t' hs ht hst o=>h s' t' hs ht hst ((Outp.rot_iff hn s).1 o)⟩
theorem sees_corner {P:Poly} (hP:SimpleP P) (ha:0 < P.area) {p:Pt} (hp:¬ Outp P 1 p):∃ k,NoOut P p (P.v k):=by
 obtain ⟨M,-,hg⟩:=(hM_gen hP).get
 refine pos_induct (hM M) (fun P=>¬ Outp P 1 p→∃ k,NoOut P p (P.v k)) (fun P hP hg hn ht hp=>?_) (fun P s hP hg hpos ih hp=>?_) (fun P m hP hg hpos c hA hB ihA ihB hp=>?_) P hP hg ((pos_iff hP hg).2 ha) hp
 ·-- a triangle
  have hturn:∀ j,0 < turnZ (P.v j) (P.v (j + 1)) (P.v (j + 2)):=fun j=>by rw [tri_turns hn];exact ht
  exact ⟨0,star hP (fun j=>by have:=hturn j;omega) (by rw [tri_area' hn];exact ht) (fun k hk=>tri_in hn hp k hk (by have:=hturn k;omega)) (corner_not_out P 0 (by omega))⟩
 ·have hn:=hP.n3
  obtain ⟨k,hno⟩:=ih (fun o=>hp ((Outp.rot_iff (by omega) s).1 o))
  exact ⟨s + k,(NoOut.rot_iff (by omega) s).1 hno⟩
 ·have cut:Cut P m:=⟨c,area_pos (hP.arc c) (hg.arc (by have:=c.mn;omega)) hA,area_pos ((hP.rot m).arc c.rot) ((hg.rot m).arc (by have:=c.m2;have:=c.mn;show P.n - m < P.n;omega)) hB⟩
  by_cases oA:Outp (P.arc m) 1 p
  ·by_cases oB:Outp (partB P m) 1 p
   ·exact absurd (cut.out oA oB) hp
   ·obtain ⟨k,hno⟩:=ihB oB
    exact ⟨m + k % (P.n - m + 1),cut.noout hP (.inr hno)⟩
  ·obtain ⟨k,hno⟩:=ihA oA
   exact ⟨k % (m + 1),cut.noout hP (.inl hno)⟩
theorem Cut.rot {P:Poly} {m:Nat} (c:Cut P m):Cut (P.rot m) (P.n - m)∧partB (P.rot m) (P.n - m)=P.arc m:=by
 have hm2:=c.c.m2
 have hmn:=c.c.mn
 have e:partB (P.rot m) (P.n - m)=P.arc m:=by
  have e1:(P.rot m).rot (P.n - m)=P:=by
   rw [rot_rot]
   exact Poly.ext' rfl fun j=>by show P.v (m + (P.n - m) + j)=P.v j;rw [show m + (P.n - m) + j=j + P.n by omega,P.per]
  show ((P.rot m).rot (P.n - m)).arc (P.n - (P.n - m))=P.arc m
  rw [e1,show P.n - (P.n - m)=m by omega]
 exact ⟨⟨c.c.rot,c.b,by rw [e];exact c.a⟩,e⟩
theorem Cut.wall {P:Poly} (hP:SimpleP P) {m:Nat} (c:Cut P m) {k:Nat} (h1:m≤k) (h2:k < P.n) {s t K:Int} (hs:0 < s) (ht:0 < t) (e:s + t=K) (hin:Inn (P.arc m) K (padd (smul s (P.v k)) (smul t (P.v (k + 1))))):False:=by
 have hm2:=c.c.m2
 have hmn:=c.c.mn
 have hK:0 < K:=by omega
 have hSB:=c.simB hP
 obtain ⟨M,-,hg⟩:=(hM_gen hP).get
 have hgB:Gen (hM M) (partB P m):=(hg.rot m).arc (by show P.n - m < P.n;omega)
 have b0:(partB P m).v (k - m)=P.v k:=by rw [B_v (by omega) (by omega),show m + (k - m)=k by omega]
 have b1:(partB P m).v (k - m + 1)=P.v (k + 1):=by rw [B_v (by omega) (by omega),show m + (k - m + 1)=k + 1 by omega]
 have hab:P.v k≠P.v (k + 1):=hP.ne k
 have hN:=sq_pos hab
 have lB:=wall_sides hSB hgB (left_of_area hSB hgB c.b) (k:=k - m) (by show k - m < P.n - m + 1;omega) hs ht e (x:=padd (smul s (P.v k)) (smul t (P.v (k + 1)))) (by rw [b0,b1]) (d:=rotP (psub (P.v (k + 1)) (P.v k)))
 obtain ⟨L,hL,gB,gA⟩:=(lB.and (near hin.1 (rotP (psub (P.v (k + 1)) (P.v k))))).get
 rw [b0,b1] at gB
 have tB:0 < turnZ (P.v k) (P.v (k + 1)) (padd (P.v k) (rotP (psub (P.v (k + 1)) (P.v k)))):=by
  have:turnZ (P.v k) (P.v (k + 1)) (padd (P.v k) (rotP (psub (P.v (k + 1)) (P.v k))))=((P.v (k + 1)).1 - (P.v k).1) * ((P.v (k + 1)).1 - (P.v k).1) + ((P.v (k + 1)).2 - (P.v k).2) * ((P.v (k + 1)).2 - (P.v k).2):=by unfold turnZ padd rotP psub;grind
  omega
 obtain ⟨wB,oB⟩:=gB.1 tB
 obtain ⟨oA,wA⟩:=gA
 have wA:=wA ((hM M).sc K)
 rw [hin.w (g:=(hM M).sc K) (.inl (show (1:Int)≠0 by decide)),sc_sc] at wA
 have sum:=cut_sum ((hM M).sc (L * K)) P (L * K) (show m≤P.n by omega) (padd (smul L (padd (smul s (P.v k)) (smul t (P.v (k + 1))))) (rotP (psub (P.v (k + 1)) (P.v k))))
 rw [wA,wB] at sum
 have:=wnd_zero_oneK hP c.area (pp hL hK) (h:=(hM M).sc (L * K)) (.inl (show (1:Int)≠0 by decide)) (P_walls (m:=m) (by omega) (Q:=fun a b=>Off _ (smul (L * K) a) (smul (L * K) b)) oA oB)
 omega
theorem Cut.corner {P:Poly} (hP:SimpleP P) {m:Nat} (c:Cut P m) {j:Nat} (h1:m < j) (h2:j < P.n):Outp (P.arc m) 1 (P.v j):=by
 have hm2:=c.c.m2
 have hmn:=c.c.mn
 have ho:OffP (P.arc m) 1 (P.v j):=A_walls (Q:=fun a b=>Off (P.v j) (smul 1 a) (smul 1 b)) |>.2 ⟨fun k hk=>by
  rw [smul_one,smul_one]
  exact hP.offI (by omega) h2 (by omega) (by omega) (by omega),by rw [smul_one,smul_one];exact (c.c.off j (by omega) h2 (by omega)).swap⟩
 rcases out_or_in (c.simA hP) c.a (by decide) ho with g|g
 ·exact g
 ·exfalso
  obtain ⟨L,hL,⟨gA,wA⟩,h2L⟩:=((near ho (psub (P.v (j + 1)) (P.v j))).and (Late.ge 2)).get
  refine c.wall hP (k:=j) (by omega) h2 (s:=L - 1) (t:=1) (K:=L * 1) (by omega) (by decide) (by omega) ?_
  have e:padd (smul (L - 1) (P.v j)) (smul 1 (P.v (j + 1)))=padd (smul L (P.v j)) (psub (P.v (j + 1)) (P.v j)):=by
   unfold padd smul psub
   refine Prod.ext ?_ ?_ <;> simp only <;> grind
  rw [e]
  exact ⟨gA,up.sc L,nc_up,by rw [wA up];exact g.w nc_up⟩
theorem cut_of_far {P:Poly} (hP:SimpleP P) (ha:0 < P.area) {m:Nat} (c:Chord P m) (hA:0 < (P.arc m).area) {k:Nat} (h1:m≤k) (h2:k < P.n) {f:Aff} (hf:∀ j,j≤m→0≤f.ev (P.v j)) (hneg:f.ev (P.v (k + 1)) < 0):Cut P m:=by
 have hm2:=c.m2
 have hmn:=c.mn
 refine ⟨c,hA,?_⟩
 have hSB:SimpleP (partB P m):=(hP.rot m).arc c.rot
 obtain ⟨M,-,hg⟩:=(hM_gen hP).get
 have hgB:Gen (hM M) (partB P m):=(hg.rot m).arc (by show P.n - m < P.n;omega)
 obtain ⟨l2,hB,a2⟩:=left_ex hSB hgB
 have b0:(partB P m).v (k - m)=P.v k:=by rw [B_v (by omega) (by omega),show m + (k - m)=k by omega]
 have b1:(partB P m).v (k - m + 1)=P.v (k + 1):=by rw [B_v (by omega) (by omega),show m + (k - m + 1)=k + 1 by omega]
 have hN:=sq_pos (hP.ne k)
 obtain ⟨t,ht,htf⟩:∃ t:Int,0 < t∧f.ev (P.v k) + t * f.ev (P.v (k + 1)) < 0:=by
  refine ⟨(f.ev (P.v k)).natAbs + 1,by omega,?_⟩
  have:=Int.mul_le_mul_of_nonneg_left (show f.ev (P.v (k + 1))≤-1 by omega) (show 0≤((f.ev (P.v k)).natAbs:Int) + 1 by omega)
  omega
 obtain ⟨d,hd⟩:∃ d,d=rotP (psub (P.v (k + 1)) (P.v k)):=⟨_,rfl⟩
 obtain ⟨x,hx⟩:∃ x,x=padd (smul 1 (P.v k)) (smul t (P.v (k + 1))):=⟨_,rfl⟩
 have lB:=wall_sides hSB hgB hB (k:=k - m) (by show k - m < P.n - m + 1;omega) (s:=1) (by decide) ht rfl (x:=x) (by rw [b0,b1];exact hx) (d:=d)
 have lP:=wall_sides hP hg (left_of_area hP hg ha) (k:=k) h2 (s:=1) (by decide) ht rfl (x:=x) hx (d:=d)
 obtain ⟨L,hL,⟨gB,gP⟩,hbig⟩:=((lB.and lP).and (Late.ge (f.lin d + 1))).get
 rw [b0,b1] at gB
 have tB:0 < turnZ (P.v k) (P.v (k + 1)) (padd (P.v k) d):=by
  have:turnZ (P.v k) (P.v (k + 1)) (padd (P.v k) d)=((P.v (k + 1)).1 - (P.v k).1) * ((P.v (k + 1)).1 - (P.v k).1) + ((P.v (k + 1)).2 - (P.v k).2) * ((P.v (k + 1)).2 - (P.v k).2):=by rw [hd];unfold turnZ padd rotP psub;grind
  omega
 have wB:=(gB.1 tB).1
 have wP:=(gP.1 tB).1
 have hLK:0 < L * (1 + t):=pp hL (by omega)
 have wA:wnd ((hM M).sc (L * (1 + t))) ((P.arc m).sc (L * (1 + t))).way (padd (smul L x) d)=0:=by
  refine wnd_out _ (f.sc (L * (1 + t))) fun j hj=>?_
  have hj:j < m + 1:=hj
  show (f.sc (L * (1 + t))).ev (padd (smul L x) d) < (f.sc (L * (1 + t))).ev (smul (L * (1 + t)) ((P.arc m).v j))
  rw [arc_v P (by omega),ev_sc0]
  have r:=nn0 (show 0≤L * (1 + t) by omega) (hf j (by omega))
  have e:(f.sc (L * (1 + t))).ev (padd (smul L x) d)=L * (f.ev (P.v k) + t * f.ev (P.v (k + 1))) + f.lin d:=by
   rw [hx];unfold Aff.sc Aff.ev Aff.lin padd smul;grind
  rw [e]
  have:=Int.mul_le_mul_of_nonneg_left (show f.ev (P.v k) + t * f.ev (P.v (k + 1))≤-1 by omega) (show 0≤L by omega)
  omega
 have sum:=cut_sum ((hM M).sc (L * (1 + t))) P (L * (1 + t)) (show m≤P.n by omega) (padd (smul L x) d)
 rw [wA,wB,wP] at sum
 exact a2 (by omega)
def EarP (P:Poly) (a b c:Pt):Prop:=0 < turnZ a b c∧∀ j,P.v j≠a→P.v j≠b→P.v j≠c→¬ (0≤turnZ a b (P.v j)∧0≤turnZ b c (P.v j)∧0≤turnZ c a (P.v j))
def EarI (P:Poly) (k:Nat):Prop:=EarP P (P.v k) (P.v (k + 1)) (P.v (k + 2))
theorem tri_closed {Q:Poly} (hQ:SimpleP Q) (hn:Q.n=3) (ht:0 < turnZ (Q.v 0) (Q.v 1) (Q.v 2)) {p:Pt} (h0:0≤turnZ (Q.v 0) (Q.v 1) p) (h1:0≤turnZ (Q.v 1) (Q.v 2) p) (h2:0≤turnZ (Q.v 2) (Q.v 0) p):¬ Outp Q 1 p:=by
 have c3:∀ j,Q.v (j + 3)=Q.v j:=fun j=>by rw [← hn,Q.per]
 have:=star hQ (fun j=>by rw [tri_turns hn];omega) (by rw [tri_area' hn];exact ht) (p:=p) (fun k hk=>by
  rcases (show k=0∨k=1∨k=2 by omega) with q|q|q <;> subst q
  ·exact h0
  ·exact h1
  ·rw [c3 0];exact h2) (corner_not_out Q 0 (by omega))
 have:=this 1 0 (by decide) (by decide) (by decide)
 rwa [show padd (smul 1 p) (smul 0 (Q.v 0))=p by unfold padd smul;simp,show (1:Int) + 0=1 from rfl] at this
theorem ear_cut {P:Poly} (hP:SimpleP P) (ha:0 < P.area) (h4:4≤P.n) (he:EarI P 0):Cut P 2:=by
 have ht:0 < turnZ (P.v 0) (P.v 1) (P.v 2):=he.1
 have hno:=he.2
 have hin:∀ j,¬ InT P j:=fun j ⟨g1,g2,gA,gB,gC⟩=>hno j (hP.inj g2 (by omega) (by omega)) (hP.inj g2 (by omega) (by omega)) (hP.inj g2 (by omega) (by omega)) ⟨gB,gA,gC⟩
 have c:=chord_tri hP h4 ht hin
 have hA:0 < (P.arc 2).area:=by
  rw [tri_area' (show (P.arc 2).n=3 from rfl),arc_v P (by omega),arc_v P (by omega),arc_v P (by omega)];exact ht
 have h3:=hin 3
 have vals:=tri_vals P
 have key:∀ (f:Aff),(∀ j,j≤2→0≤f.ev (P.v j))→f.ev (P.v 3) < 0→Cut P 2:=fun f g1 g2=>cut_of_far hP ha c hA (k:=2) (by omega) (by omega) g1 g2
 have small:∀ (Q:Nat→Prop),Q 0→Q 1→Q 2→∀ j,j≤2→Q j:=fun Q q0 q1 q2 j hj=>by
  rcases (show j=0∨j=1∨j=2 by omega) with q|q|q <;> subst q <;> assumption
 have t00:∀ a b:Pt,turnZ a b a=0:=fun a b=>by unfold turnZ;grind
 have t01:∀ a b:Pt,turnZ a b b=0:=fun a b=>by unfold turnZ;grind
 have r1:turnZ (P.v 1) (P.v 2) (P.v 0)=turnZ (P.v 0) (P.v 1) (P.v 2):=by unfold turnZ;grind
 have r2:turnZ (P.v 2) (P.v 0) (P.v 1)=turnZ (P.v 0) (P.v 1) (P.v 2):=by unfold turnZ;grind
 by_cases gA:0≤tA P (P.v 3)
 ·by_cases gB:0≤tB P (P.v 3)
  ·by_cases gC:0≤tC P (P.v 3)
   ·exact absurd ⟨by omega,by omega,gA,gB,gC⟩ h3
   ·refine key (Aff.turn (P.v 2) (P.v 0)) (small _ ?_ ?_ ?_) (by rw [ev_turn];exact Int.not_le.1 gC) <;> rw [ev_turn]
    ·rw [t01];exact Int.le_refl _
    ·rw [r2];omega
    ·rw [t00];exact Int.le_refl _
  ·refine key (Aff.turn (P.v 0) (P.v 1)) (small _ ?_ ?_ ?_) (by rw [ev_turn];exact Int.not_le.1 gB) <;> rw [ev_turn]
   ·rw [t00];exact Int.le_refl _
   ·rw [t01];exact Int.le_refl _
   ·omega
 ·refine key (Aff.turn (P.v 1) (P.v 2)) (small _ ?_ ?_ ?_) (by rw [ev_turn];exact Int.not_le.1 gA) <;> rw [ev_turn]
  ·rw [r1];omega
  ·rw [t00];exact Int.le_refl _
  ·rw [t01];exact Int.le_refl _
theorem EarI.rot {P:Poly} (g:0 < P.n) {s k:Nat}:EarI (P.rot s) k↔EarI P (s + k):=by
 unfold EarI EarP
 have e:∀ j,(P.rot s).v j=P.v (s + j):=fun _=>rfl
 simp only [e,← Nat.add_assoc]
 refine and_congr_right fun _=>⟨fun h j=>?_,fun h j=>h (s + j)⟩
 have hle:s≤P.n * (s + 1):=by
  have:1 * (s + 1)≤P.n * (s + 1):=Nat.mul_le_mul_right _ g
  omega
 have:=h (j + P.n * (s + 1) - s)
 rwa [show s + (j + P.n * (s + 1) - s)=j + P.n * (s + 1) by omega,P.per_mul] at this
theorem ear_lift {P:Poly} (hP:SimpleP P) {m:Nat} (c:Cut P m) {i:Nat} (hi:i + 2≤m) (he:EarP (P.arc m) (P.v i) (P.v (i + 1)) (P.v (i + 2))):EarI P i:=by
 have hm2:=c.c.m2
 have hmn:=c.c.mn
 refine ⟨he.1,fun j n0 n1 n2 hb=>?_⟩
 have hj:j % P.n < P.n:=Nat.mod_lt _ (by omega)
 rw [← P.per_mod j] at n0 n1 n2 hb
 generalize j % P.n=r at hj n0 n1 n2 hb
 rcases (show r≤m∨m < r by omega) with g|g
 ·refine he.2 r ?_ ?_ ?_ ?_ <;> rw [arc_v P g] <;> assumption
 ·have ho:=c.corner hP g hj
  have hA:=c.simA hP
  have tr:∀ {Q:Poly},SimpleP Q→Q.n=3→Q.v 0=P.v i→Q.v 1=P.v (i + 1)→Q.v 2=P.v (i + 2)→¬ Outp Q 1 (P.v r):=fun hQ h3 e0 e1 e2=>by
   refine tri_closed hQ h3 ?_ ?_ ?_ ?_ <;> (try rw [e0]) <;> (try rw [e1]) <;> (try rw [e2]) <;> first|exact he.1|exact hb.1|exact hb.2.1|exact hb.2.2
  rcases (show m=2∨3≤m by omega) with q|q
  ·subst q
   have:i=0:=by omega
   subst this
   exact tr hA rfl (arc_v P (by omega)) (arc_v P (by omega)) (arc_v P (by omega)) ho
  ·-- the ear cut off from the part
   have hR:SimpleP ((P.arc m).rot i):=hA.rot i
   have hv:∀ d,d≤2→((P.arc m).rot i).v d=P.v (i + d):=fun d hd=>arc_v P (by omega)
   have hE:EarI ((P.arc m).rot i) 0:=(EarI.rot (by show 0 < m + 1;omega)).2 (by
    show EarP (P.arc m) ((P.arc m).v (i + 0)) ((P.arc m).v (i + 0 + 1)) ((P.arc m).v (i + 0 + 2))
    rw [arc_v P (by omega),arc_v P (by omega),arc_v P (by omega)];exact he)
   have c2:=ear_cut hR (by rw [area_rot];exact c.a) (by show 4≤m + 1;omega) hE
   refine tr (c2.simA hR) rfl ?_ ?_ ?_ (c2.out_both hR (by decide) (ho.rot i)).1
   ·rw [arc_v _ (by omega)];exact hv 0 (by omega)
   ·rw [arc_v _ (by omega)];exact hv 1 (by omega)
   ·rw [arc_v _ (by omega)];exact hv 2 (by omega)
def TwoEars (P:Poly):Prop:=∃ s d,2≤d∧d + 2≤P.n∧EarI P s∧EarI P (s + d)
theorem side_ear {P:Poly} (hP:SimpleP P) {m:Nat} (c:Cut P m) (ih:4≤m + 1→TwoEars (P.arc m)):∃ i,i + 2≤m∧EarI P i:=by
 have hm2:=c.c.m2
 have hmn:=c.c.mn
 rcases (show m=2∨3≤m by omega) with q|q
 ·subst q
  refine ⟨0,by omega,ear_lift hP c (by omega) ⟨?_,fun j n0 n1 n2 _=>?_⟩⟩
  ·have:=c.a
   rwa [tri_area' (show (P.arc 2).n=3 from rfl),arc_v P (by omega),arc_v P (by omega),arc_v P (by omega)] at this
  ·have hj:j % 3 < 3:=Nat.mod_lt _ (by omega)
   have e:(P.arc 2).v j=(P.arc 2).v (j % 3):=((P.arc 2).per_mod j).symm
   rw [e,arc_v P (by omega)] at n0 n1 n2
   rcases (show j % 3=0∨j % 3=1∨j % 3=2 by omega) with g|g|g <;> rw [g] at n0 n1 n2
   ·exact n0 rfl
   ·exact n1 rfl
   ·exact n2 rfl
 ·obtain ⟨s,d,d2,dn,e1,e2⟩:=ih (by omega)
  have dn:d + 2≤m + 1:=dn
  have mk:∀ t,EarI (P.arc m) t→(t % (m + 1)) + 2≤m→∃ i,i + 2≤m∧EarI P i:=fun t ht h=>by
   refine ⟨t % (m + 1),h,ear_lift hP c h ?_⟩
   have per:∀ x,(P.arc m).v (t + x)=P.v (t % (m + 1) + x)∨2 < x:=fun x=>by
    rcases (show x≤2∨2 < x by omega) with g|g
    ·left
     rw [← arc_v P (show t % (m + 1) + x≤m by omega)]
     exact ((P.arc m).per_add t x).symm
    ·exact .inr g
   have p0:=(per 0).resolve_right (by omega)
   have p1:=(per 1).resolve_right (by omega)
   have p2:=(per 2).resolve_right (by omega)
   unfold EarI at ht
   rw [p1,p2,show (P.arc m).v t=P.v (t % (m + 1)) from p0] at ht
   exact ht
  have hs:s % (m + 1) < m + 1:=Nat.mod_lt _ (by omega)
  have hd:(s + d) % (m + 1) < m + 1:=Nat.mod_lt _ (by omega)
  rcases (show s % (m + 1) + 2≤m∨s % (m + 1)=m∨s % (m + 1)=m - 1 by omega) with g|g|g
  ·exact mk s e1 g
  all_goals
   refine mk (s + d) e2 ?_
   have:(s + d) % (m + 1)=(s % (m + 1) + d) % (m + 1):=by rw [Nat.mod_add_mod]
   rw [this,g]
   rw [Nat.mod_eq_sub_mod (by omega),Nat.mod_eq_of_lt (by omega)]
   omega
theorem two_ears:∀ (n:Nat) (P:Poly),P.n=n→4≤n→SimpleP P→0 < P.area→TwoEars P:=fun n=>by
 induction n using Nat.strongRecOn with
 | ind n ih=>
  intro P hn h4 hP ha
  obtain ⟨M,-,hg⟩:=(hM_gen hP).get
  obtain ⟨s,m,c0,p1,p2⟩:=exists_cut hP hg ((pos_iff hP hg).2 ha) (by omega)
  have c:Cut (P.rot s) m:=⟨c0,area_pos ((hP.rot s).arc c0) ((hg.rot s).arc (show m < P.n from by have:m + 2≤P.n:=c0.mn;omega)) p1,area_pos (((hP.rot s).rot m).arc c0.rot) (((hg.rot s).rot m).arc (by have:=c0.m2;have:m + 2≤P.n:=c0.mn;show P.n - m < P.n;omega)) p2⟩
  have hm2:=c.c.m2
  have hmn:=c.c.mn
  have hR:=hP.rot s
  have hnR:(P.rot s).n=n:=hn
  obtain ⟨i,hi,ei⟩:=side_ear hR c fun h=>ih (m + 1) (by omega) ((P.rot s).arc m) rfl h (c.simA hR) c.a
  obtain ⟨c',e'⟩:=c.rot
  have hR':=hR.rot m
  obtain ⟨k,hk,ek⟩:=side_ear hR' c' fun h=>ih ((P.rot s).n - m + 1) (by omega) _ rfl h (c.simB hR) c.b
  refine ⟨s + i,m + k - i,by omega,by omega,(EarI.rot (by omega)).1 ei,?_⟩
  rw [show s + i + (m + k - i)=s + (m + k) by omega]
  exact (EarI.rot (by omega)).1 ((EarI.rot (by omega)).1 ek)
end Go.Proofs.Ytnepfcnlngpchaa.Geo
namespace Go.Proofs.Ytnepfcnlngpchaa
open Go.RowKit Go.Proofs.Ytnepfcnlngpchaa.Nm
set_option maxRecDepth 10000
def vI (n:Int):RV:=.val (.one (.d (.int .i64 n)))
def vB (b:Bool):RV:=.val (.one (.d (.bool b)))
def btwC:Con:=mkCon [.int,.int,.int] (fun _=>True) fun x=>vB (btw x.1 x.2.1 x.2.2.1)
theorem _root_.Go.Proofs.Ytnepfcnlngpchaa.vS1:type_of% (And.intro @cond_true.{1} (And.intro @cond_false.{1} (And.intro @decide_eq_true_eq (And.intro @decide_eq_false_iff_not (And.intro @Bool.not_eq_true' (And.intro @Bool.not_eq_false' (And.intro @Int.toNat_natCast @prodEta))))))):=⟨cond_true,cond_false,decide_eq_true_eq,decide_eq_false_iff_not,Bool.not_eq_true',Bool.not_eq_false',Int.toNat_natCast,prodEta⟩
theorem between_ok:Good1 Try.prog n_impl_between btwC:=by
 refine good_of (tys:=tyL) (env:=[]) [] [] mixed tys trivial Try.func79 rfl (by kernel_rfl) (by decide) (by kernel_rfl) ?_
 rintro ⟨x,lo,hi,⟨⟩⟩ _
 (repeat' (first|(with_reducible first|exact True.intro|refine zQ ?_|(refine zG hG_ ?_;intro K_ hK_)|(refine zR ?_;intro K_ hK_)|(refine hK_ _ _ ?_;try clear hK_ K_)|refine sq_n ?_|refine sq_r ?_|refine sq_e ?_|refine bq_n ?_|refine bq_r ?_|refine bq_q ?_|refine zB ?_|refine zX ?_|refine zT ?_|refine zK ?_|refine gq_n ?_|refine gq_r ?_|refine gq_e ?_|refine lq_n ?_|refine lq_r ?_|refine lq_e ?_|refine bq_e (by decide) ?_)|((with_reducible refine zC (b:=?b_) ?hb_ ?_ ?_);case hb_=>rfl)|((conv=>whnf);first|(with_reducible refine hK_ _ _ ?_;try clear hK_ K_)|(with_reducible refine fun (g_:Sl) (o_:Ow)=>?_)|(with_reducible first|exact True.intro|refine And.intro trivial ?_|refine And.intro ?_ ?_)|exact Nat.le_of_ble_eq_true rfl|exact Or.inl rfl|(intro h_;cases h_)|(intro h_;(try simp only [vS1] at h_))|rfl))) <;> (try (conv=>whnf)) <;> (try first|change (_:Int)≤_|change (_:Nat)≤_) <;> simp_all [btw] <;> omega
theorem l01In_ok:Good1 Try.prog n_spec_l01In btwC:=by
 refine good_of (tys:=tyL) (env:=[]) [] [] mixed tys trivial Try.func128 rfl (by kernel_rfl) (by decide) (by kernel_rfl) ?_
 rintro ⟨x,lo,hi,⟨⟩⟩ _
 (repeat' (first|(with_reducible first|exact True.intro|refine zQ ?_|(refine zG hG_ ?_;intro K_ hK_)|(refine zR ?_;intro K_ hK_)|(refine hK_ _ _ ?_;try clear hK_ K_)|refine sq_n ?_|refine sq_r ?_|refine sq_e ?_|refine bq_n ?_|refine bq_r ?_|refine bq_q ?_|refine zB ?_|refine zX ?_|refine zT ?_|refine zK ?_|refine gq_n ?_|refine gq_r ?_|refine gq_e ?_|refine lq_n ?_|refine lq_r ?_|refine lq_e ?_|refine bq_e (by decide) ?_)|((with_reducible refine zC (b:=?b_) ?hb_ ?_ ?_);case hb_=>rfl)|((conv=>whnf);first|(with_reducible refine hK_ _ _ ?_;try clear hK_ K_)|(with_reducible refine fun (g_:Sl) (o_:Ow)=>?_)|(with_reducible first|exact True.intro|refine And.intro trivial ?_|refine And.intro ?_ ?_)|exact Nat.le_of_ble_eq_true rfl|exact Or.inl rfl|(intro h_;cases h_)|(intro h_;(try simp only [vS1] at h_))|rfl))) <;> (try (conv=>whnf)) <;> (try first|change (_:Int)≤_|change (_:Nat)≤_) <;> simp_all [btw] <;> omega
def ptOkC:Con:=mkCon [.pt] (fun _=>True) fun x=>vB (ptOk x.1)
theorem iPointOk_ok:Good1 Try.prog n_impl_PointOk ptOkC:=by
 refine good_of (tys:=tyL) (env:=[(n_impl_between,btwC)]) [] [] mixed tys ⟨between_ok,trivial⟩ Try.func86 rfl (by kernel_rfl) (by decide) (by kernel_rfl) ?_
 rintro ⟨⟨x,y⟩,⟨⟩⟩ _
 (repeat' (first|(with_reducible first|exact True.intro|refine zQ ?_|(refine zG hG_ ?_;intro K_ hK_)|(refine zR ?_;intro K_ hK_)|(refine hK_ _ _ ?_;try clear hK_ K_)|refine sq_n ?_|refine sq_r ?_|refine sq_e ?_|refine bq_n ?_|refine bq_r ?_|refine bq_q ?_|refine zB ?_|refine zX ?_|refine zT ?_|refine zK ?_|refine gq_n ?_|refine gq_r ?_|refine gq_e ?_|refine lq_n ?_|refine lq_r ?_|refine lq_e ?_|refine bq_e (by decide) ?_)|((with_reducible refine zC (b:=?b_) ?hb_ ?_ ?_);case hb_=>rfl)|((conv=>whnf);first|(with_reducible refine hK_ _ _ ?_;try clear hK_ K_)|(with_reducible refine fun (g_:Sl) (o_:Ow)=>?_)|(with_reducible first|exact True.intro|refine And.intro trivial ?_|refine And.intro ?_ ?_)|exact Nat.le_of_ble_eq_true rfl|exact Or.inl rfl|(intro h_;cases h_)|(intro h_;(try simp only [vS1] at h_))|rfl))) <;> (try (conv=>whnf)) <;> (try first|change (_:Int)≤_|change (_:Nat)≤_) <;> simp_all [ptOk]
theorem sPointOk_ok:Good1 Try.prog n_spec_PointOk ptOkC:=by
 refine good_of (tys:=tyL) (env:=[(n_spec_l01In,btwC)]) [] [] mixed tys ⟨l01In_ok,trivial⟩ Try.func129 rfl (by kernel_rfl) (by decide) (by kernel_rfl) ?_
 rintro ⟨⟨x,y⟩,⟨⟩⟩ _
 (repeat' (first|(with_reducible first|exact True.intro|refine zQ ?_|(refine zG hG_ ?_;intro K_ hK_)|(refine zR ?_;intro K_ hK_)|(refine hK_ _ _ ?_;try clear hK_ K_)|refine sq_n ?_|refine sq_r ?_|refine sq_e ?_|refine bq_n ?_|refine bq_r ?_|refine bq_q ?_|refine zB ?_|refine zX ?_|refine zT ?_|refine zK ?_|refine gq_n ?_|refine gq_r ?_|refine gq_e ?_|refine lq_n ?_|refine lq_r ?_|refine lq_e ?_|refine bq_e (by decide) ?_)|((with_reducible refine zC (b:=?b_) ?hb_ ?_ ?_);case hb_=>rfl)|((conv=>whnf);first|(with_reducible refine hK_ _ _ ?_;try clear hK_ K_)|(with_reducible refine fun (g_:Sl) (o_:Ow)=>?_)|(with_reducible first|exact True.intro|refine And.intro trivial ?_|refine And.intro ?_ ?_)|exact Nat.le_of_ble_eq_true rfl|exact Or.inl rfl|(intro h_;cases h_)|(intro h_;(try simp only [vS1] at h_))|rfl))) <;> (try (conv=>whnf)) <;> (try first|change (_:Int)≤_|change (_:Nat)≤_) <;> simp_all [ptOk]
def turnC:Con:=mkCon [.pt,.pt,.pt] (fun _=>True) fun x=>vI (turn x.1 x.2.1 x.2.2.1)
theorem turn_ok:Good1 Try.prog n_impl_turn turnC:=by
 refine good_of (tys:=tyL) (env:=[]) [] [] mixed tys trivial Try.func72 rfl (by kernel_rfl) (by decide) (by kernel_rfl) ?_
 rintro ⟨⟨a,b⟩,⟨c,d⟩,⟨e,f⟩,⟨⟩⟩ _
 (repeat' (first|(with_reducible first|exact True.intro|refine zQ ?_|(refine zG hG_ ?_;intro K_ hK_)|(refine zR ?_;intro K_ hK_)|(refine hK_ _ _ ?_;try clear hK_ K_)|refine sq_n ?_|refine sq_r ?_|refine sq_e ?_|refine bq_n ?_|refine bq_r ?_|refine bq_q ?_|refine zB ?_|refine zX ?_|refine zT ?_|refine zK ?_|refine gq_n ?_|refine gq_r ?_|refine gq_e ?_|refine lq_n ?_|refine lq_r ?_|refine lq_e ?_|refine bq_e (by decide) ?_)|((with_reducible refine zC (b:=?b_) ?hb_ ?_ ?_);case hb_=>rfl)|((conv=>whnf);first|(with_reducible refine hK_ _ _ ?_;try clear hK_ K_)|(with_reducible refine fun (g_:Sl) (o_:Ow)=>?_)|(with_reducible first|exact True.intro|refine And.intro trivial ?_|refine And.intro ?_ ?_)|exact Nat.le_of_ble_eq_true rfl|exact Or.inl rfl|(intro h_;cases h_)|(intro h_;(try simp only [vS1] at h_))|rfl))) <;> (try (conv=>whnf)) <;> (try first|change (_:Int)≤_|change (_:Nat)≤_)
 simp only [turn];simp only [W_l1,W_l2,W_l3,W_l4,W_m1,W_m2,W_w]
theorem l02Turn_ok:Good1 Try.prog n_spec_l02Turn turnC:=by
 refine good_of (tys:=tyL) (env:=[]) [] [] mixed tys trivial Try.func130 rfl (by kernel_rfl) (by decide) (by kernel_rfl) ?_
 rintro ⟨⟨a,b⟩,⟨c,d⟩,⟨e,f⟩,⟨⟩⟩ _
 (repeat' (first|(with_reducible first|exact True.intro|refine zQ ?_|(refine zG hG_ ?_;intro K_ hK_)|(refine zR ?_;intro K_ hK_)|(refine hK_ _ _ ?_;try clear hK_ K_)|refine sq_n ?_|refine sq_r ?_|refine sq_e ?_|refine bq_n ?_|refine bq_r ?_|refine bq_q ?_|refine zB ?_|refine zX ?_|refine zT ?_|refine zK ?_|refine gq_n ?_|refine gq_r ?_|refine gq_e ?_|refine lq_n ?_|refine lq_r ?_|refine lq_e ?_|refine bq_e (by decide) ?_)|((with_reducible refine zC (b:=?b_) ?hb_ ?_ ?_);case hb_=>rfl)|((conv=>whnf);first|(with_reducible refine hK_ _ _ ?_;try clear hK_ K_)|(with_reducible refine fun (g_:Sl) (o_:Ow)=>?_)|(with_reducible first|exact True.intro|refine And.intro trivial ?_|refine And.intro ?_ ?_)|exact Nat.le_of_ble_eq_true rfl|exact Or.inl rfl|(intro h_;cases h_)|(intro h_;(try simp only [vS1] at h_))|rfl))) <;> (try (conv=>whnf)) <;> (try first|change (_:Int)≤_|change (_:Nat)≤_)
 simp only [turn];simp only [W_l1,W_l2,W_l3,W_l4,W_m1,W_m2,W_w]
def onC:Con:=mkCon [.pt,.pt,.pt] (fun _=>True) fun x=>vB (onS x.1 x.2.1 x.2.2.1)
theorem on_ok:Good1 Try.prog n_impl_on onC:=by
 refine good_of (tys:=tyL) (env:=[(n_impl_turn,turnC),(n_impl_between,btwC)]) [] [] mixed tys ⟨turn_ok,between_ok,trivial⟩ Try.func119 rfl (by kernel_rfl) (by decide) (by kernel_rfl) ?_
 rintro ⟨⟨a,b⟩,⟨c,d⟩,⟨e,f⟩,⟨⟩⟩ _
 (repeat' (first|(with_reducible first|exact True.intro|refine zQ ?_|(refine zG hG_ ?_;intro K_ hK_)|(refine zR ?_;intro K_ hK_)|(refine hK_ _ _ ?_;try clear hK_ K_)|refine sq_n ?_|refine sq_r ?_|refine sq_e ?_|refine bq_n ?_|refine bq_r ?_|refine bq_q ?_|refine zB ?_|refine zX ?_|refine zT ?_|refine zK ?_|refine gq_n ?_|refine gq_r ?_|refine gq_e ?_|refine lq_n ?_|refine lq_r ?_|refine lq_e ?_|refine bq_e (by decide) ?_)|((with_reducible refine zC (b:=?b_) ?hb_ ?_ ?_);case hb_=>rfl)|((conv=>whnf);first|(with_reducible refine hK_ _ _ ?_;try clear hK_ K_)|(with_reducible refine fun (g_:Sl) (o_:Ow)=>?_)|(with_reducible first|exact True.intro|refine And.intro trivial ?_|refine And.intro ?_ ?_)|exact Nat.le_of_ble_eq_true rfl|exact Or.inl rfl|(intro h_;cases h_)|(intro h_;(try simp only [vS1] at h_))|rfl))) <;> (try (conv=>whnf)) <;> (try first|change (_:Int)≤_|change (_:Nat)≤_) <;> simp_all [onS]
theorem l02Between_ok:Good1 Try.prog n_spec_l02Between onC:=by
 refine good_of (tys:=tyL) (env:=[(n_spec_l02Turn,turnC),(n_spec_l01In,btwC)]) [] [] mixed tys ⟨l02Turn_ok,l01In_ok,trivial⟩ Try.func161 rfl (by kernel_rfl) (by decide) (by kernel_rfl) ?_
 rintro ⟨⟨a,b⟩,⟨c,d⟩,⟨e,f⟩,⟨⟩⟩ _
 (repeat' (first|(with_reducible first|exact True.intro|refine zQ ?_|(refine zG hG_ ?_;intro K_ hK_)|(refine zR ?_;intro K_ hK_)|(refine hK_ _ _ ?_;try clear hK_ K_)|refine sq_n ?_|refine sq_r ?_|refine sq_e ?_|refine bq_n ?_|refine bq_r ?_|refine bq_q ?_|refine zB ?_|refine zX ?_|refine zT ?_|refine zK ?_|refine gq_n ?_|refine gq_r ?_|refine gq_e ?_|refine lq_n ?_|refine lq_r ?_|refine lq_e ?_|refine bq_e (by decide) ?_)|((with_reducible refine zC (b:=?b_) ?hb_ ?_ ?_);case hb_=>rfl)|((conv=>whnf);first|(with_reducible refine hK_ _ _ ?_;try clear hK_ K_)|(with_reducible refine fun (g_:Sl) (o_:Ow)=>?_)|(with_reducible first|exact True.intro|refine And.intro trivial ?_|refine And.intro ?_ ?_)|exact Nat.le_of_ble_eq_true rfl|exact Or.inl rfl|(intro h_;cases h_)|(intro h_;(try simp only [vS1] at h_))|rfl))) <;> (try (conv=>whnf)) <;> (try first|change (_:Int)≤_|change (_:Nat)≤_) <;> simp_all [onS]
def pointsOkC:Con:=mkCon [.sl (.b .pt)] (fun x=>x.1.length≤1073741824) fun x=>vB (x.1.all ptOk)
theorem pointsOk_ok:Good1 Try.prog n_impl_pointsOk pointsOkC:=by
 refine good_of (tys:=tyL) (env:=[(n_impl_PointOk,ptOkC)]) [] [] mixed tys ⟨iPointOk_ok,trivial⟩ Try.func73 rfl (by kernel_rfl) (by decide) (by kernel_rfl) ?_
 rintro ⟨xs,⟨⟩⟩ hlen
 change xs.length≤_ at hlen
 (repeat' (first|(with_reducible first|exact True.intro|refine zQ ?_|(refine zG hG_ ?_;intro K_ hK_)|(refine zR ?_;intro K_ hK_)|(refine hK_ _ _ ?_;try clear hK_ K_)|refine sq_n ?_|refine sq_r ?_|refine sq_e ?_|refine bq_n ?_|refine bq_r ?_|refine bq_q ?_|refine zB ?_|refine zX ?_|refine zT ?_|refine zK ?_|refine gq_n ?_|refine gq_r ?_|refine gq_e ?_|refine lq_n ?_|refine lq_r ?_|refine lq_e ?_|refine bq_e (by decide) ?_)|((with_reducible refine zC (b:=?b_) ?hb_ ?_ ?_);case hb_=>rfl)|((conv=>whnf);first|(with_reducible refine hK_ _ _ ?_;try clear hK_ K_)|(with_reducible refine fun (g_:Sl) (o_:Ow)=>?_)|(with_reducible first|exact True.intro|refine And.intro trivial ?_|refine And.intro ?_ ?_)|exact Nat.le_of_ble_eq_true rfl|exact Or.inl rfl|(intro h_;cases h_)|(intro h_;(try simp only [vS1] at h_))|rfl))) <;> (try (conv=>whnf)) <;> (try first|change (_:Int)≤_|change (_:Nat)≤_)
 refine awp'_loop (fun k σ=>k≤xs.length∧(xs.take k).all ptOk=true∧Has σ [(5,vPts xs),(6,vInt xs.length),(7,vInt k)]) (fun k=>xs.length - k) 0 ⟨Nat.zero_le _,by simp,?_⟩ ?_
 ·(repeat' (first|(with_reducible first|exact True.intro|refine zQ ?_|(refine zG hG_ ?_;intro K_ hK_)|(refine zR ?_;intro K_ hK_)|(refine hK_ _ _ ?_;try clear hK_ K_)|refine sq_n ?_|refine sq_r ?_|refine sq_e ?_|refine bq_n ?_|refine bq_r ?_|refine bq_q ?_|refine zB ?_|refine zX ?_|refine zT ?_|refine zK ?_|refine gq_n ?_|refine gq_r ?_|refine gq_e ?_|refine lq_n ?_|refine lq_r ?_|refine lq_e ?_|refine bq_e (by decide) ?_)|((with_reducible refine zC (b:=?b_) ?hb_ ?_ ?_);case hb_=>rfl)|((conv=>whnf);first|(with_reducible refine hK_ _ _ ?_;try clear hK_ K_)|(with_reducible refine fun (g_:Sl) (o_:Ow)=>?_)|(with_reducible first|exact True.intro|refine And.intro trivial ?_|refine And.intro ?_ ?_)|exact Nat.le_of_ble_eq_true rfl|exact Or.inl rfl|(intro h_;cases h_)|(intro h_;(try simp only [vS1] at h_))|rfl))) <;> (try (conv=>whnf)) <;> (try first|change (_:Int)≤_|change (_:Nat)≤_)
 rintro k s_ w_ ⟨hk,hall,h⟩
 obtain ⟨g,rfl⟩:=has_ex h
 clear h
 (repeat' (first|(with_reducible first|exact True.intro|refine zQ ?_|(refine zG hG_ ?_;intro K_ hK_)|(refine zR ?_;intro K_ hK_)|(refine hK_ _ _ ?_;try clear hK_ K_)|refine sq_n ?_|refine sq_r ?_|refine sq_e ?_|refine bq_n ?_|refine bq_r ?_|refine bq_q ?_|refine zB ?_|refine zX ?_|refine zT ?_|refine zK ?_|refine gq_n ?_|refine gq_r ?_|refine gq_e ?_|refine lq_n ?_|refine lq_r ?_|refine lq_e ?_|refine bq_e (by decide) ?_)|((with_reducible refine zC (b:=?b_) ?hb_ ?_ ?_);case hb_=>rfl)|((conv=>whnf);first|(with_reducible refine hK_ _ _ ?_;try clear hK_ K_)|(with_reducible refine fun (g_:Sl) (o_:Ow)=>?_)|(with_reducible first|exact True.intro|refine And.intro trivial ?_|refine And.intro ?_ ?_)|exact Nat.le_of_ble_eq_true rfl|exact Or.inl rfl|(intro h_;cases h_)|(intro h_;(try simp only [vS1] at h_))|rfl))) <;> (try (conv=>whnf)) <;> (try first|change (_:Int)≤_|change (_:Nat)≤_) <;> (try ((fail_if_success (with_reducible apply Exists.intro));(try dsimp only);(try simp only [vS1])))
 ·omega
 ·omega
 ·exact (all_no (k:=k) _ (by omega) ‹_›).symm
 ·refine ⟨k + 1,by omega,by omega,?_,?_⟩
  ·rw [all_succ (0,0) (by omega),hall];simpa using ‹_›
  ·rw [← W_nat (by omega)];(repeat' (first|(with_reducible first|exact True.intro|refine zQ ?_|(refine zG hG_ ?_;intro K_ hK_)|(refine zR ?_;intro K_ hK_)|(refine hK_ _ _ ?_;try clear hK_ K_)|refine sq_n ?_|refine sq_r ?_|refine sq_e ?_|refine bq_n ?_|refine bq_r ?_|refine bq_q ?_|refine zB ?_|refine zX ?_|refine zT ?_|refine zK ?_|refine gq_n ?_|refine gq_r ?_|refine gq_e ?_|refine lq_n ?_|refine lq_r ?_|refine lq_e ?_|refine bq_e (by decide) ?_)|((with_reducible refine zC (b:=?b_) ?hb_ ?_ ?_);case hb_=>rfl)|((conv=>whnf);first|(with_reducible refine hK_ _ _ ?_;try clear hK_ K_)|(with_reducible refine fun (g_:Sl) (o_:Ow)=>?_)|(with_reducible first|exact True.intro|refine And.intro trivial ?_|refine And.intro ?_ ?_)|exact Nat.le_of_ble_eq_true rfl|exact Or.inl rfl|(intro h_;cases h_)|(intro h_;(try simp only [vS1] at h_))|rfl))) <;> (try (conv=>whnf)) <;> (try first|change (_:Int)≤_|change (_:Nat)≤_)
 ·exact (take_all (by omega) hall).symm
def wallOkC:Con:=mkCon [.wall] (fun _=>True) fun x=>vB (wallOk x.1)
theorem iWallOk_ok:Good1 Try.prog n_impl_WallOk wallOkC:=by
 refine good_of (tys:=tyL) (env:=[(n_impl_pointsOk,pointsOkC)]) [] [] mixed tys ⟨pointsOk_ok,trivial⟩ Try.func133 rfl (by kernel_rfl) (by decide) (by kernel_rfl) ?_
 rintro ⟨⟨⟨a,b⟩,⟨c,d⟩⟩,⟨⟩⟩ _
 (repeat' (first|(with_reducible first|exact True.intro|refine zQ ?_|(refine zG hG_ ?_;intro K_ hK_)|(refine zR ?_;intro K_ hK_)|(refine hK_ _ _ ?_;try clear hK_ K_)|refine sq_n ?_|refine sq_r ?_|refine sq_e ?_|refine bq_n ?_|refine bq_r ?_|refine bq_q ?_|refine zB ?_|refine zX ?_|refine zT ?_|refine zK ?_|refine gq_n ?_|refine gq_r ?_|refine gq_e ?_|refine lq_n ?_|refine lq_r ?_|refine lq_e ?_|refine bq_e (by decide) ?_)|((with_reducible refine zC (b:=?b_) ?hb_ ?_ ?_);case hb_=>rfl)|((conv=>whnf);first|(with_reducible refine hK_ _ _ ?_;try clear hK_ K_)|(with_reducible refine fun (g_:Sl) (o_:Ow)=>?_)|(with_reducible first|exact True.intro|refine And.intro trivial ?_|refine And.intro ?_ ?_)|exact Nat.le_of_ble_eq_true rfl|exact Or.inl rfl|(intro h_;cases h_)|(intro h_;(try simp only [vS1] at h_))|rfl))) <;> (try (conv=>whnf)) <;> (try first|change (_:Int)≤_|change (_:Nat)≤_) <;> simp_all [wallOk,ptEq]
theorem sWallOk_ok:Good1 Try.prog n_spec_WallOk wallOkC:=by
 refine good_of (tys:=tyL) (env:=[(n_spec_PointOk,ptOkC)]) [] [] mixed tys ⟨sPointOk_ok,trivial⟩ Try.func153 rfl (by kernel_rfl) (by decide) (by kernel_rfl) ?_
 rintro ⟨⟨⟨a,b⟩,⟨c,d⟩⟩,⟨⟩⟩ _
 (repeat' (first|(with_reducible first|exact True.intro|refine zQ ?_|(refine zG hG_ ?_;intro K_ hK_)|(refine zR ?_;intro K_ hK_)|(refine hK_ _ _ ?_;try clear hK_ K_)|refine sq_n ?_|refine sq_r ?_|refine sq_e ?_|refine bq_n ?_|refine bq_r ?_|refine bq_q ?_|refine zB ?_|refine zX ?_|refine zT ?_|refine zK ?_|refine gq_n ?_|refine gq_r ?_|refine gq_e ?_|refine lq_n ?_|refine lq_r ?_|refine lq_e ?_|refine bq_e (by decide) ?_)|((with_reducible refine zC (b:=?b_) ?hb_ ?_ ?_);case hb_=>rfl)|((conv=>whnf);first|(with_reducible refine hK_ _ _ ?_;try clear hK_ K_)|(with_reducible refine fun (g_:Sl) (o_:Ow)=>?_)|(with_reducible first|exact True.intro|refine And.intro trivial ?_|refine And.intro ?_ ?_)|exact Nat.le_of_ble_eq_true rfl|exact Or.inl rfl|(intro h_;cases h_)|(intro h_;(try simp only [vS1] at h_))|rfl))) <;> (try (conv=>whnf)) <;> (try first|change (_:Int)≤_|change (_:Nat)≤_) <;> simp_all [wallOk,ptEq]
def sgnC:Con:=mkCon [.int] (fun _=>True) fun x=>vI (sgn x.1)
theorem sign_ok:Good1 Try.prog n_impl_sign sgnC:=by
 refine good_of (tys:=tyL) (env:=[]) [] [] mixed tys trivial Try.func144 rfl (by kernel_rfl) (by decide) (by kernel_rfl) ?_
 rintro ⟨n,⟨⟩⟩ _
 (repeat' (first|(with_reducible first|exact True.intro|refine zQ ?_|(refine zG hG_ ?_;intro K_ hK_)|(refine zR ?_;intro K_ hK_)|(refine hK_ _ _ ?_;try clear hK_ K_)|refine sq_n ?_|refine sq_r ?_|refine sq_e ?_|refine bq_n ?_|refine bq_r ?_|refine bq_q ?_|refine zB ?_|refine zX ?_|refine zT ?_|refine zK ?_|refine gq_n ?_|refine gq_r ?_|refine gq_e ?_|refine lq_n ?_|refine lq_r ?_|refine lq_e ?_|refine bq_e (by decide) ?_)|((with_reducible refine zC (b:=?b_) ?hb_ ?_ ?_);case hb_=>rfl)|((conv=>whnf);first|(with_reducible refine hK_ _ _ ?_;try clear hK_ K_)|(with_reducible refine fun (g_:Sl) (o_:Ow)=>?_)|(with_reducible first|exact True.intro|refine And.intro trivial ?_|refine And.intro ?_ ?_)|exact Nat.le_of_ble_eq_true rfl|exact Or.inl rfl|(intro h_;cases h_)|(intro h_;(try simp only [vS1] at h_))|rfl))) <;> (try (conv=>whnf)) <;> (try first|change (_:Int)≤_|change (_:Nat)≤_) <;> simp_all [sgn] <;> omega
theorem l03Sign_ok:Good1 Try.prog n_spec_l03Sign sgnC:=by
 refine good_of (tys:=tyL) (env:=[]) [] [] mixed tys trivial Try.func178 rfl (by kernel_rfl) (by decide) (by kernel_rfl) ?_
 rintro ⟨n,⟨⟩⟩ _
 (repeat' (first|(with_reducible first|exact True.intro|refine zQ ?_|(refine zG hG_ ?_;intro K_ hK_)|(refine zR ?_;intro K_ hK_)|(refine hK_ _ _ ?_;try clear hK_ K_)|refine sq_n ?_|refine sq_r ?_|refine sq_e ?_|refine bq_n ?_|refine bq_r ?_|refine bq_q ?_|refine zB ?_|refine zX ?_|refine zT ?_|refine zK ?_|refine gq_n ?_|refine gq_r ?_|refine gq_e ?_|refine lq_n ?_|refine lq_r ?_|refine lq_e ?_|refine bq_e (by decide) ?_)|((with_reducible refine zC (b:=?b_) ?hb_ ?_ ?_);case hb_=>rfl)|((conv=>whnf);first|(with_reducible refine hK_ _ _ ?_;try clear hK_ K_)|(with_reducible refine fun (g_:Sl) (o_:Ow)=>?_)|(with_reducible first|exact True.intro|refine And.intro trivial ?_|refine And.intro ?_ ?_)|exact Nat.le_of_ble_eq_true rfl|exact Or.inl rfl|(intro h_;cases h_)|(intro h_;(try simp only [vS1] at h_))|rfl))) <;> (try (conv=>whnf)) <;> (try first|change (_:Int)≤_|change (_:Nat)≤_) <;> simp_all [sgn] <;> omega
def crossesC:Con:=mkCon [.wall,.wall] (fun _=>True) fun x=>vB (crs x.2.1.1 x.2.1.2 x.1.1 x.1.2)
theorem crosses_ok:Good1 Try.prog n_impl_crosses crossesC:=by
 refine good_of (tys:=tyL) (env:=[(n_impl_turn,turnC),(n_impl_sign,sgnC)]) [] [] mixed tys ⟨turn_ok,sign_ok,trivial⟩ Try.func121 rfl (by kernel_rfl) (by decide) (by kernel_rfl) ?_
 rintro ⟨⟨⟨a,b⟩,⟨c,d⟩⟩,⟨⟨e,f⟩,⟨g,h⟩⟩,⟨⟩⟩ _
 (repeat' (first|(with_reducible first|exact True.intro|refine zQ ?_|(refine zG hG_ ?_;intro K_ hK_)|(refine zR ?_;intro K_ hK_)|(refine hK_ _ _ ?_;try clear hK_ K_)|refine sq_n ?_|refine sq_r ?_|refine sq_e ?_|refine bq_n ?_|refine bq_r ?_|refine bq_q ?_|refine zB ?_|refine zX ?_|refine zT ?_|refine zK ?_|refine gq_n ?_|refine gq_r ?_|refine gq_e ?_|refine lq_n ?_|refine lq_r ?_|refine lq_e ?_|refine bq_e (by decide) ?_)|((with_reducible refine zC (b:=?b_) ?hb_ ?_ ?_);case hb_=>rfl)|((conv=>whnf);first|(with_reducible refine hK_ _ _ ?_;try clear hK_ K_)|(with_reducible refine fun (g_:Sl) (o_:Ow)=>?_)|(with_reducible first|exact True.intro|refine And.intro trivial ?_|refine And.intro ?_ ?_)|exact Nat.le_of_ble_eq_true rfl|exact Or.inl rfl|(intro h_;cases h_)|(intro h_;(try simp only [vS1] at h_))|rfl))) <;> (try (conv=>whnf)) <;> (try first|change (_:Int)≤_|change (_:Nat)≤_) <;> (try ((fail_if_success (with_reducible apply Exists.intro));(try dsimp only);(try simp only [vS1]))) <;> (try simp only [sgn_w] at *) <;> grind [crs]
def l03CrossC:Con:=mkCon [.pt,.pt,.pt,.pt] (fun _=>True) fun x=>vB (crs x.1 x.2.1 x.2.2.1 x.2.2.2.1)
theorem l03Cross_ok:Good1 Try.prog n_spec_l03Cross l03CrossC:=by
 refine good_of (tys:=tyL) (env:=[(n_spec_l02Turn,turnC),(n_spec_l03Sign,sgnC)]) [] [] mixed tys ⟨l02Turn_ok,l03Sign_ok,trivial⟩ Try.func171 rfl (by kernel_rfl) (by decide) (by kernel_rfl) ?_
 rintro ⟨⟨a,b⟩,⟨c,d⟩,⟨e,f⟩,⟨g,h⟩,⟨⟩⟩ _
 (repeat' (first|(with_reducible first|exact True.intro|refine zQ ?_|(refine zG hG_ ?_;intro K_ hK_)|(refine zR ?_;intro K_ hK_)|(refine hK_ _ _ ?_;try clear hK_ K_)|refine sq_n ?_|refine sq_r ?_|refine sq_e ?_|refine bq_n ?_|refine bq_r ?_|refine bq_q ?_|refine zB ?_|refine zX ?_|refine zT ?_|refine zK ?_|refine gq_n ?_|refine gq_r ?_|refine gq_e ?_|refine lq_n ?_|refine lq_r ?_|refine lq_e ?_|refine bq_e (by decide) ?_)|((with_reducible refine zC (b:=?b_) ?hb_ ?_ ?_);case hb_=>rfl)|((conv=>whnf);first|(with_reducible refine hK_ _ _ ?_;try clear hK_ K_)|(with_reducible refine fun (g_:Sl) (o_:Ow)=>?_)|(with_reducible first|exact True.intro|refine And.intro trivial ?_|refine And.intro ?_ ?_)|exact Nat.le_of_ble_eq_true rfl|exact Or.inl rfl|(intro h_;cases h_)|(intro h_;(try simp only [vS1] at h_))|rfl))) <;> (try (conv=>whnf)) <;> (try first|change (_:Int)≤_|change (_:Nat)≤_) <;> (try ((fail_if_success (with_reducible apply Exists.intro));(try dsimp only);(try simp only [vS1]))) <;> (try simp only [sgn_w] at *) <;> grind [crs]
def meetC:Con:=mkCon [.wall,.wall] (fun _=>True) fun x=>vB (meet x.1 x.2.1)
theorem iDoMeet_ok:Good1 Try.prog n_impl_DoMeet meetC:=by
 refine good_of (tys:=tyL) (env:=[(n_impl_WallOk,wallOkC),(n_impl_crosses,crossesC),(n_impl_on,onC)]) [] [] mixed tys ⟨iWallOk_ok,crosses_ok,on_ok,trivial⟩ Try.func113 rfl (by kernel_rfl) (by decide) (by kernel_rfl) ?_
 rintro ⟨⟨⟨a,b⟩,⟨c,d⟩⟩,⟨⟨e,f⟩,⟨g,h⟩⟩,⟨⟩⟩ _
 (repeat' (first|(with_reducible first|exact True.intro|refine zQ ?_|(refine zG hG_ ?_;intro K_ hK_)|(refine zR ?_;intro K_ hK_)|(refine hK_ _ _ ?_;try clear hK_ K_)|refine sq_n ?_|refine sq_r ?_|refine sq_e ?_|refine bq_n ?_|refine bq_r ?_|refine bq_q ?_|refine zB ?_|refine zX ?_|refine zT ?_|refine zK ?_|refine gq_n ?_|refine gq_r ?_|refine gq_e ?_|refine lq_n ?_|refine lq_r ?_|refine lq_e ?_|refine bq_e (by decide) ?_)|((with_reducible refine zC (b:=?b_) ?hb_ ?_ ?_);case hb_=>rfl)|((conv=>whnf);first|(with_reducible refine hK_ _ _ ?_;try clear hK_ K_)|(with_reducible refine fun (g_:Sl) (o_:Ow)=>?_)|(with_reducible first|exact True.intro|refine And.intro trivial ?_|refine And.intro ?_ ?_)|exact Nat.le_of_ble_eq_true rfl|exact Or.inl rfl|(intro h_;cases h_)|(intro h_;(try simp only [vS1] at h_))|rfl))) <;> (try (conv=>whnf)) <;> (try first|change (_:Int)≤_|change (_:Nat)≤_) <;> (try ((fail_if_success (with_reducible apply Exists.intro));(try dsimp only);(try simp only [vS1]))) <;> grind [meet]
def crossC:Con:=mkCon [.wall,.wall] (fun _=>True) fun x=>vB (wallOk x.1 && (wallOk x.2.1 && crs x.2.1.1 x.2.1.2 x.1.1 x.1.2))
theorem sDoCross_ok:Good1 Try.prog n_spec_DoCross crossC:=by
 refine good_of (tys:=tyL) (env:=[(n_spec_WallOk,wallOkC),(n_spec_l03Cross,l03CrossC)]) [] [] mixed tys ⟨sWallOk_ok,l03Cross_ok,trivial⟩ Try.func154 rfl (by kernel_rfl) (by decide) (by kernel_rfl) ?_
 rintro ⟨⟨⟨a,b⟩,⟨c,d⟩⟩,⟨⟨e,f⟩,⟨g,h⟩⟩,⟨⟩⟩ _
 (repeat' (first|(with_reducible first|exact True.intro|refine zQ ?_|(refine zG hG_ ?_;intro K_ hK_)|(refine zR ?_;intro K_ hK_)|(refine hK_ _ _ ?_;try clear hK_ K_)|refine sq_n ?_|refine sq_r ?_|refine sq_e ?_|refine bq_n ?_|refine bq_r ?_|refine bq_q ?_|refine zB ?_|refine zX ?_|refine zT ?_|refine zK ?_|refine gq_n ?_|refine gq_r ?_|refine gq_e ?_|refine lq_n ?_|refine lq_r ?_|refine lq_e ?_|refine bq_e (by decide) ?_)|((with_reducible refine zC (b:=?b_) ?hb_ ?_ ?_);case hb_=>rfl)|((conv=>whnf);first|(with_reducible refine hK_ _ _ ?_;try clear hK_ K_)|(with_reducible refine fun (g_:Sl) (o_:Ow)=>?_)|(with_reducible first|exact True.intro|refine And.intro trivial ?_|refine And.intro ?_ ?_)|exact Nat.le_of_ble_eq_true rfl|exact Or.inl rfl|(intro h_;cases h_)|(intro h_;(try simp only [vS1] at h_))|rfl))) <;> (try (conv=>whnf)) <;> (try first|change (_:Int)≤_|change (_:Nat)≤_) <;> (try ((fail_if_success (with_reducible apply Exists.intro));(try dsimp only);(try simp only [vS1]))) <;> grind [crs_comm (a,b) (c,d) (e,f) (g,h)]
def isBtwC:Con:=mkCon [.pt,.pt,.pt] (fun _=>True) fun x=>vB (ptOk x.1 && (ptOk x.2.1 && (ptOk x.2.2.1 && onS x.1 x.2.1 x.2.2.1)))
theorem sIsBetween_ok:Good1 Try.prog n_spec_IsBetween isBtwC:=by
 refine good_of (tys:=tyL) (env:=[(n_spec_PointOk,ptOkC),(n_spec_l02Between,onC)]) [] [] mixed tys ⟨sPointOk_ok,l02Between_ok,trivial⟩ Try.func172 rfl (by kernel_rfl) (by decide) (by kernel_rfl) ?_
 rintro ⟨⟨a,b⟩,⟨c,d⟩,⟨e,f⟩,⟨⟩⟩ _
 (repeat' (first|(with_reducible first|exact True.intro|refine zQ ?_|(refine zG hG_ ?_;intro K_ hK_)|(refine zR ?_;intro K_ hK_)|(refine hK_ _ _ ?_;try clear hK_ K_)|refine sq_n ?_|refine sq_r ?_|refine sq_e ?_|refine bq_n ?_|refine bq_r ?_|refine bq_q ?_|refine zB ?_|refine zX ?_|refine zT ?_|refine zK ?_|refine gq_n ?_|refine gq_r ?_|refine gq_e ?_|refine lq_n ?_|refine lq_r ?_|refine lq_e ?_|refine bq_e (by decide) ?_)|((with_reducible refine zC (b:=?b_) ?hb_ ?_ ?_);case hb_=>rfl)|((conv=>whnf);first|(with_reducible refine hK_ _ _ ?_;try clear hK_ K_)|(with_reducible refine fun (g_:Sl) (o_:Ow)=>?_)|(with_reducible first|exact True.intro|refine And.intro trivial ?_|refine And.intro ?_ ?_)|exact Nat.le_of_ble_eq_true rfl|exact Or.inl rfl|(intro h_;cases h_)|(intro h_;(try simp only [vS1] at h_))|rfl))) <;> (try (conv=>whnf)) <;> (try first|change (_:Int)≤_|change (_:Nat)≤_) <;> (try ((fail_if_success (with_reducible apply Exists.intro));(try dsimp only);(try simp only [vS1]))) <;> grind
def isOnWallC:Con:=mkCon [.wall,.pt] (fun _=>True) fun x=>vB (wallOk x.1 && (ptOk x.2.1 && onS x.2.1 x.1.1 x.1.2))
theorem sIsOnWall_ok:Good1 Try.prog n_spec_IsOnWall isOnWallC:=by
 refine good_of (tys:=tyL) (env:=[(n_spec_WallOk,wallOkC),(n_spec_IsBetween,isBtwC)]) [] [] mixed tys ⟨sWallOk_ok,sIsBetween_ok,trivial⟩ Try.func155 rfl (by kernel_rfl) (by decide) (by kernel_rfl) ?_
 rintro ⟨⟨⟨a,b⟩,⟨c,d⟩⟩,⟨e,f⟩,⟨⟩⟩ _
 (repeat' (first|(with_reducible first|exact True.intro|refine zQ ?_|(refine zG hG_ ?_;intro K_ hK_)|(refine zR ?_;intro K_ hK_)|(refine hK_ _ _ ?_;try clear hK_ K_)|refine sq_n ?_|refine sq_r ?_|refine sq_e ?_|refine bq_n ?_|refine bq_r ?_|refine bq_q ?_|refine zB ?_|refine zX ?_|refine zT ?_|refine zK ?_|refine gq_n ?_|refine gq_r ?_|refine gq_e ?_|refine lq_n ?_|refine lq_r ?_|refine lq_e ?_|refine bq_e (by decide) ?_)|((with_reducible refine zC (b:=?b_) ?hb_ ?_ ?_);case hb_=>rfl)|((conv=>whnf);first|(with_reducible refine hK_ _ _ ?_;try clear hK_ K_)|(with_reducible refine fun (g_:Sl) (o_:Ow)=>?_)|(with_reducible first|exact True.intro|refine And.intro trivial ?_|refine And.intro ?_ ?_)|exact Nat.le_of_ble_eq_true rfl|exact Or.inl rfl|(intro h_;cases h_)|(intro h_;(try simp only [vS1] at h_))|rfl))) <;> (try (conv=>whnf)) <;> (try first|change (_:Int)≤_|change (_:Nat)≤_) <;> (try ((fail_if_success (with_reducible apply Exists.intro));(try dsimp only);(try simp only [vS1]))) <;> grind [wallOk]
theorem sDoMeet_ok:Good1 Try.prog n_spec_DoMeet meetC:=by
 refine good_of (tys:=tyL) (env:=[(n_spec_WallOk,wallOkC),(n_spec_DoCross,crossC),(n_spec_IsOnWall,isOnWallC)]) [] [] mixed tys ⟨sWallOk_ok,sDoCross_ok,sIsOnWall_ok,trivial⟩ Try.func131 rfl (by kernel_rfl) (by decide) (by kernel_rfl) ?_
 rintro ⟨⟨⟨a,b⟩,⟨c,d⟩⟩,⟨⟨e,f⟩,⟨g,h⟩⟩,⟨⟩⟩ _
 (repeat' (first|(with_reducible first|exact True.intro|refine zQ ?_|(refine zG hG_ ?_;intro K_ hK_)|(refine zR ?_;intro K_ hK_)|(refine hK_ _ _ ?_;try clear hK_ K_)|refine sq_n ?_|refine sq_r ?_|refine sq_e ?_|refine bq_n ?_|refine bq_r ?_|refine bq_q ?_|refine zB ?_|refine zX ?_|refine zT ?_|refine zK ?_|refine gq_n ?_|refine gq_r ?_|refine gq_e ?_|refine lq_n ?_|refine lq_r ?_|refine lq_e ?_|refine bq_e (by decide) ?_)|((with_reducible refine zC (b:=?b_) ?hb_ ?_ ?_);case hb_=>rfl)|((conv=>whnf);first|(with_reducible refine hK_ _ _ ?_;try clear hK_ K_)|(with_reducible refine fun (g_:Sl) (o_:Ow)=>?_)|(with_reducible first|exact True.intro|refine And.intro trivial ?_|refine And.intro ?_ ?_)|exact Nat.le_of_ble_eq_true rfl|exact Or.inl rfl|(intro h_;cases h_)|(intro h_;(try simp only [vS1] at h_))|rfl))) <;> (try (conv=>whnf)) <;> (try first|change (_:Int)≤_|change (_:Nat)≤_) <;> (try ((fail_if_success (with_reducible apply Exists.intro));(try dsimp only);(try simp only [vS1]))) <;> grind [meet_spec]
def wallsOfC:Con:=mkCon [.sl (.b .pt)] (fun x=>x.1.length≤1048576) fun x=>⟨.one (.own 0 0),some ⟨t_impl_Wall,none,.b .wall,walls x.1⟩⟩
theorem wallsOf_ok:Good1 Try.prog n_impl_wallsOf wallsOfC:=by
 refine good_of (tys:=tyL) (env:=[]) [6] [] mixed tys trivial Try.func88 rfl (by kernel_rfl) (by decide) (by kernel_rfl) ?_
 rintro ⟨xs,⟨⟩⟩ hlen
 change xs.length≤_ at hlen
 (repeat' (first|(with_reducible first|exact True.intro|refine zQ ?_|(refine zG hG_ ?_;intro K_ hK_)|(refine zR ?_;intro K_ hK_)|(refine hK_ _ _ ?_;try clear hK_ K_)|refine sq_n ?_|refine sq_r ?_|refine sq_e ?_|refine bq_n ?_|refine bq_r ?_|refine bq_q ?_|refine zB ?_|refine zX ?_|refine zT ?_|refine zK ?_|refine gq_n ?_|refine gq_r ?_|refine gq_e ?_|refine lq_n ?_|refine lq_r ?_|refine lq_e ?_|refine bq_e (by decide) ?_)|((with_reducible refine zC (b:=?b_) ?hb_ ?_ ?_);case hb_=>rfl)|((conv=>whnf);first|(with_reducible refine hK_ _ _ ?_;try clear hK_ K_)|(with_reducible refine fun (g_:Sl) (o_:Ow)=>?_)|(with_reducible first|exact True.intro|refine And.intro trivial ?_|refine And.intro ?_ ?_)|exact Nat.le_of_ble_eq_true rfl|exact Or.inl rfl|(intro h_;cases h_)|(intro h_;(try simp only [vS1] at h_))|rfl))) <;> (try (conv=>whnf)) <;> (try first|change (_:Int)≤_|change (_:Nat)≤_)
 refine awp'_loop (fun k σ=>k≤xs.length∧Has1 σ [(0,vPts xs),(7,vPts xs),(8,vInt xs.length),(9,vInt k)] 3 6 (.row t_impl_Wall (.b .wall) ((walls xs).take k))) (fun k=>xs.length - k) 0 ⟨Nat.zero_le _,⟨?_,?_,?_⟩⟩ ?_
 ·(repeat' (first|(with_reducible first|exact True.intro|refine zQ ?_|(refine zG hG_ ?_;intro K_ hK_)|(refine zR ?_;intro K_ hK_)|(refine hK_ _ _ ?_;try clear hK_ K_)|refine sq_n ?_|refine sq_r ?_|refine sq_e ?_|refine bq_n ?_|refine bq_r ?_|refine bq_q ?_|refine zB ?_|refine zX ?_|refine zT ?_|refine zK ?_|refine gq_n ?_|refine gq_r ?_|refine gq_e ?_|refine lq_n ?_|refine lq_r ?_|refine lq_e ?_|refine bq_e (by decide) ?_)|((with_reducible refine zC (b:=?b_) ?hb_ ?_ ?_);case hb_=>rfl)|((conv=>whnf);first|(with_reducible refine hK_ _ _ ?_;try clear hK_ K_)|(with_reducible refine fun (g_:Sl) (o_:Ow)=>?_)|(with_reducible first|exact True.intro|refine And.intro trivial ?_|refine And.intro ?_ ?_)|exact Nat.le_of_ble_eq_true rfl|exact Or.inl rfl|(intro h_;cases h_)|(intro h_;(try simp only [vS1] at h_))|rfl))) <;> (try (conv=>whnf)) <;> (try first|change (_:Int)≤_|change (_:Nat)≤_)
 ·rfl
 ·rfl
 rintro k s_ w_ ⟨hk,h⟩
 obtain ⟨g,o,v,rfl,rfl⟩:=has1_ex h
 clear h
 have hpos:(k:Int) < xs.length→0 < xs.length:=fun h=>by omega
 (repeat' (first|(with_reducible first|exact True.intro|refine zQ ?_|(refine zG hG_ ?_;intro K_ hK_)|(refine zR ?_;intro K_ hK_)|(refine hK_ _ _ ?_;try clear hK_ K_)|refine sq_n ?_|refine sq_r ?_|refine sq_e ?_|refine bq_n ?_|refine bq_r ?_|refine bq_q ?_|refine zB ?_|refine zX ?_|refine zT ?_|refine zK ?_|refine gq_n ?_|refine gq_r ?_|refine gq_e ?_|refine lq_n ?_|refine lq_r ?_|refine lq_e ?_|refine bq_e (by decide) ?_)|((with_reducible refine zC (b:=?b_) ?hb_ ?_ ?_);case hb_=>rfl)|((conv=>whnf);first|(with_reducible refine hK_ _ _ ?_;try clear hK_ K_)|(with_reducible refine fun (g_:Sl) (o_:Ow)=>?_)|(with_reducible first|exact True.intro|refine And.intro trivial ?_|refine And.intro ?_ ?_)|exact Nat.le_of_ble_eq_true rfl|exact Or.inl rfl|(intro h_;cases h_)|(intro h_;(try simp only [vS1] at h_))|rfl))) <;> (try (conv=>whnf)) <;> (try first|change (_:Int)≤_|change (_:Nat)≤_) <;> (try ((fail_if_success (with_reducible apply Exists.intro));(try dsimp only);(try simp only [vS1])))
 ·omega
 ·omega
 ·have:=hpos (by omega);omega
 ·rw [mod_nat1 (by omega)];omega
 ·have:=Nat.mod_lt (k + 1) (hpos (by omega));rw [mod_nat1 (by omega)];omega
 ·simp only [List.length_take,List.length_cons,List.length_nil];omega
 ·refine ⟨k + 1,by omega,by omega,⟨?_,rfl,?_⟩⟩
  ·rw [← W_nat (by omega)];(repeat' (first|(with_reducible first|exact True.intro|refine zQ ?_|(refine zG hG_ ?_;intro K_ hK_)|(refine zR ?_;intro K_ hK_)|(refine hK_ _ _ ?_;try clear hK_ K_)|refine sq_n ?_|refine sq_r ?_|refine sq_e ?_|refine bq_n ?_|refine bq_r ?_|refine bq_q ?_|refine zB ?_|refine zX ?_|refine zT ?_|refine zK ?_|refine gq_n ?_|refine gq_r ?_|refine gq_e ?_|refine lq_n ?_|refine lq_r ?_|refine lq_e ?_|refine bq_e (by decide) ?_)|((with_reducible refine zC (b:=?b_) ?hb_ ?_ ?_);case hb_=>rfl)|((conv=>whnf);first|(with_reducible refine hK_ _ _ ?_;try clear hK_ K_)|(with_reducible refine fun (g_:Sl) (o_:Ow)=>?_)|(with_reducible first|exact True.intro|refine And.intro trivial ?_|refine And.intro ?_ ?_)|exact Nat.le_of_ble_eq_true rfl|exact Or.inl rfl|(intro h_;cases h_)|(intro h_;(try simp only [vS1] at h_))|rfl))) <;> (try (conv=>whnf)) <;> (try first|change (_:Int)≤_|change (_:Nat)≤_)
  ·rw [walls_take (by omega)]
   show Own.row _ _ (_ ++ [(_,_)])=_
   rw [mod_nat1 (by omega)];rfl
 ·rw [List.take_of_length_le (by rw [walls_len];omega)];rfl
def areaC:Con:=mkCon [.sl (.b .pt)] (fun x=>x.1.length≤1048576) fun x=>vI (IntKind.i64.wrap (dbl x.1))
theorem area_ok:Good1 Try.prog n_impl_area areaC:=by
 refine good_of (tys:=tyL) (env:=[(n_impl_wallsOf,wallsOfC)]) [] [] mixed tys ⟨wallsOf_ok,trivial⟩ Try.func74 rfl (by kernel_rfl) (by decide) (by kernel_rfl) ?_
 rintro ⟨xs,⟨⟩⟩ hlen
 change xs.length≤_ at hlen
 have hl:=walls_len xs
 (repeat' (first|(with_reducible first|exact True.intro|refine zQ ?_|(refine zG hG_ ?_;intro K_ hK_)|(refine zR ?_;intro K_ hK_)|(refine hK_ _ _ ?_;try clear hK_ K_)|refine sq_n ?_|refine sq_r ?_|refine sq_e ?_|refine bq_n ?_|refine bq_r ?_|refine bq_q ?_|refine zB ?_|refine zX ?_|refine zT ?_|refine zK ?_|refine gq_n ?_|refine gq_r ?_|refine gq_e ?_|refine lq_n ?_|refine lq_r ?_|refine lq_e ?_|refine bq_e (by decide) ?_)|((with_reducible refine zC (b:=?b_) ?hb_ ?_ ?_);case hb_=>rfl)|((conv=>whnf);first|(with_reducible refine hK_ _ _ ?_;try clear hK_ K_)|(with_reducible refine fun (g_:Sl) (o_:Ow)=>?_)|(with_reducible first|exact True.intro|refine And.intro trivial ?_|refine And.intro ?_ ?_)|exact Nat.le_of_ble_eq_true rfl|exact Or.inl rfl|(intro h_;cases h_)|(intro h_;(try simp only [vS1] at h_))|rfl))) <;> (try (conv=>whnf)) <;> (try first|change (_:Int)≤_|change (_:Nat)≤_)
 ·assumption
 refine awp'_loop (fun k σ=>k≤xs.length∧Has σ [(7,.one (.d (.sl none (.b .wall) (walls xs)))),(8,vInt (walls xs).length),(9,vInt k),(3,vInt (IntKind.i64.wrap (dblTo xs k)))]) (fun k=>xs.length - k) 0 ⟨Nat.zero_le _,?_⟩ ?_
 ·(repeat' (first|(with_reducible first|exact True.intro|refine zQ ?_|(refine zG hG_ ?_;intro K_ hK_)|(refine zR ?_;intro K_ hK_)|(refine hK_ _ _ ?_;try clear hK_ K_)|refine sq_n ?_|refine sq_r ?_|refine sq_e ?_|refine bq_n ?_|refine bq_r ?_|refine bq_q ?_|refine zB ?_|refine zX ?_|refine zT ?_|refine zK ?_|refine gq_n ?_|refine gq_r ?_|refine gq_e ?_|refine lq_n ?_|refine lq_r ?_|refine lq_e ?_|refine bq_e (by decide) ?_)|((with_reducible refine zC (b:=?b_) ?hb_ ?_ ?_);case hb_=>rfl)|((conv=>whnf);first|(with_reducible refine hK_ _ _ ?_;try clear hK_ K_)|(with_reducible refine fun (g_:Sl) (o_:Ow)=>?_)|(with_reducible first|exact True.intro|refine And.intro trivial ?_|refine And.intro ?_ ?_)|exact Nat.le_of_ble_eq_true rfl|exact Or.inl rfl|(intro h_;cases h_)|(intro h_;(try simp only [vS1] at h_))|rfl))) <;> (try (conv=>whnf)) <;> (try first|change (_:Int)≤_|change (_:Nat)≤_)
 rintro k s_ w_ ⟨hk,h⟩
 obtain ⟨g,rfl⟩:=has_ex h
 clear h
 (repeat' (first|(with_reducible first|exact True.intro|refine zQ ?_|(refine zG hG_ ?_;intro K_ hK_)|(refine zR ?_;intro K_ hK_)|(refine hK_ _ _ ?_;try clear hK_ K_)|refine sq_n ?_|refine sq_r ?_|refine sq_e ?_|refine bq_n ?_|refine bq_r ?_|refine bq_q ?_|refine zB ?_|refine zX ?_|refine zT ?_|refine zK ?_|refine gq_n ?_|refine gq_r ?_|refine gq_e ?_|refine lq_n ?_|refine lq_r ?_|refine lq_e ?_|refine bq_e (by decide) ?_)|((with_reducible refine zC (b:=?b_) ?hb_ ?_ ?_);case hb_=>rfl)|((conv=>whnf);first|(with_reducible refine hK_ _ _ ?_;try clear hK_ K_)|(with_reducible refine fun (g_:Sl) (o_:Ow)=>?_)|(with_reducible first|exact True.intro|refine And.intro trivial ?_|refine And.intro ?_ ?_)|exact Nat.le_of_ble_eq_true rfl|exact Or.inl rfl|(intro h_;cases h_)|(intro h_;(try simp only [vS1] at h_))|rfl))) <;> (try (conv=>whnf)) <;> (try first|change (_:Int)≤_|change (_:Nat)≤_) <;> (try ((fail_if_success (with_reducible apply Exists.intro));(try dsimp only);(try simp only [vS1])))
 ·omega
 ·omega
 ·refine ⟨k + 1,by omega,by omega,?_⟩
  rw [← W_nat (by omega)];(repeat' (first|(with_reducible first|exact True.intro|refine zQ ?_|(refine zG hG_ ?_;intro K_ hK_)|(refine zR ?_;intro K_ hK_)|(refine hK_ _ _ ?_;try clear hK_ K_)|refine sq_n ?_|refine sq_r ?_|refine sq_e ?_|refine bq_n ?_|refine bq_r ?_|refine bq_q ?_|refine zB ?_|refine zX ?_|refine zT ?_|refine zK ?_|refine gq_n ?_|refine gq_r ?_|refine gq_e ?_|refine lq_n ?_|refine lq_r ?_|refine lq_e ?_|refine bq_e (by decide) ?_)|((with_reducible refine zC (b:=?b_) ?hb_ ?_ ?_);case hb_=>rfl)|((conv=>whnf);first|(with_reducible refine hK_ _ _ ?_;try clear hK_ K_)|(with_reducible refine fun (g_:Sl) (o_:Ow)=>?_)|(with_reducible first|exact True.intro|refine And.intro trivial ?_|refine And.intro ?_ ?_)|exact Nat.le_of_ble_eq_true rfl|exact Or.inl rfl|(intro h_;cases h_)|(intro h_;(try simp only [vS1] at h_))|rfl))) <;> (try (conv=>whnf)) <;> (try first|change (_:Int)≤_|change (_:Nat)≤_)
  rw [walls_get (by omega)]
  exact congrArg vInt (W_cr _ _ _ _ _)
 ·rw [show k=xs.length by omega];rfl
theorem l04Double_ok:Good1 Try.prog n_spec_l04Double areaC:=by
 refine good_of (tys:=tyL) (env:=[]) [] [] mixed tys trivial Try.func132 rfl (by kernel_rfl) (by decide) (by kernel_rfl) ?_
 rintro ⟨xs,⟨⟩⟩ hlen
 change xs.length≤_ at hlen
 (repeat' (first|(with_reducible first|exact True.intro|refine zQ ?_|(refine zG hG_ ?_;intro K_ hK_)|(refine zR ?_;intro K_ hK_)|(refine hK_ _ _ ?_;try clear hK_ K_)|refine sq_n ?_|refine sq_r ?_|refine sq_e ?_|refine bq_n ?_|refine bq_r ?_|refine bq_q ?_|refine zB ?_|refine zX ?_|refine zT ?_|refine zK ?_|refine gq_n ?_|refine gq_r ?_|refine gq_e ?_|refine lq_n ?_|refine lq_r ?_|refine lq_e ?_|refine bq_e (by decide) ?_)|((with_reducible refine zC (b:=?b_) ?hb_ ?_ ?_);case hb_=>rfl)|((conv=>whnf);first|(with_reducible refine hK_ _ _ ?_;try clear hK_ K_)|(with_reducible refine fun (g_:Sl) (o_:Ow)=>?_)|(with_reducible first|exact True.intro|refine And.intro trivial ?_|refine And.intro ?_ ?_)|exact Nat.le_of_ble_eq_true rfl|exact Or.inl rfl|(intro h_;cases h_)|(intro h_;(try simp only [vS1] at h_))|rfl))) <;> (try (conv=>whnf)) <;> (try first|change (_:Int)≤_|change (_:Nat)≤_)
 refine awp'_loop (fun k σ=>k≤xs.length∧Has σ [(0,vPts xs),(4,vInt k),(3,vInt (IntKind.i64.wrap (dblTo xs k)))]) (fun k=>xs.length - k) 0 ⟨Nat.zero_le _,?_⟩ ?_
 ·(repeat' (first|(with_reducible first|exact True.intro|refine zQ ?_|(refine zG hG_ ?_;intro K_ hK_)|(refine zR ?_;intro K_ hK_)|(refine hK_ _ _ ?_;try clear hK_ K_)|refine sq_n ?_|refine sq_r ?_|refine sq_e ?_|refine bq_n ?_|refine bq_r ?_|refine bq_q ?_|refine zB ?_|refine zX ?_|refine zT ?_|refine zK ?_|refine gq_n ?_|refine gq_r ?_|refine gq_e ?_|refine lq_n ?_|refine lq_r ?_|refine lq_e ?_|refine bq_e (by decide) ?_)|((with_reducible refine zC (b:=?b_) ?hb_ ?_ ?_);case hb_=>rfl)|((conv=>whnf);first|(with_reducible refine hK_ _ _ ?_;try clear hK_ K_)|(with_reducible refine fun (g_:Sl) (o_:Ow)=>?_)|(with_reducible first|exact True.intro|refine And.intro trivial ?_|refine And.intro ?_ ?_)|exact Nat.le_of_ble_eq_true rfl|exact Or.inl rfl|(intro h_;cases h_)|(intro h_;(try simp only [vS1] at h_))|rfl))) <;> (try (conv=>whnf)) <;> (try first|change (_:Int)≤_|change (_:Nat)≤_)
 rintro k s_ w_ ⟨hk,h⟩
 obtain ⟨g,rfl⟩:=has_ex h
 clear h
 (repeat' (first|(with_reducible first|exact True.intro|refine zQ ?_|(refine zG hG_ ?_;intro K_ hK_)|(refine zR ?_;intro K_ hK_)|(refine hK_ _ _ ?_;try clear hK_ K_)|refine sq_n ?_|refine sq_r ?_|refine sq_e ?_|refine bq_n ?_|refine bq_r ?_|refine bq_q ?_|refine zB ?_|refine zX ?_|refine zT ?_|refine zK ?_|refine gq_n ?_|refine gq_r ?_|refine gq_e ?_|refine lq_n ?_|refine lq_r ?_|refine lq_e ?_|refine bq_e (by decide) ?_)|((with_reducible refine zC (b:=?b_) ?hb_ ?_ ?_);case hb_=>rfl)|((conv=>whnf);first|(with_reducible refine hK_ _ _ ?_;try clear hK_ K_)|(with_reducible refine fun (g_:Sl) (o_:Ow)=>?_)|(with_reducible first|exact True.intro|refine And.intro trivial ?_|refine And.intro ?_ ?_)|exact Nat.le_of_ble_eq_true rfl|exact Or.inl rfl|(intro h_;cases h_)|(intro h_;(try simp only [vS1] at h_))|rfl))) <;> (try (conv=>whnf)) <;> (try first|change (_:Int)≤_|change (_:Nat)≤_) <;> (try ((fail_if_success (with_reducible apply Exists.intro));(try dsimp only);(try simp only [vS1])))
 all_goals (try (fail_if_success (with_reducible apply Exists.intro));first|with_reducible assumption|omega|exact mdl (by omega)|exact ilo1 (by omega)|exact ilo2 (by omega)|exact ihi1 (by omega) (by omega)|exact ihi2 (by omega) (by omega))
 ·refine ⟨k + 1,by omega,by omega,?_⟩
  rw [← W_nat (by omega)];(repeat' (first|(with_reducible first|exact True.intro|refine zQ ?_|(refine zG hG_ ?_;intro K_ hK_)|(refine zR ?_;intro K_ hK_)|(refine hK_ _ _ ?_;try clear hK_ K_)|refine sq_n ?_|refine sq_r ?_|refine sq_e ?_|refine bq_n ?_|refine bq_r ?_|refine bq_q ?_|refine zB ?_|refine zX ?_|refine zT ?_|refine zK ?_|refine gq_n ?_|refine gq_r ?_|refine gq_e ?_|refine lq_n ?_|refine lq_r ?_|refine lq_e ?_|refine bq_e (by decide) ?_)|((with_reducible refine zC (b:=?b_) ?hb_ ?_ ?_);case hb_=>rfl)|((conv=>whnf);first|(with_reducible refine hK_ _ _ ?_;try clear hK_ K_)|(with_reducible refine fun (g_:Sl) (o_:Ow)=>?_)|(with_reducible first|exact True.intro|refine And.intro trivial ?_|refine And.intro ?_ ?_)|exact Nat.le_of_ble_eq_true rfl|exact Or.inl rfl|(intro h_;cases h_)|(intro h_;(try simp only [vS1] at h_))|rfl))) <;> (try (conv=>whnf)) <;> (try first|change (_:Int)≤_|change (_:Nat)≤_)
  rw [mod_nat1 (by omega)]
  exact congrArg vInt (W_cr' _ _ _ _ _)
 ·rw [show k=xs.length by omega];rfl
def roomOkC:Con:=mkCon [.room] (fun x=>x.1.length≤1048576) fun x=>vB (roomOk x.1)
theorem iRoomOk_ok:Good1 Try.prog n_impl_RoomOk roomOkC:=by
 refine good_of (tys:=tyL) (env:=[(n_impl_between,btwC),(n_impl_pointsOk,pointsOkC),(n_impl_wallsOf,wallsOfC),(n_impl_turn,turnC),(n_impl_DoMeet,meetC),(n_impl_area,areaC)]) [] [] mixed tys ⟨between_ok,pointsOk_ok,wallsOf_ok,turn_ok,iDoMeet_ok,area_ok,trivial⟩ Try.func63 rfl (by kernel_rfl) (by decide) (by kernel_rfl) ?_
 rintro ⟨xs,⟨⟩⟩ hlen
 change xs.length≤_ at hlen
 have hl:=walls_len xs
 (repeat' (first|(with_reducible first|exact True.intro|refine zQ ?_|(refine zG hG_ ?_;intro K_ hK_)|(refine zR ?_;intro K_ hK_)|(refine hK_ _ _ ?_;try clear hK_ K_)|refine sq_n ?_|refine sq_r ?_|refine sq_e ?_|refine bq_n ?_|refine bq_r ?_|refine bq_q ?_|refine zB ?_|refine zX ?_|refine zT ?_|refine zK ?_|refine gq_n ?_|refine gq_r ?_|refine gq_e ?_|refine lq_n ?_|refine lq_r ?_|refine lq_e ?_|refine bq_e (by decide) ?_)|((with_reducible refine zC (b:=?b_) ?hb_ ?_ ?_);case hb_=>rfl)|((conv=>whnf);first|(with_reducible refine hK_ _ _ ?_;try clear hK_ K_)|(with_reducible refine fun (g_:Sl) (o_:Ow)=>?_)|(with_reducible first|exact True.intro|refine And.intro trivial ?_|refine And.intro ?_ ?_)|exact Nat.le_of_ble_eq_true rfl|exact Or.inl rfl|(intro h_;cases h_)|(intro h_;(try simp only [vS1] at h_))|rfl))) <;> (try (conv=>whnf)) <;> (try first|change (_:Int)≤_|change (_:Nat)≤_) <;> (try ((fail_if_success (with_reducible apply Exists.intro));(try dsimp only);(try simp only [vS1])))
 all_goals (try (fail_if_success (with_reducible apply Exists.intro));first|with_reducible assumption|omega|exact mdl (by omega)|exact ilo1 (by omega)|exact ilo2 (by omega)|exact ihi1 (by omega) (by omega)|exact ihi2 (by omega) (by omega))
 ·symm;rw [← Bool.not_eq_true,roomOk_iff];simp [btw] at *;omega
 ·symm;rw [← Bool.not_eq_true,roomOk_iff];simp [*]
 refine awp'_loop (fun k σ=>k≤xs.length∧(∀ i,i < k→turn (pAt xs i) (pCy xs (i + 1)) (pCy xs (i + 2))≠0 ∧
  ∀ k,i + 2≤k→k < xs.length→(k + 1) % xs.length≠i→meet (wl xs i) (wl xs k)=false)∧HasX σ [(1,vRoom xs),(3,vInt xs.length),(4,vWalls (walls xs)),(23,vWalls (walls xs)),(24,vInt (walls xs).length),(25,vInt k)] []) (fun k=>xs.length - k) 0 ⟨Nat.zero_le _,fun i hi=>absurd hi (by omega),?_⟩ ?_
 ·(repeat' (first|(with_reducible first|exact True.intro|refine zQ ?_|(refine zG hG_ ?_;intro K_ hK_)|(refine zR ?_;intro K_ hK_)|(refine hK_ _ _ ?_;try clear hK_ K_)|refine sq_n ?_|refine sq_r ?_|refine sq_e ?_|refine bq_n ?_|refine bq_r ?_|refine bq_q ?_|refine zB ?_|refine zX ?_|refine zT ?_|refine zK ?_|refine gq_n ?_|refine gq_r ?_|refine gq_e ?_|refine lq_n ?_|refine lq_r ?_|refine lq_e ?_|refine bq_e (by decide) ?_)|((with_reducible refine zC (b:=?b_) ?hb_ ?_ ?_);case hb_=>rfl)|((conv=>whnf);first|(with_reducible refine hK_ _ _ ?_;try clear hK_ K_)|(with_reducible refine fun (g_:Sl) (o_:Ow)=>?_)|(with_reducible first|exact True.intro|refine And.intro trivial ?_|refine And.intro ?_ ?_)|exact Nat.le_of_ble_eq_true rfl|exact Or.inl rfl|(intro h_;cases h_)|(intro h_;(try simp only [vS1] at h_))|rfl))) <;> (try (conv=>whnf)) <;> (try first|change (_:Int)≤_|change (_:Nat)≤_)
 rintro i s_ w_ ⟨hi,hall,h⟩
 obtain ⟨g,o,v,rfl,rfl⟩:=hasX_ex h
 clear h
 (repeat' (first|(with_reducible first|exact True.intro|refine zQ ?_|(refine zG hG_ ?_;intro K_ hK_)|(refine zR ?_;intro K_ hK_)|(refine hK_ _ _ ?_;try clear hK_ K_)|refine sq_n ?_|refine sq_r ?_|refine sq_e ?_|refine bq_n ?_|refine bq_r ?_|refine bq_q ?_|refine zB ?_|refine zX ?_|refine zT ?_|refine zK ?_|refine gq_n ?_|refine gq_r ?_|refine gq_e ?_|refine lq_n ?_|refine lq_r ?_|refine lq_e ?_|refine bq_e (by decide) ?_)|((with_reducible refine zC (b:=?b_) ?hb_ ?_ ?_);case hb_=>rfl)|((conv=>whnf);first|(with_reducible refine hK_ _ _ ?_;try clear hK_ K_)|(with_reducible refine fun (g_:Sl) (o_:Ow)=>?_)|(with_reducible first|exact True.intro|refine And.intro trivial ?_|refine And.intro ?_ ?_)|exact Nat.le_of_ble_eq_true rfl|exact Or.inl rfl|(intro h_;cases h_)|(intro h_;(try simp only [vS1] at h_))|rfl))) <;> (try (conv=>whnf)) <;> (try first|change (_:Int)≤_|change (_:Nat)≤_) <;> (try ((fail_if_success (with_reducible apply Exists.intro));(try dsimp only);(try simp only [vS1])))
 all_goals (try (fail_if_success (with_reducible apply Exists.intro));first|with_reducible assumption|omega|exact mdl (by omega)|exact ilo1 (by omega)|exact ilo2 (by omega)|exact ihi1 (by omega) (by omega)|exact ihi2 (by omega) (by omega))
 ·symm;rw [← Bool.not_eq_true,roomOk_iff,okAt_half]
  rintro ⟨-,-,h,-⟩
  have h1:=(h i (by omega)).1
  rw [walls_get (by omega)] at *
  simp only [mod_nat2 (show i + 2≤4611686018427387904 by omega),Int.toNat_natCast] at *
  simp_all [wl]
 ·have hin:(i:Int) < (walls xs).length:=by omega
  have ht:turn (pAt xs i) (pCy xs (i + 1)) (pCy xs (i + 2))≠0:=by
   have:=h_
   rw [walls_get (by omega),mod_nat2 (by omega),Int.toNat_natCast] at this
   exact fun e=>by simp_all [wl]
  refine awp'_loop (fun k σ=>i + 2≤k∧(∀ j,i + 2≤j→j < k→j < xs.length→(j + 1) % xs.length≠i→meet (wl xs i) (wl xs j)=false)∧HasX σ [(1,vRoom xs),(3,vInt xs.length),(4,vWalls (walls xs)),(23,vWalls (walls xs)),(24,vInt (walls xs).length),(25,vInt i),(5,vInt i),(7,vInt k)]
   [(6,6,true,.box t_impl_Wall (cWall ((walls xs).getD i ((0,0),(0,0)))))]) (fun k=>xs.length - k) (i + 2) ⟨Nat.le_refl _,fun j h1 h2=>absurd h1 (by omega),?_⟩ ?_
  ·(repeat' (first|(with_reducible first|exact True.intro|refine zQ ?_|(refine zG hG_ ?_;intro K_ hK_)|(refine zR ?_;intro K_ hK_)|(refine hK_ _ _ ?_;try clear hK_ K_)|refine sq_n ?_|refine sq_r ?_|refine sq_e ?_|refine bq_n ?_|refine bq_r ?_|refine bq_q ?_|refine zB ?_|refine zX ?_|refine zT ?_|refine zK ?_|refine gq_n ?_|refine gq_r ?_|refine gq_e ?_|refine lq_n ?_|refine lq_r ?_|refine lq_e ?_|refine bq_e (by decide) ?_)|((with_reducible refine zC (b:=?b_) ?hb_ ?_ ?_);case hb_=>rfl)|((conv=>whnf);first|(with_reducible refine hK_ _ _ ?_;try clear hK_ K_)|(with_reducible refine fun (g_:Sl) (o_:Ow)=>?_)|(with_reducible first|exact True.intro|refine And.intro trivial ?_|refine And.intro ?_ ?_)|exact Nat.le_of_ble_eq_true rfl|exact Or.inl rfl|(intro h_;cases h_)|(intro h_;(try simp only [vS1] at h_))|rfl))) <;> (try (conv=>whnf)) <;> (try first|change (_:Int)≤_|change (_:Nat)≤_)
   exact congrArg vInt (by rw [W_in (by omega) (by omega)];rfl)
  rintro k s_ w_ ⟨hk,hin2,h⟩
  obtain ⟨g,o,v,rfl,rfl⟩:=hasX_ex h
  clear h
  have hk2:(k:Int) < xs.length→IntKind.i64.wrap ((k:Int) + 1)=((k + 1:Nat):Int):=fun _=>W_nat (by omega)
  have hk3:(k:Int) < xs.length→(IntKind.i64.wrap ((k:Int) + 1)).tmod xs.length=(((k + 1) % xs.length:Nat):Int):=fun _=>mod_nat1 (by omega)
  (repeat' (first|(with_reducible first|exact True.intro|refine zQ ?_|(refine zG hG_ ?_;intro K_ hK_)|(refine zR ?_;intro K_ hK_)|(refine hK_ _ _ ?_;try clear hK_ K_)|refine sq_n ?_|refine sq_r ?_|refine sq_e ?_|refine bq_n ?_|refine bq_r ?_|refine bq_q ?_|refine zB ?_|refine zX ?_|refine zT ?_|refine zK ?_|refine gq_n ?_|refine gq_r ?_|refine gq_e ?_|refine lq_n ?_|refine lq_r ?_|refine lq_e ?_|refine bq_e (by decide) ?_)|((with_reducible refine zC (b:=?b_) ?hb_ ?_ ?_);case hb_=>rfl)|((conv=>whnf);first|(with_reducible refine hK_ _ _ ?_;try clear hK_ K_)|(with_reducible refine fun (g_:Sl) (o_:Ow)=>?_)|(with_reducible first|exact True.intro|refine And.intro trivial ?_|refine And.intro ?_ ?_)|exact Nat.le_of_ble_eq_true rfl|exact Or.inl rfl|(intro h_;cases h_)|(intro h_;(try simp only [vS1] at h_))|rfl))) <;> (try (conv=>whnf)) <;> (try first|change (_:Int)≤_|change (_:Nat)≤_) <;> (try ((fail_if_success (with_reducible apply Exists.intro));(try dsimp only);(try simp only [vS1])))
  all_goals (try (fail_if_success (with_reducible apply Exists.intro));first|with_reducible assumption|omega|exact mdl (by omega)|exact ilo1 (by omega)|exact ilo2 (by omega)|exact ihi1 (by omega) (by omega)|exact ihi2 (by omega) (by omega))
  ·rename_i hlt hne
   have hm:=h_
   symm;rw [← Bool.not_eq_true,roomOk_iff,okAt_half]
   rintro ⟨-,-,h,-⟩
   rw [hk3 hlt] at hne
   rw [walls_get (by omega),walls_get (by omega)] at hm
   rw [(h i (by omega)).2 k hk (by omega) (fun e=>by simp [e] at hne)] at hm
   cases hm
  ·rename_i hlt hne
   have hm:=h_
   rw [walls_get (by omega),walls_get (by omega)] at hm
   refine ⟨k + 1,by omega,by omega,fun j h1 h2 h3 h4=>?_,?_⟩
   ·rcases Nat.lt_or_ge j k with h5|h5
    ·exact hin2 j h1 h5 h3 h4
    ·rw [show j=k by omega];exact hm
   ·rw [← hk2 hlt];(repeat' (first|(with_reducible first|exact True.intro|refine zQ ?_|(refine zG hG_ ?_;intro K_ hK_)|(refine zR ?_;intro K_ hK_)|(refine hK_ _ _ ?_;try clear hK_ K_)|refine sq_n ?_|refine sq_r ?_|refine sq_e ?_|refine bq_n ?_|refine bq_r ?_|refine bq_q ?_|refine zB ?_|refine zX ?_|refine zT ?_|refine zK ?_|refine gq_n ?_|refine gq_r ?_|refine gq_e ?_|refine lq_n ?_|refine lq_r ?_|refine lq_e ?_|refine bq_e (by decide) ?_)|((with_reducible refine zC (b:=?b_) ?hb_ ?_ ?_);case hb_=>rfl)|((conv=>whnf);first|(with_reducible refine hK_ _ _ ?_;try clear hK_ K_)|(with_reducible refine fun (g_:Sl) (o_:Ow)=>?_)|(with_reducible first|exact True.intro|refine And.intro trivial ?_|refine And.intro ?_ ?_)|exact Nat.le_of_ble_eq_true rfl|exact Or.inl rfl|(intro h_;cases h_)|(intro h_;(try simp only [vS1] at h_))|rfl))) <;> (try (conv=>whnf)) <;> (try first|change (_:Int)≤_|change (_:Nat)≤_)
  ·rename_i hlt
   have hne:=h_
   rw [hk3 hlt] at hne
   refine ⟨k + 1,by omega,by omega,fun j h1 h2 h3 h4=>?_,?_⟩
   ·rcases Nat.lt_or_ge j k with h5|h5
    ·exact hin2 j h1 h5 h3 h4
    ·exact absurd (by rw [show j=k by omega];exact Int.ofNat_inj.1 (bne_eq_false_iff_eq.1 hne)) h4
   ·rw [← hk2 hlt];(repeat' (first|(with_reducible first|exact True.intro|refine zQ ?_|(refine zG hG_ ?_;intro K_ hK_)|(refine zR ?_;intro K_ hK_)|(refine hK_ _ _ ?_;try clear hK_ K_)|refine sq_n ?_|refine sq_r ?_|refine sq_e ?_|refine bq_n ?_|refine bq_r ?_|refine bq_q ?_|refine zB ?_|refine zX ?_|refine zT ?_|refine zK ?_|refine gq_n ?_|refine gq_r ?_|refine gq_e ?_|refine lq_n ?_|refine lq_r ?_|refine lq_e ?_|refine bq_e (by decide) ?_)|((with_reducible refine zC (b:=?b_) ?hb_ ?_ ?_);case hb_=>rfl)|((conv=>whnf);first|(with_reducible refine hK_ _ _ ?_;try clear hK_ K_)|(with_reducible refine fun (g_:Sl) (o_:Ow)=>?_)|(with_reducible first|exact True.intro|refine And.intro trivial ?_|refine And.intro ?_ ?_)|exact Nat.le_of_ble_eq_true rfl|exact Or.inl rfl|(intro h_;cases h_)|(intro h_;(try simp only [vS1] at h_))|rfl))) <;> (try (conv=>whnf)) <;> (try first|change (_:Int)≤_|change (_:Nat)≤_)
  ·have hge:=h_
   refine ⟨i + 1,by omega,by omega,fun j hj=>?_,?_⟩
   ·rcases Nat.lt_or_ge j i with h5|h5
    ·exact hall j h5
    ·rw [show j=i by omega]
     refine ⟨?_,fun m h1 h2 h3=>hin2 m h1 (by omega) h2 h3⟩
     exact ht
   ·rw [← W_nat (by omega)];(repeat' (first|(with_reducible first|exact True.intro|refine zQ ?_|(refine zG hG_ ?_;intro K_ hK_)|(refine zR ?_;intro K_ hK_)|(refine hK_ _ _ ?_;try clear hK_ K_)|refine sq_n ?_|refine sq_r ?_|refine sq_e ?_|refine bq_n ?_|refine bq_r ?_|refine bq_q ?_|refine zB ?_|refine zX ?_|refine zT ?_|refine zK ?_|refine gq_n ?_|refine gq_r ?_|refine gq_e ?_|refine lq_n ?_|refine lq_r ?_|refine lq_e ?_|refine bq_e (by decide) ?_)|((with_reducible refine zC (b:=?b_) ?hb_ ?_ ?_);case hb_=>rfl)|((conv=>whnf);first|(with_reducible refine hK_ _ _ ?_;try clear hK_ K_)|(with_reducible refine fun (g_:Sl) (o_:Ow)=>?_)|(with_reducible first|exact True.intro|refine And.intro trivial ?_|refine And.intro ?_ ?_)|exact Nat.le_of_ble_eq_true rfl|exact Or.inl rfl|(intro h_;cases h_)|(intro h_;(try simp only [vS1] at h_))|rfl))) <;> (try (conv=>whnf)) <;> (try first|change (_:Int)≤_|change (_:Nat)≤_)
 ·have hin:i=xs.length:=by omega
  subst hin
  have hb:=btw_iff.1 ‹btw _ _ _=true›
  have hb2:3≤xs.length∧xs.length≤10:=by omega
  rw [Bool.eq_iff_iff,roomOk_iff,okAt_half]
  simp_all [btw]
theorem _root_.Go.Proofs.Ytnepfcnlngpchaa.vS2:type_of% (And.intro @List.length_append.{0} (And.intro @List.length_take.{0} (And.intro @List.length_replicate.{0} (And.intro @List.length_set.{0} (And.intro @List.length_map.{0,0} (And.intro @List.length_cons.{0} (And.intro @List.length_nil.{0} (And.intro @prodEta (And.intro @Int.toNat_natCast (And.intro @beq_iff_eq.{0} (And.intro @beq_eq_false_iff_ne.{0} (And.intro @bne_iff_ne.{0} (And.intro @bne_eq_false_iff_eq.{0} (And.intro @ne_eq.{1} (And.intro @Int.natCast_inj (And.intro @Int.ofNat_lt @Int.ofNat_le)))))))))))))))):=⟨List.length_append,List.length_take,List.length_replicate,List.length_set,List.length_map,List.length_cons,List.length_nil,prodEta,Int.toNat_natCast,beq_iff_eq,beq_eq_false_iff_ne,bne_iff_ne,bne_eq_false_iff_eq,ne_eq,Int.natCast_inj,Int.ofNat_lt,Int.ofNat_le⟩
theorem _root_.Go.Proofs.Ytnepfcnlngpchaa.vS3:type_of% (And.intro @ptEq2 (And.intro @cond_true.{1} (And.intro @cond_false.{1} (And.intro @decide_eq_true_eq (And.intro @decide_eq_false_iff_not (And.intro @List.length_drop.{0} (And.intro @List.take_length.{0} (And.intro @Int.toNat_zero (And.intro @List.drop_zero.{0} (And.intro @Nat.zero_add (And.intro @List.nil_append.{0} (And.intro @mod_nat1 (And.intro @mod_nat2 (And.intro @tm1 (And.intro @tm2 (And.intro @tmj @W_in)))))))))))))))):=⟨ptEq2,cond_true,cond_false,decide_eq_true_eq,decide_eq_false_iff_not,List.length_drop,List.take_length,Int.toNat_zero,List.drop_zero,Nat.zero_add,List.nil_append,mod_nat1,mod_nat2,tm1,tm2,tmj,W_in⟩
set_option maxHeartbeats 4000000 in
theorem sRoomOk_ok:Good1 Try.prog n_spec_RoomOk roomOkC:=by
 refine good_ofG (tys:=tyL) (env:=[(n_spec_l01In,btwC),(n_spec_PointOk,ptOkC),(n_spec_l02Turn,turnC),(n_spec_DoMeet,meetC),(n_spec_l04Double,areaC)]) (envw:=[]) (envd:=[]) [] [37,38,43,44] [] [] [] mixed tys ⟨l01In_ok,sPointOk_ok,l02Turn_ok,sDoMeet_ok,l04Double_ok,trivial⟩ trivial trivial Try.func112 rfl (by kernel_rfl) (by decide) (by kernel_rfl) ?_
 have hG_:=kpz [(0,[1]),(1,[1,3]),(2,[1,3,14]),(3,[2]),(4,[1,3,4]),(5,[1,3,4,17]),(6,[1,3,4]),(7,[1,3,4,26]),(8,[2]),(9,[1,3,5]),(10,[1,3,5,29]),(11,[1,3,5]),(12,[1,3,5,6]),(13,[1,3,5,6,7]),(14,[1,3,5,6,7,56]),(15,[2]),(16,[1,3,5,6,7,8]),(17,[1,3,5,6,7,8,59]),(18,[1,3,5,6,7,8]),(19,[1,3,5,6,7,8,80]),(20,[1,3,5,6,7,8,98]),(21,[2]),(22,[2])] [(12,[6]),(13,[6,7]),(14,[6,7]),(16,[6,7]),(17,[6,7]),(18,[6,7]),(19,[6,7]),(20,[6,7])] [] []
 rintro ⟨xs,⟨⟩⟩ hlen
 change xs.length≤_ at hlen
 (repeat' (first|(with_reducible first|exact True.intro|refine zQ ?_|(refine zG hG_ ?_;intro K_ hK_)|(refine zR ?_;intro K_ hK_)|(refine hK_ _ _ ?_;try clear hK_ K_)|refine sq_n ?_|refine sq_r ?_|refine sq_e ?_|refine bq_n ?_|refine bq_r ?_|refine bq_q ?_|refine zB ?_|refine zX ?_|refine zT ?_|refine zK ?_|refine gq_n ?_|refine gq_r ?_|refine gq_e ?_|refine lq_n ?_|refine lq_r ?_|refine lq_e ?_|refine bq_e (by decide) ?_)|((with_reducible refine zC (b:=?b_) ?hb_ ?_ ?_);case hb_=>rfl)|((conv=>whnf);first|(with_reducible refine hK_ _ _ ?_;try clear hK_ K_)|(with_reducible refine fun (g_:Sl) (o_:Ow)=>?_)|(with_reducible first|exact True.intro|refine And.intro trivial ?_|refine And.intro ?_ ?_)|exact Nat.le_of_ble_eq_true rfl|exact Or.inl rfl|(intro h_;cases h_)|(intro h_;(try simp only [vS1] at h_))|rfl))) <;> (try (conv=>whnf)) <;> (try first|change (_:Int)≤_|change (_:Nat)≤_) <;> (try ((fail_if_success (with_reducible apply Exists.intro));(try dsimp only);(try simp only [vS1])))
 all_goals (try (fail_if_success (with_reducible apply Exists.intro));first|with_reducible assumption|omega|exact mdl (by omega)|exact ilo1 (by omega)|exact ilo2 (by omega)|exact ihi1 (by omega) (by omega)|exact ihi2 (by omega) (by omega))
 ·symm;rw [← Bool.not_eq_true,roomOk_iff];simp [btw] at *;omega
 have hb:=btw_iff.1 ‹btw _ _ _=true›
 refine awp'_loopG (α:=Nat) (fun k ver_=>[(4,vInt k)]) (fun k ver_=>[]) (fun k ver_=>[]) (fun k=>k≤xs.length∧(xs.take k).all ptOk=true) (fun k=>xs.length - k) [1,3] [] (0) ?_
 conv=>whnf
 refine ⟨⟨?inv1_,?vals1_,?own1_,?fix1_⟩,?body1_⟩
 case' vals1_=>(repeat' (first|(with_reducible first|exact True.intro|refine And.intro ?_ ?_|refine Head.mk ?_ ?_ ?_ ?_)|((conv=>lhs;whnf);first|(with_reducible first|rfl|exact vInt_s (by omega))|exact rfl)|((conv=>whnf);first|(with_reducible first|exact True.intro|refine And.intro ?_ ?_)))) <;> (try (conv=>lhs;whnf))
 case' own1_=>(repeat' (first|(with_reducible first|exact True.intro|refine And.intro ?_ ?_|refine Head.mk ?_ ?_ ?_ ?_)|((conv=>lhs;whnf);first|(with_reducible first|rfl|exact vInt_s (by omega))|exact rfl)|((conv=>whnf);first|(with_reducible first|exact True.intro|refine And.intro ?_ ?_)))) <;> (try (conv=>lhs;whnf))
 case' fix1_=>(repeat' (first|(with_reducible first|exact True.intro|refine And.intro ?_ ?_|refine Head.mk ?_ ?_ ?_ ?_)|((conv=>lhs;whnf);first|(with_reducible first|rfl|exact vInt_s (by omega))|exact rfl)|((conv=>whnf);first|(with_reducible first|exact True.intro|refine And.intro ?_ ?_)))) <;> (try (conv=>lhs;whnf))
 ·exact ⟨Nat.zero_le _,by simp⟩
 rintro k g_ o_ v_ ⟨hk,hall⟩
 (repeat' (first|(with_reducible first|exact True.intro|refine zQ ?_|(refine zG hG_ ?_;intro K_ hK_)|(refine zR ?_;intro K_ hK_)|(refine hK_ _ _ ?_;try clear hK_ K_)|refine sq_n ?_|refine sq_r ?_|refine sq_e ?_|refine bq_n ?_|refine bq_r ?_|refine bq_q ?_|refine zB ?_|refine zX ?_|refine zT ?_|refine zK ?_|refine gq_n ?_|refine gq_r ?_|refine gq_e ?_|refine lq_n ?_|refine lq_r ?_|refine lq_e ?_|refine bq_e (by decide) ?_)|((with_reducible refine zC (b:=?b_) ?hb_ ?_ ?_);case hb_=>rfl)|((conv=>whnf);first|(with_reducible refine hK_ _ _ ?_;try clear hK_ K_)|(with_reducible refine fun (g_:Sl) (o_:Ow)=>?_)|(with_reducible first|exact True.intro|refine And.intro trivial ?_|refine And.intro ?_ ?_)|exact Nat.le_of_ble_eq_true rfl|exact Or.inl rfl|(intro h_;cases h_)|(intro h_;(try simp only [vS1] at h_))|rfl))) <;> (try (conv=>whnf)) <;> (try first|change (_:Int)≤_|change (_:Nat)≤_) <;> (try ((fail_if_success (with_reducible apply Exists.intro));(try dsimp only);(try simp only [vS1])))
 all_goals (try (fail_if_success (with_reducible apply Exists.intro));first|with_reducible assumption|omega|exact mdl (by omega)|exact ilo1 (by omega)|exact ilo2 (by omega)|exact ihi1 (by omega) (by omega)|exact ihi2 (by omega) (by omega))
 ·symm;rw [← Bool.not_eq_true,roomOk_iff,all_no (k:=k) _ (by omega) h_];simp
 ·refine ⟨k + 1,by omega,⟨by omega,?_⟩,?_⟩
  ·rw [all_succ (0,0) (by omega),hall];simpa using h_
  ·(repeat' (first|(with_reducible first|exact True.intro|refine And.intro ?_ ?_|refine Head.mk ?_ ?_ ?_ ?_)|((conv=>lhs;whnf);first|(with_reducible first|rfl|exact vInt_s (by omega))|exact rfl)|((conv=>whnf);first|(with_reducible first|exact True.intro|refine And.intro ?_ ?_)))) <;> (try (conv=>lhs;whnf))
 have hpts:=take_all (by omega) hall
 clear hall
 refine awp'_loopG (α:=Nat) (fun i ver_=>[(5,vInt i)]) (fun i ver_=>[]) (fun i ver_=>[]) (fun i=>i≤xs.length∧∀ j,j < i→okAt xs j=true) (fun i=>xs.length - i) [1,3] [] (0) ?_
 conv=>whnf
 refine ⟨⟨?inv2_,?vals2_,?own2_,?fix2_⟩,?body2_⟩
 case' vals2_=>(repeat' (first|(with_reducible first|exact True.intro|refine And.intro ?_ ?_|refine Head.mk ?_ ?_ ?_ ?_)|((conv=>lhs;whnf);first|(with_reducible first|rfl|exact vInt_s (by omega))|exact rfl)|((conv=>whnf);first|(with_reducible first|exact True.intro|refine And.intro ?_ ?_)))) <;> (try (conv=>lhs;whnf))
 case' own2_=>(repeat' (first|(with_reducible first|exact True.intro|refine And.intro ?_ ?_|refine Head.mk ?_ ?_ ?_ ?_)|((conv=>lhs;whnf);first|(with_reducible first|rfl|exact vInt_s (by omega))|exact rfl)|((conv=>whnf);first|(with_reducible first|exact True.intro|refine And.intro ?_ ?_)))) <;> (try (conv=>lhs;whnf))
 case' fix2_=>(repeat' (first|(with_reducible first|exact True.intro|refine And.intro ?_ ?_|refine Head.mk ?_ ?_ ?_ ?_)|((conv=>lhs;whnf);first|(with_reducible first|rfl|exact vInt_s (by omega))|exact rfl)|((conv=>whnf);first|(with_reducible first|exact True.intro|refine And.intro ?_ ?_)))) <;> (try (conv=>lhs;whnf))
 ·exact ⟨Nat.zero_le _,fun i hi=>absurd hi (by omega)⟩
 rintro i g_ o_ v_ ⟨hi,hall⟩
 (repeat' (first|(with_reducible first|exact True.intro|refine zQ ?_|(refine zG hG_ ?_;intro K_ hK_)|(refine zR ?_;intro K_ hK_)|(refine hK_ _ _ ?_;try clear hK_ K_)|refine sq_n ?_|refine sq_r ?_|refine sq_e ?_|refine bq_n ?_|refine bq_r ?_|refine bq_q ?_|refine zB ?_|refine zX ?_|refine zT ?_|refine zK ?_|refine gq_n ?_|refine gq_r ?_|refine gq_e ?_|refine lq_n ?_|refine lq_r ?_|refine lq_e ?_|refine bq_e (by decide) ?_)|((with_reducible refine zC (b:=?b_) ?hb_ ?_ ?_);case hb_=>rfl)|((conv=>whnf);first|(with_reducible refine hK_ _ _ ?_;try clear hK_ K_)|(with_reducible refine fun (g_:Sl) (o_:Ow)=>?_)|(with_reducible first|exact True.intro|refine And.intro trivial ?_|refine And.intro ?_ ?_)|exact Nat.le_of_ble_eq_true rfl|exact Or.inl rfl|(intro h_;cases h_)|(intro h_;(try simp only [vS1] at h_))|rfl))) <;> (try (conv=>whnf)) <;> (try first|change (_:Int)≤_|change (_:Nat)≤_) <;> (try ((fail_if_success (with_reducible apply Exists.intro));(try dsimp only);(try simp only [vS1])))
 all_goals (try (fail_if_success (with_reducible apply Exists.intro));first|with_reducible assumption|omega|exact mdl (by omega)|exact ilo1 (by omega)|exact ilo2 (by omega)|exact ihi1 (by omega) (by omega)|exact ihi2 (by omega) (by omega))
 ·symm;rw [← Bool.not_eq_true,roomOk_iff]
  rintro ⟨-,-,h,-⟩
  have h1:=(okAt_iff.1 (h i (by omega))).1
  rw [mod_nat1 (by omega),mod_nat2 (by omega),Int.toNat_natCast,Int.toNat_natCast] at h_
  exact h1 (eq_of_beq h_)
 ·have ht:turn (pAt xs i) (pCy xs (i + 1)) (pCy xs (i + 2))≠0:=by
   have:=h_
   rw [mod_nat1 (by omega),mod_nat2 (by omega),Int.toNat_natCast,Int.toNat_natCast] at this
   exact fun e=>(beq_eq_false_iff_ne.1 this) e
  have hin:(i:Int) < xs.length:=by omega
  have hi3:(IntKind.i64.wrap ((i:Int) + 1)).tmod xs.length=(((i + 1) % xs.length:Nat):Int):=mod_nat1 (by omega)
  clear h_
  refine awp'_loopG (α:=Nat) (fun k ver_=>[(8,vInt k)]) (fun k ver_=>[]) (fun k ver_=>[]) (fun k=>k≤xs.length∧∀ j,j < k→j≠i→(j + 1) % xs.length≠i→(i + 1) % xs.length≠j→meet (wl xs i) (wl xs j)=false) (fun k=>xs.length - k) [1,3,5,6,7] [6,7] (0) ?_
  conv=>whnf
  refine ⟨⟨?inv3_,?vals3_,?own3_,?fix3_⟩,?body3_⟩
  case' vals3_=>(repeat' (first|(with_reducible first|exact True.intro|refine And.intro ?_ ?_|refine Head.mk ?_ ?_ ?_ ?_)|((conv=>lhs;whnf);first|(with_reducible first|rfl|exact vInt_s (by omega))|exact rfl)|((conv=>whnf);first|(with_reducible first|exact True.intro|refine And.intro ?_ ?_)))) <;> (try (conv=>lhs;whnf))
  case' own3_=>(repeat' (first|(with_reducible first|exact True.intro|refine And.intro ?_ ?_|refine Head.mk ?_ ?_ ?_ ?_)|((conv=>lhs;whnf);first|(with_reducible first|rfl|exact vInt_s (by omega))|exact rfl)|((conv=>whnf);first|(with_reducible first|exact True.intro|refine And.intro ?_ ?_)))) <;> (try (conv=>lhs;whnf))
  case' fix3_=>(repeat' (first|(with_reducible first|exact True.intro|refine And.intro ?_ ?_|refine Head.mk ?_ ?_ ?_ ?_)|((conv=>lhs;whnf);first|(with_reducible first|rfl|exact vInt_s (by omega))|exact rfl)|((conv=>whnf);first|(with_reducible first|exact True.intro|refine And.intro ?_ ?_)))) <;> (try (conv=>lhs;whnf))
  ·exact ⟨Nat.zero_le _,fun j h1=>absurd h1 (by omega)⟩
  rintro k g_ o_ v_ ⟨hk,hin2⟩
  (repeat' (first|(with_reducible first|exact True.intro|refine zQ ?_|(refine zG hG_ ?_;intro K_ hK_)|(refine zR ?_;intro K_ hK_)|(refine hK_ _ _ ?_;try clear hK_ K_)|refine sq_n ?_|refine sq_r ?_|refine sq_e ?_|refine bq_n ?_|refine bq_r ?_|refine bq_q ?_|refine zB ?_|refine zX ?_|refine zT ?_|refine zK ?_|refine gq_n ?_|refine gq_r ?_|refine gq_e ?_|refine lq_n ?_|refine lq_r ?_|refine lq_e ?_|refine bq_e (by decide) ?_)|((with_reducible refine zC (b:=?b_) ?hb_ ?_ ?_);case hb_=>rfl)|((conv=>whnf);first|(with_reducible refine hK_ _ _ ?_;try clear hK_ K_)|(with_reducible refine fun (g_:Sl) (o_:Ow)=>?_)|(with_reducible first|exact True.intro|refine And.intro trivial ?_|refine And.intro ?_ ?_)|exact Nat.le_of_ble_eq_true rfl|exact Or.inl rfl|(intro h_;cases h_)|(intro h_;(try simp only [vS1] at h_))|rfl))) <;> (try (conv=>whnf)) <;> (try first|change (_:Int)≤_|change (_:Nat)≤_) <;> (try ((fail_if_success (with_reducible apply Exists.intro));(try dsimp only);(try simp only [vS1])))
  all_goals (try (fail_if_success (with_reducible apply Exists.intro));first|with_reducible assumption|omega|exact mdl (by omega)|exact ilo1 (by omega)|exact ilo2 (by omega)|exact ihi1 (by omega) (by omega)|exact ihi2 (by omega) (by omega))
  all_goals (try simp (disch:=omega) only [vS3,vS2] at *)
  ·refine ⟨k + 1,by omega,⟨by omega,fun j h1 h2 h3 h4=>?_⟩,by (repeat' (first|(with_reducible first|exact True.intro|refine And.intro ?_ ?_|refine Head.mk ?_ ?_ ?_ ?_)|((conv=>lhs;whnf);first|(with_reducible first|rfl|exact vInt_s (by omega))|exact rfl)|((conv=>whnf);first|(with_reducible first|exact True.intro|refine And.intro ?_ ?_)))) <;> (try (conv=>lhs;whnf))⟩
   rcases Nat.lt_or_ge j k with h5|h5
   ·exact hin2 j h5 h2 h3 h4
   ·exact absurd (by omega) h2
  ·refine ⟨k + 1,by omega,⟨by omega,fun j h1 h2 h3 h4=>?_⟩,by (repeat' (first|(with_reducible first|exact True.intro|refine And.intro ?_ ?_|refine Head.mk ?_ ?_ ?_ ?_)|((conv=>lhs;whnf);first|(with_reducible first|rfl|exact vInt_s (by omega))|exact rfl)|((conv=>whnf);first|(with_reducible first|exact True.intro|refine And.intro ?_ ?_)))) <;> (try (conv=>lhs;whnf))⟩
   rcases Nat.lt_or_ge j k with h5|h5
   ·exact hin2 j h5 h2 h3 h4
   ·rw [show j=k by omega] at h3;exact absurd (by assumption) h3
  ·refine ⟨k + 1,by omega,⟨by omega,fun j h1 h2 h3 h4=>?_⟩,by (repeat' (first|(with_reducible first|exact True.intro|refine And.intro ?_ ?_|refine Head.mk ?_ ?_ ?_ ?_)|((conv=>lhs;whnf);first|(with_reducible first|rfl|exact vInt_s (by omega))|exact rfl)|((conv=>whnf);first|(with_reducible first|exact True.intro|refine And.intro ?_ ?_)))) <;> (try (conv=>lhs;whnf))⟩
   rcases Nat.lt_or_ge j k with h5|h5
   ·exact hin2 j h5 h2 h3 h4
   ·rw [show j=k by omega] at h4;exact absurd (by assumption) h4
  ·symm;rw [← Bool.not_eq_true,roomOk_iff]
   rintro ⟨-,-,h,-⟩
   have h2:=(okAt_iff.1 (h i (by omega))).2 k (by omega) ‹_› ‹_› ‹_›
   exact absurd (show meet (wl xs i) (wl xs k)=true by assumption) (by rw [h2];decide)
  ·refine ⟨k + 1,by omega,⟨by omega,fun j h1 h2 h3 h4=>?_⟩,by (repeat' (first|(with_reducible first|exact True.intro|refine And.intro ?_ ?_|refine Head.mk ?_ ?_ ?_ ?_)|((conv=>lhs;whnf);first|(with_reducible first|rfl|exact vInt_s (by omega))|exact rfl)|((conv=>whnf);first|(with_reducible first|exact True.intro|refine And.intro ?_ ?_)))) <;> (try (conv=>lhs;whnf))⟩
   rcases Nat.lt_or_ge j k with h5|h5
   ·exact hin2 j h5 h2 h3 h4
   ·rw [show j=k by omega];assumption
  ·refine ⟨i + 1,by omega,⟨by omega,fun j hj=>?_⟩,by (repeat' (first|(with_reducible first|exact True.intro|refine And.intro ?_ ?_|refine Head.mk ?_ ?_ ?_ ?_)|((conv=>lhs;whnf);first|(with_reducible first|rfl|exact vInt_s (by omega))|exact rfl)|((conv=>whnf);first|(with_reducible first|exact True.intro|refine And.intro ?_ ?_)))) <;> (try (conv=>lhs;whnf))⟩
   rcases Nat.lt_or_ge j i with h5|h5
   ·exact hall j h5
   ·rw [show j=i by omega]
    exact okAt_iff.2 ⟨ht,fun m h1 h2 h3 h4=>hin2 m (by omega) h2 h3 h4⟩
 ·rw [Bool.eq_iff_iff,roomOk_iff]
  simp only [decide_eq_true_eq]
  exact ⟨fun h=>⟨by omega,hpts,fun k hk=>hall k (by omega),h⟩,fun h=>h.2.2.2⟩
def ptRow (xs:List Pt):RV:=⟨.one (.own 0 0),some ⟨t_impl_Point,none,.b .pt,xs⟩⟩
def placeC:Con:=mkCon [.sl (.b .pt),.pt] (fun x=>x.1.length≤1048576) fun x=>vI (placeM x.1 x.2.1)
theorem placeM_on {xs:List Pt} {p:Pt} {k:Nat} (hk:k < xs.length) (h:onAt xs p k=true):placeM xs p=1:=by unfold placeM;rw [onAny_yes hk h];rfl
theorem placeM_off {xs:List Pt} {p:Pt} (h:∀ k,k < xs.length→onAt xs p k=false):placeM xs p=if par (upIAt xs p) xs.length then 2 else 0:=by unfold placeM;rw [onAny_no h];rfl
theorem holdsM_on {xs:List Pt} {p:Pt} {k:Nat} (hk:k < xs.length) (h:onAt xs p k=true):holdsM xs p=0:=by unfold holdsM;rw [onAny_yes hk h];rfl
theorem holdsM_off {xs:List Pt} {p:Pt} (h:∀ k,k < xs.length→onAt xs p k=false):holdsM xs p=if par (upSAt xs p) xs.length then 1 else -1:=by unfold holdsM;rw [onAny_no h];rfl
theorem par_t {f:Nat→Bool} {k:Nat} (h:f k=true):par f (k + 1)=!par f k:=by show (par f k != f k)=_;rw [h];cases par f k <;> rfl
theorem par_f {f:Nat→Bool} {k:Nat} (h:f k=false):par f (k + 1)=par f k:=by show (par f k != f k)=_;rw [h];cases par f k <;> rfl
theorem place_ok:Good1 Try.prog n_impl_place placeC:=by
 refine good_ofG (tys:=tyL) (env:=[(n_impl_on,onC),(n_impl_turn,turnC)]) (envw:=[]) (envd:=[]) [] [] [] [] [] mixed tys ⟨on_ok,turn_ok,trivial⟩ trivial trivial Try.func87 rfl (by kernel_rfl) (by decide) (by kernel_rfl) ?_
 have hG_:=kpz [(0,[0,3]),(1,[0,3,5]),(2,[0,3,5,9,10,11]),(3,[0,3,5,9,10,11,12]),(4,[0,3,5,6,7,9,10,11]),(5,[0,3,5,7,8,9,10,11]),(6,[0,3,5,7,8,9,10,11,27]),(7,[4]),(8,[0,3,5,9,10,11,51]),(9,[0,3,5,9,10,11]),(10,[0,3,5,9,10,11]),(11,[55]),(12,[4]),(13,[4])] [(4,[7]),(5,[7,8]),(6,[7,8])] [] []
 rintro ⟨(xs:List Pt),⟨(p:Int),(q:Int)⟩,⟨⟩⟩ (h1:xs.length≤_)
 (repeat' (first|(with_reducible first|exact True.intro|refine zQ ?_|(refine zG hG_ ?_;intro K_ hK_)|(refine zR ?_;intro K_ hK_)|(refine hK_ _ _ ?_;try clear hK_ K_)|refine sq_n ?_|refine sq_r ?_|refine sq_e ?_|refine bq_n ?_|refine bq_r ?_|refine bq_q ?_|refine zB ?_|refine zX ?_|refine zT ?_|refine zK ?_|refine gq_n ?_|refine gq_r ?_|refine gq_e ?_|refine lq_n ?_|refine lq_r ?_|refine lq_e ?_|refine bq_e (by decide) ?_)|((with_reducible refine zC (b:=?b_) ?hb_ ?_ ?_);case hb_=>rfl)|((conv=>whnf);first|(with_reducible refine hK_ _ _ ?_;try clear hK_ K_)|(with_reducible refine fun (g_:Sl) (o_:Ow)=>?_)|(with_reducible first|exact True.intro|refine And.intro trivial ?_|refine And.intro ?_ ?_)|exact Nat.le_of_ble_eq_true rfl|exact Or.inl rfl|(intro h_;cases h_)|(intro h_;(try simp only [vS1] at h_))|rfl))) <;> (try (conv=>whnf)) <;> (try first|change (_:Int)≤_|change (_:Nat)≤_) <;> (try ((fail_if_success (with_reducible apply Exists.intro));(try dsimp only);(try simp only [vS1]))) <;> (try simp (disch:=omega) only [vS3,vS2] at *)
 refine awp'_loopG (α:=Nat) (fun k ver_=>[(11,vInt k),(5,vBool (par (upIAt xs (p,q)) k))]) (fun k ver_=>[]) (fun k ver_=>[]) (fun k=>k≤xs.length∧∀ j,j < k→onAt xs (p,q) j=false) (fun k=>xs.length - k) [0,3,9,10] [] (0) ?_
 conv=>whnf
 refine ⟨⟨?inv1_,?vals1_,?own1_,?fix1_⟩,?body1_⟩
 case' vals1_=>(repeat' (first|(with_reducible first|exact True.intro|refine And.intro ?_ ?_|refine Head.mk ?_ ?_ ?_ ?_)|((conv=>lhs;whnf);first|(with_reducible first|rfl|exact vInt_s (by omega))|exact rfl)|((conv=>whnf);first|(with_reducible first|exact True.intro|refine And.intro ?_ ?_)))) <;> (try (conv=>lhs;whnf))
 case' own1_=>(repeat' (first|(with_reducible first|exact True.intro|refine And.intro ?_ ?_|refine Head.mk ?_ ?_ ?_ ?_)|((conv=>lhs;whnf);first|(with_reducible first|rfl|exact vInt_s (by omega))|exact rfl)|((conv=>whnf);first|(with_reducible first|exact True.intro|refine And.intro ?_ ?_)))) <;> (try (conv=>lhs;whnf))
 case' fix1_=>(repeat' (first|(with_reducible first|exact True.intro|refine And.intro ?_ ?_|refine Head.mk ?_ ?_ ?_ ?_)|((conv=>lhs;whnf);first|(with_reducible first|rfl|exact vInt_s (by omega))|exact rfl)|((conv=>whnf);first|(with_reducible first|exact True.intro|refine And.intro ?_ ?_)))) <;> (try (conv=>lhs;whnf))
 ·exact ⟨Nat.zero_le _,fun j hj=>absurd hj (by omega)⟩
 rintro k g_ o_ v_ ⟨hk,hall⟩
 have hinv:onAt xs (p,q) k=false→∀ j,j < k + 1→onAt xs (p,q) j=false:=fun h j hj=>by
  rcases Nat.lt_or_ge j k with h5|h5
  ·exact hall j h5
  ·rw [show j=k by omega];exact h
 (repeat' (first|(with_reducible first|exact True.intro|refine zQ ?_|(refine zG hG_ ?_;intro K_ hK_)|(refine zR ?_;intro K_ hK_)|(refine hK_ _ _ ?_;try clear hK_ K_)|refine sq_n ?_|refine sq_r ?_|refine sq_e ?_|refine bq_n ?_|refine bq_r ?_|refine bq_q ?_|refine zB ?_|refine zX ?_|refine zT ?_|refine zK ?_|refine gq_n ?_|refine gq_r ?_|refine gq_e ?_|refine lq_n ?_|refine lq_r ?_|refine lq_e ?_|refine bq_e (by decide) ?_)|((with_reducible refine zC (b:=?b_) ?hb_ ?_ ?_);case hb_=>rfl)|((conv=>whnf);first|(with_reducible refine hK_ _ _ ?_;try clear hK_ K_)|(with_reducible refine fun (g_:Sl) (o_:Ow)=>?_)|(with_reducible first|exact True.intro|refine And.intro trivial ?_|refine And.intro ?_ ?_)|exact Nat.le_of_ble_eq_true rfl|exact Or.inl rfl|(intro h_;cases h_)|(intro h_;(try simp only [vS1] at h_))|rfl))) <;> (try (conv=>whnf)) <;> (try first|change (_:Int)≤_|change (_:Nat)≤_) <;> (try ((fail_if_success (with_reducible apply Exists.intro));(try dsimp only);(try simp only [vS1]))) <;> (try simp (disch:=omega) only [vS3,vS2] at *)
 all_goals (try (fail_if_success (with_reducible apply Exists.intro));first|with_reducible assumption|omega|exact mdl (by omega)|exact ilo1 (by omega)|exact ilo2 (by omega)|exact ihi1 (by omega) (by omega)|exact ihi2 (by omega) (by omega))
 ·exact (placeM_on ‹k < xs.length› h_).symm
 ·refine ⟨k + 1,by omega,⟨by omega,hinv (by assumption)⟩,?_⟩
  (repeat' (first|(with_reducible first|exact True.intro|refine And.intro ?_ ?_|refine Head.mk ?_ ?_ ?_ ?_)|((conv=>lhs;whnf);first|(with_reducible first|rfl|exact vInt_s (by omega))|exact rfl)|((conv=>whnf);first|(with_reducible first|exact True.intro|refine And.intro ?_ ?_)))) <;> (try (conv=>lhs;whnf))
  refine congrArg vBool (par_t ?_).symm
  simp only [upI,Bool.and_eq_true,bne_iff_ne,beq_iff_eq]
  exact ⟨by assumption,by assumption⟩
 ·refine ⟨k + 1,by omega,⟨by omega,hinv (by assumption)⟩,?_⟩
  (repeat' (first|(with_reducible first|exact True.intro|refine And.intro ?_ ?_|refine Head.mk ?_ ?_ ?_ ?_)|((conv=>lhs;whnf);first|(with_reducible first|rfl|exact vInt_s (by omega))|exact rfl)|((conv=>whnf);first|(with_reducible first|exact True.intro|refine And.intro ?_ ?_)))) <;> (try (conv=>lhs;whnf))
  refine congrArg vBool (par_f ?_).symm
  rw [← Bool.not_eq_true]
  simp only [upI,Bool.and_eq_true,bne_iff_ne,beq_iff_eq]
  exact fun h=>h_ h.2
 ·refine ⟨k + 1,by omega,⟨by omega,hinv (by assumption)⟩,?_⟩
  (repeat' (first|(with_reducible first|exact True.intro|refine And.intro ?_ ?_|refine Head.mk ?_ ?_ ?_ ?_)|((conv=>lhs;whnf);first|(with_reducible first|rfl|exact vInt_s (by omega))|exact rfl)|((conv=>whnf);first|(with_reducible first|exact True.intro|refine And.intro ?_ ?_)))) <;> (try (conv=>lhs;whnf))
  refine congrArg vBool (par_f ?_).symm
  rw [← Bool.not_eq_true]
  simp only [upI,Bool.and_eq_true,bne_iff_ne,beq_iff_eq]
  exact fun h=>h.1 h_
 ·rw [placeM_off fun j hj=>hall j (by omega),show xs.length=k by omega,if_pos (by assumption)]
 ·rw [placeM_off fun j hj=>hall j (by omega),show xs.length=k by omega,if_neg (by simp [*])]
def holdsC:Con:=mkCon [.sl (.b .pt),.pt] (fun x=>x.1.length≤1048576) fun x=>vI (holdsM x.1 x.2.1)
theorem upS_iff {p a b:Pt}:upS p a b=true↔(a.2≤p.2∧p.2 < b.2∧0 < turn a b p)∨(b.2≤p.2∧p.2 < a.2∧turn a b p < 0):=by
 unfold upS
 simp only [Bool.or_eq_true,Bool.and_eq_true,decide_eq_true_eq]
theorem sg_t {f:Nat→Bool} {k:Nat} (h:f k=true):0 - (if par f k then (1:Int) else -1)=if par f (k + 1) then 1 else -1:=by rw [par_t h];cases par f k <;> rfl
theorem sg_f {f:Nat→Bool} {k:Nat} (h:¬ f k=true):(if par f k then (1:Int) else -1)=if par f (k + 1) then 1 else -1:=by rw [par_f (by simpa using h)]
theorem l05Holds_ok:Good1 Try.prog n_spec_l05Holds holdsC:=by
  refine good_ofG (tys:=tyL) (env:=[(n_spec_l02Between,onC),(n_spec_l02Turn,turnC)]) (envw:=[]) (envd:=[]) [] [] [] [] [] mixed tys ⟨l02Between_ok,l02Turn_ok,trivial⟩ trivial trivial Try.func148 rfl (by kernel_rfl) (by decide) (by kernel_rfl) ?_
  have hG_:=kpz [(0,[0,3]),(1,[0,3,5]),(2,[0,3,5,6]),(3,[0,3,5,6,7]),(4,[0,3,5,6,7,14]),(5,[0,3,5,6,7]),(6,[0,3,5,6,7,8]),(7,[0,3,5,6,7,8,9]),(8,[0,3,5,6,7,8,9,31]),(9,[4]),(10,[0,3,5,6,7,71]),(11,[0,3,5,6,7]),(12,[4])] [(6,[8]),(7,[8,9]),(8,[8,9])] [] []
  rintro ⟨(xs:List Pt),⟨(p:Int),(q:Int)⟩,⟨⟩⟩ (h1:xs.length≤_)
  (repeat' (first|(with_reducible first|exact True.intro|refine zQ ?_|(refine zG hG_ ?_;intro K_ hK_)|(refine zR ?_;intro K_ hK_)|(refine hK_ _ _ ?_;try clear hK_ K_)|refine sq_n ?_|refine sq_r ?_|refine sq_e ?_|refine bq_n ?_|refine bq_r ?_|refine bq_q ?_|refine zB ?_|refine zX ?_|refine zT ?_|refine zK ?_|refine gq_n ?_|refine gq_r ?_|refine gq_e ?_|refine lq_n ?_|refine lq_r ?_|refine lq_e ?_|refine bq_e (by decide) ?_)|((with_reducible refine zC (b:=?b_) ?hb_ ?_ ?_);case hb_=>rfl)|((conv=>whnf);first|(with_reducible refine hK_ _ _ ?_;try clear hK_ K_)|(with_reducible refine fun (g_:Sl) (o_:Ow)=>?_)|(with_reducible first|exact True.intro|refine And.intro trivial ?_|refine And.intro ?_ ?_)|exact Nat.le_of_ble_eq_true rfl|exact Or.inl rfl|(intro h_;cases h_)|(intro h_;(try simp only [vS1] at h_))|rfl))) <;> (try (conv=>whnf)) <;> (try first|change (_:Int)≤_|change (_:Nat)≤_) <;> (try ((fail_if_success (with_reducible apply Exists.intro));(try dsimp only);(try simp only [vS1]))) <;> (try simp (disch:=omega) only [vS3,vS2] at *)
  refine awp'_loopG (α:=Nat) (fun k ver_=>[(7,vInt k),(5,vInt (if par (upSAt xs (p,q)) k then 1 else -1))]) (fun k ver_=>[]) (fun k ver_=>[]) (fun k=>k≤xs.length∧∀ j,j < k→onAt xs (p,q) j=false) (fun k=>xs.length - k) [0,3,6] [] (0) ?_
  conv=>whnf
  refine ⟨⟨?inv2_,?vals2_,?own2_,?fix2_⟩,?body2_⟩
  case' vals2_=>(repeat' (first|(with_reducible first|exact True.intro|refine And.intro ?_ ?_|refine Head.mk ?_ ?_ ?_ ?_)|((conv=>lhs;whnf);first|(with_reducible first|rfl|exact vInt_s (by omega))|exact rfl)|((conv=>whnf);first|(with_reducible first|exact True.intro|refine And.intro ?_ ?_)))) <;> (try (conv=>lhs;whnf))
  case' own2_=>(repeat' (first|(with_reducible first|exact True.intro|refine And.intro ?_ ?_|refine Head.mk ?_ ?_ ?_ ?_)|((conv=>lhs;whnf);first|(with_reducible first|rfl|exact vInt_s (by omega))|exact rfl)|((conv=>whnf);first|(with_reducible first|exact True.intro|refine And.intro ?_ ?_)))) <;> (try (conv=>lhs;whnf))
  case' fix2_=>(repeat' (first|(with_reducible first|exact True.intro|refine And.intro ?_ ?_|refine Head.mk ?_ ?_ ?_ ?_)|((conv=>lhs;whnf);first|(with_reducible first|rfl|exact vInt_s (by omega))|exact rfl)|((conv=>whnf);first|(with_reducible first|exact True.intro|refine And.intro ?_ ?_)))) <;> (try (conv=>lhs;whnf))
  · exact ⟨Nat.zero_le _,fun j hj=>absurd hj (by omega)⟩
  rintro k g_ o_ v_ ⟨hk,hall⟩
  have hinv:onAt xs (p,q) k=false→∀ j,j < k + 1→onAt xs (p,q) j=false:=fun h j hj=>by
    rcases Nat.lt_or_ge j k with h5|h5
    · exact hall j h5
    · rw [show j=k by omega];exact h
  have hup:upSAt xs (p,q) k=true↔((xs.getD k (ElK.b ElB.pt).dflt).2≤q∧q < (xs.getD ((k + 1) % xs.length) (ElK.b ElB.pt).dflt).2∧0 < turn (xs.getD k (ElK.b ElB.pt).dflt) (xs.getD ((k + 1) % xs.length) (ElK.b ElB.pt).dflt) (p,q))∨((xs.getD ((k + 1) % xs.length) (ElK.b ElB.pt).dflt).2≤q∧q < (xs.getD k (ElK.b ElB.pt).dflt).2∧turn (xs.getD k (ElK.b ElB.pt).dflt) (xs.getD ((k + 1) % xs.length) (ElK.b ElB.pt).dflt) (p,q) < 0):=upS_iff
  (repeat' (first|(with_reducible first|exact True.intro|refine zQ ?_|(refine zG hG_ ?_;intro K_ hK_)|(refine zR ?_;intro K_ hK_)|(refine hK_ _ _ ?_;try clear hK_ K_)|refine sq_n ?_|refine sq_r ?_|refine sq_e ?_|refine bq_n ?_|refine bq_r ?_|refine bq_q ?_|refine zB ?_|refine zX ?_|refine zT ?_|refine zK ?_|refine gq_n ?_|refine gq_r ?_|refine gq_e ?_|refine lq_n ?_|refine lq_r ?_|refine lq_e ?_|refine bq_e (by decide) ?_)|((with_reducible refine zC (b:=?b_) ?hb_ ?_ ?_);case hb_=>rfl)|((conv=>whnf);first|(with_reducible refine hK_ _ _ ?_;try clear hK_ K_)|(with_reducible refine fun (g_:Sl) (o_:Ow)=>?_)|(with_reducible first|exact True.intro|refine And.intro trivial ?_|refine And.intro ?_ ?_)|exact Nat.le_of_ble_eq_true rfl|exact Or.inl rfl|(intro h_;cases h_)|(intro h_;(try simp only [vS1] at h_))|rfl))) <;> (try (conv=>whnf)) <;> (try first|change (_:Int)≤_|change (_:Nat)≤_) <;> (try ((fail_if_success (with_reducible apply Exists.intro));(try dsimp only);(try simp only [vS1]))) <;> (try simp (disch:=omega) only [vS3,vS2] at *)
  all_goals (try (fail_if_success (with_reducible apply Exists.intro));first|with_reducible assumption|omega|exact mdl (by omega)|exact ilo1 (by omega)|exact ilo2 (by omega)|exact ihi1 (by omega) (by omega)|exact ihi2 (by omega) (by omega))
  · exact (holdsM_on ‹k < xs.length› h_).symm
  all_goals first
    | (exfalso;omega)
    | (rw [holdsM_off fun j hj=>hall j (by omega),show xs.length=k by omega])
    | (refine ⟨k + 1,by omega,⟨by omega,hinv (by assumption)⟩,?_⟩
       (repeat' (first|(with_reducible first|exact True.intro|refine And.intro ?_ ?_|refine Head.mk ?_ ?_ ?_ ?_)|((conv=>lhs;whnf);first|(with_reducible first|rfl|exact vInt_s (by omega))|exact rfl)|((conv=>whnf);first|(with_reducible first|exact True.intro|refine And.intro ?_ ?_)))) <;> (try (conv=>lhs;whnf))
       first|exact congrArg vInt (sg_t (hup.2 (by omega)))|exact congrArg vInt (sg_f (fun h=>by have:=hup.1 h;omega)))
def floorTC:Con:=mkCon [.room] (fun x=>x.1.length≤1048576) fun x=>ptRow (floorPts x.1)
theorem rowsN_len' (f:Pt→Bool) (x0 y0:Int) {m j:Nat} (hj:j≤81) (hm:m≤81):(rowsN f x0 y0 m j).length≤6561:=Nat.le_trans (rowsN_len f x0 y0 m j) (Nat.mul_le_mul hj hm)
def floorC:Con:=mkCon [.room] (fun x=>roomOk x.1=true) fun x=>ptRow (floorPts x.1)
theorem floor_ok:Good1 Try.prog n_impl_floor floorC:=by
 refine good_ofG (tys:=tyL) (env:=[(n_impl_place,placeC)]) (envw:=[]) (envd:=[]) [49] [11,12,13,14,15,16,17,18] [] [] [] mixed tys ⟨place_ok,trivial⟩ trivial trivial Try.func64 rfl (by kernel_rfl) (by decide) (by kernel_rfl) ?_
 have hG_:=kpz [(0,[1]),(1,[1,3,4]),(2,[1,3,4,20,21,22]),(3,[1,3,4,20,21,22,23]),(4,[1,3,4,6,20,21,22]),(5,[1,3,4,6,20,21,22]),(6,[1,3,4,20,21,22]),(7,[1,3,4,20,21,22]),(8,[1,3,4,7]),(9,[1,3,4,7,8]),(10,[1,3,4,7,8,55]),(11,[1,3,4,7,8]),(12,[1,3,4,7,8,9]),(13,[1,3,4,7,8,9,63]),(14,[1,3,4,7,8,9]),(15,[1,3,4,7,8,9,10]),(16,[1,3,4,7,8,9,10,73]),(17,[1,3,4,7,8,9]),(18,[2])] [(1,[3,4]),(2,[3,4]),(3,[3,4]),(4,[3,4,6]),(5,[3,4,6]),(6,[3,4]),(7,[3,4]),(8,[3,4,49]),(9,[3,4,49]),(10,[3,4,49]),(11,[3,4,49]),(12,[3,4,49]),(13,[3,4,49]),(14,[3,4,49]),(15,[3,4,10,49]),(16,[3,4,10,49]),(17,[3,4,49]),(18,[49])] [] []
 rintro ⟨(xs:List Pt),⟨⟩⟩ (hr:roomOk xs=true)
 have hn:=room_len hr
 have hp0:=pAt0_room hr
 (repeat' (first|(with_reducible first|exact True.intro|refine zQ ?_|(refine zG hG_ ?_;intro K_ hK_)|(refine zR ?_;intro K_ hK_)|(refine hK_ _ _ ?_;try clear hK_ K_)|refine sq_n ?_|refine sq_r ?_|refine sq_e ?_|refine bq_n ?_|refine bq_r ?_|refine bq_q ?_|refine zB ?_|refine zX ?_|refine zT ?_|refine zK ?_|refine gq_n ?_|refine gq_r ?_|refine gq_e ?_|refine lq_n ?_|refine lq_r ?_|refine lq_e ?_|refine bq_e (by decide) ?_)|((with_reducible refine zC (b:=?b_) ?hb_ ?_ ?_);case hb_=>rfl)|((conv=>whnf);first|(with_reducible refine hK_ _ _ ?_;try clear hK_ K_)|(with_reducible refine fun (g_:Sl) (o_:Ow)=>?_)|(with_reducible first|exact True.intro|refine And.intro trivial ?_|refine And.intro ?_ ?_)|exact Nat.le_of_ble_eq_true rfl|exact Or.inl rfl|(intro h_;cases h_)|(intro h_;(try simp only [vS1] at h_))|rfl))) <;> (try (conv=>whnf)) <;> (try first|change (_:Int)≤_|change (_:Nat)≤_) <;> (try ((fail_if_success (with_reducible apply Exists.intro));(try dsimp only);(try simp only [vS1]))) <;> (try simp (disch:=omega) only [vS3,vS2] at *)
 all_goals (try (fail_if_success (with_reducible apply Exists.intro));first|with_reducible assumption|omega|exact mdl (by omega)|exact ilo1 (by omega)|exact ilo2 (by omega)|exact ihi1 (by omega) (by omega)|exact ihi2 (by omega) (by omega))
 refine awp'_loopG (α:=Nat) (fun k ver_=>[(22,vInt k)]) (fun k ver_=>[(3,3,true,.box t_impl_Point [.d (.int .i64 (minX xs k)),.d (.int .i64 (minY xs k))]),(4,4,true,.box t_impl_Point [.d (.int .i64 (maxX xs k)),.d (.int .i64 (maxY xs k))])]) (fun k ver_=>[]) (fun k=>k≤xs.length) (fun k=>xs.length - k) [1,20,21] [] (0) ?_
 conv=>whnf
 refine ⟨⟨?inv3_,?vals3_,?own3_,?fix3_⟩,?body3_⟩
 case' vals3_=>(repeat' (first|(with_reducible first|exact True.intro|refine And.intro ?_ ?_|refine Head.mk ?_ ?_ ?_ ?_)|((conv=>lhs;whnf);first|(with_reducible first|rfl|exact vInt_s (by omega))|exact rfl)|((conv=>whnf);first|(with_reducible first|exact True.intro|refine And.intro ?_ ?_)))) <;> (try (conv=>lhs;whnf))
 case' own3_=>(repeat' (first|(with_reducible first|exact True.intro|refine And.intro ?_ ?_|refine Head.mk ?_ ?_ ?_ ?_)|((conv=>lhs;whnf);first|(with_reducible first|rfl|exact vInt_s (by omega))|exact rfl)|((conv=>whnf);first|(with_reducible first|exact True.intro|refine And.intro ?_ ?_)))) <;> (try (conv=>lhs;whnf))
 case' fix3_=>(repeat' (first|(with_reducible first|exact True.intro|refine And.intro ?_ ?_|refine Head.mk ?_ ?_ ?_ ?_)|((conv=>lhs;whnf);first|(with_reducible first|rfl|exact vInt_s (by omega))|exact rfl)|((conv=>whnf);first|(with_reducible first|exact True.intro|refine And.intro ?_ ?_)))) <;> (try (conv=>lhs;whnf))
 ·exact Nat.zero_le _
 rintro k g_ o_ v_ hk
 (repeat' (first|(with_reducible first|exact True.intro|refine zQ ?_|(refine zG hG_ ?_;intro K_ hK_)|(refine zR ?_;intro K_ hK_)|(refine hK_ _ _ ?_;try clear hK_ K_)|refine sq_n ?_|refine sq_r ?_|refine sq_e ?_|refine bq_n ?_|refine bq_r ?_|refine bq_q ?_|refine zB ?_|refine zX ?_|refine zT ?_|refine zK ?_|refine gq_n ?_|refine gq_r ?_|refine gq_e ?_|refine lq_n ?_|refine lq_r ?_|refine lq_e ?_|refine bq_e (by decide) ?_)|((with_reducible refine zC (b:=?b_) ?hb_ ?_ ?_);case hb_=>rfl)|((conv=>whnf);first|(with_reducible refine hK_ _ _ ?_;try clear hK_ K_)|(with_reducible refine fun (g_:Sl) (o_:Ow)=>?_)|(with_reducible first|exact True.intro|refine And.intro trivial ?_|refine And.intro ?_ ?_)|exact Nat.le_of_ble_eq_true rfl|exact Or.inl rfl|(intro h_;cases h_)|(intro h_;(try simp only [vS1] at h_))|rfl))) <;> (try (conv=>whnf)) <;> (try first|change (_:Int)≤_|change (_:Nat)≤_) <;> (try ((fail_if_success (with_reducible apply Exists.intro));(try dsimp only);(try simp only [vS1]))) <;> (try simp (disch:=omega) only [vS3,vS2] at *)
 all_goals (try (fail_if_success (with_reducible apply Exists.intro));first|with_reducible assumption|omega|exact mdl (by omega)|exact ilo1 (by omega)|exact ilo2 (by omega)|exact ihi1 (by omega) (by omega)|exact ihi2 (by omega) (by omega))
 ·refine ⟨k + 1,by omega,by omega,?_⟩
  (repeat' (first|(with_reducible first|exact True.intro|refine And.intro ?_ ?_|refine Head.mk ?_ ?_ ?_ ?_)|((conv=>lhs;whnf);first|(with_reducible first|rfl|exact vInt_s (by omega))|exact rfl)|((conv=>whnf);first|(with_reducible first|exact True.intro|refine And.intro ?_ ?_)))) <;> (try (conv=>lhs;whnf))
  ·exact congrArg (Own.box _) (by unfold minX minY;rw [fold_succ _ _ h_,fold_succ _ _ h_])
  ·exact congrArg (Own.box _) (by unfold maxX maxY;rw [fold_succ _ _ h_,fold_succ _ _ h_])
 obtain rfl:k=xs.length:=by omega
 have b1:=minX_bd hr xs.length
 have b2:=maxX_bd hr xs.length
 have b3:=minY_bd hr xs.length
 have b4:=maxY_bd hr xs.length
 have e1:spanX xs=(maxX xs xs.length + 1 - minX xs xs.length).toNat:=rfl
 have e2:spanY xs=(maxY xs xs.length + 1 - minY xs xs.length).toNat:=rfl
 refine awp'_loopG (α:=Nat) (fun j ver_=>[(8,vInt (minY xs xs.length + j))]) (fun j ver_=>[(7,49,false,.row t_impl_Point (.b .pt) (rowsN (inB xs) (minX xs xs.length) (minY xs xs.length) (spanX xs) j))]) (fun j ver_=>[]) (fun j=>j≤spanY xs) (fun j=>spanY xs - j) [1,3,4] [3,4] (0) ?_
 conv=>whnf
 refine ⟨⟨?inv4_,?vals4_,?own4_,?fix4_⟩,?body4_⟩
 case' vals4_=>(repeat' (first|(with_reducible first|exact True.intro|refine And.intro ?_ ?_|refine Head.mk ?_ ?_ ?_ ?_)|((conv=>lhs;whnf);first|(with_reducible first|rfl|exact vInt_s (by omega))|exact rfl)|((conv=>whnf);first|(with_reducible first|exact True.intro|refine And.intro ?_ ?_)))) <;> (try (conv=>lhs;whnf))
 case' own4_=>(repeat' (first|(with_reducible first|exact True.intro|refine And.intro ?_ ?_|refine Head.mk ?_ ?_ ?_ ?_)|((conv=>lhs;whnf);first|(with_reducible first|rfl|exact vInt_s (by omega))|exact rfl)|((conv=>whnf);first|(with_reducible first|exact True.intro|refine And.intro ?_ ?_)))) <;> (try (conv=>lhs;whnf))
 case' fix4_=>(repeat' (first|(with_reducible first|exact True.intro|refine And.intro ?_ ?_|refine Head.mk ?_ ?_ ?_ ?_)|((conv=>lhs;whnf);first|(with_reducible first|rfl|exact vInt_s (by omega))|exact rfl)|((conv=>whnf);first|(with_reducible first|exact True.intro|refine And.intro ?_ ?_)))) <;> (try (conv=>lhs;whnf))
 ·exact congrArg vInt (by omega)
 ·exact Nat.zero_le _
 rintro j g_ o_ v_ hj
 (repeat' (first|(with_reducible first|exact True.intro|refine zQ ?_|(refine zG hG_ ?_;intro K_ hK_)|(refine zR ?_;intro K_ hK_)|(refine hK_ _ _ ?_;try clear hK_ K_)|refine sq_n ?_|refine sq_r ?_|refine sq_e ?_|refine bq_n ?_|refine bq_r ?_|refine bq_q ?_|refine zB ?_|refine zX ?_|refine zT ?_|refine zK ?_|refine gq_n ?_|refine gq_r ?_|refine gq_e ?_|refine lq_n ?_|refine lq_r ?_|refine lq_e ?_|refine bq_e (by decide) ?_)|((with_reducible refine zC (b:=?b_) ?hb_ ?_ ?_);case hb_=>rfl)|((conv=>whnf);first|(with_reducible refine hK_ _ _ ?_;try clear hK_ K_)|(with_reducible refine fun (g_:Sl) (o_:Ow)=>?_)|(with_reducible first|exact True.intro|refine And.intro trivial ?_|refine And.intro ?_ ?_)|exact Nat.le_of_ble_eq_true rfl|exact Or.inl rfl|(intro h_;cases h_)|(intro h_;(try simp only [vS1] at h_))|rfl))) <;> (try (conv=>whnf)) <;> (try first|change (_:Int)≤_|change (_:Nat)≤_) <;> (try ((fail_if_success (with_reducible apply Exists.intro));(try dsimp only);(try simp only [vS1]))) <;> (try simp (disch:=omega) only [vS3,vS2] at *)
 all_goals (try (fail_if_success (with_reducible apply Exists.intro));first|with_reducible assumption|omega|exact mdl (by omega)|exact ilo1 (by omega)|exact ilo2 (by omega)|exact ihi1 (by omega) (by omega)|exact ihi2 (by omega) (by omega))
 ·have hj2:j < spanY xs:=by omega
  refine awp'_loopG (α:=Nat) (fun i ver_=>[(9,vInt (minX xs xs.length + i))]) (fun i ver_=>[(7,49,false,.row t_impl_Point (.b .pt) (rowsN (inB xs) (minX xs xs.length) (minY xs xs.length) (spanX xs) j ++ rowN (inB xs) (minX xs xs.length) (minY xs xs.length + j) i))]) (fun i ver_=>[]) (fun i=>i≤spanX xs) (fun i=>spanX xs - i) [1,3,4,8] [3,4] (0) ?_
  conv=>whnf
  refine ⟨⟨?inv5_,?vals5_,?own5_,?fix5_⟩,?body5_⟩
  case' vals5_=>(repeat' (first|(with_reducible first|exact True.intro|refine And.intro ?_ ?_|refine Head.mk ?_ ?_ ?_ ?_)|((conv=>lhs;whnf);first|(with_reducible first|rfl|exact vInt_s (by omega))|exact rfl)|((conv=>whnf);first|(with_reducible first|exact True.intro|refine And.intro ?_ ?_)))) <;> (try (conv=>lhs;whnf))
  case' own5_=>(repeat' (first|(with_reducible first|exact True.intro|refine And.intro ?_ ?_|refine Head.mk ?_ ?_ ?_ ?_)|((conv=>lhs;whnf);first|(with_reducible first|rfl|exact vInt_s (by omega))|exact rfl)|((conv=>whnf);first|(with_reducible first|exact True.intro|refine And.intro ?_ ?_)))) <;> (try (conv=>lhs;whnf))
  case' fix5_=>(repeat' (first|(with_reducible first|exact True.intro|refine And.intro ?_ ?_|refine Head.mk ?_ ?_ ?_ ?_)|((conv=>lhs;whnf);first|(with_reducible first|rfl|exact vInt_s (by omega))|exact rfl)|((conv=>whnf);first|(with_reducible first|exact True.intro|refine And.intro ?_ ?_)))) <;> (try (conv=>lhs;whnf))
  ·exact congrArg (Own.row _ _) (by unfold rowN;simp)
  ·exact congrArg vInt (Int.add_zero _).symm
  ·exact Nat.zero_le _
  rintro i g_ o_ v_ hi
  have hl:=rowsN_len' (inB xs) (minX xs xs.length) (minY xs xs.length) (show j≤81 by omega) (show spanX xs≤81 by omega)
  have hl2:=rowN_len (inB xs) (minX xs xs.length) (minY xs xs.length + j) i
  (repeat' (first|(with_reducible first|exact True.intro|refine zQ ?_|(refine zG hG_ ?_;intro K_ hK_)|(refine zR ?_;intro K_ hK_)|(refine hK_ _ _ ?_;try clear hK_ K_)|refine sq_n ?_|refine sq_r ?_|refine sq_e ?_|refine bq_n ?_|refine bq_r ?_|refine bq_q ?_|refine zB ?_|refine zX ?_|refine zT ?_|refine zK ?_|refine gq_n ?_|refine gq_r ?_|refine gq_e ?_|refine lq_n ?_|refine lq_r ?_|refine lq_e ?_|refine bq_e (by decide) ?_)|((with_reducible refine zC (b:=?b_) ?hb_ ?_ ?_);case hb_=>rfl)|((conv=>whnf);first|(with_reducible refine hK_ _ _ ?_;try clear hK_ K_)|(with_reducible refine fun (g_:Sl) (o_:Ow)=>?_)|(with_reducible first|exact True.intro|refine And.intro trivial ?_|refine And.intro ?_ ?_)|exact Nat.le_of_ble_eq_true rfl|exact Or.inl rfl|(intro h_;cases h_)|(intro h_;(try simp only [vS1] at h_))|rfl))) <;> (try (conv=>whnf)) <;> (try first|change (_:Int)≤_|change (_:Nat)≤_) <;> (try ((fail_if_success (with_reducible apply Exists.intro));(try dsimp only);(try simp only [vS1]))) <;> (try simp (disch:=omega) only [vS3,vS2] at *)
  all_goals (try (fail_if_success (with_reducible apply Exists.intro));first|with_reducible assumption|omega|exact mdl (by omega)|exact ilo1 (by omega)|exact ilo2 (by omega)|exact ihi1 (by omega) (by omega)|exact ihi2 (by omega) (by omega))
  ·refine ⟨i + 1,by omega,by omega,?_⟩
   (repeat' (first|(with_reducible first|exact True.intro|refine And.intro ?_ ?_|refine Head.mk ?_ ?_ ?_ ?_)|((conv=>lhs;whnf);first|(with_reducible first|rfl|exact vInt_s (by omega))|exact rfl)|((conv=>whnf);first|(with_reducible first|exact True.intro|refine And.intro ?_ ?_)))) <;> (try (conv=>lhs;whnf))
   ·exact congrArg vInt (by omega)
   ·refine congrArg (Own.row _ _) ?_
    rw [rowN_succ,if_pos (by simpa [inB] using h_),List.append_assoc]
  ·refine ⟨i + 1,by omega,by omega,?_⟩
   (repeat' (first|(with_reducible first|exact True.intro|refine And.intro ?_ ?_|refine Head.mk ?_ ?_ ?_ ?_)|((conv=>lhs;whnf);first|(with_reducible first|rfl|exact vInt_s (by omega))|exact rfl)|((conv=>whnf);first|(with_reducible first|exact True.intro|refine And.intro ?_ ?_)))) <;> (try (conv=>lhs;whnf))
   ·exact congrArg vInt (by omega)
   ·refine congrArg (Own.row _ _) ?_
    rw [rowN_succ,if_neg (by simpa [inB] using h_),List.append_nil]
  ·obtain rfl:i=spanX xs:=by omega
   refine ⟨j + 1,by omega,by omega,?_⟩
   (repeat' (first|(with_reducible first|exact True.intro|refine And.intro ?_ ?_|refine Head.mk ?_ ?_ ?_ ?_)|((conv=>lhs;whnf);first|(with_reducible first|rfl|exact vInt_s (by omega))|exact rfl)|((conv=>whnf);first|(with_reducible first|exact True.intro|refine And.intro ?_ ?_)))) <;> (try (conv=>lhs;whnf))
   ·exact congrArg vInt (by omega)
   ·exact congrArg (Own.row _ _) (rowsN_succ _ _ _ _ _).symm
 ·obtain rfl:j=spanY xs:=by omega
  refine congrArg some ?_
  unfold floorPts
  rw [if_pos hr];rfl
theorem floorPoints_ok:Good1 Try.prog n_spec_FloorPoints floorTC:=by
 refine good_ofG (tys:=tyL) (env:=[(n_spec_RoomOk,roomOkC),(n_spec_l05Holds,holdsC)]) (envw:=[]) (envd:=[]) [10] [32,33,35,36,37,38,42,43,45,46,47,48,52,53,55,56,57,58,62,63,65,66,67,68] [] [] [] mixed tys ⟨sRoomOk_ok,l05Holds_ok,trivial⟩ trivial trivial Try.func124 rfl (by kernel_rfl) (by decide) (by kernel_rfl) ?_
 have hG_:=kpz [(0,[1]),(1,[1,3]),(2,[1,3,13]),(3,[2]),(4,[1,3,4]),(5,[1,3,4,5]),(6,[1,3,4,5,6]),(7,[1,3,4,5,6,27]),(8,[1,3,4,5,6]),(9,[1,3,4,5,6]),(10,[1,3,4,5,6]),(11,[1,3,4,5,6]),(12,[1,3,4,5,6]),(13,[1,3,4,5,7]),(14,[1,3,4,5,7,75]),(15,[1,3,4,5,7]),(16,[1,3,4,5,7,8]),(17,[1,3,4,5,7,8,83]),(18,[1,3,4,5,7,8]),(19,[1,3,4,5,7,8,9]),(20,[1,3,4,5,7,8,9,93]),(21,[1,3,4,5,7,8]),(22,[2])] [(1,[10]),(2,[10]),(3,[10]),(4,[4,10]),(5,[4,5,10]),(6,[4,5,10]),(7,[4,5,10]),(8,[4,5,10]),(9,[4,5,10]),(10,[4,5,10]),(11,[4,5,10]),(12,[4,5,10]),(13,[4,5,10]),(14,[4,5,10]),(15,[4,5,10]),(16,[4,5,10]),(17,[4,5,10]),(18,[4,5,10]),(19,[4,5,9,10]),(20,[4,5,9,10]),(21,[4,5,10]),(22,[10])] [] []
 rintro ⟨(xs:List Pt),⟨⟩⟩ (h0:xs.length≤_)
 (repeat' (first|(with_reducible first|exact True.intro|refine zQ ?_|(refine zG hG_ ?_;intro K_ hK_)|(refine zR ?_;intro K_ hK_)|(refine hK_ _ _ ?_;try clear hK_ K_)|refine sq_n ?_|refine sq_r ?_|refine sq_e ?_|refine bq_n ?_|refine bq_r ?_|refine bq_q ?_|refine zB ?_|refine zX ?_|refine zT ?_|refine zK ?_|refine gq_n ?_|refine gq_r ?_|refine gq_e ?_|refine lq_n ?_|refine lq_r ?_|refine lq_e ?_|refine bq_e (by decide) ?_)|((with_reducible refine zC (b:=?b_) ?hb_ ?_ ?_);case hb_=>rfl)|((conv=>whnf);first|(with_reducible refine hK_ _ _ ?_;try clear hK_ K_)|(with_reducible refine fun (g_:Sl) (o_:Ow)=>?_)|(with_reducible first|exact True.intro|refine And.intro trivial ?_|refine And.intro ?_ ?_)|exact Nat.le_of_ble_eq_true rfl|exact Or.inl rfl|(intro h_;cases h_)|(intro h_;(try simp only [vS1] at h_))|rfl))) <;> (try (conv=>whnf)) <;> (try first|change (_:Int)≤_|change (_:Nat)≤_) <;> (try ((fail_if_success (with_reducible apply Exists.intro));(try dsimp only);(try simp only [vS1]))) <;> (try simp (disch:=omega) only [vS3,vS2] at *)
 ·exact h0
 ·refine congrArg some ?_
  unfold floorPts;rw [if_neg (by simp [*])]
 all_goals have hr:roomOk xs=true:=by assumption
 all_goals have hn:=room_len hr
 all_goals have hp0:=pAt0_room hr
 all_goals (try (fail_if_success (with_reducible apply Exists.intro));first|with_reducible assumption|omega|exact mdl (by omega)|exact ilo1 (by omega)|exact ilo2 (by omega)|exact ihi1 (by omega) (by omega)|exact ihi2 (by omega) (by omega))
 refine awp'_loopG (α:=Nat) (fun k ver_=>[(6,vInt k)]) (fun k ver_=>[(4,4,true,.box t_impl_Point [.d (.int .i64 (minX xs k)),.d (.int .i64 (minY xs k))]),(5,5,true,.box t_impl_Point [.d (.int .i64 (maxX xs k)),.d (.int .i64 (maxY xs k))])]) (fun k ver_=>[]) (fun k=>k≤xs.length) (fun k=>xs.length - k) [1,3] [10] (0) ?_
 conv=>whnf
 refine ⟨⟨?inv6_,?vals6_,?own6_,?fix6_⟩,?body6_⟩
 case' vals6_=>(repeat' (first|(with_reducible first|exact True.intro|refine And.intro ?_ ?_|refine Head.mk ?_ ?_ ?_ ?_)|((conv=>lhs;whnf);first|(with_reducible first|rfl|exact vInt_s (by omega))|exact rfl)|((conv=>whnf);first|(with_reducible first|exact True.intro|refine And.intro ?_ ?_)))) <;> (try (conv=>lhs;whnf))
 case' own6_=>(repeat' (first|(with_reducible first|exact True.intro|refine And.intro ?_ ?_|refine Head.mk ?_ ?_ ?_ ?_)|((conv=>lhs;whnf);first|(with_reducible first|rfl|exact vInt_s (by omega))|exact rfl)|((conv=>whnf);first|(with_reducible first|exact True.intro|refine And.intro ?_ ?_)))) <;> (try (conv=>lhs;whnf))
 case' fix6_=>(repeat' (first|(with_reducible first|exact True.intro|refine And.intro ?_ ?_|refine Head.mk ?_ ?_ ?_ ?_)|((conv=>lhs;whnf);first|(with_reducible first|rfl|exact vInt_s (by omega))|exact rfl)|((conv=>whnf);first|(with_reducible first|exact True.intro|refine And.intro ?_ ?_)))) <;> (try (conv=>lhs;whnf))
 ·exact Nat.zero_le _
 rintro k g_ o_ v_ hk
 (repeat' (first|(with_reducible first|exact True.intro|refine zQ ?_|(refine zG hG_ ?_;intro K_ hK_)|(refine zR ?_;intro K_ hK_)|(refine hK_ _ _ ?_;try clear hK_ K_)|refine sq_n ?_|refine sq_r ?_|refine sq_e ?_|refine bq_n ?_|refine bq_r ?_|refine bq_q ?_|refine zB ?_|refine zX ?_|refine zT ?_|refine zK ?_|refine gq_n ?_|refine gq_r ?_|refine gq_e ?_|refine lq_n ?_|refine lq_r ?_|refine lq_e ?_|refine bq_e (by decide) ?_)|((with_reducible refine zC (b:=?b_) ?hb_ ?_ ?_);case hb_=>rfl)|((conv=>whnf);first|(with_reducible refine hK_ _ _ ?_;try clear hK_ K_)|(with_reducible refine fun (g_:Sl) (o_:Ow)=>?_)|(with_reducible first|exact True.intro|refine And.intro trivial ?_|refine And.intro ?_ ?_)|exact Nat.le_of_ble_eq_true rfl|exact Or.inl rfl|(intro h_;cases h_)|(intro h_;(try simp only [vS1] at h_))|rfl))) <;> (try (conv=>whnf)) <;> (try first|change (_:Int)≤_|change (_:Nat)≤_) <;> (try ((fail_if_success (with_reducible apply Exists.intro));(try dsimp only);(try simp only [vS1]))) <;> (try simp (disch:=omega) only [vS3,vS2] at *)
 all_goals (try (fail_if_success (with_reducible apply Exists.intro));first|with_reducible assumption|omega|exact mdl (by omega)|exact ilo1 (by omega)|exact ilo2 (by omega)|exact ihi1 (by omega) (by omega)|exact ihi2 (by omega) (by omega))
 ·refine ⟨k + 1,by omega,by omega,?_⟩
  (repeat' (first|(with_reducible first|exact True.intro|refine And.intro ?_ ?_|refine Head.mk ?_ ?_ ?_ ?_)|((conv=>lhs;whnf);first|(with_reducible first|rfl|exact vInt_s (by omega))|exact rfl)|((conv=>whnf);first|(with_reducible first|exact True.intro|refine And.intro ?_ ?_)))) <;> (try (conv=>lhs;whnf))
  ·exact congrArg (Own.box _) (by unfold minX minY;rw [fold_succ _ _ h_,fold_succ _ _ h_])
  ·exact congrArg (Own.box _) (by unfold maxX maxY;rw [fold_succ _ _ h_,fold_succ _ _ h_])
 obtain rfl:k=xs.length:=by omega
 have b1:=minX_bd hr xs.length
 have b2:=maxX_bd hr xs.length
 have b3:=minY_bd hr xs.length
 have b4:=maxY_bd hr xs.length
 have e1:spanX xs=(maxX xs xs.length + 1 - minX xs xs.length).toNat:=rfl
 have e2:spanY xs=(maxY xs xs.length + 1 - minY xs xs.length).toNat:=rfl
 refine awp'_loopG (α:=Nat) (fun j ver_=>[(7,vInt (minY xs xs.length + j))]) (fun j ver_=>[(3,10,false,.row t_impl_Point (.b .pt) (rowsN (hoB xs) (minX xs xs.length) (minY xs xs.length) (spanX xs) j))]) (fun j ver_=>[]) (fun j=>j≤spanY xs) (fun j=>spanY xs - j) [1,4,5] [4,5] (0) ?_
 conv=>whnf
 refine ⟨⟨?inv7_,?vals7_,?own7_,?fix7_⟩,?body7_⟩
 case' vals7_=>(repeat' (first|(with_reducible first|exact True.intro|refine And.intro ?_ ?_|refine Head.mk ?_ ?_ ?_ ?_)|((conv=>lhs;whnf);first|(with_reducible first|rfl|exact vInt_s (by omega))|exact rfl)|((conv=>whnf);first|(with_reducible first|exact True.intro|refine And.intro ?_ ?_)))) <;> (try (conv=>lhs;whnf))
 case' own7_=>(repeat' (first|(with_reducible first|exact True.intro|refine And.intro ?_ ?_|refine Head.mk ?_ ?_ ?_ ?_)|((conv=>lhs;whnf);first|(with_reducible first|rfl|exact vInt_s (by omega))|exact rfl)|((conv=>whnf);first|(with_reducible first|exact True.intro|refine And.intro ?_ ?_)))) <;> (try (conv=>lhs;whnf))
 case' fix7_=>(repeat' (first|(with_reducible first|exact True.intro|refine And.intro ?_ ?_|refine Head.mk ?_ ?_ ?_ ?_)|((conv=>lhs;whnf);first|(with_reducible first|rfl|exact vInt_s (by omega))|exact rfl)|((conv=>whnf);first|(with_reducible first|exact True.intro|refine And.intro ?_ ?_)))) <;> (try (conv=>lhs;whnf))
 ·exact congrArg vInt (by omega)
 ·exact Nat.zero_le _
 rintro j g_ o_ v_ hj
 (repeat' (first|(with_reducible first|exact True.intro|refine zQ ?_|(refine zG hG_ ?_;intro K_ hK_)|(refine zR ?_;intro K_ hK_)|(refine hK_ _ _ ?_;try clear hK_ K_)|refine sq_n ?_|refine sq_r ?_|refine sq_e ?_|refine bq_n ?_|refine bq_r ?_|refine bq_q ?_|refine zB ?_|refine zX ?_|refine zT ?_|refine zK ?_|refine gq_n ?_|refine gq_r ?_|refine gq_e ?_|refine lq_n ?_|refine lq_r ?_|refine lq_e ?_|refine bq_e (by decide) ?_)|((with_reducible refine zC (b:=?b_) ?hb_ ?_ ?_);case hb_=>rfl)|((conv=>whnf);first|(with_reducible refine hK_ _ _ ?_;try clear hK_ K_)|(with_reducible refine fun (g_:Sl) (o_:Ow)=>?_)|(with_reducible first|exact True.intro|refine And.intro trivial ?_|refine And.intro ?_ ?_)|exact Nat.le_of_ble_eq_true rfl|exact Or.inl rfl|(intro h_;cases h_)|(intro h_;(try simp only [vS1] at h_))|rfl))) <;> (try (conv=>whnf)) <;> (try first|change (_:Int)≤_|change (_:Nat)≤_) <;> (try ((fail_if_success (with_reducible apply Exists.intro));(try dsimp only);(try simp only [vS1]))) <;> (try simp (disch:=omega) only [vS3,vS2] at *)
 all_goals (try (fail_if_success (with_reducible apply Exists.intro));first|with_reducible assumption|omega|exact mdl (by omega)|exact ilo1 (by omega)|exact ilo2 (by omega)|exact ihi1 (by omega) (by omega)|exact ihi2 (by omega) (by omega))
 ·have hj2:j < spanY xs:=by omega
  refine awp'_loopG (α:=Nat) (fun i ver_=>[(8,vInt (minX xs xs.length + i))]) (fun i ver_=>[(3,10,false,.row t_impl_Point (.b .pt) (rowsN (hoB xs) (minX xs xs.length) (minY xs xs.length) (spanX xs) j ++ rowN (hoB xs) (minX xs xs.length) (minY xs xs.length + j) i))]) (fun i ver_=>[]) (fun i=>i≤spanX xs) (fun i=>spanX xs - i) [1,4,5,7] [4,5] (0) ?_
  conv=>whnf
  refine ⟨⟨?inv8_,?vals8_,?own8_,?fix8_⟩,?body8_⟩
  case' vals8_=>(repeat' (first|(with_reducible first|exact True.intro|refine And.intro ?_ ?_|refine Head.mk ?_ ?_ ?_ ?_)|((conv=>lhs;whnf);first|(with_reducible first|rfl|exact vInt_s (by omega))|exact rfl)|((conv=>whnf);first|(with_reducible first|exact True.intro|refine And.intro ?_ ?_)))) <;> (try (conv=>lhs;whnf))
  case' own8_=>(repeat' (first|(with_reducible first|exact True.intro|refine And.intro ?_ ?_|refine Head.mk ?_ ?_ ?_ ?_)|((conv=>lhs;whnf);first|(with_reducible first|rfl|exact vInt_s (by omega))|exact rfl)|((conv=>whnf);first|(with_reducible first|exact True.intro|refine And.intro ?_ ?_)))) <;> (try (conv=>lhs;whnf))
  case' fix8_=>(repeat' (first|(with_reducible first|exact True.intro|refine And.intro ?_ ?_|refine Head.mk ?_ ?_ ?_ ?_)|((conv=>lhs;whnf);first|(with_reducible first|rfl|exact vInt_s (by omega))|exact rfl)|((conv=>whnf);first|(with_reducible first|exact True.intro|refine And.intro ?_ ?_)))) <;> (try (conv=>lhs;whnf))
  ·exact congrArg (Own.row _ _) (by unfold rowN;simp)
  ·exact congrArg vInt (Int.add_zero _).symm
  ·exact Nat.zero_le _
  rintro i g_ o_ v_ hi
  have hl:=rowsN_len' (hoB xs) (minX xs xs.length) (minY xs xs.length) (show j≤81 by omega) (show spanX xs≤81 by omega)
  have hl2:=rowN_len (hoB xs) (minX xs xs.length) (minY xs xs.length + j) i
  (repeat' (first|(with_reducible first|exact True.intro|refine zQ ?_|(refine zG hG_ ?_;intro K_ hK_)|(refine zR ?_;intro K_ hK_)|(refine hK_ _ _ ?_;try clear hK_ K_)|refine sq_n ?_|refine sq_r ?_|refine sq_e ?_|refine bq_n ?_|refine bq_r ?_|refine bq_q ?_|refine zB ?_|refine zX ?_|refine zT ?_|refine zK ?_|refine gq_n ?_|refine gq_r ?_|refine gq_e ?_|refine lq_n ?_|refine lq_r ?_|refine lq_e ?_|refine bq_e (by decide) ?_)|((with_reducible refine zC (b:=?b_) ?hb_ ?_ ?_);case hb_=>rfl)|((conv=>whnf);first|(with_reducible refine hK_ _ _ ?_;try clear hK_ K_)|(with_reducible refine fun (g_:Sl) (o_:Ow)=>?_)|(with_reducible first|exact True.intro|refine And.intro trivial ?_|refine And.intro ?_ ?_)|exact Nat.le_of_ble_eq_true rfl|exact Or.inl rfl|(intro h_;cases h_)|(intro h_;(try simp only [vS1] at h_))|rfl))) <;> (try (conv=>whnf)) <;> (try first|change (_:Int)≤_|change (_:Nat)≤_) <;> (try ((fail_if_success (with_reducible apply Exists.intro));(try dsimp only);(try simp only [vS1]))) <;> (try simp (disch:=omega) only [vS3,vS2] at *)
  all_goals (try (fail_if_success (with_reducible apply Exists.intro));first|with_reducible assumption|omega|exact mdl (by omega)|exact ilo1 (by omega)|exact ilo2 (by omega)|exact ihi1 (by omega) (by omega)|exact ihi2 (by omega) (by omega))
  ·refine ⟨i + 1,by omega,by omega,?_⟩
   (repeat' (first|(with_reducible first|exact True.intro|refine And.intro ?_ ?_|refine Head.mk ?_ ?_ ?_ ?_)|((conv=>lhs;whnf);first|(with_reducible first|rfl|exact vInt_s (by omega))|exact rfl)|((conv=>whnf);first|(with_reducible first|exact True.intro|refine And.intro ?_ ?_)))) <;> (try (conv=>lhs;whnf))
   ·exact congrArg vInt (by omega)
   ·refine congrArg (Own.row _ _) ?_
    rw [rowN_succ,if_pos (by simpa [hoB] using h_),List.append_assoc]
  ·refine ⟨i + 1,by omega,by omega,?_⟩
   (repeat' (first|(with_reducible first|exact True.intro|refine And.intro ?_ ?_|refine Head.mk ?_ ?_ ?_ ?_)|((conv=>lhs;whnf);first|(with_reducible first|rfl|exact vInt_s (by omega))|exact rfl)|((conv=>whnf);first|(with_reducible first|exact True.intro|refine And.intro ?_ ?_)))) <;> (try (conv=>lhs;whnf))
   ·exact congrArg vInt (by omega)
   ·refine congrArg (Own.row _ _) ?_
    rw [rowN_succ,if_neg (by simpa [hoB] using h_),List.append_nil]
  ·obtain rfl:i=spanX xs:=by omega
   refine ⟨j + 1,by omega,by omega,?_⟩
   (repeat' (first|(with_reducible first|exact True.intro|refine And.intro ?_ ?_|refine Head.mk ?_ ?_ ?_ ?_)|((conv=>lhs;whnf);first|(with_reducible first|rfl|exact vInt_s (by omega))|exact rfl)|((conv=>whnf);first|(with_reducible first|exact True.intro|refine And.intro ?_ ?_)))) <;> (try (conv=>lhs;whnf))
   ·exact congrArg vInt (by omega)
   ·exact congrArg (Own.row _ _) (rowsN_succ _ _ _ _ _).symm
 ·obtain rfl:j=spanY xs:=by omega
  refine congrArg some ?_
  unfold floorPts
  rw [if_pos hr,← floor_hold hr];rfl
end Go.Proofs.Ytnepfcnlngpchaa
namespace Go.Proofs.Ytnepfcnlngpchaa
open Go.Shelf Go.RowKit Go.Lib Go.Sort Go.Proofs.Ytnepfcnlngpchaa.Nm
def sort_ren:Go.Shelf.Ren:=⟨fun|6=>81|14=>117|15=>118|20=>134|21=>135|22=>136|23=>137|24=>138|25=>139|26=>140|27=>141|28=>142|29=>143|46=>156|47=>157|48=>158|49=>159|50=>160|57=>173|n=>n,fun|0=>0|3=>3|4=>4|5=>5|9=>9|22=>24|24=>31|25=>79|39=>110|45=>120|46=>121|50=>125|53=>128|55=>130|66=>139|70=>143|76=>151|77=>72|n=>n,fun n=>n⟩
theorem sort_lay:SlLaysF0.n6 Try.prog sort_ren:={
 mixed:=by kernel_rfl
 f6:=⟨Try.f81.name,by decide,Try.func81.trans (congrArg some (by kernel_rfl))⟩
 f14:=⟨Try.f117.name,by decide,Try.func117.trans (congrArg some (by kernel_rfl))⟩
 f15:=Try.func118.trans (congrArg some (by kernel_rfl))
 f20:=⟨Try.f134.name,by decide,Try.func134.trans (congrArg some (by kernel_rfl))⟩
 f21:=⟨Try.f135.name,by decide,Try.func135.trans (congrArg some (by kernel_rfl))⟩
 f22:=⟨Try.f136.name,by decide,Try.func136.trans (congrArg some (by kernel_rfl))⟩
 f23:=⟨Try.f137.name,by decide,Try.func137.trans (congrArg some (by kernel_rfl))⟩
 f24:=⟨Try.f138.name,by decide,Try.func138.trans (congrArg some (by kernel_rfl))⟩
 f25:=⟨Try.f139.name,by decide,Try.func139.trans (congrArg some (by kernel_rfl))⟩
 f26:=⟨Try.f140.name,by decide,Try.func140.trans (congrArg some (by kernel_rfl))⟩
 f27:=⟨Try.f141.name,by decide,Try.func141.trans (congrArg some (by kernel_rfl))⟩
 f28:=Try.func142.trans (congrArg some (by kernel_rfl))
 f29:=Try.func143.trans (congrArg some (by kernel_rfl))
 f46:=⟨Try.f156.name,by decide,Try.func156.trans (congrArg some (by kernel_rfl))⟩
 f47:=Try.func157.trans (congrArg some (by kernel_rfl))
 f48:=Try.func158.trans (congrArg some (by kernel_rfl))
 f49:=⟨Try.f159.name,by decide,Try.func159.trans (congrArg some (by kernel_rfl))⟩
 f50:=⟨Try.f160.name,by decide,Try.func160.trans (congrArg some (by kernel_rfl))⟩
 f57:=⟨Try.f173.name,by decide,Try.func173.trans (congrArg some (by kernel_rfl))⟩
 t0:=Try.underlying0
 a0:=Try.isAgg0
 z0:=Try.sizeOf0
 v0:=Try.zeroValue0
 t3:=Try.underlying3
 a3:=Try.isAgg3
 z3:=Try.sizeOf3
 v3:=Try.zeroValue3
 t4:=Try.underlying4
 a4:=Try.isAgg4
 z4:=Try.sizeOf4
 v4:=Try.zeroValue4
 t5:=Try.underlying5
 a5:=Try.isAgg5
 z5:=Try.sizeOf5
 v5:=Try.zeroValue5
 t9:=Try.underlying9
 a9:=Try.isAgg9
 z9:=Try.sizeOf9
 v9:=Try.zeroValue9
 t22:=Try.underlying24
 a22:=Try.isAgg24
 z22:=Try.sizeOf24
 v22:=Try.zeroValue24
 t25:=Try.underlying79
 a25:=Try.isAgg79
 z25:=Try.sizeOf79
 v25:=Try.zeroValue79
 t39:=Try.underlying110
 a39:=Try.isAgg110
 z39:=Try.sizeOf110
 v39:=Try.zeroValue110
 t45:=Try.underlying120
 a45:=Try.isAgg120
 z45:=Try.sizeOf120
 v45:=Try.zeroValue120
 t46:=Try.underlying121
 a46:=Try.isAgg121
 z46:=Try.sizeOf121
 v46:=Try.zeroValue121
 t50:=Try.underlying125
 a50:=Try.isAgg125
 z50:=Try.sizeOf125
 v50:=Try.zeroValue125
 t53:=Try.underlying128
 a53:=Try.isAgg128
 z53:=Try.sizeOf128
 v53:=Try.zeroValue128
 t55:=Try.underlying130
 a55:=Try.isAgg130
 z55:=Try.sizeOf130
 v55:=Try.zeroValue130
 t66:=Try.underlying139
 a66:=Try.isAgg139
 z66:=Try.sizeOf139
 v66:=Try.zeroValue139
 t70:=Try.underlying143
 a70:=Try.isAgg143
 z70:=Try.sizeOf143
 v70:=Try.zeroValue143
 t76:=Try.underlying151
 a76:=Try.isAgg151
 z76:=Try.sizeOf151
 v76:=Try.zeroValue151
 t77:=Try.underlying72
 a77:=Try.isAgg72
 z77:=Try.sizeOf72
 v77:=Try.zeroValue72
}
theorem sort_agg:∀ w,(isAgg (sort_ren.t 24)).run Try.prog w=.ok true w:=Try.isAgg31
theorem sort_size:∀ w,(Go.sizeOf (sort_ren.t 24)).run Try.prog w=.ok 2 w:=Try.sizeOf31
abbrev Pt2:=Int × Int
def encP (x:Pt2):List Value:=[.int .i64 x.1,.int .i64 x.2]
theorem encP_len (x:Pt2):(encP x).length=2:=rfl
theorem encP_one (x:Pt2):∀ v∈encP x,v.oneCell'=true:=by
 intro v hv
 simp only [encP,List.mem_cons,List.not_mem_nil,or_false] at hv
 rcases hv with rfl|rfl <;> rfl
theorem flatP_get {xs:List Pt2} {i:Nat} {x:Pt2} (h:xs[i]?=some x) {j:Nat} {u:Value} (hu:(encP x)[j]?=some u):(flatK encP 2 xs.toArray).toList[i * 2 + j]?=some u:=by
 have hi:i < xs.length:=(List.getElem?_eq_some_iff.1 h).1
 have hj:j < 2:=by have:=(List.getElem?_eq_some_iff.1 hu).1;simpa [encP] using this
 have hlt:i * 2 + j < xs.toArray.size * 2:=by simp;omega
 have hg:=get_flatK encP 2 xs.toArray (i * 2 + j) hlt
 rw [show (i * 2 + j) / 2=i by omega,show (i * 2 + j) % 2=j by omega] at hg
 rw [Array.getElem?_toList]
 have hs:i * 2 + j < (flatK encP 2 xs.toArray).size:=by rw [size_flatK];exact hlt
 rw [getElem!_pos (flatK encP 2 xs.toArray) (i * 2 + j) hs] at hg
 rw [Array.getElem?_eq_getElem hs,hg]
 have hx:xs.toArray[i]! = x:=by rw [getElem!_pos xs.toArray i (by simpa using hi)];simp [(List.getElem?_eq_some_iff.1 h).2]
 rw [hx]
 rw [getElem!_pos (encP x) j (by simpa [encP] using hj)]
 rw [List.getElem?_eq_getElem (by simpa [encP] using hj)] at hu
 exact hu
theorem flat_one (xs:List Pt2):∀ v∈(flatK encP 2 xs.toArray).toList,v.oneCell'=true:=by
 intro v hv
 obtain ⟨t,ht,rfl⟩:=Array.getElem_of_mem (Array.mem_toList_iff.1 hv)
 have ht':t < xs.toArray.size * 2:=by rw [size_flatK] at ht;exact ht
 have hg:=get_flatK encP 2 xs.toArray t ht'
 rw [getElem!_pos (flatK encP 2 xs.toArray) t ht] at hg
 rw [hg]
 have:t % 2 < 2:=Nat.mod_lt _ (by omega)
 have hm:t % 2=0∨t % 2=1:=by omega
 rcases hm with h|h <;> rw [h] <;> rfl
theorem rowC_flat (w:World) (F:Nat→Prop) (xs:List Pt2):RowC w F (.b .pt) xs (flatK encP 2 xs.toArray).toList:=
 ⟨flat_one xs,fun i x hx=>⟨encP x,rfl,rfl,fun j u hu=>flatP_get hx hu⟩⟩
theorem holds_of_own {w:World} {F:Nat→Prop} {ty:TypeId} {s:Value} {xs:List Pt2} {cells:List Value} (hw:w.ownsRow 0 ty 2 s xs.length cells) (hr:RowC w F (.b .pt) xs cells) (hne:0 < xs.length) :
  ∃ g cap cur,s=.slice (some ⟨g,0,none⟩) xs.length cap∧w.heap[g]?=some (.cells cur ty (0,0))∧xs.length≤cap∧cap≤maxLen∧cur.size=cap * 2∧HoldsK encP 2 w g 0 xs.toArray:=by
 rcases hw.2 with ⟨_,h0⟩|⟨g,cap,cur,hv,_,hh,hn,hm,hs,ht⟩
 ·omega
 refine ⟨g,cap,cur,hv,hh,hn,hm,hs,fun t ht'=>?_⟩
 rw [size_flatK] at ht'
 have ht2:t < xs.length * 2:=by simpa using ht'
 have hlt:t < cur.size:=by rw [hs];exact Nat.lt_of_lt_of_le ht2 (Nat.mul_le_mul_right 2 hn)
 have hi:t / 2 < xs.length:=by omega
 obtain ⟨us,hul,hue,hus⟩:=hr.2 (t / 2) xs[t / 2] (List.getElem?_eq_getElem hi)
 have hue:us=encP xs[t / 2]:=hue
 subst hue
 have hj:t % 2 < 2:=Nat.mod_lt _ (by omega)
 have hc:=hus (t % 2) (encP xs[t / 2])[t % 2] (List.getElem?_eq_getElem (by exact hj))
 rw [show t / 2 * (ElK.b ElB.pt).size + t % 2=t by show t / 2 * 2 + t % 2=t;omega,← ht,List.getElem?_take_of_lt (by exact ht2),Array.getElem?_toList] at hc
 have hfl:=flatP_get (xs:=xs) (i:=t / 2) (List.getElem?_eq_getElem hi) (j:=t % 2) (List.getElem?_eq_getElem (by exact hj))
 rw [show t / 2 * 2 + t % 2=t by omega,Array.getElem?_toList] at hfl
 have hsz:t < (flatK encP 2 xs.toArray).size:=by rw [size_flatK];exact ht'
 rw [Array.getElem?_eq_getElem hsz] at hfl
 rw [getElem!_pos (flatK encP 2 xs.toArray) t hsz,Option.some.inj hfl]
 constructor
 ·simp only [World.cell?,hh,Nat.zero_add]
  simpa using hc
 ·simp [World.frozen?,hh]
theorem after_sort {w:World} {ty:TypeId} {g cap n:Nat} {cur:Array Value} {ys:List Pt2} {os:Array Obj} (hh:w.heap[g]?=some (.cells cur ty (0,0))) (hn:ys.length≤cap) (hm:cap≤maxLen) (hs:cur.size=cap * 2) :
  w.grownBy (sortWorldK encP 2 w g 0 n ys.toArray os) (some g)∧(sortWorldK encP 2 w g 0 n ys.toArray os).ownsRow 0 ty 2 (.slice (some ⟨g,0,none⟩) ys.length cap) ys.length (flatK encP 2 ys.toArray).toList:=by
 have hg:g < w.heap.size:=lt_of_block hh
 have hheap:(sortWorldK encP 2 w g 0 n ys.toArray os).heap=w.heap.modify g (onCells (Go.Sort.putCells id 0 (flatK encP 2 ys.toArray))) ++ os:=rfl
 have hfs:(flatK encP 2 ys.toArray).size=ys.length * 2:=by rw [size_flatK];simp
 have hpre:∀ k,k < w.heap.size→(sortWorldK encP 2 w g 0 n ys.toArray os).heap[k]?=(w.heap.modify g (onCells (Go.Sort.putCells id 0 (flatK encP 2 ys.toArray))))[k]?:=fun k hk=>by
  rw [hheap,Array.getElem?_append_left (by rw [Array.size_modify];exact hk)]
 refine ⟨⟨rfl,rfl,rfl,by rw [hheap,Array.size_append,Array.size_modify];omega,fun k hk hne=>?_⟩,by rw [Array.length_toList,hfs],.inr ⟨g,cap,Go.Sort.putCells id 0 (flatK encP 2 ys.toArray) cur,rfl,Nat.zero_le _,?_,hn,hm,?_,?_⟩⟩
 ·rw [hpre k hk,Array.getElem?_modify,if_neg (fun e=>hne (by rw [e]))]
 ·rw [hpre g hg,Array.getElem?_modify,if_pos rfl,hh];rfl
 ·rw [← hs];simp [Go.Sort.putCells]
 ·refine List.ext_getElem? fun i=>?_
  rcases Nat.lt_or_ge i (ys.length * 2) with hi|hi
  ·rw [List.getElem?_take_of_lt hi,Array.getElem?_toList,Array.getElem?_toList]
   have hc:i < cur.size:=by rw [hs];exact Nat.lt_of_lt_of_le hi (Nat.mul_le_mul_right 2 hn)
   have hf:i < (flatK encP 2 ys.toArray).size:=by rw [hfs];exact hi
   simp only [Go.Sort.putCells,Array.getElem?_mapIdx,Array.getElem?_eq_getElem hc,Array.getElem?_eq_getElem hf,Option.map_some,Nat.zero_le,true_and,Nat.zero_add,hf,if_true,id,Nat.sub_zero]
   rw [getElem!_pos (flatK encP 2 ys.toArray) i hf]
  ·rw [List.getElem?_eq_none (by rw [List.length_take];omega),List.getElem?_eq_none (by rw [Array.length_toList,hfs];exact hi)]
def sqM (a b:Pt2):Int:=wrap64 (wrap64 (wrap64 (a.1 - b.1) * wrap64 (a.1 - b.1)) + wrap64 (wrap64 (a.2 - b.2) * wrap64 (a.2 - b.2)))
set_option maxHeartbeats 1000000 in
theorem square_k (x y:Pt2) (W:World):Calls Try.prog 146 #[.agg #[.int .i64 x.1,.int .i64 x.2],.agg #[.int .i64 y.1,.int .i64 y.2]] W fun e w'=>e=.returned (.int .i64 (sqM x y))∧∃ q os',w'=grow (W.drewN q) os':=by
 go_enter Try.func146,Try.ntmps146
 go_wp2
 go_ret
 exact ⟨rfl,0,_,by rw [alloc_eq_grow,alloc_eq_grow,grow_grow];rfl⟩
def cbCmp (a x y:Pt2):Int:=IntKind.i64.wrap (sqM a x - sqM a y)
theorem addr_plain {W:World} {ad:Addr} {v:Value} (h:W.cell? ad=some v):∃ b o,ad=⟨b,o,none⟩:=by
 obtain ⟨b,o,sp⟩:=ad
 cases sp with
 | none=>exact ⟨b,o,rfl⟩
 | some s=>simp only [World.cell?] at h;split at h <;> simp at h
set_option maxHeartbeats 2000000 in
theorem cb_k (a x y:Pt2) (ad:Addr) (W:World) (h0:W.cell? ad=some (.int .i64 a.1)) (h1:W.cell? (ad.add 1)=some (.int .i64 a.2)) (hl:ad.block < W.heap.size) :
  Calls Try.prog 145 #[.agg #[.int .i64 x.1,.int .i64 x.2],.agg #[.int .i64 y.1,.int .i64 y.2],.pointer (some ad)] W fun e w'=>e=.returned (.int .i64 (cbCmp a x y))∧∃ q os',w'=grow (W.drewN q) os':=by
 obtain ⟨b,o,rfl⟩:=addr_plain h0
 have h1:W.cell? ⟨b,o + 1,none⟩=some (.int .i64 a.2):=h1
 have hl:b < W.heap.size:=hl
 have mixed:Try.prog.follows .mixedOrders=true:=by kernel_rfl
 have hcon:=fun x y W'=>square_k x y W'
 go_enter Try.func145,Try.ntmps145
 go_wp2
 have hwq:∃ W2:World,W2=(W.alloc (.cells #[.int .i64 x.1,.int .i64 x.2] 31)).alloc (.cells #[.int .i64 y.1,.int .i64 y.2] 31):=⟨_,rfl⟩
 obtain ⟨W2,hW2⟩:=hwq
 have hgr:W2=grow W #[.cells #[.int .i64 x.1,.int .i64 x.2] 31,.cells #[.int .i64 y.1,.int .i64 y.2] 31]:=by rw [hW2,alloc_eq_grow,alloc_eq_grow,grow_grow];rfl
 have hsz:W2.heap.size=W.heap.size + 2:=by rw [hgr,size_grow];rfl
 have ca0:∀ n os,(grow (W2.drewN n) os).cell? ⟨b,o,none⟩=some (.int .i64 a.1):=cell_grown (by rw [hsz];show b < _;omega) (by rw [hgr,cell?_grow _ _ _ hl];exact h0)
 have ca1:∀ n os,(grow (W2.drewN n) os).cell? ⟨b,o + 1,none⟩=some (.int .i64 a.2):=cell_grown (by rw [hsz];show b < _;omega) (by rw [hgr,cell?_grow _ _ _ hl];exact h1)
 have cx0:∀ n os,(grow (W2.drewN n) os).cell? ⟨W.heap.size,0,none⟩=some (.int .i64 x.1):=cell_grown (by rw [hsz];show W.heap.size < _;omega) (by rw [hW2];simp)
 have cx1:∀ n os,(grow (W2.drewN n) os).cell? ⟨W.heap.size,1,none⟩=some (.int .i64 x.2):=cell_grown (by rw [hsz];show W.heap.size < _;omega) (by rw [hW2];simp)
 have cy0:∀ n os,(grow (W2.drewN n) os).cell? ⟨W.heap.size + 1,0,none⟩=some (.int .i64 y.1):=cell_grown (by rw [hsz];show W.heap.size + 1 < _;omega) (by rw [hW2];simp)
 have cy1:∀ n os,(grow (W2.drewN n) os).cell? ⟨W.heap.size + 1,1,none⟩=some (.int .i64 y.2):=cell_grown (by rw [hsz];show W.heap.size + 1 < _;omega) (by rw [hW2];simp)
 rw [← hW2]
 have HGR:Hid (W2=grow W #[.cells #[.int .i64 x.1,.int .i64 x.2] 31,.cells #[.int .i64 y.1,.int .i64 y.2] 31]):=hgr
 clear hW2 hgr hsz h0 h1
 have eg:∀ args w,(callFunc 146 args).run Try.prog w=.ok (.enter 146 args) w:=enters_of Try.func146 (by kernel_rfl) rfl
 go_quiet_grown (first|(go_at_fn 146;refine Calls.grown_of (hcon _ _ _)))
 go_wp2_with fail
 go_ret
 exact ⟨rfl,nq,_,by rw [HGR.out];show grow (grow (W.drewN nq) _) _=_;rw [grow_grow]⟩
def distSort (a:Pt2) (xs:List Pt2):List Pt2:=(Sort.insertionSort (ltOf (cbCmp a)) xs.toArray 0 xs.length).toList
def cloPt (f:FuncId × List D):Pt2:=match f.2 with|[.ptr [.int _ x,.int _ y]]=>(x,y)|_=>(0,0)
def sortC:ConW:=mkConW [.sl (.b .pt),.clo] 0 t_impl_Point (fun x=>0 < x.1.length∧x.1.length≤12∧∃ a:Pt2,x.2.1=(n_impl_cornersBetween_1,[.ptr [.int .i64 a.1,.int .i64 a.2]])) (fun _=>.tup []) fun x=>⟨.b .pt,distSort (cloPt x.2.1) x.1,false⟩
theorem cell_sortW {w:World} {g n:Nat} {d:Array Pt2} {os:Array Obj} {ad:Addr} (hne:ad.block≠g) (hl:ad.block < w.heap.size):(sortWorldK encP 2 w g 0 n d os).cell? ad=w.cell? ad:=by
 unfold sortWorldK
 rw [cell?_grow _ _ _ (by rw [size_putRowK];exact hl),cell?_putRowK_other _ _ _ _ _ _ _ hne]
 rfl
theorem insInner_size (lt:Pt2→Pt2→Bool) (a:Nat):∀ (j:Nat) (d:Array Pt2),(insInner lt a j d).size=d.size
 | 0,_=>rfl
 | j + 1,d=>by
  unfold insInner
  split
  ·rw [insInner_size lt a j,size_swp]
  ·rfl
theorem insOuter_size (lt:Pt2→Pt2→Bool) (a b:Nat):∀ (n i:Nat) (d:Array Pt2),b - i≤n→(insOuter lt a b i d).size=d.size
 | 0,i,d,h=>by unfold insOuter;rw [if_neg (by omega)]
 | n + 1,i,d,h=>by
  unfold insOuter
  split
  ·rw [insOuter_size lt a b n (i + 1) _ (by omega),insInner_size]
  ·rfl
theorem distSort_len (a:Pt2) (xs:List Pt2):(distSort a xs).length=xs.length:=by
 unfold distSort Sort.insertionSort
 rw [Array.length_toList,insOuter_size _ _ _ _ _ _ (Nat.le_refl _)]
 simp
theorem decs_sort {k:ElK} {xs:List k.T} {c:AV} {x:Args [.sl (.b .pt),.clo]} (h:decs [.sl (.b .pt),.clo] [.one (.d (.sl none k xs)),c]=some x) :
  (∃ e:k=.b .pt,e ▸ xs=x.1)∧c=.one (.d (.clo x.2.1.1 x.2.1.2)):=by
 simp only [decs] at h
 split at h
 next a b e1 e2=>
  injection h with h
  subst h
  refine ⟨castL_ok e1,?_⟩
  split at e2
  next a' b' e3 e4=>
   injection e2 with e2
   subst e2
   cases c with
   | one cc=>
    cases cc with
    | d dd=>cases dd <;> first|(cases e3;rfl)|(simp only [Ty.dec] at e3;cases e3;done)
    | own _ _=>simp only [Ty.dec] at e3;cases e3
    | ptr _ _ _ _=>simp only [Ty.dec] at e3;cases e3
    | sub _ _ _ _=>simp only [Ty.dec] at e3;cases e3
   | agg _=>simp only [Ty.dec] at e3;cases e3
   | tup _=>simp only [Ty.dec] at e3;cases e3
   | junk=>simp only [Ty.dec] at e3;cases e3
  next=>cases e2
 next=>cases h
theorem sort_snd:SoundW Try.prog n_slices_SortFunc_impl_Point sortC:=by
 intro w F args vs a0 l ver (x:Args [.sl (.b .pt),.clo]) s k xs ys cells ha hoc hoth hpat hpre hcast hbase hF hlen hargs hw hrow hs hone
 have hpat:decs [.sl (.b .pt),.clo] (setA args 0 (ownAs a0 (.d (.sl none k xs))))=some x:=hpat
 have ha:nthA args 0=some a0:=ha
 match args,vs,ha,hpat,hlen,hargs with
 | [],_,ha,_,_,_=>cases ha
 | [z],_,_,hpat,_,_=>simp only [setA,decs] at hpat;split at hpat <;> simp_all
 | z :: c :: e :: r,_,_,hpat,_,_=>simp only [setA,decs] at hpat;split at hpat <;> simp_all
 | [z,c],[v0,v1],ha,hpat,hlen,hargs=>
  obtain rfl:z=a0:=Option.some.inj ha
  have h0:=hargs 0 z v0 rfl rfl
  have h1:=hargs 1 c v1 rfl rfl
  have hd:decs [.sl (.b .pt),.clo] [ownAs z (.d (.sl none k xs)),c]=some x:=hpat
  obtain ⟨x1,⟨xf,xc⟩,⟨⟩⟩:=x
  obtain ⟨hp1,hp2,⟨p,q⟩,hp3⟩:=hpre
  have hp1:0 < x1.length:=hp1
  have hp2:x1.length≤12:=hp2
  have hp3:(xf,xc)=(n_impl_cornersBetween_1,[D.ptr [.int .i64 p,.int .i64 q]]):=hp3
  injection hp3 with hf hc
  subst hf hc
  have hz:z=.one (.own l ver):=by
   unfold ownCell at hoc
   split at hoc
   ·injection hoc with hoc;injection hoc with e1 e2;rw [e1,e2]
   ·simp only [ownAs,decs,Ty.dec] at hd;cases hd
   ·cases hoc
  subst hz
  obtain ⟨⟨ek,he⟩,hcc⟩:=decs_sort hd
  subst ek
  have he:xs=x1:=he
  subst he
  subst hcc
  have hv0:v0=s:=h0
  subst hv0
  obtain ⟨us,hul,hud,rfl⟩:∃ us:List Value,us.length=1∧(∀ (j:Nat) x u,[D.ptr [.int .i64 p,.int .i64 q]][j]?=some x→us[j]?=some u→DC w F x u)∧v1=.func (.func n_impl_cornersBetween_1) #[] us.toArray:=by
   have h1:DC w F (.clo n_impl_cornersBetween_1 [D.ptr [.int .i64 p,.int .i64 q]]) v1:=h1
   cases h1 with
   | clo us hl h=>exact ⟨us,hl,h,rfl⟩
  match us,hul with
  | [u],_=>
  have hu:=hud 0 _ u rfl rfl
  obtain ⟨ad,rfl,hFa,hc0,hc1⟩:∃ ad,u=.pointer (some ad)∧F ad.block∧w.cell? (ad.add 0)=some (.int .i64 p)∧w.cell? (ad.add 1)=some (.int .i64 q):=by
   cases hu with
   | ptr ad us hl hF h1 h2=>
    match us,hl with
    | [u0,u1],_=>
     have k0:=h2 0 _ u0 rfl rfl
     have k1:=h2 1 _ u1 rfl rfl
     cases k0
     cases k1
     exact ⟨ad,rfl,hF,h1 0 _ rfl,h1 1 _ rfl⟩
  have e0:ad.add 0=ad:=by unfold Addr.add;split <;> first|rfl|(exfalso;rename_i h;exact h rfl)|simp_all
  rw [e0] at hc0
  have hys:ys=distSort (p,q) xs:=by
   have:castL (.b .pt) (.b .pt) (distSort (p,q) xs)=some ys:=hcast
   exact (Option.some.inj this).symm
  subst hys
  have hw:w.ownsRow 0 t_impl_Point 2 v0 xs.length cells:=hw
  obtain ⟨g,cap,cur,hv0,hh,hn,hm,hcs,hK⟩:=holds_of_own hw hrow hp1
  subst hv0
  obtain ⟨hg,hgF⟩:=hs g rfl
  have hne:ad.block≠g:=fun e=>hgF (e ▸ hFa)
  have hal:=hF _ hFa
  have eg:∀ args w,(callFunc n_impl_cornersBetween_1 args).run Try.prog w=.ok (.enter n_impl_cornersBetween_1 args) w:=enters_of Try.func145 (by kernel_rfl) rfl
  have hcmp:CmpLays Try.prog n_impl_cornersBetween_1 #[.pointer (some ad)] encP 2 (cbCmp (p,q)) g 0 xs.toArray.size w:=fun m os dk hdk x y=>by
   have hsz:=size_sortWorldK_c encP 2 w g 0 m dk os
   exact cb_k (p,q) x y ad _ (by rw [cell_sortW hne hal];exact hc0) (by rw [cell_sortW (by rw [block_add];exact hne) (by rw [block_add];exact hal)];exact hc1) (Nat.lt_of_lt_of_le hal hsz)
  have hlen2:∀ (n:Nat) (W:World),n≤12→Calls Try.prog (sort_ren.f 15) #[.int .u64 n] W fun e w'=>(∃ l:Int,e=.returned (.int .i64 l))∧w'=W:=fun n W hn=>
   (Any.bits_Len (SlLaysF0.n15.bits (P:=Try.prog) (ρ:=sort_ren) { sort_lay with }) (n:Int) W (by omega) (by omega)).mono fun _ _ ⟨he,hw⟩=>⟨⟨_,he⟩,hw⟩
  have hmain:=AnyQ.slices_SortFunc_small sort_lay 2 sort_agg sort_size encP encP_len encP_one (cbCmp (p,q)) n_impl_cornersBetween_1 #[.pointer (some ad)] g 0 cap xs.toArray w eg hcmp hK hg (by simpa using hp2) hlen2
  have hmain':Calls Try.prog n_slices_SortFunc_impl_Point #[.slice (some ⟨g,0,none⟩) xs.length cap,.func (.func n_impl_cornersBetween_1) #[] #[.pointer (some ad)]] w fun e w'=>e=.returned (.tuple #[])∧∃ n os,w'=sortWorldK encP 2 w g 0 n (Sort.insertionSort (ltOf (cbCmp (p,q))) xs.toArray 0 xs.toArray.size) os:=hmain
  refine hmain'.mono ?_
  rintro e w' ⟨rfl,n,os,rfl⟩
  have hys:(Sort.insertionSort (ltOf (cbCmp (p,q))) xs.toArray 0 xs.toArray.size)=(distSort (p,q) xs).toArray:=by unfold distSort;simp
  rw [hys]
  have hdl:=distSort_len (p,q) xs
  obtain ⟨ha1,ha2⟩:=after_sort (n:=n) (os:=os) (ys:=distSort (p,q) xs) hh (by rw [hdl];exact hn) hm hcs
  rw [hdl] at ha2
  exact ⟨.tuple #[],.slice (some ⟨g,0,none⟩) xs.length cap,_,rfl,ha1,fun b hb=>.inl hb,by rw [hdl];exact ha2,rowC_flat _ F _,rfl,rfl,[],rfl,rfl,fun j x u hx=>by simp at hx⟩
theorem sortFunc_ok:GoodW Try.prog n_slices_SortFunc_impl_Point sortC:=by
 exact ⟨sort_snd,_,Try.func81,by decide,rfl⟩
end Go.Proofs.Ytnepfcnlngpchaa
namespace Go.Proofs.Ytnepfcnlngpchaa
open Go.RowKit Go.Proofs.Ytnepfcnlngpchaa.Nm
set_option maxRecDepth 10000
def cornersB (xs:List Pt) (a b:Pt):List Pt:=distSort a (cutsOf xs a b)
theorem filter_len_le {xs:List Pt} {f:Pt→Bool} {n:Nat} (h:xs.length≤n) (k:Nat):((xs.take k).filter f).length≤n:=Nat.le_trans (List.length_filter_le _ _) (by rw [List.length_take];omega)
def cornersBC:Con:=mkCon [.room,.pt,.pt] (fun x=>x.1.length≤10) fun x=>ptRow (cornersB x.1 x.2.1 x.2.2.1)
theorem cornersBetween_ok:Good1 Try.prog n_impl_cornersBetween cornersBC:=by
 refine good_ofG (tys:=tyL) (env:=[(n_impl_on,onC)]) (envw:=[(n_slices_SortFunc_impl_Point,sortC)]) (envd:=[]) [12,41] [] [] [] [] mixed tys ⟨on_ok,trivial⟩ ⟨sortFunc_ok,trivial⟩ trivial Try.func122 rfl (by kernel_rfl) (by decide) (by kernel_rfl) ?_
 have hG_:=kpz [(0,[3,4,5]),(1,[3,4,5,7]),(2,[4,5,7,14,15,16]),(3,[4,5,7,14,15,16,17]),(4,[4,5,7,9,14,15,16]),(5,[4,5,7,9,14,15,16,33]),(6,[4,5,7,14,15,16]),(7,[4,5,7,14,15,16]),(8,[7]),(9,[6])] [(1,[12]),(2,[12]),(3,[12]),(4,[9,12]),(5,[9,12]),(6,[12]),(7,[12]),(8,[12]),(9,[12])] [] []
 rintro ⟨(xs:List Pt),⟨(ax:Int),(ay:Int)⟩,⟨(bx:Int),(b_y:Int)⟩,⟨⟩⟩ (h1:xs.length≤_)
 (repeat' (first|(with_reducible first|exact True.intro|refine zQ ?_|(refine zG hG_ ?_;intro K_ hK_)|(refine zR ?_;intro K_ hK_)|(refine hK_ _ _ ?_;try clear hK_ K_)|refine sq_n ?_|refine sq_r ?_|refine sq_e ?_|refine bq_n ?_|refine bq_r ?_|refine bq_q ?_|refine zB ?_|refine zX ?_|refine zT ?_|refine zK ?_|refine gq_n ?_|refine gq_r ?_|refine gq_e ?_|refine lq_n ?_|refine lq_r ?_|refine lq_e ?_|refine bq_e (by decide) ?_)|((with_reducible refine zC (b:=?b_) ?hb_ ?_ ?_);case hb_=>rfl)|((conv=>whnf);first|(with_reducible refine hK_ _ _ ?_;try clear hK_ K_)|(with_reducible refine fun (g_:Sl) (o_:Ow)=>?_)|(with_reducible first|exact True.intro|refine And.intro trivial ?_|refine And.intro ?_ ?_)|exact Nat.le_of_ble_eq_true rfl|exact Or.inl rfl|(intro h_;cases h_)|(intro h_;(try simp only [vS1] at h_))|rfl))) <;> (try (conv=>whnf)) <;> (try first|change (_:Int)≤_|change (_:Nat)≤_) <;> (try ((fail_if_success (with_reducible apply Exists.intro));(try dsimp only);(try simp only [vS1]))) <;> (try simp (disch:=omega) only [vS3,vS2] at *)
 all_goals (try (fail_if_success (with_reducible apply Exists.intro));first|with_reducible assumption|omega|exact mdl (by omega)|exact ilo1 (by omega)|exact ilo2 (by omega)|exact ihi1 (by omega) (by omega)|exact ihi2 (by omega) (by omega))
 refine awp'_loopG (α:=Nat) (fun k ver_=>[(16,vInt k)]) (fun k ver_=>[(7,12,false,.row t_impl_Point (.b .pt) ([(ax,ay),(bx,b_y)] ++ (xs.take k).filter (amid (ax,ay) (bx,b_y))))]) (fun k ver_=>[]) (fun k=>k≤xs.length) (fun k=>xs.length - k) [4,5,14,15] [] (0) ?_
 conv=>whnf
 refine ⟨⟨?inv1_,?vals1_,?own1_,?fix1_⟩,?body1_⟩
 case' vals1_=>(repeat' (first|(with_reducible first|exact True.intro|refine And.intro ?_ ?_|refine Head.mk ?_ ?_ ?_ ?_)|((conv=>lhs;whnf);first|(with_reducible first|rfl|exact vInt_s (by omega))|exact rfl)|((conv=>whnf);first|(with_reducible first|exact True.intro|refine And.intro ?_ ?_)))) <;> (try (conv=>lhs;whnf))
 case' own1_=>(repeat' (first|(with_reducible first|exact True.intro|refine And.intro ?_ ?_|refine Head.mk ?_ ?_ ?_ ?_)|((conv=>lhs;whnf);first|(with_reducible first|rfl|exact vInt_s (by omega))|exact rfl)|((conv=>whnf);first|(with_reducible first|exact True.intro|refine And.intro ?_ ?_)))) <;> (try (conv=>lhs;whnf))
 case' fix1_=>(repeat' (first|(with_reducible first|exact True.intro|refine And.intro ?_ ?_|refine Head.mk ?_ ?_ ?_ ?_)|((conv=>lhs;whnf);first|(with_reducible first|rfl|exact vInt_s (by omega))|exact rfl)|((conv=>whnf);first|(with_reducible first|exact True.intro|refine And.intro ?_ ?_)))) <;> (try (conv=>lhs;whnf))
 ·exact Nat.zero_le _
 rintro k g_ o_ v_ hk
 have hl:=filter_len_le (f:=amid (ax,ay) (bx,b_y)) h1 k
 (repeat' (first|(with_reducible first|exact True.intro|refine zQ ?_|(refine zG hG_ ?_;intro K_ hK_)|(refine zR ?_;intro K_ hK_)|(refine hK_ _ _ ?_;try clear hK_ K_)|refine sq_n ?_|refine sq_r ?_|refine sq_e ?_|refine bq_n ?_|refine bq_r ?_|refine bq_q ?_|refine zB ?_|refine zX ?_|refine zT ?_|refine zK ?_|refine gq_n ?_|refine gq_r ?_|refine gq_e ?_|refine lq_n ?_|refine lq_r ?_|refine lq_e ?_|refine bq_e (by decide) ?_)|((with_reducible refine zC (b:=?b_) ?hb_ ?_ ?_);case hb_=>rfl)|((conv=>whnf);first|(with_reducible refine hK_ _ _ ?_;try clear hK_ K_)|(with_reducible refine fun (g_:Sl) (o_:Ow)=>?_)|(with_reducible first|exact True.intro|refine And.intro trivial ?_|refine And.intro ?_ ?_)|exact Nat.le_of_ble_eq_true rfl|exact Or.inl rfl|(intro h_;cases h_)|(intro h_;(try simp only [vS1] at h_))|rfl))) <;> (try (conv=>whnf)) <;> (try first|change (_:Int)≤_|change (_:Nat)≤_) <;> (try ((fail_if_success (with_reducible apply Exists.intro));(try dsimp only);(try simp only [vS1]))) <;> (try simp (disch:=omega) only [vS3,vS2] at *)
 all_goals (try (fail_if_success (with_reducible apply Exists.intro));first|with_reducible assumption|omega|exact mdl (by omega)|exact ilo1 (by omega)|exact ilo2 (by omega)|exact ihi1 (by omega) (by omega)|exact ihi2 (by omega) (by omega))
 ·refine ⟨k + 1,by omega,by omega,?_⟩
  (repeat' (first|(with_reducible first|exact True.intro|refine And.intro ?_ ?_|refine Head.mk ?_ ?_ ?_ ?_)|((conv=>lhs;whnf);first|(with_reducible first|rfl|exact vInt_s (by omega))|exact rfl)|((conv=>whnf);first|(with_reducible first|exact True.intro|refine And.intro ?_ ?_)))) <;> (try (conv=>lhs;whnf))
  refine congrArg (Own.row _ _) ?_
  rw [filter_take_succ _ (0,0) ‹k < xs.length›,if_pos (amid_yes ‹_› ‹_› ‹_›),List.append_assoc]
 ·refine ⟨k + 1,by omega,by omega,?_⟩
  (repeat' (first|(with_reducible first|exact True.intro|refine And.intro ?_ ?_|refine Head.mk ?_ ?_ ?_ ?_)|((conv=>lhs;whnf);first|(with_reducible first|rfl|exact vInt_s (by omega))|exact rfl)|((conv=>whnf);first|(with_reducible first|exact True.intro|refine And.intro ?_ ?_)))) <;> (try (conv=>lhs;whnf))
  refine congrArg (Own.row _ _) ?_
  rw [filter_take_succ _ (0,0) ‹k < xs.length›,if_neg (by unfold amid;simp_all),List.append_nil]
 ·refine ⟨k + 1,by omega,by omega,?_⟩
  (repeat' (first|(with_reducible first|exact True.intro|refine And.intro ?_ ?_|refine Head.mk ?_ ?_ ?_ ?_)|((conv=>lhs;whnf);first|(with_reducible first|rfl|exact vInt_s (by omega))|exact rfl)|((conv=>whnf);first|(with_reducible first|exact True.intro|refine And.intro ?_ ?_)))) <;> (try (conv=>lhs;whnf))
  refine congrArg (Own.row _ _) ?_
  rw [filter_take_succ _ (0,0) ‹k < xs.length›,if_neg (by unfold amid;simp_all),List.append_nil]
 ·refine ⟨k + 1,by omega,by omega,?_⟩
  (repeat' (first|(with_reducible first|exact True.intro|refine And.intro ?_ ?_|refine Head.mk ?_ ?_ ?_ ?_)|((conv=>lhs;whnf);first|(with_reducible first|rfl|exact vInt_s (by omega))|exact rfl)|((conv=>whnf);first|(with_reducible first|exact True.intro|refine And.intro ?_ ?_)))) <;> (try (conv=>lhs;whnf))
  refine congrArg (Own.row _ _) ?_
  rw [filter_take_succ _ (0,0) ‹k < xs.length›,if_neg (by unfold amid;simp_all),List.append_nil]
 ·exact ⟨(ax,ay),rfl⟩
 ·rw [List.take_of_length_le (by omega)];rfl
theorem map_take_succ' {α β:Type} (f:α→β) {xs:List α} {k:Nat} (d:α) (h:k < xs.length):(xs.take (k + 1)).map f=(xs.take k).map f ++ [f (xs.getD k d)]:=by
 rw [List.take_succ_eq_append_getElem h,List.map_append,getD_lt _ h];rfl
def twiceC:Con:=mkCon [.pt] (fun _=>True) fun x=>.val (.agg (cPt (twP x.1)))
theorem twice_ok:Good1 Try.prog n_impl_twice twiceC:=by
 refine good_ofG (tys:=tyL) (env:=[]) (envw:=[]) (envd:=[]) [] [] [] [] [] mixed tys trivial trivial trivial Try.func147 rfl (by kernel_rfl) (by decide) (by kernel_rfl) ?_
 have hG_:=kpz [(0,[1,2]),(1,[2])] [(0,[2]),(1,[2])] [] []
 rintro ⟨⟨(p:Int),(q:Int)⟩,⟨⟩⟩ _
 (repeat' (first|(with_reducible first|exact True.intro|refine zQ ?_|(refine zG hG_ ?_;intro K_ hK_)|(refine zR ?_;intro K_ hK_)|(refine hK_ _ _ ?_;try clear hK_ K_)|refine sq_n ?_|refine sq_r ?_|refine sq_e ?_|refine bq_n ?_|refine bq_r ?_|refine bq_q ?_|refine zB ?_|refine zX ?_|refine zT ?_|refine zK ?_|refine gq_n ?_|refine gq_r ?_|refine gq_e ?_|refine lq_n ?_|refine lq_r ?_|refine lq_e ?_|refine bq_e (by decide) ?_)|((with_reducible refine zC (b:=?b_) ?hb_ ?_ ?_);case hb_=>rfl)|((conv=>whnf);first|(with_reducible refine hK_ _ _ ?_;try clear hK_ K_)|(with_reducible refine fun (g_:Sl) (o_:Ow)=>?_)|(with_reducible first|exact True.intro|refine And.intro trivial ?_|refine And.intro ?_ ?_)|exact Nat.le_of_ble_eq_true rfl|exact Or.inl rfl|(intro h_;cases h_)|(intro h_;(try simp only [vS1] at h_))|rfl))) <;> (try (conv=>whnf)) <;> (try first|change (_:Int)≤_|change (_:Nat)≤_)
def middleC:Con:=mkCon [.room,.pt,.pt] (fun x=>x.1.length≤10) fun x=>vI (midM x.1 x.2.1 x.2.2.1)
theorem middle_ok:Good1 Try.prog n_impl_middle middleC:=by
 refine good_ofG (tys:=tyL) (env:=[(n_impl_twice,twiceC),(n_impl_place,placeC)]) (envw:=[]) (envd:=[]) [10] [] [] [] [] mixed tys ⟨twice_ok,place_ok,trivial⟩ trivial trivial Try.func123 rfl (by kernel_rfl) (by decide) (by kernel_rfl) ?_
 have hG_:=kpz [(0,[3,4,5]),(1,[3,4,5,7]),(2,[4,5,7,12,13,14]),(3,[4,5,7,12,13,14,15]),(4,[4,5,7,9,12,13,14]),(5,[4,5,7,12,13,14]),(6,[4,5,7,12,13,14]),(7,[6])] [(1,[10]),(2,[10]),(3,[10]),(4,[9,10]),(5,[10]),(6,[10]),(7,[10])] [] []
 rintro ⟨(xs:List Pt),⟨(ax:Int),(ay:Int)⟩,⟨(bx:Int),(b_y:Int)⟩,⟨⟩⟩ (h1:xs.length≤_)
 (repeat' (first|(with_reducible first|exact True.intro|refine zQ ?_|(refine zG hG_ ?_;intro K_ hK_)|(refine zR ?_;intro K_ hK_)|(refine hK_ _ _ ?_;try clear hK_ K_)|refine sq_n ?_|refine sq_r ?_|refine sq_e ?_|refine bq_n ?_|refine bq_r ?_|refine bq_q ?_|refine zB ?_|refine zX ?_|refine zT ?_|refine zK ?_|refine gq_n ?_|refine gq_r ?_|refine gq_e ?_|refine lq_n ?_|refine lq_r ?_|refine lq_e ?_|refine bq_e (by decide) ?_)|((with_reducible refine zC (b:=?b_) ?hb_ ?_ ?_);case hb_=>rfl)|((conv=>whnf);first|(with_reducible refine hK_ _ _ ?_;try clear hK_ K_)|(with_reducible refine fun (g_:Sl) (o_:Ow)=>?_)|(with_reducible first|exact True.intro|refine And.intro trivial ?_|refine And.intro ?_ ?_)|exact Nat.le_of_ble_eq_true rfl|exact Or.inl rfl|(intro h_;cases h_)|(intro h_;(try simp only [vS1] at h_))|rfl))) <;> (try (conv=>whnf)) <;> (try first|change (_:Int)≤_|change (_:Nat)≤_) <;> (try ((fail_if_success (with_reducible apply Exists.intro));(try dsimp only);(try simp only [vS1]))) <;> (try simp (disch:=omega) only [vS3,vS2] at *)
 all_goals (try (fail_if_success (with_reducible apply Exists.intro));first|with_reducible assumption|omega|exact mdl (by omega)|exact ilo1 (by omega)|exact ilo2 (by omega)|exact ihi1 (by omega) (by omega)|exact ihi2 (by omega) (by omega))
 refine awp'_loopG (α:=Nat) (fun k ver_=>[(14,vInt k)]) (fun k ver_=>[(7,10,false,.row t_impl_Point (.b .pt) ((xs.take k).map twP))]) (fun k ver_=>[]) (fun k=>k≤xs.length) (fun k=>xs.length - k) [4,5,12,13] [] (0) ?_
 conv=>whnf
 refine ⟨⟨?inv2_,?vals2_,?own2_,?fix2_⟩,?body2_⟩
 case' vals2_=>(repeat' (first|(with_reducible first|exact True.intro|refine And.intro ?_ ?_|refine Head.mk ?_ ?_ ?_ ?_)|((conv=>lhs;whnf);first|(with_reducible first|rfl|exact vInt_s (by omega))|exact rfl)|((conv=>whnf);first|(with_reducible first|exact True.intro|refine And.intro ?_ ?_)))) <;> (try (conv=>lhs;whnf))
 case' own2_=>(repeat' (first|(with_reducible first|exact True.intro|refine And.intro ?_ ?_|refine Head.mk ?_ ?_ ?_ ?_)|((conv=>lhs;whnf);first|(with_reducible first|rfl|exact vInt_s (by omega))|exact rfl)|((conv=>whnf);first|(with_reducible first|exact True.intro|refine And.intro ?_ ?_)))) <;> (try (conv=>lhs;whnf))
 case' fix2_=>(repeat' (first|(with_reducible first|exact True.intro|refine And.intro ?_ ?_|refine Head.mk ?_ ?_ ?_ ?_)|((conv=>lhs;whnf);first|(with_reducible first|rfl|exact vInt_s (by omega))|exact rfl)|((conv=>whnf);first|(with_reducible first|exact True.intro|refine And.intro ?_ ?_)))) <;> (try (conv=>lhs;whnf))
 ·exact Nat.zero_le _
 rintro k g_ o_ v_ hk
 (repeat' (first|(with_reducible first|exact True.intro|refine zQ ?_|(refine zG hG_ ?_;intro K_ hK_)|(refine zR ?_;intro K_ hK_)|(refine hK_ _ _ ?_;try clear hK_ K_)|refine sq_n ?_|refine sq_r ?_|refine sq_e ?_|refine bq_n ?_|refine bq_r ?_|refine bq_q ?_|refine zB ?_|refine zX ?_|refine zT ?_|refine zK ?_|refine gq_n ?_|refine gq_r ?_|refine gq_e ?_|refine lq_n ?_|refine lq_r ?_|refine lq_e ?_|refine bq_e (by decide) ?_)|((with_reducible refine zC (b:=?b_) ?hb_ ?_ ?_);case hb_=>rfl)|((conv=>whnf);first|(with_reducible refine hK_ _ _ ?_;try clear hK_ K_)|(with_reducible refine fun (g_:Sl) (o_:Ow)=>?_)|(with_reducible first|exact True.intro|refine And.intro trivial ?_|refine And.intro ?_ ?_)|exact Nat.le_of_ble_eq_true rfl|exact Or.inl rfl|(intro h_;cases h_)|(intro h_;(try simp only [vS1] at h_))|rfl))) <;> (try (conv=>whnf)) <;> (try first|change (_:Int)≤_|change (_:Nat)≤_) <;> (try ((fail_if_success (with_reducible apply Exists.intro));(try dsimp only);(try simp only [vS1]))) <;> (try simp (disch:=omega) only [vS3,vS2] at *)
 all_goals (try (fail_if_success (with_reducible apply Exists.intro));first|with_reducible assumption|omega|exact mdl (by omega)|exact ilo1 (by omega)|exact ilo2 (by omega)|exact ihi1 (by omega) (by omega)|exact ihi2 (by omega) (by omega))
 ·refine ⟨k + 1,by omega,by omega,?_⟩
  (repeat' (first|(with_reducible first|exact True.intro|refine And.intro ?_ ?_|refine Head.mk ?_ ?_ ?_ ?_)|((conv=>lhs;whnf);first|(with_reducible first|rfl|exact vInt_s (by omega))|exact rfl)|((conv=>whnf);first|(with_reducible first|exact True.intro|refine And.intro ?_ ?_)))) <;> (try (conv=>lhs;whnf))
  exact congrArg (Own.row _ _) (map_take_succ' twP (0,0) h_).symm
 ·rw [List.take_of_length_le (by omega)];rfl
def seesI (xs:List Pt) (a b:Pt):Bool:=(List.range xs.length).all (fun k=>!crs a b (wl xs k).1 (wl xs k).2) && (List.range ((cornersB xs a b).length - 1)).all fun k=>midM xs (pAt (cornersB xs a b) k) (pAt (cornersB xs a b) (k + 1)) != 0
def seesC:Con:=mkCon [.room,.pt,.pt] (fun x=>x.1.length≤10) fun x=>vB (seesI x.1 x.2.1 x.2.2.1)
theorem cornersB_len (xs:List Pt) (a b:Pt):(cornersB xs a b).length=2 + (xs.filter (amid a b)).length:=by unfold cornersB;rw [distSort_len];simp;omega
theorem seesI_no1 {xs:List Pt} {a b:Pt} {k:Nat} (hk:k < xs.length) (h:crs a b (wl xs k).1 (wl xs k).2=true):seesI xs a b=false:=by
 unfold seesI
 rw [show (List.range xs.length).all (fun k=>!crs a b (wl xs k).1 (wl xs k).2)=false from List.all_eq_false.2 ⟨k,List.mem_range.2 hk,by rw [h];decide⟩]
 rfl
theorem seesI_no2 {xs:List Pt} {a b:Pt} {k:Nat} (hk:k + 1 < (cornersB xs a b).length) (h:midM xs (pAt (cornersB xs a b) k) (pAt (cornersB xs a b) (k + 1))=0):seesI xs a b=false:=by
 unfold seesI
 rw [show ((List.range ((cornersB xs a b).length - 1)).all fun k=>midM xs (pAt (cornersB xs a b) k) (pAt (cornersB xs a b) (k + 1)) != 0)=false from List.all_eq_false.2 ⟨k,List.mem_range.2 (by omega),by rw [h];decide⟩]
 exact Bool.and_false _
theorem seesI_yes {xs:List Pt} {a b:Pt} (h1:∀ k,k < xs.length→crs a b (wl xs k).1 (wl xs k).2=false) (h2:∀ k,k + 1 < (cornersB xs a b).length→midM xs (pAt (cornersB xs a b) k) (pAt (cornersB xs a b) (k + 1))≠0):seesI xs a b=true:=by
 unfold seesI
 rw [Bool.and_eq_true,List.all_eq_true,List.all_eq_true]
 exact ⟨fun k hk=>by rw [h1 k (List.mem_range.1 hk)];rfl,fun k hk=>by simpa using h2 k (by have:=List.mem_range.1 hk;omega)⟩
theorem sees_ok:Good1 Try.prog n_impl_sees seesC:=by
 refine good_ofG (tys:=tyL) (env:=[(n_impl_wallsOf,wallsOfC),(n_impl_crosses,crossesC),(n_impl_cornersBetween,cornersBC),(n_impl_middle,middleC)]) (envw:=[]) (envd:=[]) [] [] [] [] [] mixed tys ⟨wallsOf_ok,crosses_ok,cornersBetween_ok,middle_ok,trivial⟩ trivial trivial Try.func92 rfl (by kernel_rfl) (by decide) (by kernel_rfl) ?_
 have hG_:=kpz [(0,[3,4,5]),(1,[3,4,5,13,14,15]),(2,[3,4,5,13,14,15,16]),(3,[3,4,5,8,13,14,15]),(4,[3,4,5,13,14,15,23]),(5,[6]),(6,[3,4,5,13,14,15]),(7,[3,9]),(8,[3,9,10]),(9,[3,9,10,32]),(10,[3,9,10]),(11,[3,9,10,46]),(12,[6]),(13,[6])] [(3,[8])] [] []
 rintro ⟨(xs:List Pt),⟨(ax:Int),(ay:Int)⟩,⟨(bx:Int),(b_y:Int)⟩,⟨⟩⟩ (h1:xs.length≤_)
 have hw:=walls_len xs
 have hc:=cornersB_len xs (ax,ay) (bx,b_y)
 have hfl:=filter_len_le (f:=amid (ax,ay) (bx,b_y)) h1 xs.length
 rw [List.take_of_length_le (Nat.le_refl _)] at hfl
 (repeat' (first|(with_reducible first|exact True.intro|refine zQ ?_|(refine zG hG_ ?_;intro K_ hK_)|(refine zR ?_;intro K_ hK_)|(refine hK_ _ _ ?_;try clear hK_ K_)|refine sq_n ?_|refine sq_r ?_|refine sq_e ?_|refine bq_n ?_|refine bq_r ?_|refine bq_q ?_|refine zB ?_|refine zX ?_|refine zT ?_|refine zK ?_|refine gq_n ?_|refine gq_r ?_|refine gq_e ?_|refine lq_n ?_|refine lq_r ?_|refine lq_e ?_|refine bq_e (by decide) ?_)|((with_reducible refine zC (b:=?b_) ?hb_ ?_ ?_);case hb_=>rfl)|((conv=>whnf);first|(with_reducible refine hK_ _ _ ?_;try clear hK_ K_)|(with_reducible refine fun (g_:Sl) (o_:Ow)=>?_)|(with_reducible first|exact True.intro|refine And.intro trivial ?_|refine And.intro ?_ ?_)|exact Nat.le_of_ble_eq_true rfl|exact Or.inl rfl|(intro h_;cases h_)|(intro h_;(try simp only [vS1] at h_))|rfl))) <;> (try (conv=>whnf)) <;> (try first|change (_:Int)≤_|change (_:Nat)≤_) <;> (try ((fail_if_success (with_reducible apply Exists.intro));(try dsimp only);(try simp only [vS1]))) <;> (try simp (disch:=omega) only [vS3,vS2] at *)
 all_goals (try (fail_if_success (with_reducible apply Exists.intro));first|with_reducible assumption|omega|exact mdl (by omega)|exact ilo1 (by omega)|exact ilo2 (by omega)|exact ihi1 (by omega) (by omega)|exact ihi2 (by omega) (by omega))
 refine awp'_loopG (α:=Nat) (fun k ver_=>[(15,vInt k)]) (fun k ver_=>[]) (fun k ver_=>[]) (fun k=>k≤xs.length∧∀ j,j < k→crs (ax,ay) (bx,b_y) (wl xs j).1 (wl xs j).2=false) (fun k=>xs.length - k) [3,4,5,13,14] [] (0) ?_
 conv=>whnf
 refine ⟨⟨?inv3_,?vals3_,?own3_,?fix3_⟩,?body3_⟩
 case' vals3_=>(repeat' (first|(with_reducible first|exact True.intro|refine And.intro ?_ ?_|refine Head.mk ?_ ?_ ?_ ?_)|((conv=>lhs;whnf);first|(with_reducible first|rfl|exact vInt_s (by omega))|exact rfl)|((conv=>whnf);first|(with_reducible first|exact True.intro|refine And.intro ?_ ?_)))) <;> (try (conv=>lhs;whnf))
 case' own3_=>(repeat' (first|(with_reducible first|exact True.intro|refine And.intro ?_ ?_|refine Head.mk ?_ ?_ ?_ ?_)|((conv=>lhs;whnf);first|(with_reducible first|rfl|exact vInt_s (by omega))|exact rfl)|((conv=>whnf);first|(with_reducible first|exact True.intro|refine And.intro ?_ ?_)))) <;> (try (conv=>lhs;whnf))
 case' fix3_=>(repeat' (first|(with_reducible first|exact True.intro|refine And.intro ?_ ?_|refine Head.mk ?_ ?_ ?_ ?_)|((conv=>lhs;whnf);first|(with_reducible first|rfl|exact vInt_s (by omega))|exact rfl)|((conv=>whnf);first|(with_reducible first|exact True.intro|refine And.intro ?_ ?_)))) <;> (try (conv=>lhs;whnf))
 ·exact ⟨Nat.zero_le _,fun j hj=>absurd hj (by omega)⟩
 rintro k g_ o_ v_ ⟨hk,hall⟩
 (repeat' (first|(with_reducible first|exact True.intro|refine zQ ?_|(refine zG hG_ ?_;intro K_ hK_)|(refine zR ?_;intro K_ hK_)|(refine hK_ _ _ ?_;try clear hK_ K_)|refine sq_n ?_|refine sq_r ?_|refine sq_e ?_|refine bq_n ?_|refine bq_r ?_|refine bq_q ?_|refine zB ?_|refine zX ?_|refine zT ?_|refine zK ?_|refine gq_n ?_|refine gq_r ?_|refine gq_e ?_|refine lq_n ?_|refine lq_r ?_|refine lq_e ?_|refine bq_e (by decide) ?_)|((with_reducible refine zC (b:=?b_) ?hb_ ?_ ?_);case hb_=>rfl)|((conv=>whnf);first|(with_reducible refine hK_ _ _ ?_;try clear hK_ K_)|(with_reducible refine fun (g_:Sl) (o_:Ow)=>?_)|(with_reducible first|exact True.intro|refine And.intro trivial ?_|refine And.intro ?_ ?_)|exact Nat.le_of_ble_eq_true rfl|exact Or.inl rfl|(intro h_;cases h_)|(intro h_;(try simp only [vS1] at h_))|rfl))) <;> (try (conv=>whnf)) <;> (try first|change (_:Int)≤_|change (_:Nat)≤_) <;> (try ((fail_if_success (with_reducible apply Exists.intro));(try dsimp only);(try simp only [vS1]))) <;> (try simp (disch:=omega) only [vS3,vS2] at *)
 all_goals (try (fail_if_success (with_reducible apply Exists.intro));first|with_reducible assumption|omega|exact mdl (by omega)|exact ilo1 (by omega)|exact ilo2 (by omega)|exact ihi1 (by omega) (by omega)|exact ihi2 (by omega) (by omega))
 ·rw [walls_get (by omega)] at *
  exact (seesI_no1 (k:=k) (by omega) (by assumption)).symm
 ·rw [walls_get (by omega)] at *
  refine ⟨k + 1,by omega,⟨by omega,fun j hj=>?_⟩,by (repeat' (first|(with_reducible first|exact True.intro|refine And.intro ?_ ?_|refine Head.mk ?_ ?_ ?_ ?_)|((conv=>lhs;whnf);first|(with_reducible first|rfl|exact vInt_s (by omega))|exact rfl)|((conv=>whnf);first|(with_reducible first|exact True.intro|refine And.intro ?_ ?_)))) <;> (try (conv=>lhs;whnf))⟩
  rcases Nat.lt_or_ge j k with h5|h5
  ·exact hall j h5
  ·rw [show j=k by omega];assumption
 have hall2:∀ j,j < xs.length→crs (ax,ay) (bx,b_y) (wl xs j).1 (wl xs j).2=false:=fun j hj=>hall j (by omega)
 refine awp'_loopG (α:=Nat) (fun i ver_=>[(10,vInt (i + 1))]) (fun i ver_=>[]) (fun i ver_=>[]) (fun i=>i + 1≤(cornersB xs (ax,ay) (bx,b_y)).length∧∀ j,j < i→midM xs (pAt (cornersB xs (ax,ay) (bx,b_y)) j) (pAt (cornersB xs (ax,ay) (bx,b_y)) (j + 1))≠0) (fun i=>20 - i) [3,9] [] (0) ?_
 conv=>whnf
 refine ⟨⟨?inv4_,?vals4_,?own4_,?fix4_⟩,?body4_⟩
 case' vals4_=>(repeat' (first|(with_reducible first|exact True.intro|refine And.intro ?_ ?_|refine Head.mk ?_ ?_ ?_ ?_)|((conv=>lhs;whnf);first|(with_reducible first|rfl|exact vInt_s (by omega))|exact rfl)|((conv=>whnf);first|(with_reducible first|exact True.intro|refine And.intro ?_ ?_)))) <;> (try (conv=>lhs;whnf))
 case' own4_=>(repeat' (first|(with_reducible first|exact True.intro|refine And.intro ?_ ?_|refine Head.mk ?_ ?_ ?_ ?_)|((conv=>lhs;whnf);first|(with_reducible first|rfl|exact vInt_s (by omega))|exact rfl)|((conv=>whnf);first|(with_reducible first|exact True.intro|refine And.intro ?_ ?_)))) <;> (try (conv=>lhs;whnf))
 case' fix4_=>(repeat' (first|(with_reducible first|exact True.intro|refine And.intro ?_ ?_|refine Head.mk ?_ ?_ ?_ ?_)|((conv=>lhs;whnf);first|(with_reducible first|rfl|exact vInt_s (by omega))|exact rfl)|((conv=>whnf);first|(with_reducible first|exact True.intro|refine And.intro ?_ ?_)))) <;> (try (conv=>lhs;whnf))
 ·exact ⟨by omega,fun j hj=>absurd hj (by omega)⟩
 rintro i g_ o_ v_ ⟨hi,hmid⟩
 (repeat' (first|(with_reducible first|exact True.intro|refine zQ ?_|(refine zG hG_ ?_;intro K_ hK_)|(refine zR ?_;intro K_ hK_)|(refine hK_ _ _ ?_;try clear hK_ K_)|refine sq_n ?_|refine sq_r ?_|refine sq_e ?_|refine bq_n ?_|refine bq_r ?_|refine bq_q ?_|refine zB ?_|refine zX ?_|refine zT ?_|refine zK ?_|refine gq_n ?_|refine gq_r ?_|refine gq_e ?_|refine lq_n ?_|refine lq_r ?_|refine lq_e ?_|refine bq_e (by decide) ?_)|((with_reducible refine zC (b:=?b_) ?hb_ ?_ ?_);case hb_=>rfl)|((conv=>whnf);first|(with_reducible refine hK_ _ _ ?_;try clear hK_ K_)|(with_reducible refine fun (g_:Sl) (o_:Ow)=>?_)|(with_reducible first|exact True.intro|refine And.intro trivial ?_|refine And.intro ?_ ?_)|exact Nat.le_of_ble_eq_true rfl|exact Or.inl rfl|(intro h_;cases h_)|(intro h_;(try simp only [vS1] at h_))|rfl))) <;> (try (conv=>whnf)) <;> (try first|change (_:Int)≤_|change (_:Nat)≤_) <;> (try ((fail_if_success (with_reducible apply Exists.intro));(try dsimp only);(try simp only [vS1]))) <;> (try simp (disch:=omega) only [vS3,vS2] at *)
 all_goals (try (fail_if_success (with_reducible apply Exists.intro));first|with_reducible assumption|omega|exact mdl (by omega)|exact ilo1 (by omega)|exact ilo2 (by omega)|exact ihi1 (by omega) (by omega)|exact ihi2 (by omega) (by omega))
 ·rw [show ((i:Int) + 1 - 1).toNat=i by omega,show ((i:Int) + 1).toNat=i + 1 by omega] at h_
  exact (seesI_no2 (by omega) h_).symm
 ·rw [show ((i:Int) + 1 - 1).toNat=i by omega,show ((i:Int) + 1).toNat=i + 1 by omega] at h_
  refine ⟨i + 1,by omega,⟨by omega,fun j hj=>?_⟩,by (repeat' (first|(with_reducible first|exact True.intro|refine And.intro ?_ ?_|refine Head.mk ?_ ?_ ?_ ?_)|((conv=>lhs;whnf);first|(with_reducible first|rfl|exact vInt_s (by omega))|exact rfl)|((conv=>whnf);first|(with_reducible first|exact True.intro|refine And.intro ?_ ?_)))) <;> (try (conv=>lhs;whnf))⟩
  rcases Nat.lt_or_ge j i with h5|h5
  ·exact hmid j h5
  ·rw [show j=i by omega];exact h_
 ·exact (seesI_yes hall2 fun j hj=>hmid j (by omega)).symm
end Go.Proofs.Ytnepfcnlngpchaa
namespace Go.Proofs.Ytnepfcnlngpchaa
open Go.Shelf Go.RowKit Go.Lib Go.Sort Go.Proofs.Ytnepfcnlngpchaa.Nm
theorem bd_default:Bd (default:Pt):=by unfold Bd;decide
theorem getBang_bd {d:Array Pt} (h:∀ p∈d.toList,Bd p) (i:Nat):Bd d[i]! := by
 by_cases hi:i < d.size
 ·rw [getElem!_pos d i hi];exact h _ (Array.getElem_mem_toList hi)
 ·rw [getElem!_neg d i hi];exact bd_default
theorem swp_mem {d:Array Pt} (h:∀ p∈d.toList,Bd p) {i j:Nat} (hi:i < d.size) (hj:j < d.size):∀ p∈(swp d i j).toList,Bd p:=by
 intro p hp
 have hperm:=swp_permIn d 0 d.size i j (Nat.zero_le _) hi (Nat.zero_le _) hj (Nat.le_refl _)
 have h3:=hperm.2.2
 have h1:=hperm.1
 rw [← h1,Array.extract_size,h1,Array.extract_size] at h3
 exact h p (h3.mem_iff.1 hp)
theorem insInner_congr {lt lt':Pt→Pt→Bool} (hl:∀ x y,Bd x→Bd y→lt x y=lt' x y) (a:Nat):∀ (j:Nat) (d:Array Pt),(∀ p∈d.toList,Bd p)→j < d.size→insInner lt a j d=insInner lt' a j d
 | 0,d,_,_=>rfl
 | j + 1,d,h,hj=>by
  unfold insInner
  rw [hl _ _ (getBang_bd h _) (getBang_bd h _)]
  split
  ·exact insInner_congr hl a j _ (swp_mem h hj (by omega)) (by rw [size_swp];omega)
  ·rfl
theorem insInner_bd {lt:Pt→Pt→Bool} (a:Nat):∀ (j:Nat) (d:Array Pt),(∀ p∈d.toList,Bd p)→j < d.size→∀ p∈(insInner lt a j d).toList,Bd p
 | 0,d,h,_=>h
 | j + 1,d,h,hj=>by
  unfold insInner
  split
  ·exact insInner_bd a j _ (swp_mem h hj (by omega)) (by rw [size_swp];omega)
  ·exact h
theorem insOuter_congr {lt lt':Pt→Pt→Bool} (hl:∀ x y,Bd x→Bd y→lt x y=lt' x y) (a b:Nat):∀ (n i:Nat) (d:Array Pt),b - i≤n→b≤d.size→(∀ p∈d.toList,Bd p)→insOuter lt a b i d=insOuter lt' a b i d
 | 0,i,d,hn,hb,h=>by unfold insOuter;rw [if_neg (by omega),if_neg (by omega)]
 | n + 1,i,d,hn,hb,h=>by
  unfold insOuter
  split
  ·rw [insInner_congr hl a i d h (by omega)]
   exact insOuter_congr hl a b n (i + 1) _ (by omega) (by rw [insInner_size];exact hb) (insInner_bd a i d h (by omega))
  ·rfl
theorem sq_bd {x:Int} (h1:-2000≤x) (h2:x≤2000):0≤x * x∧x * x≤4000000:=by
 have:=mul_bd h1 h2 h1 h2
 refine ⟨?_,this.2⟩
 rcases Int.le_total 0 x with h|h
 ·exact Int.mul_nonneg h h
 ·exact Int.mul_nonneg_of_nonpos_of_nonpos h h
theorem sqM_exact {a x:Pt} (ha:Bd a) (hx:Bd x):sqM a x=sqd a x∧0≤sqd a x∧sqd a x≤8000000:=by
 unfold Bd at ha hx
 have e1:=sq_bd (x:=a.1 - x.1) (by omega) (by omega)
 have e2:=sq_bd (x:=a.2 - x.2) (by omega) (by omega)
 have hw:∀ n:Int,-9223372036854775808≤n→n≤9223372036854775807→wrap64 n=n:=fun n h1 h2=>by unfold wrap64;omega
 unfold sqM sqd
 rw [hw (a.1 - x.1) (by omega) (by omega),hw (a.2 - x.2) (by omega) (by omega),hw ((a.1 - x.1) * _) (by omega) (by omega),hw ((a.2 - x.2) * _) (by omega) (by omega),hw _ (by omega) (by omega)]
 exact ⟨rfl,by omega,by omega⟩
theorem cb_lt {a x y:Pt} (ha:Bd a) (hx:Bd x) (hy:Bd y):ltOf (cbCmp a) x y=decide (sqd a x < sqd a y):=by
 obtain ⟨e1,b1,b2⟩:=sqM_exact ha hx
 obtain ⟨e2,b3,b4⟩:=sqM_exact ha hy
 unfold ltOf cbCmp
 rw [e1,e2,W_in (by omega) (by omega)]
 exact decide_eq_decide.2 (by omega)
theorem swo_key (key:Pt→Int):SWO fun x y=>decide (key x < key y):=
 ⟨fun x=>by simp,fun x y z h1 h2=>by simp at *;omega,fun x y z h1 h2=>by simp at *;omega⟩
theorem distSort_perm {a:Pt} {xs:List Pt} (ha:Bd a) (h:∀ p∈xs,Bd p):(distSort a xs).Perm xs∧(distSort a xs).Pairwise fun p q=>sqd a p≤sqd a q:=by
 have e:distSort a xs=(Sort.insertionSort (fun x y=>decide (sqd a x < sqd a y)) xs.toArray 0 xs.length).toList:=by
  unfold distSort Sort.insertionSort
  rw [insOuter_congr (fun x y hx hy=>cb_lt ha hx hy) 0 xs.length _ _ xs.toArray (Nat.le_refl _) (by simp) (by simpa using h)]
 rw [e]
 obtain ⟨⟨h1,h2,h3⟩,h4⟩:=insertionSort_holds (lt:=fun x y=>decide (sqd a x < sqd a y)) (swo_key (sqd a)) xs.toArray 0 xs.length (Nat.zero_le _) (by simp)
 generalize Sort.insertionSort (fun x y=>decide (sqd a x < sqd a y)) xs.toArray 0 xs.length=D at *
 have hs:D.size=xs.length:=by rw [h1];simp
 refine ⟨?_,?_⟩
 ·have h3:=h3
  rw [← hs,Array.extract_size] at h3
  rw [show D.size=xs.toArray.size by rw [h1],Array.extract_size] at h3
  exact h3
 ·rw [List.pairwise_iff_getElem]
  intro i j hi hj hij
  have hi':i < D.size:=by simpa using hi
  have hj':j < D.size:=by simpa using hj
  have:=h4 i j (Nat.zero_le _) hij (by omega)
  rw [getElem!_pos D i hi',getElem!_pos D j hj'] at this
  simp only [decide_eq_false_iff_not] at this
  simp only [Array.getElem_toList]
  omega
theorem seesI_iff' {xs:List Pt} {a b:Pt}:seesI xs a b=true↔(∀ k,k < xs.length→crs a b (wl xs k).1 (wl xs k).2=false)∧∀ u,u + 1 < (cornersB xs a b).length→midM xs (pAt (cornersB xs a b) u) (pAt (cornersB xs a b) (u + 1))≠0:=by
 unfold seesI
 simp only [Bool.and_eq_true,List.all_eq_true,List.mem_range,Bool.not_eq_true',bne_iff_ne,ne_eq]
 refine and_congr_right fun _=>⟨fun h u hu=>h u (by omega),fun h u hu=>h u (by omega)⟩
theorem cuts_bd {xs:List Pt} {a b:Pt} (ha:ptOk a=true) (hb:ptOk b=true):∀ p∈cutsOf xs a b,Bd p:=fun p h=>bd_on (bd_of_ok ha) (bd_of_ok hb) (cuts_on h)
theorem seesI_iff {xs:List Pt} {a b:Pt} (hr:roomOk xs=true) (ha:ptOk a=true) (hb:ptOk b=true):seesI xs a b=true↔Sees xs a b:=by
 rw [seesI_iff']
 obtain ⟨h1,h2⟩:=distSort_perm (bd_of_ok ha) (cuts_bd (xs:=xs) ha hb)
 exact and_congr_right fun _=>sees_sorted hr ha hb h1 h2
theorem sees_eq {xs:List Pt} {a b:Pt} (hr:roomOk xs=true) (ha:ptOk a=true) (hb:ptOk b=true):seesI xs a b=seesS xs a b:=by
 rw [Bool.eq_iff_iff,seesI_iff hr ha hb,seesS_iff hr ha hb]
theorem cornersB_perm {xs:List Pt} {a b:Pt} (ha:ptOk a=true) (hb:ptOk b=true):(cornersB xs a b).length=(cutsOf xs a b).length:=
 (distSort_perm (bd_of_ok ha) (cuts_bd (xs:=xs) ha hb)).1.length_eq
end Go.Proofs.Ytnepfcnlngpchaa
namespace Go.Proofs.Ytnepfcnlngpchaa
open Go.RowKit Go.Proofs.Ytnepfcnlngpchaa.Nm
set_option maxRecDepth 10000
theorem tn1 (k:Nat):((k:Int) + 1).toNat=k + 1:=by omega
theorem tnp {k:Nat} (h:1≤k):((k:Int) - 1).toNat=k - 1:=by omega
theorem tnc (k:Nat):((k:Int) + 1 - 1).toNat=k:=by omega
theorem Good1.imp {P:Program} {f:FuncId} {ts:List Ty} {pre pre':Args ts→Prop} {res res':Args ts→RV} (h:Good1 P f (mkCon ts pre res)) (hp:∀ x,pre' x→pre x∧res' x=res x):Good1 P f (mkCon ts pre' res'):=
 ⟨fun w F args vs x h1 h2 h3 h4 h5=>by
  obtain ⟨k1,k2⟩:=hp x h2
  show Calls _ _ _ _ fun e w'=>∃ v,e=.returned v∧Below w.heap.size w w'∧RetC w w' F (res' x) v
  rw [k2]
  exact h.snd w F args vs x h1 k1 h3 h4 h5,h.has⟩
theorem eq_false_of {b:Bool} (h:b=true→False):false=b:=by cases b with|false=>rfl|true=>exact (h rfl).elim
theorem eq_true_of {b:Bool} (h:b=true):true=b:=h.symm
theorem lt_succ_all {P:Nat→Prop} {k:Nat} (h:∀ j,j < k→P j) (hk:P k):∀ j,j < k + 1→P j:=fun j hj=>by
 rcases Nat.lt_or_ge j k with h5|h5
 ·exact h j h5
 ·rw [show j=k by omega];exact hk
def rowI (xs:List Int):RV:=⟨.one (.own 0 0),some ⟨t_int,none,.b .int,xs⟩⟩
def eqPsC:Con:=mkCon [.sl (.b .pt),.sl (.b .pt)] (fun x=>x.1.length≤1048576) fun x=>vB (decide (x.1=x.2.1))
abbrev Tri:=Int × Int × Int
abbrev pI (xs:List Pt) (k:Int):Pt:=xs.getD k.toNat (0,0)
def inTri (a b c p:Pt):Bool:=decide (0≤turn a b p) && (decide (0≤turn b c p) && decide (0≤turn c a p))
def hasCor (xs:List Pt) (k:Int):Bool:=btw k 0 (xs.length - 1) && roomOk xs
def hasCorC:Con:=mkCon [.room,.int] (fun x=>x.1.length≤1048576) fun x=>vB (hasCor x.1 x.2.1)
theorem hasCorner_ok:Good1 Try.prog n_impl_hasCorner hasCorC:=by
 refine good_ofG (tys:=tyL) (env:=[(n_impl_between,btwC),(n_impl_RoomOk,roomOkC)]) (envw:=[]) (envd:=[]) [] [] [] [] [] mixed tys ⟨between_ok,iRoomOk_ok,trivial⟩ trivial trivial Try.func75 rfl (by kernel_rfl) (by decide) (by kernel_rfl) ?_
 have hG_:=kpz [(0,[1,2]),(1,[4])] [] [] []
 rintro ⟨(xs:List Pt),(k:Int),⟨⟩⟩ (h1:xs.length≤_)
 (repeat' (first|(with_reducible first|exact True.intro|refine zQ ?_|(refine zG hG_ ?_;intro K_ hK_)|(refine zR ?_;intro K_ hK_)|(refine hK_ _ _ ?_;try clear hK_ K_)|refine sq_n ?_|refine sq_r ?_|refine sq_e ?_|refine bq_n ?_|refine bq_r ?_|refine bq_q ?_|refine zB ?_|refine zX ?_|refine zT ?_|refine zK ?_|refine gq_n ?_|refine gq_r ?_|refine gq_e ?_|refine lq_n ?_|refine lq_r ?_|refine lq_e ?_|refine bq_e (by decide) ?_)|((with_reducible refine zC (b:=?b_) ?hb_ ?_ ?_);case hb_=>rfl)|((conv=>whnf);first|(with_reducible refine hK_ _ _ ?_;try clear hK_ K_)|(with_reducible refine fun (g_:Sl) (o_:Ow)=>?_)|(with_reducible first|exact True.intro|refine And.intro trivial ?_|refine And.intro ?_ ?_)|exact Nat.le_of_ble_eq_true rfl|exact Or.inl rfl|(intro h_;cases h_)|(intro h_;(try simp only [vS1] at h_))|rfl))) <;> (try (conv=>whnf)) <;> (try first|change (_:Int)≤_|change (_:Nat)≤_) <;> (try ((fail_if_success (with_reducible apply Exists.intro));(try dsimp only);(try simp only [vS1]))) <;> (try simp (disch:=omega) only [vS3,vS2] at *)
 all_goals (try (fail_if_success (with_reducible apply Exists.intro));first|with_reducible assumption|omega|exact mdl (by omega)|exact ilo1 (by omega)|exact ilo2 (by omega)|exact ihi1 (by omega) (by omega)|exact ihi2 (by omega) (by omega))
 all_goals (simp_all [hasCor])
def rot {α:Type} (xs:List α) (k:Nat):List α:=xs.drop k ++ xs.take k
def startAt (xs:List Pt) (k:Int):List Pt:=if hasCor xs k then rot xs k.toNat else []
def rRoom (xs:List Pt):RV:=⟨.agg [.own 0 0],some ⟨t_impl_Point,none,.b .pt,xs⟩⟩
def startAtC:Con:=mkCon [.room,.int] (fun x=>x.1.length≤1048576) fun x=>rRoom (startAt x.1 x.2.1)
theorem hasCor_iff {xs:List Pt} {k:Int}:hasCor xs k=true↔(0≤k∧k < xs.length)∧roomOk xs=true:=by
 simp only [hasCor,Bool.and_eq_true,btw_iff]
 exact and_congr_left fun _=>by omega
theorem iStartAt_ok:Good1 Try.prog n_impl_StartAt startAtC:=by
 refine good_ofG (tys:=tyL) (env:=[(n_impl_hasCorner,hasCorC)]) (envw:=[]) (envd:=[]) [10] [11,12,14,16,17,19] [] [] [] mixed tys ⟨hasCorner_ok,trivial⟩ trivial trivial Try.func52 rfl (by kernel_rfl) (by decide) (by kernel_rfl) ?_
 have hG_:=kpz [(0,[1,2,4]),(1,[1,2,4,8]),(2,[4]),(3,[4])] [(0,[4]),(1,[4]),(2,[4]),(3,[4,10])] [] []
 rintro ⟨(xs:List Pt),(k:Int),⟨⟩⟩ (h1:xs.length≤_)
 (repeat' (first|(with_reducible first|exact True.intro|refine zQ ?_|(refine zG hG_ ?_;intro K_ hK_)|(refine zR ?_;intro K_ hK_)|(refine hK_ _ _ ?_;try clear hK_ K_)|refine sq_n ?_|refine sq_r ?_|refine sq_e ?_|refine bq_n ?_|refine bq_r ?_|refine bq_q ?_|refine zB ?_|refine zX ?_|refine zT ?_|refine zK ?_|refine gq_n ?_|refine gq_r ?_|refine gq_e ?_|refine lq_n ?_|refine lq_r ?_|refine lq_e ?_|refine bq_e (by decide) ?_)|((with_reducible refine zC (b:=?b_) ?hb_ ?_ ?_);case hb_=>rfl)|((conv=>whnf);first|(with_reducible refine hK_ _ _ ?_;try clear hK_ K_)|(with_reducible refine fun (g_:Sl) (o_:Ow)=>?_)|(with_reducible first|exact True.intro|refine And.intro trivial ?_|refine And.intro ?_ ?_)|exact Nat.le_of_ble_eq_true rfl|exact Or.inl rfl|(intro h_;cases h_)|(intro h_;(try simp only [vS1] at h_))|rfl))) <;> (try (conv=>whnf)) <;> (try first|change (_:Int)≤_|change (_:Nat)≤_) <;> (try ((fail_if_success (with_reducible apply Exists.intro));(try dsimp only);(try simp only [vS1]))) <;> (try simp (disch:=omega) only [vS3,vS2] at *)
 all_goals (try (fail_if_success (with_reducible apply Exists.intro));first|with_reducible assumption|omega|exact mdl (by omega)|exact ilo1 (by omega)|exact ilo2 (by omega)|exact ihi1 (by omega) (by omega)|exact ihi2 (by omega) (by omega))
 ·simp [startAt,h_]
 all_goals (have hb:=hasCor_iff.1 h_)
 all_goals (try (fail_if_success (with_reducible apply Exists.intro));first|with_reducible assumption|omega|exact mdl (by omega)|exact ilo1 (by omega)|exact ilo2 (by omega)|exact ihi1 (by omega) (by omega)|exact ihi2 (by omega) (by omega))
 ·exact congrArg some (by simp [startAt,h_,rot])
theorem slEqPt_ok:Good1 Try.prog n_slices_Equal_impl_Point eqPsC:=by
 refine good_ofG (tys:=tyL) (env:=[]) (envw:=[]) (envd:=[]) [] [] [] [] [] mixed tys trivial trivial trivial Try.func101 rfl (by kernel_rfl) (by decide) (by kernel_rfl) ?_
 have hG_:=kpz [(0,[0,1]),(1,[0,1,10]),(2,[4]),(3,[0,1,12,13]),(4,[0,1,12,13,14]),(5,[0,1,5,12,13]),(6,[0,1,12,13,24]),(7,[4]),(8,[0,1,12,13]),(9,[4])] [] [] []
 rintro ⟨(xs:List Pt),(ys:List Pt),⟨⟩⟩ (h1:xs.length≤_)
 (repeat' (first|(with_reducible first|exact True.intro|refine zQ ?_|(refine zG hG_ ?_;intro K_ hK_)|(refine zR ?_;intro K_ hK_)|(refine hK_ _ _ ?_;try clear hK_ K_)|refine sq_n ?_|refine sq_r ?_|refine sq_e ?_|refine bq_n ?_|refine bq_r ?_|refine bq_q ?_|refine zB ?_|refine zX ?_|refine zT ?_|refine zK ?_|refine gq_n ?_|refine gq_r ?_|refine gq_e ?_|refine lq_n ?_|refine lq_r ?_|refine lq_e ?_|refine bq_e (by decide) ?_)|((with_reducible refine zC (b:=?b_) ?hb_ ?_ ?_);case hb_=>rfl)|((conv=>whnf);first|(with_reducible refine hK_ _ _ ?_;try clear hK_ K_)|(with_reducible refine fun (g_:Sl) (o_:Ow)=>?_)|(with_reducible first|exact True.intro|refine And.intro trivial ?_|refine And.intro ?_ ?_)|exact Nat.le_of_ble_eq_true rfl|exact Or.inl rfl|(intro h_;cases h_)|(intro h_;(try simp only [vS1] at h_))|rfl))) <;> (try (conv=>whnf)) <;> (try first|change (_:Int)≤_|change (_:Nat)≤_) <;> (try ((fail_if_success (with_reducible apply Exists.intro));(try dsimp only);(try simp only [vS1]))) <;> (try simp (disch:=omega) only [vS3,vS2] at *)
 ·symm;rw [decide_eq_false_iff_not];rintro rfl;exact h_ rfl
 have hl:=h_
 refine awp'_loopG (α:=Nat) (fun k ver_=>[(13,vInt k)]) (fun k ver_=>[]) (fun k ver_=>[]) (fun k=>k≤xs.length∧∀ j,j < k→pAt xs j=pAt ys j) (fun k=>xs.length - k) [0,1,12] [] (0) ?_
 conv=>whnf
 refine ⟨⟨?inv1_,?vals1_,?own1_,?fix1_⟩,?body1_⟩
 case' vals1_=>(repeat' (first|(with_reducible first|exact True.intro|refine And.intro ?_ ?_|refine Head.mk ?_ ?_ ?_ ?_)|((conv=>lhs;whnf);first|(with_reducible first|rfl|exact vInt_s (by omega))|exact rfl)|((conv=>whnf);first|(with_reducible first|exact True.intro|refine And.intro ?_ ?_)))) <;> (try (conv=>lhs;whnf))
 case' own1_=>(repeat' (first|(with_reducible first|exact True.intro|refine And.intro ?_ ?_|refine Head.mk ?_ ?_ ?_ ?_)|((conv=>lhs;whnf);first|(with_reducible first|rfl|exact vInt_s (by omega))|exact rfl)|((conv=>whnf);first|(with_reducible first|exact True.intro|refine And.intro ?_ ?_)))) <;> (try (conv=>lhs;whnf))
 case' fix1_=>(repeat' (first|(with_reducible first|exact True.intro|refine And.intro ?_ ?_|refine Head.mk ?_ ?_ ?_ ?_)|((conv=>lhs;whnf);first|(with_reducible first|rfl|exact vInt_s (by omega))|exact rfl)|((conv=>whnf);first|(with_reducible first|exact True.intro|refine And.intro ?_ ?_)))) <;> (try (conv=>lhs;whnf))
 ·exact ⟨Nat.zero_le _,fun j hj=>absurd hj (by omega)⟩
 rintro k g_ o_ v_ ⟨hk,hall⟩
 (repeat' (first|(with_reducible first|exact True.intro|refine zQ ?_|(refine zG hG_ ?_;intro K_ hK_)|(refine zR ?_;intro K_ hK_)|(refine hK_ _ _ ?_;try clear hK_ K_)|refine sq_n ?_|refine sq_r ?_|refine sq_e ?_|refine bq_n ?_|refine bq_r ?_|refine bq_q ?_|refine zB ?_|refine zX ?_|refine zT ?_|refine zK ?_|refine gq_n ?_|refine gq_r ?_|refine gq_e ?_|refine lq_n ?_|refine lq_r ?_|refine lq_e ?_|refine bq_e (by decide) ?_)|((with_reducible refine zC (b:=?b_) ?hb_ ?_ ?_);case hb_=>rfl)|((conv=>whnf);first|(with_reducible refine hK_ _ _ ?_;try clear hK_ K_)|(with_reducible refine fun (g_:Sl) (o_:Ow)=>?_)|(with_reducible first|exact True.intro|refine And.intro trivial ?_|refine And.intro ?_ ?_)|exact Nat.le_of_ble_eq_true rfl|exact Or.inl rfl|(intro h_;cases h_)|(intro h_;(try simp only [vS1] at h_))|rfl))) <;> (try (conv=>whnf)) <;> (try first|change (_:Int)≤_|change (_:Nat)≤_) <;> (try ((fail_if_success (with_reducible apply Exists.intro));(try dsimp only);(try simp only [vS1]))) <;> (try simp (disch:=omega) only [vS3,vS2] at *)
 all_goals (try (fail_if_success (with_reducible apply Exists.intro));first|with_reducible assumption|omega|exact mdl (by omega)|exact ilo1 (by omega)|exact ilo2 (by omega)|exact ihi1 (by omega) (by omega)|exact ihi2 (by omega) (by omega))
 ·symm;rw [decide_eq_false_iff_not];rintro rfl;exact absurd rfl (by assumption)
 ·refine ⟨k + 1,by omega,⟨by omega,fun j hj=>?_⟩,by (repeat' (first|(with_reducible first|exact True.intro|refine And.intro ?_ ?_|refine Head.mk ?_ ?_ ?_ ?_)|((conv=>lhs;whnf);first|(with_reducible first|rfl|exact vInt_s (by omega))|exact rfl)|((conv=>whnf);first|(with_reducible first|exact True.intro|refine And.intro ?_ ?_)))) <;> (try (conv=>lhs;whnf))⟩
  rcases Nat.lt_or_ge j k with h5|h5
  ·exact hall j h5
  ·rw [show j=k by omega];assumption
 ·symm;rw [decide_eq_true_eq]
  refine List.ext_getElem hl fun j h1 h2=>?_
  have:=hall j (by omega)
  rwa [pAt,pAt,getD_lt _ h1,getD_lt _ h2] at this
theorem rot_len {α:Type} (xs:List α) (k:Nat):(rot xs k).length=xs.length:=by simp [rot];omega
theorem rot_get {xs:List Pt} {k i:Nat} (hk:k < xs.length) (hi:i < xs.length):pAt (rot xs k) i=pCy xs (k + i):=by
 unfold pAt pCy rot
 rw [List.getD_eq_getElem?_getD,List.getD_eq_getElem?_getD]
 congr 1
 rcases Nat.lt_or_ge (k + i) xs.length with h|h
 ·rw [Nat.mod_eq_of_lt h,List.getElem?_append_left (by simp;omega),List.getElem?_drop]
 ·rw [Nat.mod_eq_sub_mod h,Nat.mod_eq_of_lt (by omega),List.getElem?_append_right (by simp;omega),List.getElem?_take_of_lt (by simp;omega)]
  congr 1
  simp;omega
def sameRoom (xs ys:List Pt):Int:=if roomOk xs && roomOk ys then (match (List.range xs.length).find? (fun k=>decide (rot xs k=ys)) with|some k=>(k:Int)|none=>-1) else -1
def sameRoomC:Con:=mkCon [.room,.room] (fun x=>x.1.length≤1048576∧x.2.1.length≤1048576) fun x=>vI (sameRoom x.1 x.2.1)
theorem find_none {n:Nat} {f:Nat→Bool} (h:∀ j,j < n→f j=false):(List.range n).find? f=none:=by
 rw [List.find?_eq_none];intro x hx;rw [h x (List.mem_range.1 hx)];decide
theorem find_some {n k:Nat} {f:Nat→Bool} (hk:k < n) (h:∀ j,j < k→f j=false) (hf:f k=true):(List.range n).find? f=some k:=by
 rw [List.find?_eq_some_iff_getElem]
 refine ⟨hf,k,by simpa using hk,by simp,fun j hj=>?_⟩
 simp [h j hj]
theorem iSameRoom_ok:Good1 Try.prog n_impl_SameRoom sameRoomC:=by
 refine good_ofG (tys:=tyL) (env:=[(n_impl_RoomOk,roomOkC),(n_impl_StartAt,startAtC),(n_slices_Equal_impl_Point,eqPsC)]) (envw:=[]) (envd:=[]) [] [] [] [] [] mixed tys ⟨iRoomOk_ok,iStartAt_ok,slEqPt_ok,trivial⟩ trivial trivial Try.func50 rfl (by kernel_rfl) (by decide) (by kernel_rfl) ?_
 have hG_:=kpz [(0,[2,3]),(1,[2,3,13]),(2,[4]),(3,[2,3,16,17]),(4,[2,3,16,17,18]),(5,[2,3,5,16,17]),(6,[2,3,5,16,17,26]),(7,[4]),(8,[2,3,16,17]),(9,[4])] [] [] []
 rintro ⟨(xs:List Pt),(ys:List Pt),⟨⟩⟩ ⟨(h1:xs.length≤_),(h2:ys.length≤_)⟩
 (repeat' (first|(with_reducible first|exact True.intro|refine zQ ?_|(refine zG hG_ ?_;intro K_ hK_)|(refine zR ?_;intro K_ hK_)|(refine hK_ _ _ ?_;try clear hK_ K_)|refine sq_n ?_|refine sq_r ?_|refine sq_e ?_|refine bq_n ?_|refine bq_r ?_|refine bq_q ?_|refine zB ?_|refine zX ?_|refine zT ?_|refine zK ?_|refine gq_n ?_|refine gq_r ?_|refine gq_e ?_|refine lq_n ?_|refine lq_r ?_|refine lq_e ?_|refine bq_e (by decide) ?_)|((with_reducible refine zC (b:=?b_) ?hb_ ?_ ?_);case hb_=>rfl)|((conv=>whnf);first|(with_reducible refine hK_ _ _ ?_;try clear hK_ K_)|(with_reducible refine fun (g_:Sl) (o_:Ow)=>?_)|(with_reducible first|exact True.intro|refine And.intro trivial ?_|refine And.intro ?_ ?_)|exact Nat.le_of_ble_eq_true rfl|exact Or.inl rfl|(intro h_;cases h_)|(intro h_;(try simp only [vS1] at h_))|rfl))) <;> (try (conv=>whnf)) <;> (try first|change (_:Int)≤_|change (_:Nat)≤_) <;> (try ((fail_if_success (with_reducible apply Exists.intro));(try dsimp only);(try simp only [vS1]))) <;> (try simp (disch:=omega) only [vS3,vS2] at *)
 all_goals (try (fail_if_success (with_reducible apply Exists.intro));first|with_reducible assumption|omega|exact mdl (by omega)|exact ilo1 (by omega)|exact ilo2 (by omega)|exact ihi1 (by omega) (by omega)|exact ihi2 (by omega) (by omega))
 ·simp_all [sameRoom]
 ·simp_all [sameRoom]
 have hx:roomOk xs=true:=by assumption
 have hy:roomOk ys=true:=by assumption
 refine awp'_loopG (α:=Nat) (fun k ver_=>[(17,vInt k)]) (fun k ver_=>[]) (fun k ver_=>[]) (fun k=>k≤xs.length∧∀ j,j < k→rot xs j≠ys) (fun k=>xs.length - k) [2,3,16] [] (0) ?_
 conv=>whnf
 refine ⟨⟨?inv2_,?vals2_,?own2_,?fix2_⟩,?body2_⟩
 case' vals2_=>(repeat' (first|(with_reducible first|exact True.intro|refine And.intro ?_ ?_|refine Head.mk ?_ ?_ ?_ ?_)|((conv=>lhs;whnf);first|(with_reducible first|rfl|exact vInt_s (by omega))|exact rfl)|((conv=>whnf);first|(with_reducible first|exact True.intro|refine And.intro ?_ ?_)))) <;> (try (conv=>lhs;whnf))
 case' own2_=>(repeat' (first|(with_reducible first|exact True.intro|refine And.intro ?_ ?_|refine Head.mk ?_ ?_ ?_ ?_)|((conv=>lhs;whnf);first|(with_reducible first|rfl|exact vInt_s (by omega))|exact rfl)|((conv=>whnf);first|(with_reducible first|exact True.intro|refine And.intro ?_ ?_)))) <;> (try (conv=>lhs;whnf))
 case' fix2_=>(repeat' (first|(with_reducible first|exact True.intro|refine And.intro ?_ ?_|refine Head.mk ?_ ?_ ?_ ?_)|((conv=>lhs;whnf);first|(with_reducible first|rfl|exact vInt_s (by omega))|exact rfl)|((conv=>whnf);first|(with_reducible first|exact True.intro|refine And.intro ?_ ?_)))) <;> (try (conv=>lhs;whnf))
 ·exact ⟨Nat.zero_le _,fun j hj=>absurd hj (by omega)⟩
 rintro k g_ o_ v_ ⟨hk,hall⟩
 have e:k < xs.length→startAt xs k=rot xs k:=fun h=>by rw [startAt,if_pos (hasCor_iff.2 ⟨by omega,hx⟩)];rfl
 have e2:(rot xs k).length=xs.length:=by simp [rot];omega
 (repeat' (first|(with_reducible first|exact True.intro|refine zQ ?_|(refine zG hG_ ?_;intro K_ hK_)|(refine zR ?_;intro K_ hK_)|(refine hK_ _ _ ?_;try clear hK_ K_)|refine sq_n ?_|refine sq_r ?_|refine sq_e ?_|refine bq_n ?_|refine bq_r ?_|refine bq_q ?_|refine zB ?_|refine zX ?_|refine zT ?_|refine zK ?_|refine gq_n ?_|refine gq_r ?_|refine gq_e ?_|refine lq_n ?_|refine lq_r ?_|refine lq_e ?_|refine bq_e (by decide) ?_)|((with_reducible refine zC (b:=?b_) ?hb_ ?_ ?_);case hb_=>rfl)|((conv=>whnf);first|(with_reducible refine hK_ _ _ ?_;try clear hK_ K_)|(with_reducible refine fun (g_:Sl) (o_:Ow)=>?_)|(with_reducible first|exact True.intro|refine And.intro trivial ?_|refine And.intro ?_ ?_)|exact Nat.le_of_ble_eq_true rfl|exact Or.inl rfl|(intro h_;cases h_)|(intro h_;(try simp only [vS1] at h_))|rfl))) <;> (try (conv=>whnf)) <;> (try first|change (_:Int)≤_|change (_:Nat)≤_) <;> (try ((fail_if_success (with_reducible apply Exists.intro));(try dsimp only);(try simp only [vS1]))) <;> (try simp (disch:=omega) only [vS3,vS2] at *)
 all_goals (try (fail_if_success (with_reducible apply Exists.intro));first|with_reducible assumption|omega|exact mdl (by omega)|exact ilo1 (by omega)|exact ilo2 (by omega)|exact ihi1 (by omega) (by omega)|exact ihi2 (by omega) (by omega))
 ·rw [e (by omega)];omega
 ·rw [sameRoom,hx,hy,find_some (k:=k) (by omega) (fun j hj=>decide_eq_false (hall j hj)) (by rw [← e (by omega)];simpa using ‹_›)];rfl
 ·refine ⟨k + 1,by omega,⟨by omega,fun j hj=>?_⟩,by (repeat' (first|(with_reducible first|exact True.intro|refine And.intro ?_ ?_|refine Head.mk ?_ ?_ ?_ ?_)|((conv=>lhs;whnf);first|(with_reducible first|rfl|exact vInt_s (by omega))|exact rfl)|((conv=>whnf);first|(with_reducible first|exact True.intro|refine And.intro ?_ ?_)))) <;> (try (conv=>lhs;whnf))⟩
  rcases Nat.lt_or_ge j k with h5|h5
  ·exact hall j h5
  ·rw [show j=k by omega,← e (by omega)];assumption
 ·rw [sameRoom,hx,hy,find_none fun j hj=>decide_eq_false (hall j (by omega))];rfl
theorem map_take_succ {α β:Type} (f:α→β) {xs:List α} {k:Nat} (d:α) (h:k < xs.length):(xs.take (k + 1)).map f=(xs.take k).map f ++ [f (xs.getD k d)]:=by
 rw [List.take_succ_eq_append_getElem h,List.map_append,getD_lt _ h];rfl
end Go.Proofs.Ytnepfcnlngpchaa
namespace Go.Proofs.Ytnepfcnlngpchaa
open Go.RowKit Go.Proofs.Ytnepfcnlngpchaa.Nm
set_option maxRecDepth 10000
set_option maxHeartbeats 2000000
def sees2C:Con:=mkCon [.room,.pt,.pt] (fun x=>roomOk x.1=true∧ptOk x.2.1=true∧ptOk x.2.2.1=true) fun x=>vB (seesS x.1 x.2.1 x.2.2.1)
theorem sees2_ok:Good1 Try.prog n_impl_sees sees2C:=by
 exact Good1.imp sees_ok fun x h=>⟨(room_len h.1).2,congrArg vB (sees_eq h.1 h.2.1 h.2.2).symm⟩
def inP (xs:List Pt) (p:Pt):Bool:=ptOk p && inB xs p
def allInM (xs l:List Pt):Bool:=roomOk xs && l.all (inP xs)
theorem inP_iff {xs:List Pt} {p:Pt}:inP xs p=true↔ptOk p=true∧placeM xs p≠0:=by unfold inP;rw [Bool.and_eq_true,bne_iff_ne]
theorem allIn_iff {xs l:List Pt}:allInM xs l=true↔roomOk xs=true∧∀ k,k < l.length→inP xs (pAt l k)=true:=by
 unfold allInM
 rw [Bool.and_eq_true,List.all_eq_true]
 refine and_congr_right fun _=>⟨fun h k hk=>h _ (pAt_mem hk),fun h p hp=>?_⟩
 obtain ⟨k,hk,rfl⟩:=List.getElem_of_mem hp
 rw [← getD_lt (0,0) hk]
 exact h k hk
def allInC:Con:=mkCon [.room,.sl (.b .pt)] (fun x=>x.1.length≤1048576∧x.2.1.length≤1048576) fun x=>vB (allInM x.1 x.2.1)
theorem allIn_ok:Good1 Try.prog n_impl_allIn allInC:=by
 refine good_ofG (tys:=tyL) (env:=[(n_impl_PointOk,ptOkC),(n_impl_place,placeC),(n_impl_RoomOk,roomOkC)]) (envw:=[]) (envd:=[]) [] [] [] [] [] mixed tys ⟨iPointOk_ok,place_ok,iRoomOk_ok,trivial⟩ trivial trivial Try.func93 rfl (by kernel_rfl) (by decide) (by kernel_rfl) ?_
 have hG_:=kpz [(0,[1,2]),(1,[2,7,8,9]),(2,[2,7,8,9,10]),(3,[2,6,7,8,9]),(4,[2,7,8,9,22]),(5,[4]),(6,[2,7,8,9]),(7,[4])] [(3,[6])] [] []
 rintro ⟨(xs:List Pt),(l:List Pt),⟨⟩⟩ ⟨(h1:xs.length≤_),(h2:l.length≤_)⟩
 (repeat' (first|(with_reducible first|exact True.intro|refine zQ ?_|(refine zG hG_ ?_;intro K_ hK_)|(refine zR ?_;intro K_ hK_)|(refine hK_ _ _ ?_;try clear hK_ K_)|refine sq_n ?_|refine sq_r ?_|refine sq_e ?_|refine bq_n ?_|refine bq_r ?_|refine bq_q ?_|refine zB ?_|refine zX ?_|refine zT ?_|refine zK ?_|refine gq_n ?_|refine gq_r ?_|refine gq_e ?_|refine lq_n ?_|refine lq_r ?_|refine lq_e ?_|refine bq_e (by decide) ?_)|((with_reducible refine zC (b:=?b_) ?hb_ ?_ ?_);case hb_=>rfl)|((conv=>whnf);first|(with_reducible refine hK_ _ _ ?_;try clear hK_ K_)|(with_reducible refine fun (g_:Sl) (o_:Ow)=>?_)|(with_reducible first|exact True.intro|refine And.intro trivial ?_|refine And.intro ?_ ?_)|exact Nat.le_of_ble_eq_true rfl|exact Or.inl rfl|(intro h_;cases h_)|(intro h_;(try simp only [vS1] at h_))|rfl))) <;> (try (conv=>whnf)) <;> (try first|change (_:Int)≤_|change (_:Nat)≤_) <;> (try ((fail_if_success (with_reducible apply Exists.intro));(try dsimp only);(try simp only [vS1]))) <;> (try simp (disch:=omega) only [vS3,Int.add_sub_cancel,tn1,tnp,tnc,vS2] at *)
 all_goals (try (fail_if_success (with_reducible apply Exists.intro));first|with_reducible assumption|omega|exact mdl (by omega)|exact ilo1 (by omega)|exact ilo2 (by omega)|exact ihi1 (by omega) (by omega)|exact ihi2 (by omega) (by omega))
 refine awp'_loopG (α:=Nat) (fun k ver_=>[(9,vInt k)]) (fun k ver_=>[]) (fun k ver_=>[]) (fun k=>k≤l.length∧∀ j,j < k→inP xs (pAt l j)=true) (fun k=>l.length - k) [2,7,8] [] (0) ?_
 conv=>whnf
 refine ⟨⟨?inv1_,?vals1_,?own1_,?fix1_⟩,?body1_⟩
 case' vals1_=>(repeat' (first|(with_reducible first|exact True.intro|refine And.intro ?_ ?_|refine Head.mk ?_ ?_ ?_ ?_)|((conv=>lhs;whnf);first|(with_reducible first|rfl|exact vInt_s (by omega))|exact rfl)|((conv=>whnf);first|(with_reducible first|exact True.intro|refine And.intro ?_ ?_)))) <;> (try (conv=>lhs;whnf))
 case' own1_=>(repeat' (first|(with_reducible first|exact True.intro|refine And.intro ?_ ?_|refine Head.mk ?_ ?_ ?_ ?_)|((conv=>lhs;whnf);first|(with_reducible first|rfl|exact vInt_s (by omega))|exact rfl)|((conv=>whnf);first|(with_reducible first|exact True.intro|refine And.intro ?_ ?_)))) <;> (try (conv=>lhs;whnf))
 case' fix1_=>(repeat' (first|(with_reducible first|exact True.intro|refine And.intro ?_ ?_|refine Head.mk ?_ ?_ ?_ ?_)|((conv=>lhs;whnf);first|(with_reducible first|rfl|exact vInt_s (by omega))|exact rfl)|((conv=>whnf);first|(with_reducible first|exact True.intro|refine And.intro ?_ ?_)))) <;> (try (conv=>lhs;whnf))
 ·exact ⟨Nat.zero_le _,fun j hj=>absurd hj (by omega)⟩
 rintro k g_ o_ v_ ⟨hk,hall⟩
 (repeat' (first|(with_reducible first|exact True.intro|refine zQ ?_|(refine zG hG_ ?_;intro K_ hK_)|(refine zR ?_;intro K_ hK_)|(refine hK_ _ _ ?_;try clear hK_ K_)|refine sq_n ?_|refine sq_r ?_|refine sq_e ?_|refine bq_n ?_|refine bq_r ?_|refine bq_q ?_|refine zB ?_|refine zX ?_|refine zT ?_|refine zK ?_|refine gq_n ?_|refine gq_r ?_|refine gq_e ?_|refine lq_n ?_|refine lq_r ?_|refine lq_e ?_|refine bq_e (by decide) ?_)|((with_reducible refine zC (b:=?b_) ?hb_ ?_ ?_);case hb_=>rfl)|((conv=>whnf);first|(with_reducible refine hK_ _ _ ?_;try clear hK_ K_)|(with_reducible refine fun (g_:Sl) (o_:Ow)=>?_)|(with_reducible first|exact True.intro|refine And.intro trivial ?_|refine And.intro ?_ ?_)|exact Nat.le_of_ble_eq_true rfl|exact Or.inl rfl|(intro h_;cases h_)|(intro h_;(try simp only [vS1] at h_))|rfl))) <;> (try (conv=>whnf)) <;> (try first|change (_:Int)≤_|change (_:Nat)≤_) <;> (try ((fail_if_success (with_reducible apply Exists.intro));(try dsimp only);(try simp only [vS1]))) <;> (try simp (disch:=omega) only [vS3,Int.add_sub_cancel,tn1,tnp,tnc,vS2] at *)
 all_goals (try (fail_if_success (with_reducible apply Exists.intro));first|with_reducible assumption|omega|exact mdl (by omega)|exact ilo1 (by omega)|exact ilo2 (by omega)|exact ihi1 (by omega) (by omega)|exact ihi2 (by omega) (by omega))
 ·refine eq_false_of fun hc=>?_
  have:=(inP_iff.1 ((allIn_iff.1 hc).2 k ‹k < l.length›)).1
  simp_all
 ·refine eq_false_of fun hc=>?_
  have:=(inP_iff.1 ((allIn_iff.1 hc).2 k ‹k < l.length›)).2
  simp_all
 ·exact ⟨k + 1,by omega,⟨by omega,lt_succ_all hall (inP_iff.2 ⟨by assumption,by assumption⟩)⟩,by (repeat' (first|(with_reducible first|exact True.intro|refine And.intro ?_ ?_|refine Head.mk ?_ ?_ ?_ ?_)|((conv=>lhs;whnf);first|(with_reducible first|rfl|exact vInt_s (by omega))|exact rfl)|((conv=>whnf);first|(with_reducible first|exact True.intro|refine And.intro ?_ ?_)))) <;> (try (conv=>lhs;whnf))⟩
 ·rw [Bool.eq_iff_iff,allIn_iff]
  exact ⟨fun h=>⟨h,fun j hj=>hall j (by omega)⟩,fun h=>h.1⟩
def neighZ (n i k:Int):Bool:=decide (Int.tmod (i + 1) n=k) || decide (Int.tmod (k + 1) n=i)
def neighC:Con:=mkCon [.room,.int,.int] (fun x=>0 < x.1.length∧x.1.length≤1048576∧(-1000≤x.2.1∧x.2.1≤1000)∧(-1000≤x.2.2.1∧x.2.2.1≤1000)) fun x=>vB (neighZ x.1.length x.2.1 x.2.2.1)
theorem neighbors_ok:Good1 Try.prog n_impl_neighbors neighC:=by
 refine good_ofG (tys:=tyL) (env:=[]) (envw:=[]) (envd:=[]) [] [] [] [] [] mixed tys trivial trivial trivial Try.func89 rfl (by kernel_rfl) (by decide) (by kernel_rfl) ?_
 have hG_:=kpz [(0,[1,2,3]),(1,[1,2,7]),(2,[6])] [] [] []
 rintro ⟨(xs:List Pt),(i:Int),(k:Int),⟨⟩⟩ ⟨(h0:0 < xs.length),(h1:xs.length≤_),⟨(h2:-1000≤i),(h3:i≤1000)⟩,(h4:-1000≤k),(h5:k≤1000)⟩
 (repeat' (first|(with_reducible first|exact True.intro|refine zQ ?_|(refine zG hG_ ?_;intro K_ hK_)|(refine zR ?_;intro K_ hK_)|(refine hK_ _ _ ?_;try clear hK_ K_)|refine sq_n ?_|refine sq_r ?_|refine sq_e ?_|refine bq_n ?_|refine bq_r ?_|refine bq_q ?_|refine zB ?_|refine zX ?_|refine zT ?_|refine zK ?_|refine gq_n ?_|refine gq_r ?_|refine gq_e ?_|refine lq_n ?_|refine lq_r ?_|refine lq_e ?_|refine bq_e (by decide) ?_)|((with_reducible refine zC (b:=?b_) ?hb_ ?_ ?_);case hb_=>rfl)|((conv=>whnf);first|(with_reducible refine hK_ _ _ ?_;try clear hK_ K_)|(with_reducible refine fun (g_:Sl) (o_:Ow)=>?_)|(with_reducible first|exact True.intro|refine And.intro trivial ?_|refine And.intro ?_ ?_)|exact Nat.le_of_ble_eq_true rfl|exact Or.inl rfl|(intro h_;cases h_)|(intro h_;(try simp only [vS1] at h_))|rfl))) <;> (try (conv=>whnf)) <;> (try first|change (_:Int)≤_|change (_:Nat)≤_) <;> (try ((fail_if_success (with_reducible apply Exists.intro));(try dsimp only);(try simp only [vS1]))) <;> (try simp (disch:=omega) only [vS3,Int.add_sub_cancel,tn1,tnp,tnc,vS2] at *)
 all_goals (try (fail_if_success (with_reducible apply Exists.intro));first|with_reducible assumption|omega|exact mdl (by omega)|exact ilo1 (by omega)|exact ilo2 (by omega)|exact ihi1 (by omega) (by omega)|exact ihi2 (by omega) (by omega))
 ·unfold neighZ;rw [decide_eq_true h_];rfl
 ·unfold neighZ;rw [decide_eq_false h_];rfl
def diagC (xs:List Pt) (i k:Nat):Bool:=seesS xs (pAt xs i) (pAt xs k) && (freeTo xs i k xs.length && decide (midM xs (pAt xs i) (pAt xs k)=2))
def diagM (xs:List Pt) (i k:Int):Bool:=btw i 0 (xs.length - 1) && (btw k 0 (xs.length - 1) && (!decide (i=k) && (!neighZ xs.length i k && diagC xs i.toNat k.toNat)))
theorem diagC_iff {xs:List Pt} {i k:Nat}:diagC xs i k=true↔seesS xs (pAt xs i) (pAt xs k)=true∧freeTo xs i k xs.length=true∧midM xs (pAt xs i) (pAt xs k)=2:=by
 unfold diagC;simp only [Bool.and_eq_true,decide_eq_true_eq]
theorem diagM_iff {xs:List Pt} {i k:Int}:diagM xs i k=true↔btw i 0 (xs.length - 1)=true∧btw k 0 (xs.length - 1)=true∧i≠k∧neighZ xs.length i k=false∧diagC xs i.toNat k.toNat=true:=by
 unfold diagM;simp only [Bool.and_eq_true,Bool.not_eq_true',decide_eq_false_iff_not,ne_eq]
theorem room_inj {xs:List Pt} (hr:roomOk xs=true) {i j:Nat} (hi:i < xs.length) (hj:j < xs.length) (e:pAt xs i=pAt xs j):i=j:=by
 rw [show pAt xs i=xs[i] from getD_lt _ hi,show pAt xs j=xs[j] from getD_lt _ hj] at e
 exact (List.getElem_inj (room_nodup hr)).1 e
theorem two_iff {xs:List Pt} (hr:roomOk xs=true) {i k:Nat} (hi:i < xs.length) (hk:k < xs.length):(cutsOf xs (pAt xs i) (pAt xs k)).length=2↔freeTo xs i k xs.length=true:=by
 have h1:(cutsOf xs (pAt xs i) (pAt xs k)).length=2↔xs.filter (amid (pAt xs i) (pAt xs k))=[]:=by
  simp only [cutsOf,List.cons_append,List.nil_append,List.length_cons]
  rw [← List.length_eq_zero_iff]
  omega
 rw [h1,freeTo_iff,List.filter_eq_nil_iff]
 constructor
 ·intro h j hj
  by_cases e1:j=i
  ·exact .inl e1
  ·by_cases e2:j=k
   ·exact .inr (.inl e2)
   ·refine .inr (.inr ?_)
    have:=h (pAt xs j) (pAt_mem hj)
    rw [amid_iff] at this
    rw [← Bool.not_eq_true]
    exact fun h3=>this ⟨fun e=>e1 (room_inj hr hj hi e),fun e=>e2 (room_inj hr hj hk e),h3⟩
 ·intro h c hc hm
  obtain ⟨j,hj,rfl⟩:=List.getElem_of_mem hc
  rw [← getD_lt (0,0) hj] at hm
  obtain ⟨m1,m2,m3⟩:=amid_iff.1 hm
  rcases h j hj with e|e|e
  ·exact m1 (by rw [e])
  ·exact m2 (by rw [e])
  ·rw [m3] at e;cases e
theorem cornersB2 {xs:List Pt} (hr:roomOk xs=true) {i k:Nat} (hi:i < xs.length) (hk:k < xs.length):(cornersB xs (pAt xs i) (pAt xs k)).length=2↔freeTo xs i k xs.length=true:=by
 rw [cornersB_perm (room_pt hr hi) (room_pt hr hk),two_iff hr hi hk]
def diagonalC:Con:=mkCon [.room,.int,.int] (fun x=>roomOk x.1=true) fun x=>vB (diagM x.1 x.2.1 x.2.2.1)
theorem diagonal_ok:Good1 Try.prog n_impl_diagonal diagonalC:=by
 refine good_ofG (tys:=tyL) (env:=[(n_impl_between,btwC),(n_impl_neighbors,neighC),(n_impl_cornersBetween,cornersBC),(n_impl_sees,sees2C),(n_impl_middle,middleC)]) (envw:=[]) (envd:=[]) [] [36,37,39,40,41,42,44,45] [] [] [] mixed tys ⟨between_ok,neighbors_ok,cornersBetween_ok,sees2_ok,middle_ok,trivial⟩ trivial trivial Try.func115 rfl (by kernel_rfl) (by decide) (by kernel_rfl) ?_
 have hG_:=kpz [(0,[1,2,3]),(1,[1,2,3,7]),(2,[1,2,3,35]),(3,[6]),(4,[3,8,9]),(5,[6])] [(4,[8,9])] [] []
 rintro ⟨(xs:List Pt),(i:Int),(k:Int),⟨⟩⟩ (hr:roomOk xs=true)
 have hl:=room_len hr
 (repeat' (first|(with_reducible first|exact True.intro|refine zQ ?_|(refine zG hG_ ?_;intro K_ hK_)|(refine zR ?_;intro K_ hK_)|(refine hK_ _ _ ?_;try clear hK_ K_)|refine sq_n ?_|refine sq_r ?_|refine sq_e ?_|refine bq_n ?_|refine bq_r ?_|refine bq_q ?_|refine zB ?_|refine zX ?_|refine zT ?_|refine zK ?_|refine gq_n ?_|refine gq_r ?_|refine gq_e ?_|refine lq_n ?_|refine lq_r ?_|refine lq_e ?_|refine bq_e (by decide) ?_)|((with_reducible refine zC (b:=?b_) ?hb_ ?_ ?_);case hb_=>rfl)|((conv=>whnf);first|(with_reducible refine hK_ _ _ ?_;try clear hK_ K_)|(with_reducible refine fun (g_:Sl) (o_:Ow)=>?_)|(with_reducible first|exact True.intro|refine And.intro trivial ?_|refine And.intro ?_ ?_)|exact Nat.le_of_ble_eq_true rfl|exact Or.inl rfl|(intro h_;cases h_)|(intro h_;(try simp only [vS1] at h_))|rfl))) <;> (try (conv=>whnf)) <;> (try first|change (_:Int)≤_|change (_:Nat)≤_) <;> (try ((fail_if_success (with_reducible apply Exists.intro));(try dsimp only);(try simp only [vS1]))) <;> (try simp (disch:=omega) only [vS3,Int.add_sub_cancel,tn1,tnp,tnc,vS2] at *)
 all_goals (try (fail_if_success (with_reducible apply Exists.intro));first|with_reducible assumption|omega|exact mdl (by omega)|exact ilo1 (by omega)|exact ilo2 (by omega)|exact ihi1 (by omega) (by omega)|exact ihi2 (by omega) (by omega))
 all_goals first
  | (have b1:=btw_iff.1 ‹btw i 0 _=true›;have b2:=btw_iff.1 ‹btw k 0 _=true›;first|omega|exact room_pt hr (by omega))
  | (have b1:=btw_iff.1 ‹btw i 0 _=true›;omega)
  | skip
 ·exact eq_false_of fun hc=>by have h:=(diagM_iff.1 hc).1;rw [‹btw i 0 _=false›] at h;cases h
 ·exact eq_false_of fun hc=>by have h:=(diagM_iff.1 hc).2.1;rw [‹btw k 0 _=false›] at h;cases h
 ·exact eq_false_of fun hc=>(diagM_iff.1 hc).2.2.1 ‹i=k›
 ·exact eq_false_of fun hc=>by have h:=(diagM_iff.1 hc).2.2.2.1;rw [‹neighZ _ i k=true›] at h;cases h
 all_goals (have b1:=btw_iff.1 ‹btw i 0 _=true›;have b2:=btw_iff.1 ‹btw k 0 _=true›;have h2:=cornersB2 hr (i:=i.toNat) (k:=k.toNat) (by omega) (by omega))
 ·rw [Bool.eq_iff_iff,diagM_iff,diagC_iff,beq_iff_eq]
  exact ⟨fun h=>⟨‹_›,‹_›,‹_›,‹_›,‹seesS xs _ _=true›,h2.1 (Int.ofNat.inj h_),h⟩,fun h=>h.2.2.2.2.2.2⟩
 ·exact eq_false_of fun hc=>absurd ((diagC_iff.1 (diagM_iff.1 hc).2.2.2.2).1.symm.trans ‹seesS xs _ _=false›) (by decide)
 ·exact eq_false_of fun hc=>h_ (congrArg Int.ofNat (h2.2 (diagC_iff.1 (diagM_iff.1 hc).2.2.2.2).2.1))
theorem neigh_nat {n i k:Nat}:neighZ n i k=false↔(i + 1) % n≠k∧(k + 1) % n≠i:=by
 unfold neighZ
 rw [tm1,tm1,Bool.or_eq_false_iff,decide_eq_false_iff_not,decide_eq_false_iff_not,Int.natCast_inj,Int.natCast_inj]
theorem diagN_iff {xs:List Pt} {i k:Nat} (hi:i < xs.length) (hk:k < xs.length):diagM xs i k=true↔i≠k∧(i + 1) % xs.length≠k∧(k + 1) % xs.length≠i∧diagC xs i k=true:=by
 rw [diagM_iff,neigh_nat,btw_iff,btw_iff]
 constructor
 ·rintro ⟨-,-,h3,h4,h5⟩
  exact ⟨fun e=>h3 (by rw [e]),h4.1,h4.2,h5⟩
 ·rintro ⟨h3,h4,h5,h6⟩
  exact ⟨by omega,by omega,fun e=>h3 (Int.natCast_inj.1 e),⟨h4,h5⟩,h6⟩
def befZ (n k:Int):Int:=Int.tmod (k + n - 1) n
def aftZ (n k:Int):Int:=Int.tmod (k + 1) n
def aroundC:Con:=mkCon [.room,.int] (fun x=>0 < x.1.length∧x.1.length≤1048576∧0≤x.2.1∧x.2.1≤1048576) fun x=>.val (.tup [.inl (.d (.int .i64 (befZ x.1.length x.2.1))),.inl (.d (.int .i64 (aftZ x.1.length x.2.1)))])
theorem around_ok:Good1 Try.prog n_impl_around aroundC:=by
 refine good_ofG (tys:=tyL) (env:=[]) (envw:=[]) (envd:=[]) [] [] [] [] [] mixed tys trivial trivial trivial Try.func71 rfl (by kernel_rfl) (by decide) (by kernel_rfl) ?_
 have hG_:=kpz [(0,[1,2]),(1,[1,6]),(2,[4,5])] [] [] []
 rintro ⟨(xs:List Pt),(k:Int),⟨⟩⟩ ⟨(h0:0 < xs.length),(h1:xs.length≤_),(h2:0≤k),(h3:k≤_)⟩
 (repeat' (first|(with_reducible first|exact True.intro|refine zQ ?_|(refine zG hG_ ?_;intro K_ hK_)|(refine zR ?_;intro K_ hK_)|(refine hK_ _ _ ?_;try clear hK_ K_)|refine sq_n ?_|refine sq_r ?_|refine sq_e ?_|refine bq_n ?_|refine bq_r ?_|refine bq_q ?_|refine zB ?_|refine zX ?_|refine zT ?_|refine zK ?_|refine gq_n ?_|refine gq_r ?_|refine gq_e ?_|refine lq_n ?_|refine lq_r ?_|refine lq_e ?_|refine bq_e (by decide) ?_)|((with_reducible refine zC (b:=?b_) ?hb_ ?_ ?_);case hb_=>rfl)|((conv=>whnf);first|(with_reducible refine hK_ _ _ ?_;try clear hK_ K_)|(with_reducible refine fun (g_:Sl) (o_:Ow)=>?_)|(with_reducible first|exact True.intro|refine And.intro trivial ?_|refine And.intro ?_ ?_)|exact Nat.le_of_ble_eq_true rfl|exact Or.inl rfl|(intro h_;cases h_)|(intro h_;(try simp only [vS1] at h_))|rfl))) <;> (try (conv=>whnf)) <;> (try first|change (_:Int)≤_|change (_:Nat)≤_) <;> (try ((fail_if_success (with_reducible apply Exists.intro));(try dsimp only);(try simp only [vS1]))) <;> (try simp (disch:=omega) only [vS3,Int.add_sub_cancel,tn1,tnp,tnc,vS2] at *)
 all_goals (try (fail_if_success (with_reducible apply Exists.intro));first|with_reducible assumption|omega|exact mdl (by omega)|exact ilo1 (by omega)|exact ilo2 (by omega)|exact ihi1 (by omega) (by omega)|exact ihi2 (by omega) (by omega))
 all_goals rfl
def earM (xs:List Pt) (k:Int):Bool:=roomOk xs && (btw k 0 (xs.length - 1) && (decide ((xs.length:Int)=3) || diagM xs (Int.tmod (k + xs.length - 1) xs.length) (Int.tmod (k + 1) xs.length)))
def earC:Con:=mkCon [.room,.int] (fun x=>x.1.length≤1048576) fun x=>vB (earM x.1 x.2.1)
theorem earM_iff {xs:List Pt} {k:Int}:earM xs k=true↔roomOk xs=true∧btw k 0 (xs.length - 1)=true∧((xs.length:Int)=3∨diagM xs (Int.tmod (k + xs.length - 1) xs.length) (Int.tmod (k + 1) xs.length)=true):=by
 unfold earM;simp only [Bool.and_eq_true,Bool.or_eq_true,decide_eq_true_eq]
theorem iIsEar_ok:Good1 Try.prog n_impl_IsEar earC:=by
 refine good_ofG (tys:=tyL) (env:=[(n_impl_hasCorner,hasCorC),(n_impl_around,aroundC),(n_impl_diagonal,diagonalC)]) (envw:=[]) (envd:=[]) [] [] [] [] [] mixed tys ⟨hasCorner_ok,around_ok,diagonal_ok,trivial⟩ trivial trivial Try.func69 rfl (by kernel_rfl) (by decide) (by kernel_rfl) ?_
 have hG_:=kpz [(0,[1,2]),(1,[1,2,10]),(2,[4]),(3,[2,5,6]),(4,[4])] [] [] []
 rintro ⟨(xs:List Pt),(k:Int),⟨⟩⟩ (h1:xs.length≤_)
 (repeat' (first|(with_reducible first|exact True.intro|refine zQ ?_|(refine zG hG_ ?_;intro K_ hK_)|(refine zR ?_;intro K_ hK_)|(refine hK_ _ _ ?_;try clear hK_ K_)|refine sq_n ?_|refine sq_r ?_|refine sq_e ?_|refine bq_n ?_|refine bq_r ?_|refine bq_q ?_|refine zB ?_|refine zX ?_|refine zT ?_|refine zK ?_|refine gq_n ?_|refine gq_r ?_|refine gq_e ?_|refine lq_n ?_|refine lq_r ?_|refine lq_e ?_|refine bq_e (by decide) ?_)|((with_reducible refine zC (b:=?b_) ?hb_ ?_ ?_);case hb_=>rfl)|((conv=>whnf);first|(with_reducible refine hK_ _ _ ?_;try clear hK_ K_)|(with_reducible refine fun (g_:Sl) (o_:Ow)=>?_)|(with_reducible first|exact True.intro|refine And.intro trivial ?_|refine And.intro ?_ ?_)|exact Nat.le_of_ble_eq_true rfl|exact Or.inl rfl|(intro h_;cases h_)|(intro h_;(try simp only [vS1] at h_))|rfl))) <;> (try (conv=>whnf)) <;> (try first|change (_:Int)≤_|change (_:Nat)≤_) <;> (try ((fail_if_success (with_reducible apply Exists.intro));(try dsimp only);(try simp only [vS1]))) <;> (try simp (disch:=omega) only [vS3,Int.add_sub_cancel,tn1,tnp,tnc,vS2] at *)
 all_goals (try (fail_if_success (with_reducible apply Exists.intro));first|with_reducible assumption|omega|exact mdl (by omega)|exact ilo1 (by omega)|exact ilo2 (by omega)|exact ihi1 (by omega) (by omega)|exact ihi2 (by omega) (by omega))
 ·refine eq_false_of fun hc=>?_
  obtain ⟨c1,c2,-⟩:=earM_iff.1 hc
  have:hasCor xs k=true:=by unfold hasCor;rw [c1,c2];rfl
  rw [h_] at this;cases this
 all_goals (have hc:hasCor xs k=true:=by assumption)
 all_goals (unfold hasCor at hc;rw [Bool.and_eq_true] at hc;have hb:=btw_iff.1 hc.1;have hl:=room_len hc.2)
 ·omega
 ·omega
 ·omega
 ·exact eq_true_of (earM_iff.2 ⟨hc.2,hc.1,.inl h_⟩)
 ·exact hc.2
 ·rw [Bool.eq_iff_iff,earM_iff]
  exact ⟨fun h=>⟨hc.2,hc.1,.inr h⟩,fun h=>h.2.2.resolve_left h_⟩
end Go.Proofs.Ytnepfcnlngpchaa
namespace Go.Proofs.Ytnepfcnlngpchaa
open Go.RowKit Go.Proofs.Ytnepfcnlngpchaa.Nm
set_option maxRecDepth 10000
def trnP (p:Pt):Pt:=(IntKind.i64.wrap (0 - p.2),p.1)
def mirP (p:Pt):Pt:=(IntKind.i64.wrap (0 - p.1),p.2)
def movP (dx dy:Int) (p:Pt):Pt:=(IntKind.i64.wrap (p.1 + dx),IntKind.i64.wrap (p.2 + dy))
def trnC:Con:=mkCon [.pt] (fun _=>True) fun x=>.val (.agg (cPt (trnP x.1)))
theorem trn_ok:Good1 Try.prog n_impl_TurnRoom_1 trnC:=by
 refine good_ofG (tys:=tyL) (env:=[]) (envw:=[]) (envd:=[]) [] [] [] [] [] mixed tys trivial trivial trivial Try.func98 rfl (by kernel_rfl) (by decide) (by kernel_rfl) ?_
 have hG_:=kpz [(0,[1,2]),(1,[2])] [(0,[2]),(1,[2])] [] []
 rintro ⟨⟨(a:Int),(b:Int)⟩,⟨⟩⟩ _
 (repeat' (first|(with_reducible first|exact True.intro|refine zQ ?_|(refine zG hG_ ?_;intro K_ hK_)|(refine zR ?_;intro K_ hK_)|(refine hK_ _ _ ?_;try clear hK_ K_)|refine sq_n ?_|refine sq_r ?_|refine sq_e ?_|refine bq_n ?_|refine bq_r ?_|refine bq_q ?_|refine zB ?_|refine zX ?_|refine zT ?_|refine zK ?_|refine gq_n ?_|refine gq_r ?_|refine gq_e ?_|refine lq_n ?_|refine lq_r ?_|refine lq_e ?_|refine bq_e (by decide) ?_)|((with_reducible refine zC (b:=?b_) ?hb_ ?_ ?_);case hb_=>rfl)|((conv=>whnf);first|(with_reducible refine hK_ _ _ ?_;try clear hK_ K_)|(with_reducible refine fun (g_:Sl) (o_:Ow)=>?_)|(with_reducible first|exact True.intro|refine And.intro trivial ?_|refine And.intro ?_ ?_)|exact Nat.le_of_ble_eq_true rfl|exact Or.inl rfl|(intro h_;cases h_)|(intro h_;(try simp only [vS1] at h_))|rfl))) <;> (try (conv=>whnf)) <;> (try first|change (_:Int)≤_|change (_:Nat)≤_)
def mirC:Con:=mkCon [.pt] (fun _=>True) fun x=>.val (.agg (cPt (mirP x.1)))
theorem mir_ok:Good1 Try.prog n_impl_MirrorRoom_1 mirC:=by
 refine good_ofG (tys:=tyL) (env:=[]) (envw:=[]) (envd:=[]) [] [] [] [] [] mixed tys trivial trivial trivial Try.func99 rfl (by kernel_rfl) (by decide) (by kernel_rfl) ?_
 have hG_:=kpz [(0,[1,2]),(1,[2])] [(0,[2]),(1,[2])] [] []
 rintro ⟨⟨(a:Int),(b:Int)⟩,⟨⟩⟩ _
 (repeat' (first|(with_reducible first|exact True.intro|refine zQ ?_|(refine zG hG_ ?_;intro K_ hK_)|(refine zR ?_;intro K_ hK_)|(refine hK_ _ _ ?_;try clear hK_ K_)|refine sq_n ?_|refine sq_r ?_|refine sq_e ?_|refine bq_n ?_|refine bq_r ?_|refine bq_q ?_|refine zB ?_|refine zX ?_|refine zT ?_|refine zK ?_|refine gq_n ?_|refine gq_r ?_|refine gq_e ?_|refine lq_n ?_|refine lq_r ?_|refine lq_e ?_|refine bq_e (by decide) ?_)|((with_reducible refine zC (b:=?b_) ?hb_ ?_ ?_);case hb_=>rfl)|((conv=>whnf);first|(with_reducible refine hK_ _ _ ?_;try clear hK_ K_)|(with_reducible refine fun (g_:Sl) (o_:Ow)=>?_)|(with_reducible first|exact True.intro|refine And.intro trivial ?_|refine And.intro ?_ ?_)|exact Nat.le_of_ble_eq_true rfl|exact Or.inl rfl|(intro h_;cases h_)|(intro h_;(try simp only [vS1] at h_))|rfl))) <;> (try (conv=>whnf)) <;> (try first|change (_:Int)≤_|change (_:Nat)≤_)
def movC:Con:=mkCon [.pt,.rint,.rint] (fun _=>True) fun x=>.val (.agg (cPt (movP x.2.1 x.2.2.1 x.1)))
theorem mov_ok:Good1 Try.prog n_impl_MoveRoom_1 movC:=by
 refine good_ofG (tys:=tyL) (env:=[]) (envw:=[]) (envd:=[]) [] [] [] [] [] mixed tys trivial trivial trivial Try.func100 rfl (by kernel_rfl) (by decide) (by kernel_rfl) ?_
 have hG_:=kpz [(0,[1,2,3,4]),(1,[4])] [(0,[4]),(1,[4])] [] []
 rintro ⟨⟨(a:Int),(b:Int)⟩,(dx:Int),(dy:Int),⟨⟩⟩ _
 (repeat' (first|(with_reducible first|exact True.intro|refine zQ ?_|(refine zG hG_ ?_;intro K_ hK_)|(refine zR ?_;intro K_ hK_)|(refine hK_ _ _ ?_;try clear hK_ K_)|refine sq_n ?_|refine sq_r ?_|refine sq_e ?_|refine bq_n ?_|refine bq_r ?_|refine bq_q ?_|refine zB ?_|refine zX ?_|refine zT ?_|refine zK ?_|refine gq_n ?_|refine gq_r ?_|refine gq_e ?_|refine lq_n ?_|refine lq_r ?_|refine lq_e ?_|refine bq_e (by decide) ?_)|((with_reducible refine zC (b:=?b_) ?hb_ ?_ ?_);case hb_=>rfl)|((conv=>whnf);first|(with_reducible refine hK_ _ _ ?_;try clear hK_ K_)|(with_reducible refine fun (g_:Sl) (o_:Ow)=>?_)|(with_reducible first|exact True.intro|refine And.intro trivial ?_|refine And.intro ?_ ?_)|exact Nat.le_of_ble_eq_true rfl|exact Or.inl rfl|(intro h_;cases h_)|(intro h_;(try simp only [vS1] at h_))|rfl))) <;> (try (conv=>whnf)) <;> (try first|change (_:Int)≤_|change (_:Nat)≤_)
end Go.Proofs.Ytnepfcnlngpchaa
