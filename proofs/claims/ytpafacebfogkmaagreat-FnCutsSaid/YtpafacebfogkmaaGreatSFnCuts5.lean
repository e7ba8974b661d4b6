/- What the proof of 'FnCuts' needs, part 5: conditions and steps of the functions that it reaches, and the mathematics. -/
import Derived.Test.YtpafacebfogkmaaGreatRows
import Derived.WalkKit
import Derived.WalkSpells
import Derived.Below
import Derived.Orders
import Derived.Maps.AppendAt
import Derived.Laws.StructEq
import Derived.WideShapes
import Derived.ChangeSlices
import Derived.Deep.Strs
import Derived.ChangeOld
import Derived.Shelf.SlLaysF0
import Derived.Shelf.SlSortCmp.InsertionK
import Derived.Shelf.SlSortCmp.SmallK
import Derived.Shelf.SlSortCmp.Xorshift
import Derived.Sort.LotA
import Derived.Test.YtpafacebfogkmaaGreatSFnCuts4
set_option linter.unusedSimpArgs false
set_option linter.unusedVariables false
namespace Go.Proofs.YtpafacebfogkmaaGreat.Geo
structure Mv where
 a:Int
 b:Int
 e:Int
 f:Int
 one:a * a + b * b=1
def Mv.app (g:Mv) (p:Pt):Pt:=(g.a * p.1 - g.b * p.2 + g.e,g.b * p.1 + g.a * p.2 + g.f)
theorem turn_mv (g:Mv) (p q r:Pt):turnZ (g.app p) (g.app q) (g.app r)=turnZ p q r:=by
 have:turnZ (g.app p) (g.app q) (g.app r)=(g.a * g.a + g.b * g.b) * turnZ p q r:=by unfold turnZ Mv.app;grind
 rw [this,g.one,Int.one_mul]
theorem dot_mv (g:Mv) (p q r:Pt):dotZ (g.app p) (g.app q) (g.app r)=dotZ p q r:=by
 have:dotZ (g.app p) (g.app q) (g.app r)=(g.a * g.a + g.b * g.b) * dotZ p q r:=by unfold dotZ Mv.app;grind
 rw [this,g.one,Int.one_mul]
def Aff.mv (h:Aff) (g:Mv):Aff:=⟨h.u * g.a - h.v * g.b,h.u * g.b + h.v * g.a,h.w - (h.u * g.a - h.v * g.b) * g.e - (h.u * g.b + h.v * g.a) * g.f⟩
theorem ev_mv (h:Aff) (g:Mv) (p:Pt):(h.mv g).ev (g.app p)=h.ev p:=by
 have:(h.mv g).ev (g.app p)=(g.a * g.a + g.b * g.b) * (h.u * p.1 + h.v * p.2) + h.w:=by unfold Aff.ev Aff.mv Mv.app;grind
 rw [this,g.one,Int.one_mul];rfl
theorem mv_inj (g:Mv) {p q:Pt} (h:g.app p=g.app q):p=q:=by
 have h1:=congrArg Prod.fst h
 have h2:=congrArg Prod.snd h
 simp only [Mv.app] at h1 h2
 have o:=g.one
 refine Prod.ext ?_ ?_
 ·have:(g.a * g.a + g.b * g.b) * p.1=(g.a * g.a + g.b * g.b) * q.1:=by grind
  rwa [o,Int.one_mul,Int.one_mul] at this
 ·have:(g.a * g.a + g.b * g.b) * p.2=(g.a * g.a + g.b * g.b) * q.2:=by grind
  rwa [o,Int.one_mul,Int.one_mul] at this
def Poly.mv (P:Poly) (g:Mv):Poly:=⟨P.n,fun j=>g.app (P.v j),fun j=>by show g.app (P.v (j + P.n))=_;rw [P.per]⟩
theorem Part.mv {a b q r:Pt} (h:Part a b q r) (g:Mv):Part (g.app a) (g.app b) (g.app q) (g.app r):=by
 obtain ⟨f,h1,h2,h3,h4⟩:=h
 exact ⟨f.mv g,by rwa [ev_mv],by rwa [ev_mv],by rwa [ev_mv],by rwa [ev_mv]⟩
theorem Off.mv {p a b:Pt} (h:Off p a b) (g:Mv):Off (g.app p) (g.app a) (g.app b):=by
 obtain ⟨f,h1,h2,h3⟩:=h
 exact ⟨f.mv g,by rwa [ev_mv],by rwa [ev_mv],by rwa [ev_mv]⟩
theorem Bends.mv {a b z:Pt} (h:Bends a b z) (g:Mv):Bends (g.app a) (g.app b) (g.app z):=
 ⟨fun e=>h.1 (mv_inj g e),by rw [turn_mv,dot_mv];exact h.2⟩
theorem SimpleP.mv {P:Poly} (h:SimpleP P) (g:Mv):SimpleP (P.mv g):=
 ⟨h.n3,fun j d h1 h2=>(h.off j d h1 h2).mv g,fun j d h1 h2=>(h.apart j d h1 h2).mv g,fun k=>⟨(h.bend k).1.mv g,(h.bend k).2.mv g⟩⟩
theorem sumN_add (f g:Nat→Int):∀ n,sumN (fun k=>f k + g k) n=sumN f n + sumN g n
 | 0=>rfl
 | n + 1=>by simp only [sumN];rw [sumN_add f g n];omega
theorem area_mv (P:Poly) (g:Mv):(P.mv g).area=P.area:=by
 obtain ⟨J,hJ⟩:∃ J:Nat→Int,∀ j,J j=g.e * (g.b * (P.v j).1 + g.a * (P.v j).2) - g.f * (g.a * (P.v j).1 - g.b * (P.v j).2):=⟨_,fun _=>rfl⟩
 have e:∀ k,crs0 ((P.mv g).v k) ((P.mv g).v (k + 1))=crs0 (P.v k) (P.v (k + 1)) + (J (k + 1) - J k):=fun k=>by
  have o:=g.one
  show crs0 (g.app (P.v k)) (g.app (P.v (k + 1)))=_
  rw [hJ,hJ]
  generalize P.v k=p
  generalize P.v (k + 1)=q
  have:crs0 (g.app p) (g.app q)=(g.a * g.a + g.b * g.b) * crs0 p q + (g.e * (g.b * q.1 + g.a * q.2) - g.f * (g.a * q.1 - g.b * q.2) - (g.e * (g.b * p.1 + g.a * p.2) - g.f * (g.a * p.1 - g.b * p.2))):=by unfold crs0 Mv.app;grind
  rw [this,o,Int.one_mul]
 unfold Poly.area
 show sumN (fun k=>crs0 ((P.mv g).v k) ((P.mv g).v (k + 1))) P.n=_
 rw [sumN_congr fun k _=>e k,sumN_add,sumN_tel,hJ,hJ,P.vn]
 omega
theorem part_meet {v w:Pt × Pt} (hv:Bd v.1∧Bd v.2) (hw:Bd w.1∧Bd w.2) (h:Part v.1 v.2 w.1 w.2):meet v w=false:=by
 have on:∀ {p a b:Pt},Bd p→Bd a→Bd b→Off p a b→onS p a b=false:=fun {p a b} hp ha hb ho=>by
  cases hc:onS p a b with
  | false=>rfl
  | true=>exact absurd ho (onS_OnM ha hb hp hc).not_off
 have hs:=h.symm
 have o1:=on hv.1 hw.1 hw.2 hs.off1
 have o2:=on hv.2 hw.1 hw.2 hs.off2
 have o3:=on hw.1 hv.1 hv.2 h.off1
 have o4:=on hw.2 hv.1 hv.2 h.off2
 have o5:crs w.1 w.2 v.1 v.2=false:=by
  cases hc:crs w.1 w.2 v.1 v.2 with
  | false=>rfl
  | true=>
   exfalso
   unfold crs at hc
   rw [turn_exact hw.1 hw.2 hv.1,turn_exact hw.1 hw.2 hv.2,turn_exact hv.1 hv.2 hw.1,turn_exact hv.1 hv.2 hw.2,Bool.and_eq_true,decide_eq_true_eq,decide_eq_true_eq,sgn_opp,sgn_opp] at hc
   exact cross_not_part h hc.1 hc.2
 unfold meet
 rw [o1,o2,o3,o4,o5]
 simp
theorem room_of {xs:List Pt} (h3:3≤xs.length) (h10:xs.length≤10) (hp:∀ q∈xs,ptOk q=true) (hs:SimpleP (roomP xs)) (ht:∀ j,turnZ ((roomP xs).v j) ((roomP xs).v (j + 1)) ((roomP xs).v (j + 2))≠0) (hA:0 < (roomP xs).area):roomOk xs=true:=by
 have hb:∀ q∈xs,Bd q:=fun q hq=>bd_of_ok (hp q hq)
 refine roomOk_iff.2 ⟨⟨h3,h10⟩,List.all_eq_true.2 hp,okAt_half.2 fun i hi=>⟨?_,fun k hik hk hne=>?_⟩,?_⟩
 ·rw [turn_exact (pAt_bd hb hi) (pCy_bd hb (by omega)) (pCy_bd hb (by omega)),← v_lt hi]
  exact ht i
 ·refine part_meet ⟨pAt_bd hb hi,pCy_bd hb (by omega)⟩ ⟨pAt_bd hb hk,pCy_bd hb (by omega)⟩ ?_
  show Part (pAt xs i) (pCy xs (i + 1)) (pAt xs k) (pCy xs (k + 1))
  rw [← v_lt hi,← v_lt hk]
  refine hs.apartI hk hik fun ⟨e1,e2⟩=>hne ?_
  have e2:k + 1=xs.length:=e2
  rw [e2,Nat.mod_self,e1]
 ·obtain ⟨e,l,u⟩:=room_dbl (fun q hq=>ptOk_iff.1 (hp q hq)) (by omega) xs.length (Nat.le_refl _)
  have e:dbl xs=(roomP xs).area:=e
  have hd:dbl xs=dblTo xs xs.length:=rfl
  rw [W_in (by omega) (by omega),e];exact hA
theorem area_rot' (P:Poly) (s:Nat) (g:Mv):((P.rot s).mv g).area=P.area:=(area_mv _ g).trans (area_rot P s)
theorem room_moved {xs ys:List Pt} (hr:roomOk xs=true) (s:Nat) (g:Mv) (hl:ys.length=xs.length) (hv:∀ j,pCy ys j=g.app (pCy xs (s + j))) (hp:∀ q∈ys,ptOk q=true):roomOk ys=true:=by
 have h3:=(roomOk_iff.1 hr).1
 have e:roomP ys=((roomP xs).rot s).mv g:=Poly.ext' hl fun j=>hv j
 refine room_of (by omega) (by omega) hp (by rw [e];exact ((room_simple hr).rot s).mv g) (fun j=>?_) (by rw [e,area_rot'];exact (room_area hr).2.1)
 rw [e]
 show turnZ (g.app _) (g.app _) (g.app _)≠0
 rw [turn_mv]
 exact room_turns hr (s + j)
end Go.Proofs.YtpafacebfogkmaaGreat.Geo
namespace Go.Proofs.YtpafacebfogkmaaGreat
def sub (b a:Pt):Pt:=(b.1 - a.1,b.2 - a.2)
end Go.Proofs.YtpafacebfogkmaaGreat
namespace Go.Proofs.YtpafacebfogkmaaGreat.Geo
abbrev partB (P:Poly) (m:Nat):Poly:=(P.rot m).arc (P.n - m)
theorem A_walls {P:Poly} {m:Nat} {Q:Pt→Pt→Prop}:(∀ k,k < (P.arc m).n→Q ((P.arc m).v k) ((P.arc m).v (k + 1)))↔(∀ k,k < m→Q (P.v k) (P.v (k + 1)))∧Q (P.v m) (P.v 0):=by
 constructor
 ·intro h
  refine ⟨fun k hk=>?_,?_⟩
  ·have:=h k (by show k < m + 1;omega)
   rwa [arc_v P (by omega),arc_v P (by omega)] at this
  ·have:=h m (by show m < m + 1;omega)
   rwa [arc_v P (Nat.le_refl m),arc_v0] at this
 ·rintro ⟨h1,h2⟩ k hk
  have hk:k < m + 1:=hk
  rcases (show k < m∨k=m by omega) with g|g
  ·rw [arc_v P (by omega),arc_v P (by omega)];exact h1 k g
  ·subst g;rw [arc_v P (Nat.le_refl k),arc_v0];exact h2
theorem B_v {P:Poly} {m j:Nat} (hm:m≤P.n) (hj:j≤P.n - m):(partB P m).v j=P.v (m + j):=arc_v (P.rot m) hj
theorem B_walls {P:Poly} {m:Nat} (hm:m < P.n) {Q:Pt→Pt→Prop}:(∀ k,k < (partB P m).n→Q ((partB P m).v k) ((partB P m).v (k + 1)))↔(∀ k,m≤k→k < P.n→Q (P.v k) (P.v (k + 1)))∧Q (P.v 0) (P.v m):=by
 have h:=A_walls (P:=P.rot m) (m:=P.n - m) (Q:=Q)
 have e1:(P.rot m).v (P.n - m)=P.v 0:=by show P.v (m + (P.n - m))=_;rw [show m + (P.n - m)=P.n by omega,P.vn]
 have e0:(P.rot m).v 0=P.v m:=by show P.v (m + 0)=_;rw [Nat.add_zero]
 rw [e1,e0] at h
 rw [h]
 refine and_congr ⟨fun g k h1 h2=>?_,fun g k hk=>?_⟩ Iff.rfl
 ·have:=g (k - m) (by omega)
  rwa [show (P.rot m).v (k - m)=P.v k by show P.v (m + (k - m))=_;rw [show m + (k - m)=k by omega],show (P.rot m).v (k - m + 1)=P.v (k + 1) by show P.v (m + (k - m + 1))=_;rw [show m + (k - m + 1)=k + 1 by omega]] at this
 ·exact g (m + k) (by omega) (by omega)
theorem P_walls {P:Poly} {m:Nat} (hm:m < P.n) {Q:Pt→Pt→Prop} (hA:∀ k,k < (P.arc m).n→Q ((P.arc m).v k) ((P.arc m).v (k + 1))) (hB:∀ k,k < (partB P m).n→Q ((partB P m).v k) ((partB P m).v (k + 1))):∀ k,k < P.n→Q (P.v k) (P.v (k + 1)):=fun k hk=>by
 rcases (show k < m∨m≤k by omega) with g|g
 ·exact (A_walls.1 hA).1 k g
 ·exact ((B_walls hm).1 hB).1 k g hk
theorem cut_sum (h:Aff) (P:Poly) (K:Int) {m:Nat} (hm:m≤P.n) (x:Pt):wnd h (P.sc K).way x=wnd h ((P.arc m).sc K).way x + wnd h ((partB P m).sc K).way x:=wnd_cut h (P.sc K) hm x
def OffP (P:Poly) (K:Int) (m:Pt):Prop:=∀ k,k < P.n→Off m (smul K (P.v k)) (smul K (P.v (k + 1)))
def Inn (P:Poly) (K:Int) (m:Pt):Prop:=OffP P K m∧∃ h,NC h∧wnd h (P.sc K).way m=1
theorem Outp.off {P:Poly} {K:Int} {m:Pt} (h:Outp P K m):OffP P K m:=h.1
theorem Outp.w {P:Poly} {K:Int} {m:Pt} (h:Outp P K m) {g:Aff} (hg:NC g):wnd g (P.sc K).way m=0:=by
 obtain ⟨ho,f,hf,e⟩:=h
 rw [← e];exact wnd_free hg hf ho
theorem Inn.w {P:Poly} {K:Int} {m:Pt} (h:Inn P K m) {g:Aff} (hg:NC g):wnd g (P.sc K).way m=1:=by
 obtain ⟨ho,f,hf,e⟩:=h
 rw [← e];exact wnd_free hg hf ho
def up:Aff:=⟨0,1,0⟩
theorem nc_up:NC up:=.inr (by decide)
theorem out_or_in {P:Poly} (hP:SimpleP P) (ha:0 < P.area) {K:Int} (hK:0 < K) {m:Pt} (ho:OffP P K m):Outp P K m∨Inn P K m:=by
 rcases wnd_zero_oneK hP ha hK nc_up ho with g|g
 ·exact .inl ⟨ho,up,nc_up,g⟩
 ·exact .inr ⟨ho,up,nc_up,g⟩
theorem Inn.not_out {P:Poly} {K:Int} {m:Pt} (h:Inn P K m):¬ Outp P K m:=fun o=>by
 have:=o.w nc_up
 rw [h.w nc_up] at this
 exact absurd this (by decide)
theorem OffP.scale {P:Poly} {K:Int} {m:Pt} (h:OffP P K m) {L:Int} (hL:0 < L):OffP P (L * K) (smul L m):=fun k hk=>by
 rw [← smul2,← smul2];exact (h k hk).sc hL
theorem Inn.scale {P:Poly} {K:Int} {m:Pt} (h:Inn P K m) {L:Int} (hL:0 < L):Inn P (L * K) (smul L m):=by
 obtain ⟨ho,g,hg,e⟩:=h
 exact ⟨OffP.scale ho hL,g.sc L,hg,by rw [wnd_scale g P hL];exact e⟩
theorem near {P:Poly} {K:Int} {x:Pt} (ho:OffP P K x) (d:Pt):Late fun L=>OffP P (L * K) (padd (smul L x) d)∧∀ h:Aff,wnd (h.sc L) (P.sc (L * K)).way (padd (smul L x) d)=wnd h (P.sc K).way x:=by
 have:Late fun L=>∀ k,k < P.n→Part (smul L (smul K (P.v k))) (smul L (smul K (P.v (k + 1)))) (padd (smul L x) d) (padd (smul L x) (0,0)):=Late.all fun k hk=>(ho k hk).near d (0,0)
 refine this.imp fun L hL g=>?_
 have e0:padd (smul L x) (0,0)=smul L x:=by unfold padd;simp
 rw [e0] at g
 refine ⟨fun k hk=>?_,fun h=>?_⟩
 ·have:=(g k hk).off1
  rwa [smul2,smul2] at this
 ·rw [← wnd_scale h P hL]
  refine wnd_step (h.sc L) (P.sc (L * K)).way fun k hk=>?_
  have:=g k hk
  rw [smul2,smul2] at this
  exact this
theorem wall_sides {Q:Poly} (hQ:SimpleP Q) {h:Aff} (hg:Gen h Q) {l:Int} (hl:LeftIs h Q.way l) {k:Nat} (hk:k < Q.n) {s t K:Int} (hs:0 < s) (ht:0 < t) (e:s + t=K) {x:Pt} (hx:x=padd (smul s (Q.v k)) (smul t (Q.v (k + 1)))) {d:Pt} :
  Late fun L=>(0 < turnZ (Q.v k) (Q.v (k + 1)) (padd (Q.v k) d)→wnd (h.sc (L * K)) (Q.sc (L * K)).way (padd (smul L x) d)=l∧OffP Q (L * K) (padd (smul L x) d)) ∧
   (turnZ (Q.v k) (Q.v (k + 1)) (padd (Q.v k) d) < 0→wnd (h.sc (L * K)) (Q.sc (L * K)).way (padd (smul L x) d)=l - 1∧OffP Q (L * K) (padd (smul L x) d)):=by
 have hn:=hQ.n3
 have hK:0 < K:=by omega
 have hon:OnI x (smul K (Q.v k)) (smul K (Q.v (k + 1))):=by
  refine ⟨s,t,hs,ht,?_,?_⟩
  ·rw [hx,← e];unfold padd smul;simp only;grind
  ·rw [hx,← e];unfold padd smul;simp only;grind
 have hoff:∀ j,j < Q.n→j≠k→Off x (smul K (Q.v j)) (smul K (Q.v (j + 1))):=fun j hj hjk=>by
  have:=(hQ.simple.sc hK).inn (k:=k) hk hon hon (j:=j) hj hjk
  exact this.off1
 have:Late fun L=>∀ j,j < Q.n→j≠k→Part (smul L (smul K (Q.v j))) (smul L (smul K (Q.v (j + 1)))) (padd (smul L x) d) (padd (smul L x) (0,0)):=Late.all fun j hj=>by
  by_cases hjk:j=k
  ·exact Late.of fun _ _ h=>absurd hjk h
  ·exact ((hoff j hj hjk).near d (0,0)).imp fun _ _ g _=>g
 refine this.imp fun L hL g=>?_
 have e0:padd (smul L x) (0,0)=smul L x:=by unfold padd;simp
 rw [e0] at g
 have hLK:0 < L * K:=pp hL hK
 have g':∀ j,j < Q.n→j≠k→Part (smul (L * K) (Q.v j)) (smul (L * K) (Q.v (j + 1))) (padd (smul L x) d) (smul L x):=fun j hj hjk=>by
  have:=g j hj hjk
  rwa [smul2,smul2] at this
 have honL:OnI (smul L x) (smul (L * K) (Q.v k)) (smul (L * K) (Q.v (k + 1))):=by
  have:=smul_on hL hon
  rwa [smul2,smul2] at this
 have hlam:=hl.2.1 (L * K) k (smul L x) hLK hk honL
 have hsl:Sloped (h.sc (L * K)) (Q.way.sc (L * K)):=fun j hj=>by
  have:=hg.sloped (by omega) j hj
  show (h.sc (L * K)).ev (smul (L * K) (Q.v j))≠(h.sc (L * K)).ev (smul (L * K) (Q.v (j + 1)))
  rw [ev_sc0,ev_sc0]
  exact fun e=>this (Int.eq_of_mul_eq_mul_left (by omega) e)
 have hturn:turnZ (smul (L * K) (Q.v k)) (smul (L * K) (Q.v (k + 1))) (padd (smul L x) d)=(L * K) * turnZ (Q.v k) (Q.v (k + 1)) (padd (Q.v k) d):=by
  rw [hx,← e];unfold turnZ padd smul;grind
 have off:turnZ (Q.v k) (Q.v (k + 1)) (padd (Q.v k) d)≠0→OffP Q (L * K) (padd (smul L x) d):=fun hne j hj=>by
  by_cases hjk:j=k
  ·subst hjk
   exact off_turn (by rw [hturn];exact fun e=>by rcases Int.mul_eq_zero.1 e with q|q <;> omega)
  ·exact (g' j hj hjk).off1
 refine ⟨fun hp=>⟨?_,off (by omega)⟩,fun hp=>⟨?_,off (by omega)⟩⟩
 ·have:=wnd_left hsl (k:=k) hk honL (fun j hj hjk=>g' j hj hjk) (by show 0 < turnZ (smul (L * K) (Q.v k)) (smul (L * K) (Q.v (k + 1))) _;rw [hturn];exact pp hLK hp)
  rw [hlam] at this;exact this
 ·have:=wnd_right hsl (k:=k) hk honL (fun j hj hjk=>g' j hj hjk) (by show turnZ (smul (L * K) (Q.v k)) (smul (L * K) (Q.v (k + 1))) _ < 0;rw [hturn];exact pm hLK hp)
  rw [hlam] at this;exact this
theorem chord_off {P:Poly} {m:Nat} (c:Chord P m) {s t K:Int} (hs:0 < s) (ht:0 < t) (e:s + t=K):OffP P K (padd (smul s (P.v 0)) (smul t (P.v m))):=by
 have hm2:=c.m2
 have hmn:=c.mn
 have hK:0 < K:=by omega
 have hon:OnI (padd (smul s (P.v 0)) (smul t (P.v m))) (smul K (P.v 0)) (smul K (P.v m)):=by
  refine ⟨s,t,hs,ht,?_,?_⟩
  ·rw [← e];unfold padd smul;simp only;grind
  ·rw [← e];unfold padd smul;simp only;grind
 have bend:∀ {a b z:Pt},Bends a b z→OnI (padd (smul s (P.v 0)) (smul t (P.v m))) (smul K a) (smul K b)→Off (padd (smul s (P.v 0)) (smul t (P.v m))) (smul K b) (smul K z):=fun hb ho=>((hb.sc hK).part ho ho).off1
 intro k hk
 rcases (show k=0∨k + 1=m∨k=m∨k + 1=P.n∨(0 < k∧k + 1 < P.n∧k≠m∧k + 1≠m) by omega) with g|g|g|g|⟨g1,g2,g3,g4⟩
 ·subst g;exact bend c.b0.1.1 hon.swap
 ·have:=bend c.bm.1.1 hon
  rw [← g] at this ⊢
  rw [show k + 1 - 1=k by omega] at this
  exact this.swap
 ·subst g;exact bend c.bm.2.1 hon
 ·have:=bend c.b0.2.1 hon.swap
  rw [show P.n - 1=k by omega] at this
  rw [g,P.vn];exact this.swap
 ·exact (((c.apart k g1 g2 g3 g4).sc hK).inn hon hon).off1
theorem sc_sc (h:Aff) (L K:Int):(h.sc K).sc L=h.sc (L * K):=by unfold Aff.sc;rw [Int.mul_assoc]
theorem chord_sum {P:Poly} (hP:SimpleP P) {m:Nat} (c:Chord P m) {h:Aff} (hg:Gen h P) {l1 l2:Int} (hA:LeftIs h (P.arc m).way l1) (hB:LeftIs h (partB P m).way l2) {s t K:Int} (hs:0 < s) (ht:0 < t) (e:s + t=K) :
  wnd (h.sc K) (P.sc K).way (padd (smul s (P.v 0)) (smul t (P.v m)))=l1 + l2 - 1:=by
 have hm2:=c.m2
 have hmn:=c.mn
 have hSA:=hP.arc c
 have hSB:SimpleP (partB P m):=(hP.rot m).arc c.rot
 have hgA:Gen h (P.arc m):=hg.arc (by omega)
 have hgB:Gen h (partB P m):=(hg.rot m).arc (by show P.n - m < P.n;omega)
 have hab:P.v 0≠P.v m:=hP.inj (by omega) (by omega) (by omega)
 have hN:=sq_pos hab
 have nB:P.n - m < (partB P m).n:=by show P.n - m < P.n - m + 1;omega
 have bB0:(partB P m).v (P.n - m)=P.v 0:=by rw [B_v (by omega) (by omega),show m + (P.n - m)=P.n by omega,P.vn]
 have bB1:(partB P m).v (P.n - m + 1)=P.v m:=by show (P.rot m).v ((P.n - m + 1) % (P.n - m + 1))=_;rw [Nat.mod_self];show P.v (m + 0)=_;rw [Nat.add_zero]
 have lA:=wall_sides hSA hgA hA (k:=m) (by show m < m + 1;omega) ht hs (show t + s=K by omega) (x:=padd (smul s (P.v 0)) (smul t (P.v m))) (by rw [arc_v P (Nat.le_refl m),arc_v0];unfold padd smul;refine Prod.ext ?_ ?_ <;> simp only <;> omega) (d:=rotP (psub (P.v 0) (P.v m)))
 have lB:=wall_sides hSB hgB hB (k:=P.n - m) nB hs ht e (x:=padd (smul s (P.v 0)) (smul t (P.v m))) (by rw [bB0,bB1]) (d:=rotP (psub (P.v 0) (P.v m)))
 obtain ⟨L,hL,⟨gA,gB⟩,gP⟩:=((lA.and lB).and (near (chord_off c hs ht e) (rotP (psub (P.v 0) (P.v m))))).get
 rw [arc_v P (Nat.le_refl m),arc_v0] at gA
 rw [bB0,bB1] at gB
 have tA:0 < turnZ (P.v m) (P.v 0) (padd (P.v m) (rotP (psub (P.v 0) (P.v m)))):=by
  have:turnZ (P.v m) (P.v 0) (padd (P.v m) (rotP (psub (P.v 0) (P.v m))))=((P.v m).1 - (P.v 0).1) * ((P.v m).1 - (P.v 0).1) + ((P.v m).2 - (P.v 0).2) * ((P.v m).2 - (P.v 0).2):=by unfold turnZ padd rotP psub;grind
  omega
 have tB:turnZ (P.v 0) (P.v m) (padd (P.v 0) (rotP (psub (P.v 0) (P.v m)))) < 0:=by
  have:turnZ (P.v 0) (P.v m) (padd (P.v 0) (rotP (psub (P.v 0) (P.v m))))=-(((P.v m).1 - (P.v 0).1) * ((P.v m).1 - (P.v 0).1) + ((P.v m).2 - (P.v 0).2) * ((P.v m).2 - (P.v 0).2)):=by unfold turnZ padd rotP psub;grind
  omega
 have wA:=(gA.1 tA).1
 have wB:=(gB.2 tB).1
 have wP:=gP.2 (h.sc K)
 rw [sc_sc,cut_sum _ P _ (show m≤P.n by omega),wA,wB] at wP
 omega
structure Cut (P:Poly) (m:Nat):Prop where
 c:Chord P m
 a:0 < (P.arc m).area
 b:0 < (partB P m).area
theorem left_of_area {P:Poly} (hP:SimpleP P) {h:Aff} (hg:Gen h P) (ha:0 < P.area):LeftIs h P.way 1:=((pos_iff hP hg).2 ha).left hP hg
theorem left_ex {P:Poly} (hP:SimpleP P) {h:Aff} (hg:Gen h P):∃ l,LeftIs h P.way l∧(l=1→0 < P.area):=by
 obtain ⟨s,hs⟩:=hg.low hP.n3
 rcases side_or hP hg hs with ⟨g,q⟩|⟨g,q⟩
 ·exact ⟨1,g,fun _=>area_pos hP hg ⟨s,hs,q⟩⟩
 ·exact ⟨0,g,fun e=>by omega⟩
theorem cut_of {P:Poly} (hP:SimpleP P) {m:Nat} (c:Chord P m) {s t K:Int} (hs:0 < s) (ht:0 < t) (e:s + t=K) (hin:Inn P K (padd (smul s (P.v 0)) (smul t (P.v m)))):Cut P m:=by
 have hm2:=c.m2
 have hmn:=c.mn
 have hSA:=hP.arc c
 have hSB:SimpleP (partB P m):=(hP.rot m).arc c.rot
 obtain ⟨M,-,hg⟩:=(hM_gen hP).get
 obtain ⟨l1,hA,a1⟩:=left_ex hSA (hg.arc (by omega))
 obtain ⟨l2,hB,a2⟩:=left_ex hSB (h:=hM M) ((hg.rot m).arc (by show P.n - m < P.n;omega))
 have:=chord_sum hP c hg hA hB hs ht e
 rw [hin.w (g:=(hM M).sc K) (.inl (show (1:Int)≠0 by decide))] at this
 have b1:=hA.1
 have b2:=hB.1
 exact ⟨c,a1 (by omega),a2 (by omega)⟩
theorem Cut.simA {P:Poly} (hP:SimpleP P) {m:Nat} (c:Cut P m):SimpleP (P.arc m):=hP.arc c.c
theorem Cut.simB {P:Poly} (hP:SimpleP P) {m:Nat} (c:Cut P m):SimpleP (partB P m):=(hP.rot m).arc c.c.rot
theorem Cut.area {P:Poly} {m:Nat} (c:Cut P m):0 < P.area:=by
 have:=area_cut P (m:=m) (by have:=c.c.mn;omega)
 have h1:=c.a
 have h2:0 < ((P.rot m).arc (P.n - m)).area:=c.b
 omega
theorem Cut.inn {P:Poly} (hP:SimpleP P) {m:Nat} (c:Cut P m) {s t K:Int} (hs:0 < s) (ht:0 < t) (e:s + t=K):Inn P K (padd (smul s (P.v 0)) (smul t (P.v m))):=by
 have hm2:=c.c.m2
 have hmn:=c.c.mn
 obtain ⟨M,-,hg⟩:=(hM_gen hP).get
 have:=chord_sum hP c.c hg (left_of_area (c.simA hP) (hg.arc (by omega)) c.a) (left_of_area (c.simB hP) ((hg.rot m).arc (by show P.n - m < P.n;omega)) c.b) hs ht e
 exact ⟨chord_off c.c hs ht e,(hM M).sc K,.inl (show (1:Int)≠0 by decide),this⟩
theorem Cut.out {P:Poly} {m:Nat} (c:Cut P m) {K:Int} {x:Pt} (hA:Outp (P.arc m) K x) (hB:Outp (partB P m) K x):Outp P K x:=by
 have hmn:=c.c.mn
 refine ⟨P_walls (m:=m) (by omega) (Q:=fun a b=>Off x (smul K a) (smul K b)) hA.1 hB.1,up,nc_up,?_⟩
 rw [cut_sum _ P K (show m≤P.n by omega),hA.w nc_up,hB.w nc_up];rfl
theorem Cut.out_both {P:Poly} (hP:SimpleP P) {m:Nat} (c:Cut P m) {K:Int} (hK:0 < K) {x:Pt} (h:Outp P K x):Outp (P.arc m) K x∧Outp (partB P m) K x:=by
 have hm2:=c.c.m2
 have hmn:=c.c.mn
 have hab:P.v 0≠P.v m:=hP.inj (by omega) (by omega) (by omega)
 have habK:smul K (P.v 0)≠smul K (P.v m):=fun e=>hab (Prod.ext (Int.eq_of_mul_eq_mul_left (by omega) (congrArg Prod.fst e)) (Int.eq_of_mul_eq_mul_left (by omega) (congrArg Prod.snd e)))
 have hoff:Off x (smul K (P.v 0)) (smul K (P.v m)):=by
  rcases off_or_on x habK with g|g
  ·exact g
  ·exfalso
   obtain ⟨s,t,hs,ht,h0,hf⟩:=g
   have x1:=hf ⟨1,0,0⟩
   have x2:=hf ⟨0,1,0⟩
   simp only [Aff.ev,Int.one_mul,Int.zero_mul,Int.zero_add,Int.add_zero] at x1 x2
   have ends:∀ j,j < P.n→x≠smul K (P.v j):=fun j hj e=>by
    have:=h.1 j hj
    rw [e] at this
    exact (Off.ne this).1 rfl
   by_cases s0:s=0
   ·refine ends m (by omega) (Prod.ext ?_ ?_)
    ·rw [s0] at x1;exact Int.eq_of_mul_eq_mul_left (show t≠0 by omega) (by simpa using x1)
    ·rw [s0] at x2;exact Int.eq_of_mul_eq_mul_left (show t≠0 by omega) (by simpa using x2)
   by_cases t0:t=0
   ·refine ends 0 (by omega) (Prod.ext ?_ ?_)
    ·rw [t0] at x1;exact Int.eq_of_mul_eq_mul_left (show s≠0 by omega) (by simpa using x1)
    ·rw [t0] at x2;exact Int.eq_of_mul_eq_mul_left (show s≠0 by omega) (by simpa using x2)
   have hi:=c.inn hP (s:=s * K) (t:=t * K) (K:=(s + t) * K) (pp (by omega) hK) (pp (by omega) hK) (by rw [Int.add_mul])
   have ho:=h.scale (L:=s + t) h0
   have e:smul (s + t) x=padd (smul (s * K) (P.v 0)) (smul (t * K) (P.v m)):=by
    unfold smul padd at *
    refine Prod.ext ?_ ?_
    ·show (s + t) * x.1=s * K * (P.v 0).1 + t * K * (P.v m).1
     rw [x1];grind
    ·show (s + t) * x.2=s * K * (P.v 0).2 + t * K * (P.v m).2
     rw [x2];grind
   rw [e] at ho
   exact hi.not_out ho
 have oA:OffP (P.arc m) K x:=A_walls (Q:=fun a b=>Off x (smul K a) (smul K b)) |>.2 ⟨fun k hk=>h.1 k (by omega),hoff.swap⟩
 have oB:OffP (partB P m) K x:=(B_walls (show m < P.n by omega) (Q:=fun a b=>Off x (smul K a) (smul K b))).2 ⟨fun k _ hk=>h.1 k hk,hoff⟩
 have sum:=cut_sum up P K (show m≤P.n by omega) x
 rw [h.w nc_up] at sum
 have wA:=wnd_zero_oneK (c.simA hP) c.a hK nc_up oA
 have wB:=wnd_zero_oneK (c.simB hP) c.b hK nc_up oB
 exact ⟨⟨oA,up,nc_up,by omega⟩,⟨oB,up,nc_up,by omega⟩⟩
theorem corner_not_out (P:Poly) (j:Nat) (hn:0 < P.n):¬ Outp P 1 (P.v j):=fun h=>by
 have:=h.1 (j % P.n) (Nat.mod_lt _ hn)
 rw [smul_one,smul_one,P.per_mod] at this
 exact (Off.ne this).1 rfl
theorem tri_area' {P:Poly} (hn:P.n=3):P.area=turnZ (P.v 0) (P.v 1) (P.v 2):=by
 unfold Poly.area;rw [hn];simp only [sumN]
 have e:=P.vn;rw [hn] at e;rw [e]
 unfold crs0 turnZ;grind
theorem tri_turns {P:Poly} (hn:P.n=3) (j:Nat):turnZ (P.v j) (P.v (j + 1)) (P.v (j + 2))=turnZ (P.v 0) (P.v 1) (P.v 2):=by
 have c3:∀ j,P.v (j + 3)=P.v j:=fun j=>by rw [← hn,P.per]
 have t1:turnZ (P.v 1) (P.v 2) (P.v 3)=turnZ (P.v 0) (P.v 1) (P.v 2):=by rw [c3 0];unfold turnZ;grind
 have t2:turnZ (P.v 2) (P.v 3) (P.v 4)=turnZ (P.v 0) (P.v 1) (P.v 2):=by rw [c3 0,c3 1];unfold turnZ;grind
 have hm:∀ i d,P.v (i + d)=P.v (i % 3 + d):=fun i d=>by rw [← hn,P.per_add]
 have h0:P.v j=P.v (j % 3):=by have:=hm j 0;simpa using this
 rw [h0,hm j 1,hm j 2]
 rcases (show j % 3=0∨j % 3=1∨j % 3=2 by omega) with q|q|q <;> rw [q]
 ·exact t1
 ·exact t2
theorem Outp.rot {P:Poly} {K:Int} {x:Pt} (h:Outp P K x) (s:Nat):Outp (P.rot s) K x:=by
 obtain ⟨ho,g,hg,e⟩:=h
 refine ⟨fun k hk=>?_,g,hg,by rw [← e];exact wnd_rot g (P.sc K) s x⟩
 have hn:0 < P.n:=by have hk:k < P.n:=hk;omega
 have:=ho ((s + k) % P.n) (Nat.mod_lt _ hn)
 rw [P.per_mod,P.per_add] at this
 exact this
theorem Outp.rot_iff {P:Poly} {K:Int} {x:Pt} (hn:1≤P.n) (s:Nat):Outp (P.rot s) K x↔Outp P K x:=
 ⟨fun h=>by have:=h.rot (s * (P.n - 1));rw [rot_back P s hn] at this;exact this,fun h=>h.rot s⟩
theorem NoOut.rot_iff {P:Poly} {a b:Pt} (hn:1≤P.n) (s:Nat):NoOut (P.rot s) a b↔NoOut P a b:=
 ⟨fun h s' t' hs ht hst o=>h s' t' hs ht hst (o.rot s),fun h s' t' hs ht hst o=>h s' t' hs ht hst ((Outp.rot_iff hn s).1 o)⟩
theorem Cut.rot {P:Poly} {m:Nat} (c:Cut P m):Cut (P.rot m) (P.n - m)∧partB (P.rot m) (P.n - m)=P.arc m:=by
 have hm2:=c.c.m2
 have hmn:=c.c.mn
 have e:partB (P.rot m) (P.n - m)=P.arc m:=by
  have e1:(P.rot m).rot (P.n - m)=P:=by
   rw [rot_rot]
   exact Poly.ext' rfl fun j=>by show P.v (m + (P.n - m) + j)=P.v j;rw [show m + (P.n - m) + j=j + P.n by omega,P.per]
  show ((P.rot m).rot (P.n - m)).arc (P.n - (P.n - m))=P.arc m
  rw [e1,show P.n - (P.n - m)=m by omega]
 exact ⟨⟨c.c.rot,c.b,by rw [e];exact c.a⟩,e⟩
theorem Cut.wall {P:Poly} (hP:SimpleP P) {m:Nat} (c:Cut P m) {k:Nat} (h1:m≤k) (h2:k < P.n) {s t K:Int} (hs:0 < s) (ht:0 < t) (e:s + t=K) (hin:Inn (P.arc m) K (padd (smul s (P.v k)) (smul t (P.v (k + 1))))):False:=by
 have hm2:=c.c.m2
 have hmn:=c.c.mn
 have hK:0 < K:=by omega
 have hSB:=c.simB hP
 obtain ⟨M,-,hg⟩:=(hM_gen hP).get
 have hgB:Gen (hM M) (partB P m):=(hg.rot m).arc (by show P.n - m < P.n;omega)
 have b0:(partB P m).v (k - m)=P.v k:=by rw [B_v (by omega) (by omega),show m + (k - m)=k by omega]
 have b1:(partB P m).v (k - m + 1)=P.v (k + 1):=by rw [B_v (by omega) (by omega),show m + (k - m + 1)=k + 1 by omega]
 have hab:P.v k≠P.v (k + 1):=hP.ne k
 have hN:=sq_pos hab
 have lB:=wall_sides hSB hgB (left_of_area hSB hgB c.b) (k:=k - m) (by show k - m < P.n - m + 1;omega) hs ht e (x:=padd (smul s (P.v k)) (smul t (P.v (k + 1)))) (by rw [b0,b1]) (d:=rotP (psub (P.v (k + 1)) (P.v k)))
 obtain ⟨L,hL,gB,gA⟩:=(lB.and (near hin.1 (rotP (psub (P.v (k + 1)) (P.v k))))).get
 rw [b0,b1] at gB
 have tB:0 < turnZ (P.v k) (P.v (k + 1)) (padd (P.v k) (rotP (psub (P.v (k + 1)) (P.v k)))):=by
  have:turnZ (P.v k) (P.v (k + 1)) (padd (P.v k) (rotP (psub (P.v (k + 1)) (P.v k))))=((P.v (k + 1)).1 - (P.v k).1) * ((P.v (k + 1)).1 - (P.v k).1) + ((P.v (k + 1)).2 - (P.v k).2) * ((P.v (k + 1)).2 - (P.v k).2):=by unfold turnZ padd rotP psub;grind
  omega
 obtain ⟨wB,oB⟩:=gB.1 tB
 obtain ⟨oA,wA⟩:=gA
 have wA:=wA ((hM M).sc K)
 rw [hin.w (g:=(hM M).sc K) (.inl (show (1:Int)≠0 by decide)),sc_sc] at wA
 have sum:=cut_sum ((hM M).sc (L * K)) P (L * K) (show m≤P.n by omega) (padd (smul L (padd (smul s (P.v k)) (smul t (P.v (k + 1))))) (rotP (psub (P.v (k + 1)) (P.v k))))
 rw [wA,wB] at sum
 have:=wnd_zero_oneK hP c.area (pp hL hK) (h:=(hM M).sc (L * K)) (.inl (show (1:Int)≠0 by decide)) (P_walls (m:=m) (by omega) (Q:=fun a b=>Off _ (smul (L * K) a) (smul (L * K) b)) oA oB)
 omega
theorem Cut.corner {P:Poly} (hP:SimpleP P) {m:Nat} (c:Cut P m) {j:Nat} (h1:m < j) (h2:j < P.n):Outp (P.arc m) 1 (P.v j):=by
 have hm2:=c.c.m2
 have hmn:=c.c.mn
 have ho:OffP (P.arc m) 1 (P.v j):=A_walls (Q:=fun a b=>Off (P.v j) (smul 1 a) (smul 1 b)) |>.2 ⟨fun k hk=>by
  rw [smul_one,smul_one]
  exact hP.offI (by omega) h2 (by omega) (by omega) (by omega),by rw [smul_one,smul_one];exact (c.c.off j (by omega) h2 (by omega)).swap⟩
 rcases out_or_in (c.simA hP) c.a (by decide) ho with g|g
 ·exact g
 ·exfalso
  obtain ⟨L,hL,⟨gA,wA⟩,h2L⟩:=((near ho (psub (P.v (j + 1)) (P.v j))).and (Late.ge 2)).get
  refine c.wall hP (k:=j) (by omega) h2 (s:=L - 1) (t:=1) (K:=L * 1) (by omega) (by decide) (by omega) ?_
  have e:padd (smul (L - 1) (P.v j)) (smul 1 (P.v (j + 1)))=padd (smul L (P.v j)) (psub (P.v (j + 1)) (P.v j)):=by
   unfold padd smul psub
   refine Prod.ext ?_ ?_ <;> simp only <;> grind
  rw [e]
  exact ⟨gA,up.sc L,nc_up,by rw [wA up];exact g.w nc_up⟩
theorem Cut.inn_of {P:Poly} (hP:SimpleP P) {m:Nat} (c:Cut P m) {K:Int} (hK:0 < K) {x:Pt} (h:Inn (P.arc m) K x):Inn P K x:=by
 have hm2:=c.c.m2
 have hmn:=c.c.mn
 have hA:=A_walls (Q:=fun a b=>Off x (smul K a) (smul K b)) |>.1 h.1
 have corner:∀ j,m≤j→j≤P.n→x≠smul K (P.v j):=fun j g1 g2 e=>by
  rcases (show j=m∨j=P.n∨(m < j∧j < P.n) by omega) with q|q|⟨q1,q2⟩
  ·have:=hA.2
   rw [e,q] at this
   exact (Off.ne this).1 rfl
  ·have:=hA.2
   rw [e,q,P.vn] at this
   exact (Off.ne this).2 rfl
  ·have:=(c.corner hP q1 q2).scale (L:=K) hK
   rw [Int.mul_one,← e] at this
   exact h.not_out this
 have oP:OffP P K x:=fun k hk=>by
  rcases (show k < m∨m≤k by omega) with g|g
  ·exact hA.1 k g
  ·have hne:smul K (P.v k)≠smul K (P.v (k + 1)):=fun e=>hP.ne k (Prod.ext (Int.eq_of_mul_eq_mul_left (by omega) (congrArg Prod.fst e)) (Int.eq_of_mul_eq_mul_left (by omega) (congrArg Prod.snd e)))
   rcases off_or_on x hne with q|q
   ·exact q
   ·exfalso
    obtain ⟨s,t,hs,ht,h0,hf⟩:=q
    have x1:=hf ⟨1,0,0⟩
    have x2:=hf ⟨0,1,0⟩
    simp only [Aff.ev,Int.one_mul,Int.zero_mul,Int.zero_add,Int.add_zero] at x1 x2
    by_cases s0:s=0
    ·refine corner (k + 1) (by omega) (by omega) (Prod.ext ?_ ?_)
     ·rw [s0] at x1;exact Int.eq_of_mul_eq_mul_left (show t≠0 by omega) (by simpa using x1)
     ·rw [s0] at x2;exact Int.eq_of_mul_eq_mul_left (show t≠0 by omega) (by simpa using x2)
    by_cases t0:t=0
    ·refine corner k g (by omega) (Prod.ext ?_ ?_)
     ·rw [t0] at x1;exact Int.eq_of_mul_eq_mul_left (show s≠0 by omega) (by simpa using x1)
     ·rw [t0] at x2;exact Int.eq_of_mul_eq_mul_left (show s≠0 by omega) (by simpa using x2)
    refine c.wall hP g hk (s:=s * K) (t:=t * K) (K:=(s + t) * K) (pp (by omega) hK) (pp (by omega) hK) (by rw [Int.add_mul]) ?_
    have e:padd (smul (s * K) (P.v k)) (smul (t * K) (P.v (k + 1)))=smul (s + t) x:=by
     unfold smul padd at *
     refine Prod.ext ?_ ?_
     ·show s * K * (P.v k).1 + t * K * (P.v (k + 1)).1=(s + t) * x.1
      rw [x1];grind
     ·show s * K * (P.v k).2 + t * K * (P.v (k + 1)).2=(s + t) * x.2
      rw [x2];grind
    rw [e]
    exact h.scale h0
 have oB:OffP (partB P m) K x:=(B_walls (show m < P.n by omega) (Q:=fun a b=>Off x (smul K a) (smul K b))).2 ⟨fun k _ hk=>oP k hk,hA.2.swap⟩
 refine ⟨oP,up,nc_up,?_⟩
 have sum:=cut_sum up P K (show m≤P.n by omega) x
 rw [h.w nc_up] at sum
 have:=wnd_zero_oneK hP c.area hK nc_up oP
 have:=wnd_zero_oneK (c.simB hP) c.b hK nc_up oB
 omega
theorem cut_of_far {P:Poly} (hP:SimpleP P) (ha:0 < P.area) {m:Nat} (c:Chord P m) (hA:0 < (P.arc m).area) {k:Nat} (h1:m≤k) (h2:k < P.n) {f:Aff} (hf:∀ j,j≤m→0≤f.ev (P.v j)) (hneg:f.ev (P.v (k + 1)) < 0):Cut P m:=by
 have hm2:=c.m2
 have hmn:=c.mn
 refine ⟨c,hA,?_⟩
 have hSB:SimpleP (partB P m):=(hP.rot m).arc c.rot
 obtain ⟨M,-,hg⟩:=(hM_gen hP).get
 have hgB:Gen (hM M) (partB P m):=(hg.rot m).arc (by show P.n - m < P.n;omega)
 obtain ⟨l2,hB,a2⟩:=left_ex hSB hgB
 have b0:(partB P m).v (k - m)=P.v k:=by rw [B_v (by omega) (by omega),show m + (k - m)=k by omega]
 have b1:(partB P m).v (k - m + 1)=P.v (k + 1):=by rw [B_v (by omega) (by omega),show m + (k - m + 1)=k + 1 by omega]
 have hN:=sq_pos (hP.ne k)
 obtain ⟨t,ht,htf⟩:∃ t:Int,0 < t∧f.ev (P.v k) + t * f.ev (P.v (k + 1)) < 0:=by
  refine ⟨(f.ev (P.v k)).natAbs + 1,by omega,?_⟩
  have:=Int.mul_le_mul_of_nonneg_left (show f.ev (P.v (k + 1))≤-1 by omega) (show 0≤((f.ev (P.v k)).natAbs:Int) + 1 by omega)
  omega
 obtain ⟨d,hd⟩:∃ d,d=rotP (psub (P.v (k + 1)) (P.v k)):=⟨_,rfl⟩
 obtain ⟨x,hx⟩:∃ x,x=padd (smul 1 (P.v k)) (smul t (P.v (k + 1))):=⟨_,rfl⟩
 have lB:=wall_sides hSB hgB hB (k:=k - m) (by show k - m < P.n - m + 1;omega) (s:=1) (by decide) ht rfl (x:=x) (by rw [b0,b1];exact hx) (d:=d)
 have lP:=wall_sides hP hg (left_of_area hP hg ha) (k:=k) h2 (s:=1) (by decide) ht rfl (x:=x) hx (d:=d)
 obtain ⟨L,hL,⟨gB,gP⟩,hbig⟩:=((lB.and lP).and (Late.ge (f.lin d + 1))).get
 rw [b0,b1] at gB
 have tB:0 < turnZ (P.v k) (P.v (k + 1)) (padd (P.v k) d):=by
  have:turnZ (P.v k) (P.v (k + 1)) (padd (P.v k) d)=((P.v (k + 1)).1 - (P.v k).1) * ((P.v (k + 1)).1 - (P.v k).1) + ((P.v (k + 1)).2 - (P.v k).2) * ((P.v (k + 1)).2 - (P.v k).2):=by rw [hd];unfold turnZ padd rotP psub;grind
  omega
 have wB:=(gB.1 tB).1
 have wP:=(gP.1 tB).1
 have hLK:0 < L * (1 + t):=pp hL (by omega)
 have wA:wnd ((hM M).sc (L * (1 + t))) ((P.arc m).sc (L * (1 + t))).way (padd (smul L x) d)=0:=by
  refine wnd_out _ (f.sc (L * (1 + t))) fun j hj=>?_
  have hj:j < m + 1:=hj
  show (f.sc (L * (1 + t))).ev (padd (smul L x) d) < (f.sc (L * (1 + t))).ev (smul (L * (1 + t)) ((P.arc m).v j))
  rw [arc_v P (by omega),ev_sc0]
  have r:=nn0 (show 0≤L * (1 + t) by omega) (hf j (by omega))
  have e:(f.sc (L * (1 + t))).ev (padd (smul L x) d)=L * (f.ev (P.v k) + t * f.ev (P.v (k + 1))) + f.lin d:=by
   rw [hx];unfold Aff.sc Aff.ev Aff.lin padd smul;grind
  rw [e]
  have:=Int.mul_le_mul_of_nonneg_left (show f.ev (P.v k) + t * f.ev (P.v (k + 1))≤-1 by omega) (show 0≤L by omega)
  omega
 have sum:=cut_sum ((hM M).sc (L * (1 + t))) P (L * (1 + t)) (show m≤P.n by omega) (padd (smul L x) d)
 rw [wA,wB,wP] at sum
 exact a2 (by omega)
def EarP (P:Poly) (a b c:Pt):Prop:=0 < turnZ a b c∧∀ j,P.v j≠a→P.v j≠b→P.v j≠c→¬ (0≤turnZ a b (P.v j)∧0≤turnZ b c (P.v j)∧0≤turnZ c a (P.v j))
def EarI (P:Poly) (k:Nat):Prop:=EarP P (P.v k) (P.v (k + 1)) (P.v (k + 2))
theorem tri_closed {Q:Poly} (hQ:SimpleP Q) (hn:Q.n=3) (ht:0 < turnZ (Q.v 0) (Q.v 1) (Q.v 2)) {p:Pt} (h0:0≤turnZ (Q.v 0) (Q.v 1) p) (h1:0≤turnZ (Q.v 1) (Q.v 2) p) (h2:0≤turnZ (Q.v 2) (Q.v 0) p):¬ Outp Q 1 p:=by
 have c3:∀ j,Q.v (j + 3)=Q.v j:=fun j=>by rw [← hn,Q.per]
 have:=star hQ (fun j=>by rw [tri_turns hn];omega) (by rw [tri_area' hn];exact ht) (p:=p) (fun k hk=>by
  rcases (show k=0∨k=1∨k=2 by omega) with q|q|q <;> subst q
  ·exact h0
  ·exact h1
  ·rw [c3 0];exact h2) (corner_not_out Q 0 (by omega))
 have:=this 1 0 (by decide) (by decide) (by decide)
 rwa [show padd (smul 1 p) (smul 0 (Q.v 0))=p by unfold padd smul;simp,show (1:Int) + 0=1 from rfl] at this
theorem ear_cut {P:Poly} (hP:SimpleP P) (ha:0 < P.area) (h4:4≤P.n) (he:EarI P 0):Cut P 2:=by
 have ht:0 < turnZ (P.v 0) (P.v 1) (P.v 2):=he.1
 have hno:=he.2
 have hin:∀ j,¬ InT P j:=fun j ⟨g1,g2,gA,gB,gC⟩=>hno j (hP.inj g2 (by omega) (by omega)) (hP.inj g2 (by omega) (by omega)) (hP.inj g2 (by omega) (by omega)) ⟨gB,gA,gC⟩
 have c:=chord_tri hP h4 ht hin
 have hA:0 < (P.arc 2).area:=by
  rw [tri_area' (show (P.arc 2).n=3 from rfl),arc_v P (by omega),arc_v P (by omega),arc_v P (by omega)];exact ht
 have h3:=hin 3
 have vals:=tri_vals P
 have key:∀ (f:Aff),(∀ j,j≤2→0≤f.ev (P.v j))→f.ev (P.v 3) < 0→Cut P 2:=fun f g1 g2=>cut_of_far hP ha c hA (k:=2) (by omega) (by omega) g1 g2
 have small:∀ (Q:Nat→Prop),Q 0→Q 1→Q 2→∀ j,j≤2→Q j:=fun Q q0 q1 q2 j hj=>by
  rcases (show j=0∨j=1∨j=2 by omega) with q|q|q <;> subst q <;> assumption
 have t00:∀ a b:Pt,turnZ a b a=0:=fun a b=>by unfold turnZ;grind
 have t01:∀ a b:Pt,turnZ a b b=0:=fun a b=>by unfold turnZ;grind
 have r1:turnZ (P.v 1) (P.v 2) (P.v 0)=turnZ (P.v 0) (P.v 1) (P.v 2):=by unfold turnZ;grind
 have r2:turnZ (P.v 2) (P.v 0) (P.v 1)=turnZ (P.v 0) (P.v 1) (P.v 2):=by unfold turnZ;grind
 by_cases gA:0≤tA P (P.v 3)
 ·by_cases gB:0≤tB P (P.v 3)
  ·by_cases gC:0≤tC P (P.v 3)
   ·exact absurd ⟨by omega,by omega,gA,gB,gC⟩ h3
   ·refine key (Aff.turn (P.v 2) (P.v 0)) (small _ ?_ ?_ ?_) (by rw [ev_turn];exact Int.not_le.1 gC) <;> rw [ev_turn]
    ·rw [t01];exact Int.le_refl _
    ·rw [r2];omega
    ·rw [t00];exact Int.le_refl _
  ·refine key (Aff.turn (P.v 0) (P.v 1)) (small _ ?_ ?_ ?_) (by rw [ev_turn];exact Int.not_le.1 gB) <;> rw [ev_turn]
   ·rw [t00];exact Int.le_refl _
   ·rw [t01];exact Int.le_refl _
   ·omega
 ·refine key (Aff.turn (P.v 1) (P.v 2)) (small _ ?_ ?_ ?_) (by rw [ev_turn];exact Int.not_le.1 gA) <;> rw [ev_turn]
  ·rw [r1];omega
  ·rw [t00];exact Int.le_refl _
  ·rw [t01];exact Int.le_refl _
theorem EarI.rot {P:Poly} (g:0 < P.n) {s k:Nat}:EarI (P.rot s) k↔EarI P (s + k):=by
 unfold EarI EarP
 have e:∀ j,(P.rot s).v j=P.v (s + j):=fun _=>rfl
 simp only [e,← Nat.add_assoc]
 refine and_congr_right fun _=>⟨fun h j=>?_,fun h j=>h (s + j)⟩
 have hle:s≤P.n * (s + 1):=by
  have:1 * (s + 1)≤P.n * (s + 1):=Nat.mul_le_mul_right _ g
  omega
 have:=h (j + P.n * (s + 1) - s)
 rwa [show s + (j + P.n * (s + 1) - s)=j + P.n * (s + 1) by omega,P.per_mul] at this
theorem ear_lift {P:Poly} (hP:SimpleP P) {m:Nat} (c:Cut P m) {i:Nat} (hi:i + 2≤m) (he:EarP (P.arc m) (P.v i) (P.v (i + 1)) (P.v (i + 2))):EarI P i:=by
 have hm2:=c.c.m2
 have hmn:=c.c.mn
 refine ⟨he.1,fun j n0 n1 n2 hb=>?_⟩
 have hj:j % P.n < P.n:=Nat.mod_lt _ (by omega)
 rw [← P.per_mod j] at n0 n1 n2 hb
 generalize j % P.n=r at hj n0 n1 n2 hb
 rcases (show r≤m∨m < r by omega) with g|g
 ·refine he.2 r ?_ ?_ ?_ ?_ <;> rw [arc_v P g] <;> assumption
 ·have ho:=c.corner hP g hj
  have hA:=c.simA hP
  have tr:∀ {Q:Poly},SimpleP Q→Q.n=3→Q.v 0=P.v i→Q.v 1=P.v (i + 1)→Q.v 2=P.v (i + 2)→¬ Outp Q 1 (P.v r):=fun hQ h3 e0 e1 e2=>by
   refine tri_closed hQ h3 ?_ ?_ ?_ ?_ <;> (try rw [e0]) <;> (try rw [e1]) <;> (try rw [e2]) <;> first|exact he.1|exact hb.1|exact hb.2.1|exact hb.2.2
  rcases (show m=2∨3≤m by omega) with q|q
  ·subst q
   have:i=0:=by omega
   subst this
   exact tr hA rfl (arc_v P (by omega)) (arc_v P (by omega)) (arc_v P (by omega)) ho
  ·-- the ear cut off from the part
   have hR:SimpleP ((P.arc m).rot i):=hA.rot i
   have hv:∀ d,d≤2→((P.arc m).rot i).v d=P.v (i + d):=fun d hd=>arc_v P (by omega)
   have hE:EarI ((P.arc m).rot i) 0:=(EarI.rot (by show 0 < m + 1;omega)).2 (by
    show EarP (P.arc m) ((P.arc m).v (i + 0)) ((P.arc m).v (i + 0 + 1)) ((P.arc m).v (i + 0 + 2))
    rw [arc_v P (by omega),arc_v P (by omega),arc_v P (by omega)];exact he)
   have c2:=ear_cut hR (by rw [area_rot];exact c.a) (by show 4≤m + 1;omega) hE
   refine tr (c2.simA hR) rfl ?_ ?_ ?_ (c2.out_both hR (by decide) (ho.rot i)).1
   ·rw [arc_v _ (by omega)];exact hv 0 (by omega)
   ·rw [arc_v _ (by omega)];exact hv 1 (by omega)
   ·rw [arc_v _ (by omega)];exact hv 2 (by omega)
def TwoEars (P:Poly):Prop:=∃ s d,2≤d∧d + 2≤P.n∧EarI P s∧EarI P (s + d)
theorem side_ear {P:Poly} (hP:SimpleP P) {m:Nat} (c:Cut P m) (ih:4≤m + 1→TwoEars (P.arc m)):∃ i,i + 2≤m∧EarI P i:=by
 have hm2:=c.c.m2
 have hmn:=c.c.mn
 rcases (show m=2∨3≤m by omega) with q|q
 ·subst q
  refine ⟨0,by omega,ear_lift hP c (by omega) ⟨?_,fun j n0 n1 n2 _=>?_⟩⟩
  ·have:=c.a
   rwa [tri_area' (show (P.arc 2).n=3 from rfl),arc_v P (by omega),arc_v P (by omega),arc_v P (by omega)] at this
  ·have hj:j % 3 < 3:=Nat.mod_lt _ (by omega)
   have e:(P.arc 2).v j=(P.arc 2).v (j % 3):=((P.arc 2).per_mod j).symm
   rw [e,arc_v P (by omega)] at n0 n1 n2
   rcases (show j % 3=0∨j % 3=1∨j % 3=2 by omega) with g|g|g <;> rw [g] at n0 n1 n2
   ·exact n0 rfl
   ·exact n1 rfl
   ·exact n2 rfl
 ·obtain ⟨s,d,d2,dn,e1,e2⟩:=ih (by omega)
  have dn:d + 2≤m + 1:=dn
  have mk:∀ t,EarI (P.arc m) t→(t % (m + 1)) + 2≤m→∃ i,i + 2≤m∧EarI P i:=fun t ht h=>by
   refine ⟨t % (m + 1),h,ear_lift hP c h ?_⟩
   have per:∀ x,(P.arc m).v (t + x)=P.v (t % (m + 1) + x)∨2 < x:=fun x=>by
    rcases (show x≤2∨2 < x by omega) with g|g
    ·left
     rw [← arc_v P (show t % (m + 1) + x≤m by omega)]
     exact ((P.arc m).per_add t x).symm
    ·exact .inr g
   have p0:=(per 0).resolve_right (by omega)
   have p1:=(per 1).resolve_right (by omega)
   have p2:=(per 2).resolve_right (by omega)
   unfold EarI at ht
   rw [p1,p2,show (P.arc m).v t=P.v (t % (m + 1)) from p0] at ht
   exact ht
  have hs:s % (m + 1) < m + 1:=Nat.mod_lt _ (by omega)
  have hd:(s + d) % (m + 1) < m + 1:=Nat.mod_lt _ (by omega)
  rcases (show s % (m + 1) + 2≤m∨s % (m + 1)=m∨s % (m + 1)=m - 1 by omega) with g|g|g
  ·exact mk s e1 g
  all_goals
   refine mk (s + d) e2 ?_
   have:(s + d) % (m + 1)=(s % (m + 1) + d) % (m + 1):=by rw [Nat.mod_add_mod]
   rw [this,g]
   rw [Nat.mod_eq_sub_mod (by omega),Nat.mod_eq_of_lt (by omega)]
   omega
theorem two_ears:∀ (n:Nat) (P:Poly),P.n=n→4≤n→SimpleP P→0 < P.area→TwoEars P:=fun n=>by
 induction n using Nat.strongRecOn with
 | ind n ih=>
  intro P hn h4 hP ha
  obtain ⟨M,-,hg⟩:=(hM_gen hP).get
  obtain ⟨s,m,c0,p1,p2⟩:=exists_cut hP hg ((pos_iff hP hg).2 ha) (by omega)
  have c:Cut (P.rot s) m:=⟨c0,area_pos ((hP.rot s).arc c0) ((hg.rot s).arc (show m < P.n from by have:m + 2≤P.n:=c0.mn;omega)) p1,area_pos (((hP.rot s).rot m).arc c0.rot) (((hg.rot s).rot m).arc (by have:=c0.m2;have:m + 2≤P.n:=c0.mn;show P.n - m < P.n;omega)) p2⟩
  have hm2:=c.c.m2
  have hmn:=c.c.mn
  have hR:=hP.rot s
  have hnR:(P.rot s).n=n:=hn
  obtain ⟨i,hi,ei⟩:=side_ear hR c fun h=>ih (m + 1) (by omega) ((P.rot s).arc m) rfl h (c.simA hR) c.a
  obtain ⟨c',e'⟩:=c.rot
  have hR':=hR.rot m
  obtain ⟨k,hk,ek⟩:=side_ear hR' c' fun h=>ih ((P.rot s).n - m + 1) (by omega) _ rfl h (c.simB hR) c.b
  refine ⟨s + i,m + k - i,by omega,by omega,(EarI.rot (by omega)).1 ei,?_⟩
  rw [show s + i + (m + k - i)=s + (m + k) by omega]
  exact (EarI.rot (by omega)).1 ((EarI.rot (by omega)).1 ek)
end Go.Proofs.YtpafacebfogkmaaGreat.Geo
namespace Go.Proofs.YtpafacebfogkmaaGreat
open Go.RowKit Go.Proofs.YtpafacebfogkmaaGreat.Nm
set_option maxRecDepth 10000
def vI (n:Int):RV:=.val (.one (.d (.int .i64 n)))
def vB (b:Bool):RV:=.val (.one (.d (.bool b)))
def btwC:Con:=mkCon [.int,.int,.int] (fun _=>True) fun x=>vB (btw x.1 x.2.1 x.2.2.1)
theorem _root_.Go.Proofs.YtpafacebfogkmaaGreat.vS1:type_of% (And.intro @cond_true.{1} (And.intro @cond_false.{1} (And.intro @decide_eq_true_eq (And.intro @decide_eq_false_iff_not (And.intro @Bool.not_eq_true' (And.intro @Bool.not_eq_false' (And.intro @Int.toNat_natCast @prodEta))))))):=⟨cond_true,cond_false,decide_eq_true_eq,decide_eq_false_iff_not,Bool.not_eq_true',Bool.not_eq_false',Int.toNat_natCast,prodEta⟩
theorem between_ok:Good1 Tryz.prog n_impl_between btwC:=by
 refine good_of (tys:=tyL) (env:=[]) [] [] mixed tys trivial Tryz.func28 rfl (by kernel_rfl) (by decide) (by kernel_rfl) ?_
 rintro ⟨x,lo,hi,⟨⟩⟩ _
 (repeat' (first|(with_reducible first|exact True.intro|refine zQ ?_|(refine zG hG_ ?_;intro K_ hK_)|(refine zR ?_;intro K_ hK_)|(refine hK_ _ _ ?_;try clear hK_ K_)|refine sq_n ?_|refine sq_r ?_|refine sq_e ?_|refine bq_n ?_|refine bq_r ?_|refine bq_q ?_|refine zB ?_|refine zX ?_|refine zT ?_|refine zK ?_|refine gq_n ?_|refine gq_r ?_|refine gq_e ?_|refine lq_n ?_|refine lq_r ?_|refine lq_e ?_|refine bq_e (by decide) ?_)|((with_reducible refine zC (b:=?b_) ?hb_ ?_ ?_);case hb_=>rfl)|((conv=>whnf);first|(with_reducible refine hK_ _ _ ?_;try clear hK_ K_)|(with_reducible refine fun (g_:Sl) (o_:Ow)=>?_)|(with_reducible first|exact True.intro|refine And.intro trivial ?_|refine And.intro ?_ ?_)|exact Nat.le_of_ble_eq_true rfl|exact Or.inl rfl|(intro h_;cases h_)|(intro h_;(try simp only [vS1] at h_))|rfl))) <;> (try (conv=>whnf)) <;> (try first|change (_:Int)≤_|change (_:Nat)≤_) <;> simp_all [btw] <;> omega
theorem l01In_ok:Good1 Tryz.prog n_spec_l01In btwC:=by
 refine good_of (tys:=tyL) (env:=[]) [] [] mixed tys trivial Tryz.func78 rfl (by kernel_rfl) (by decide) (by kernel_rfl) ?_
 rintro ⟨x,lo,hi,⟨⟩⟩ _
 (repeat' (first|(with_reducible first|exact True.intro|refine zQ ?_|(refine zG hG_ ?_;intro K_ hK_)|(refine zR ?_;intro K_ hK_)|(refine hK_ _ _ ?_;try clear hK_ K_)|refine sq_n ?_|refine sq_r ?_|refine sq_e ?_|refine bq_n ?_|refine bq_r ?_|refine bq_q ?_|refine zB ?_|refine zX ?_|refine zT ?_|refine zK ?_|refine gq_n ?_|refine gq_r ?_|refine gq_e ?_|refine lq_n ?_|refine lq_r ?_|refine lq_e ?_|refine bq_e (by decide) ?_)|((with_reducible refine zC (b:=?b_) ?hb_ ?_ ?_);case hb_=>rfl)|((conv=>whnf);first|(with_reducible refine hK_ _ _ ?_;try clear hK_ K_)|(with_reducible refine fun (g_:Sl) (o_:Ow)=>?_)|(with_reducible first|exact True.intro|refine And.intro trivial ?_|refine And.intro ?_ ?_)|exact Nat.le_of_ble_eq_true rfl|exact Or.inl rfl|(intro h_;cases h_)|(intro h_;(try simp only [vS1] at h_))|rfl))) <;> (try (conv=>whnf)) <;> (try first|change (_:Int)≤_|change (_:Nat)≤_) <;> simp_all [btw] <;> omega
def ptOkC:Con:=mkCon [.pt] (fun _=>True) fun x=>vB (ptOk x.1)
theorem iPointOk_ok:Good1 Tryz.prog n_impl_PointOk ptOkC:=by
 refine good_of (tys:=tyL) (env:=[(n_impl_between,btwC)]) [] [] mixed tys ⟨between_ok,trivial⟩ Tryz.func72 rfl (by kernel_rfl) (by decide) (by kernel_rfl) ?_
 rintro ⟨⟨x,y⟩,⟨⟩⟩ _
 (repeat' (first|(with_reducible first|exact True.intro|refine zQ ?_|(refine zG hG_ ?_;intro K_ hK_)|(refine zR ?_;intro K_ hK_)|(refine hK_ _ _ ?_;try clear hK_ K_)|refine sq_n ?_|refine sq_r ?_|refine sq_e ?_|refine bq_n ?_|refine bq_r ?_|refine bq_q ?_|refine zB ?_|refine zX ?_|refine zT ?_|refine zK ?_|refine gq_n ?_|refine gq_r ?_|refine gq_e ?_|refine lq_n ?_|refine lq_r ?_|refine lq_e ?_|refine bq_e (by decide) ?_)|((with_reducible refine zC (b:=?b_) ?hb_ ?_ ?_);case hb_=>rfl)|((conv=>whnf);first|(with_reducible refine hK_ _ _ ?_;try clear hK_ K_)|(with_reducible refine fun (g_:Sl) (o_:Ow)=>?_)|(with_reducible first|exact True.intro|refine And.intro trivial ?_|refine And.intro ?_ ?_)|exact Nat.le_of_ble_eq_true rfl|exact Or.inl rfl|(intro h_;cases h_)|(intro h_;(try simp only [vS1] at h_))|rfl))) <;> (try (conv=>whnf)) <;> (try first|change (_:Int)≤_|change (_:Nat)≤_) <;> simp_all [ptOk]
theorem sPointOk_ok:Good1 Tryz.prog n_spec_PointOk ptOkC:=by
 refine good_of (tys:=tyL) (env:=[(n_spec_l01In,btwC)]) [] [] mixed tys ⟨l01In_ok,trivial⟩ Tryz.func79 rfl (by kernel_rfl) (by decide) (by kernel_rfl) ?_
 rintro ⟨⟨x,y⟩,⟨⟩⟩ _
 (repeat' (first|(with_reducible first|exact True.intro|refine zQ ?_|(refine zG hG_ ?_;intro K_ hK_)|(refine zR ?_;intro K_ hK_)|(refine hK_ _ _ ?_;try clear hK_ K_)|refine sq_n ?_|refine sq_r ?_|refine sq_e ?_|refine bq_n ?_|refine bq_r ?_|refine bq_q ?_|refine zB ?_|refine zX ?_|refine zT ?_|refine zK ?_|refine gq_n ?_|refine gq_r ?_|refine gq_e ?_|refine lq_n ?_|refine lq_r ?_|refine lq_e ?_|refine bq_e (by decide) ?_)|((with_reducible refine zC (b:=?b_) ?hb_ ?_ ?_);case hb_=>rfl)|((conv=>whnf);first|(with_reducible refine hK_ _ _ ?_;try clear hK_ K_)|(with_reducible refine fun (g_:Sl) (o_:Ow)=>?_)|(with_reducible first|exact True.intro|refine And.intro trivial ?_|refine And.intro ?_ ?_)|exact Nat.le_of_ble_eq_true rfl|exact Or.inl rfl|(intro h_;cases h_)|(intro h_;(try simp only [vS1] at h_))|rfl))) <;> (try (conv=>whnf)) <;> (try first|change (_:Int)≤_|change (_:Nat)≤_) <;> simp_all [ptOk]
def turnC:Con:=mkCon [.pt,.pt,.pt] (fun _=>True) fun x=>vI (turn x.1 x.2.1 x.2.2.1)
theorem turn_ok:Good1 Tryz.prog n_impl_turn turnC:=by
 refine good_of (tys:=tyL) (env:=[]) [] [] mixed tys trivial Tryz.func64 rfl (by kernel_rfl) (by decide) (by kernel_rfl) ?_
 rintro ⟨⟨a,b⟩,⟨c,d⟩,⟨e,f⟩,⟨⟩⟩ _
 (repeat' (first|(with_reducible first|exact True.intro|refine zQ ?_|(refine zG hG_ ?_;intro K_ hK_)|(refine zR ?_;intro K_ hK_)|(refine hK_ _ _ ?_;try clear hK_ K_)|refine sq_n ?_|refine sq_r ?_|refine sq_e ?_|refine bq_n ?_|refine bq_r ?_|refine bq_q ?_|refine zB ?_|refine zX ?_|refine zT ?_|refine zK ?_|refine gq_n ?_|refine gq_r ?_|refine gq_e ?_|refine lq_n ?_|refine lq_r ?_|refine lq_e ?_|refine bq_e (by decide) ?_)|((with_reducible refine zC (b:=?b_) ?hb_ ?_ ?_);case hb_=>rfl)|((conv=>whnf);first|(with_reducible refine hK_ _ _ ?_;try clear hK_ K_)|(with_reducible refine fun (g_:Sl) (o_:Ow)=>?_)|(with_reducible first|exact True.intro|refine And.intro trivial ?_|refine And.intro ?_ ?_)|exact Nat.le_of_ble_eq_true rfl|exact Or.inl rfl|(intro h_;cases h_)|(intro h_;(try simp only [vS1] at h_))|rfl))) <;> (try (conv=>whnf)) <;> (try first|change (_:Int)≤_|change (_:Nat)≤_)
 simp only [turn];simp only [W_l1,W_l2,W_l3,W_l4,W_m1,W_m2,W_w]
theorem l02Turn_ok:Good1 Tryz.prog n_spec_l02Turn turnC:=by
 refine good_of (tys:=tyL) (env:=[]) [] [] mixed tys trivial Tryz.func80 rfl (by kernel_rfl) (by decide) (by kernel_rfl) ?_
 rintro ⟨⟨a,b⟩,⟨c,d⟩,⟨e,f⟩,⟨⟩⟩ _
 (repeat' (first|(with_reducible first|exact True.intro|refine zQ ?_|(refine zG hG_ ?_;intro K_ hK_)|(refine zR ?_;intro K_ hK_)|(refine hK_ _ _ ?_;try clear hK_ K_)|refine sq_n ?_|refine sq_r ?_|refine sq_e ?_|refine bq_n ?_|refine bq_r ?_|refine bq_q ?_|refine zB ?_|refine zX ?_|refine zT ?_|refine zK ?_|refine gq_n ?_|refine gq_r ?_|refine gq_e ?_|refine lq_n ?_|refine lq_r ?_|refine lq_e ?_|refine bq_e (by decide) ?_)|((with_reducible refine zC (b:=?b_) ?hb_ ?_ ?_);case hb_=>rfl)|((conv=>whnf);first|(with_reducible refine hK_ _ _ ?_;try clear hK_ K_)|(with_reducible refine fun (g_:Sl) (o_:Ow)=>?_)|(with_reducible first|exact True.intro|refine And.intro trivial ?_|refine And.intro ?_ ?_)|exact Nat.le_of_ble_eq_true rfl|exact Or.inl rfl|(intro h_;cases h_)|(intro h_;(try simp only [vS1] at h_))|rfl))) <;> (try (conv=>whnf)) <;> (try first|change (_:Int)≤_|change (_:Nat)≤_)
 simp only [turn];simp only [W_l1,W_l2,W_l3,W_l4,W_m1,W_m2,W_w]
def onC:Con:=mkCon [.pt,.pt,.pt] (fun _=>True) fun x=>vB (onS x.1 x.2.1 x.2.2.1)
theorem on_ok:Good1 Tryz.prog n_impl_on onC:=by
 refine good_of (tys:=tyL) (env:=[(n_impl_turn,turnC),(n_impl_between,btwC)]) [] [] mixed tys ⟨turn_ok,between_ok,trivial⟩ Tryz.func97 rfl (by kernel_rfl) (by decide) (by kernel_rfl) ?_
 rintro ⟨⟨a,b⟩,⟨c,d⟩,⟨e,f⟩,⟨⟩⟩ _
 (repeat' (first|(with_reducible first|exact True.intro|refine zQ ?_|(refine zG hG_ ?_;intro K_ hK_)|(refine zR ?_;intro K_ hK_)|(refine hK_ _ _ ?_;try clear hK_ K_)|refine sq_n ?_|refine sq_r ?_|refine sq_e ?_|refine bq_n ?_|refine bq_r ?_|refine bq_q ?_|refine zB ?_|refine zX ?_|refine zT ?_|refine zK ?_|refine gq_n ?_|refine gq_r ?_|refine gq_e ?_|refine lq_n ?_|refine lq_r ?_|refine lq_e ?_|refine bq_e (by decide) ?_)|((with_reducible refine zC (b:=?b_) ?hb_ ?_ ?_);case hb_=>rfl)|((conv=>whnf);first|(with_reducible refine hK_ _ _ ?_;try clear hK_ K_)|(with_reducible refine fun (g_:Sl) (o_:Ow)=>?_)|(with_reducible first|exact True.intro|refine And.intro trivial ?_|refine And.intro ?_ ?_)|exact Nat.le_of_ble_eq_true rfl|exact Or.inl rfl|(intro h_;cases h_)|(intro h_;(try simp only [vS1] at h_))|rfl))) <;> (try (conv=>whnf)) <;> (try first|change (_:Int)≤_|change (_:Nat)≤_) <;> simp_all [onS]
theorem l02Between_ok:Good1 Tryz.prog n_spec_l02Between onC:=by
 refine good_of (tys:=tyL) (env:=[(n_spec_l02Turn,turnC),(n_spec_l01In,btwC)]) [] [] mixed tys ⟨l02Turn_ok,l01In_ok,trivial⟩ Tryz.func115 rfl (by kernel_rfl) (by decide) (by kernel_rfl) ?_
 rintro ⟨⟨a,b⟩,⟨c,d⟩,⟨e,f⟩,⟨⟩⟩ _
 (repeat' (first|(with_reducible first|exact True.intro|refine zQ ?_|(refine zG hG_ ?_;intro K_ hK_)|(refine zR ?_;intro K_ hK_)|(refine hK_ _ _ ?_;try clear hK_ K_)|refine sq_n ?_|refine sq_r ?_|refine sq_e ?_|refine bq_n ?_|refine bq_r ?_|refine bq_q ?_|refine zB ?_|refine zX ?_|refine zT ?_|refine zK ?_|refine gq_n ?_|refine gq_r ?_|refine gq_e ?_|refine lq_n ?_|refine lq_r ?_|refine lq_e ?_|refine bq_e (by decide) ?_)|((with_reducible refine zC (b:=?b_) ?hb_ ?_ ?_);case hb_=>rfl)|((conv=>whnf);first|(with_reducible refine hK_ _ _ ?_;try clear hK_ K_)|(with_reducible refine fun (g_:Sl) (o_:Ow)=>?_)|(with_reducible first|exact True.intro|refine And.intro trivial ?_|refine And.intro ?_ ?_)|exact Nat.le_of_ble_eq_true rfl|exact Or.inl rfl|(intro h_;cases h_)|(intro h_;(try simp only [vS1] at h_))|rfl))) <;> (try (conv=>whnf)) <;> (try first|change (_:Int)≤_|change (_:Nat)≤_) <;> simp_all [onS]
def pointsOkC:Con:=mkCon [.sl (.b .pt)] (fun x=>x.1.length≤1073741824) fun x=>vB (x.1.all ptOk)
theorem pointsOk_ok:Good1 Tryz.prog n_impl_pointsOk pointsOkC:=by
 refine good_of (tys:=tyL) (env:=[(n_impl_PointOk,ptOkC)]) [] [] mixed tys ⟨iPointOk_ok,trivial⟩ Tryz.func40 rfl (by kernel_rfl) (by decide) (by kernel_rfl) ?_
 rintro ⟨xs,⟨⟩⟩ hlen
 change xs.length≤_ at hlen
 (repeat' (first|(with_reducible first|exact True.intro|refine zQ ?_|(refine zG hG_ ?_;intro K_ hK_)|(refine zR ?_;intro K_ hK_)|(refine hK_ _ _ ?_;try clear hK_ K_)|refine sq_n ?_|refine sq_r ?_|refine sq_e ?_|refine bq_n ?_|refine bq_r ?_|refine bq_q ?_|refine zB ?_|refine zX ?_|refine zT ?_|refine zK ?_|refine gq_n ?_|refine gq_r ?_|refine gq_e ?_|refine lq_n ?_|refine lq_r ?_|refine lq_e ?_|refine bq_e (by decide) ?_)|((with_reducible refine zC (b:=?b_) ?hb_ ?_ ?_);case hb_=>rfl)|((conv=>whnf);first|(with_reducible refine hK_ _ _ ?_;try clear hK_ K_)|(with_reducible refine fun (g_:Sl) (o_:Ow)=>?_)|(with_reducible first|exact True.intro|refine And.intro trivial ?_|refine And.intro ?_ ?_)|exact Nat.le_of_ble_eq_true rfl|exact Or.inl rfl|(intro h_;cases h_)|(intro h_;(try simp only [vS1] at h_))|rfl))) <;> (try (conv=>whnf)) <;> (try first|change (_:Int)≤_|change (_:Nat)≤_)
 refine awp'_loop (fun k σ=>k≤xs.length∧(xs.take k).all ptOk=true∧Has σ [(5,vPts xs),(6,vInt xs.length),(7,vInt k)]) (fun k=>xs.length - k) 0 ⟨Nat.zero_le _,by simp,?_⟩ ?_
 ·(repeat' (first|(with_reducible first|exact True.intro|refine zQ ?_|(refine zG hG_ ?_;intro K_ hK_)|(refine zR ?_;intro K_ hK_)|(refine hK_ _ _ ?_;try clear hK_ K_)|refine sq_n ?_|refine sq_r ?_|refine sq_e ?_|refine bq_n ?_|refine bq_r ?_|refine bq_q ?_|refine zB ?_|refine zX ?_|refine zT ?_|refine zK ?_|refine gq_n ?_|refine gq_r ?_|refine gq_e ?_|refine lq_n ?_|refine lq_r ?_|refine lq_e ?_|refine bq_e (by decide) ?_)|((with_reducible refine zC (b:=?b_) ?hb_ ?_ ?_);case hb_=>rfl)|((conv=>whnf);first|(with_reducible refine hK_ _ _ ?_;try clear hK_ K_)|(with_reducible refine fun (g_:Sl) (o_:Ow)=>?_)|(with_reducible first|exact True.intro|refine And.intro trivial ?_|refine And.intro ?_ ?_)|exact Nat.le_of_ble_eq_true rfl|exact Or.inl rfl|(intro h_;cases h_)|(intro h_;(try simp only [vS1] at h_))|rfl))) <;> (try (conv=>whnf)) <;> (try first|change (_:Int)≤_|change (_:Nat)≤_)
 rintro k s_ w_ ⟨hk,hall,h⟩
 obtain ⟨g,rfl⟩:=has_ex h
 clear h
 (repeat' (first|(with_reducible first|exact True.intro|refine zQ ?_|(refine zG hG_ ?_;intro K_ hK_)|(refine zR ?_;intro K_ hK_)|(refine hK_ _ _ ?_;try clear hK_ K_)|refine sq_n ?_|refine sq_r ?_|refine sq_e ?_|refine bq_n ?_|refine bq_r ?_|refine bq_q ?_|refine zB ?_|refine zX ?_|refine zT ?_|refine zK ?_|refine gq_n ?_|refine gq_r ?_|refine gq_e ?_|refine lq_n ?_|refine lq_r ?_|refine lq_e ?_|refine bq_e (by decide) ?_)|((with_reducible refine zC (b:=?b_) ?hb_ ?_ ?_);case hb_=>rfl)|((conv=>whnf);first|(with_reducible refine hK_ _ _ ?_;try clear hK_ K_)|(with_reducible refine fun (g_:Sl) (o_:Ow)=>?_)|(with_reducible first|exact True.intro|refine And.intro trivial ?_|refine And.intro ?_ ?_)|exact Nat.le_of_ble_eq_true rfl|exact Or.inl rfl|(intro h_;cases h_)|(intro h_;(try simp only [vS1] at h_))|rfl))) <;> (try (conv=>whnf)) <;> (try first|change (_:Int)≤_|change (_:Nat)≤_) <;> (try ((fail_if_success (with_reducible apply Exists.intro));(try dsimp only);(try simp only [vS1])))
 ·omega
 ·omega
 ·exact (all_no (k:=k) _ (by omega) ‹_›).symm
 ·refine ⟨k + 1,by omega,by omega,?_,?_⟩
  ·rw [all_succ (0,0) (by omega),hall];simpa using ‹_›
  ·rw [← W_nat (by omega)];(repeat' (first|(with_reducible first|exact True.intro|refine zQ ?_|(refine zG hG_ ?_;intro K_ hK_)|(refine zR ?_;intro K_ hK_)|(refine hK_ _ _ ?_;try clear hK_ K_)|refine sq_n ?_|refine sq_r ?_|refine sq_e ?_|refine bq_n ?_|refine bq_r ?_|refine bq_q ?_|refine zB ?_|refine zX ?_|refine zT ?_|refine zK ?_|refine gq_n ?_|refine gq_r ?_|refine gq_e ?_|refine lq_n ?_|refine lq_r ?_|refine lq_e ?_|refine bq_e (by decide) ?_)|((with_reducible refine zC (b:=?b_) ?hb_ ?_ ?_);case hb_=>rfl)|((conv=>whnf);first|(with_reducible refine hK_ _ _ ?_;try clear hK_ K_)|(with_reducible refine fun (g_:Sl) (o_:Ow)=>?_)|(with_reducible first|exact True.intro|refine And.intro trivial ?_|refine And.intro ?_ ?_)|exact Nat.le_of_ble_eq_true rfl|exact Or.inl rfl|(intro h_;cases h_)|(intro h_;(try simp only [vS1] at h_))|rfl))) <;> (try (conv=>whnf)) <;> (try first|change (_:Int)≤_|change (_:Nat)≤_)
 ·exact (take_all (by omega) hall).symm
def wallOkC:Con:=mkCon [.wall] (fun _=>True) fun x=>vB (wallOk x.1)
theorem iWallOk_ok:Good1 Tryz.prog n_impl_WallOk wallOkC:=by
 refine good_of (tys:=tyL) (env:=[(n_impl_pointsOk,pointsOkC)]) [] [] mixed tys ⟨pointsOk_ok,trivial⟩ Tryz.func96 rfl (by kernel_rfl) (by decide) (by kernel_rfl) ?_
 rintro ⟨⟨⟨a,b⟩,⟨c,d⟩⟩,⟨⟩⟩ _
 (repeat' (first|(with_reducible first|exact True.intro|refine zQ ?_|(refine zG hG_ ?_;intro K_ hK_)|(refine zR ?_;intro K_ hK_)|(refine hK_ _ _ ?_;try clear hK_ K_)|refine sq_n ?_|refine sq_r ?_|refine sq_e ?_|refine bq_n ?_|refine bq_r ?_|refine bq_q ?_|refine zB ?_|refine zX ?_|refine zT ?_|refine zK ?_|refine gq_n ?_|refine gq_r ?_|refine gq_e ?_|refine lq_n ?_|refine lq_r ?_|refine lq_e ?_|refine bq_e (by decide) ?_)|((with_reducible refine zC (b:=?b_) ?hb_ ?_ ?_);case hb_=>rfl)|((conv=>whnf);first|(with_reducible refine hK_ _ _ ?_;try clear hK_ K_)|(with_reducible refine fun (g_:Sl) (o_:Ow)=>?_)|(with_reducible first|exact True.intro|refine And.intro trivial ?_|refine And.intro ?_ ?_)|exact Nat.le_of_ble_eq_true rfl|exact Or.inl rfl|(intro h_;cases h_)|(intro h_;(try simp only [vS1] at h_))|rfl))) <;> (try (conv=>whnf)) <;> (try first|change (_:Int)≤_|change (_:Nat)≤_) <;> simp_all [wallOk,ptEq]
theorem sWallOk_ok:Good1 Tryz.prog n_spec_WallOk wallOkC:=by
 refine good_of (tys:=tyL) (env:=[(n_spec_PointOk,ptOkC)]) [] [] mixed tys ⟨sPointOk_ok,trivial⟩ Tryz.func104 rfl (by kernel_rfl) (by decide) (by kernel_rfl) ?_
 rintro ⟨⟨⟨a,b⟩,⟨c,d⟩⟩,⟨⟩⟩ _
 (repeat' (first|(with_reducible first|exact True.intro|refine zQ ?_|(refine zG hG_ ?_;intro K_ hK_)|(refine zR ?_;intro K_ hK_)|(refine hK_ _ _ ?_;try clear hK_ K_)|refine sq_n ?_|refine sq_r ?_|refine sq_e ?_|refine bq_n ?_|refine bq_r ?_|refine bq_q ?_|refine zB ?_|refine zX ?_|refine zT ?_|refine zK ?_|refine gq_n ?_|refine gq_r ?_|refine gq_e ?_|refine lq_n ?_|refine lq_r ?_|refine lq_e ?_|refine bq_e (by decide) ?_)|((with_reducible refine zC (b:=?b_) ?hb_ ?_ ?_);case hb_=>rfl)|((conv=>whnf);first|(with_reducible refine hK_ _ _ ?_;try clear hK_ K_)|(with_reducible refine fun (g_:Sl) (o_:Ow)=>?_)|(with_reducible first|exact True.intro|refine And.intro trivial ?_|refine And.intro ?_ ?_)|exact Nat.le_of_ble_eq_true rfl|exact Or.inl rfl|(intro h_;cases h_)|(intro h_;(try simp only [vS1] at h_))|rfl))) <;> (try (conv=>whnf)) <;> (try first|change (_:Int)≤_|change (_:Nat)≤_) <;> simp_all [wallOk,ptEq]
def sgnC:Con:=mkCon [.int] (fun _=>True) fun x=>vI (sgn x.1)
theorem sign_ok:Good1 Tryz.prog n_impl_sign sgnC:=by
 refine good_of (tys:=tyL) (env:=[]) [] [] mixed tys trivial Tryz.func66 rfl (by kernel_rfl) (by decide) (by kernel_rfl) ?_
 rintro ⟨n,⟨⟩⟩ _
 (repeat' (first|(with_reducible first|exact True.intro|refine zQ ?_|(refine zG hG_ ?_;intro K_ hK_)|(refine zR ?_;intro K_ hK_)|(refine hK_ _ _ ?_;try clear hK_ K_)|refine sq_n ?_|refine sq_r ?_|refine sq_e ?_|refine bq_n ?_|refine bq_r ?_|refine bq_q ?_|refine zB ?_|refine zX ?_|refine zT ?_|refine zK ?_|refine gq_n ?_|refine gq_r ?_|refine gq_e ?_|refine lq_n ?_|refine lq_r ?_|refine lq_e ?_|refine bq_e (by decide) ?_)|((with_reducible refine zC (b:=?b_) ?hb_ ?_ ?_);case hb_=>rfl)|((conv=>whnf);first|(with_reducible refine hK_ _ _ ?_;try clear hK_ K_)|(with_reducible refine fun (g_:Sl) (o_:Ow)=>?_)|(with_reducible first|exact True.intro|refine And.intro trivial ?_|refine And.intro ?_ ?_)|exact Nat.le_of_ble_eq_true rfl|exact Or.inl rfl|(intro h_;cases h_)|(intro h_;(try simp only [vS1] at h_))|rfl))) <;> (try (conv=>whnf)) <;> (try first|change (_:Int)≤_|change (_:Nat)≤_) <;> simp_all [sgn] <;> omega
theorem l03Sign_ok:Good1 Tryz.prog n_spec_l03Sign sgnC:=by
 refine good_of (tys:=tyL) (env:=[]) [] [] mixed tys trivial Tryz.func107 rfl (by kernel_rfl) (by decide) (by kernel_rfl) ?_
 rintro ⟨n,⟨⟩⟩ _
 (repeat' (first|(with_reducible first|exact True.intro|refine zQ ?_|(refine zG hG_ ?_;intro K_ hK_)|(refine zR ?_;intro K_ hK_)|(refine hK_ _ _ ?_;try clear hK_ K_)|refine sq_n ?_|refine sq_r ?_|refine sq_e ?_|refine bq_n ?_|refine bq_r ?_|refine bq_q ?_|refine zB ?_|refine zX ?_|refine zT ?_|refine zK ?_|refine gq_n ?_|refine gq_r ?_|refine gq_e ?_|refine lq_n ?_|refine lq_r ?_|refine lq_e ?_|refine bq_e (by decide) ?_)|((with_reducible refine zC (b:=?b_) ?hb_ ?_ ?_);case hb_=>rfl)|((conv=>whnf);first|(with_reducible refine hK_ _ _ ?_;try clear hK_ K_)|(with_reducible refine fun (g_:Sl) (o_:Ow)=>?_)|(with_reducible first|exact True.intro|refine And.intro trivial ?_|refine And.intro ?_ ?_)|exact Nat.le_of_ble_eq_true rfl|exact Or.inl rfl|(intro h_;cases h_)|(intro h_;(try simp only [vS1] at h_))|rfl))) <;> (try (conv=>whnf)) <;> (try first|change (_:Int)≤_|change (_:Nat)≤_) <;> simp_all [sgn] <;> omega
def crossesC:Con:=mkCon [.wall,.wall] (fun _=>True) fun x=>vB (crs x.2.1.1 x.2.1.2 x.1.1 x.1.2)
theorem crosses_ok:Good1 Tryz.prog n_impl_crosses crossesC:=by
 refine good_of (tys:=tyL) (env:=[(n_impl_turn,turnC),(n_impl_sign,sgnC)]) [] [] mixed tys ⟨turn_ok,sign_ok,trivial⟩ Tryz.func34 rfl (by kernel_rfl) (by decide) (by kernel_rfl) ?_
 rintro ⟨⟨⟨a,b⟩,⟨c,d⟩⟩,⟨⟨e,f⟩,⟨g,h⟩⟩,⟨⟩⟩ _
 (repeat' (first|(with_reducible first|exact True.intro|refine zQ ?_|(refine zG hG_ ?_;intro K_ hK_)|(refine zR ?_;intro K_ hK_)|(refine hK_ _ _ ?_;try clear hK_ K_)|refine sq_n ?_|refine sq_r ?_|refine sq_e ?_|refine bq_n ?_|refine bq_r ?_|refine bq_q ?_|refine zB ?_|refine zX ?_|refine zT ?_|refine zK ?_|refine gq_n ?_|refine gq_r ?_|refine gq_e ?_|refine lq_n ?_|refine lq_r ?_|refine lq_e ?_|refine bq_e (by decide) ?_)|((with_reducible refine zC (b:=?b_) ?hb_ ?_ ?_);case hb_=>rfl)|((conv=>whnf);first|(with_reducible refine hK_ _ _ ?_;try clear hK_ K_)|(with_reducible refine fun (g_:Sl) (o_:Ow)=>?_)|(with_reducible first|exact True.intro|refine And.intro trivial ?_|refine And.intro ?_ ?_)|exact Nat.le_of_ble_eq_true rfl|exact Or.inl rfl|(intro h_;cases h_)|(intro h_;(try simp only [vS1] at h_))|rfl))) <;> (try (conv=>whnf)) <;> (try first|change (_:Int)≤_|change (_:Nat)≤_) <;> (try ((fail_if_success (with_reducible apply Exists.intro));(try dsimp only);(try simp only [vS1]))) <;> (try simp only [sgn_w] at *) <;> grind [crs]
def l03CrossC:Con:=mkCon [.pt,.pt,.pt,.pt] (fun _=>True) fun x=>vB (crs x.1 x.2.1 x.2.2.1 x.2.2.2.1)
theorem l03Cross_ok:Good1 Tryz.prog n_spec_l03Cross l03CrossC:=by
 refine good_of (tys:=tyL) (env:=[(n_spec_l02Turn,turnC),(n_spec_l03Sign,sgnC)]) [] [] mixed tys ⟨l02Turn_ok,l03Sign_ok,trivial⟩ Tryz.func84 rfl (by kernel_rfl) (by decide) (by kernel_rfl) ?_
 rintro ⟨⟨a,b⟩,⟨c,d⟩,⟨e,f⟩,⟨g,h⟩,⟨⟩⟩ _
 (repeat' (first|(with_reducible first|exact True.intro|refine zQ ?_|(refine zG hG_ ?_;intro K_ hK_)|(refine zR ?_;intro K_ hK_)|(refine hK_ _ _ ?_;try clear hK_ K_)|refine sq_n ?_|refine sq_r ?_|refine sq_e ?_|refine bq_n ?_|refine bq_r ?_|refine bq_q ?_|refine zB ?_|refine zX ?_|refine zT ?_|refine zK ?_|refine gq_n ?_|refine gq_r ?_|refine gq_e ?_|refine lq_n ?_|refine lq_r ?_|refine lq_e ?_|refine bq_e (by decide) ?_)|((with_reducible refine zC (b:=?b_) ?hb_ ?_ ?_);case hb_=>rfl)|((conv=>whnf);first|(with_reducible refine hK_ _ _ ?_;try clear hK_ K_)|(with_reducible refine fun (g_:Sl) (o_:Ow)=>?_)|(with_reducible first|exact True.intro|refine And.intro trivial ?_|refine And.intro ?_ ?_)|exact Nat.le_of_ble_eq_true rfl|exact Or.inl rfl|(intro h_;cases h_)|(intro h_;(try simp only [vS1] at h_))|rfl))) <;> (try (conv=>whnf)) <;> (try first|change (_:Int)≤_|change (_:Nat)≤_) <;> (try ((fail_if_success (with_reducible apply Exists.intro));(try dsimp only);(try simp only [vS1]))) <;> (try simp only [sgn_w] at *) <;> grind [crs]
def meetC:Con:=mkCon [.wall,.wall] (fun _=>True) fun x=>vB (meet x.1 x.2.1)
theorem iDoMeet_ok:Good1 Tryz.prog n_impl_DoMeet meetC:=by
 refine good_of (tys:=tyL) (env:=[(n_impl_WallOk,wallOkC),(n_impl_crosses,crossesC),(n_impl_on,onC)]) [] [] mixed tys ⟨iWallOk_ok,crosses_ok,on_ok,trivial⟩ Tryz.func65 rfl (by kernel_rfl) (by decide) (by kernel_rfl) ?_
 rintro ⟨⟨⟨a,b⟩,⟨c,d⟩⟩,⟨⟨e,f⟩,⟨g,h⟩⟩,⟨⟩⟩ _
 (repeat' (first|(with_reducible first|exact True.intro|refine zQ ?_|(refine zG hG_ ?_;intro K_ hK_)|(refine zR ?_;intro K_ hK_)|(refine hK_ _ _ ?_;try clear hK_ K_)|refine sq_n ?_|refine sq_r ?_|refine sq_e ?_|refine bq_n ?_|refine bq_r ?_|refine bq_q ?_|refine zB ?_|refine zX ?_|refine zT ?_|refine zK ?_|refine gq_n ?_|refine gq_r ?_|refine gq_e ?_|refine lq_n ?_|refine lq_r ?_|refine lq_e ?_|refine bq_e (by decide) ?_)|((with_reducible refine zC (b:=?b_) ?hb_ ?_ ?_);case hb_=>rfl)|((conv=>whnf);first|(with_reducible refine hK_ _ _ ?_;try clear hK_ K_)|(with_reducible refine fun (g_:Sl) (o_:Ow)=>?_)|(with_reducible first|exact True.intro|refine And.intro trivial ?_|refine And.intro ?_ ?_)|exact Nat.le_of_ble_eq_true rfl|exact Or.inl rfl|(intro h_;cases h_)|(intro h_;(try simp only [vS1] at h_))|rfl))) <;> (try (conv=>whnf)) <;> (try first|change (_:Int)≤_|change (_:Nat)≤_) <;> (try ((fail_if_success (with_reducible apply Exists.intro));(try dsimp only);(try simp only [vS1]))) <;> grind [meet]
def crossC:Con:=mkCon [.wall,.wall] (fun _=>True) fun x=>vB (wallOk x.1 && (wallOk x.2.1 && crs x.2.1.1 x.2.1.2 x.1.1 x.1.2))
theorem sDoCross_ok:Good1 Tryz.prog n_spec_DoCross crossC:=by
 refine good_of (tys:=tyL) (env:=[(n_spec_WallOk,wallOkC),(n_spec_l03Cross,l03CrossC)]) [] [] mixed tys ⟨sWallOk_ok,l03Cross_ok,trivial⟩ Tryz.func105 rfl (by kernel_rfl) (by decide) (by kernel_rfl) ?_
 rintro ⟨⟨⟨a,b⟩,⟨c,d⟩⟩,⟨⟨e,f⟩,⟨g,h⟩⟩,⟨⟩⟩ _
 (repeat' (first|(with_reducible first|exact True.intro|refine zQ ?_|(refine zG hG_ ?_;intro K_ hK_)|(refine zR ?_;intro K_ hK_)|(refine hK_ _ _ ?_;try clear hK_ K_)|refine sq_n ?_|refine sq_r ?_|refine sq_e ?_|refine bq_n ?_|refine bq_r ?_|refine bq_q ?_|refine zB ?_|refine zX ?_|refine zT ?_|refine zK ?_|refine gq_n ?_|refine gq_r ?_|refine gq_e ?_|refine lq_n ?_|refine lq_r ?_|refine lq_e ?_|refine bq_e (by decide) ?_)|((with_reducible refine zC (b:=?b_) ?hb_ ?_ ?_);case hb_=>rfl)|((conv=>whnf);first|(with_reducible refine hK_ _ _ ?_;try clear hK_ K_)|(with_reducible refine fun (g_:Sl) (o_:Ow)=>?_)|(with_reducible first|exact True.intro|refine And.intro trivial ?_|refine And.intro ?_ ?_)|exact Nat.le_of_ble_eq_true rfl|exact Or.inl rfl|(intro h_;cases h_)|(intro h_;(try simp only [vS1] at h_))|rfl))) <;> (try (conv=>whnf)) <;> (try first|change (_:Int)≤_|change (_:Nat)≤_) <;> (try ((fail_if_success (with_reducible apply Exists.intro));(try dsimp only);(try simp only [vS1]))) <;> grind [crs_comm (a,b) (c,d) (e,f) (g,h)]
def isBtwC:Con:=mkCon [.pt,.pt,.pt] (fun _=>True) fun x=>vB (ptOk x.1 && (ptOk x.2.1 && (ptOk x.2.2.1 && onS x.1 x.2.1 x.2.2.1)))
theorem sIsBetween_ok:Good1 Tryz.prog n_spec_IsBetween isBtwC:=by
 refine good_of (tys:=tyL) (env:=[(n_spec_PointOk,ptOkC),(n_spec_l02Between,onC)]) [] [] mixed tys ⟨sPointOk_ok,l02Between_ok,trivial⟩ Tryz.func118 rfl (by kernel_rfl) (by decide) (by kernel_rfl) ?_
 rintro ⟨⟨a,b⟩,⟨c,d⟩,⟨e,f⟩,⟨⟩⟩ _
 (repeat' (first|(with_reducible first|exact True.intro|refine zQ ?_|(refine zG hG_ ?_;intro K_ hK_)|(refine zR ?_;intro K_ hK_)|(refine hK_ _ _ ?_;try clear hK_ K_)|refine sq_n ?_|refine sq_r ?_|refine sq_e ?_|refine bq_n ?_|refine bq_r ?_|refine bq_q ?_|refine zB ?_|refine zX ?_|refine zT ?_|refine zK ?_|refine gq_n ?_|refine gq_r ?_|refine gq_e ?_|refine lq_n ?_|refine lq_r ?_|refine lq_e ?_|refine bq_e (by decide) ?_)|((with_reducible refine zC (b:=?b_) ?hb_ ?_ ?_);case hb_=>rfl)|((conv=>whnf);first|(with_reducible refine hK_ _ _ ?_;try clear hK_ K_)|(with_reducible refine fun (g_:Sl) (o_:Ow)=>?_)|(with_reducible first|exact True.intro|refine And.intro trivial ?_|refine And.intro ?_ ?_)|exact Nat.le_of_ble_eq_true rfl|exact Or.inl rfl|(intro h_;cases h_)|(intro h_;(try simp only [vS1] at h_))|rfl))) <;> (try (conv=>whnf)) <;> (try first|change (_:Int)≤_|change (_:Nat)≤_) <;> (try ((fail_if_success (with_reducible apply Exists.intro));(try dsimp only);(try simp only [vS1]))) <;> grind
def isOnWallC:Con:=mkCon [.wall,.pt] (fun _=>True) fun x=>vB (wallOk x.1 && (ptOk x.2.1 && onS x.2.1 x.1.1 x.1.2))
theorem sIsOnWall_ok:Good1 Tryz.prog n_spec_IsOnWall isOnWallC:=by
 refine good_of (tys:=tyL) (env:=[(n_spec_WallOk,wallOkC),(n_spec_IsBetween,isBtwC)]) [] [] mixed tys ⟨sWallOk_ok,sIsBetween_ok,trivial⟩ Tryz.func106 rfl (by kernel_rfl) (by decide) (by kernel_rfl) ?_
 rintro ⟨⟨⟨a,b⟩,⟨c,d⟩⟩,⟨e,f⟩,⟨⟩⟩ _
 (repeat' (first|(with_reducible first|exact True.intro|refine zQ ?_|(refine zG hG_ ?_;intro K_ hK_)|(refine zR ?_;intro K_ hK_)|(refine hK_ _ _ ?_;try clear hK_ K_)|refine sq_n ?_|refine sq_r ?_|refine sq_e ?_|refine bq_n ?_|refine bq_r ?_|refine bq_q ?_|refine zB ?_|refine zX ?_|refine zT ?_|refine zK ?_|refine gq_n ?_|refine gq_r ?_|refine gq_e ?_|refine lq_n ?_|refine lq_r ?_|refine lq_e ?_|refine bq_e (by decide) ?_)|((with_reducible refine zC (b:=?b_) ?hb_ ?_ ?_);case hb_=>rfl)|((conv=>whnf);first|(with_reducible refine hK_ _ _ ?_;try clear hK_ K_)|(with_reducible refine fun (g_:Sl) (o_:Ow)=>?_)|(with_reducible first|exact True.intro|refine And.intro trivial ?_|refine And.intro ?_ ?_)|exact Nat.le_of_ble_eq_true rfl|exact Or.inl rfl|(intro h_;cases h_)|(intro h_;(try simp only [vS1] at h_))|rfl))) <;> (try (conv=>whnf)) <;> (try first|change (_:Int)≤_|change (_:Nat)≤_) <;> (try ((fail_if_success (with_reducible apply Exists.intro));(try dsimp only);(try simp only [vS1]))) <;> grind [wallOk]
theorem sDoMeet_ok:Good1 Tryz.prog n_spec_DoMeet meetC:=by
 refine good_of (tys:=tyL) (env:=[(n_spec_WallOk,wallOkC),(n_spec_DoCross,crossC),(n_spec_IsOnWall,isOnWallC)]) [] [] mixed tys ⟨sWallOk_ok,sDoCross_ok,sIsOnWall_ok,trivial⟩ Tryz.func81 rfl (by kernel_rfl) (by decide) (by kernel_rfl) ?_
 rintro ⟨⟨⟨a,b⟩,⟨c,d⟩⟩,⟨⟨e,f⟩,⟨g,h⟩⟩,⟨⟩⟩ _
 (repeat' (first|(with_reducible first|exact True.intro|refine zQ ?_|(refine zG hG_ ?_;intro K_ hK_)|(refine zR ?_;intro K_ hK_)|(refine hK_ _ _ ?_;try clear hK_ K_)|refine sq_n ?_|refine sq_r ?_|refine sq_e ?_|refine bq_n ?_|refine bq_r ?_|refine bq_q ?_|refine zB ?_|refine zX ?_|refine zT ?_|refine zK ?_|refine gq_n ?_|refine gq_r ?_|refine gq_e ?_|refine lq_n ?_|refine lq_r ?_|refine lq_e ?_|refine bq_e (by decide) ?_)|((with_reducible refine zC (b:=?b_) ?hb_ ?_ ?_);case hb_=>rfl)|((conv=>whnf);first|(with_reducible refine hK_ _ _ ?_;try clear hK_ K_)|(with_reducible refine fun (g_:Sl) (o_:Ow)=>?_)|(with_reducible first|exact True.intro|refine And.intro trivial ?_|refine And.intro ?_ ?_)|exact Nat.le_of_ble_eq_true rfl|exact Or.inl rfl|(intro h_;cases h_)|(intro h_;(try simp only [vS1] at h_))|rfl))) <;> (try (conv=>whnf)) <;> (try first|change (_:Int)≤_|change (_:Nat)≤_) <;> (try ((fail_if_success (with_reducible apply Exists.intro));(try dsimp only);(try simp only [vS1]))) <;> grind [meet_spec]
def wallsOfC:Con:=mkCon [.sl (.b .pt)] (fun x=>x.1.length≤1048576) fun x=>⟨.one (.own 0 0),some ⟨t_impl_Wall,none,.b .wall,walls x.1⟩⟩
theorem wallsOf_ok:Good1 Tryz.prog n_impl_wallsOf wallsOfC:=by
 refine good_of (tys:=tyL) (env:=[]) [6] [] mixed tys trivial Tryz.func63 rfl (by kernel_rfl) (by decide) (by kernel_rfl) ?_
 rintro ⟨xs,⟨⟩⟩ hlen
 change xs.length≤_ at hlen
 (repeat' (first|(with_reducible first|exact True.intro|refine zQ ?_|(refine zG hG_ ?_;intro K_ hK_)|(refine zR ?_;intro K_ hK_)|(refine hK_ _ _ ?_;try clear hK_ K_)|refine sq_n ?_|refine sq_r ?_|refine sq_e ?_|refine bq_n ?_|refine bq_r ?_|refine bq_q ?_|refine zB ?_|refine zX ?_|refine zT ?_|refine zK ?_|refine gq_n ?_|refine gq_r ?_|refine gq_e ?_|refine lq_n ?_|refine lq_r ?_|refine lq_e ?_|refine bq_e (by decide) ?_)|((with_reducible refine zC (b:=?b_) ?hb_ ?_ ?_);case hb_=>rfl)|((conv=>whnf);first|(with_reducible refine hK_ _ _ ?_;try clear hK_ K_)|(with_reducible refine fun (g_:Sl) (o_:Ow)=>?_)|(with_reducible first|exact True.intro|refine And.intro trivial ?_|refine And.intro ?_ ?_)|exact Nat.le_of_ble_eq_true rfl|exact Or.inl rfl|(intro h_;cases h_)|(intro h_;(try simp only [vS1] at h_))|rfl))) <;> (try (conv=>whnf)) <;> (try first|change (_:Int)≤_|change (_:Nat)≤_)
 refine awp'_loop (fun k σ=>k≤xs.length∧Has1 σ [(0,vPts xs),(7,vPts xs),(8,vInt xs.length),(9,vInt k)] 3 6 (.row t_impl_Wall (.b .wall) ((walls xs).take k))) (fun k=>xs.length - k) 0 ⟨Nat.zero_le _,⟨?_,?_,?_⟩⟩ ?_
 ·(repeat' (first|(with_reducible first|exact True.intro|refine zQ ?_|(refine zG hG_ ?_;intro K_ hK_)|(refine zR ?_;intro K_ hK_)|(refine hK_ _ _ ?_;try clear hK_ K_)|refine sq_n ?_|refine sq_r ?_|refine sq_e ?_|refine bq_n ?_|refine bq_r ?_|refine bq_q ?_|refine zB ?_|refine zX ?_|refine zT ?_|refine zK ?_|refine gq_n ?_|refine gq_r ?_|refine gq_e ?_|refine lq_n ?_|refine lq_r ?_|refine lq_e ?_|refine bq_e (by decide) ?_)|((with_reducible refine zC (b:=?b_) ?hb_ ?_ ?_);case hb_=>rfl)|((conv=>whnf);first|(with_reducible refine hK_ _ _ ?_;try clear hK_ K_)|(with_reducible refine fun (g_:Sl) (o_:Ow)=>?_)|(with_reducible first|exact True.intro|refine And.intro trivial ?_|refine And.intro ?_ ?_)|exact Nat.le_of_ble_eq_true rfl|exact Or.inl rfl|(intro h_;cases h_)|(intro h_;(try simp only [vS1] at h_))|rfl))) <;> (try (conv=>whnf)) <;> (try first|change (_:Int)≤_|change (_:Nat)≤_)
 ·rfl
 ·rfl
 rintro k s_ w_ ⟨hk,h⟩
 obtain ⟨g,o,v,rfl,rfl⟩:=has1_ex h
 clear h
 have hpos:(k:Int) < xs.length→0 < xs.length:=fun h=>by omega
 (repeat' (first|(with_reducible first|exact True.intro|refine zQ ?_|(refine zG hG_ ?_;intro K_ hK_)|(refine zR ?_;intro K_ hK_)|(refine hK_ _ _ ?_;try clear hK_ K_)|refine sq_n ?_|refine sq_r ?_|refine sq_e ?_|refine bq_n ?_|refine bq_r ?_|refine bq_q ?_|refine zB ?_|refine zX ?_|refine zT ?_|refine zK ?_|refine gq_n ?_|refine gq_r ?_|refine gq_e ?_|refine lq_n ?_|refine lq_r ?_|refine lq_e ?_|refine bq_e (by decide) ?_)|((with_reducible refine zC (b:=?b_) ?hb_ ?_ ?_);case hb_=>rfl)|((conv=>whnf);first|(with_reducible refine hK_ _ _ ?_;try clear hK_ K_)|(with_reducible refine fun (g_:Sl) (o_:Ow)=>?_)|(with_reducible first|exact True.intro|refine And.intro trivial ?_|refine And.intro ?_ ?_)|exact Nat.le_of_ble_eq_true rfl|exact Or.inl rfl|(intro h_;cases h_)|(intro h_;(try simp only [vS1] at h_))|rfl))) <;> (try (conv=>whnf)) <;> (try first|change (_:Int)≤_|change (_:Nat)≤_) <;> (try ((fail_if_success (with_reducible apply Exists.intro));(try dsimp only);(try simp only [vS1])))
 ·omega
 ·omega
 ·have:=hpos (by omega);omega
 ·rw [mod_nat1 (by omega)];omega
 ·have:=Nat.mod_lt (k + 1) (hpos (by omega));rw [mod_nat1 (by omega)];omega
 ·simp only [List.length_take,List.length_cons,List.length_nil];omega
 ·refine ⟨k + 1,by omega,by omega,⟨?_,rfl,?_⟩⟩
  ·rw [← W_nat (by omega)];(repeat' (first|(with_reducible first|exact True.intro|refine zQ ?_|(refine zG hG_ ?_;intro K_ hK_)|(refine zR ?_;intro K_ hK_)|(refine hK_ _ _ ?_;try clear hK_ K_)|refine sq_n ?_|refine sq_r ?_|refine sq_e ?_|refine bq_n ?_|refine bq_r ?_|refine bq_q ?_|refine zB ?_|refine zX ?_|refine zT ?_|refine zK ?_|refine gq_n ?_|refine gq_r ?_|refine gq_e ?_|refine lq_n ?_|refine lq_r ?_|refine lq_e ?_|refine bq_e (by decide) ?_)|((with_reducible refine zC (b:=?b_) ?hb_ ?_ ?_);case hb_=>rfl)|((conv=>whnf);first|(with_reducible refine hK_ _ _ ?_;try clear hK_ K_)|(with_reducible refine fun (g_:Sl) (o_:Ow)=>?_)|(with_reducible first|exact True.intro|refine And.intro trivial ?_|refine And.intro ?_ ?_)|exact Nat.le_of_ble_eq_true rfl|exact Or.inl rfl|(intro h_;cases h_)|(intro h_;(try simp only [vS1] at h_))|rfl))) <;> (try (conv=>whnf)) <;> (try first|change (_:Int)≤_|change (_:Nat)≤_)
  ·rw [walls_take (by omega)]
   show Own.row _ _ (_ ++ [(_,_)])=_
   rw [mod_nat1 (by omega)];rfl
 ·rw [List.take_of_length_le (by rw [walls_len];omega)];rfl
def areaC:Con:=mkCon [.sl (.b .pt)] (fun x=>x.1.length≤1048576) fun x=>vI (IntKind.i64.wrap (dbl x.1))
theorem area_ok:Good1 Tryz.prog n_impl_area areaC:=by
 refine good_of (tys:=tyL) (env:=[(n_impl_wallsOf,wallsOfC)]) [] [] mixed tys ⟨wallsOf_ok,trivial⟩ Tryz.func35 rfl (by kernel_rfl) (by decide) (by kernel_rfl) ?_
 rintro ⟨xs,⟨⟩⟩ hlen
 change xs.length≤_ at hlen
 have hl:=walls_len xs
 (repeat' (first|(with_reducible first|exact True.intro|refine zQ ?_|(refine zG hG_ ?_;intro K_ hK_)|(refine zR ?_;intro K_ hK_)|(refine hK_ _ _ ?_;try clear hK_ K_)|refine sq_n ?_|refine sq_r ?_|refine sq_e ?_|refine bq_n ?_|refine bq_r ?_|refine bq_q ?_|refine zB ?_|refine zX ?_|refine zT ?_|refine zK ?_|refine gq_n ?_|refine gq_r ?_|refine gq_e ?_|refine lq_n ?_|refine lq_r ?_|refine lq_e ?_|refine bq_e (by decide) ?_)|((with_reducible refine zC (b:=?b_) ?hb_ ?_ ?_);case hb_=>rfl)|((conv=>whnf);first|(with_reducible refine hK_ _ _ ?_;try clear hK_ K_)|(with_reducible refine fun (g_:Sl) (o_:Ow)=>?_)|(with_reducible first|exact True.intro|refine And.intro trivial ?_|refine And.intro ?_ ?_)|exact Nat.le_of_ble_eq_true rfl|exact Or.inl rfl|(intro h_;cases h_)|(intro h_;(try simp only [vS1] at h_))|rfl))) <;> (try (conv=>whnf)) <;> (try first|change (_:Int)≤_|change (_:Nat)≤_)
 ·assumption
 refine awp'_loop (fun k σ=>k≤xs.length∧Has σ [(7,.one (.d (.sl none (.b .wall) (walls xs)))),(8,vInt (walls xs).length),(9,vInt k),(3,vInt (IntKind.i64.wrap (dblTo xs k)))]) (fun k=>xs.length - k) 0 ⟨Nat.zero_le _,?_⟩ ?_
 ·(repeat' (first|(with_reducible first|exact True.intro|refine zQ ?_|(refine zG hG_ ?_;intro K_ hK_)|(refine zR ?_;intro K_ hK_)|(refine hK_ _ _ ?_;try clear hK_ K_)|refine sq_n ?_|refine sq_r ?_|refine sq_e ?_|refine bq_n ?_|refine bq_r ?_|refine bq_q ?_|refine zB ?_|refine zX ?_|refine zT ?_|refine zK ?_|refine gq_n ?_|refine gq_r ?_|refine gq_e ?_|refine lq_n ?_|refine lq_r ?_|refine lq_e ?_|refine bq_e (by decide) ?_)|((with_reducible refine zC (b:=?b_) ?hb_ ?_ ?_);case hb_=>rfl)|((conv=>whnf);first|(with_reducible refine hK_ _ _ ?_;try clear hK_ K_)|(with_reducible refine fun (g_:Sl) (o_:Ow)=>?_)|(with_reducible first|exact True.intro|refine And.intro trivial ?_|refine And.intro ?_ ?_)|exact Nat.le_of_ble_eq_true rfl|exact Or.inl rfl|(intro h_;cases h_)|(intro h_;(try simp only [vS1] at h_))|rfl))) <;> (try (conv=>whnf)) <;> (try first|change (_:Int)≤_|change (_:Nat)≤_)
 rintro k s_ w_ ⟨hk,h⟩
 obtain ⟨g,rfl⟩:=has_ex h
 clear h
 (repeat' (first|(with_reducible first|exact True.intro|refine zQ ?_|(refine zG hG_ ?_;intro K_ hK_)|(refine zR ?_;intro K_ hK_)|(refine hK_ _ _ ?_;try clear hK_ K_)|refine sq_n ?_|refine sq_r ?_|refine sq_e ?_|refine bq_n ?_|refine bq_r ?_|refine bq_q ?_|refine zB ?_|refine zX ?_|refine zT ?_|refine zK ?_|refine gq_n ?_|refine gq_r ?_|refine gq_e ?_|refine lq_n ?_|refine lq_r ?_|refine lq_e ?_|refine bq_e (by decide) ?_)|((with_reducible refine zC (b:=?b_) ?hb_ ?_ ?_);case hb_=>rfl)|((conv=>whnf);first|(with_reducible refine hK_ _ _ ?_;try clear hK_ K_)|(with_reducible refine fun (g_:Sl) (o_:Ow)=>?_)|(with_reducible first|exact True.intro|refine And.intro trivial ?_|refine And.intro ?_ ?_)|exact Nat.le_of_ble_eq_true rfl|exact Or.inl rfl|(intro h_;cases h_)|(intro h_;(try simp only [vS1] at h_))|rfl))) <;> (try (conv=>whnf)) <;> (try first|change (_:Int)≤_|change (_:Nat)≤_) <;> (try ((fail_if_success (with_reducible apply Exists.intro));(try dsimp only);(try simp only [vS1])))
 ·omega
 ·omega
 ·refine ⟨k + 1,by omega,by omega,?_⟩
  rw [← W_nat (by omega)];(repeat' (first|(with_reducible first|exact True.intro|refine zQ ?_|(refine zG hG_ ?_;intro K_ hK_)|(refine zR ?_;intro K_ hK_)|(refine hK_ _ _ ?_;try clear hK_ K_)|refine sq_n ?_|refine sq_r ?_|refine sq_e ?_|refine bq_n ?_|refine bq_r ?_|refine bq_q ?_|refine zB ?_|refine zX ?_|refine zT ?_|refine zK ?_|refine gq_n ?_|refine gq_r ?_|refine gq_e ?_|refine lq_n ?_|refine lq_r ?_|refine lq_e ?_|refine bq_e (by decide) ?_)|((with_reducible refine zC (b:=?b_) ?hb_ ?_ ?_);case hb_=>rfl)|((conv=>whnf);first|(with_reducible refine hK_ _ _ ?_;try clear hK_ K_)|(with_reducible refine fun (g_:Sl) (o_:Ow)=>?_)|(with_reducible first|exact True.intro|refine And.intro trivial ?_|refine And.intro ?_ ?_)|exact Nat.le_of_ble_eq_true rfl|exact Or.inl rfl|(intro h_;cases h_)|(intro h_;(try simp only [vS1] at h_))|rfl))) <;> (try (conv=>whnf)) <;> (try first|change (_:Int)≤_|change (_:Nat)≤_)
  rw [walls_get (by omega)]
  exact congrArg vInt (W_cr _ _ _ _ _)
 ·rw [show k=xs.length by omega];rfl
theorem l04Double_ok:Good1 Tryz.prog n_spec_l04Double areaC:=by
 refine good_of (tys:=tyL) (env:=[]) [] [] mixed tys trivial Tryz.func82 rfl (by kernel_rfl) (by decide) (by kernel_rfl) ?_
 rintro ⟨xs,⟨⟩⟩ hlen
 change xs.length≤_ at hlen
 (repeat' (first|(with_reducible first|exact True.intro|refine zQ ?_|(refine zG hG_ ?_;intro K_ hK_)|(refine zR ?_;intro K_ hK_)|(refine hK_ _ _ ?_;try clear hK_ K_)|refine sq_n ?_|refine sq_r ?_|refine sq_e ?_|refine bq_n ?_|refine bq_r ?_|refine bq_q ?_|refine zB ?_|refine zX ?_|refine zT ?_|refine zK ?_|refine gq_n ?_|refine gq_r ?_|refine gq_e ?_|refine lq_n ?_|refine lq_r ?_|refine lq_e ?_|refine bq_e (by decide) ?_)|((with_reducible refine zC (b:=?b_) ?hb_ ?_ ?_);case hb_=>rfl)|((conv=>whnf);first|(with_reducible refine hK_ _ _ ?_;try clear hK_ K_)|(with_reducible refine fun (g_:Sl) (o_:Ow)=>?_)|(with_reducible first|exact True.intro|refine And.intro trivial ?_|refine And.intro ?_ ?_)|exact Nat.le_of_ble_eq_true rfl|exact Or.inl rfl|(intro h_;cases h_)|(intro h_;(try simp only [vS1] at h_))|rfl))) <;> (try (conv=>whnf)) <;> (try first|change (_:Int)≤_|change (_:Nat)≤_)
 refine awp'_loop (fun k σ=>k≤xs.length∧Has σ [(0,vPts xs),(4,vInt k),(3,vInt (IntKind.i64.wrap (dblTo xs k)))]) (fun k=>xs.length - k) 0 ⟨Nat.zero_le _,?_⟩ ?_
 ·(repeat' (first|(with_reducible first|exact True.intro|refine zQ ?_|(refine zG hG_ ?_;intro K_ hK_)|(refine zR ?_;intro K_ hK_)|(refine hK_ _ _ ?_;try clear hK_ K_)|refine sq_n ?_|refine sq_r ?_|refine sq_e ?_|refine bq_n ?_|refine bq_r ?_|refine bq_q ?_|refine zB ?_|refine zX ?_|refine zT ?_|refine zK ?_|refine gq_n ?_|refine gq_r ?_|refine gq_e ?_|refine lq_n ?_|refine lq_r ?_|refine lq_e ?_|refine bq_e (by decide) ?_)|((with_reducible refine zC (b:=?b_) ?hb_ ?_ ?_);case hb_=>rfl)|((conv=>whnf);first|(with_reducible refine hK_ _ _ ?_;try clear hK_ K_)|(with_reducible refine fun (g_:Sl) (o_:Ow)=>?_)|(with_reducible first|exact True.intro|refine And.intro trivial ?_|refine And.intro ?_ ?_)|exact Nat.le_of_ble_eq_true rfl|exact Or.inl rfl|(intro h_;cases h_)|(intro h_;(try simp only [vS1] at h_))|rfl))) <;> (try (conv=>whnf)) <;> (try first|change (_:Int)≤_|change (_:Nat)≤_)
 rintro k s_ w_ ⟨hk,h⟩
 obtain ⟨g,rfl⟩:=has_ex h
 clear h
 (repeat' (first|(with_reducible first|exact True.intro|refine zQ ?_|(refine zG hG_ ?_;intro K_ hK_)|(refine zR ?_;intro K_ hK_)|(refine hK_ _ _ ?_;try clear hK_ K_)|refine sq_n ?_|refine sq_r ?_|refine sq_e ?_|refine bq_n ?_|refine bq_r ?_|refine bq_q ?_|refine zB ?_|refine zX ?_|refine zT ?_|refine zK ?_|refine gq_n ?_|refine gq_r ?_|refine gq_e ?_|refine lq_n ?_|refine lq_r ?_|refine lq_e ?_|refine bq_e (by decide) ?_)|((with_reducible refine zC (b:=?b_) ?hb_ ?_ ?_);case hb_=>rfl)|((conv=>whnf);first|(with_reducible refine hK_ _ _ ?_;try clear hK_ K_)|(with_reducible refine fun (g_:Sl) (o_:Ow)=>?_)|(with_reducible first|exact True.intro|refine And.intro trivial ?_|refine And.intro ?_ ?_)|exact Nat.le_of_ble_eq_true rfl|exact Or.inl rfl|(intro h_;cases h_)|(intro h_;(try simp only [vS1] at h_))|rfl))) <;> (try (conv=>whnf)) <;> (try first|change (_:Int)≤_|change (_:Nat)≤_) <;> (try ((fail_if_success (with_reducible apply Exists.intro));(try dsimp only);(try simp only [vS1])))
 all_goals (try (fail_if_success (with_reducible apply Exists.intro));first|with_reducible assumption|omega|exact mdl (by omega)|exact ilo1 (by omega)|exact ilo2 (by omega)|exact ihi1 (by omega) (by omega)|exact ihi2 (by omega) (by omega))
 ·refine ⟨k + 1,by omega,by omega,?_⟩
  rw [← W_nat (by omega)];(repeat' (first|(with_reducible first|exact True.intro|refine zQ ?_|(refine zG hG_ ?_;intro K_ hK_)|(refine zR ?_;intro K_ hK_)|(refine hK_ _ _ ?_;try clear hK_ K_)|refine sq_n ?_|refine sq_r ?_|refine sq_e ?_|refine bq_n ?_|refine bq_r ?_|refine bq_q ?_|refine zB ?_|refine zX ?_|refine zT ?_|refine zK ?_|refine gq_n ?_|refine gq_r ?_|refine gq_e ?_|refine lq_n ?_|refine lq_r ?_|refine lq_e ?_|refine bq_e (by decide) ?_)|((with_reducible refine zC (b:=?b_) ?hb_ ?_ ?_);case hb_=>rfl)|((conv=>whnf);first|(with_reducible refine hK_ _ _ ?_;try clear hK_ K_)|(with_reducible refine fun (g_:Sl) (o_:Ow)=>?_)|(with_reducible first|exact True.intro|refine And.intro trivial ?_|refine And.intro ?_ ?_)|exact Nat.le_of_ble_eq_true rfl|exact Or.inl rfl|(intro h_;cases h_)|(intro h_;(try simp only [vS1] at h_))|rfl))) <;> (try (conv=>whnf)) <;> (try first|change (_:Int)≤_|change (_:Nat)≤_)
  rw [mod_nat1 (by omega)]
  exact congrArg vInt (W_cr' _ _ _ _ _)
 ·rw [show k=xs.length by omega];rfl
def roomOkC:Con:=mkCon [.room] (fun x=>x.1.length≤1048576) fun x=>vB (roomOk x.1)
theorem iRoomOk_ok:Good1 Tryz.prog n_impl_RoomOk roomOkC:=by
 refine good_of (tys:=tyL) (env:=[(n_impl_between,btwC),(n_impl_pointsOk,pointsOkC),(n_impl_wallsOf,wallsOfC),(n_impl_turn,turnC),(n_impl_DoMeet,meetC),(n_impl_area,areaC)]) [] [] mixed tys ⟨between_ok,pointsOk_ok,wallsOf_ok,turn_ok,iDoMeet_ok,area_ok,trivial⟩ Tryz.func32 rfl (by kernel_rfl) (by decide) (by kernel_rfl) ?_
 rintro ⟨xs,⟨⟩⟩ hlen
 change xs.length≤_ at hlen
 have hl:=walls_len xs
 (repeat' (first|(with_reducible first|exact True.intro|refine zQ ?_|(refine zG hG_ ?_;intro K_ hK_)|(refine zR ?_;intro K_ hK_)|(refine hK_ _ _ ?_;try clear hK_ K_)|refine sq_n ?_|refine sq_r ?_|refine sq_e ?_|refine bq_n ?_|refine bq_r ?_|refine bq_q ?_|refine zB ?_|refine zX ?_|refine zT ?_|refine zK ?_|refine gq_n ?_|refine gq_r ?_|refine gq_e ?_|refine lq_n ?_|refine lq_r ?_|refine lq_e ?_|refine bq_e (by decide) ?_)|((with_reducible refine zC (b:=?b_) ?hb_ ?_ ?_);case hb_=>rfl)|((conv=>whnf);first|(with_reducible refine hK_ _ _ ?_;try clear hK_ K_)|(with_reducible refine fun (g_:Sl) (o_:Ow)=>?_)|(with_reducible first|exact True.intro|refine And.intro trivial ?_|refine And.intro ?_ ?_)|exact Nat.le_of_ble_eq_true rfl|exact Or.inl rfl|(intro h_;cases h_)|(intro h_;(try simp only [vS1] at h_))|rfl))) <;> (try (conv=>whnf)) <;> (try first|change (_:Int)≤_|change (_:Nat)≤_) <;> (try ((fail_if_success (with_reducible apply Exists.intro));(try dsimp only);(try simp only [vS1])))
 all_goals (try (fail_if_success (with_reducible apply Exists.intro));first|with_reducible assumption|omega|exact mdl (by omega)|exact ilo1 (by omega)|exact ilo2 (by omega)|exact ihi1 (by omega) (by omega)|exact ihi2 (by omega) (by omega))
 ·symm;rw [← Bool.not_eq_true,roomOk_iff];simp [btw] at *;omega
 ·symm;rw [← Bool.not_eq_true,roomOk_iff];simp [*]
 refine awp'_loop (fun k σ=>k≤xs.length∧(∀ i,i < k→turn (pAt xs i) (pCy xs (i + 1)) (pCy xs (i + 2))≠0 ∧
  ∀ k,i + 2≤k→k < xs.length→(k + 1) % xs.length≠i→meet (wl xs i) (wl xs k)=false)∧HasX σ [(1,vRoom xs),(3,vInt xs.length),(4,vWalls (walls xs)),(23,vWalls (walls xs)),(24,vInt (walls xs).length),(25,vInt k)] []) (fun k=>xs.length - k) 0 ⟨Nat.zero_le _,fun i hi=>absurd hi (by omega),?_⟩ ?_
 ·(repeat' (first|(with_reducible first|exact True.intro|refine zQ ?_|(refine zG hG_ ?_;intro K_ hK_)|(refine zR ?_;intro K_ hK_)|(refine hK_ _ _ ?_;try clear hK_ K_)|refine sq_n ?_|refine sq_r ?_|refine sq_e ?_|refine bq_n ?_|refine bq_r ?_|refine bq_q ?_|refine zB ?_|refine zX ?_|refine zT ?_|refine zK ?_|refine gq_n ?_|refine gq_r ?_|refine gq_e ?_|refine lq_n ?_|refine lq_r ?_|refine lq_e ?_|refine bq_e (by decide) ?_)|((with_reducible refine zC (b:=?b_) ?hb_ ?_ ?_);case hb_=>rfl)|((conv=>whnf);first|(with_reducible refine hK_ _ _ ?_;try clear hK_ K_)|(with_reducible refine fun (g_:Sl) (o_:Ow)=>?_)|(with_reducible first|exact True.intro|refine And.intro trivial ?_|refine And.intro ?_ ?_)|exact Nat.le_of_ble_eq_true rfl|exact Or.inl rfl|(intro h_;cases h_)|(intro h_;(try simp only [vS1] at h_))|rfl))) <;> (try (conv=>whnf)) <;> (try first|change (_:Int)≤_|change (_:Nat)≤_)
 rintro i s_ w_ ⟨hi,hall,h⟩
 obtain ⟨g,o,v,rfl,rfl⟩:=hasX_ex h
 clear h
 (repeat' (first|(with_reducible first|exact True.intro|refine zQ ?_|(refine zG hG_ ?_;intro K_ hK_)|(refine zR ?_;intro K_ hK_)|(refine hK_ _ _ ?_;try clear hK_ K_)|refine sq_n ?_|refine sq_r ?_|refine sq_e ?_|refine bq_n ?_|refine bq_r ?_|refine bq_q ?_|refine zB ?_|refine zX ?_|refine zT ?_|refine zK ?_|refine gq_n ?_|refine gq_r ?_|refine gq_e ?_|refine lq_n ?_|refine lq_r ?_|refine lq_e ?_|refine bq_e (by decide) ?_)|((with_reducible refine zC (b:=?b_) ?hb_ ?_ ?_);case hb_=>rfl)|((conv=>whnf);first|(with_reducible refine hK_ _ _ ?_;try clear hK_ K_)|(with_reducible refine fun (g_:Sl) (o_:Ow)=>?_)|(with_reducible first|exact True.intro|refine And.intro trivial ?_|refine And.intro ?_ ?_)|exact Nat.le_of_ble_eq_true rfl|exact Or.inl rfl|(intro h_;cases h_)|(intro h_;(try simp only [vS1] at h_))|rfl))) <;> (try (conv=>whnf)) <;> (try first|change (_:Int)≤_|change (_:Nat)≤_) <;> (try ((fail_if_success (with_reducible apply Exists.intro));(try dsimp only);(try simp only [vS1])))
 all_goals (try (fail_if_success (with_reducible apply Exists.intro));first|with_reducible assumption|omega|exact mdl (by omega)|exact ilo1 (by omega)|exact ilo2 (by omega)|exact ihi1 (by omega) (by omega)|exact ihi2 (by omega) (by omega))
 ·symm;rw [← Bool.not_eq_true,roomOk_iff,okAt_half]
  rintro ⟨-,-,h,-⟩
  have h1:=(h i (by omega)).1
  rw [walls_get (by omega)] at *
  simp only [mod_nat2 (show i + 2≤4611686018427387904 by omega),Int.toNat_natCast] at *
  simp_all [wl]
 ·have hin:(i:Int) < (walls xs).length:=by omega
  have ht:turn (pAt xs i) (pCy xs (i + 1)) (pCy xs (i + 2))≠0:=by
   have:=h_
   rw [walls_get (by omega),mod_nat2 (by omega),Int.toNat_natCast] at this
   exact fun e=>by simp_all [wl]
  refine awp'_loop (fun k σ=>i + 2≤k∧(∀ j,i + 2≤j→j < k→j < xs.length→(j + 1) % xs.length≠i→meet (wl xs i) (wl xs j)=false)∧HasX σ [(1,vRoom xs),(3,vInt xs.length),(4,vWalls (walls xs)),(23,vWalls (walls xs)),(24,vInt (walls xs).length),(25,vInt i),(5,vInt i),(7,vInt k)]
   [(6,6,true,.box t_impl_Wall (cWall ((walls xs).getD i ((0,0),(0,0)))))]) (fun k=>xs.length - k) (i + 2) ⟨Nat.le_refl _,fun j h1 h2=>absurd h1 (by omega),?_⟩ ?_
  ·(repeat' (first|(with_reducible first|exact True.intro|refine zQ ?_|(refine zG hG_ ?_;intro K_ hK_)|(refine zR ?_;intro K_ hK_)|(refine hK_ _ _ ?_;try clear hK_ K_)|refine sq_n ?_|refine sq_r ?_|refine sq_e ?_|refine bq_n ?_|refine bq_r ?_|refine bq_q ?_|refine zB ?_|refine zX ?_|refine zT ?_|refine zK ?_|refine gq_n ?_|refine gq_r ?_|refine gq_e ?_|refine lq_n ?_|refine lq_r ?_|refine lq_e ?_|refine bq_e (by decide) ?_)|((with_reducible refine zC (b:=?b_) ?hb_ ?_ ?_);case hb_=>rfl)|((conv=>whnf);first|(with_reducible refine hK_ _ _ ?_;try clear hK_ K_)|(with_reducible refine fun (g_:Sl) (o_:Ow)=>?_)|(with_reducible first|exact True.intro|refine And.intro trivial ?_|refine And.intro ?_ ?_)|exact Nat.le_of_ble_eq_true rfl|exact Or.inl rfl|(intro h_;cases h_)|(intro h_;(try simp only [vS1] at h_))|rfl))) <;> (try (conv=>whnf)) <;> (try first|change (_:Int)≤_|change (_:Nat)≤_)
   exact congrArg vInt (by rw [W_in (by omega) (by omega)];rfl)
  rintro k s_ w_ ⟨hk,hin2,h⟩
  obtain ⟨g,o,v,rfl,rfl⟩:=hasX_ex h
  clear h
  have hk2:(k:Int) < xs.length→IntKind.i64.wrap ((k:Int) + 1)=((k + 1:Nat):Int):=fun _=>W_nat (by omega)
  have hk3:(k:Int) < xs.length→(IntKind.i64.wrap ((k:Int) + 1)).tmod xs.length=(((k + 1) % xs.length:Nat):Int):=fun _=>mod_nat1 (by omega)
  (repeat' (first|(with_reducible first|exact True.intro|refine zQ ?_|(refine zG hG_ ?_;intro K_ hK_)|(refine zR ?_;intro K_ hK_)|(refine hK_ _ _ ?_;try clear hK_ K_)|refine sq_n ?_|refine sq_r ?_|refine sq_e ?_|refine bq_n ?_|refine bq_r ?_|refine bq_q ?_|refine zB ?_|refine zX ?_|refine zT ?_|refine zK ?_|refine gq_n ?_|refine gq_r ?_|refine gq_e ?_|refine lq_n ?_|refine lq_r ?_|refine lq_e ?_|refine bq_e (by decide) ?_)|((with_reducible refine zC (b:=?b_) ?hb_ ?_ ?_);case hb_=>rfl)|((conv=>whnf);first|(with_reducible refine hK_ _ _ ?_;try clear hK_ K_)|(with_reducible refine fun (g_:Sl) (o_:Ow)=>?_)|(with_reducible first|exact True.intro|refine And.intro trivial ?_|refine And.intro ?_ ?_)|exact Nat.le_of_ble_eq_true rfl|exact Or.inl rfl|(intro h_;cases h_)|(intro h_;(try simp only [vS1] at h_))|rfl))) <;> (try (conv=>whnf)) <;> (try first|change (_:Int)≤_|change (_:Nat)≤_) <;> (try ((fail_if_success (with_reducible apply Exists.intro));(try dsimp only);(try simp only [vS1])))
  all_goals (try (fail_if_success (with_reducible apply Exists.intro));first|with_reducible assumption|omega|exact mdl (by omega)|exact ilo1 (by omega)|exact ilo2 (by omega)|exact ihi1 (by omega) (by omega)|exact ihi2 (by omega) (by omega))
  ·rename_i hlt hne
   have hm:=h_
   symm;rw [← Bool.not_eq_true,roomOk_iff,okAt_half]
   rintro ⟨-,-,h,-⟩
   rw [hk3 hlt] at hne
   rw [walls_get (by omega),walls_get (by omega)] at hm
   rw [(h i (by omega)).2 k hk (by omega) (fun e=>by simp [e] at hne)] at hm
   cases hm
  ·rename_i hlt hne
   have hm:=h_
   rw [walls_get (by omega),walls_get (by omega)] at hm
   refine ⟨k + 1,by omega,by omega,fun j h1 h2 h3 h4=>?_,?_⟩
   ·rcases Nat.lt_or_ge j k with h5|h5
    ·exact hin2 j h1 h5 h3 h4
    ·rw [show j=k by omega];exact hm
   ·rw [← hk2 hlt];(repeat' (first|(with_reducible first|exact True.intro|refine zQ ?_|(refine zG hG_ ?_;intro K_ hK_)|(refine zR ?_;intro K_ hK_)|(refine hK_ _ _ ?_;try clear hK_ K_)|refine sq_n ?_|refine sq_r ?_|refine sq_e ?_|refine bq_n ?_|refine bq_r ?_|refine bq_q ?_|refine zB ?_|refine zX ?_|refine zT ?_|refine zK ?_|refine gq_n ?_|refine gq_r ?_|refine gq_e ?_|refine lq_n ?_|refine lq_r ?_|refine lq_e ?_|refine bq_e (by decide) ?_)|((with_reducible refine zC (b:=?b_) ?hb_ ?_ ?_);case hb_=>rfl)|((conv=>whnf);first|(with_reducible refine hK_ _ _ ?_;try clear hK_ K_)|(with_reducible refine fun (g_:Sl) (o_:Ow)=>?_)|(with_reducible first|exact True.intro|refine And.intro trivial ?_|refine And.intro ?_ ?_)|exact Nat.le_of_ble_eq_true rfl|exact Or.inl rfl|(intro h_;cases h_)|(intro h_;(try simp only [vS1] at h_))|rfl))) <;> (try (conv=>whnf)) <;> (try first|change (_:Int)≤_|change (_:Nat)≤_)
  ·rename_i hlt
   have hne:=h_
   rw [hk3 hlt] at hne
   refine ⟨k + 1,by omega,by omega,fun j h1 h2 h3 h4=>?_,?_⟩
   ·rcases Nat.lt_or_ge j k with h5|h5
    ·exact hin2 j h1 h5 h3 h4
    ·exact absurd (by rw [show j=k by omega];exact Int.ofNat_inj.1 (bne_eq_false_iff_eq.1 hne)) h4
   ·rw [← hk2 hlt];(repeat' (first|(with_reducible first|exact True.intro|refine zQ ?_|(refine zG hG_ ?_;intro K_ hK_)|(refine zR ?_;intro K_ hK_)|(refine hK_ _ _ ?_;try clear hK_ K_)|refine sq_n ?_|refine sq_r ?_|refine sq_e ?_|refine bq_n ?_|refine bq_r ?_|refine bq_q ?_|refine zB ?_|refine zX ?_|refine zT ?_|refine zK ?_|refine gq_n ?_|refine gq_r ?_|refine gq_e ?_|refine lq_n ?_|refine lq_r ?_|refine lq_e ?_|refine bq_e (by decide) ?_)|((with_reducible refine zC (b:=?b_) ?hb_ ?_ ?_);case hb_=>rfl)|((conv=>whnf);first|(with_reducible refine hK_ _ _ ?_;try clear hK_ K_)|(with_reducible refine fun (g_:Sl) (o_:Ow)=>?_)|(with_reducible first|exact True.intro|refine And.intro trivial ?_|refine And.intro ?_ ?_)|exact Nat.le_of_ble_eq_true rfl|exact Or.inl rfl|(intro h_;cases h_)|(intro h_;(try simp only [vS1] at h_))|rfl))) <;> (try (conv=>whnf)) <;> (try first|change (_:Int)≤_|change (_:Nat)≤_)
  ·have hge:=h_
   refine ⟨i + 1,by omega,by omega,fun j hj=>?_,?_⟩
   ·rcases Nat.lt_or_ge j i with h5|h5
    ·exact hall j h5
    ·rw [show j=i by omega]
     refine ⟨?_,fun m h1 h2 h3=>hin2 m h1 (by omega) h2 h3⟩
     exact ht
   ·rw [← W_nat (by omega)];(repeat' (first|(with_reducible first|exact True.intro|refine zQ ?_|(refine zG hG_ ?_;intro K_ hK_)|(refine zR ?_;intro K_ hK_)|(refine hK_ _ _ ?_;try clear hK_ K_)|refine sq_n ?_|refine sq_r ?_|refine sq_e ?_|refine bq_n ?_|refine bq_r ?_|refine bq_q ?_|refine zB ?_|refine zX ?_|refine zT ?_|refine zK ?_|refine gq_n ?_|refine gq_r ?_|refine gq_e ?_|refine lq_n ?_|refine lq_r ?_|refine lq_e ?_|refine bq_e (by decide) ?_)|((with_reducible refine zC (b:=?b_) ?hb_ ?_ ?_);case hb_=>rfl)|((conv=>whnf);first|(with_reducible refine hK_ _ _ ?_;try clear hK_ K_)|(with_reducible refine fun (g_:Sl) (o_:Ow)=>?_)|(with_reducible first|exact True.intro|refine And.intro trivial ?_|refine And.intro ?_ ?_)|exact Nat.le_of_ble_eq_true rfl|exact Or.inl rfl|(intro h_;cases h_)|(intro h_;(try simp only [vS1] at h_))|rfl))) <;> (try (conv=>whnf)) <;> (try first|change (_:Int)≤_|change (_:Nat)≤_)
 ·have hin:i=xs.length:=by omega
  subst hin
  have hb:=btw_iff.1 ‹btw _ _ _=true›
  have hb2:3≤xs.length∧xs.length≤10:=by omega
  rw [Bool.eq_iff_iff,roomOk_iff,okAt_half]
  simp_all [btw]
theorem _root_.Go.Proofs.YtpafacebfogkmaaGreat.vS2:type_of% (And.intro @List.length_append.{0} (And.intro @List.length_take.{0} (And.intro @List.length_replicate.{0} (And.intro @List.length_set.{0} (And.intro @List.length_map.{0,0} (And.intro @List.length_cons.{0} (And.intro @List.length_nil.{0} (And.intro @prodEta (And.intro @Int.toNat_natCast (And.intro @beq_iff_eq.{0} (And.intro @beq_eq_false_iff_ne.{0} (And.intro @bne_iff_ne.{0} (And.intro @bne_eq_false_iff_eq.{0} (And.intro @ne_eq.{1} (And.intro @Int.natCast_inj (And.intro @Int.ofNat_lt @Int.ofNat_le)))))))))))))))):=⟨List.length_append,List.length_take,List.length_replicate,List.length_set,List.length_map,List.length_cons,List.length_nil,prodEta,Int.toNat_natCast,beq_iff_eq,beq_eq_false_iff_ne,bne_iff_ne,bne_eq_false_iff_eq,ne_eq,Int.natCast_inj,Int.ofNat_lt,Int.ofNat_le⟩
theorem _root_.Go.Proofs.YtpafacebfogkmaaGreat.vS3:type_of% (And.intro @ptEq2 (And.intro @cond_true.{1} (And.intro @cond_false.{1} (And.intro @decide_eq_true_eq (And.intro @decide_eq_false_iff_not (And.intro @List.length_drop.{0} (And.intro @List.take_length.{0} (And.intro @Int.toNat_zero (And.intro @List.drop_zero.{0} (And.intro @Nat.zero_add (And.intro @List.nil_append.{0} (And.intro @mod_nat1 (And.intro @mod_nat2 (And.intro @tm1 (And.intro @tm2 (And.intro @tmj @W_in)))))))))))))))):=⟨ptEq2,cond_true,cond_false,decide_eq_true_eq,decide_eq_false_iff_not,List.length_drop,List.take_length,Int.toNat_zero,List.drop_zero,Nat.zero_add,List.nil_append,mod_nat1,mod_nat2,tm1,tm2,tmj,W_in⟩
set_option maxHeartbeats 4000000 in
theorem sRoomOk_ok:Good1 Tryz.prog n_spec_RoomOk roomOkC:=by
 refine good_ofG (tys:=tyL) (env:=[(n_spec_l01In,btwC),(n_spec_PointOk,ptOkC),(n_spec_l02Turn,turnC),(n_spec_DoMeet,meetC),(n_spec_l04Double,areaC)]) (envw:=[]) (envd:=[]) [] [37,38,43,44] [] [] [] mixed tys ⟨l01In_ok,sPointOk_ok,l02Turn_ok,sDoMeet_ok,l04Double_ok,trivial⟩ trivial trivial Tryz.func56 rfl (by kernel_rfl) (by decide) (by kernel_rfl) ?_
 have hG_:=kpz [(0,[1]),(1,[1,3]),(2,[1,3,14]),(3,[2]),(4,[1,3,4]),(5,[1,3,4,17]),(6,[1,3,4]),(7,[1,3,4,26]),(8,[2]),(9,[1,3,5]),(10,[1,3,5,29]),(11,[1,3,5]),(12,[1,3,5,6]),(13,[1,3,5,6,7]),(14,[1,3,5,6,7,56]),(15,[2]),(16,[1,3,5,6,7,8]),(17,[1,3,5,6,7,8,59]),(18,[1,3,5,6,7,8]),(19,[1,3,5,6,7,8,80]),(20,[1,3,5,6,7,8,98]),(21,[2]),(22,[2])] [(12,[6]),(13,[6,7]),(14,[6,7]),(16,[6,7]),(17,[6,7]),(18,[6,7]),(19,[6,7]),(20,[6,7])] [] []
 rintro ⟨xs,⟨⟩⟩ hlen
 change xs.length≤_ at hlen
 (repeat' (first|(with_reducible first|exact True.intro|refine zQ ?_|(refine zG hG_ ?_;intro K_ hK_)|(refine zR ?_;intro K_ hK_)|(refine hK_ _ _ ?_;try clear hK_ K_)|refine sq_n ?_|refine sq_r ?_|refine sq_e ?_|refine bq_n ?_|refine bq_r ?_|refine bq_q ?_|refine zB ?_|refine zX ?_|refine zT ?_|refine zK ?_|refine gq_n ?_|refine gq_r ?_|refine gq_e ?_|refine lq_n ?_|refine lq_r ?_|refine lq_e ?_|refine bq_e (by decide) ?_)|((with_reducible refine zC (b:=?b_) ?hb_ ?_ ?_);case hb_=>rfl)|((conv=>whnf);first|(with_reducible refine hK_ _ _ ?_;try clear hK_ K_)|(with_reducible refine fun (g_:Sl) (o_:Ow)=>?_)|(with_reducible first|exact True.intro|refine And.intro trivial ?_|refine And.intro ?_ ?_)|exact Nat.le_of_ble_eq_true rfl|exact Or.inl rfl|(intro h_;cases h_)|(intro h_;(try simp only [vS1] at h_))|rfl))) <;> (try (conv=>whnf)) <;> (try first|change (_:Int)≤_|change (_:Nat)≤_) <;> (try ((fail_if_success (with_reducible apply Exists.intro));(try dsimp only);(try simp only [vS1])))
 all_goals (try (fail_if_success (with_reducible apply Exists.intro));first|with_reducible assumption|omega|exact mdl (by omega)|exact ilo1 (by omega)|exact ilo2 (by omega)|exact ihi1 (by omega) (by omega)|exact ihi2 (by omega) (by omega))
 ·symm;rw [← Bool.not_eq_true,roomOk_iff];simp [btw] at *;omega
 have hb:=btw_iff.1 ‹btw _ _ _=true›
 refine awp'_loopG (α:=Nat) (fun k ver_=>[(4,vInt k)]) (fun k ver_=>[]) (fun k ver_=>[]) (fun k=>k≤xs.length∧(xs.take k).all ptOk=true) (fun k=>xs.length - k) [1,3] [] (0) ?_
 conv=>whnf
 refine ⟨⟨?inv1_,?vals1_,?own1_,?fix1_⟩,?body1_⟩
 case' vals1_=>(repeat' (first|(with_reducible first|exact True.intro|refine And.intro ?_ ?_|refine Head.mk ?_ ?_ ?_ ?_)|((conv=>lhs;whnf);first|(with_reducible first|rfl|exact vInt_s (by omega))|exact rfl)|((conv=>whnf);first|(with_reducible first|exact True.intro|refine And.intro ?_ ?_)))) <;> (try (conv=>lhs;whnf))
 case' own1_=>(repeat' (first|(with_reducible first|exact True.intro|refine And.intro ?_ ?_|refine Head.mk ?_ ?_ ?_ ?_)|((conv=>lhs;whnf);first|(with_reducible first|rfl|exact vInt_s (by omega))|exact rfl)|((conv=>whnf);first|(with_reducible first|exact True.intro|refine And.intro ?_ ?_)))) <;> (try (conv=>lhs;whnf))
 case' fix1_=>(repeat' (first|(with_reducible first|exact True.intro|refine And.intro ?_ ?_|refine Head.mk ?_ ?_ ?_ ?_)|((conv=>lhs;whnf);first|(with_reducible first|rfl|exact vInt_s (by omega))|exact rfl)|((conv=>whnf);first|(with_reducible first|exact True.intro|refine And.intro ?_ ?_)))) <;> (try (conv=>lhs;whnf))
 ·exact ⟨Nat.zero_le _,by simp⟩
 rintro k g_ o_ v_ ⟨hk,hall⟩
 (repeat' (first|(with_reducible first|exact True.intro|refine zQ ?_|(refine zG hG_ ?_;intro K_ hK_)|(refine zR ?_;intro K_ hK_)|(refine hK_ _ _ ?_;try clear hK_ K_)|refine sq_n ?_|refine sq_r ?_|refine sq_e ?_|refine bq_n ?_|refine bq_r ?_|refine bq_q ?_|refine zB ?_|refine zX ?_|refine zT ?_|refine zK ?_|refine gq_n ?_|refine gq_r ?_|refine gq_e ?_|refine lq_n ?_|refine lq_r ?_|refine lq_e ?_|refine bq_e (by decide) ?_)|((with_reducible refine zC (b:=?b_) ?hb_ ?_ ?_);case hb_=>rfl)|((conv=>whnf);first|(with_reducible refine hK_ _ _ ?_;try clear hK_ K_)|(with_reducible refine fun (g_:Sl) (o_:Ow)=>?_)|(with_reducible first|exact True.intro|refine And.intro trivial ?_|refine And.intro ?_ ?_)|exact Nat.le_of_ble_eq_true rfl|exact Or.inl rfl|(intro h_;cases h_)|(intro h_;(try simp only [vS1] at h_))|rfl))) <;> (try (conv=>whnf)) <;> (try first|change (_:Int)≤_|change (_:Nat)≤_) <;> (try ((fail_if_success (with_reducible apply Exists.intro));(try dsimp only);(try simp only [vS1])))
 all_goals (try (fail_if_success (with_reducible apply Exists.intro));first|with_reducible assumption|omega|exact mdl (by omega)|exact ilo1 (by omega)|exact ilo2 (by omega)|exact ihi1 (by omega) (by omega)|exact ihi2 (by omega) (by omega))
 ·symm;rw [← Bool.not_eq_true,roomOk_iff,all_no (k:=k) _ (by omega) h_];simp
 ·refine ⟨k + 1,by omega,⟨by omega,?_⟩,?_⟩
  ·rw [all_succ (0,0) (by omega),hall];simpa using h_
  ·(repeat' (first|(with_reducible first|exact True.intro|refine And.intro ?_ ?_|refine Head.mk ?_ ?_ ?_ ?_)|((conv=>lhs;whnf);first|(with_reducible first|rfl|exact vInt_s (by omega))|exact rfl)|((conv=>whnf);first|(with_reducible first|exact True.intro|refine And.intro ?_ ?_)))) <;> (try (conv=>lhs;whnf))
 have hpts:=take_all (by omega) hall
 clear hall
 refine awp'_loopG (α:=Nat) (fun i ver_=>[(5,vInt i)]) (fun i ver_=>[]) (fun i ver_=>[]) (fun i=>i≤xs.length∧∀ j,j < i→okAt xs j=true) (fun i=>xs.length - i) [1,3] [] (0) ?_
 conv=>whnf
 refine ⟨⟨?inv2_,?vals2_,?own2_,?fix2_⟩,?body2_⟩
 case' vals2_=>(repeat' (first|(with_reducible first|exact True.intro|refine And.intro ?_ ?_|refine Head.mk ?_ ?_ ?_ ?_)|((conv=>lhs;whnf);first|(with_reducible first|rfl|exact vInt_s (by omega))|exact rfl)|((conv=>whnf);first|(with_reducible first|exact True.intro|refine And.intro ?_ ?_)))) <;> (try (conv=>lhs;whnf))
 case' own2_=>(repeat' (first|(with_reducible first|exact True.intro|refine And.intro ?_ ?_|refine Head.mk ?_ ?_ ?_ ?_)|((conv=>lhs;whnf);first|(with_reducible first|rfl|exact vInt_s (by omega))|exact rfl)|((conv=>whnf);first|(with_reducible first|exact True.intro|refine And.intro ?_ ?_)))) <;> (try (conv=>lhs;whnf))
 case' fix2_=>(repeat' (first|(with_reducible first|exact True.intro|refine And.intro ?_ ?_|refine Head.mk ?_ ?_ ?_ ?_)|((conv=>lhs;whnf);first|(with_reducible first|rfl|exact vInt_s (by omega))|exact rfl)|((conv=>whnf);first|(with_reducible first|exact True.intro|refine And.intro ?_ ?_)))) <;> (try (conv=>lhs;whnf))
 ·exact ⟨Nat.zero_le _,fun i hi=>absurd hi (by omega)⟩
 rintro i g_ o_ v_ ⟨hi,hall⟩
 (repeat' (first|(with_reducible first|exact True.intro|refine zQ ?_|(refine zG hG_ ?_;intro K_ hK_)|(refine zR ?_;intro K_ hK_)|(refine hK_ _ _ ?_;try clear hK_ K_)|refine sq_n ?_|refine sq_r ?_|refine sq_e ?_|refine bq_n ?_|refine bq_r ?_|refine bq_q ?_|refine zB ?_|refine zX ?_|refine zT ?_|refine zK ?_|refine gq_n ?_|refine gq_r ?_|refine gq_e ?_|refine lq_n ?_|refine lq_r ?_|refine lq_e ?_|refine bq_e (by decide) ?_)|((with_reducible refine zC (b:=?b_) ?hb_ ?_ ?_);case hb_=>rfl)|((conv=>whnf);first|(with_reducible refine hK_ _ _ ?_;try clear hK_ K_)|(with_reducible refine fun (g_:Sl) (o_:Ow)=>?_)|(with_reducible first|exact True.intro|refine And.intro trivial ?_|refine And.intro ?_ ?_)|exact Nat.le_of_ble_eq_true rfl|exact Or.inl rfl|(intro h_;cases h_)|(intro h_;(try simp only [vS1] at h_))|rfl))) <;> (try (conv=>whnf)) <;> (try first|change (_:Int)≤_|change (_:Nat)≤_) <;> (try ((fail_if_success (with_reducible apply Exists.intro));(try dsimp only);(try simp only [vS1])))
 all_goals (try (fail_if_success (with_reducible apply Exists.intro));first|with_reducible assumption|omega|exact mdl (by omega)|exact ilo1 (by omega)|exact ilo2 (by omega)|exact ihi1 (by omega) (by omega)|exact ihi2 (by omega) (by omega))
 ·symm;rw [← Bool.not_eq_true,roomOk_iff]
  rintro ⟨-,-,h,-⟩
  have h1:=(okAt_iff.1 (h i (by omega))).1
  rw [mod_nat1 (by omega),mod_nat2 (by omega),Int.toNat_natCast,Int.toNat_natCast] at h_
  exact h1 (eq_of_beq h_)
 ·have ht:turn (pAt xs i) (pCy xs (i + 1)) (pCy xs (i + 2))≠0:=by
   have:=h_
   rw [mod_nat1 (by omega),mod_nat2 (by omega),Int.toNat_natCast,Int.toNat_natCast] at this
   exact fun e=>(beq_eq_false_iff_ne.1 this) e
  have hin:(i:Int) < xs.length:=by omega
  have hi3:(IntKind.i64.wrap ((i:Int) + 1)).tmod xs.length=(((i + 1) % xs.length:Nat):Int):=mod_nat1 (by omega)
  clear h_
  refine awp'_loopG (α:=Nat) (fun k ver_=>[(8,vInt k)]) (fun k ver_=>[]) (fun k ver_=>[]) (fun k=>k≤xs.length∧∀ j,j < k→j≠i→(j + 1) % xs.length≠i→(i + 1) % xs.length≠j→meet (wl xs i) (wl xs j)=false) (fun k=>xs.length - k) [1,3,5,6,7] [6,7] (0) ?_
  conv=>whnf
  refine ⟨⟨?inv3_,?vals3_,?own3_,?fix3_⟩,?body3_⟩
  case' vals3_=>(repeat' (first|(with_reducible first|exact True.intro|refine And.intro ?_ ?_|refine Head.mk ?_ ?_ ?_ ?_)|((conv=>lhs;whnf);first|(with_reducible first|rfl|exact vInt_s (by omega))|exact rfl)|((conv=>whnf);first|(with_reducible first|exact True.intro|refine And.intro ?_ ?_)))) <;> (try (conv=>lhs;whnf))
  case' own3_=>(repeat' (first|(with_reducible first|exact True.intro|refine And.intro ?_ ?_|refine Head.mk ?_ ?_ ?_ ?_)|((conv=>lhs;whnf);first|(with_reducible first|rfl|exact vInt_s (by omega))|exact rfl)|((conv=>whnf);first|(with_reducible first|exact True.intro|refine And.intro ?_ ?_)))) <;> (try (conv=>lhs;whnf))
  case' fix3_=>(repeat' (first|(with_reducible first|exact True.intro|refine And.intro ?_ ?_|refine Head.mk ?_ ?_ ?_ ?_)|((conv=>lhs;whnf);first|(with_reducible first|rfl|exact vInt_s (by omega))|exact rfl)|((conv=>whnf);first|(with_reducible first|exact True.intro|refine And.intro ?_ ?_)))) <;> (try (conv=>lhs;whnf))
  ·exact ⟨Nat.zero_le _,fun j h1=>absurd h1 (by omega)⟩
  rintro k g_ o_ v_ ⟨hk,hin2⟩
  (repeat' (first|(with_reducible first|exact True.intro|refine zQ ?_|(refine zG hG_ ?_;intro K_ hK_)|(refine zR ?_;intro K_ hK_)|(refine hK_ _ _ ?_;try clear hK_ K_)|refine sq_n ?_|refine sq_r ?_|refine sq_e ?_|refine bq_n ?_|refine bq_r ?_|refine bq_q ?_|refine zB ?_|refine zX ?_|refine zT ?_|refine zK ?_|refine gq_n ?_|refine gq_r ?_|refine gq_e ?_|refine lq_n ?_|refine lq_r ?_|refine lq_e ?_|refine bq_e (by decide) ?_)|((with_reducible refine zC (b:=?b_) ?hb_ ?_ ?_);case hb_=>rfl)|((conv=>whnf);first|(with_reducible refine hK_ _ _ ?_;try clear hK_ K_)|(with_reducible refine fun (g_:Sl) (o_:Ow)=>?_)|(with_reducible first|exact True.intro|refine And.intro trivial ?_|refine And.intro ?_ ?_)|exact Nat.le_of_ble_eq_true rfl|exact Or.inl rfl|(intro h_;cases h_)|(intro h_;(try simp only [vS1] at h_))|rfl))) <;> (try (conv=>whnf)) <;> (try first|change (_:Int)≤_|change (_:Nat)≤_) <;> (try ((fail_if_success (with_reducible apply Exists.intro));(try dsimp only);(try simp only [vS1])))
  all_goals (try (fail_if_success (with_reducible apply Exists.intro));first|with_reducible assumption|omega|exact mdl (by omega)|exact ilo1 (by omega)|exact ilo2 (by omega)|exact ihi1 (by omega) (by omega)|exact ihi2 (by omega) (by omega))
  all_goals (try simp (disch:=omega) only [vS3,vS2] at *)
  ·refine ⟨k + 1,by omega,⟨by omega,fun j h1 h2 h3 h4=>?_⟩,by (repeat' (first|(with_reducible first|exact True.intro|refine And.intro ?_ ?_|refine Head.mk ?_ ?_ ?_ ?_)|((conv=>lhs;whnf);first|(with_reducible first|rfl|exact vInt_s (by omega))|exact rfl)|((conv=>whnf);first|(with_reducible first|exact True.intro|refine And.intro ?_ ?_)))) <;> (try (conv=>lhs;whnf))⟩
   rcases Nat.lt_or_ge j k with h5|h5
   ·exact hin2 j h5 h2 h3 h4
   ·exact absurd (by omega) h2
  ·refine ⟨k + 1,by omega,⟨by omega,fun j h1 h2 h3 h4=>?_⟩,by (repeat' (first|(with_reducible first|exact True.intro|refine And.intro ?_ ?_|refine Head.mk ?_ ?_ ?_ ?_)|((conv=>lhs;whnf);first|(with_reducible first|rfl|exact vInt_s (by omega))|exact rfl)|((conv=>whnf);first|(with_reducible first|exact True.intro|refine And.intro ?_ ?_)))) <;> (try (conv=>lhs;whnf))⟩
   rcases Nat.lt_or_ge j k with h5|h5
   ·exact hin2 j h5 h2 h3 h4
   ·rw [show j=k by omega] at h3;exact absurd (by assumption) h3
  ·refine ⟨k + 1,by omega,⟨by omega,fun j h1 h2 h3 h4=>?_⟩,by (repeat' (first|(with_reducible first|exact True.intro|refine And.intro ?_ ?_|refine Head.mk ?_ ?_ ?_ ?_)|((conv=>lhs;whnf);first|(with_reducible first|rfl|exact vInt_s (by omega))|exact rfl)|((conv=>whnf);first|(with_reducible first|exact True.intro|refine And.intro ?_ ?_)))) <;> (try (conv=>lhs;whnf))⟩
   rcases Nat.lt_or_ge j k with h5|h5
   ·exact hin2 j h5 h2 h3 h4
   ·rw [show j=k by omega] at h4;exact absurd (by assumption) h4
  ·symm;rw [← Bool.not_eq_true,roomOk_iff]
   rintro ⟨-,-,h,-⟩
   have h2:=(okAt_iff.1 (h i (by omega))).2 k (by omega) ‹_› ‹_› ‹_›
   exact absurd (show meet (wl xs i) (wl xs k)=true by assumption) (by rw [h2];decide)
  ·refine ⟨k + 1,by omega,⟨by omega,fun j h1 h2 h3 h4=>?_⟩,by (repeat' (first|(with_reducible first|exact True.intro|refine And.intro ?_ ?_|refine Head.mk ?_ ?_ ?_ ?_)|((conv=>lhs;whnf);first|(with_reducible first|rfl|exact vInt_s (by omega))|exact rfl)|((conv=>whnf);first|(with_reducible first|exact True.intro|refine And.intro ?_ ?_)))) <;> (try (conv=>lhs;whnf))⟩
   rcases Nat.lt_or_ge j k with h5|h5
   ·exact hin2 j h5 h2 h3 h4
   ·rw [show j=k by omega];assumption
  ·refine ⟨i + 1,by omega,⟨by omega,fun j hj=>?_⟩,by (repeat' (first|(with_reducible first|exact True.intro|refine And.intro ?_ ?_|refine Head.mk ?_ ?_ ?_ ?_)|((conv=>lhs;whnf);first|(with_reducible first|rfl|exact vInt_s (by omega))|exact rfl)|((conv=>whnf);first|(with_reducible first|exact True.intro|refine And.intro ?_ ?_)))) <;> (try (conv=>lhs;whnf))⟩
   rcases Nat.lt_or_ge j i with h5|h5
   ·exact hall j h5
   ·rw [show j=i by omega]
    exact okAt_iff.2 ⟨ht,fun m h1 h2 h3 h4=>hin2 m (by omega) h2 h3 h4⟩
 ·rw [Bool.eq_iff_iff,roomOk_iff]
  simp only [decide_eq_true_eq]
  exact ⟨fun h=>⟨by omega,hpts,fun k hk=>hall k (by omega),h⟩,fun h=>h.2.2.2⟩
def ptRow (xs:List Pt):RV:=⟨.one (.own 0 0),some ⟨t_impl_Point,none,.b .pt,xs⟩⟩
def placeC:Con:=mkCon [.sl (.b .pt),.pt] (fun x=>x.1.length≤1048576) fun x=>vI (placeM x.1 x.2.1)
theorem placeM_on {xs:List Pt} {p:Pt} {k:Nat} (hk:k < xs.length) (h:onAt xs p k=true):placeM xs p=1:=by unfold placeM;rw [onAny_yes hk h];rfl
theorem placeM_off {xs:List Pt} {p:Pt} (h:∀ k,k < xs.length→onAt xs p k=false):placeM xs p=if par (upIAt xs p) xs.length then 2 else 0:=by unfold placeM;rw [onAny_no h];rfl
theorem holdsM_on {xs:List Pt} {p:Pt} {k:Nat} (hk:k < xs.length) (h:onAt xs p k=true):holdsM xs p=0:=by unfold holdsM;rw [onAny_yes hk h];rfl
theorem holdsM_off {xs:List Pt} {p:Pt} (h:∀ k,k < xs.length→onAt xs p k=false):holdsM xs p=if par (upSAt xs p) xs.length then 1 else -1:=by unfold holdsM;rw [onAny_no h];rfl
theorem par_t {f:Nat→Bool} {k:Nat} (h:f k=true):par f (k + 1)=!par f k:=by show (par f k != f k)=_;rw [h];cases par f k <;> rfl
theorem par_f {f:Nat→Bool} {k:Nat} (h:f k=false):par f (k + 1)=par f k:=by show (par f k != f k)=_;rw [h];cases par f k <;> rfl
theorem place_ok:Good1 Tryz.prog n_impl_place placeC:=by
 refine good_ofG (tys:=tyL) (env:=[(n_impl_on,onC),(n_impl_turn,turnC)]) (envw:=[]) (envd:=[]) [] [] [] [] [] mixed tys ⟨on_ok,turn_ok,trivial⟩ trivial trivial Tryz.func102 rfl (by kernel_rfl) (by decide) (by kernel_rfl) ?_
 have hG_:=kpz [(0,[0,3]),(1,[0,3,5]),(2,[0,3,5,9,10,11]),(3,[0,3,5,9,10,11,12]),(4,[0,3,5,6,7,9,10,11]),(5,[0,3,5,7,8,9,10,11]),(6,[0,3,5,7,8,9,10,11,27]),(7,[4]),(8,[0,3,5,9,10,11,51]),(9,[0,3,5,9,10,11]),(10,[0,3,5,9,10,11]),(11,[55]),(12,[4]),(13,[4])] [(4,[7]),(5,[7,8]),(6,[7,8])] [] []
 rintro ⟨(xs:List Pt),⟨(p:Int),(q:Int)⟩,⟨⟩⟩ (h1:xs.length≤_)
 (repeat' (first|(with_reducible first|exact True.intro|refine zQ ?_|(refine zG hG_ ?_;intro K_ hK_)|(refine zR ?_;intro K_ hK_)|(refine hK_ _ _ ?_;try clear hK_ K_)|refine sq_n ?_|refine sq_r ?_|refine sq_e ?_|refine bq_n ?_|refine bq_r ?_|refine bq_q ?_|refine zB ?_|refine zX ?_|refine zT ?_|refine zK ?_|refine gq_n ?_|refine gq_r ?_|refine gq_e ?_|refine lq_n ?_|refine lq_r ?_|refine lq_e ?_|refine bq_e (by decide) ?_)|((with_reducible refine zC (b:=?b_) ?hb_ ?_ ?_);case hb_=>rfl)|((conv=>whnf);first|(with_reducible refine hK_ _ _ ?_;try clear hK_ K_)|(with_reducible refine fun (g_:Sl) (o_:Ow)=>?_)|(with_reducible first|exact True.intro|refine And.intro trivial ?_|refine And.intro ?_ ?_)|exact Nat.le_of_ble_eq_true rfl|exact Or.inl rfl|(intro h_;cases h_)|(intro h_;(try simp only [vS1] at h_))|rfl))) <;> (try (conv=>whnf)) <;> (try first|change (_:Int)≤_|change (_:Nat)≤_) <;> (try ((fail_if_success (with_reducible apply Exists.intro));(try dsimp only);(try simp only [vS1]))) <;> (try simp (disch:=omega) only [vS3,vS2] at *)
 refine awp'_loopG (α:=Nat) (fun k ver_=>[(11,vInt k),(5,vBool (par (upIAt xs (p,q)) k))]) (fun k ver_=>[]) (fun k ver_=>[]) (fun k=>k≤xs.length∧∀ j,j < k→onAt xs (p,q) j=false) (fun k=>xs.length - k) [0,3,9,10] [] (0) ?_
 conv=>whnf
 refine ⟨⟨?inv1_,?vals1_,?own1_,?fix1_⟩,?body1_⟩
 case' vals1_=>(repeat' (first|(with_reducible first|exact True.intro|refine And.intro ?_ ?_|refine Head.mk ?_ ?_ ?_ ?_)|((conv=>lhs;whnf);first|(with_reducible first|rfl|exact vInt_s (by omega))|exact rfl)|((conv=>whnf);first|(with_reducible first|exact True.intro|refine And.intro ?_ ?_)))) <;> (try (conv=>lhs;whnf))
 case' own1_=>(repeat' (first|(with_reducible first|exact True.intro|refine And.intro ?_ ?_|refine Head.mk ?_ ?_ ?_ ?_)|((conv=>lhs;whnf);first|(with_reducible first|rfl|exact vInt_s (by omega))|exact rfl)|((conv=>whnf);first|(with_reducible first|exact True.intro|refine And.intro ?_ ?_)))) <;> (try (conv=>lhs;whnf))
 case' fix1_=>(repeat' (first|(with_reducible first|exact True.intro|refine And.intro ?_ ?_|refine Head.mk ?_ ?_ ?_ ?_)|((conv=>lhs;whnf);first|(with_reducible first|rfl|exact vInt_s (by omega))|exact rfl)|((conv=>whnf);first|(with_reducible first|exact True.intro|refine And.intro ?_ ?_)))) <;> (try (conv=>lhs;whnf))
 ·exact ⟨Nat.zero_le _,fun j hj=>absurd hj (by omega)⟩
 rintro k g_ o_ v_ ⟨hk,hall⟩
 have hinv:onAt xs (p,q) k=false→∀ j,j < k + 1→onAt xs (p,q) j=false:=fun h j hj=>by
  rcases Nat.lt_or_ge j k with h5|h5
  ·exact hall j h5
  ·rw [show j=k by omega];exact h
 (repeat' (first|(with_reducible first|exact True.intro|refine zQ ?_|(refine zG hG_ ?_;intro K_ hK_)|(refine zR ?_;intro K_ hK_)|(refine hK_ _ _ ?_;try clear hK_ K_)|refine sq_n ?_|refine sq_r ?_|refine sq_e ?_|refine bq_n ?_|refine bq_r ?_|refine bq_q ?_|refine zB ?_|refine zX ?_|refine zT ?_|refine zK ?_|refine gq_n ?_|refine gq_r ?_|refine gq_e ?_|refine lq_n ?_|refine lq_r ?_|refine lq_e ?_|refine bq_e (by decide) ?_)|((with_reducible refine zC (b:=?b_) ?hb_ ?_ ?_);case hb_=>rfl)|((conv=>whnf);first|(with_reducible refine hK_ _ _ ?_;try clear hK_ K_)|(with_reducible refine fun (g_:Sl) (o_:Ow)=>?_)|(with_reducible first|exact True.intro|refine And.intro trivial ?_|refine And.intro ?_ ?_)|exact Nat.le_of_ble_eq_true rfl|exact Or.inl rfl|(intro h_;cases h_)|(intro h_;(try simp only [vS1] at h_))|rfl))) <;> (try (conv=>whnf)) <;> (try first|change (_:Int)≤_|change (_:Nat)≤_) <;> (try ((fail_if_success (with_reducible apply Exists.intro));(try dsimp only);(try simp only [vS1]))) <;> (try simp (disch:=omega) only [vS3,vS2] at *)
 all_goals (try (fail_if_success (with_reducible apply Exists.intro));first|with_reducible assumption|omega|exact mdl (by omega)|exact ilo1 (by omega)|exact ilo2 (by omega)|exact ihi1 (by omega) (by omega)|exact ihi2 (by omega) (by omega))
 ·exact (placeM_on ‹k < xs.length› h_).symm
 ·refine ⟨k + 1,by omega,⟨by omega,hinv (by assumption)⟩,?_⟩
  (repeat' (first|(with_reducible first|exact True.intro|refine And.intro ?_ ?_|refine Head.mk ?_ ?_ ?_ ?_)|((conv=>lhs;whnf);first|(with_reducible first|rfl|exact vInt_s (by omega))|exact rfl)|((conv=>whnf);first|(with_reducible first|exact True.intro|refine And.intro ?_ ?_)))) <;> (try (conv=>lhs;whnf))
  refine congrArg vBool (par_t ?_).symm
  simp only [upI,Bool.and_eq_true,bne_iff_ne,beq_iff_eq]
  exact ⟨by assumption,by assumption⟩
 ·refine ⟨k + 1,by omega,⟨by omega,hinv (by assumption)⟩,?_⟩
  (repeat' (first|(with_reducible first|exact True.intro|refine And.intro ?_ ?_|refine Head.mk ?_ ?_ ?_ ?_)|((conv=>lhs;whnf);first|(with_reducible first|rfl|exact vInt_s (by omega))|exact rfl)|((conv=>whnf);first|(with_reducible first|exact True.intro|refine And.intro ?_ ?_)))) <;> (try (conv=>lhs;whnf))
  refine congrArg vBool (par_f ?_).symm
  rw [← Bool.not_eq_true]
  simp only [upI,Bool.and_eq_true,bne_iff_ne,beq_iff_eq]
  exact fun h=>h_ h.2
 ·refine ⟨k + 1,by omega,⟨by omega,hinv (by assumption)⟩,?_⟩
  (repeat' (first|(with_reducible first|exact True.intro|refine And.intro ?_ ?_|refine Head.mk ?_ ?_ ?_ ?_)|((conv=>lhs;whnf);first|(with_reducible first|rfl|exact vInt_s (by omega))|exact rfl)|((conv=>whnf);first|(with_reducible first|exact True.intro|refine And.intro ?_ ?_)))) <;> (try (conv=>lhs;whnf))
  refine congrArg vBool (par_f ?_).symm
  rw [← Bool.not_eq_true]
  simp only [upI,Bool.and_eq_true,bne_iff_ne,beq_iff_eq]
  exact fun h=>h.1 h_
 ·rw [placeM_off fun j hj=>hall j (by omega),show xs.length=k by omega,if_pos (by assumption)]
 ·rw [placeM_off fun j hj=>hall j (by omega),show xs.length=k by omega,if_neg (by simp [*])]
def holdsC:Con:=mkCon [.sl (.b .pt),.pt] (fun x=>x.1.length≤1048576) fun x=>vI (holdsM x.1 x.2.1)
theorem upS_iff {p a b:Pt}:upS p a b=true↔(a.2≤p.2∧p.2 < b.2∧0 < turn a b p)∨(b.2≤p.2∧p.2 < a.2∧turn a b p < 0):=by
 unfold upS
 simp only [Bool.or_eq_true,Bool.and_eq_true,decide_eq_true_eq]
theorem sg_t {f:Nat→Bool} {k:Nat} (h:f k=true):0 - (if par f k then (1:Int) else -1)=if par f (k + 1) then 1 else -1:=by rw [par_t h];cases par f k <;> rfl
theorem sg_f {f:Nat→Bool} {k:Nat} (h:¬ f k=true):(if par f k then (1:Int) else -1)=if par f (k + 1) then 1 else -1:=by rw [par_f (by simpa using h)]
theorem l05Holds_ok:Good1 Tryz.prog n_spec_l05Holds holdsC:=by
  refine good_ofG (tys:=tyL) (env:=[(n_spec_l02Between,onC),(n_spec_l02Turn,turnC)]) (envw:=[]) (envd:=[]) [] [] [] [] [] mixed tys ⟨l02Between_ok,l02Turn_ok,trivial⟩ trivial trivial Tryz.func117 rfl (by kernel_rfl) (by decide) (by kernel_rfl) ?_
  have hG_:=kpz [(0,[0,3]),(1,[0,3,5]),(2,[0,3,5,6]),(3,[0,3,5,6,7]),(4,[0,3,5,6,7,14]),(5,[0,3,5,6,7]),(6,[0,3,5,6,7,8]),(7,[0,3,5,6,7,8,9]),(8,[0,3,5,6,7,8,9,31]),(9,[4]),(10,[0,3,5,6,7,71]),(11,[0,3,5,6,7]),(12,[4])] [(6,[8]),(7,[8,9]),(8,[8,9])] [] []
  rintro ⟨(xs:List Pt),⟨(p:Int),(q:Int)⟩,⟨⟩⟩ (h1:xs.length≤_)
  (repeat' (first|(with_reducible first|exact True.intro|refine zQ ?_|(refine zG hG_ ?_;intro K_ hK_)|(refine zR ?_;intro K_ hK_)|(refine hK_ _ _ ?_;try clear hK_ K_)|refine sq_n ?_|refine sq_r ?_|refine sq_e ?_|refine bq_n ?_|refine bq_r ?_|refine bq_q ?_|refine zB ?_|refine zX ?_|refine zT ?_|refine zK ?_|refine gq_n ?_|refine gq_r ?_|refine gq_e ?_|refine lq_n ?_|refine lq_r ?_|refine lq_e ?_|refine bq_e (by decide) ?_)|((with_reducible refine zC (b:=?b_) ?hb_ ?_ ?_);case hb_=>rfl)|((conv=>whnf);first|(with_reducible refine hK_ _ _ ?_;try clear hK_ K_)|(with_reducible refine fun (g_:Sl) (o_:Ow)=>?_)|(with_reducible first|exact True.intro|refine And.intro trivial ?_|refine And.intro ?_ ?_)|exact Nat.le_of_ble_eq_true rfl|exact Or.inl rfl|(intro h_;cases h_)|(intro h_;(try simp only [vS1] at h_))|rfl))) <;> (try (conv=>whnf)) <;> (try first|change (_:Int)≤_|change (_:Nat)≤_) <;> (try ((fail_if_success (with_reducible apply Exists.intro));(try dsimp only);(try simp only [vS1]))) <;> (try simp (disch:=omega) only [vS3,vS2] at *)
  refine awp'_loopG (α:=Nat) (fun k ver_=>[(7,vInt k),(5,vInt (if par (upSAt xs (p,q)) k then 1 else -1))]) (fun k ver_=>[]) (fun k ver_=>[]) (fun k=>k≤xs.length∧∀ j,j < k→onAt xs (p,q) j=false) (fun k=>xs.length - k) [0,3,6] [] (0) ?_
  conv=>whnf
  refine ⟨⟨?inv2_,?vals2_,?own2_,?fix2_⟩,?body2_⟩
  case' vals2_=>(repeat' (first|(with_reducible first|exact True.intro|refine And.intro ?_ ?_|refine Head.mk ?_ ?_ ?_ ?_)|((conv=>lhs;whnf);first|(with_reducible first|rfl|exact vInt_s (by omega))|exact rfl)|((conv=>whnf);first|(with_reducible first|exact True.intro|refine And.intro ?_ ?_)))) <;> (try (conv=>lhs;whnf))
  case' own2_=>(repeat' (first|(with_reducible first|exact True.intro|refine And.intro ?_ ?_|refine Head.mk ?_ ?_ ?_ ?_)|((conv=>lhs;whnf);first|(with_reducible first|rfl|exact vInt_s (by omega))|exact rfl)|((conv=>whnf);first|(with_reducible first|exact True.intro|refine And.intro ?_ ?_)))) <;> (try (conv=>lhs;whnf))
  case' fix2_=>(repeat' (first|(with_reducible first|exact True.intro|refine And.intro ?_ ?_|refine Head.mk ?_ ?_ ?_ ?_)|((conv=>lhs;whnf);first|(with_reducible first|rfl|exact vInt_s (by omega))|exact rfl)|((conv=>whnf);first|(with_reducible first|exact True.intro|refine And.intro ?_ ?_)))) <;> (try (conv=>lhs;whnf))
  · exact ⟨Nat.zero_le _,fun j hj=>absurd hj (by omega)⟩
  rintro k g_ o_ v_ ⟨hk,hall⟩
  have hinv:onAt xs (p,q) k=false→∀ j,j < k + 1→onAt xs (p,q) j=false:=fun h j hj=>by
    rcases Nat.lt_or_ge j k with h5|h5
    · exact hall j h5
    · rw [show j=k by omega];exact h
  have hup:upSAt xs (p,q) k=true↔((xs.getD k (ElK.b ElB.pt).dflt).2≤q∧q < (xs.getD ((k + 1) % xs.length) (ElK.b ElB.pt).dflt).2∧0 < turn (xs.getD k (ElK.b ElB.pt).dflt) (xs.getD ((k + 1) % xs.length) (ElK.b ElB.pt).dflt) (p,q))∨((xs.getD ((k + 1) % xs.length) (ElK.b ElB.pt).dflt).2≤q∧q < (xs.getD k (ElK.b ElB.pt).dflt).2∧turn (xs.getD k (ElK.b ElB.pt).dflt) (xs.getD ((k + 1) % xs.length) (ElK.b ElB.pt).dflt) (p,q) < 0):=upS_iff
  (repeat' (first|(with_reducible first|exact True.intro|refine zQ ?_|(refine zG hG_ ?_;intro K_ hK_)|(refine zR ?_;intro K_ hK_)|(refine hK_ _ _ ?_;try clear hK_ K_)|refine sq_n ?_|refine sq_r ?_|refine sq_e ?_|refine bq_n ?_|refine bq_r ?_|refine bq_q ?_|refine zB ?_|refine zX ?_|refine zT ?_|refine zK ?_|refine gq_n ?_|refine gq_r ?_|refine gq_e ?_|refine lq_n ?_|refine lq_r ?_|refine lq_e ?_|refine bq_e (by decide) ?_)|((with_reducible refine zC (b:=?b_) ?hb_ ?_ ?_);case hb_=>rfl)|((conv=>whnf);first|(with_reducible refine hK_ _ _ ?_;try clear hK_ K_)|(with_reducible refine fun (g_:Sl) (o_:Ow)=>?_)|(with_reducible first|exact True.intro|refine And.intro trivial ?_|refine And.intro ?_ ?_)|exact Nat.le_of_ble_eq_true rfl|exact Or.inl rfl|(intro h_;cases h_)|(intro h_;(try simp only [vS1] at h_))|rfl))) <;> (try (conv=>whnf)) <;> (try first|change (_:Int)≤_|change (_:Nat)≤_) <;> (try ((fail_if_success (with_reducible apply Exists.intro));(try dsimp only);(try simp only [vS1]))) <;> (try simp (disch:=omega) only [vS3,vS2] at *)
  all_goals (try (fail_if_success (with_reducible apply Exists.intro));first|with_reducible assumption|omega|exact mdl (by omega)|exact ilo1 (by omega)|exact ilo2 (by omega)|exact ihi1 (by omega) (by omega)|exact ihi2 (by omega) (by omega))
  · exact (holdsM_on ‹k < xs.length› h_).symm
  all_goals first
    | (exfalso;omega)
    | (rw [holdsM_off fun j hj=>hall j (by omega),show xs.length=k by omega])
    | (refine ⟨k + 1,by omega,⟨by omega,hinv (by assumption)⟩,?_⟩
       (repeat' (first|(with_reducible first|exact True.intro|refine And.intro ?_ ?_|refine Head.mk ?_ ?_ ?_ ?_)|((conv=>lhs;whnf);first|(with_reducible first|rfl|exact vInt_s (by omega))|exact rfl)|((conv=>whnf);first|(with_reducible first|exact True.intro|refine And.intro ?_ ?_)))) <;> (try (conv=>lhs;whnf))
       first|exact congrArg vInt (sg_t (hup.2 (by omega)))|exact congrArg vInt (sg_f (fun h=>by have:=hup.1 h;omega)))
theorem hold_vals (xs:List Pt) (p:Pt):holdsM xs p=0∨holdsM xs p=1∨holdsM xs p=-1:=by unfold holdsM;split <;> (try split) <;> simp
end Go.Proofs.YtpafacebfogkmaaGreat
namespace Go.Proofs.YtpafacebfogkmaaGreat
open Go.Shelf Go.RowKit Go.Lib Go.Sort Go.Proofs.YtpafacebfogkmaaGreat.Nm
def sort_ren:Go.Shelf.Ren:=⟨fun|6=>98|14=>113|15=>61|20=>120|21=>121|22=>122|23=>123|24=>124|25=>125|26=>126|27=>127|28=>93|29=>94|46=>128|47=>109|48=>110|49=>129|50=>130|57=>131|n=>n,fun|0=>0|3=>3|4=>4|5=>5|9=>9|22=>24|24=>60|25=>113|39=>82|45=>98|46=>99|50=>103|53=>106|55=>108|66=>118|70=>122|76=>126|77=>127|n=>n,fun n=>n⟩
theorem sort_lay:SlLaysF0.n6 Tryz.prog sort_ren:={
 mixed:=by kernel_rfl
 f6:=⟨Tryz.f98.name,by decide,Tryz.func98.trans (congrArg some (by kernel_rfl))⟩
 f14:=⟨Tryz.f113.name,by decide,Tryz.func113.trans (congrArg some (by kernel_rfl))⟩
 f15:=Tryz.func61.trans (congrArg some (by kernel_rfl))
 f20:=⟨Tryz.f120.name,by decide,Tryz.func120.trans (congrArg some (by kernel_rfl))⟩
 f21:=⟨Tryz.f121.name,by decide,Tryz.func121.trans (congrArg some (by kernel_rfl))⟩
 f22:=⟨Tryz.f122.name,by decide,Tryz.func122.trans (congrArg some (by kernel_rfl))⟩
 f23:=⟨Tryz.f123.name,by decide,Tryz.func123.trans (congrArg some (by kernel_rfl))⟩
 f24:=⟨Tryz.f124.name,by decide,Tryz.func124.trans (congrArg some (by kernel_rfl))⟩
 f25:=⟨Tryz.f125.name,by decide,Tryz.func125.trans (congrArg some (by kernel_rfl))⟩
 f26:=⟨Tryz.f126.name,by decide,Tryz.func126.trans (congrArg some (by kernel_rfl))⟩
 f27:=⟨Tryz.f127.name,by decide,Tryz.func127.trans (congrArg some (by kernel_rfl))⟩
 f28:=Tryz.func93.trans (congrArg some (by kernel_rfl))
 f29:=Tryz.func94.trans (congrArg some (by kernel_rfl))
 f46:=⟨Tryz.f128.name,by decide,Tryz.func128.trans (congrArg some (by kernel_rfl))⟩
 f47:=Tryz.func109.trans (congrArg some (by kernel_rfl))
 f48:=Tryz.func110.trans (congrArg some (by kernel_rfl))
 f49:=⟨Tryz.f129.name,by decide,Tryz.func129.trans (congrArg some (by kernel_rfl))⟩
 f50:=⟨Tryz.f130.name,by decide,Tryz.func130.trans (congrArg some (by kernel_rfl))⟩
 f57:=⟨Tryz.f131.name,by decide,Tryz.func131.trans (congrArg some (by kernel_rfl))⟩
 t0:=Tryz.underlying0
 a0:=Tryz.isAgg0
 z0:=Tryz.sizeOf0
 v0:=Tryz.zeroValue0
 t3:=Tryz.underlying3
 a3:=Tryz.isAgg3
 z3:=Tryz.sizeOf3
 v3:=Tryz.zeroValue3
 t4:=Tryz.underlying4
 a4:=Tryz.isAgg4
 z4:=Tryz.sizeOf4
 v4:=Tryz.zeroValue4
 t5:=Tryz.underlying5
 a5:=Tryz.isAgg5
 z5:=Tryz.sizeOf5
 v5:=Tryz.zeroValue5
 t9:=Tryz.underlying9
 a9:=Tryz.isAgg9
 z9:=Tryz.sizeOf9
 v9:=Tryz.zeroValue9
 t22:=Tryz.underlying24
 a22:=Tryz.isAgg24
 z22:=Tryz.sizeOf24
 v22:=Tryz.zeroValue24
 t25:=Tryz.underlying113
 a25:=Tryz.isAgg113
 z25:=Tryz.sizeOf113
 v25:=Tryz.zeroValue113
 t39:=Tryz.underlying82
 a39:=Tryz.isAgg82
 z39:=Tryz.sizeOf82
 v39:=Tryz.zeroValue82
 t45:=Tryz.underlying98
 a45:=Tryz.isAgg98
 z45:=Tryz.sizeOf98
 v45:=Tryz.zeroValue98
 t46:=Tryz.underlying99
 a46:=Tryz.isAgg99
 z46:=Tryz.sizeOf99
 v46:=Tryz.zeroValue99
 t50:=Tryz.underlying103
 a50:=Tryz.isAgg103
 z50:=Tryz.sizeOf103
 v50:=Tryz.zeroValue103
 t53:=Tryz.underlying106
 a53:=Tryz.isAgg106
 z53:=Tryz.sizeOf106
 v53:=Tryz.zeroValue106
 t55:=Tryz.underlying108
 a55:=Tryz.isAgg108
 z55:=Tryz.sizeOf108
 v55:=Tryz.zeroValue108
 t66:=Tryz.underlying118
 a66:=Tryz.isAgg118
 z66:=Tryz.sizeOf118
 v66:=Tryz.zeroValue118
 t70:=Tryz.underlying122
 a70:=Tryz.isAgg122
 z70:=Tryz.sizeOf122
 v70:=Tryz.zeroValue122
 t76:=Tryz.underlying126
 a76:=Tryz.isAgg126
 z76:=Tryz.sizeOf126
 v76:=Tryz.zeroValue126
 t77:=Tryz.underlying127
 a77:=Tryz.isAgg127
 z77:=Tryz.sizeOf127
 v77:=Tryz.zeroValue127
}
theorem sort_agg:∀ w,(isAgg (sort_ren.t 24)).run Tryz.prog w=.ok true w:=Tryz.isAgg60
theorem sort_size:∀ w,(Go.sizeOf (sort_ren.t 24)).run Tryz.prog w=.ok 2 w:=Tryz.sizeOf60
abbrev Pt2:=Int × Int
def encP (x:Pt2):List Value:=[.int .i64 x.1,.int .i64 x.2]
theorem encP_len (x:Pt2):(encP x).length=2:=rfl
theorem encP_one (x:Pt2):∀ v∈encP x,v.oneCell'=true:=by
 intro v hv
 simp only [encP,List.mem_cons,List.not_mem_nil,or_false] at hv
 rcases hv with rfl|rfl <;> rfl
theorem flatP_get {xs:List Pt2} {i:Nat} {x:Pt2} (h:xs[i]?=some x) {j:Nat} {u:Value} (hu:(encP x)[j]?=some u):(flatK encP 2 xs.toArray).toList[i * 2 + j]?=some u:=by
 have hi:i < xs.length:=(List.getElem?_eq_some_iff.1 h).1
 have hj:j < 2:=by have:=(List.getElem?_eq_some_iff.1 hu).1;simpa [encP] using this
 have hlt:i * 2 + j < xs.toArray.size * 2:=by simp;omega
 have hg:=get_flatK encP 2 xs.toArray (i * 2 + j) hlt
 rw [show (i * 2 + j) / 2=i by omega,show (i * 2 + j) % 2=j by omega] at hg
 rw [Array.getElem?_toList]
 have hs:i * 2 + j < (flatK encP 2 xs.toArray).size:=by rw [size_flatK];exact hlt
 rw [getElem!_pos (flatK encP 2 xs.toArray) (i * 2 + j) hs] at hg
 rw [Array.getElem?_eq_getElem hs,hg]
 have hx:xs.toArray[i]! = x:=by rw [getElem!_pos xs.toArray i (by simpa using hi)];simp [(List.getElem?_eq_some_iff.1 h).2]
 rw [hx]
 rw [getElem!_pos (encP x) j (by simpa [encP] using hj)]
 rw [List.getElem?_eq_getElem (by simpa [encP] using hj)] at hu
 exact hu
theorem flat_one (xs:List Pt2):∀ v∈(flatK encP 2 xs.toArray).toList,v.oneCell'=true:=by
 intro v hv
 obtain ⟨t,ht,rfl⟩:=Array.getElem_of_mem (Array.mem_toList_iff.1 hv)
 have ht':t < xs.toArray.size * 2:=by rw [size_flatK] at ht;exact ht
 have hg:=get_flatK encP 2 xs.toArray t ht'
 rw [getElem!_pos (flatK encP 2 xs.toArray) t ht] at hg
 rw [hg]
 have:t % 2 < 2:=Nat.mod_lt _ (by omega)
 have hm:t % 2=0∨t % 2=1:=by omega
 rcases hm with h|h <;> rw [h] <;> rfl
theorem rowC_flat (w:World) (F:Nat→Prop) (xs:List Pt2):RowC w F (.b .pt) xs (flatK encP 2 xs.toArray).toList:=
 ⟨flat_one xs,fun i x hx=>⟨encP x,rfl,rfl,fun j u hu=>flatP_get hx hu⟩⟩
theorem holds_of_own {w:World} {F:Nat→Prop} {ty:TypeId} {s:Value} {xs:List Pt2} {cells:List Value} (hw:w.ownsRow 0 ty 2 s xs.length cells) (hr:RowC w F (.b .pt) xs cells) (hne:0 < xs.length) :
  ∃ g cap cur,s=.slice (some ⟨g,0,none⟩) xs.length cap∧w.heap[g]?=some (.cells cur ty (0,0))∧xs.length≤cap∧cap≤maxLen∧cur.size=cap * 2∧HoldsK encP 2 w g 0 xs.toArray:=by
 rcases hw.2 with ⟨_,h0⟩|⟨g,cap,cur,hv,_,hh,hn,hm,hs,ht⟩
 ·omega
 refine ⟨g,cap,cur,hv,hh,hn,hm,hs,fun t ht'=>?_⟩
 rw [size_flatK] at ht'
 have ht2:t < xs.length * 2:=by simpa using ht'
 have hlt:t < cur.size:=by rw [hs];exact Nat.lt_of_lt_of_le ht2 (Nat.mul_le_mul_right 2 hn)
 have hi:t / 2 < xs.length:=by omega
 obtain ⟨us,hul,hue,hus⟩:=hr.2 (t / 2) xs[t / 2] (List.getElem?_eq_getElem hi)
 have hue:us=encP xs[t / 2]:=hue
 subst hue
 have hj:t % 2 < 2:=Nat.mod_lt _ (by omega)
 have hc:=hus (t % 2) (encP xs[t / 2])[t % 2] (List.getElem?_eq_getElem (by exact hj))
 rw [show t / 2 * (ElK.b ElB.pt).size + t % 2=t by show t / 2 * 2 + t % 2=t;omega,← ht,List.getElem?_take_of_lt (by exact ht2),Array.getElem?_toList] at hc
 have hfl:=flatP_get (xs:=xs) (i:=t / 2) (List.getElem?_eq_getElem hi) (j:=t % 2) (List.getElem?_eq_getElem (by exact hj))
 rw [show t / 2 * 2 + t % 2=t by omega,Array.getElem?_toList] at hfl
 have hsz:t < (flatK encP 2 xs.toArray).size:=by rw [size_flatK];exact ht'
 rw [Array.getElem?_eq_getElem hsz] at hfl
 rw [getElem!_pos (flatK encP 2 xs.toArray) t hsz,Option.some.inj hfl]
 constructor
 ·simp only [World.cell?,hh,Nat.zero_add]
  simpa using hc
 ·simp [World.frozen?,hh]
theorem after_sort {w:World} {ty:TypeId} {g cap n:Nat} {cur:Array Value} {ys:List Pt2} {os:Array Obj} (hh:w.heap[g]?=some (.cells cur ty (0,0))) (hn:ys.length≤cap) (hm:cap≤maxLen) (hs:cur.size=cap * 2) :
  w.grownBy (sortWorldK encP 2 w g 0 n ys.toArray os) (some g)∧(sortWorldK encP 2 w g 0 n ys.toArray os).ownsRow 0 ty 2 (.slice (some ⟨g,0,none⟩) ys.length cap) ys.length (flatK encP 2 ys.toArray).toList:=by
 have hg:g < w.heap.size:=lt_of_block hh
 have hheap:(sortWorldK encP 2 w g 0 n ys.toArray os).heap=w.heap.modify g (onCells (Go.Sort.putCells id 0 (flatK encP 2 ys.toArray))) ++ os:=rfl
 have hfs:(flatK encP 2 ys.toArray).size=ys.length * 2:=by rw [size_flatK];simp
 have hpre:∀ k,k < w.heap.size→(sortWorldK encP 2 w g 0 n ys.toArray os).heap[k]?=(w.heap.modify g (onCells (Go.Sort.putCells id 0 (flatK encP 2 ys.toArray))))[k]?:=fun k hk=>by
  rw [hheap,Array.getElem?_append_left (by rw [Array.size_modify];exact hk)]
 refine ⟨⟨rfl,rfl,rfl,by rw [hheap,Array.size_append,Array.size_modify];omega,fun k hk hne=>?_⟩,by rw [Array.length_toList,hfs],.inr ⟨g,cap,Go.Sort.putCells id 0 (flatK encP 2 ys.toArray) cur,rfl,Nat.zero_le _,?_,hn,hm,?_,?_⟩⟩
 ·rw [hpre k hk,Array.getElem?_modify,if_neg (fun e=>hne (by rw [e]))]
 ·rw [hpre g hg,Array.getElem?_modify,if_pos rfl,hh];rfl
 ·rw [← hs];simp [Go.Sort.putCells]
 ·refine List.ext_getElem? fun i=>?_
  rcases Nat.lt_or_ge i (ys.length * 2) with hi|hi
  ·rw [List.getElem?_take_of_lt hi,Array.getElem?_toList,Array.getElem?_toList]
   have hc:i < cur.size:=by rw [hs];exact Nat.lt_of_lt_of_le hi (Nat.mul_le_mul_right 2 hn)
   have hf:i < (flatK encP 2 ys.toArray).size:=by rw [hfs];exact hi
   simp only [Go.Sort.putCells,Array.getElem?_mapIdx,Array.getElem?_eq_getElem hc,Array.getElem?_eq_getElem hf,Option.map_some,Nat.zero_le,true_and,Nat.zero_add,hf,if_true,id,Nat.sub_zero]
   rw [getElem!_pos (flatK encP 2 ys.toArray) i hf]
  ·rw [List.getElem?_eq_none (by rw [List.length_take];omega),List.getElem?_eq_none (by rw [Array.length_toList,hfs];exact hi)]
def sqM (a b:Pt2):Int:=wrap64 (wrap64 (wrap64 (a.1 - b.1) * wrap64 (a.1 - b.1)) + wrap64 (wrap64 (a.2 - b.2) * wrap64 (a.2 - b.2)))
set_option maxHeartbeats 1000000 in
theorem square_k (x y:Pt2) (W:World):Calls Tryz.prog 100 #[.agg #[.int .i64 x.1,.int .i64 x.2],.agg #[.int .i64 y.1,.int .i64 y.2]] W fun e w'=>e=.returned (.int .i64 (sqM x y))∧∃ q os',w'=grow (W.drewN q) os':=by
 go_enter Tryz.func100,Tryz.ntmps100
 go_wp2
 go_ret
 exact ⟨rfl,0,_,by rw [alloc_eq_grow,alloc_eq_grow,grow_grow];rfl⟩
def cbCmp (a x y:Pt2):Int:=IntKind.i64.wrap (sqM a x - sqM a y)
theorem addr_plain {W:World} {ad:Addr} {v:Value} (h:W.cell? ad=some v):∃ b o,ad=⟨b,o,none⟩:=by
 obtain ⟨b,o,sp⟩:=ad
 cases sp with
 | none=>exact ⟨b,o,rfl⟩
 | some s=>simp only [World.cell?] at h;split at h <;> simp at h
set_option maxHeartbeats 2000000 in
theorem cb_k (a x y:Pt2) (ad:Addr) (W:World) (h0:W.cell? ad=some (.int .i64 a.1)) (h1:W.cell? (ad.add 1)=some (.int .i64 a.2)) (hl:ad.block < W.heap.size) :
  Calls Tryz.prog 99 #[.agg #[.int .i64 x.1,.int .i64 x.2],.agg #[.int .i64 y.1,.int .i64 y.2],.pointer (some ad)] W fun e w'=>e=.returned (.int .i64 (cbCmp a x y))∧∃ q os',w'=grow (W.drewN q) os':=by
 obtain ⟨b,o,rfl⟩:=addr_plain h0
 have h1:W.cell? ⟨b,o + 1,none⟩=some (.int .i64 a.2):=h1
 have hl:b < W.heap.size:=hl
 have mixed:Tryz.prog.follows .mixedOrders=true:=by kernel_rfl
 have hcon:=fun x y W'=>square_k x y W'
 go_enter Tryz.func99,Tryz.ntmps99
 go_wp2
 have hwq:∃ W2:World,W2=(W.alloc (.cells #[.int .i64 x.1,.int .i64 x.2] 60)).alloc (.cells #[.int .i64 y.1,.int .i64 y.2] 60):=⟨_,rfl⟩
 obtain ⟨W2,hW2⟩:=hwq
 have hgr:W2=grow W #[.cells #[.int .i64 x.1,.int .i64 x.2] 60,.cells #[.int .i64 y.1,.int .i64 y.2] 60]:=by rw [hW2,alloc_eq_grow,alloc_eq_grow,grow_grow];rfl
 have hsz:W2.heap.size=W.heap.size + 2:=by rw [hgr,size_grow];rfl
 have ca0:∀ n os,(grow (W2.drewN n) os).cell? ⟨b,o,none⟩=some (.int .i64 a.1):=cell_grown (by rw [hsz];show b < _;omega) (by rw [hgr,cell?_grow _ _ _ hl];exact h0)
 have ca1:∀ n os,(grow (W2.drewN n) os).cell? ⟨b,o + 1,none⟩=some (.int .i64 a.2):=cell_grown (by rw [hsz];show b < _;omega) (by rw [hgr,cell?_grow _ _ _ hl];exact h1)
 have cx0:∀ n os,(grow (W2.drewN n) os).cell? ⟨W.heap.size,0,none⟩=some (.int .i64 x.1):=cell_grown (by rw [hsz];show W.heap.size < _;omega) (by rw [hW2];simp)
 have cx1:∀ n os,(grow (W2.drewN n) os).cell? ⟨W.heap.size,1,none⟩=some (.int .i64 x.2):=cell_grown (by rw [hsz];show W.heap.size < _;omega) (by rw [hW2];simp)
 have cy0:∀ n os,(grow (W2.drewN n) os).cell? ⟨W.heap.size + 1,0,none⟩=some (.int .i64 y.1):=cell_grown (by rw [hsz];show W.heap.size + 1 < _;omega) (by rw [hW2];simp)
 have cy1:∀ n os,(grow (W2.drewN n) os).cell? ⟨W.heap.size + 1,1,none⟩=some (.int .i64 y.2):=cell_grown (by rw [hsz];show W.heap.size + 1 < _;omega) (by rw [hW2];simp)
 rw [← hW2]
 have HGR:Hid (W2=grow W #[.cells #[.int .i64 x.1,.int .i64 x.2] 60,.cells #[.int .i64 y.1,.int .i64 y.2] 60]):=hgr
 clear hW2 hgr hsz h0 h1
 have eg:∀ args w,(callFunc 100 args).run Tryz.prog w=.ok (.enter 100 args) w:=enters_of Tryz.func100 (by kernel_rfl) rfl
 go_quiet_grown (first|(go_at_fn 100;refine Calls.grown_of (hcon _ _ _)))
 go_wp2_with fail
 go_ret
 exact ⟨rfl,nq,_,by rw [HGR.out];show grow (grow (W.drewN nq) _) _=_;rw [grow_grow]⟩
def distSort (a:Pt2) (xs:List Pt2):List Pt2:=(Sort.insertionSort (ltOf (cbCmp a)) xs.toArray 0 xs.length).toList
def cloPt (f:FuncId × List D):Pt2:=match f.2 with|[.ptr [.int _ x,.int _ y]]=>(x,y)|_=>(0,0)
def sortC:ConW:=mkConW [.sl (.b .pt),.clo] 0 t_impl_Point (fun x=>0 < x.1.length∧x.1.length≤12∧∃ a:Pt2,x.2.1=(n_impl_cornersBetween_1,[.ptr [.int .i64 a.1,.int .i64 a.2]])) (fun _=>.tup []) fun x=>⟨.b .pt,distSort (cloPt x.2.1) x.1,false⟩
theorem cell_sortW {w:World} {g n:Nat} {d:Array Pt2} {os:Array Obj} {ad:Addr} (hne:ad.block≠g) (hl:ad.block < w.heap.size):(sortWorldK encP 2 w g 0 n d os).cell? ad=w.cell? ad:=by
 unfold sortWorldK
 rw [cell?_grow _ _ _ (by rw [size_putRowK];exact hl),cell?_putRowK_other _ _ _ _ _ _ _ hne]
 rfl
theorem insInner_size (lt:Pt2→Pt2→Bool) (a:Nat):∀ (j:Nat) (d:Array Pt2),(insInner lt a j d).size=d.size
 | 0,_=>rfl
 | j + 1,d=>by
  unfold insInner
  split
  ·rw [insInner_size lt a j,size_swp]
  ·rfl
theorem insOuter_size (lt:Pt2→Pt2→Bool) (a b:Nat):∀ (n i:Nat) (d:Array Pt2),b - i≤n→(insOuter lt a b i d).size=d.size
 | 0,i,d,h=>by unfold insOuter;rw [if_neg (by omega)]
 | n + 1,i,d,h=>by
  unfold insOuter
  split
  ·rw [insOuter_size lt a b n (i + 1) _ (by omega),insInner_size]
  ·rfl
theorem distSort_len (a:Pt2) (xs:List Pt2):(distSort a xs).length=xs.length:=by
 unfold distSort Sort.insertionSort
 rw [Array.length_toList,insOuter_size _ _ _ _ _ _ (Nat.le_refl _)]
 simp
theorem decs_sort {k:ElK} {xs:List k.T} {c:AV} {x:Args [.sl (.b .pt),.clo]} (h:decs [.sl (.b .pt),.clo] [.one (.d (.sl none k xs)),c]=some x) :
  (∃ e:k=.b .pt,e ▸ xs=x.1)∧c=.one (.d (.clo x.2.1.1 x.2.1.2)):=by
 simp only [decs] at h
 split at h
 next a b e1 e2=>
  injection h with h
  subst h
  refine ⟨castL_ok e1,?_⟩
  split at e2
  next a' b' e3 e4=>
   injection e2 with e2
   subst e2
   cases c with
   | one cc=>
    cases cc with
    | d dd=>cases dd <;> first|(cases e3;rfl)|(simp only [Ty.dec] at e3;cases e3;done)
    | own _ _=>simp only [Ty.dec] at e3;cases e3
    | ptr _ _ _ _=>simp only [Ty.dec] at e3;cases e3
    | sub _ _ _ _=>simp only [Ty.dec] at e3;cases e3
   | agg _=>simp only [Ty.dec] at e3;cases e3
   | tup _=>simp only [Ty.dec] at e3;cases e3
   | junk=>simp only [Ty.dec] at e3;cases e3
  next=>cases e2
 next=>cases h
theorem sort_snd:SoundW0 Tryz.prog n_slices_SortFunc_impl_Point sortC:=by
 intro w F args vs a0 l ver (x:Args [.sl (.b .pt),.clo]) s k xs ys cells ha hoc hoth hpat hpre hcast hbase hF hlen hargs hw hrow hs hone
 have hpat:decs [.sl (.b .pt),.clo] (setA args 0 (ownAs a0 (.d (.sl none k xs))))=some x:=hpat
 have ha:nthA args 0=some a0:=ha
 match args,vs,ha,hpat,hlen,hargs with
 | [],_,ha,_,_,_=>cases ha
 | [z],_,_,hpat,_,_=>simp only [setA,decs] at hpat;split at hpat <;> simp_all
 | z :: c :: e :: r,_,_,hpat,_,_=>simp only [setA,decs] at hpat;split at hpat <;> simp_all
 | [z,c],[v0,v1],ha,hpat,hlen,hargs=>
  obtain rfl:z=a0:=Option.some.inj ha
  have h0:=hargs 0 z v0 rfl rfl
  have h1:=hargs 1 c v1 rfl rfl
  have hd:decs [.sl (.b .pt),.clo] [ownAs z (.d (.sl none k xs)),c]=some x:=hpat
  obtain ⟨x1,⟨xf,xc⟩,⟨⟩⟩:=x
  obtain ⟨hp1,hp2,⟨p,q⟩,hp3⟩:=hpre
  have hp1:0 < x1.length:=hp1
  have hp2:x1.length≤12:=hp2
  have hp3:(xf,xc)=(n_impl_cornersBetween_1,[D.ptr [.int .i64 p,.int .i64 q]]):=hp3
  injection hp3 with hf hc
  subst hf hc
  have hz:z=.one (.own l ver):=by
   unfold ownCell at hoc
   split at hoc
   ·injection hoc with hoc;injection hoc with e1 e2;rw [e1,e2]
   ·simp only [ownAs,decs,Ty.dec] at hd;cases hd
   ·cases hoc
  subst hz
  obtain ⟨⟨ek,he⟩,hcc⟩:=decs_sort hd
  subst ek
  have he:xs=x1:=he
  subst he
  subst hcc
  have hv0:v0=s:=h0
  subst hv0
  obtain ⟨us,hul,hud,rfl⟩:∃ us:List Value,us.length=1∧(∀ (j:Nat) x u,[D.ptr [.int .i64 p,.int .i64 q]][j]?=some x→us[j]?=some u→DC w F x u)∧v1=.func (.func n_impl_cornersBetween_1) #[] us.toArray:=by
   have h1:DC w F (.clo n_impl_cornersBetween_1 [D.ptr [.int .i64 p,.int .i64 q]]) v1:=h1
   cases h1 with
   | clo us hl h=>exact ⟨us,hl,h,rfl⟩
  match us,hul with
  | [u],_=>
  have hu:=hud 0 _ u rfl rfl
  obtain ⟨ad,rfl,hFa,hc0,hc1⟩:∃ ad,u=.pointer (some ad)∧F ad.block∧w.cell? (ad.add 0)=some (.int .i64 p)∧w.cell? (ad.add 1)=some (.int .i64 q):=by
   cases hu with
   | ptr ad us hl hF h1 h2=>
    match us,hl with
    | [u0,u1],_=>
     have k0:=h2 0 _ u0 rfl rfl
     have k1:=h2 1 _ u1 rfl rfl
     cases k0
     cases k1
     exact ⟨ad,rfl,hF,h1 0 _ rfl,h1 1 _ rfl⟩
  have e0:ad.add 0=ad:=by unfold Addr.add;split <;> first|rfl|(exfalso;rename_i h;exact h rfl)|simp_all
  rw [e0] at hc0
  have hys:ys=distSort (p,q) xs:=by
   have:castL (.b .pt) (.b .pt) (distSort (p,q) xs)=some ys:=hcast
   exact (Option.some.inj this).symm
  subst hys
  have hw:w.ownsRow 0 t_impl_Point 2 v0 xs.length cells:=hw
  obtain ⟨g,cap,cur,hv0,hh,hn,hm,hcs,hK⟩:=holds_of_own hw hrow hp1
  subst hv0
  obtain ⟨hg,hgF⟩:=hs g rfl
  have hne:ad.block≠g:=fun e=>hgF (e ▸ hFa)
  have hal:=hF _ hFa
  have eg:∀ args w,(callFunc n_impl_cornersBetween_1 args).run Tryz.prog w=.ok (.enter n_impl_cornersBetween_1 args) w:=enters_of Tryz.func99 (by kernel_rfl) rfl
  have hcmp:CmpLays Tryz.prog n_impl_cornersBetween_1 #[.pointer (some ad)] encP 2 (cbCmp (p,q)) g 0 xs.toArray.size w:=fun m os dk hdk x y=>by
   have hsz:=size_sortWorldK_c encP 2 w g 0 m dk os
   exact cb_k (p,q) x y ad _ (by rw [cell_sortW hne hal];exact hc0) (by rw [cell_sortW (by rw [block_add];exact hne) (by rw [block_add];exact hal)];exact hc1) (Nat.lt_of_lt_of_le hal hsz)
  have hlen2:∀ (n:Nat) (W:World),n≤12→Calls Tryz.prog (sort_ren.f 15) #[.int .u64 n] W fun e w'=>(∃ l:Int,e=.returned (.int .i64 l))∧w'=W:=fun n W hn=>
   (Any.bits_Len (SlLaysF0.n15.bits (P:=Tryz.prog) (ρ:=sort_ren) { sort_lay with }) (n:Int) W (by omega) (by omega)).mono fun _ _ ⟨he,hw⟩=>⟨⟨_,he⟩,hw⟩
  have hmain:=AnyQ.slices_SortFunc_small sort_lay 2 sort_agg sort_size encP encP_len encP_one (cbCmp (p,q)) n_impl_cornersBetween_1 #[.pointer (some ad)] g 0 cap xs.toArray w eg hcmp hK hg (by simpa using hp2) hlen2
  have hmain':Calls Tryz.prog n_slices_SortFunc_impl_Point #[.slice (some ⟨g,0,none⟩) xs.length cap,.func (.func n_impl_cornersBetween_1) #[] #[.pointer (some ad)]] w fun e w'=>e=.returned (.tuple #[])∧∃ n os,w'=sortWorldK encP 2 w g 0 n (Sort.insertionSort (ltOf (cbCmp (p,q))) xs.toArray 0 xs.toArray.size) os:=hmain
  refine hmain'.mono ?_
  rintro e w' ⟨rfl,n,os,rfl⟩
  have hys:(Sort.insertionSort (ltOf (cbCmp (p,q))) xs.toArray 0 xs.toArray.size)=(distSort (p,q) xs).toArray:=by unfold distSort;simp
  rw [hys]
  have hdl:=distSort_len (p,q) xs
  obtain ⟨ha1,ha2⟩:=after_sort (n:=n) (os:=os) (ys:=distSort (p,q) xs) hh (by rw [hdl];exact hn) hm hcs
  rw [hdl] at ha2
  exact ⟨.tuple #[],.slice (some ⟨g,0,none⟩) xs.length cap,_,rfl,ha1,fun b hb=>.inl hb,by rw [hdl];exact ha2,rowC_flat _ F _,rfl,rfl,[],rfl,rfl,fun j x u hx=>by simp at hx⟩
theorem sortFunc_ok:GoodW Tryz.prog n_slices_SortFunc_impl_Point sortC:=by
 exact ⟨sort_snd.to fun _=>rfl,_,Tryz.func98,by decide,rfl⟩
end Go.Proofs.YtpafacebfogkmaaGreat
namespace Go.Proofs.YtpafacebfogkmaaGreat
open Go.RowKit Go.Proofs.YtpafacebfogkmaaGreat.Nm
set_option maxRecDepth 10000
def cornersB (xs:List Pt) (a b:Pt):List Pt:=distSort a (cutsOf xs a b)
theorem filter_len_le {xs:List Pt} {f:Pt→Bool} {n:Nat} (h:xs.length≤n) (k:Nat):((xs.take k).filter f).length≤n:=Nat.le_trans (List.length_filter_le _ _) (by rw [List.length_take];omega)
def cornersBC:Con:=mkCon [.room,.pt,.pt] (fun x=>x.1.length≤10) fun x=>ptRow (cornersB x.1 x.2.1 x.2.2.1)
theorem cornersBetween_ok:Good1 Tryz.prog n_impl_cornersBetween cornersBC:=by
 refine good_ofG (tys:=tyL) (env:=[(n_impl_on,onC)]) (envw:=[(n_slices_SortFunc_impl_Point,sortC)]) (envd:=[]) [12,41] [] [] [] [] mixed tys ⟨on_ok,trivial⟩ ⟨sortFunc_ok,trivial⟩ trivial Tryz.func68 rfl (by kernel_rfl) (by decide) (by kernel_rfl) ?_
 have hG_:=kpz [(0,[3,4,5]),(1,[3,4,5,7]),(2,[4,5,7,14,15,16]),(3,[4,5,7,14,15,16,17]),(4,[4,5,7,9,14,15,16]),(5,[4,5,7,9,14,15,16,33]),(6,[4,5,7,14,15,16]),(7,[4,5,7,14,15,16]),(8,[7]),(9,[6])] [(1,[12]),(2,[12]),(3,[12]),(4,[9,12]),(5,[9,12]),(6,[12]),(7,[12]),(8,[12]),(9,[12])] [] []
 rintro ⟨(xs:List Pt),⟨(ax:Int),(ay:Int)⟩,⟨(bx:Int),(b_y:Int)⟩,⟨⟩⟩ (h1:xs.length≤_)
 (repeat' (first|(with_reducible first|exact True.intro|refine zQ ?_|(refine zG hG_ ?_;intro K_ hK_)|(refine zR ?_;intro K_ hK_)|(refine hK_ _ _ ?_;try clear hK_ K_)|refine sq_n ?_|refine sq_r ?_|refine sq_e ?_|refine bq_n ?_|refine bq_r ?_|refine bq_q ?_|refine zB ?_|refine zX ?_|refine zT ?_|refine zK ?_|refine gq_n ?_|refine gq_r ?_|refine gq_e ?_|refine lq_n ?_|refine lq_r ?_|refine lq_e ?_|refine bq_e (by decide) ?_)|((with_reducible refine zC (b:=?b_) ?hb_ ?_ ?_);case hb_=>rfl)|((conv=>whnf);first|(with_reducible refine hK_ _ _ ?_;try clear hK_ K_)|(with_reducible refine fun (g_:Sl) (o_:Ow)=>?_)|(with_reducible first|exact True.intro|refine And.intro trivial ?_|refine And.intro ?_ ?_)|exact Nat.le_of_ble_eq_true rfl|exact Or.inl rfl|(intro h_;cases h_)|(intro h_;(try simp only [vS1] at h_))|rfl))) <;> (try (conv=>whnf)) <;> (try first|change (_:Int)≤_|change (_:Nat)≤_) <;> (try ((fail_if_success (with_reducible apply Exists.intro));(try dsimp only);(try simp only [vS1]))) <;> (try simp (disch:=omega) only [vS3,vS2] at *)
 all_goals (try (fail_if_success (with_reducible apply Exists.intro));first|with_reducible assumption|omega|exact mdl (by omega)|exact ilo1 (by omega)|exact ilo2 (by omega)|exact ihi1 (by omega) (by omega)|exact ihi2 (by omega) (by omega))
 refine awp'_loopG (α:=Nat) (fun k ver_=>[(16,vInt k)]) (fun k ver_=>[(7,12,false,.row t_impl_Point (.b .pt) ([(ax,ay),(bx,b_y)] ++ (xs.take k).filter (amid (ax,ay) (bx,b_y))))]) (fun k ver_=>[]) (fun k=>k≤xs.length) (fun k=>xs.length - k) [4,5,14,15] [] (0) ?_
 conv=>whnf
 refine ⟨⟨?inv1_,?vals1_,?own1_,?fix1_⟩,?body1_⟩
 case' vals1_=>(repeat' (first|(with_reducible first|exact True.intro|refine And.intro ?_ ?_|refine Head.mk ?_ ?_ ?_ ?_)|((conv=>lhs;whnf);first|(with_reducible first|rfl|exact vInt_s (by omega))|exact rfl)|((conv=>whnf);first|(with_reducible first|exact True.intro|refine And.intro ?_ ?_)))) <;> (try (conv=>lhs;whnf))
 case' own1_=>(repeat' (first|(with_reducible first|exact True.intro|refine And.intro ?_ ?_|refine Head.mk ?_ ?_ ?_ ?_)|((conv=>lhs;whnf);first|(with_reducible first|rfl|exact vInt_s (by omega))|exact rfl)|((conv=>whnf);first|(with_reducible first|exact True.intro|refine And.intro ?_ ?_)))) <;> (try (conv=>lhs;whnf))
 case' fix1_=>(repeat' (first|(with_reducible first|exact True.intro|refine And.intro ?_ ?_|refine Head.mk ?_ ?_ ?_ ?_)|((conv=>lhs;whnf);first|(with_reducible first|rfl|exact vInt_s (by omega))|exact rfl)|((conv=>whnf);first|(with_reducible first|exact True.intro|refine And.intro ?_ ?_)))) <;> (try (conv=>lhs;whnf))
 ·exact Nat.zero_le _
 rintro k g_ o_ v_ hk
 have hl:=filter_len_le (f:=amid (ax,ay) (bx,b_y)) h1 k
 (repeat' (first|(with_reducible first|exact True.intro|refine zQ ?_|(refine zG hG_ ?_;intro K_ hK_)|(refine zR ?_;intro K_ hK_)|(refine hK_ _ _ ?_;try clear hK_ K_)|refine sq_n ?_|refine sq_r ?_|refine sq_e ?_|refine bq_n ?_|refine bq_r ?_|refine bq_q ?_|refine zB ?_|refine zX ?_|refine zT ?_|refine zK ?_|refine gq_n ?_|refine gq_r ?_|refine gq_e ?_|refine lq_n ?_|refine lq_r ?_|refine lq_e ?_|refine bq_e (by decide) ?_)|((with_reducible refine zC (b:=?b_) ?hb_ ?_ ?_);case hb_=>rfl)|((conv=>whnf);first|(with_reducible refine hK_ _ _ ?_;try clear hK_ K_)|(with_reducible refine fun (g_:Sl) (o_:Ow)=>?_)|(with_reducible first|exact True.intro|refine And.intro trivial ?_|refine And.intro ?_ ?_)|exact Nat.le_of_ble_eq_true rfl|exact Or.inl rfl|(intro h_;cases h_)|(intro h_;(try simp only [vS1] at h_))|rfl))) <;> (try (conv=>whnf)) <;> (try first|change (_:Int)≤_|change (_:Nat)≤_) <;> (try ((fail_if_success (with_reducible apply Exists.intro));(try dsimp only);(try simp only [vS1]))) <;> (try simp (disch:=omega) only [vS3,vS2] at *)
 all_goals (try (fail_if_success (with_reducible apply Exists.intro));first|with_reducible assumption|omega|exact mdl (by omega)|exact ilo1 (by omega)|exact ilo2 (by omega)|exact ihi1 (by omega) (by omega)|exact ihi2 (by omega) (by omega))
 ·refine ⟨k + 1,by omega,by omega,?_⟩
  (repeat' (first|(with_reducible first|exact True.intro|refine And.intro ?_ ?_|refine Head.mk ?_ ?_ ?_ ?_)|((conv=>lhs;whnf);first|(with_reducible first|rfl|exact vInt_s (by omega))|exact rfl)|((conv=>whnf);first|(with_reducible first|exact True.intro|refine And.intro ?_ ?_)))) <;> (try (conv=>lhs;whnf))
  refine congrArg (Own.row _ _) ?_
  rw [filter_take_succ _ (0,0) ‹k < xs.length›,if_pos (amid_yes ‹_› ‹_› ‹_›),List.append_assoc]
 ·refine ⟨k + 1,by omega,by omega,?_⟩
  (repeat' (first|(with_reducible first|exact True.intro|refine And.intro ?_ ?_|refine Head.mk ?_ ?_ ?_ ?_)|((conv=>lhs;whnf);first|(with_reducible first|rfl|exact vInt_s (by omega))|exact rfl)|((conv=>whnf);first|(with_reducible first|exact True.intro|refine And.intro ?_ ?_)))) <;> (try (conv=>lhs;whnf))
  refine congrArg (Own.row _ _) ?_
  rw [filter_take_succ _ (0,0) ‹k < xs.length›,if_neg (by unfold amid;simp_all),List.append_nil]
 ·refine ⟨k + 1,by omega,by omega,?_⟩
  (repeat' (first|(with_reducible first|exact True.intro|refine And.intro ?_ ?_|refine Head.mk ?_ ?_ ?_ ?_)|((conv=>lhs;whnf);first|(with_reducible first|rfl|exact vInt_s (by omega))|exact rfl)|((conv=>whnf);first|(with_reducible first|exact True.intro|refine And.intro ?_ ?_)))) <;> (try (conv=>lhs;whnf))
  refine congrArg (Own.row _ _) ?_
  rw [filter_take_succ _ (0,0) ‹k < xs.length›,if_neg (by unfold amid;simp_all),List.append_nil]
 ·refine ⟨k + 1,by omega,by omega,?_⟩
  (repeat' (first|(with_reducible first|exact True.intro|refine And.intro ?_ ?_|refine Head.mk ?_ ?_ ?_ ?_)|((conv=>lhs;whnf);first|(with_reducible first|rfl|exact vInt_s (by omega))|exact rfl)|((conv=>whnf);first|(with_reducible first|exact True.intro|refine And.intro ?_ ?_)))) <;> (try (conv=>lhs;whnf))
  refine congrArg (Own.row _ _) ?_
  rw [filter_take_succ _ (0,0) ‹k < xs.length›,if_neg (by unfold amid;simp_all),List.append_nil]
 ·exact ⟨(ax,ay),rfl⟩
 ·rw [List.take_of_length_le (by omega)];rfl
theorem map_take_succ' {α β:Type} (f:α→β) {xs:List α} {k:Nat} (d:α) (h:k < xs.length):(xs.take (k + 1)).map f=(xs.take k).map f ++ [f (xs.getD k d)]:=by
 rw [List.take_succ_eq_append_getElem h,List.map_append,getD_lt _ h];rfl
def twiceC:Con:=mkCon [.pt] (fun _=>True) fun x=>.val (.agg (cPt (twP x.1)))
theorem twice_ok:Good1 Tryz.prog n_impl_twice twiceC:=by
 refine good_ofG (tys:=tyL) (env:=[]) (envw:=[]) (envd:=[]) [] [] [] [] [] mixed tys trivial trivial trivial Tryz.func101 rfl (by kernel_rfl) (by decide) (by kernel_rfl) ?_
 have hG_:=kpz [(0,[1,2]),(1,[2])] [(0,[2]),(1,[2])] [] []
 rintro ⟨⟨(p:Int),(q:Int)⟩,⟨⟩⟩ _
 (repeat' (first|(with_reducible first|exact True.intro|refine zQ ?_|(refine zG hG_ ?_;intro K_ hK_)|(refine zR ?_;intro K_ hK_)|(refine hK_ _ _ ?_;try clear hK_ K_)|refine sq_n ?_|refine sq_r ?_|refine sq_e ?_|refine bq_n ?_|refine bq_r ?_|refine bq_q ?_|refine zB ?_|refine zX ?_|refine zT ?_|refine zK ?_|refine gq_n ?_|refine gq_r ?_|refine gq_e ?_|refine lq_n ?_|refine lq_r ?_|refine lq_e ?_|refine bq_e (by decide) ?_)|((with_reducible refine zC (b:=?b_) ?hb_ ?_ ?_);case hb_=>rfl)|((conv=>whnf);first|(with_reducible refine hK_ _ _ ?_;try clear hK_ K_)|(with_reducible refine fun (g_:Sl) (o_:Ow)=>?_)|(with_reducible first|exact True.intro|refine And.intro trivial ?_|refine And.intro ?_ ?_)|exact Nat.le_of_ble_eq_true rfl|exact Or.inl rfl|(intro h_;cases h_)|(intro h_;(try simp only [vS1] at h_))|rfl))) <;> (try (conv=>whnf)) <;> (try first|change (_:Int)≤_|change (_:Nat)≤_)
def middleC:Con:=mkCon [.room,.pt,.pt] (fun x=>x.1.length≤10) fun x=>vI (midM x.1 x.2.1 x.2.2.1)
theorem middle_ok:Good1 Tryz.prog n_impl_middle middleC:=by
 refine good_ofG (tys:=tyL) (env:=[(n_impl_twice,twiceC),(n_impl_place,placeC)]) (envw:=[]) (envd:=[]) [10] [] [] [] [] mixed tys ⟨twice_ok,place_ok,trivial⟩ trivial trivial Tryz.func70 rfl (by kernel_rfl) (by decide) (by kernel_rfl) ?_
 have hG_:=kpz [(0,[3,4,5]),(1,[3,4,5,7]),(2,[4,5,7,12,13,14]),(3,[4,5,7,12,13,14,15]),(4,[4,5,7,9,12,13,14]),(5,[4,5,7,12,13,14]),(6,[4,5,7,12,13,14]),(7,[6])] [(1,[10]),(2,[10]),(3,[10]),(4,[9,10]),(5,[10]),(6,[10]),(7,[10])] [] []
 rintro ⟨(xs:List Pt),⟨(ax:Int),(ay:Int)⟩,⟨(bx:Int),(b_y:Int)⟩,⟨⟩⟩ (h1:xs.length≤_)
 (repeat' (first|(with_reducible first|exact True.intro|refine zQ ?_|(refine zG hG_ ?_;intro K_ hK_)|(refine zR ?_;intro K_ hK_)|(refine hK_ _ _ ?_;try clear hK_ K_)|refine sq_n ?_|refine sq_r ?_|refine sq_e ?_|refine bq_n ?_|refine bq_r ?_|refine bq_q ?_|refine zB ?_|refine zX ?_|refine zT ?_|refine zK ?_|refine gq_n ?_|refine gq_r ?_|refine gq_e ?_|refine lq_n ?_|refine lq_r ?_|refine lq_e ?_|refine bq_e (by decide) ?_)|((with_reducible refine zC (b:=?b_) ?hb_ ?_ ?_);case hb_=>rfl)|((conv=>whnf);first|(with_reducible refine hK_ _ _ ?_;try clear hK_ K_)|(with_reducible refine fun (g_:Sl) (o_:Ow)=>?_)|(with_reducible first|exact True.intro|refine And.intro trivial ?_|refine And.intro ?_ ?_)|exact Nat.le_of_ble_eq_true rfl|exact Or.inl rfl|(intro h_;cases h_)|(intro h_;(try simp only [vS1] at h_))|rfl))) <;> (try (conv=>whnf)) <;> (try first|change (_:Int)≤_|change (_:Nat)≤_) <;> (try ((fail_if_success (with_reducible apply Exists.intro));(try dsimp only);(try simp only [vS1]))) <;> (try simp (disch:=omega) only [vS3,vS2] at *)
 all_goals (try (fail_if_success (with_reducible apply Exists.intro));first|with_reducible assumption|omega|exact mdl (by omega)|exact ilo1 (by omega)|exact ilo2 (by omega)|exact ihi1 (by omega) (by omega)|exact ihi2 (by omega) (by omega))
 refine awp'_loopG (α:=Nat) (fun k ver_=>[(14,vInt k)]) (fun k ver_=>[(7,10,false,.row t_impl_Point (.b .pt) ((xs.take k).map twP))]) (fun k ver_=>[]) (fun k=>k≤xs.length) (fun k=>xs.length - k) [4,5,12,13] [] (0) ?_
 conv=>whnf
 refine ⟨⟨?inv2_,?vals2_,?own2_,?fix2_⟩,?body2_⟩
 case' vals2_=>(repeat' (first|(with_reducible first|exact True.intro|refine And.intro ?_ ?_|refine Head.mk ?_ ?_ ?_ ?_)|((conv=>lhs;whnf);first|(with_reducible first|rfl|exact vInt_s (by omega))|exact rfl)|((conv=>whnf);first|(with_reducible first|exact True.intro|refine And.intro ?_ ?_)))) <;> (try (conv=>lhs;whnf))
 case' own2_=>(repeat' (first|(with_reducible first|exact True.intro|refine And.intro ?_ ?_|refine Head.mk ?_ ?_ ?_ ?_)|((conv=>lhs;whnf);first|(with_reducible first|rfl|exact vInt_s (by omega))|exact rfl)|((conv=>whnf);first|(with_reducible first|exact True.intro|refine And.intro ?_ ?_)))) <;> (try (conv=>lhs;whnf))
 case' fix2_=>(repeat' (first|(with_reducible first|exact True.intro|refine And.intro ?_ ?_|refine Head.mk ?_ ?_ ?_ ?_)|((conv=>lhs;whnf);first|(with_reducible first|rfl|exact vInt_s (by omega))|exact rfl)|((conv=>whnf);first|(with_reducible first|exact True.intro|refine And.intro ?_ ?_)))) <;> (try (conv=>lhs;whnf))
 ·exact Nat.zero_le _
 rintro k g_ o_ v_ hk
 (repeat' (first|(with_reducible first|exact True.intro|refine zQ ?_|(refine zG hG_ ?_;intro K_ hK_)|(refine zR ?_;intro K_ hK_)|(refine hK_ _ _ ?_;try clear hK_ K_)|refine sq_n ?_|refine sq_r ?_|refine sq_e ?_|refine bq_n ?_|refine bq_r ?_|refine bq_q ?_|refine zB ?_|refine zX ?_|refine zT ?_|refine zK ?_|refine gq_n ?_|refine gq_r ?_|refine gq_e ?_|refine lq_n ?_|refine lq_r ?_|refine lq_e ?_|refine bq_e (by decide) ?_)|((with_reducible refine zC (b:=?b_) ?hb_ ?_ ?_);case hb_=>rfl)|((conv=>whnf);first|(with_reducible refine hK_ _ _ ?_;try clear hK_ K_)|(with_reducible refine fun (g_:Sl) (o_:Ow)=>?_)|(with_reducible first|exact True.intro|refine And.intro trivial ?_|refine And.intro ?_ ?_)|exact Nat.le_of_ble_eq_true rfl|exact Or.inl rfl|(intro h_;cases h_)|(intro h_;(try simp only [vS1] at h_))|rfl))) <;> (try (conv=>whnf)) <;> (try first|change (_:Int)≤_|change (_:Nat)≤_) <;> (try ((fail_if_success (with_reducible apply Exists.intro));(try dsimp only);(try simp only [vS1]))) <;> (try simp (disch:=omega) only [vS3,vS2] at *)
 all_goals (try (fail_if_success (with_reducible apply Exists.intro));first|with_reducible assumption|omega|exact mdl (by omega)|exact ilo1 (by omega)|exact ilo2 (by omega)|exact ihi1 (by omega) (by omega)|exact ihi2 (by omega) (by omega))
 ·refine ⟨k + 1,by omega,by omega,?_⟩
  (repeat' (first|(with_reducible first|exact True.intro|refine And.intro ?_ ?_|refine Head.mk ?_ ?_ ?_ ?_)|((conv=>lhs;whnf);first|(with_reducible first|rfl|exact vInt_s (by omega))|exact rfl)|((conv=>whnf);first|(with_reducible first|exact True.intro|refine And.intro ?_ ?_)))) <;> (try (conv=>lhs;whnf))
  exact congrArg (Own.row _ _) (map_take_succ' twP (0,0) h_).symm
 ·rw [List.take_of_length_le (by omega)];rfl
def seesI (xs:List Pt) (a b:Pt):Bool:=(List.range xs.length).all (fun k=>!crs a b (wl xs k).1 (wl xs k).2) && (List.range ((cornersB xs a b).length - 1)).all fun k=>midM xs (pAt (cornersB xs a b) k) (pAt (cornersB xs a b) (k + 1)) != 0
def seesC:Con:=mkCon [.room,.pt,.pt] (fun x=>x.1.length≤10) fun x=>vB (seesI x.1 x.2.1 x.2.2.1)
theorem cornersB_len (xs:List Pt) (a b:Pt):(cornersB xs a b).length=2 + (xs.filter (amid a b)).length:=by unfold cornersB;rw [distSort_len];simp;omega
theorem seesI_no1 {xs:List Pt} {a b:Pt} {k:Nat} (hk:k < xs.length) (h:crs a b (wl xs k).1 (wl xs k).2=true):seesI xs a b=false:=by
 unfold seesI
 rw [show (List.range xs.length).all (fun k=>!crs a b (wl xs k).1 (wl xs k).2)=false from List.all_eq_false.2 ⟨k,List.mem_range.2 hk,by rw [h];decide⟩]
 rfl
theorem seesI_no2 {xs:List Pt} {a b:Pt} {k:Nat} (hk:k + 1 < (cornersB xs a b).length) (h:midM xs (pAt (cornersB xs a b) k) (pAt (cornersB xs a b) (k + 1))=0):seesI xs a b=false:=by
 unfold seesI
 rw [show ((List.range ((cornersB xs a b).length - 1)).all fun k=>midM xs (pAt (cornersB xs a b) k) (pAt (cornersB xs a b) (k + 1)) != 0)=false from List.all_eq_false.2 ⟨k,List.mem_range.2 (by omega),by rw [h];decide⟩]
 exact Bool.and_false _
theorem seesI_yes {xs:List Pt} {a b:Pt} (h1:∀ k,k < xs.length→crs a b (wl xs k).1 (wl xs k).2=false) (h2:∀ k,k + 1 < (cornersB xs a b).length→midM xs (pAt (cornersB xs a b) k) (pAt (cornersB xs a b) (k + 1))≠0):seesI xs a b=true:=by
 unfold seesI
 rw [Bool.and_eq_true,List.all_eq_true,List.all_eq_true]
 exact ⟨fun k hk=>by rw [h1 k (List.mem_range.1 hk)];rfl,fun k hk=>by simpa using h2 k (by have:=List.mem_range.1 hk;omega)⟩
theorem sees_ok:Good1 Tryz.prog n_impl_sees seesC:=by
 refine good_ofG (tys:=tyL) (env:=[(n_impl_wallsOf,wallsOfC),(n_impl_crosses,crossesC),(n_impl_cornersBetween,cornersBC),(n_impl_middle,middleC)]) (envw:=[]) (envd:=[]) [] [] [] [] [] mixed tys ⟨wallsOf_ok,crosses_ok,cornersBetween_ok,middle_ok,trivial⟩ trivial trivial Tryz.func69 rfl (by kernel_rfl) (by decide) (by kernel_rfl) ?_
 have hG_:=kpz [(0,[3,4,5]),(1,[3,4,5,13,14,15]),(2,[3,4,5,13,14,15,16]),(3,[3,4,5,8,13,14,15]),(4,[3,4,5,13,14,15,23]),(5,[6]),(6,[3,4,5,13,14,15]),(7,[3,9]),(8,[3,9,10]),(9,[3,9,10,32]),(10,[3,9,10]),(11,[3,9,10,46]),(12,[6]),(13,[6])] [(3,[8])] [] []
 rintro ⟨(xs:List Pt),⟨(ax:Int),(ay:Int)⟩,⟨(bx:Int),(b_y:Int)⟩,⟨⟩⟩ (h1:xs.length≤_)
 have hw:=walls_len xs
 have hc:=cornersB_len xs (ax,ay) (bx,b_y)
 have hfl:=filter_len_le (f:=amid (ax,ay) (bx,b_y)) h1 xs.length
 rw [List.take_of_length_le (Nat.le_refl _)] at hfl
 (repeat' (first|(with_reducible first|exact True.intro|refine zQ ?_|(refine zG hG_ ?_;intro K_ hK_)|(refine zR ?_;intro K_ hK_)|(refine hK_ _ _ ?_;try clear hK_ K_)|refine sq_n ?_|refine sq_r ?_|refine sq_e ?_|refine bq_n ?_|refine bq_r ?_|refine bq_q ?_|refine zB ?_|refine zX ?_|refine zT ?_|refine zK ?_|refine gq_n ?_|refine gq_r ?_|refine gq_e ?_|refine lq_n ?_|refine lq_r ?_|refine lq_e ?_|refine bq_e (by decide) ?_)|((with_reducible refine zC (b:=?b_) ?hb_ ?_ ?_);case hb_=>rfl)|((conv=>whnf);first|(with_reducible refine hK_ _ _ ?_;try clear hK_ K_)|(with_reducible refine fun (g_:Sl) (o_:Ow)=>?_)|(with_reducible first|exact True.intro|refine And.intro trivial ?_|refine And.intro ?_ ?_)|exact Nat.le_of_ble_eq_true rfl|exact Or.inl rfl|(intro h_;cases h_)|(intro h_;(try simp only [vS1] at h_))|rfl))) <;> (try (conv=>whnf)) <;> (try first|change (_:Int)≤_|change (_:Nat)≤_) <;> (try ((fail_if_success (with_reducible apply Exists.intro));(try dsimp only);(try simp only [vS1]))) <;> (try simp (disch:=omega) only [vS3,vS2] at *)
 all_goals (try (fail_if_success (with_reducible apply Exists.intro));first|with_reducible assumption|omega|exact mdl (by omega)|exact ilo1 (by omega)|exact ilo2 (by omega)|exact ihi1 (by omega) (by omega)|exact ihi2 (by omega) (by omega))
 refine awp'_loopG (α:=Nat) (fun k ver_=>[(15,vInt k)]) (fun k ver_=>[]) (fun k ver_=>[]) (fun k=>k≤xs.length∧∀ j,j < k→crs (ax,ay) (bx,b_y) (wl xs j).1 (wl xs j).2=false) (fun k=>xs.length - k) [3,4,5,13,14] [] (0) ?_
 conv=>whnf
 refine ⟨⟨?inv3_,?vals3_,?own3_,?fix3_⟩,?body3_⟩
 case' vals3_=>(repeat' (first|(with_reducible first|exact True.intro|refine And.intro ?_ ?_|refine Head.mk ?_ ?_ ?_ ?_)|((conv=>lhs;whnf);first|(with_reducible first|rfl|exact vInt_s (by omega))|exact rfl)|((conv=>whnf);first|(with_reducible first|exact True.intro|refine And.intro ?_ ?_)))) <;> (try (conv=>lhs;whnf))
 case' own3_=>(repeat' (first|(with_reducible first|exact True.intro|refine And.intro ?_ ?_|refine Head.mk ?_ ?_ ?_ ?_)|((conv=>lhs;whnf);first|(with_reducible first|rfl|exact vInt_s (by omega))|exact rfl)|((conv=>whnf);first|(with_reducible first|exact True.intro|refine And.intro ?_ ?_)))) <;> (try (conv=>lhs;whnf))
 case' fix3_=>(repeat' (first|(with_reducible first|exact True.intro|refine And.intro ?_ ?_|refine Head.mk ?_ ?_ ?_ ?_)|((conv=>lhs;whnf);first|(with_reducible first|rfl|exact vInt_s (by omega))|exact rfl)|((conv=>whnf);first|(with_reducible first|exact True.intro|refine And.intro ?_ ?_)))) <;> (try (conv=>lhs;whnf))
 ·exact ⟨Nat.zero_le _,fun j hj=>absurd hj (by omega)⟩
 rintro k g_ o_ v_ ⟨hk,hall⟩
 (repeat' (first|(with_reducible first|exact True.intro|refine zQ ?_|(refine zG hG_ ?_;intro K_ hK_)|(refine zR ?_;intro K_ hK_)|(refine hK_ _ _ ?_;try clear hK_ K_)|refine sq_n ?_|refine sq_r ?_|refine sq_e ?_|refine bq_n ?_|refine bq_r ?_|refine bq_q ?_|refine zB ?_|refine zX ?_|refine zT ?_|refine zK ?_|refine gq_n ?_|refine gq_r ?_|refine gq_e ?_|refine lq_n ?_|refine lq_r ?_|refine lq_e ?_|refine bq_e (by decide) ?_)|((with_reducible refine zC (b:=?b_) ?hb_ ?_ ?_);case hb_=>rfl)|((conv=>whnf);first|(with_reducible refine hK_ _ _ ?_;try clear hK_ K_)|(with_reducible refine fun (g_:Sl) (o_:Ow)=>?_)|(with_reducible first|exact True.intro|refine And.intro trivial ?_|refine And.intro ?_ ?_)|exact Nat.le_of_ble_eq_true rfl|exact Or.inl rfl|(intro h_;cases h_)|(intro h_;(try simp only [vS1] at h_))|rfl))) <;> (try (conv=>whnf)) <;> (try first|change (_:Int)≤_|change (_:Nat)≤_) <;> (try ((fail_if_success (with_reducible apply Exists.intro));(try dsimp only);(try simp only [vS1]))) <;> (try simp (disch:=omega) only [vS3,vS2] at *)
 all_goals (try (fail_if_success (with_reducible apply Exists.intro));first|with_reducible assumption|omega|exact mdl (by omega)|exact ilo1 (by omega)|exact ilo2 (by omega)|exact ihi1 (by omega) (by omega)|exact ihi2 (by omega) (by omega))
 ·rw [walls_get (by omega)] at *
  exact (seesI_no1 (k:=k) (by omega) (by assumption)).symm
 ·rw [walls_get (by omega)] at *
  refine ⟨k + 1,by omega,⟨by omega,fun j hj=>?_⟩,by (repeat' (first|(with_reducible first|exact True.intro|refine And.intro ?_ ?_|refine Head.mk ?_ ?_ ?_ ?_)|((conv=>lhs;whnf);first|(with_reducible first|rfl|exact vInt_s (by omega))|exact rfl)|((conv=>whnf);first|(with_reducible first|exact True.intro|refine And.intro ?_ ?_)))) <;> (try (conv=>lhs;whnf))⟩
  rcases Nat.lt_or_ge j k with h5|h5
  ·exact hall j h5
  ·rw [show j=k by omega];assumption
 have hall2:∀ j,j < xs.length→crs (ax,ay) (bx,b_y) (wl xs j).1 (wl xs j).2=false:=fun j hj=>hall j (by omega)
 refine awp'_loopG (α:=Nat) (fun i ver_=>[(10,vInt (i + 1))]) (fun i ver_=>[]) (fun i ver_=>[]) (fun i=>i + 1≤(cornersB xs (ax,ay) (bx,b_y)).length∧∀ j,j < i→midM xs (pAt (cornersB xs (ax,ay) (bx,b_y)) j) (pAt (cornersB xs (ax,ay) (bx,b_y)) (j + 1))≠0) (fun i=>20 - i) [3,9] [] (0) ?_
 conv=>whnf
 refine ⟨⟨?inv4_,?vals4_,?own4_,?fix4_⟩,?body4_⟩
 case' vals4_=>(repeat' (first|(with_reducible first|exact True.intro|refine And.intro ?_ ?_|refine Head.mk ?_ ?_ ?_ ?_)|((conv=>lhs;whnf);first|(with_reducible first|rfl|exact vInt_s (by omega))|exact rfl)|((conv=>whnf);first|(with_reducible first|exact True.intro|refine And.intro ?_ ?_)))) <;> (try (conv=>lhs;whnf))
 case' own4_=>(repeat' (first|(with_reducible first|exact True.intro|refine And.intro ?_ ?_|refine Head.mk ?_ ?_ ?_ ?_)|((conv=>lhs;whnf);first|(with_reducible first|rfl|exact vInt_s (by omega))|exact rfl)|((conv=>whnf);first|(with_reducible first|exact True.intro|refine And.intro ?_ ?_)))) <;> (try (conv=>lhs;whnf))
 case' fix4_=>(repeat' (first|(with_reducible first|exact True.intro|refine And.intro ?_ ?_|refine Head.mk ?_ ?_ ?_ ?_)|((conv=>lhs;whnf);first|(with_reducible first|rfl|exact vInt_s (by omega))|exact rfl)|((conv=>whnf);first|(with_reducible first|exact True.intro|refine And.intro ?_ ?_)))) <;> (try (conv=>lhs;whnf))
 ·exact ⟨by omega,fun j hj=>absurd hj (by omega)⟩
 rintro i g_ o_ v_ ⟨hi,hmid⟩
 (repeat' (first|(with_reducible first|exact True.intro|refine zQ ?_|(refine zG hG_ ?_;intro K_ hK_)|(refine zR ?_;intro K_ hK_)|(refine hK_ _ _ ?_;try clear hK_ K_)|refine sq_n ?_|refine sq_r ?_|refine sq_e ?_|refine bq_n ?_|refine bq_r ?_|refine bq_q ?_|refine zB ?_|refine zX ?_|refine zT ?_|refine zK ?_|refine gq_n ?_|refine gq_r ?_|refine gq_e ?_|refine lq_n ?_|refine lq_r ?_|refine lq_e ?_|refine bq_e (by decide) ?_)|((with_reducible refine zC (b:=?b_) ?hb_ ?_ ?_);case hb_=>rfl)|((conv=>whnf);first|(with_reducible refine hK_ _ _ ?_;try clear hK_ K_)|(with_reducible refine fun (g_:Sl) (o_:Ow)=>?_)|(with_reducible first|exact True.intro|refine And.intro trivial ?_|refine And.intro ?_ ?_)|exact Nat.le_of_ble_eq_true rfl|exact Or.inl rfl|(intro h_;cases h_)|(intro h_;(try simp only [vS1] at h_))|rfl))) <;> (try (conv=>whnf)) <;> (try first|change (_:Int)≤_|change (_:Nat)≤_) <;> (try ((fail_if_success (with_reducible apply Exists.intro));(try dsimp only);(try simp only [vS1]))) <;> (try simp (disch:=omega) only [vS3,vS2] at *)
 all_goals (try (fail_if_success (with_reducible apply Exists.intro));first|with_reducible assumption|omega|exact mdl (by omega)|exact ilo1 (by omega)|exact ilo2 (by omega)|exact ihi1 (by omega) (by omega)|exact ihi2 (by omega) (by omega))
 ·rw [show ((i:Int) + 1 - 1).toNat=i by omega,show ((i:Int) + 1).toNat=i + 1 by omega] at h_
  exact (seesI_no2 (by omega) h_).symm
 ·rw [show ((i:Int) + 1 - 1).toNat=i by omega,show ((i:Int) + 1).toNat=i + 1 by omega] at h_
  refine ⟨i + 1,by omega,⟨by omega,fun j hj=>?_⟩,by (repeat' (first|(with_reducible first|exact True.intro|refine And.intro ?_ ?_|refine Head.mk ?_ ?_ ?_ ?_)|((conv=>lhs;whnf);first|(with_reducible first|rfl|exact vInt_s (by omega))|exact rfl)|((conv=>whnf);first|(with_reducible first|exact True.intro|refine And.intro ?_ ?_)))) <;> (try (conv=>lhs;whnf))⟩
  rcases Nat.lt_or_ge j i with h5|h5
  ·exact hmid j h5
  ·rw [show j=i by omega];exact h_
 ·exact (seesI_yes hall2 fun j hj=>hmid j (by omega)).symm
theorem doubled_ok:Good1 Tryz.prog n_spec_l08Doubled twiceC:=by
 refine good_ofG (tys:=tyL) (env:=[]) (envw:=[]) (envd:=[]) [] [] [] [] [] mixed tys trivial trivial trivial Tryz.func116 rfl (by kernel_rfl) (by decide) (by kernel_rfl) ?_
 have hG_:=kpz [(0,[1,2]),(1,[2])] [(0,[2]),(1,[2])] [] []
 rintro ⟨⟨(p:Int),(q:Int)⟩,⟨⟩⟩ _
 (repeat' (first|(with_reducible first|exact True.intro|refine zQ ?_|(refine zG hG_ ?_;intro K_ hK_)|(refine zR ?_;intro K_ hK_)|(refine hK_ _ _ ?_;try clear hK_ K_)|refine sq_n ?_|refine sq_r ?_|refine sq_e ?_|refine bq_n ?_|refine bq_r ?_|refine bq_q ?_|refine zB ?_|refine zX ?_|refine zT ?_|refine zK ?_|refine gq_n ?_|refine gq_r ?_|refine gq_e ?_|refine lq_n ?_|refine lq_r ?_|refine lq_e ?_|refine bq_e (by decide) ?_)|((with_reducible refine zC (b:=?b_) ?hb_ ?_ ?_);case hb_=>rfl)|((conv=>whnf);first|(with_reducible refine hK_ _ _ ?_;try clear hK_ K_)|(with_reducible refine fun (g_:Sl) (o_:Ow)=>?_)|(with_reducible first|exact True.intro|refine And.intro trivial ?_|refine And.intro ?_ ?_)|exact Nat.le_of_ble_eq_true rfl|exact Or.inl rfl|(intro h_;cases h_)|(intro h_;(try simp only [vS1] at h_))|rfl))) <;> (try (conv=>whnf)) <;> (try first|change (_:Int)≤_|change (_:Nat)≤_)
def l08SeesC:Con:=mkCon [.sl (.b .pt),.pt,.pt] (fun x=>x.1.length≤10) fun x=>vB (seesS x.1 x.2.1 x.2.2.1)
theorem l08Sees_ok:Good1 Tryz.prog n_spec_l08Sees l08SeesC:=by
 refine good_ofG (tys:=tyL) (env:=[(n_spec_l03Cross,l03CrossC),(n_spec_l02Between,onC),(n_spec_l08Doubled,twiceC),(n_spec_l05Holds,holdsC)]) (envw:=[]) (envd:=[]) [20,21] [15] [] [] [] mixed tys ⟨l03Cross_ok,l02Between_ok,doubled_ok,l05Holds_ok,trivial⟩ trivial trivial Tryz.func114 rfl (by kernel_rfl) (by decide) (by kernel_rfl) ?_
 have hG_:=kpz [(0,[0,4,5]),(1,[0,4,5,7]),(2,[0,4,5,7,8]),(3,[0,4,5,7,8,9]),(4,[0,4,5,7,8,9,10]),(5,[0,4,5,7,8,9,10,24]),(6,[0,4,5,7,8,9,10]),(7,[0,4,5,7,8,9,10,40]),(8,[6]),(9,[0,4,5,7,8,9,10,63]),(10,[0,4,5,7,8,9,10]),(11,[0,4,5,7,8,9,10]),(12,[8,9,11]),(13,[8,9,11,82]),(14,[8,9,11]),(15,[8,9,11,12]),(16,[8,9,11,12,87]),(17,[8,9,11,12]),(18,[8,9,11,12,13]),(19,[8,9,11,12,13,14]),(20,[8,9,11,12,13,14,93]),(21,[8,9,11,12,13,14]),(22,[8,9,11,12,13,14]),(23,[8,9,11,12,13,15]),(24,[8,9,11,12,152]),(25,[6]),(26,[6])] [(2,[20]),(3,[20,21]),(4,[20,21]),(5,[20,21]),(6,[20,21]),(7,[20,21]),(8,[20,21]),(9,[20,21]),(10,[20,21]),(11,[20,21]),(12,[20,21]),(13,[20,21]),(14,[20,21]),(15,[20,21]),(16,[20,21]),(17,[20,21]),(18,[20,21]),(19,[20,21]),(20,[20,21]),(21,[20,21]),(22,[20,21]),(23,[15,20,21]),(24,[20,21]),(25,[20,21]),(26,[20,21])] [] []
 rintro ⟨(xs:List Pt),⟨(ax:Int),(ay:Int)⟩,⟨(bx:Int),(b_y:Int)⟩,⟨⟩⟩ (h1:xs.length≤_)
 have hfl:=filter_len_le (f:=amid (ax,ay) (bx,b_y)) h1
 (repeat' (first|(with_reducible first|exact True.intro|refine zQ ?_|(refine zG hG_ ?_;intro K_ hK_)|(refine zR ?_;intro K_ hK_)|(refine hK_ _ _ ?_;try clear hK_ K_)|refine sq_n ?_|refine sq_r ?_|refine sq_e ?_|refine bq_n ?_|refine bq_r ?_|refine bq_q ?_|refine zB ?_|refine zX ?_|refine zT ?_|refine zK ?_|refine gq_n ?_|refine gq_r ?_|refine gq_e ?_|refine lq_n ?_|refine lq_r ?_|refine lq_e ?_|refine bq_e (by decide) ?_)|((with_reducible refine zC (b:=?b_) ?hb_ ?_ ?_);case hb_=>rfl)|((conv=>whnf);first|(with_reducible refine hK_ _ _ ?_;try clear hK_ K_)|(with_reducible refine fun (g_:Sl) (o_:Ow)=>?_)|(with_reducible first|exact True.intro|refine And.intro trivial ?_|refine And.intro ?_ ?_)|exact Nat.le_of_ble_eq_true rfl|exact Or.inl rfl|(intro h_;cases h_)|(intro h_;(try simp only [vS1] at h_))|rfl))) <;> (try (conv=>whnf)) <;> (try first|change (_:Int)≤_|change (_:Nat)≤_) <;> (try ((fail_if_success (with_reducible apply Exists.intro));(try dsimp only);(try simp only [vS1]))) <;> (try simp (disch:=omega) only [vS3,vS2] at *)
 all_goals (try (fail_if_success (with_reducible apply Exists.intro));first|with_reducible assumption|omega|exact mdl (by omega)|exact ilo1 (by omega)|exact ilo2 (by omega)|exact ihi1 (by omega) (by omega)|exact ihi2 (by omega) (by omega))
 refine awp'_loopG (α:=Nat) (fun k ver_=>[(10,vInt k)]) (fun k ver_=>[(8,20,false,.row t_impl_Point (.b .pt) ([(ax,ay),(bx,b_y)] ++ (xs.take k).filter (amid (ax,ay) (bx,b_y)))),(9,21,false,.row t_impl_Point (.b .pt) ((xs.take k).map twP))]) (fun k ver_=>[(15,⟨ver_ 15,.dead⟩)]) (fun k=>k≤xs.length∧∀ j,j < k→crs (ax,ay) (bx,b_y) (wl xs j).1 (wl xs j).2=false) (fun k=>xs.length - k) [0,4,5,7] [] (0) ?_
 conv=>whnf
 refine ⟨⟨?inv1_,?vals1_,?own1_,?fix1_⟩,?body1_⟩
 case' vals1_=>(repeat' (first|(with_reducible first|exact True.intro|refine And.intro ?_ ?_|refine Head.mk ?_ ?_ ?_ ?_)|((conv=>lhs;whnf);first|(with_reducible first|rfl|exact vInt_s (by omega))|exact rfl)|((conv=>whnf);first|(with_reducible first|exact True.intro|refine And.intro ?_ ?_)))) <;> (try (conv=>lhs;whnf))
 case' own1_=>(repeat' (first|(with_reducible first|exact True.intro|refine And.intro ?_ ?_|refine Head.mk ?_ ?_ ?_ ?_)|((conv=>lhs;whnf);first|(with_reducible first|rfl|exact vInt_s (by omega))|exact rfl)|((conv=>whnf);first|(with_reducible first|exact True.intro|refine And.intro ?_ ?_)))) <;> (try (conv=>lhs;whnf))
 case' fix1_=>(repeat' (first|(with_reducible first|exact True.intro|refine And.intro ?_ ?_|refine Head.mk ?_ ?_ ?_ ?_)|((conv=>lhs;whnf);first|(with_reducible first|rfl|exact vInt_s (by omega))|exact rfl)|((conv=>whnf);first|(with_reducible first|exact True.intro|refine And.intro ?_ ?_)))) <;> (try (conv=>lhs;whnf))
 ·exact ⟨Nat.zero_le _,fun j hj=>absurd hj (by omega)⟩
 rintro k g_ o_ v_ ⟨hk,hall⟩
 have hl:=hfl k
 (repeat' (first|(with_reducible first|exact True.intro|refine zQ ?_|(refine zG hG_ ?_;intro K_ hK_)|(refine zR ?_;intro K_ hK_)|(refine hK_ _ _ ?_;try clear hK_ K_)|refine sq_n ?_|refine sq_r ?_|refine sq_e ?_|refine bq_n ?_|refine bq_r ?_|refine bq_q ?_|refine zB ?_|refine zX ?_|refine zT ?_|refine zK ?_|refine gq_n ?_|refine gq_r ?_|refine gq_e ?_|refine lq_n ?_|refine lq_r ?_|refine lq_e ?_|refine bq_e (by decide) ?_)|((with_reducible refine zC (b:=?b_) ?hb_ ?_ ?_);case hb_=>rfl)|((conv=>whnf);first|(with_reducible refine hK_ _ _ ?_;try clear hK_ K_)|(with_reducible refine fun (g_:Sl) (o_:Ow)=>?_)|(with_reducible first|exact True.intro|refine And.intro trivial ?_|refine And.intro ?_ ?_)|exact Nat.le_of_ble_eq_true rfl|exact Or.inl rfl|(intro h_;cases h_)|(intro h_;(try simp only [vS1] at h_))|rfl))) <;> (try (conv=>whnf)) <;> (try first|change (_:Int)≤_|change (_:Nat)≤_) <;> (try ((fail_if_success (with_reducible apply Exists.intro));(try dsimp only);(try simp only [vS1]))) <;> (try simp (disch:=omega) only [vS3,vS2] at *)
 all_goals (try (fail_if_success (with_reducible apply Exists.intro));first|with_reducible assumption|omega|exact mdl (by omega)|exact ilo1 (by omega)|exact ilo2 (by omega)|exact ihi1 (by omega) (by omega)|exact ihi2 (by omega) (by omega))
 ·exact (seesS_no1 (k:=k) ‹k < xs.length› h_).symm
 ·have hin:∀ j,j < k + 1→crs (ax,ay) (bx,b_y) (wl xs j).1 (wl xs j).2=false:=fun j hj=>by
   rcases Nat.lt_or_ge j k with h5|h5
   ·exact hall j h5
   ·rw [show j=k by omega];exact h_
  refine ⟨k + 1,by omega,⟨by omega,hin⟩,?_⟩
  (repeat' (first|(with_reducible first|exact True.intro|refine And.intro ?_ ?_|refine Head.mk ?_ ?_ ?_ ?_)|((conv=>lhs;whnf);first|(with_reducible first|rfl|exact vInt_s (by omega))|exact rfl)|((conv=>whnf);first|(with_reducible first|exact True.intro|refine And.intro ?_ ?_)))) <;> (try (conv=>lhs;whnf))
  ·refine congrArg (Own.row _ _) ?_
   rw [filter_take_succ _ (0,0) ‹k < xs.length›,if_pos (amid_yes ‹_› ‹_› ‹_›),List.append_assoc]
  ·exact congrArg (Own.row _ _) (map_take_succ' twP (0,0) ‹k < xs.length›).symm
 ·have hin:∀ j,j < k + 1→crs (ax,ay) (bx,b_y) (wl xs j).1 (wl xs j).2=false:=fun j hj=>by
   rcases Nat.lt_or_ge j k with h5|h5
   ·exact hall j h5
   ·rw [show j=k by omega];exact h_
  refine ⟨k + 1,by omega,⟨by omega,hin⟩,?_⟩
  (repeat' (first|(with_reducible first|exact True.intro|refine And.intro ?_ ?_|refine Head.mk ?_ ?_ ?_ ?_)|((conv=>lhs;whnf);first|(with_reducible first|rfl|exact vInt_s (by omega))|exact rfl)|((conv=>whnf);first|(with_reducible first|exact True.intro|refine And.intro ?_ ?_)))) <;> (try (conv=>lhs;whnf))
  ·refine congrArg (Own.row _ _) ?_
   rw [filter_take_succ _ (0,0) ‹k < xs.length›,if_neg (by unfold amid;simp_all),List.append_nil]
  ·exact congrArg (Own.row _ _) (map_take_succ' twP (0,0) ‹k < xs.length›).symm
 ·have hin:∀ j,j < k + 1→crs (ax,ay) (bx,b_y) (wl xs j).1 (wl xs j).2=false:=fun j hj=>by
   rcases Nat.lt_or_ge j k with h5|h5
   ·exact hall j h5
   ·rw [show j=k by omega];exact h_
  refine ⟨k + 1,by omega,⟨by omega,hin⟩,?_⟩
  (repeat' (first|(with_reducible first|exact True.intro|refine And.intro ?_ ?_|refine Head.mk ?_ ?_ ?_ ?_)|((conv=>lhs;whnf);first|(with_reducible first|rfl|exact vInt_s (by omega))|exact rfl)|((conv=>whnf);first|(with_reducible first|exact True.intro|refine And.intro ?_ ?_)))) <;> (try (conv=>lhs;whnf))
  ·refine congrArg (Own.row _ _) ?_
   rw [filter_take_succ _ (0,0) ‹k < xs.length›,if_neg (by unfold amid;simp_all),List.append_nil]
  ·exact congrArg (Own.row _ _) (map_take_succ' twP (0,0) ‹k < xs.length›).symm
 ·have hin:∀ j,j < k + 1→crs (ax,ay) (bx,b_y) (wl xs j).1 (wl xs j).2=false:=fun j hj=>by
   rcases Nat.lt_or_ge j k with h5|h5
   ·exact hall j h5
   ·rw [show j=k by omega];exact h_
  refine ⟨k + 1,by omega,⟨by omega,hin⟩,?_⟩
  (repeat' (first|(with_reducible first|exact True.intro|refine And.intro ?_ ?_|refine Head.mk ?_ ?_ ?_ ?_)|((conv=>lhs;whnf);first|(with_reducible first|rfl|exact vInt_s (by omega))|exact rfl)|((conv=>whnf);first|(with_reducible first|exact True.intro|refine And.intro ?_ ?_)))) <;> (try (conv=>lhs;whnf))
  ·refine congrArg (Own.row _ _) ?_
   rw [filter_take_succ _ (0,0) ‹k < xs.length›,if_neg (by unfold amid;simp_all),List.append_nil]
  ·exact congrArg (Own.row _ _) (map_take_succ' twP (0,0) ‹k < xs.length›).symm
 obtain rfl:k=xs.length:=by omega
 obtain ⟨ps,hps⟩:∃ ps,ps=cutsOf xs (ax,ay) (bx,b_y):=⟨_,rfl⟩
 have hpl:ps.length≤12:=by rw [hps];have:=hfl xs.length;rw [List.take_of_length_le (Nat.le_refl _)] at this;simp;omega
 refine awp'_loopG (α:=Nat) (fun i ver_=>[(11,vInt i)]) (fun i ver_=>[(8,20,false,.row t_impl_Point (.b .pt) ps),(9,21,false,.row t_impl_Point (.b .pt) (xs.map twP))]) (fun i ver_=>[(15,⟨ver_ 15,.dead⟩)]) (fun i=>i≤ps.length∧∀ j,j < i→∀ k,k < j→badPair xs ps j k=false) (fun i=>ps.length - i) [] [] (0) ?_
 conv=>whnf
 refine ⟨⟨?inv2_,?vals2_,?own2_,?fix2_⟩,?body2_⟩
 case' vals2_=>(repeat' (first|(with_reducible first|exact True.intro|refine And.intro ?_ ?_|refine Head.mk ?_ ?_ ?_ ?_)|((conv=>lhs;whnf);first|(with_reducible first|rfl|exact vInt_s (by omega))|exact rfl)|((conv=>whnf);first|(with_reducible first|exact True.intro|refine And.intro ?_ ?_)))) <;> (try (conv=>lhs;whnf))
 case' own2_=>(repeat' (first|(with_reducible first|exact True.intro|refine And.intro ?_ ?_|refine Head.mk ?_ ?_ ?_ ?_)|((conv=>lhs;whnf);first|(with_reducible first|rfl|exact vInt_s (by omega))|exact rfl)|((conv=>whnf);first|(with_reducible first|exact True.intro|refine And.intro ?_ ?_)))) <;> (try (conv=>lhs;whnf))
 case' fix2_=>(repeat' (first|(with_reducible first|exact True.intro|refine And.intro ?_ ?_|refine Head.mk ?_ ?_ ?_ ?_)|((conv=>lhs;whnf);first|(with_reducible first|rfl|exact vInt_s (by omega))|exact rfl)|((conv=>whnf);first|(with_reducible first|exact True.intro|refine And.intro ?_ ?_)))) <;> (try (conv=>lhs;whnf))
 ·exact congrArg (Own.row _ _) (by rw [hps,List.take_of_length_le (Nat.le_refl _)])
 ·exact congrArg (Own.row _ _) (by rw [List.take_of_length_le (Nat.le_refl _)])
 ·exact ⟨Nat.zero_le _,fun j hj=>absurd hj (by omega)⟩
 rintro i g_ o_ v_ ⟨hi,hbad⟩
 (repeat' (first|(with_reducible first|exact True.intro|refine zQ ?_|(refine zG hG_ ?_;intro K_ hK_)|(refine zR ?_;intro K_ hK_)|(refine hK_ _ _ ?_;try clear hK_ K_)|refine sq_n ?_|refine sq_r ?_|refine sq_e ?_|refine bq_n ?_|refine bq_r ?_|refine bq_q ?_|refine zB ?_|refine zX ?_|refine zT ?_|refine zK ?_|refine gq_n ?_|refine gq_r ?_|refine gq_e ?_|refine lq_n ?_|refine lq_r ?_|refine lq_e ?_|refine bq_e (by decide) ?_)|((with_reducible refine zC (b:=?b_) ?hb_ ?_ ?_);case hb_=>rfl)|((conv=>whnf);first|(with_reducible refine hK_ _ _ ?_;try clear hK_ K_)|(with_reducible refine fun (g_:Sl) (o_:Ow)=>?_)|(with_reducible first|exact True.intro|refine And.intro trivial ?_|refine And.intro ?_ ?_)|exact Nat.le_of_ble_eq_true rfl|exact Or.inl rfl|(intro h_;cases h_)|(intro h_;(try simp only [vS1] at h_))|rfl))) <;> (try (conv=>whnf)) <;> (try first|change (_:Int)≤_|change (_:Nat)≤_) <;> (try ((fail_if_success (with_reducible apply Exists.intro));(try dsimp only);(try simp only [vS1]))) <;> (try simp (disch:=omega) only [vS3,vS2] at *)
 all_goals (try (fail_if_success (with_reducible apply Exists.intro));first|with_reducible assumption|omega|exact mdl (by omega)|exact ilo1 (by omega)|exact ilo2 (by omega)|exact ihi1 (by omega) (by omega)|exact ihi2 (by omega) (by omega))
 refine awp'_loopG (α:=Nat) (fun k ver_=>[(12,vInt k)]) (fun k ver_=>[]) (fun k ver_=>[(15,⟨ver_ 15,.dead⟩)]) (fun k=>k≤i∧∀ j,j < k→badPair xs ps i j=false) (fun k=>i - k) [8,9,11] [20,21] (0) ?_
 conv=>whnf
 refine ⟨⟨?inv3_,?vals3_,?own3_,?fix3_⟩,?body3_⟩
 case' vals3_=>(repeat' (first|(with_reducible first|exact True.intro|refine And.intro ?_ ?_|refine Head.mk ?_ ?_ ?_ ?_)|((conv=>lhs;whnf);first|(with_reducible first|rfl|exact vInt_s (by omega))|exact rfl)|((conv=>whnf);first|(with_reducible first|exact True.intro|refine And.intro ?_ ?_)))) <;> (try (conv=>lhs;whnf))
 case' own3_=>(repeat' (first|(with_reducible first|exact True.intro|refine And.intro ?_ ?_|refine Head.mk ?_ ?_ ?_ ?_)|((conv=>lhs;whnf);first|(with_reducible first|rfl|exact vInt_s (by omega))|exact rfl)|((conv=>whnf);first|(with_reducible first|exact True.intro|refine And.intro ?_ ?_)))) <;> (try (conv=>lhs;whnf))
 case' fix3_=>(repeat' (first|(with_reducible first|exact True.intro|refine And.intro ?_ ?_|refine Head.mk ?_ ?_ ?_ ?_)|((conv=>lhs;whnf);first|(with_reducible first|rfl|exact vInt_s (by omega))|exact rfl)|((conv=>whnf);first|(with_reducible first|exact True.intro|refine And.intro ?_ ?_)))) <;> (try (conv=>lhs;whnf))
 ·exact ⟨Nat.zero_le _,fun j hj=>absurd hj (by omega)⟩
 rintro k g_ o_ v_ ⟨hk,hbk⟩
 (repeat' (first|(with_reducible first|exact True.intro|refine zQ ?_|(refine zG hG_ ?_;intro K_ hK_)|(refine zR ?_;intro K_ hK_)|(refine hK_ _ _ ?_;try clear hK_ K_)|refine sq_n ?_|refine sq_r ?_|refine sq_e ?_|refine bq_n ?_|refine bq_r ?_|refine bq_q ?_|refine zB ?_|refine zX ?_|refine zT ?_|refine zK ?_|refine gq_n ?_|refine gq_r ?_|refine gq_e ?_|refine lq_n ?_|refine lq_r ?_|refine lq_e ?_|refine bq_e (by decide) ?_)|((with_reducible refine zC (b:=?b_) ?hb_ ?_ ?_);case hb_=>rfl)|((conv=>whnf);first|(with_reducible refine hK_ _ _ ?_;try clear hK_ K_)|(with_reducible refine fun (g_:Sl) (o_:Ow)=>?_)|(with_reducible first|exact True.intro|refine And.intro trivial ?_|refine And.intro ?_ ?_)|exact Nat.le_of_ble_eq_true rfl|exact Or.inl rfl|(intro h_;cases h_)|(intro h_;(try simp only [vS1] at h_))|rfl))) <;> (try (conv=>whnf)) <;> (try first|change (_:Int)≤_|change (_:Nat)≤_) <;> (try ((fail_if_success (with_reducible apply Exists.intro));(try dsimp only);(try simp only [vS1]))) <;> (try simp (disch:=omega) only [vS3,vS2] at *)
 all_goals (try (fail_if_success (with_reducible apply Exists.intro));first|with_reducible assumption|omega|exact mdl (by omega)|exact ilo1 (by omega)|exact ilo2 (by omega)|exact ihi1 (by omega) (by omega)|exact ihi2 (by omega) (by omega))
 refine awp'_loopG (α:=Nat) (fun j ver_=>[(14,vInt j),(13,vBool (freeTo ps i k j))]) (fun j ver_=>[]) (fun j ver_=>[(15,⟨ver_ 15,.dead⟩)]) (fun j=>j≤ps.length) (fun j=>ps.length - j) [8,9,11,12] [20,21] (0) ?_
 conv=>whnf
 refine ⟨⟨?inv4_,?vals4_,?own4_,?fix4_⟩,?body4_⟩
 case' vals4_=>(repeat' (first|(with_reducible first|exact True.intro|refine And.intro ?_ ?_|refine Head.mk ?_ ?_ ?_ ?_)|((conv=>lhs;whnf);first|(with_reducible first|rfl|exact vInt_s (by omega))|exact rfl)|((conv=>whnf);first|(with_reducible first|exact True.intro|refine And.intro ?_ ?_)))) <;> (try (conv=>lhs;whnf))
 case' own4_=>(repeat' (first|(with_reducible first|exact True.intro|refine And.intro ?_ ?_|refine Head.mk ?_ ?_ ?_ ?_)|((conv=>lhs;whnf);first|(with_reducible first|rfl|exact vInt_s (by omega))|exact rfl)|((conv=>whnf);first|(with_reducible first|exact True.intro|refine And.intro ?_ ?_)))) <;> (try (conv=>lhs;whnf))
 case' fix4_=>(repeat' (first|(with_reducible first|exact True.intro|refine And.intro ?_ ?_|refine Head.mk ?_ ?_ ?_ ?_)|((conv=>lhs;whnf);first|(with_reducible first|rfl|exact vInt_s (by omega))|exact rfl)|((conv=>whnf);first|(with_reducible first|exact True.intro|refine And.intro ?_ ?_)))) <;> (try (conv=>lhs;whnf))
 ·exact Nat.zero_le _
 rintro j g_ o_ v_ hj
 have hfull:¬ j < ps.length→j=ps.length:=fun h=>by omega
 (repeat' (first|(with_reducible first|exact True.intro|refine zQ ?_|(refine zG hG_ ?_;intro K_ hK_)|(refine zR ?_;intro K_ hK_)|(refine hK_ _ _ ?_;try clear hK_ K_)|refine sq_n ?_|refine sq_r ?_|refine sq_e ?_|refine bq_n ?_|refine bq_r ?_|refine bq_q ?_|refine zB ?_|refine zX ?_|refine zT ?_|refine zK ?_|refine gq_n ?_|refine gq_r ?_|refine gq_e ?_|refine lq_n ?_|refine lq_r ?_|refine lq_e ?_|refine bq_e (by decide) ?_)|((with_reducible refine zC (b:=?b_) ?hb_ ?_ ?_);case hb_=>rfl)|((conv=>whnf);first|(with_reducible refine hK_ _ _ ?_;try clear hK_ K_)|(with_reducible refine fun (g_:Sl) (o_:Ow)=>?_)|(with_reducible first|exact True.intro|refine And.intro trivial ?_|refine And.intro ?_ ?_)|exact Nat.le_of_ble_eq_true rfl|exact Or.inl rfl|(intro h_;cases h_)|(intro h_;(try simp only [vS1] at h_))|rfl))) <;> (try (conv=>whnf)) <;> (try first|change (_:Int)≤_|change (_:Nat)≤_) <;> (try ((fail_if_success (with_reducible apply Exists.intro));(try dsimp only);(try simp only [vS1]))) <;> (try simp (disch:=omega) only [vS3,vS2] at *)
 all_goals (try (fail_if_success (with_reducible apply Exists.intro));first|with_reducible assumption|omega|exact mdl (by omega)|exact ilo1 (by omega)|exact ilo2 (by omega)|exact ihi1 (by omega) (by omega)|exact ihi2 (by omega) (by omega))
 ·refine ⟨j + 1,by omega,by omega,?_⟩
  (repeat' (first|(with_reducible first|exact True.intro|refine And.intro ?_ ?_|refine Head.mk ?_ ?_ ?_ ?_)|((conv=>lhs;whnf);first|(with_reducible first|rfl|exact vInt_s (by omega))|exact rfl)|((conv=>whnf);first|(with_reducible first|exact True.intro|refine And.intro ?_ ?_)))) <;> (try (conv=>lhs;whnf))
  exact congrArg vBool (by rw [freeTo_succ,‹freeTo ps i k j=true›,Bool.true_and];unfold freeAt;rw [decide_eq_true h_,Bool.true_or])
 ·refine ⟨j + 1,by omega,by omega,?_⟩
  (repeat' (first|(with_reducible first|exact True.intro|refine And.intro ?_ ?_|refine Head.mk ?_ ?_ ?_ ?_)|((conv=>lhs;whnf);first|(with_reducible first|rfl|exact vInt_s (by omega))|exact rfl)|((conv=>whnf);first|(with_reducible first|exact True.intro|refine And.intro ?_ ?_)))) <;> (try (conv=>lhs;whnf))
  exact congrArg vBool (by rw [freeTo_succ,‹freeTo ps i k j=true›,Bool.true_and];unfold freeAt;rw [decide_eq_true h_,Bool.true_or,Bool.or_true])
 ·refine ⟨j + 1,by omega,by omega,?_⟩
  (repeat' (first|(with_reducible first|exact True.intro|refine And.intro ?_ ?_|refine Head.mk ?_ ?_ ?_ ?_)|((conv=>lhs;whnf);first|(with_reducible first|rfl|exact vInt_s (by omega))|exact rfl)|((conv=>whnf);first|(with_reducible first|exact True.intro|refine And.intro ?_ ?_)))) <;> (try (conv=>lhs;whnf))
  exact congrArg vBool (by rw [freeTo_succ,‹freeTo ps i k j=true›,Bool.true_and];unfold freeAt;rw [decide_eq_false ‹¬j=i›,decide_eq_false h_,Bool.false_or,Bool.false_or])
 ·refine ⟨j + 1,by omega,by omega,?_⟩
  (repeat' (first|(with_reducible first|exact True.intro|refine And.intro ?_ ?_|refine Head.mk ?_ ?_ ?_ ?_)|((conv=>lhs;whnf);first|(with_reducible first|rfl|exact vInt_s (by omega))|exact rfl)|((conv=>whnf);first|(with_reducible first|exact True.intro|refine And.intro ?_ ?_)))) <;> (try (conv=>lhs;whnf))
  exact congrArg vBool (by rw [freeTo_succ,‹freeTo ps i k j=false›,Bool.false_and])
 ·subst hps
  obtain rfl:=hfull h_
  refine (seesS_no2 ‹i < _› ‹k < i› ?_).symm
  unfold badPair
  rw [‹freeTo _ i k _=true›,Bool.true_and,decide_eq_true]
  assumption
 ·refine ⟨k + 1,by omega,⟨by omega,fun j' hj'=>?_⟩,by (repeat' (first|(with_reducible first|exact True.intro|refine And.intro ?_ ?_|refine Head.mk ?_ ?_ ?_ ?_)|((conv=>lhs;whnf);first|(with_reducible first|rfl|exact vInt_s (by omega))|exact rfl)|((conv=>whnf);first|(with_reducible first|exact True.intro|refine And.intro ?_ ?_)))) <;> (try (conv=>lhs;whnf))⟩
  rcases Nat.lt_or_ge j' k with h5|h5
  ·exact hbk j' h5
  ·rw [show j'=k by omega]
   unfold badPair
   rw [decide_eq_false (by assumption),Bool.and_false]
 ·refine ⟨k + 1,by omega,⟨by omega,fun j' hj'=>?_⟩,by (repeat' (first|(with_reducible first|exact True.intro|refine And.intro ?_ ?_|refine Head.mk ?_ ?_ ?_ ?_)|((conv=>lhs;whnf);first|(with_reducible first|rfl|exact vInt_s (by omega))|exact rfl)|((conv=>whnf);first|(with_reducible first|exact True.intro|refine And.intro ?_ ?_)))) <;> (try (conv=>lhs;whnf))⟩
  rcases Nat.lt_or_ge j' k with h5|h5
  ·exact hbk j' h5
  ·obtain rfl:=hfull h_
   rw [show j'=k by omega]
   unfold badPair
   rw [‹freeTo _ i k _=false›,Bool.false_and]
 ·refine ⟨i + 1,by omega,⟨by omega,fun j' hj'=>?_⟩,by (repeat' (first|(with_reducible first|exact True.intro|refine And.intro ?_ ?_|refine Head.mk ?_ ?_ ?_ ?_)|((conv=>lhs;whnf);first|(with_reducible first|rfl|exact vInt_s (by omega))|exact rfl)|((conv=>whnf);first|(with_reducible first|exact True.intro|refine And.intro ?_ ?_)))) <;> (try (conv=>lhs;whnf))⟩
  rcases Nat.lt_or_ge j' i with h5|h5
  ·exact hbad j' h5
  ·rw [show j'=i by omega]
   exact fun k' hk'=>hbk k' (by omega)
 ·subst hps
  exact (seesS_yes hall fun i' hi'=>hbad i' (by omega)).symm
end Go.Proofs.YtpafacebfogkmaaGreat
namespace Go.Proofs.YtpafacebfogkmaaGreat
open Go.Shelf Go.RowKit Go.Lib Go.Sort Go.Proofs.YtpafacebfogkmaaGreat.Nm
theorem bd_default:Bd (default:Pt):=by unfold Bd;decide
theorem getBang_bd {d:Array Pt} (h:∀ p∈d.toList,Bd p) (i:Nat):Bd d[i]! := by
 by_cases hi:i < d.size
 ·rw [getElem!_pos d i hi];exact h _ (Array.getElem_mem_toList hi)
 ·rw [getElem!_neg d i hi];exact bd_default
theorem swp_mem {d:Array Pt} (h:∀ p∈d.toList,Bd p) {i j:Nat} (hi:i < d.size) (hj:j < d.size):∀ p∈(swp d i j).toList,Bd p:=by
 intro p hp
 have hperm:=swp_permIn d 0 d.size i j (Nat.zero_le _) hi (Nat.zero_le _) hj (Nat.le_refl _)
 have h3:=hperm.2.2
 have h1:=hperm.1
 rw [← h1,Array.extract_size,h1,Array.extract_size] at h3
 exact h p (h3.mem_iff.1 hp)
theorem insInner_congr {lt lt':Pt→Pt→Bool} (hl:∀ x y,Bd x→Bd y→lt x y=lt' x y) (a:Nat):∀ (j:Nat) (d:Array Pt),(∀ p∈d.toList,Bd p)→j < d.size→insInner lt a j d=insInner lt' a j d
 | 0,d,_,_=>rfl
 | j + 1,d,h,hj=>by
  unfold insInner
  rw [hl _ _ (getBang_bd h _) (getBang_bd h _)]
  split
  ·exact insInner_congr hl a j _ (swp_mem h hj (by omega)) (by rw [size_swp];omega)
  ·rfl
theorem insInner_bd {lt:Pt→Pt→Bool} (a:Nat):∀ (j:Nat) (d:Array Pt),(∀ p∈d.toList,Bd p)→j < d.size→∀ p∈(insInner lt a j d).toList,Bd p
 | 0,d,h,_=>h
 | j + 1,d,h,hj=>by
  unfold insInner
  split
  ·exact insInner_bd a j _ (swp_mem h hj (by omega)) (by rw [size_swp];omega)
  ·exact h
theorem insOuter_congr {lt lt':Pt→Pt→Bool} (hl:∀ x y,Bd x→Bd y→lt x y=lt' x y) (a b:Nat):∀ (n i:Nat) (d:Array Pt),b - i≤n→b≤d.size→(∀ p∈d.toList,Bd p)→insOuter lt a b i d=insOuter lt' a b i d
 | 0,i,d,hn,hb,h=>by unfold insOuter;rw [if_neg (by omega),if_neg (by omega)]
 | n + 1,i,d,hn,hb,h=>by
  unfold insOuter
  split
  ·rw [insInner_congr hl a i d h (by omega)]
   exact insOuter_congr hl a b n (i + 1) _ (by omega) (by rw [insInner_size];exact hb) (insInner_bd a i d h (by omega))
  ·rfl
theorem sq_bd {x:Int} (h1:-2000≤x) (h2:x≤2000):0≤x * x∧x * x≤4000000:=by
 have:=mul_bd h1 h2 h1 h2
 refine ⟨?_,this.2⟩
 rcases Int.le_total 0 x with h|h
 ·exact Int.mul_nonneg h h
 ·exact Int.mul_nonneg_of_nonpos_of_nonpos h h
theorem sqM_exact {a x:Pt} (ha:Bd a) (hx:Bd x):sqM a x=sqd a x∧0≤sqd a x∧sqd a x≤8000000:=by
 unfold Bd at ha hx
 have e1:=sq_bd (x:=a.1 - x.1) (by omega) (by omega)
 have e2:=sq_bd (x:=a.2 - x.2) (by omega) (by omega)
 have hw:∀ n:Int,-9223372036854775808≤n→n≤9223372036854775807→wrap64 n=n:=fun n h1 h2=>by unfold wrap64;omega
 unfold sqM sqd
 rw [hw (a.1 - x.1) (by omega) (by omega),hw (a.2 - x.2) (by omega) (by omega),hw ((a.1 - x.1) * _) (by omega) (by omega),hw ((a.2 - x.2) * _) (by omega) (by omega),hw _ (by omega) (by omega)]
 exact ⟨rfl,by omega,by omega⟩
theorem cb_lt {a x y:Pt} (ha:Bd a) (hx:Bd x) (hy:Bd y):ltOf (cbCmp a) x y=decide (sqd a x < sqd a y):=by
 obtain ⟨e1,b1,b2⟩:=sqM_exact ha hx
 obtain ⟨e2,b3,b4⟩:=sqM_exact ha hy
 unfold ltOf cbCmp
 rw [e1,e2,W_in (by omega) (by omega)]
 exact decide_eq_decide.2 (by omega)
theorem swo_key (key:Pt→Int):SWO fun x y=>decide (key x < key y):=
 ⟨fun x=>by simp,fun x y z h1 h2=>by simp at *;omega,fun x y z h1 h2=>by simp at *;omega⟩
theorem distSort_perm {a:Pt} {xs:List Pt} (ha:Bd a) (h:∀ p∈xs,Bd p):(distSort a xs).Perm xs∧(distSort a xs).Pairwise fun p q=>sqd a p≤sqd a q:=by
 have e:distSort a xs=(Sort.insertionSort (fun x y=>decide (sqd a x < sqd a y)) xs.toArray 0 xs.length).toList:=by
  unfold distSort Sort.insertionSort
  rw [insOuter_congr (fun x y hx hy=>cb_lt ha hx hy) 0 xs.length _ _ xs.toArray (Nat.le_refl _) (by simp) (by simpa using h)]
 rw [e]
 obtain ⟨⟨h1,h2,h3⟩,h4⟩:=insertionSort_holds (lt:=fun x y=>decide (sqd a x < sqd a y)) (swo_key (sqd a)) xs.toArray 0 xs.length (Nat.zero_le _) (by simp)
 generalize Sort.insertionSort (fun x y=>decide (sqd a x < sqd a y)) xs.toArray 0 xs.length=D at *
 have hs:D.size=xs.length:=by rw [h1];simp
 refine ⟨?_,?_⟩
 ·have h3:=h3
  rw [← hs,Array.extract_size] at h3
  rw [show D.size=xs.toArray.size by rw [h1],Array.extract_size] at h3
  exact h3
 ·rw [List.pairwise_iff_getElem]
  intro i j hi hj hij
  have hi':i < D.size:=by simpa using hi
  have hj':j < D.size:=by simpa using hj
  have:=h4 i j (Nat.zero_le _) hij (by omega)
  rw [getElem!_pos D i hi',getElem!_pos D j hj'] at this
  simp only [decide_eq_false_iff_not] at this
  simp only [Array.getElem_toList]
  omega
theorem seesI_iff' {xs:List Pt} {a b:Pt}:seesI xs a b=true↔(∀ k,k < xs.length→crs a b (wl xs k).1 (wl xs k).2=false)∧∀ u,u + 1 < (cornersB xs a b).length→midM xs (pAt (cornersB xs a b) u) (pAt (cornersB xs a b) (u + 1))≠0:=by
 unfold seesI
 simp only [Bool.and_eq_true,List.all_eq_true,List.mem_range,Bool.not_eq_true',bne_iff_ne,ne_eq]
 refine and_congr_right fun _=>⟨fun h u hu=>h u (by omega),fun h u hu=>h u (by omega)⟩
theorem cuts_bd {xs:List Pt} {a b:Pt} (ha:ptOk a=true) (hb:ptOk b=true):∀ p∈cutsOf xs a b,Bd p:=fun p h=>bd_on (bd_of_ok ha) (bd_of_ok hb) (cuts_on h)
theorem seesI_iff {xs:List Pt} {a b:Pt} (hr:roomOk xs=true) (ha:ptOk a=true) (hb:ptOk b=true):seesI xs a b=true↔Sees xs a b:=by
 rw [seesI_iff']
 obtain ⟨h1,h2⟩:=distSort_perm (bd_of_ok ha) (cuts_bd (xs:=xs) ha hb)
 exact and_congr_right fun _=>sees_sorted hr ha hb h1 h2
theorem sees_eq {xs:List Pt} {a b:Pt} (hr:roomOk xs=true) (ha:ptOk a=true) (hb:ptOk b=true):seesI xs a b=seesS xs a b:=by
 rw [Bool.eq_iff_iff,seesI_iff hr ha hb,seesS_iff hr ha hb]
theorem cornersB_perm {xs:List Pt} {a b:Pt} (ha:ptOk a=true) (hb:ptOk b=true):(cornersB xs a b).length=(cutsOf xs a b).length:=
 (distSort_perm (bd_of_ok ha) (cuts_bd (xs:=xs) ha hb)).1.length_eq
end Go.Proofs.YtpafacebfogkmaaGreat
namespace Go.Proofs.YtpafacebfogkmaaGreat
open Go.RowKit Go.Proofs.YtpafacebfogkmaaGreat.Nm
set_option maxRecDepth 10000
theorem tn1 (k:Nat):((k:Int) + 1).toNat=k + 1:=by omega
theorem tnp {k:Nat} (h:1≤k):((k:Int) - 1).toNat=k - 1:=by omega
theorem tnc (k:Nat):((k:Int) + 1 - 1).toNat=k:=by omega
theorem Good1.imp {P:Program} {f:FuncId} {ts:List Ty} {pre pre':Args ts→Prop} {res res':Args ts→RV} (h:Good1 P f (mkCon ts pre res)) (hp:∀ x,pre' x→pre x∧res' x=res x):Good1 P f (mkCon ts pre' res'):=
 ⟨fun w F args vs x h1 h2 h3 h4 h5=>by
  obtain ⟨k1,k2⟩:=hp x h2
  show Calls _ _ _ _ fun e w'=>∃ v,e=.returned v∧Below w.heap.size w w'∧RetC w w' F (res' x) v
  rw [k2]
  exact h.snd w F args vs x h1 k1 h3 h4 h5,h.has⟩
theorem eq_false_of {b:Bool} (h:b=true→False):false=b:=by cases b with|false=>rfl|true=>exact (h rfl).elim
theorem eq_true_of {b:Bool} (h:b=true):true=b:=h.symm
theorem lt_succ_all {P:Nat→Prop} {k:Nat} (h:∀ j,j < k→P j) (hk:P k):∀ j,j < k + 1→P j:=fun j hj=>by
 rcases Nat.lt_or_ge j k with h5|h5
 ·exact h j h5
 ·rw [show j=k by omega];exact hk
abbrev Tri:=Int × Int × Int
abbrev pI (xs:List Pt) (k:Int):Pt:=xs.getD k.toNat (0,0)
def inTri (a b c p:Pt):Bool:=decide (0≤turn a b p) && (decide (0≤turn b c p) && decide (0≤turn c a p))
def rot {α:Type} (xs:List α) (k:Nat):List α:=xs.drop k ++ xs.take k
def rRoom (xs:List Pt):RV:=⟨.agg [.own 0 0],some ⟨t_impl_Point,none,.b .pt,xs⟩⟩
theorem find_none {n:Nat} {f:Nat→Bool} (h:∀ j,j < n→f j=false):(List.range n).find? f=none:=by
 rw [List.find?_eq_none];intro x hx;rw [h x (List.mem_range.1 hx)];decide
theorem find_some {n k:Nat} {f:Nat→Bool} (hk:k < n) (h:∀ j,j < k→f j=false) (hf:f k=true):(List.range n).find? f=some k:=by
 rw [List.find?_eq_some_iff_getElem]
 refine ⟨hf,k,by simpa using hk,by simp,fun j hj=>?_⟩
 simp [h j hj]
def rowPts (xs:List Pt):RV:=⟨.one (.own 0 0),some ⟨t_impl_Point,none,.b .pt,xs⟩⟩
def ptsOf (xs:List Pt) (ks:List Int):List Pt:=if roomOk xs && ks.all (fun k=>btw k 0 (xs.length - 1)) then ks.map (pI xs) else []
theorem ptsOf_ok {xs:List Pt} {ks:List Int} (hx:roomOk xs=true) (h:ks.all (fun k=>btw k 0 (xs.length - 1))=true):ptsOf xs ks=ks.map (pI xs):=by unfold ptsOf;rw [hx,h];rfl
theorem ptsOf_no {xs:List Pt} {ks:List Int} {k:Nat} (hk:k < ks.length) (h:btw (ks.getD k 0) 0 (xs.length - 1)=false):ptsOf xs ks=[]:=by
 unfold ptsOf
 rw [all_no (k:=k) 0 hk h];simp
def ptsOfC:Con:=mkCon [.room,.sl (.b .int)] (fun x=>x.1.length≤1048576∧x.2.1.length≤1048576) fun x=>rowPts (ptsOf x.1 x.2.1)
theorem map_take_succ {α β:Type} (f:α→β) {xs:List α} {k:Nat} (d:α) (h:k < xs.length):(xs.take (k + 1)).map f=(xs.take k).map f ++ [f (xs.getD k d)]:=by
 rw [List.take_succ_eq_append_getElem h,List.map_append,getD_lt _ h];rfl
theorem iPointsOf_ok:Good1 Tryz.prog n_impl_PointsOf ptsOfC:=by
 refine good_ofG (tys:=tyL) (env:=[(n_impl_RoomOk,roomOkC),(n_impl_between,btwC)]) (envw:=[]) (envd:=[]) [11] [] [] [] [] mixed tys ⟨iRoomOk_ok,between_ok,trivial⟩ trivial trivial Tryz.func36 rfl (by kernel_rfl) (by decide) (by kernel_rfl) ?_
 have hG_:=kpz [(0,[1,2]),(1,[1,2,10]),(2,[4]),(3,[1,2,5]),(4,[2,5,12,13,14]),(5,[2,5,12,13,14,15]),(6,[2,5,7,12,13,14]),(7,[2,5,7,12,13,14,24]),(8,[4]),(9,[2,5,12,13,14]),(10,[2,5,12,13,14]),(11,[4])] [(3,[11]),(4,[11]),(5,[11]),(6,[11]),(7,[11]),(8,[11]),(9,[11]),(10,[11]),(11,[11])] [] []
 rintro ⟨(xs:List Pt),(ks:List Int),⟨⟩⟩ ⟨(h1:xs.length≤_),(h2:ks.length≤_)⟩
 (repeat' (first|(with_reducible first|exact True.intro|refine zQ ?_|(refine zG hG_ ?_;intro K_ hK_)|(refine zR ?_;intro K_ hK_)|(refine hK_ _ _ ?_;try clear hK_ K_)|refine sq_n ?_|refine sq_r ?_|refine sq_e ?_|refine bq_n ?_|refine bq_r ?_|refine bq_q ?_|refine zB ?_|refine zX ?_|refine zT ?_|refine zK ?_|refine gq_n ?_|refine gq_r ?_|refine gq_e ?_|refine lq_n ?_|refine lq_r ?_|refine lq_e ?_|refine bq_e (by decide) ?_)|((with_reducible refine zC (b:=?b_) ?hb_ ?_ ?_);case hb_=>rfl)|((conv=>whnf);first|(with_reducible refine hK_ _ _ ?_;try clear hK_ K_)|(with_reducible refine fun (g_:Sl) (o_:Ow)=>?_)|(with_reducible first|exact True.intro|refine And.intro trivial ?_|refine And.intro ?_ ?_)|exact Nat.le_of_ble_eq_true rfl|exact Or.inl rfl|(intro h_;cases h_)|(intro h_;(try simp only [vS1] at h_))|rfl))) <;> (try (conv=>whnf)) <;> (try first|change (_:Int)≤_|change (_:Nat)≤_) <;> (try ((fail_if_success (with_reducible apply Exists.intro));(try dsimp only);(try simp only [vS1]))) <;> (try simp (disch:=omega) only [vS3,vS2] at *)
 all_goals (try (fail_if_success (with_reducible apply Exists.intro));first|with_reducible assumption|omega|exact mdl (by omega)|exact ilo1 (by omega)|exact ilo2 (by omega)|exact ihi1 (by omega) (by omega)|exact ihi2 (by omega) (by omega))
 ·simp_all [ptsOf]
 have hx:roomOk xs=true:=by assumption
 refine awp'_loopG (α:=Nat) (fun k ver_=>[(14,vInt k)]) (fun k ver_=>[(5,11,false,.row t_impl_Point (.b .pt) ((ks.take k).map (pI xs)))]) (fun k ver_=>[]) (fun k=>k≤ks.length∧(ks.take k).all (fun k=>btw k 0 (xs.length - 1))=true) (fun k=>ks.length - k) [2,12,13] [] (0) ?_
 conv=>whnf
 refine ⟨⟨?inv3_,?vals3_,?own3_,?fix3_⟩,?body3_⟩
 case' vals3_=>(repeat' (first|(with_reducible first|exact True.intro|refine And.intro ?_ ?_|refine Head.mk ?_ ?_ ?_ ?_)|((conv=>lhs;whnf);first|(with_reducible first|rfl|exact vInt_s (by omega))|exact rfl)|((conv=>whnf);first|(with_reducible first|exact True.intro|refine And.intro ?_ ?_)))) <;> (try (conv=>lhs;whnf))
 case' own3_=>(repeat' (first|(with_reducible first|exact True.intro|refine And.intro ?_ ?_|refine Head.mk ?_ ?_ ?_ ?_)|((conv=>lhs;whnf);first|(with_reducible first|rfl|exact vInt_s (by omega))|exact rfl)|((conv=>whnf);first|(with_reducible first|exact True.intro|refine And.intro ?_ ?_)))) <;> (try (conv=>lhs;whnf))
 case' fix3_=>(repeat' (first|(with_reducible first|exact True.intro|refine And.intro ?_ ?_|refine Head.mk ?_ ?_ ?_ ?_)|((conv=>lhs;whnf);first|(with_reducible first|rfl|exact vInt_s (by omega))|exact rfl)|((conv=>whnf);first|(with_reducible first|exact True.intro|refine And.intro ?_ ?_)))) <;> (try (conv=>lhs;whnf))
 ·exact ⟨Nat.zero_le _,by simp⟩
 rintro k g_ o_ v_ ⟨hk,hall⟩
 (repeat' (first|(with_reducible first|exact True.intro|refine zQ ?_|(refine zG hG_ ?_;intro K_ hK_)|(refine zR ?_;intro K_ hK_)|(refine hK_ _ _ ?_;try clear hK_ K_)|refine sq_n ?_|refine sq_r ?_|refine sq_e ?_|refine bq_n ?_|refine bq_r ?_|refine bq_q ?_|refine zB ?_|refine zX ?_|refine zT ?_|refine zK ?_|refine gq_n ?_|refine gq_r ?_|refine gq_e ?_|refine lq_n ?_|refine lq_r ?_|refine lq_e ?_|refine bq_e (by decide) ?_)|((with_reducible refine zC (b:=?b_) ?hb_ ?_ ?_);case hb_=>rfl)|((conv=>whnf);first|(with_reducible refine hK_ _ _ ?_;try clear hK_ K_)|(with_reducible refine fun (g_:Sl) (o_:Ow)=>?_)|(with_reducible first|exact True.intro|refine And.intro trivial ?_|refine And.intro ?_ ?_)|exact Nat.le_of_ble_eq_true rfl|exact Or.inl rfl|(intro h_;cases h_)|(intro h_;(try simp only [vS1] at h_))|rfl))) <;> (try (conv=>whnf)) <;> (try first|change (_:Int)≤_|change (_:Nat)≤_) <;> (try ((fail_if_success (with_reducible apply Exists.intro));(try dsimp only);(try simp only [vS1]))) <;> (try simp (disch:=omega) only [vS3,vS2] at *)
 all_goals (try (fail_if_success (with_reducible apply Exists.intro));first|with_reducible assumption|omega|exact mdl (by omega)|exact ilo1 (by omega)|exact ilo2 (by omega)|exact ihi1 (by omega) (by omega)|exact ihi2 (by omega) (by omega))
 ·exact ptsOf_no ‹k < ks.length› h_
 ·have:=btw_iff.1 h_;omega
 ·have:=btw_iff.1 h_;omega
 ·refine ⟨k + 1,by omega,⟨by omega,?_⟩,?_⟩
  ·rw [all_succ 0 (by omega),hall];exact h_
  ·(repeat' (first|(with_reducible first|exact True.intro|refine And.intro ?_ ?_|refine Head.mk ?_ ?_ ?_ ?_)|((conv=>lhs;whnf);first|(with_reducible first|rfl|exact vInt_s (by omega))|exact rfl)|((conv=>whnf);first|(with_reducible first|exact True.intro|refine And.intro ?_ ?_)))) <;> (try (conv=>lhs;whnf))
   exact congrArg (Own.row _ _) (map_take_succ (pI xs) _ (by omega)).symm
 ·rw [List.take_of_length_le (by omega)] at *
  exact congrArg some (ptsOf_ok hx hall).symm
def partArea (xs:List Pt) (ks:List Int):Int:=IntKind.i64.wrap (dbl (ptsOf xs ks))
def partAreaC:Con:=mkCon [.room,.sl (.b .int)] (fun x=>x.1.length≤1048576∧x.2.1.length≤1048576) fun x=>vI (partArea x.1 x.2.1)
theorem ptsOf_len {xs:List Pt} {ks:List Int} {n:Nat} (h:ks.length≤n):(ptsOf xs ks).length≤n:=by unfold ptsOf;split <;> simp;omega
theorem iPartArea_ok:Good1 Tryz.prog n_impl_PartArea partAreaC:=by
 refine good_ofG (tys:=tyL) (env:=[(n_impl_PointsOf,ptsOfC),(n_impl_area,areaC)]) (envw:=[]) (envd:=[]) [] [] [] [] [] mixed tys ⟨iPointsOf_ok,area_ok,trivial⟩ trivial trivial Tryz.func9 rfl (by kernel_rfl) (by decide) (by kernel_rfl) ?_
 have hG_:=kpz [(0,[1,2]),(1,[4])] [] [] []
 rintro ⟨(xs:List Pt),(ks:List Int),⟨⟩⟩ ⟨(h1:xs.length≤_),(h2:ks.length≤_)⟩
 (repeat' (first|(with_reducible first|exact True.intro|refine zQ ?_|(refine zG hG_ ?_;intro K_ hK_)|(refine zR ?_;intro K_ hK_)|(refine hK_ _ _ ?_;try clear hK_ K_)|refine sq_n ?_|refine sq_r ?_|refine sq_e ?_|refine bq_n ?_|refine bq_r ?_|refine bq_q ?_|refine zB ?_|refine zX ?_|refine zT ?_|refine zK ?_|refine gq_n ?_|refine gq_r ?_|refine gq_e ?_|refine lq_n ?_|refine lq_r ?_|refine lq_e ?_|refine bq_e (by decide) ?_)|((with_reducible refine zC (b:=?b_) ?hb_ ?_ ?_);case hb_=>rfl)|((conv=>whnf);first|(with_reducible refine hK_ _ _ ?_;try clear hK_ K_)|(with_reducible refine fun (g_:Sl) (o_:Ow)=>?_)|(with_reducible first|exact True.intro|refine And.intro trivial ?_|refine And.intro ?_ ?_)|exact Nat.le_of_ble_eq_true rfl|exact Or.inl rfl|(intro h_;cases h_)|(intro h_;(try simp only [vS1] at h_))|rfl))) <;> (try (conv=>whnf)) <;> (try first|change (_:Int)≤_|change (_:Nat)≤_) <;> (try ((fail_if_success (with_reducible apply Exists.intro));(try dsimp only);(try simp only [vS1]))) <;> (try simp (disch:=omega) only [vS3,vS2] at *)
 all_goals (try (fail_if_success (with_reducible apply Exists.intro));first|with_reducible assumption|omega|exact mdl (by omega)|exact ilo1 (by omega)|exact ilo2 (by omega)|exact ihi1 (by omega) (by omega)|exact ihi2 (by omega) (by omega))
 exact ptsOf_len h2
end Go.Proofs.YtpafacebfogkmaaGreat
namespace Go.Proofs.YtpafacebfogkmaaGreat
open Go.RowKit Go.Proofs.YtpafacebfogkmaaGreat.Nm
set_option maxRecDepth 10000
set_option maxHeartbeats 2000000
def sees2C:Con:=mkCon [.room,.pt,.pt] (fun x=>roomOk x.1=true∧ptOk x.2.1=true∧ptOk x.2.2.1=true) fun x=>vB (seesS x.1 x.2.1 x.2.2.1)
theorem sees2_ok:Good1 Tryz.prog n_impl_sees sees2C:=by
 exact Good1.imp sees_ok fun x h=>⟨(room_len h.1).2,congrArg vB (sees_eq h.1 h.2.1 h.2.2).symm⟩
def neighZ (n i k:Int):Bool:=decide (Int.tmod (i + 1) n=k) || decide (Int.tmod (k + 1) n=i)
def neighC:Con:=mkCon [.room,.int,.int] (fun x=>0 < x.1.length∧x.1.length≤1048576∧(-1000≤x.2.1∧x.2.1≤1000)∧(-1000≤x.2.2.1∧x.2.2.1≤1000)) fun x=>vB (neighZ x.1.length x.2.1 x.2.2.1)
theorem neighbors_ok:Good1 Tryz.prog n_impl_neighbors neighC:=by
 refine good_ofG (tys:=tyL) (env:=[]) (envw:=[]) (envd:=[]) [] [] [] [] [] mixed tys trivial trivial trivial Tryz.func67 rfl (by kernel_rfl) (by decide) (by kernel_rfl) ?_
 have hG_:=kpz [(0,[1,2,3]),(1,[1,2,7]),(2,[6])] [] [] []
 rintro ⟨(xs:List Pt),(i:Int),(k:Int),⟨⟩⟩ ⟨(h0:0 < xs.length),(h1:xs.length≤_),⟨(h2:-1000≤i),(h3:i≤1000)⟩,(h4:-1000≤k),(h5:k≤1000)⟩
 (repeat' (first|(with_reducible first|exact True.intro|refine zQ ?_|(refine zG hG_ ?_;intro K_ hK_)|(refine zR ?_;intro K_ hK_)|(refine hK_ _ _ ?_;try clear hK_ K_)|refine sq_n ?_|refine sq_r ?_|refine sq_e ?_|refine bq_n ?_|refine bq_r ?_|refine bq_q ?_|refine zB ?_|refine zX ?_|refine zT ?_|refine zK ?_|refine gq_n ?_|refine gq_r ?_|refine gq_e ?_|refine lq_n ?_|refine lq_r ?_|refine lq_e ?_|refine bq_e (by decide) ?_)|((with_reducible refine zC (b:=?b_) ?hb_ ?_ ?_);case hb_=>rfl)|((conv=>whnf);first|(with_reducible refine hK_ _ _ ?_;try clear hK_ K_)|(with_reducible refine fun (g_:Sl) (o_:Ow)=>?_)|(with_reducible first|exact True.intro|refine And.intro trivial ?_|refine And.intro ?_ ?_)|exact Nat.le_of_ble_eq_true rfl|exact Or.inl rfl|(intro h_;cases h_)|(intro h_;(try simp only [vS1] at h_))|rfl))) <;> (try (conv=>whnf)) <;> (try first|change (_:Int)≤_|change (_:Nat)≤_) <;> (try ((fail_if_success (with_reducible apply Exists.intro));(try dsimp only);(try simp only [vS1]))) <;> (try simp (disch:=omega) only [vS3,Int.add_sub_cancel,tn1,tnp,tnc,vS2] at *)
 all_goals (try (fail_if_success (with_reducible apply Exists.intro));first|with_reducible assumption|omega|exact mdl (by omega)|exact ilo1 (by omega)|exact ilo2 (by omega)|exact ihi1 (by omega) (by omega)|exact ihi2 (by omega) (by omega))
 ·unfold neighZ;rw [decide_eq_true h_];rfl
 ·unfold neighZ;rw [decide_eq_false h_];rfl
def diagC (xs:List Pt) (i k:Nat):Bool:=seesS xs (pAt xs i) (pAt xs k) && (freeTo xs i k xs.length && decide (midM xs (pAt xs i) (pAt xs k)=2))
def diagM (xs:List Pt) (i k:Int):Bool:=btw i 0 (xs.length - 1) && (btw k 0 (xs.length - 1) && (!decide (i=k) && (!neighZ xs.length i k && diagC xs i.toNat k.toNat)))
theorem diagC_iff {xs:List Pt} {i k:Nat}:diagC xs i k=true↔seesS xs (pAt xs i) (pAt xs k)=true∧freeTo xs i k xs.length=true∧midM xs (pAt xs i) (pAt xs k)=2:=by
 unfold diagC;simp only [Bool.and_eq_true,decide_eq_true_eq]
theorem diagM_iff {xs:List Pt} {i k:Int}:diagM xs i k=true↔btw i 0 (xs.length - 1)=true∧btw k 0 (xs.length - 1)=true∧i≠k∧neighZ xs.length i k=false∧diagC xs i.toNat k.toNat=true:=by
 unfold diagM;simp only [Bool.and_eq_true,Bool.not_eq_true',decide_eq_false_iff_not,ne_eq]
theorem room_inj {xs:List Pt} (hr:roomOk xs=true) {i j:Nat} (hi:i < xs.length) (hj:j < xs.length) (e:pAt xs i=pAt xs j):i=j:=by
 rw [show pAt xs i=xs[i] from getD_lt _ hi,show pAt xs j=xs[j] from getD_lt _ hj] at e
 exact (List.getElem_inj (room_nodup hr)).1 e
theorem two_iff {xs:List Pt} (hr:roomOk xs=true) {i k:Nat} (hi:i < xs.length) (hk:k < xs.length):(cutsOf xs (pAt xs i) (pAt xs k)).length=2↔freeTo xs i k xs.length=true:=by
 have h1:(cutsOf xs (pAt xs i) (pAt xs k)).length=2↔xs.filter (amid (pAt xs i) (pAt xs k))=[]:=by
  simp only [cutsOf,List.cons_append,List.nil_append,List.length_cons]
  rw [← List.length_eq_zero_iff]
  omega
 rw [h1,freeTo_iff,List.filter_eq_nil_iff]
 constructor
 ·intro h j hj
  by_cases e1:j=i
  ·exact .inl e1
  ·by_cases e2:j=k
   ·exact .inr (.inl e2)
   ·refine .inr (.inr ?_)
    have:=h (pAt xs j) (pAt_mem hj)
    rw [amid_iff] at this
    rw [← Bool.not_eq_true]
    exact fun h3=>this ⟨fun e=>e1 (room_inj hr hj hi e),fun e=>e2 (room_inj hr hj hk e),h3⟩
 ·intro h c hc hm
  obtain ⟨j,hj,rfl⟩:=List.getElem_of_mem hc
  rw [← getD_lt (0,0) hj] at hm
  obtain ⟨m1,m2,m3⟩:=amid_iff.1 hm
  rcases h j hj with e|e|e
  ·exact m1 (by rw [e])
  ·exact m2 (by rw [e])
  ·rw [m3] at e;cases e
theorem cornersB2 {xs:List Pt} (hr:roomOk xs=true) {i k:Nat} (hi:i < xs.length) (hk:k < xs.length):(cornersB xs (pAt xs i) (pAt xs k)).length=2↔freeTo xs i k xs.length=true:=by
 rw [cornersB_perm (room_pt hr hi) (room_pt hr hk),two_iff hr hi hk]
def diagonalC:Con:=mkCon [.room,.int,.int] (fun x=>roomOk x.1=true) fun x=>vB (diagM x.1 x.2.1 x.2.2.1)
theorem diagonal_ok:Good1 Tryz.prog n_impl_diagonal diagonalC:=by
 refine good_ofG (tys:=tyL) (env:=[(n_impl_between,btwC),(n_impl_neighbors,neighC),(n_impl_cornersBetween,cornersBC),(n_impl_sees,sees2C),(n_impl_middle,middleC)]) (envw:=[]) (envd:=[]) [] [36,37,39,40,41,42,44,45] [] [] [] mixed tys ⟨between_ok,neighbors_ok,cornersBetween_ok,sees2_ok,middle_ok,trivial⟩ trivial trivial Tryz.func37 rfl (by kernel_rfl) (by decide) (by kernel_rfl) ?_
 have hG_:=kpz [(0,[1,2,3]),(1,[1,2,3,7]),(2,[1,2,3,35]),(3,[6]),(4,[3,8,9]),(5,[6])] [(4,[8,9])] [] []
 rintro ⟨(xs:List Pt),(i:Int),(k:Int),⟨⟩⟩ (hr:roomOk xs=true)
 have hl:=room_len hr
 (repeat' (first|(with_reducible first|exact True.intro|refine zQ ?_|(refine zG hG_ ?_;intro K_ hK_)|(refine zR ?_;intro K_ hK_)|(refine hK_ _ _ ?_;try clear hK_ K_)|refine sq_n ?_|refine sq_r ?_|refine sq_e ?_|refine bq_n ?_|refine bq_r ?_|refine bq_q ?_|refine zB ?_|refine zX ?_|refine zT ?_|refine zK ?_|refine gq_n ?_|refine gq_r ?_|refine gq_e ?_|refine lq_n ?_|refine lq_r ?_|refine lq_e ?_|refine bq_e (by decide) ?_)|((with_reducible refine zC (b:=?b_) ?hb_ ?_ ?_);case hb_=>rfl)|((conv=>whnf);first|(with_reducible refine hK_ _ _ ?_;try clear hK_ K_)|(with_reducible refine fun (g_:Sl) (o_:Ow)=>?_)|(with_reducible first|exact True.intro|refine And.intro trivial ?_|refine And.intro ?_ ?_)|exact Nat.le_of_ble_eq_true rfl|exact Or.inl rfl|(intro h_;cases h_)|(intro h_;(try simp only [vS1] at h_))|rfl))) <;> (try (conv=>whnf)) <;> (try first|change (_:Int)≤_|change (_:Nat)≤_) <;> (try ((fail_if_success (with_reducible apply Exists.intro));(try dsimp only);(try simp only [vS1]))) <;> (try simp (disch:=omega) only [vS3,Int.add_sub_cancel,tn1,tnp,tnc,vS2] at *)
 all_goals (try (fail_if_success (with_reducible apply Exists.intro));first|with_reducible assumption|omega|exact mdl (by omega)|exact ilo1 (by omega)|exact ilo2 (by omega)|exact ihi1 (by omega) (by omega)|exact ihi2 (by omega) (by omega))
 all_goals first
  | (have b1:=btw_iff.1 ‹btw i 0 _=true›;have b2:=btw_iff.1 ‹btw k 0 _=true›;first|omega|exact room_pt hr (by omega))
  | (have b1:=btw_iff.1 ‹btw i 0 _=true›;omega)
  | skip
 ·exact eq_false_of fun hc=>by have h:=(diagM_iff.1 hc).1;rw [‹btw i 0 _=false›] at h;cases h
 ·exact eq_false_of fun hc=>by have h:=(diagM_iff.1 hc).2.1;rw [‹btw k 0 _=false›] at h;cases h
 ·exact eq_false_of fun hc=>(diagM_iff.1 hc).2.2.1 ‹i=k›
 ·exact eq_false_of fun hc=>by have h:=(diagM_iff.1 hc).2.2.2.1;rw [‹neighZ _ i k=true›] at h;cases h
 all_goals (have b1:=btw_iff.1 ‹btw i 0 _=true›;have b2:=btw_iff.1 ‹btw k 0 _=true›;have h2:=cornersB2 hr (i:=i.toNat) (k:=k.toNat) (by omega) (by omega))
 ·rw [Bool.eq_iff_iff,diagM_iff,diagC_iff,beq_iff_eq]
  exact ⟨fun h=>⟨‹_›,‹_›,‹_›,‹_›,‹seesS xs _ _=true›,h2.1 (Int.ofNat.inj h_),h⟩,fun h=>h.2.2.2.2.2.2⟩
 ·exact eq_false_of fun hc=>absurd ((diagC_iff.1 (diagM_iff.1 hc).2.2.2.2).1.symm.trans ‹seesS xs _ _=false›) (by decide)
 ·exact eq_false_of fun hc=>h_ (congrArg Int.ofNat (h2.2 (diagC_iff.1 (diagM_iff.1 hc).2.2.2.2).2.1))
theorem neigh_nat {n i k:Nat}:neighZ n i k=false↔(i + 1) % n≠k∧(k + 1) % n≠i:=by
 unfold neighZ
 rw [tm1,tm1,Bool.or_eq_false_iff,decide_eq_false_iff_not,decide_eq_false_iff_not,Int.natCast_inj,Int.natCast_inj]
theorem diagN_iff {xs:List Pt} {i k:Nat} (hi:i < xs.length) (hk:k < xs.length):diagM xs i k=true↔i≠k∧(i + 1) % xs.length≠k∧(k + 1) % xs.length≠i∧diagC xs i k=true:=by
 rw [diagM_iff,neigh_nat,btw_iff,btw_iff]
 constructor
 ·rintro ⟨-,-,h3,h4,h5⟩
  exact ⟨fun e=>h3 (by rw [e]),h4.1,h4.2,h5⟩
 ·rintro ⟨h3,h4,h5,h6⟩
  exact ⟨by omega,by omega,fun e=>h3 (Int.natCast_inj.1 e),⟨h4,h5⟩,h6⟩
def l09C:Con:=mkCon [.sl (.b .pt),.int,.int] (fun x=>roomOk x.1=true∧(0≤x.2.1∧x.2.1≤x.1.length - 1)∧(0≤x.2.2.1∧x.2.2.1≤x.1.length - 1)) fun x=>vB (diagM x.1 x.2.1 x.2.2.1)
theorem l09Diagonal_ok:Good1 Tryz.prog n_spec_l09Diagonal l09C:=by
 refine good_ofG (tys:=tyL) (env:=[(n_spec_l08Sees,l08SeesC),(n_spec_l02Between,onC),(n_spec_l08Doubled,twiceC),(n_spec_l05Holds,holdsC)]) (envw:=[]) (envd:=[]) [73,85] [] [] [] [] mixed tys ⟨l08Sees_ok,l02Between_ok,doubled_ok,l05Holds_ok,trivial⟩ trivial trivial Tryz.func103 rfl (by kernel_rfl) (by decide) (by kernel_rfl) ?_
 have hG_:=kpz [(0,[0,1,2]),(1,[0,1,2,7]),(2,[0,1,2,7,44]),(3,[6]),(4,[0,1,2,7,8]),(5,[0,1,2,7,8,47]),(6,[0,1,2,7,8]),(7,[0,1,2,7,8,72]),(8,[6]),(9,[0,1,2,7,9]),(10,[0,1,2,7,9,10]),(11,[0,1,2,7,9,10,76]),(12,[0,1,2,7,9,10]),(13,[0,1,2,7,9,10]),(14,[6])] [(9,[73]),(10,[73]),(11,[73]),(12,[73,85]),(13,[73,85]),(14,[73])] [] []
 rintro ⟨(xs:List Pt),(i:Int),(k:Int),⟨⟩⟩ ⟨(hr:roomOk xs=true),⟨(hi1:0≤i),(hi2:i≤(xs.length:Int) - 1)⟩,(hk1:0≤k),(hk2:k≤(xs.length:Int) - 1)⟩
 have hl:=room_len hr
 obtain ⟨i,rfl⟩:=Int.eq_ofNat_of_zero_le hi1
 obtain ⟨k,rfl⟩:=Int.eq_ofNat_of_zero_le hk1
 have hi:i < xs.length:=by omega
 have hk:k < xs.length:=by omega
 have hpi:(xs.map twP).length=xs.length:=List.length_map _
 have hd:=diagN_iff (xs:=xs) hi hk
 (repeat' (first|(with_reducible first|exact True.intro|refine zQ ?_|(refine zG hG_ ?_;intro K_ hK_)|(refine zR ?_;intro K_ hK_)|(refine hK_ _ _ ?_;try clear hK_ K_)|refine sq_n ?_|refine sq_r ?_|refine sq_e ?_|refine bq_n ?_|refine bq_r ?_|refine bq_q ?_|refine zB ?_|refine zX ?_|refine zT ?_|refine zK ?_|refine gq_n ?_|refine gq_r ?_|refine gq_e ?_|refine lq_n ?_|refine lq_r ?_|refine lq_e ?_|refine bq_e (by decide) ?_)|((with_reducible refine zC (b:=?b_) ?hb_ ?_ ?_);case hb_=>rfl)|((conv=>whnf);first|(with_reducible refine hK_ _ _ ?_;try clear hK_ K_)|(with_reducible refine fun (g_:Sl) (o_:Ow)=>?_)|(with_reducible first|exact True.intro|refine And.intro trivial ?_|refine And.intro ?_ ?_)|exact Nat.le_of_ble_eq_true rfl|exact Or.inl rfl|(intro h_;cases h_)|(intro h_;(try simp only [vS1] at h_))|rfl))) <;> (try (conv=>whnf)) <;> (try first|change (_:Int)≤_|change (_:Nat)≤_) <;> (try ((fail_if_success (with_reducible apply Exists.intro));(try dsimp only);(try simp only [vS1]))) <;> (try simp (disch:=omega) only [vS3,Int.add_sub_cancel,tn1,tnp,tnc,vS2] at *)
 all_goals (try (fail_if_success (with_reducible apply Exists.intro));first|with_reducible assumption|omega|exact mdl (by omega)|exact ilo1 (by omega)|exact ilo2 (by omega)|exact ihi1 (by omega) (by omega)|exact ihi2 (by omega) (by omega))
 ·exact eq_false_of fun hc=>(hd.1 hc).1 ‹i=k›
 ·exact eq_false_of fun hc=>(hd.1 hc).2.1 ‹(i + 1) % xs.length=k›
 ·exact eq_false_of fun hc=>(hd.1 hc).2.2.1 ‹(k + 1) % xs.length=i›
 ·exact eq_false_of fun hc=>absurd ((diagC_iff.1 (hd.1 hc).2.2.2).1.symm.trans ‹seesS xs _ _=false›) (by decide)
 have hsee:seesS xs (pAt xs i) (pAt xs k)=true:=by assumption
 refine awp'_loopG (α:=Nat) (fun j ver_=>[(8,vInt j)]) (fun j ver_=>[]) (fun j ver_=>[]) (fun j=>j≤xs.length∧∀ j',j' < j→j'=i∨j'=k∨onS (pAt xs j') (pAt xs i) (pAt xs k)=false) (fun j=>xs.length - j) [0,1,2,7] [] (0) ?_
 conv=>whnf
 refine ⟨⟨?inv1_,?vals1_,?own1_,?fix1_⟩,?body1_⟩
 case' vals1_=>(repeat' (first|(with_reducible first|exact True.intro|refine And.intro ?_ ?_|refine Head.mk ?_ ?_ ?_ ?_)|((conv=>lhs;whnf);first|(with_reducible first|rfl|exact vInt_s (by omega))|exact rfl)|((conv=>whnf);first|(with_reducible first|exact True.intro|refine And.intro ?_ ?_)))) <;> (try (conv=>lhs;whnf))
 case' own1_=>(repeat' (first|(with_reducible first|exact True.intro|refine And.intro ?_ ?_|refine Head.mk ?_ ?_ ?_ ?_)|((conv=>lhs;whnf);first|(with_reducible first|rfl|exact vInt_s (by omega))|exact rfl)|((conv=>whnf);first|(with_reducible first|exact True.intro|refine And.intro ?_ ?_)))) <;> (try (conv=>lhs;whnf))
 case' fix1_=>(repeat' (first|(with_reducible first|exact True.intro|refine And.intro ?_ ?_|refine Head.mk ?_ ?_ ?_ ?_)|((conv=>lhs;whnf);first|(with_reducible first|rfl|exact vInt_s (by omega))|exact rfl)|((conv=>whnf);first|(with_reducible first|exact True.intro|refine And.intro ?_ ?_)))) <;> (try (conv=>lhs;whnf))
 ·exact ⟨Nat.zero_le _,fun j hj=>absurd hj (by omega)⟩
 rintro j g_ o_ v_ ⟨hj,hall⟩
 (repeat' (first|(with_reducible first|exact True.intro|refine zQ ?_|(refine zG hG_ ?_;intro K_ hK_)|(refine zR ?_;intro K_ hK_)|(refine hK_ _ _ ?_;try clear hK_ K_)|refine sq_n ?_|refine sq_r ?_|refine sq_e ?_|refine bq_n ?_|refine bq_r ?_|refine bq_q ?_|refine zB ?_|refine zX ?_|refine zT ?_|refine zK ?_|refine gq_n ?_|refine gq_r ?_|refine gq_e ?_|refine lq_n ?_|refine lq_r ?_|refine lq_e ?_|refine bq_e (by decide) ?_)|((with_reducible refine zC (b:=?b_) ?hb_ ?_ ?_);case hb_=>rfl)|((conv=>whnf);first|(with_reducible refine hK_ _ _ ?_;try clear hK_ K_)|(with_reducible refine fun (g_:Sl) (o_:Ow)=>?_)|(with_reducible first|exact True.intro|refine And.intro trivial ?_|refine And.intro ?_ ?_)|exact Nat.le_of_ble_eq_true rfl|exact Or.inl rfl|(intro h_;cases h_)|(intro h_;(try simp only [vS1] at h_))|rfl))) <;> (try (conv=>whnf)) <;> (try first|change (_:Int)≤_|change (_:Nat)≤_) <;> (try ((fail_if_success (with_reducible apply Exists.intro));(try dsimp only);(try simp only [vS1]))) <;> (try simp (disch:=omega) only [vS3,Int.add_sub_cancel,tn1,tnp,tnc,vS2] at *)
 all_goals (try (fail_if_success (with_reducible apply Exists.intro));first|with_reducible assumption|omega|exact mdl (by omega)|exact ilo1 (by omega)|exact ilo2 (by omega)|exact ihi1 (by omega) (by omega)|exact ihi2 (by omega) (by omega))
 ·refine eq_false_of fun hc=>?_
  have hf:=freeTo_iff.1 (diagC_iff.1 (hd.1 hc).2.2.2).2.1 j ‹j < xs.length›
  rcases hf with h|h|h
  ·exact ‹¬j=i› h
  ·exact ‹¬j=k› h
  ·exact absurd (h.symm.trans ‹onS _ _ _=true›) (by decide)
 ·exact ⟨j + 1,by omega,⟨by omega,lt_succ_all hall (.inr (.inr ‹onS _ _ _=false›))⟩,by (repeat' (first|(with_reducible first|exact True.intro|refine And.intro ?_ ?_|refine Head.mk ?_ ?_ ?_ ?_)|((conv=>lhs;whnf);first|(with_reducible first|rfl|exact vInt_s (by omega))|exact rfl)|((conv=>whnf);first|(with_reducible first|exact True.intro|refine And.intro ?_ ?_)))) <;> (try (conv=>lhs;whnf))⟩
 ·exact ⟨j + 1,by omega,⟨by omega,lt_succ_all hall (.inr (.inl ‹j=k›))⟩,by (repeat' (first|(with_reducible first|exact True.intro|refine And.intro ?_ ?_|refine Head.mk ?_ ?_ ?_ ?_)|((conv=>lhs;whnf);first|(with_reducible first|rfl|exact vInt_s (by omega))|exact rfl)|((conv=>whnf);first|(with_reducible first|exact True.intro|refine And.intro ?_ ?_)))) <;> (try (conv=>lhs;whnf))⟩
 ·exact ⟨j + 1,by omega,⟨by omega,lt_succ_all hall (.inl ‹j=i›)⟩,by (repeat' (first|(with_reducible first|exact True.intro|refine And.intro ?_ ?_|refine Head.mk ?_ ?_ ?_ ?_)|((conv=>lhs;whnf);first|(with_reducible first|rfl|exact vInt_s (by omega))|exact rfl)|((conv=>whnf);first|(with_reducible first|exact True.intro|refine And.intro ?_ ?_)))) <;> (try (conv=>lhs;whnf))⟩
 have hfree:freeTo xs i k xs.length=true:=freeTo_iff.2 fun j' hj'=>hall j' (by omega)
 refine awp'_loopG (α:=Nat) (fun m ver_=>[(10,vInt m)]) (fun m ver_=>[(9,73,false,.row t_impl_Point (.b .pt) ((xs.take m).map twP))]) (fun m ver_=>[]) (fun m=>m≤xs.length) (fun m=>xs.length - m) [0,1,2,7] [] (0) ?_
 conv=>whnf
 refine ⟨⟨?inv2_,?vals2_,?own2_,?fix2_⟩,?body2_⟩
 case' vals2_=>(repeat' (first|(with_reducible first|exact True.intro|refine And.intro ?_ ?_|refine Head.mk ?_ ?_ ?_ ?_)|((conv=>lhs;whnf);first|(with_reducible first|rfl|exact vInt_s (by omega))|exact rfl)|((conv=>whnf);first|(with_reducible first|exact True.intro|refine And.intro ?_ ?_)))) <;> (try (conv=>lhs;whnf))
 case' own2_=>(repeat' (first|(with_reducible first|exact True.intro|refine And.intro ?_ ?_|refine Head.mk ?_ ?_ ?_ ?_)|((conv=>lhs;whnf);first|(with_reducible first|rfl|exact vInt_s (by omega))|exact rfl)|((conv=>whnf);first|(with_reducible first|exact True.intro|refine And.intro ?_ ?_)))) <;> (try (conv=>lhs;whnf))
 case' fix2_=>(repeat' (first|(with_reducible first|exact True.intro|refine And.intro ?_ ?_|refine Head.mk ?_ ?_ ?_ ?_)|((conv=>lhs;whnf);first|(with_reducible first|rfl|exact vInt_s (by omega))|exact rfl)|((conv=>whnf);first|(with_reducible first|exact True.intro|refine And.intro ?_ ?_)))) <;> (try (conv=>lhs;whnf))
 ·exact Nat.zero_le _
 rintro m g_ o_ v_ hm
 (repeat' (first|(with_reducible first|exact True.intro|refine zQ ?_|(refine zG hG_ ?_;intro K_ hK_)|(refine zR ?_;intro K_ hK_)|(refine hK_ _ _ ?_;try clear hK_ K_)|refine sq_n ?_|refine sq_r ?_|refine sq_e ?_|refine bq_n ?_|refine bq_r ?_|refine bq_q ?_|refine zB ?_|refine zX ?_|refine zT ?_|refine zK ?_|refine gq_n ?_|refine gq_r ?_|refine gq_e ?_|refine lq_n ?_|refine lq_r ?_|refine lq_e ?_|refine bq_e (by decide) ?_)|((with_reducible refine zC (b:=?b_) ?hb_ ?_ ?_);case hb_=>rfl)|((conv=>whnf);first|(with_reducible refine hK_ _ _ ?_;try clear hK_ K_)|(with_reducible refine fun (g_:Sl) (o_:Ow)=>?_)|(with_reducible first|exact True.intro|refine And.intro trivial ?_|refine And.intro ?_ ?_)|exact Nat.le_of_ble_eq_true rfl|exact Or.inl rfl|(intro h_;cases h_)|(intro h_;(try simp only [vS1] at h_))|rfl))) <;> (try (conv=>whnf)) <;> (try first|change (_:Int)≤_|change (_:Nat)≤_) <;> (try ((fail_if_success (with_reducible apply Exists.intro));(try dsimp only);(try simp only [vS1]))) <;> (try simp (disch:=omega) only [vS3,Int.add_sub_cancel,tn1,tnp,tnc,vS2] at *)
 all_goals (try (fail_if_success (with_reducible apply Exists.intro));first|with_reducible assumption|omega|exact mdl (by omega)|exact ilo1 (by omega)|exact ilo2 (by omega)|exact ihi1 (by omega) (by omega)|exact ihi2 (by omega) (by omega))
 ·refine ⟨m + 1,by omega,by omega,?_⟩
  (repeat' (first|(with_reducible first|exact True.intro|refine And.intro ?_ ?_|refine Head.mk ?_ ?_ ?_ ?_)|((conv=>lhs;whnf);first|(with_reducible first|rfl|exact vInt_s (by omega))|exact rfl)|((conv=>whnf);first|(with_reducible first|exact True.intro|refine And.intro ?_ ?_)))) <;> (try (conv=>lhs;whnf))
  exact congrArg (Own.row _ _) (map_take_succ' twP (0,0) ‹m < xs.length›).symm
 ·have hm:=mid_holds (pt_of_room hr) (ptOk_iff.1 (room_pt hr hi)) (ptOk_iff.1 (room_pt hr hk))
  have hv:=hold_vals (xs.map twP) (sumP (pAt xs i) (pAt xs k))
  rw [List.take_of_length_le (by omega),Bool.eq_iff_iff,hd,diagC_iff,decide_eq_true_eq]
  have e:∀ q,holdsM (xs.map twP) q > 0→q=sumP (pAt xs i) (pAt xs k)→midM xs (pAt xs i) (pAt xs k)=2:=fun q h e=>by subst e;omega
  constructor
  ·exact fun h=>⟨‹_›,‹_›,‹_›,hsee,hfree,e _ h rfl⟩
  ·intro h
   have h2:=h.2.2.2.2.2
   have:holdsM (xs.map twP) (sumP (pAt xs i) (pAt xs k)) > 0:=by omega
   exact this
end Go.Proofs.YtpafacebfogkmaaGreat
namespace Go.Proofs.YtpafacebfogkmaaGreat
open Go.RowKit Go.Proofs.YtpafacebfogkmaaGreat.Nm
set_option maxRecDepth 10000
theorem locRow_eq {v:Nat} {t:TypeId} {k:ElK} {xs ys:List k.T} (h:xs=ys):(⟨v,.row t k xs⟩:Loc)=⟨v,.row t k ys⟩:=by rw [h]
def roomRoomC (f:List Pt→List Pt):Con:=mkCon [.room] (fun x=>x.1.length≤1048576) fun x=>rRoom (f x.1)
theorem ext_getD {α:Type} (d:α) {xs ys:List α} (hl:xs.length=ys.length) (h:∀ p,p < xs.length→xs.getD p d=ys.getD p d):xs=ys:=by
 refine List.ext_getElem hl fun p h1 h2=>?_
 have:=h p h1
 rwa [getD_lt _ h1,getD_lt _ h2] at this
theorem getD_set {α:Type} {xs:List α} {i p:Nat} {x d:α} (hi:i < xs.length):(xs.set i x).getD p d=if p=i then x else xs.getD p d:=by
 rw [List.getD_eq_getElem?_getD,List.getElem?_set]
 by_cases h:i=p
 ·subst h;simp [hi]
 ·rw [if_neg h,if_neg (Ne.symm h)];rfl
end Go.Proofs.YtpafacebfogkmaaGreat
namespace Go.Proofs.YtpafacebfogkmaaGreat
open Go.RowKit
abbrev gI (l:List Int) (k:Nat):Int:=l.getD k 0
def prvN (n i:Nat):Nat:=(i + n - 1) % n
def nxtN (n i:Nat):Nat:=(i + 1) % n
def cutM (xs:List Pt) (l:List Int) (i:Nat):Bool:=
 ((diagM xs (gI l (prvN l.length i)) (gI l (nxtN l.length i)) || neighZ xs.length (gI l (prvN l.length i)) (gI l (nxtN l.length i))) && decide (0 < turn (pI xs (gI l (prvN l.length i))) (pI xs (gI l i)) (pI xs (gI l (nxtN l.length i))))) &&
 l.all fun x=>decide (x=gI l (prvN l.length i)) || (decide (x=gI l i) || (decide (x=gI l (nxtN l.length i)) || !inTri (pI xs (gI l (prvN l.length i))) (pI xs (gI l i)) (pI xs (gI l (nxtN l.length i))) (pI xs x)))
theorem cutM_iff {xs:List Pt} {l:List Int} {i:Nat}:cutM xs l i=true↔(diagM xs (gI l (prvN l.length i)) (gI l (nxtN l.length i))=true∨neighZ xs.length (gI l (prvN l.length i)) (gI l (nxtN l.length i))=true) ∧
  0 < turn (pI xs (gI l (prvN l.length i))) (pI xs (gI l i)) (pI xs (gI l (nxtN l.length i))) ∧
  ∀ j,j < l.length→gI l j=gI l (prvN l.length i)∨gI l j=gI l i∨gI l j=gI l (nxtN l.length i)∨inTri (pI xs (gI l (prvN l.length i))) (pI xs (gI l i)) (pI xs (gI l (nxtN l.length i))) (pI xs (gI l j))=false:=by
 unfold cutM
 simp only [Bool.and_eq_true,Bool.or_eq_true,decide_eq_true_eq,List.all_eq_true,Bool.not_eq_true']
 constructor
 ·rintro ⟨⟨h1,h2⟩,h3⟩
  refine ⟨h1,h2,fun j hj=>h3 _ ?_⟩
  rw [show gI l j=l[j] from getD_lt _ hj]
  exact List.getElem_mem _
 ·rintro ⟨h1,h2,h3⟩
  refine ⟨⟨h1,h2⟩,fun x hx=>?_⟩
  obtain ⟨j,hj,rfl⟩:=List.getElem_of_mem hx
  have:=h3 j hj
  rwa [show gI l j=l[j] from getD_lt _ hj] at this
def firstCut (xs:List Pt) (l:List Int):Option Nat:=(List.range l.length).find? (cutM xs l)
theorem firstCut_spec {xs:List Pt} {l:List Int} {i:Nat} (h:firstCut xs l=some i):i < l.length∧cutM xs l i=true:=by
 unfold firstCut at h
 rw [List.find?_range_eq_some] at h
 exact ⟨List.mem_range.1 h.2.1,h.1⟩
def triS (a b c:Int):Tri:=(min (min a b) c,a + b + c - min (min a b) c - max (max a b) c,max (max a b) c)
def triAt (l:List Int) (i:Nat):Tri:=triS (gI l (prvN l.length i)) (gI l i) (gI l (nxtN l.length i))
def triRun (xs:List Pt):Nat→List Int→List Tri→List Tri
 | 0,l,out=>out ++ [triS (gI l 0) (gI l 1) (gI l 2)]
 | f + 1,l,out=>match firstCut xs l with
  | none=>[]
  | some i=>triRun xs f (l.eraseIdx i) (out ++ [triAt l i])
def allC (n:Nat):List Int:=(List.range n).map fun k:Nat=>(k:Int)
def trisM (xs:List Pt):List Tri:=if roomOk xs then triRun xs (xs.length - 3) (allC xs.length) [] else []
theorem allC_len (n:Nat):(allC n).length=n:=by simp [allC]
structure Left (n:Nat) (l:List Int):Prop where
 len:3≤l.length
 le:l.length≤n
 inc:l.Pairwise (· < ·)
 ge:∀ x∈l,0≤x
 lt:∀ x∈l,x < n
theorem left_all {n:Nat} (h:3≤n):Left n (allC n):=by
 refine ⟨by rw [allC_len];exact h,by rw [allC_len];exact Nat.le_refl _,?_,?_,?_⟩
 ·unfold allC
  rw [List.pairwise_map]
  exact List.pairwise_lt_range.imp fun h=>by omega
 all_goals (intro x hx;unfold allC at hx;obtain ⟨k,hk,rfl⟩:=List.mem_map.1 hx;have:=List.mem_range.1 hk;omega)
theorem Left.erase {n:Nat} {l:List Int} (h:Left n l) (h4:3 < l.length) {i:Nat} (hi:i < l.length):Left n (l.eraseIdx i):=by
 have hl:=List.length_eraseIdx_of_lt hi
 refine ⟨by omega,by have:=h.le;omega,h.inc.sublist (List.eraseIdx_sublist _ _),fun x hx=>h.ge x ((List.eraseIdx_sublist _ _).mem hx),fun x hx=>h.lt x ((List.eraseIdx_sublist _ _).mem hx)⟩
theorem gI_mem {l:List Int} {k:Nat} (h:k < l.length):gI l k∈l:=by rw [show gI l k=l[k] from getD_lt _ h];exact List.getElem_mem _
theorem Left.at {n:Nat} {l:List Int} (h:Left n l) {k:Nat} (hk:k < l.length):0≤gI l k∧gI l k < n:=⟨h.ge _ (gI_mem hk),h.lt _ (gI_mem hk)⟩
theorem Left.mono {n:Nat} {l:List Int} (h:Left n l) {i j:Nat} (hij:i < j) (hj:j < l.length):gI l i < gI l j:=by
 rw [show gI l i=l[i] from getD_lt _ (by omega),show gI l j=l[j] from getD_lt _ hj]
 exact List.pairwise_iff_getElem.1 h.inc i j (by omega) hj hij
theorem Left.inj {n:Nat} {l:List Int} (h:Left n l) {i j:Nat} (hi:i < l.length) (hj:j < l.length) (e:gI l i=gI l j):i=j:=by
 rcases Nat.lt_trichotomy i j with h1|h1|h1
 ·have:=h.mono h1 hj;omega
 ·exact h1
 ·have:=h.mono h1 hi;omega
theorem prv_lt {n i:Nat} (h:0 < n):prvN n i < n:=Nat.mod_lt _ h
theorem nxt_lt {n i:Nat} (h:0 < n):nxtN n i < n:=Nat.mod_lt _ h
theorem prv_eq {n i:Nat} (hi:i < n):(i=0∧prvN n i=n - 1)∨(0 < i∧prvN n i=i - 1):=by
 unfold prvN
 rcases Nat.eq_zero_or_pos i with h|h
 ·subst h;exact .inl ⟨rfl,by rw [Nat.zero_add,Nat.mod_eq_of_lt (by omega)]⟩
 ·exact .inr ⟨h,by rw [show i + n - 1=(i - 1) + n by omega,Nat.add_mod_right,Nat.mod_eq_of_lt (by omega)]⟩
theorem nxt_eq {n i:Nat} (hi:i < n):(i + 1=n∧nxtN n i=0)∨(i + 1 < n∧nxtN n i=i + 1):=by
 unfold nxtN
 rcases Nat.lt_or_ge (i + 1) n with h|h
 ·exact .inr ⟨h,Nat.mod_eq_of_lt h⟩
 ·have:i + 1=n:=by omega
  exact .inl ⟨this,by rw [this,Nat.mod_self]⟩
structure TriSt (xs:List Pt) (s:List Int × List Tri):Prop where
 left:Left xs.length s.1
 run:triRun xs (s.1.length - 3) s.1 s.2=trisM xs
 len:s.2.length + s.1.length=xs.length
theorem TriSt.step {xs:List Pt} {s:List Int × List Tri} (h:TriSt xs s) (h4:3 < s.1.length) {i:Nat} (hc:firstCut xs s.1=some i):TriSt xs (s.1.eraseIdx i,s.2 ++ [triAt s.1 i]):=by
 have hi:=(firstCut_spec hc).1
 have hl:=List.length_eraseIdx_of_lt hi
 refine ⟨h.left.erase h4 hi,?_,?_⟩
 ·have hr:=h.run
  show triRun xs ((s.1.eraseIdx i).length - 3) _ _=_
  rw [hl,show s.1.length - 1 - 3=s.1.length - 4 by omega]
  rw [show s.1.length - 3=(s.1.length - 4) + 1 by omega] at hr
  unfold triRun at hr
  rw [hc] at hr
  exact hr
 ·have:=h.len
  show (s.2 ++ [triAt s.1 i]).length + (s.1.eraseIdx i).length=_
  rw [List.length_append,hl]
  simp only [List.length_cons,List.length_nil]
  omega
theorem TriSt.none {xs:List Pt} {s:List Int × List Tri} (h:TriSt xs s) (h4:3 < s.1.length) (hc:firstCut xs s.1=none):trisM xs=[]:=by
 have hr:=h.run
 rw [show s.1.length - 3=(s.1.length - 4) + 1 by omega] at hr
 unfold triRun at hr
 rw [hc] at hr
 exact hr.symm
theorem TriSt.last {xs:List Pt} {s:List Int × List Tri} (h:TriSt xs s) (h3:s.1.length≤3):trisM xs=s.2 ++ [triS (gI s.1 0) (gI s.1 1) (gI s.1 2)]:=by
 have hr:=h.run
 rw [show s.1.length - 3=0 by omega] at hr
 exact hr.symm
inductive Cutd:List Int→List Tri→Prop
 | last {l:List Int} (h:l.length=3):Cutd l [triS (gI l 0) (gI l 1) (gI l 2)]
 | step {l:List Int} {ts:List Tri} {i:Nat} (h:3 < l.length) (hi:i < l.length) (hr:Cutd (l.eraseIdx i) ts):Cutd l (triAt l i :: ts)
theorem Cutd.ne {l:List Int} {ts:List Tri} (h:Cutd l ts):ts≠[]:=by cases h <;> simp
theorem triS_six (a b c:Int):triS a b c=(a,b,c)∨triS a b c=(a,c,b)∨triS a b c=(b,a,c)∨triS a b c=(b,c,a)∨triS a b c=(c,a,b)∨triS a b c=(c,b,a):=by
 unfold triS
 simp only [Prod.mk.injEq]
 omega
theorem triS_inc {a b c:Int} (h1:a≠b) (h2:b≠c) (h3:a≠c):(triS a b c).1 < (triS a b c).2.1∧(triS a b c).2.1 < (triS a b c).2.2:=by
 unfold triS
 simp only
 omega
def TriIn (n:Nat) (t:Tri):Prop:=0≤t.1∧t.1 < t.2.1∧t.2.1 < t.2.2∧t.2.2 < n
theorem triIn_of {n:Nat} {a b c:Int} (h1:a≠b) (h2:b≠c) (h3:a≠c) (ha:0≤a∧a < n) (hb:0≤b∧b < n) (hc:0≤c∧c < n):TriIn n (triS a b c):=by
 have hi:=triS_inc h1 h2 h3
 unfold TriIn
 rcases triS_six a b c with e|e|e|e|e|e <;> rw [e] at hi ⊢ <;> simp only at hi ⊢ <;> omega
theorem prv_ne {n i:Nat} (h3:3≤n) (hi:i < n):prvN n i≠i∧nxtN n i≠i∧prvN n i≠nxtN n i:=by
 rcases prv_eq hi with ⟨h1,h2⟩|⟨h1,h2⟩ <;> rcases nxt_eq hi with ⟨h4,h5⟩|⟨h4,h5⟩ <;> omega
theorem Left.triAt {n:Nat} {l:List Int} (h:Left n l) {i:Nat} (hi:i < l.length):TriIn n (triAt l i):=by
 have h3:=h.len
 obtain ⟨e1,e2,e3⟩:=prv_ne h3 hi
 have hp:=prv_lt (n:=l.length) (i:=i) (by omega)
 have hq:=nxt_lt (n:=l.length) (i:=i) (by omega)
 exact triIn_of (fun e=>e1 (h.inj hp hi e)) (fun e=>e2 (h.inj hq hi e.symm)) (fun e=>e3 (h.inj hp hq e)) (h.at hp) (h.at hi) (h.at hq)
theorem Cutd.drop {n:Nat} {l:List Int} {ts:List Tri} (h:Cutd l ts) (hl:Left n l):∀ j,j < ts.length→∃ l',Left n l'∧Cutd l' (ts.drop j):=by
 induction h with
 | last h3=>
  intro j hj
  have:j=0:=by simpa using hj
  subst this
  exact ⟨_,hl,.last h3⟩
 | step h4 hi hr ih=>
  intro j hj
  cases j with
  | zero=>exact ⟨_,hl,.step h4 hi hr⟩
  | succ j=>exact ih (hl.erase h4 hi) j (by simpa using hj)
abbrev cI (out:List Int) (x:Int):Int:=out.getD x.toNat 0
def colStep (out:List Int) (t:Tri):List Int:=
 if cI out t.1 < 0 then out.set t.1.toNat (3 - cI out t.2.1 - cI out t.2.2)
 else if cI out t.2.1 < 0 then out.set t.2.1.toNat (3 - cI out t.2.2 - cI out t.1)
 else if cI out t.2.2 < 0 then out.set t.2.2.toNat (3 - cI out t.1 - cI out t.2.1)
 else out
theorem colStep_len (out:List Int) (t:Tri):(colStep out t).length=out.length:=by
 unfold colStep
 split
 ·simp
 ·split
  ·simp
  ·split <;> simp
theorem cI_set {out:List Int} {x y:Int} {v:Int} (hx:0≤x∧x < out.length) (hy:0≤y):cI (out.set x.toNat v) y=if y=x then v else cI out y:=by
 unfold cI
 rw [getD_set (by omega)]
 by_cases h:y=x
 ·subst h;rw [if_pos rfl,if_pos rfl]
 ·rw [if_neg h,if_neg (by omega)]
structure Col (n:Nat) (l:List Int) (out:List Int):Prop where
 len:out.length=n
 yes:∀ x∈l,0≤cI out x∧cI out x≤2
 no:∀ x:Int,0≤x→x < n→x ∉ l→cI out x=-1
 ne:∀ k,k < l.length→cI out (gI l k)≠cI out (gI l (nxtN l.length k))
theorem gI_erase {l:List Int} {i j:Nat} (hj:j + 1 < l.length):gI (l.eraseIdx i) j=if j < i then gI l j else gI l (j + 1):=by
 unfold gI
 rw [List.getD_eq_getElem?_getD,List.getElem?_eraseIdx]
 split <;> rw [← List.getD_eq_getElem?_getD]
theorem mem_gI {l:List Int} {x:Int}:x∈l↔∃ k,k < l.length∧gI l k=x:=by
 rw [List.mem_iff_getElem]
 constructor
 ·rintro ⟨k,h,e⟩;exact ⟨k,h,by rw [show gI l k=l[k] from getD_lt _ h,e]⟩
 ·rintro ⟨k,h,e⟩;exact ⟨k,h,by rw [← e,show gI l k=l[k] from getD_lt _ h]⟩
theorem Left.mem_erase {n:Nat} {l:List Int} (h:Left n l) {i:Nat} (hi:i < l.length) {x:Int}:x∈l.eraseIdx i↔x∈l∧x≠gI l i:=by
 have hl:=List.length_eraseIdx_of_lt hi
 rw [mem_gI,mem_gI,hl]
 constructor
 ·rintro ⟨k,hk,e⟩
  rw [gI_erase (by omega)] at e
  split at e
  ·exact ⟨⟨k,by omega,e⟩,fun e'=>by have:=h.inj (i:=k) (j:=i) (by omega) hi (by rw [e,e']);omega⟩
  ·exact ⟨⟨k + 1,by omega,e⟩,fun e'=>by have:=h.inj (i:=k + 1) (j:=i) (by omega) hi (by rw [e,e']);omega⟩
 ·rintro ⟨⟨k,hk,e⟩,hne⟩
  have hki:k≠i:=fun e'=>hne (by rw [← e,e'])
  rcases Nat.lt_or_ge k i with h1|h1
  ·exact ⟨k,by omega,by rw [gI_erase (by omega),if_pos h1,e]⟩
  ·exact ⟨k - 1,by omega,by rw [gI_erase (by omega),if_neg (by omega),show k - 1 + 1=k by omega,e]⟩
theorem colStep_cut {out:List Int} {p c q:Int} (hc:cI out c < 0) (hp:0≤cI out p) (hq:0≤cI out q):colStep out (triS p c q)=out.set c.toNat (3 - cI out p - cI out q):=by
 unfold colStep
 rcases triS_six p c q with e|e|e|e|e|e <;> rw [e] <;> simp only
 ·rw [if_neg (by omega),if_pos hc];congr 1;omega
 ·rw [if_neg (by omega),if_neg (by omega),if_pos hc]
 ·rw [if_pos hc]
 ·rw [if_pos hc];congr 1;omega
 ·rw [if_neg (by omega),if_neg (by omega),if_pos hc];congr 1;omega
 ·rw [if_neg (by omega),if_pos hc]
theorem Col.step {n:Nat} {l:List Int} {i:Nat} {out:List Int} (hl:Left n l) (h4:3 < l.length) (hi:i < l.length) (h:Col n (l.eraseIdx i) out) :
  (cI out (gI l i)=-1∧(0≤cI out (gI l (prvN l.length i))∧cI out (gI l (prvN l.length i))≤2)∧(0≤cI out (gI l (nxtN l.length i))∧cI out (gI l (nxtN l.length i))≤2))∧Col n l (colStep out (triAt l i)):=by
 have hlen:=List.length_eraseIdx_of_lt hi
 obtain ⟨e1,e2,e3⟩:=prv_ne (n:=l.length) (by omega) hi
 have hp:=prv_lt (n:=l.length) (i:=i) (by omega)
 have hq:=nxt_lt (n:=l.length) (i:=i) (by omega)
 have hpm:gI l (prvN l.length i)∈l.eraseIdx i:=(hl.mem_erase hi).2 ⟨gI_mem hp,fun e=>e1 (hl.inj hp hi e)⟩
 have hqm:gI l (nxtN l.length i)∈l.eraseIdx i:=(hl.mem_erase hi).2 ⟨gI_mem hq,fun e=>e2 (hl.inj hq hi e)⟩
 have hcn:gI l i ∉ l.eraseIdx i:=fun hm=>((hl.mem_erase hi).1 hm).2 rfl
 have hc:=h.no _ (hl.at hi).1 (hl.at hi).2 hcn
 have hcp:=h.yes _ hpm
 have hcq:=h.yes _ hqm
 have hpq:cI out (gI l (prvN l.length i))≠cI out (gI l (nxtN l.length i)):=by
  have key:∃ k,k < (l.eraseIdx i).length∧gI (l.eraseIdx i) k=gI l (prvN l.length i)∧gI (l.eraseIdx i) (nxtN (l.eraseIdx i).length k)=gI l (nxtN l.length i):=by
   rcases prv_eq hi with ⟨h1,h2⟩|⟨h1,h2⟩
   ·refine ⟨l.length - 2,by omega,by rw [gI_erase (by omega),if_neg (by omega),h2];congr 1;omega,?_⟩
    rcases nxt_eq (n:=(l.eraseIdx i).length) (i:=l.length - 2) (by omega) with ⟨g1,g2⟩|⟨g1,g2⟩
    ·rcases nxt_eq hi with ⟨g3,g4⟩|⟨g3,g4⟩
     ·omega
     ·rw [g2,g4,gI_erase (by omega),if_neg (by omega)];congr 1;omega
    ·omega
   ·refine ⟨i - 1,by omega,by rw [gI_erase (by omega),if_pos (by omega),h2],?_⟩
    rcases nxt_eq hi with ⟨g3,g4⟩|⟨g3,g4⟩
    ·rcases nxt_eq (n:=(l.eraseIdx i).length) (i:=i - 1) (by omega) with ⟨g1,g2⟩|⟨g1,g2⟩
     ·rw [g2,g4,gI_erase (by omega),if_pos (by omega)]
     ·omega
    ·rcases nxt_eq (n:=(l.eraseIdx i).length) (i:=i - 1) (by omega) with ⟨g1,g2⟩|⟨g1,g2⟩
     ·omega
     ·rw [g2,g4,gI_erase (by omega),if_neg (by omega)];congr 1;omega
  obtain ⟨k,k1,k2,k3⟩:=key
  have:=h.ne k k1
  rw [k2,k3] at this
  exact this
 refine ⟨⟨hc,hcp,hcq⟩,?_⟩
 have hs:colStep out (triAt l i)=out.set (gI l i).toNat (3 - cI out (gI l (prvN l.length i)) - cI out (gI l (nxtN l.length i))):=colStep_cut (by omega) hcp.1 hcq.1
 have hcx:0≤gI l i∧gI l i < out.length:=by rw [h.len];exact hl.at hi
 have hget:∀ y,0≤y→cI (colStep out (triAt l i)) y=if y=gI l i then 3 - cI out (gI l (prvN l.length i)) - cI out (gI l (nxtN l.length i)) else cI out y:=fun y hy=>by rw [hs];exact cI_set hcx hy
 refine ⟨by rw [colStep_len,h.len],fun x hx=>?_,fun x h0 h1 hx=>?_,fun k hk=>?_⟩
 ·rw [hget x (hl.ge x hx)]
  split
  ·omega
  ·exact h.yes x ((hl.mem_erase hi).2 ⟨hx,by assumption⟩)
 ·rw [hget x h0,if_neg (fun e=>hx (by rw [e];exact gI_mem hi))]
  exact h.no x h0 h1 (fun hm=>hx ((hl.mem_erase hi).1 hm).1)
 ·have hkn:=nxt_lt (n:=l.length) (i:=k) (by omega)
  rw [hget _ (hl.at hk).1,hget _ (hl.at hkn).1]
  by_cases hki:k=i
  ·subst hki
   rw [if_pos rfl,if_neg (fun e=>e2 (hl.inj hq hi e))]
   omega
  ·rw [if_neg (fun e=>hki (hl.inj hk hi e))]
   by_cases hni:nxtN l.length k=i
   ·rw [if_pos (by rw [hni])]
    have hkp:k=prvN l.length i:=by
     rcases nxt_eq hk with ⟨g1,g2⟩|⟨g1,g2⟩ <;> rcases prv_eq hi with ⟨g3,g4⟩|⟨g3,g4⟩ <;> omega
    rw [hkp]
    omega
   ·rw [if_neg (fun e=>hni (hl.inj hkn hi e))]
    have key:∃ j,j < (l.eraseIdx i).length∧gI (l.eraseIdx i) j=gI l k∧gI (l.eraseIdx i) (nxtN (l.eraseIdx i).length j)=gI l (nxtN l.length k):=by
     rcases Nat.lt_or_ge k i with h1|h1
     ·refine ⟨k,by omega,by rw [gI_erase (by omega),if_pos h1],?_⟩
      rcases nxt_eq hk with ⟨g1,g2⟩|⟨g1,g2⟩
      ·omega
      ·rcases nxt_eq (n:=(l.eraseIdx i).length) (i:=k) (by omega) with ⟨g3,g4⟩|⟨g3,g4⟩
       ·omega
       ·rw [g2,g4,gI_erase (by omega),if_pos (by omega)]
     ·refine ⟨k - 1,by omega,by rw [gI_erase (by omega),if_neg (by omega),show k - 1 + 1=k by omega],?_⟩
      rcases nxt_eq hk with ⟨g1,g2⟩|⟨g1,g2⟩
      ·rcases nxt_eq (n:=(l.eraseIdx i).length) (i:=k - 1) (by omega) with ⟨g3,g4⟩|⟨g3,g4⟩
       ·rw [g2,g4,gI_erase (by omega),if_pos (by omega)]
       ·omega
      ·rcases nxt_eq (n:=(l.eraseIdx i).length) (i:=k - 1) (by omega) with ⟨g3,g4⟩|⟨g3,g4⟩
       ·omega
       ·rw [g2,g4,gI_erase (by omega),if_neg (by omega)];congr 1;omega
    obtain ⟨j,j1,j2,j3⟩:=key
    have:=h.ne j j1
    rw [j2,j3] at this
    exact this
end Go.Proofs.YtpafacebfogkmaaGreat
