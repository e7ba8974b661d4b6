/- What the proof of 'FnExactPartsOf' needs, part 6: conditions and steps of the functions that it reaches, and the mathematics. -/
import Derived.Test.YtpafacebfogkmaaGreatRows
import Derived.WalkKit
import Derived.WalkSpells
import Derived.Below
import Derived.Orders
import Derived.Maps.AppendAt
import Derived.Laws.StructEq
import Derived.WideShapes
import Derived.ChangeSlices
import Derived.Deep.Strs
import Derived.ChangeOld
import Derived.Shelf.SlLaysF0
import Derived.Shelf.SlSortCmp.InsertionK
import Derived.Shelf.SlSortCmp.SmallK
import Derived.Shelf.SlSortCmp.Xorshift
import Derived.Sort.LotA
import Derived.Test.YtpafacebfogkmaaGreatSFnExactPartsOf5
set_option linter.unusedSimpArgs false
set_option linter.unusedVariables false
namespace Go.Proofs.YtpafacebfogkmaaGreat.Geo
structure Poly where
 n:Nat
 v:Nat→Pt
 per:∀ j,v (j + n)=v j
def Poly.way (P:Poly):Way:=⟨P.n,P.v,by have:=P.per 0;rwa [Nat.zero_add] at this⟩
structure SimpleP (P:Poly):Prop where
 n3:3≤P.n
 off:∀ j d,2≤d→d < P.n→Off (P.v (j + d)) (P.v j) (P.v (j + 1))
 apart:∀ j d,2≤d→d + 2≤P.n→Part (P.v j) (P.v (j + 1)) (P.v (j + d)) (P.v (j + d + 1))
 bend:∀ k,Bends (P.v k) (P.v (k + 1)) (P.v (k + 2))∧Bends (P.v (k + 2)) (P.v (k + 1)) (P.v k)
theorem Part.symm {a b q r:Pt} (h:Part a b q r):Part q r a b:=by
 obtain ⟨f,fa,fb,fq,fr⟩:=h
 refine ⟨Aff.lc (-2) f 0 f 1,?_,?_,?_,?_⟩ <;> rw [ev_lc] <;> omega
theorem Off.swap {p a b:Pt} (h:Off p a b):Off p b a:=let ⟨f,fa,fb,fp⟩:=h;⟨f,fb,fa,fp⟩
theorem SimpleP.simple {P:Poly} (h:SimpleP P):Simple P.way:=by
 refine ⟨h.n3,fun j k hj hk h1 h2=>?_,fun j k hj hk h1 h2=>?_,fun k hk=>h.bend k,fun k hk=>?_⟩
 ·have hj:j < P.n:=hj
  have hk:k + 1 < P.n:=hk
  show Off (P.v (k + 1)) (P.v j) (P.v (j + 1))
  rcases (show j < k + 1∨k + 1 < j by omega) with h3|h3
  ·have:=h.off j (k + 1 - j) (by omega) (by omega)
   rwa [show j + (k + 1 - j)=k + 1 by omega] at this
  ·have:=h.off j (k + 1 + P.n - j) (by omega) (by omega)
   rwa [show j + (k + 1 + P.n - j)=k + 1 + P.n by omega,P.per] at this
 ·have hj:j < P.n:=hj
  have hk:k < P.n:=hk
  have h2:¬ Adj P.n j k:=h2
  unfold Adj at h2
  show Part (P.v j) (P.v (j + 1)) (P.v k) (P.v (k + 1))
  rcases (show j < k∨k < j by omega) with h3|h3
  ·have:=h.apart j (k - j) (by omega) (by omega)
   rwa [show j + (k - j)=k by omega] at this
  ·have:=h.apart j (k + P.n - j) (by omega) (by omega)
   rwa [show j + (k + P.n - j)=k + P.n by omega,P.per,show k + P.n + 1=k + 1 + P.n by omega,P.per] at this
 ·have hk:k + 1=P.n:=hk
  have:=h.bend k
  rw [hk] at this
  have e0:P.v P.n=P.v 0:=by have:=P.per 0;rwa [Nat.zero_add] at this
  have e1:P.v (k + 2)=P.v 1:=by rw [show k + 2=1 + P.n by omega,P.per]
  rw [e0,e1] at this
  exact this
def Poly.rot (P:Poly) (s:Nat):Poly:=⟨P.n,fun j=>P.v (s + j),fun j=>by show P.v (s + (j + P.n))=P.v (s + j);rw [← Nat.add_assoc,P.per]⟩
theorem SimpleP.rot {P:Poly} (h:SimpleP P) (s:Nat):SimpleP (P.rot s):=
 ⟨h.n3,fun j d h1 h2=>by have:=h.off (s + j) d h1 h2;simpa only [Poly.rot,Nat.add_assoc] using this,fun j d h1 h2=>by have:=h.apart (s + j) d h1 h2;simpa only [Poly.rot,Nat.add_assoc] using this,
  fun k=>by have:=h.bend (s + k);simpa only [Poly.rot,Nat.add_assoc] using this⟩
theorem sumN_shift {f:Nat→Int} {n:Nat} (hf:∀ j,f (j + n)=f j) (s:Nat):sumN (fun j=>f (s + j)) n=sumN f n:=by
 have split:∀ (a b:Nat),sumN f (a + b)=sumN f a + sumN (fun j=>f (a + j)) b:=fun a b=>by
  induction b with
  | zero=>simp [sumN]
  | succ b ih=>rw [← Nat.add_assoc];simp only [sumN];rw [ih];omega
 induction s with
 | zero=>exact sumN_congr fun k _=>by rw [Nat.zero_add]
 | succ s ih=>
  rw [← ih]
  have h1:=split s (n + 1)
  have h2:=split (s + 1) n
  rw [show s + (n + 1)=s + 1 + n by omega,h2] at h1
  have h3:sumN (fun j=>f (s + j)) (n + 1)=sumN (fun j=>f (s + j)) n + f s:=by simp only [sumN];rw [hf]
  have h4:sumN f (s + 1)=sumN f s + f s:=rfl
  omega
theorem wnd_rot (h:Aff) (P:Poly) (s:Nat) (p:Pt):wnd h (P.rot s).way p=wnd h P.way p:=by
 have:=sumN_shift (f:=fun k=>crN h p (P.v k) (P.v (k + 1))) (n:=P.n) (fun j=>by simp only [P.per,show j + P.n + 1=j + 1 + P.n by omega]) s
 exact this
def crs0 (a b:Pt):Int:=a.1 * b.2 - a.2 * b.1
def Poly.area (P:Poly):Int:=sumN (fun k=>crs0 (P.v k) (P.v (k + 1))) P.n
theorem area_rot (P:Poly) (s:Nat):(P.rot s).area=P.area:=by
 have:=sumN_shift (f:=fun k=>crs0 (P.v k) (P.v (k + 1))) (n:=P.n) (fun j=>by simp only [P.per,show j + P.n + 1=j + 1 + P.n by omega]) s
 exact this
def Poly.arc (P:Poly) (m:Nat):Poly:=⟨m + 1,fun j=>P.v (j % (m + 1)),fun j=>by show P.v ((j + (m + 1)) % (m + 1))=_;rw [Nat.add_mod_right]⟩
theorem arc_v (P:Poly) {m j:Nat} (h:j≤m):(P.arc m).v j=P.v j:=by show P.v (j % (m + 1))=_;rw [Nat.mod_eq_of_lt (by omega)]
theorem arc_v0 (P:Poly) (m:Nat):(P.arc m).v (m + 1)=P.v 0:=by show P.v ((m + 1) % (m + 1))=_;rw [Nat.mod_self]
theorem sum_arc (g:Pt→Pt→Int) (P:Poly) (m:Nat):sumN (fun k=>g ((P.arc m).v k) ((P.arc m).v (k + 1))) (m + 1)=sumN (fun k=>g (P.v k) (P.v (k + 1))) m + g (P.v m) (P.v 0):=by
 show sumN _ m + g ((P.arc m).v m) ((P.arc m).v (m + 1))=_
 rw [arc_v P (Nat.le_refl m),arc_v0]
 congr 1
 exact sumN_congr fun k hk=>by rw [arc_v P (by omega),arc_v P (by omega)]
theorem sum_cut (g:Pt→Pt→Int) (hg:∀ a b,g b a=- g a b) (P:Poly) {m:Nat} (hm:m≤P.n) :
  sumN (fun k=>g (P.v k) (P.v (k + 1))) P.n=sumN (fun k=>g ((P.arc m).v k) ((P.arc m).v (k + 1))) (m + 1) + sumN (fun k=>g (((P.rot m).arc (P.n - m)).v k) (((P.rot m).arc (P.n - m)).v (k + 1))) (P.n - m + 1):=by
 rw [sum_arc,sum_arc]
 have split:∀ (f:Nat→Int) (a b:Nat),sumN f (a + b)=sumN f a + sumN (fun j=>f (a + j)) b:=fun f a b=>by
  induction b with
  | zero=>simp [sumN]
  | succ b ih=>rw [← Nat.add_assoc];simp only [sumN];rw [ih];omega
 have h1:=split (fun k=>g (P.v k) (P.v (k + 1))) m (P.n - m)
 rw [show m + (P.n - m)=P.n by omega] at h1
 have e1:(P.rot m).v (P.n - m)=P.v 0:=by
  show P.v (m + (P.n - m))=P.v 0
  rw [show m + (P.n - m)=0 + P.n by omega,P.per]
 have e2:(P.rot m).v 0=P.v m:=by show P.v (m + 0)=_;rw [Nat.add_zero]
 have e3:∀ k,(P.rot m).v k=P.v (m + k):=fun k=>rfl
 have e4:=hg (P.v 0) (P.v m)
 rw [e1,e2]
 simp only [e3,Nat.add_assoc] at h1 ⊢
 omega
theorem wnd_cut (h:Aff) (P:Poly) {m:Nat} (hm:m≤P.n) (p:Pt):wnd h P.way p=wnd h (P.arc m).way p + wnd h ((P.rot m).arc (P.n - m)).way p:=sum_cut (crN h p) (fun a b=>crN_swap h p a b) P hm
theorem area_cut (P:Poly) {m:Nat} (hm:m≤P.n):P.area=(P.arc m).area + ((P.rot m).arc (P.n - m)).area:=sum_cut crs0 (fun a b=>by unfold crs0;grind) P hm
structure Chord (P:Poly) (m:Nat):Prop where
 m2:2≤m
 mn:m + 2≤P.n
 off:∀ j,0 < j→j < P.n→j≠m→Off (P.v j) (P.v 0) (P.v m)
 apart:∀ j,0 < j→j + 1 < P.n→j≠m→j + 1≠m→Part (P.v j) (P.v (j + 1)) (P.v 0) (P.v m)
 b0:(Bends (P.v m) (P.v 0) (P.v 1)∧Bends (P.v 1) (P.v 0) (P.v m))∧Bends (P.v m) (P.v 0) (P.v (P.n - 1))∧Bends (P.v (P.n - 1)) (P.v 0) (P.v m)
 bm:(Bends (P.v 0) (P.v m) (P.v (m - 1))∧Bends (P.v (m - 1)) (P.v m) (P.v 0))∧Bends (P.v 0) (P.v m) (P.v (m + 1))∧Bends (P.v (m + 1)) (P.v m) (P.v 0)
theorem SimpleP.arc {P:Poly} (h:SimpleP P) {m:Nat} (c:Chord P m):SimpleP (P.arc m):=by
 have hm2:=c.m2
 have hmn:=c.mn
 have red:∀ j,(P.arc m).v j=P.v (j % (m + 1)):=fun _=>rfl
 have hoff:∀ i t,i < m→t≤m→t≠i→t≠i + 1→Off (P.v t) (P.v i) (P.v (i + 1)):=by
  intro i t hi ht h1 h2
  rcases (show i < t∨t < i by omega) with h3|h3
  ·have:=h.off i (t - i) (by omega) (by omega)
   rwa [show i + (t - i)=t by omega] at this
  ·have:=h.off i (t + P.n - i) (by omega) (by omega)
   rwa [show i + (t + P.n - i)=t + P.n by omega,P.per] at this
 have hap:∀ i t,i + 2≤t→t < m→Part (P.v i) (P.v (i + 1)) (P.v t) (P.v (t + 1)):=by
  intro i t hi ht
  have:=h.apart i (t - i) (by omega) (by omega)
  rwa [show i + (t - i)=t by omega] at this
 have mlt:∀ j,j % (m + 1) < m + 1:=fun j=>Nat.mod_lt _ (by omega)
 have madd:∀ j d,(j + d) % (m + 1)=(j % (m + 1) + d) % (m + 1):=fun j d=>by rw [Nat.mod_add_mod]
 have mone:∀ x,x < 2 * (m + 1)→x % (m + 1)=if x < m + 1 then x else x - (m + 1):=fun x hx=>by
  split
  ·exact Nat.mod_eq_of_lt (by assumption)
  ·rw [Nat.mod_eq_sub_mod (by omega),Nat.mod_eq_of_lt (by omega)]
 refine ⟨by show 3≤m + 1;omega,fun j d h1 h2=>?_,fun j d h1 h2=>?_,fun k=>?_⟩
 ·have h2:d < m + 1:=h2
  rw [red,red,red,madd j d,madd j 1]
  have hi:=mlt j
  generalize j % (m + 1)=i at *
  rcases (show i=m∨i < m by omega) with rfl|him
  ·rw [Nat.mod_self,mone _ (by omega),if_neg (by omega)]
   exact (c.off _ (by omega) (by omega) (by omega)).swap
  ·rw [mone (i + 1) (by omega),if_pos (by omega),mone (i + d) (by omega)]
   split
   ·exact hoff i _ him (by omega) (by omega) (by omega)
   ·exact hoff i _ him (by omega) (by omega) (by omega)
 ·have h2:d + 2≤m + 1:=h2
  rw [red,red,red,red,madd j d,madd j 1,show j + d + 1=j + (d + 1) by omega,madd j (d + 1)]
  have hi:=mlt j
  generalize j % (m + 1)=i at *
  rcases (show i=m∨i < m by omega) with rfl|him
  ·rw [Nat.mod_self,mone (i + d) (by omega),if_neg (by omega),mone (i + (d + 1)) (by omega),if_neg (by omega)]
   have:=c.apart (i + d - (i + 1)) (by omega) (by omega) (by omega) (by omega)
   rw [show i + d - (i + 1) + 1=i + (d + 1) - (i + 1) by omega] at this
   exact this.symm.swap
  ·rw [mone (i + 1) (by omega),if_pos (by omega),mone (i + d) (by omega),mone (i + (d + 1)) (by omega)]
   rcases (show i + d < m∨i + d=m∨m < i + d by omega) with h3|h3|h3
   ·rw [if_pos (by omega),if_pos (by omega)]
    exact hap i (i + d) (by omega) h3
   ·rw [if_pos (by omega),if_neg (by omega),show i + (d + 1) - (m + 1)=0 by omega,h3]
    exact (c.apart i (by omega) (by omega) (by omega) (by omega)).comm2
   ·rw [if_neg (by omega),if_neg (by omega),show i + (d + 1) - (m + 1)=i + d - (m + 1) + 1 by omega]
    exact (hap (i + d - (m + 1)) i (by omega) him).symm
 ·rw [red,red,red,madd k 1,madd k 2]
  have hi:=mlt k
  generalize k % (m + 1)=i at *
  rcases (show i=m∨i + 1=m∨i + 1 < m by omega) with rfl|rfl|him
  ·rw [Nat.mod_self,mone (i + 2) (by omega),if_neg (by omega),show i + 2 - (i + 1)=1 by omega]
   exact c.b0.1
  ·rw [mone (i + 1) (by omega),if_pos (by omega),show i + 2=i + 1 + 1 from rfl,Nat.mod_self]
   exact ⟨c.bm.1.2,c.bm.1.1⟩
  ·rw [mone (i + 1) (by omega),if_pos (by omega),mone (i + 2) (by omega),if_pos (by omega)]
   exact h.bend i
theorem Chord.rot {P:Poly} {m:Nat} (c:Chord P m):Chord (P.rot m) (P.n - m):=by
 have hm2:=c.m2
 have hmn:=c.mn
 have e0:(P.rot m).v 0=P.v m:=by show P.v (m + 0)=_;rw [Nat.add_zero]
 have em:(P.rot m).v (P.n - m)=P.v 0:=by show P.v (m + (P.n - m))=_;rw [show m + (P.n - m)=0 + P.n by omega,P.per]
 have ev:∀ j,(P.rot m).v j=if m + j < P.n then P.v (m + j) else P.v (m + j - P.n):=fun j=>by
  show P.v (m + j)=_
  split
  ·rfl
  ·rw [show m + j=m + j - P.n + P.n by omega,P.per,Nat.add_sub_cancel]
 refine ⟨by omega,by show P.n - m + 2≤P.n;omega,fun j h1 h2 h3=>?_,fun j h1 h2 h3 h4=>?_,?_,?_⟩
 ·have h2:j < P.n:=h2
  rw [e0,em,ev]
  split
  ·exact (c.off _ (by omega) (by omega) (by omega)).swap
  ·exact (c.off _ (by omega) (by omega) (by omega)).swap
 ·have h2:j + 1 < P.n:=h2
  rw [e0,em,ev,ev]
  rcases (show m + (j + 1) < P.n∨P.n < m + j by omega) with h5|h5
  ·rw [if_pos (by omega),if_pos h5]
   exact (c.apart (m + j) (by omega) (by omega) (by omega) (by omega)).comm2
  ·rw [if_neg (by omega),if_neg (by omega)]
   have:=c.apart (m + j - P.n) (by omega) (by omega) (by omega) (by omega)
   rw [show m + j - P.n + 1=m + (j + 1) - P.n by omega] at this
   exact this.comm2
 ·rw [e0,em,ev,ev,show (P.rot m).n - 1=P.n - 1 from rfl,if_pos (by omega),if_neg (by omega),show m + (P.n - 1) - P.n=m - 1 by omega]
  exact ⟨c.bm.2,c.bm.1⟩
 ·rw [e0,em,ev,ev,if_pos (by omega),if_neg (by omega),show m + (P.n - m - 1)=P.n - 1 by omega,show m + (P.n - m + 1) - P.n=1 by omega]
  exact ⟨c.b0.2,c.b0.1⟩
def LeftIs (h:Aff) (P:Way) (l:Int):Prop:=(l=0∨l=1) ∧
  (∀ (K:Int) (k:Nat) (x:Pt),0 < K→k < P.n→OnI x (smul K (P.v k)) (smul K (P.v (k + 1)))→lam (h.sc K) (P.sc K) k x=l)∧∀ (K:Int) (p:Pt),0 < K→Clear (h.sc K) (P.sc K) p→wnd (h.sc K) (P.sc K) p=l∨wnd (h.sc K) (P.sc K) p=l - 1
theorem wnd_below {h:Aff} {P:Way} {p:Pt} (hl:∀ k,k < P.n→h.ev p < h.ev (P.v k)):wnd h P p=0:=by
 have hl':∀ k,k < P.n→h.ev p < h.ev (P.v (k + 1)):=fun k hk=>by
  rcases (show k + 1 < P.n∨k + 1=P.n by omega) with e|e
  ·exact hl _ e
  ·rw [e,P.cyc];exact hl 0 (by omega)
 have:wnd h P p=sumN (fun _=>0) P.n:=sumN_congr fun k hk=>by
  have h1:=hl k hk
  have h2:=hl' k hk
  unfold crN
  repeat' split
  all_goals omega
 rw [this]
 have z:∀ n,sumN (fun _=>0) n=0:=fun n=>by
  induction n with
  | zero=>rfl
  | succ n ih=>simp only [sumN,ih];rfl
 exact z _
theorem bend_lev {h:Aff} {a b z:Pt} (hb:Bends a b z) (ha:h.ev b < h.ev a) (hz:h.ev b < h.ev z):turnZ a b z≠0:=by
 intro ht
 have hd:0 < dotZ a b z:=hb.2.resolve_left (fun e=>e ht)
 have e:((b.1 - a.1) * (b.1 - a.1) + (b.2 - a.2) * (b.2 - a.2)) * (h.ev z - h.ev b)=dotZ a b z * (h.ev b - h.ev a) + turnZ a b z * (h.v * (b.1 - a.1) - h.u * (b.2 - a.2)):=by unfold dotZ turnZ Aff.ev;grind
 rw [ht,Int.zero_mul,Int.add_zero] at e
 have g1:=pp (sq_pos hb.1) (show 0 < h.ev z - h.ev b by omega)
 have g2:=pm hd (show h.ev b - h.ev a < 0 by omega)
 omega
theorem low_turn {P:Way} (hP:Simple P) {h:Aff} (hh:Sloped h P) {l:Int} (hl:LeftIs h P l) (hlow:∀ j,j < P.n→j≠1→h.ev (P.v 1) < h.ev (P.v j)) :
  (l=1∧0 < turnZ (P.v 0) (P.v 1) (P.v 2))∨(l=0∧turnZ (P.v 0) (P.v 1) (P.v 2) < 0):=by
 have h3:=hP.n3
 have hb:=hP.bend 0 (by omega)
 have hl0:=hlow 0 (by omega) (by omega)
 have hl2:h.ev (P.v 1) < h.ev (P.v 2):=hlow 2 (by omega) (by omega)
 have ht:turnZ (P.v 0) (P.v 1) (P.v 2)≠0:=bend_lev hb.1 hl0 hl2
 have near:Late fun K=>∀ j,j < P.n→(j≠0→j≠1→Part (smul K (P.v j)) (smul K (P.v (j + 1))) (padd (smul K (P.v 1)) (psub (P.v 1) (P.v 2))) (nearA K (P.v 1) (P.v 0))):=by
  refine Late.all fun j hj=>?_
  by_cases e:j=0∨j=1
  ·exact Late.of fun K _ h1 h2=>absurd e (by omega)
  ·exact ((hP.off j 0 hj (by omega) (by omega) (by omega)).near _ _).imp fun K _ h _ _=>h
 obtain ⟨K,hK,hn,hK2⟩:=(near.and (Late.ge 2)).get
 obtain ⟨p,hp⟩:∃ p,p=padd (smul K (P.v 1)) (psub (P.v 1) (P.v 2)):=⟨_,rfl⟩
 rw [← hp] at hn
 have t1:turnZ (smul K (P.v 0)) (smul K (P.v 1)) p=-(K * turnZ (P.v 0) (P.v 1) (P.v 2)):=by rw [hp];unfold turnZ smul padd psub;grind
 have t2:turnZ (smul K (P.v 1)) (smul K (P.v 2)) p=0:=by rw [hp];unfold turnZ smul padd psub;grind
 have t3:turnZ (smul K (P.v 0)) (smul K (P.v 1)) (nearA K (P.v 1) (P.v 0))=0:=by unfold nearA turnZ smul padd psub;grind
 have t4:turnZ (smul K (P.v 1)) (smul K (P.v 2)) (nearA K (P.v 1) (P.v 0))=K * turnZ (P.v 0) (P.v 1) (P.v 2):=by unfold nearA turnZ smul padd psub;grind
 have t5:turnZ (smul K (P.v 0)) (smul K (P.v 1)) (smul K (P.v 1))=0:=by unfold turnZ;grind
 have t6:turnZ (smul K (P.v 1)) (smul K (P.v 2)) (smul K (P.v 1))=0:=by unfold turnZ;grind
 have t7:turnZ (smul K (P.v 0)) (smul K (P.v 1)) (smul K (P.v 2))=K * (K * turnZ (P.v 0) (P.v 1) (P.v 2)):=turn_sc0 _ _ _ _
 have t8:turnZ (smul K (P.v 1)) (smul K (P.v 2)) (smul K (P.v 2))=0:=by unfold turnZ;grind
 have hs:∀ j,j < (P.sc K).n→j≠0→Part ((P.sc K).v j) ((P.sc K).v (j + 1)) p (nearA K (P.v 1) (P.v 0)):=by
  intro j hj hj0
  by_cases e:j=1
  ·subst e
   show Part (smul K (P.v 1)) (smul K (P.v 2)) _ _
   rcases (show 0 < turnZ (P.v 0) (P.v 1) (P.v 2)∨turnZ (P.v 0) (P.v 1) (P.v 2) < 0 by omega) with g|g
   ·have g1:=pp hK g
    have g2:=pp hK g1
    refine ⟨Aff.lc 1 (Aff.turn (smul K (P.v 0)) (smul K (P.v 1))) (-1) (Aff.turn (smul K (P.v 1)) (smul K (P.v 2))) (K * turnZ (P.v 0) (P.v 1) (P.v 2)),?_,?_,?_,?_⟩ <;> rw [ev_lc,ev_turn,ev_turn]
    ·rw [t5,t6];omega
    ·rw [t7,t8];omega
    ·rw [t1,t2];omega
    ·rw [t3,t4];omega
   ·have g1:=pm hK g
    have g2:=pm hK g1
    refine ⟨Aff.lc (-1) (Aff.turn (smul K (P.v 0)) (smul K (P.v 1))) 1 (Aff.turn (smul K (P.v 1)) (smul K (P.v 2))) (-(K * turnZ (P.v 0) (P.v 1) (P.v 2))),?_,?_,?_,?_⟩ <;> rw [ev_lc,ev_turn,ev_turn]
    ·rw [t5,t6];omega
    ·rw [t7,t8];omega
    ·rw [t1,t2];omega
    ·rw [t3,t4];omega
  ·exact hn j hj hj0 e
 have hx:OnI (nearA K (P.v 1) (P.v 0)) ((P.sc K).v 0) ((P.sc K).v (0 + 1)):=(nearA_on hK2 _ _).swap
 have w0:wnd (h.sc K) (P.sc K) p=0:=by
  refine wnd_below fun k hk=>?_
  show (h.sc K).ev p < (h.sc K).ev (smul K (P.v k))
  have e:(h.sc K).ev p=K * h.ev (P.v 1) - (h.ev (P.v 2) - h.ev (P.v 1)):=by rw [hp,ev_sc];unfold Aff.lin psub Aff.ev;grind
  rw [e,ev_sc0]
  by_cases e1:k=1
  ·subst e1;omega
  ·have:=(mul_lt_iff hK).1.2 (hlow k hk e1);omega
 have hll:=hl.2.1 K 0 _ hK (show 0 < P.n by omega) hx
 rcases (show 0 < turnZ (P.v 0) (P.v 1) (P.v 2)∨turnZ (P.v 0) (P.v 1) (P.v 2) < 0 by omega) with g|g
 ·have e:=wnd_right (sloped_sc hh hK) (k:=0) (show 0 < P.n by omega) hx hs (by show turnZ (smul K (P.v 0)) (smul K (P.v 1)) p < 0;rw [t1];have:=pp hK g;omega)
  exact .inl ⟨by omega,g⟩
 ·have e:=wnd_left (sloped_sc hh hK) (k:=0) (show 0 < P.n by omega) hx hs (by show 0 < turnZ (smul K (P.v 0)) (smul K (P.v 1)) p;rw [t1];have:=pm hK g;omega)
  exact .inr ⟨by omega,g⟩
def Gen (h:Aff) (P:Poly):Prop:=∀ i j,i < P.n→j < P.n→i≠j→h.ev (P.v i)≠h.ev (P.v j)
theorem Gen.sloped {h:Aff} {P:Poly} (hg:Gen h P) (h2:2≤P.n):Sloped h P.way:=fun k hk=>by
 have hk:k < P.n:=hk
 show h.ev (P.v k)≠h.ev (P.v (k + 1))
 rcases (show k + 1 < P.n∨k + 1=P.n by omega) with e|e
 ·exact hg k (k + 1) hk e (by omega)
 ·have:=P.per 0
  rw [Nat.zero_add] at this
  rw [e,this]
  exact hg k 0 hk (by omega) (by omega)
theorem Off.ne {p a b:Pt} (h:Off p a b):p≠a∧p≠b:=by
 obtain ⟨f,fa,fb,fp⟩:=h
 constructor <;> rintro rfl <;> omega
theorem SimpleP.inj {P:Poly} (h:SimpleP P) {i j:Nat} (hi:i < P.n) (hj:j < P.n) (hij:i≠j):P.v i≠P.v j:=by
 have key:∀ {i j:Nat},i < j→j < P.n→P.v i≠P.v j:=by
  intro i j hij hj
  rcases (show j=i + 1∨i + 2≤j by omega) with rfl|h2
  ·exact (h.bend i).1.1
  ·have:=(h.off i (j - i) (by omega) (by omega)).ne.1
   rw [show i + (j - i)=j by omega] at this
   exact Ne.symm this
 rcases (show i < j∨j < i by omega) with h1|h1
 ·exact key h1 hj
 ·exact (key h1 hi).symm
def hM (M:Int):Aff:=⟨1,M,0⟩
theorem hM_gen {P:Poly} (h:SimpleP P):Late fun M=>Gen (hM M) P:=by
 have:Late fun M=>∀ i,i < P.n→∀ j,j < P.n→(i≠j→(hM M).ev (P.v i)≠(hM M).ev (P.v j)):=by
  refine Late.all fun i hi=>Late.all fun j hj=>?_
  by_cases hij:i=j
  ·exact Late.of fun M _ hne=>absurd hij hne
  refine ⟨((P.v i).1 - (P.v j).1).natAbs + 1,fun M hM h0 _ e=>?_⟩
  have hne:=h.inj hi hj hij
  have e:1 * (P.v i).1 + M * (P.v i).2 + 0=1 * (P.v j).1 + M * (P.v j).2 + 0:=e
  have e1:M * ((P.v i).2 - (P.v j).2)=(P.v j).1 - (P.v i).1:=by rw [Int.mul_sub];omega
  rcases (show (P.v i).2 - (P.v j).2=0∨1≤(P.v i).2 - (P.v j).2∨(P.v i).2 - (P.v j).2≤-1 by omega) with g|g|g
  ·rw [g,Int.mul_zero] at e1
   exact hne (Prod.ext (by omega) (by omega))
  ·have:=(mul_lt_iff (m:=1) (n:=(P.v i).2 - (P.v j).2) h0).2.2 g;omega
  ·have:=(mul_lt_iff (m:=(P.v i).2 - (P.v j).2) (n:=-1) h0).2.2 g;omega
 exact this.imp fun M _ h i j hi hj=>h i hi j hj
theorem Gen.rot {h:Aff} {P:Poly} (hg:Gen h P) (s:Nat):Gen h (P.rot s):=by
 intro i j hi hj hij
 have hi:i < P.n:=hi
 have hj:j < P.n:=hj
 have red:∀ x,P.v x=P.v (x % P.n):=fun x=>by
  have key:∀ q r,P.v (r + q * P.n)=P.v r:=fun q r=>by
   induction q with
   | zero=>simp
   | succ q ih=>rw [Nat.succ_mul,← Nat.add_assoc,P.per,ih]
  have:=key (x / P.n) (x % P.n)
  rw [show x % P.n + x / P.n * P.n=x by rw [Nat.mul_comm];exact Nat.mod_add_div x P.n] at this
  exact this
 show h.ev (P.v (s + i))≠h.ev (P.v (s + j))
 rw [red (s + i),red (s + j)]
 refine hg _ _ (Nat.mod_lt _ (by omega)) (Nat.mod_lt _ (by omega)) fun e=>hij ?_
 have key:∀ {i j:Nat},i≤j→j < P.n→(s + i) % P.n=(s + j) % P.n→i=j:=by
  intro i j hle hj e
  have h1:=Nat.sub_mod_eq_zero_of_mod_eq e.symm
  rw [show s + j - (s + i)=j - i by omega,Nat.mod_eq_of_lt (by omega)] at h1
  omega
 rcases (show i≤j∨j≤i by omega) with h1|h1
 ·exact key h1 hj e
 ·exact (key h1 hi e.symm).symm
theorem Gen.arc {h:Aff} {P:Poly} (hg:Gen h P) {m:Nat} (hm:m < P.n):Gen h (P.arc m):=by
 intro i j hi hj hij
 have hi:i < m + 1:=hi
 have hj:j < m + 1:=hj
 rw [arc_v P (by omega),arc_v P (by omega)]
 exact hg i j (by omega) (by omega) hij
def Meet (a b q r:Pt):Prop:=∃ s t s' t':Int,0≤s∧0≤t∧0≤s'∧0≤t'∧0 < s + t∧s + t=s' + t'∧∀ f:Aff,s * f.ev a + t * f.ev b=s' * f.ev q + t' * f.ev r
theorem line_mean {a b p:Pt} (ht:turnZ a b p=0) (f:Aff):((b.1 - a.1) * (b.1 - a.1) + (b.2 - a.2) * (b.2 - a.2)) * f.ev p=(-(dotZ a b p)) * f.ev a + (((b.1 - a.1) * (b.1 - a.1) + (b.2 - a.2) * (b.2 - a.2)) + dotZ a b p) * f.ev b:=by
 have e:((b.1 - a.1) * (b.1 - a.1) + (b.2 - a.2) * (b.2 - a.2)) * f.ev p=(-(dotZ a b p)) * f.ev a + (((b.1 - a.1) * (b.1 - a.1) + (b.2 - a.2) * (b.2 - a.2)) + dotZ a b p) * f.ev b + turnZ a b p * (f.v * (b.1 - a.1) - f.u * (b.2 - a.2)):=by unfold turnZ dotZ Aff.ev;grind
 rw [e,ht,Int.zero_mul,Int.add_zero]
theorem part_or_meet {a b:Pt} (q r:Pt) (hab:a≠b):Part a b q r∨Meet a b q r:=by
 have E0:=tid a b q r
 have tqq:turnZ q r q=0:=by unfold turnZ;grind
 have trr:turnZ q r r=0:=by unfold turnZ;grind
 by_cases h1:0 < turnZ q r a∧0 < turnZ q r b
 ·exact .inl ⟨Aff.turn q r,by rw [ev_turn];omega,by rw [ev_turn];omega,by rw [ev_turn];omega,by rw [ev_turn];omega⟩
 by_cases h2:turnZ q r a < 0∧turnZ q r b < 0
 ·exact .inl ⟨Aff.lc (-1) (Aff.turn q r) 0 (Aff.turn q r) 0,by rw [ev_lc,ev_turn];omega,by rw [ev_lc,ev_turn];omega,by rw [ev_lc,ev_turn];omega,by rw [ev_lc,ev_turn];omega⟩
 by_cases h3:0 < turnZ a b q∧0 < turnZ a b r
 ·exact .inl (part_turn (m:=1) (.inl rfl) (by omega) (by omega))
 by_cases h4:turnZ a b q < 0∧turnZ a b r < 0
 ·exact .inl (part_turn (m:=-1) (.inr rfl) (by omega) (by omega))
 rcases (show turnZ q r a < turnZ q r b∨turnZ q r b < turnZ q r a∨turnZ q r a=turnZ q r b by omega) with h5|h5|h5
 ·refine .inr ⟨turnZ q r b,-turnZ q r a,-turnZ a b r,turnZ a b q,by omega,by omega,by omega,by omega,by omega,by omega,fun f=>?_⟩
  have:=aid f a b q r
  rw [Int.neg_mul,Int.neg_mul];omega
 ·refine .inr ⟨-turnZ q r b,turnZ q r a,turnZ a b r,-turnZ a b q,by omega,by omega,by omega,by omega,by omega,by omega,fun f=>?_⟩
  have:=aid f a b q r
  rw [Int.neg_mul,Int.neg_mul];omega
 ·-- all on one line
  have hq:turnZ a b q=0:=by omega
  have hr:turnZ a b r=0:=by omega
  have hsq:=sq_pos hab
  generalize hN:(b.1 - a.1) * (b.1 - a.1) + (b.2 - a.2) * (b.2 - a.2)=N at hsq
  have mq:=line_mean hq
  have mr:=line_mean hr
  rw [hN] at mq mr
  have da:dotZ a b a=-N:=by rw [← hN];unfold dotZ;grind
  have db:dotZ a b b=0:=by unfold dotZ;grind
  generalize hx:dotZ a b q=x at mq
  generalize hy:dotZ a b r=y at mr
  by_cases c1:0 < x∧0 < y
  ·exact .inl ⟨Aff.lc (-2) (Aff.dot a b) 0 (Aff.dot a b) 1,by rw [ev_lc,ev_dot,da];omega,by rw [ev_lc,ev_dot,db];omega,by rw [ev_lc,ev_dot,hx];omega,by rw [ev_lc,ev_dot,hy];omega⟩
  by_cases c2:x < -N∧y < -N
  ·exact .inl ⟨Aff.lc 1 (Aff.dot a b) 0 (Aff.dot a b) (N + 1),by rw [ev_lc,ev_dot,da];omega,by rw [ev_lc,ev_dot,db];omega,by rw [ev_lc,ev_dot,hx];omega,by rw [ev_lc,ev_dot,hy];omega⟩
  refine .inr ?_
  by_cases c3:-N≤x∧x≤0
  ·exact ⟨-x,N + x,N,0,by omega,by omega,by omega,by omega,by omega,by omega,fun f=>by rw [mq f];omega⟩
  by_cases c4:-N≤y∧y≤0
  ·exact ⟨-y,N + y,0,N,by omega,by omega,by omega,by omega,by omega,by omega,fun f=>by rw [mr f];omega⟩
  rcases (show (0 < x∧y < -N)∨(x < -N∧0 < y) by omega) with ⟨c5,c6⟩|⟨c5,c6⟩
  ·refine ⟨0,x - y,-y,x,by omega,by omega,by omega,by omega,by omega,by omega,fun f=>?_⟩
   have e1:=mq f
   have e2:=mr f
   have hN0:N≠0:=by omega
   refine Int.eq_of_mul_eq_mul_left hN0 ?_
   have:N * (-y * f.ev q + x * f.ev r)=-y * (N * f.ev q) + x * (N * f.ev r):=by grind
   rw [this,e1,e2];grind
  ·refine ⟨0,y - x,y,-x,by omega,by omega,by omega,by omega,by omega,by omega,fun f=>?_⟩
   have e1:=mq f
   have e2:=mr f
   have hN0:N≠0:=by omega
   refine Int.eq_of_mul_eq_mul_left hN0 ?_
   have:N * (y * f.ev q + -x * f.ev r)=y * (N * f.ev q) + -x * (N * f.ev r):=by grind
   rw [this,e1,e2];grind
def OnM (p a b:Pt):Prop:=∃ s t:Int,0≤s∧0≤t∧0 < s + t∧∀ f:Aff,(s + t) * f.ev p=s * f.ev a + t * f.ev b
theorem off_or_on {a b:Pt} (p:Pt) (hab:a≠b):Off p a b∨OnM p a b:=by
 rcases part_or_meet p p hab with h|⟨s,t,s',t',h1,h2,h3,h4,h5,h6,h7⟩
 ·obtain ⟨f,fa,fb,fp,_⟩:=h
  exact .inl ⟨Aff.lc 2 f 0 f (-1),by rw [ev_lc];omega,by rw [ev_lc];omega,by rw [ev_lc];omega⟩
 ·exact .inr ⟨s,t,h1,h2,h5,fun f=>by rw [h7 f,h6,Int.add_mul]⟩
theorem OnM.not_off {p a b:Pt} (h:OnM p a b):¬ Off p a b:=by
 obtain ⟨s,t,hs,ht,h0,h⟩:=h
 rintro ⟨f,fa,fb,fp⟩
 have e:=h f
 have g1:=pm h0 fp
 have g2:=nn0 hs (show 0≤f.ev a by omega)
 have g3:=nn0 ht (show 0≤f.ev b by omega)
 omega
theorem bary (f:Aff) (a b c x:Pt):turnZ a b c * f.ev x=turnZ b c x * f.ev a + turnZ c a x * f.ev b + turnZ a b x * f.ev c:=by unfold turnZ Aff.ev;grind
theorem leave {a v b:Pt} {τ:Int} (hτ:τ=turnZ a v b) (hτ0:0 < τ) {α β γ αp βp γp:Int} {Y:Aff→Int} {p:Pt}
  (hY:∀ f:Aff,τ * Y f=α * f.ev a + β * f.ev b + γ * f.ev v) (eα:αp=turnZ v b p) (eβ:βp=turnZ a v p) (eγ:γp=turnZ b a p)
  (h1:0≤α) (h2:0≤β) (h3:0≤γ) (h4:0≤γp) (hout:αp < 0∨βp < 0)
  (f1:αp < 0→∃ f:Aff,0 < Y f∧0 < f.ev p∧f.ev v≤0∧f.ev b≤0) (f0:βp < 0→∃ f:Aff,0 < Y f∧0 < f.ev p∧f.ev a≤0∧f.ev v≤0):False:=by
 have hp:∀ f:Aff,τ * f.ev p=αp * f.ev a + βp * f.ev b + γp * f.ev v:=fun f=>by
  have:=bary f a v b p
  rw [← hτ,← eα,← eβ,← eγ] at this
  omega
 have viaα:αp < 0→βp * α ≥ β * αp→False:=by
  intro hα hc
  obtain ⟨f,fy,fp,fv,fb⟩:=f1 hα
  have e1:=hY f
  have e2:=hp f
  have e3:τ * (-αp * Y f + α * f.ev p)=(-αp * β + α * βp) * f.ev b + (-αp * γ + α * γp) * f.ev v:=by
   have:τ * (-αp * Y f + α * f.ev p)=-αp * (τ * Y f) + α * (τ * f.ev p):=by grind
   rw [this,e1,e2];grind
  have g1:=pp (show 0 < -αp by omega) fy
  have g2:=nn0 h1 (show 0≤f.ev p by omega)
  have g3:=pp hτ0 (show 0 < -αp * Y f + α * f.ev p by omega)
  have g4:0≤-αp * β + α * βp:=by rw [Int.neg_mul,Int.mul_comm αp β,Int.mul_comm α βp];omega
  have g5:0≤-αp * γ + α * γp:=by
   have:=nn0 (show 0≤-αp by omega) h3
   have:=nn0 h1 h4
   omega
  have g6:=pm0 g4 fb
  have g7:=pm0 g5 fv
  omega
 have viaβ:βp < 0→βp * α≤β * αp→False:=by
  intro hβ hc
  obtain ⟨f,fy,fp,fa,fv⟩:=f0 hβ
  have e1:=hY f
  have e2:=hp f
  have e3:τ * (-βp * Y f + β * f.ev p)=(-βp * α + β * αp) * f.ev a + (-βp * γ + β * γp) * f.ev v:=by
   have:τ * (-βp * Y f + β * f.ev p)=-βp * (τ * Y f) + β * (τ * f.ev p):=by grind
   rw [this,e1,e2];grind
  have g1:=pp (show 0 < -βp by omega) fy
  have g2:=nn0 h2 (show 0≤f.ev p by omega)
  have g3:=pp hτ0 (show 0 < -βp * Y f + β * f.ev p by omega)
  have g4:0≤-βp * α + β * αp:=by rw [Int.neg_mul];omega
  have g5:0≤-βp * γ + β * γp:=by
   have:=nn0 (show 0≤-βp by omega) h3
   have:=nn0 h2 h4
   omega
  have g6:=pm0 g4 fa
  have g7:=pm0 g5 fv
  omega
 rcases hout with h|h
 ·rcases (show βp * α ≥ β * αp∨βp * α < β * αp by omega) with hc|hc
  ·exact viaα h hc
  ·refine viaβ ?_ (by omega)
   rcases (show βp < 0∨0≤βp by omega) with g|g
   ·exact g
   ·exfalso
    have:=nn0 g h1
    have:=pm0 h2 (show αp≤0 by omega)
    omega
 ·rcases (show βp * α≤β * αp∨β * αp < βp * α by omega) with hc|hc
  ·exact viaβ h hc
  ·refine viaα ?_ (by omega)
   rcases (show αp < 0∨0≤αp by omega) with g|g
   ·exact g
   ·exfalso
    have:=mp0 (show βp≤0 by omega) h1
    have:=nn0 h2 g
    omega
theorem OnM.vals {p a b:Pt} (h:OnM p a b):∃ s t:Int,0≤s∧0≤t∧0 < s + t∧∀ f:Aff,(s + t) * f.ev p=s * f.ev a + t * f.ev b:=h
theorem SimpleP.ne {P:Poly} (h:SimpleP P) (k:Nat):P.v k≠P.v (k + 1):=(h.bend k).1.1
theorem SimpleP.offI {P:Poly} (h:SimpleP P) {i k:Nat} (hi:i < P.n) (hk:k < P.n) (h1:k≠i) (h2:k≠i + 1) (h3:¬ (i + 1=P.n∧k=0)):Off (P.v k) (P.v i) (P.v (i + 1)):=by
 rcases (show i < k∨k < i by omega) with h4|h4
 ·have:=h.off i (k - i) (by omega) (by omega)
  rwa [show i + (k - i)=k by omega] at this
 ·have:=h.off i (k + P.n - i) (by omega) (by omega)
  rwa [show i + (k + P.n - i)=k + P.n by omega,P.per] at this
theorem SimpleP.apartI {P:Poly} (h:SimpleP P) {i k:Nat} (hk:k < P.n) (h1:i + 2≤k) (h2:¬ (i=0∧k + 1=P.n)):Part (P.v i) (P.v (i + 1)) (P.v k) (P.v (k + 1)):=by
 have:=h.apart i (k - i) (by omega) (by omega)
 rwa [show i + (k - i)=k by omega] at this
section
variable {P : Poly}
abbrev tA (P:Poly) (x:Pt):Int:=turnZ (P.v 1) (P.v 2) x
abbrev tB (P:Poly) (x:Pt):Int:=turnZ (P.v 0) (P.v 1) x
abbrev tC (P:Poly) (x:Pt):Int:=turnZ (P.v 2) (P.v 0) x
def InT (P:Poly) (j:Nat):Prop:=3≤j∧j < P.n∧0≤tA P (P.v j)∧0≤tB P (P.v j)∧0≤tC P (P.v j)
theorem tri_vals (P:Poly):tA P (P.v 0)=turnZ (P.v 0) (P.v 1) (P.v 2)∧tB P (P.v 0)=0∧tC P (P.v 0)=0∧tA P (P.v 1)=0∧tB P (P.v 1)=0∧tC P (P.v 1)=turnZ (P.v 0) (P.v 1) (P.v 2) ∧
  tA P (P.v 2)=0∧tB P (P.v 2)=turnZ (P.v 0) (P.v 1) (P.v 2)∧tC P (P.v 2)=0:=by
 unfold tA tB tC turnZ
 refine ⟨?_,?_,?_,?_,?_,?_,?_,?_,?_⟩ <;> grind
theorem bary0 (P:Poly) (f:Aff) (x:Pt):turnZ (P.v 0) (P.v 1) (P.v 2) * f.ev x=tA P x * f.ev (P.v 0) + tC P x * f.ev (P.v 1) + tB P x * f.ev (P.v 2):=bary f _ _ _ x
theorem InT.pos (h:SimpleP P) (hτ:0 < turnZ (P.v 0) (P.v 1) (P.v 2)) {j:Nat} (hj:InT P j):0 < tA P (P.v j)∧0 < tB P (P.v j):=by
 obtain ⟨h3,hn,ha,hb,hc⟩:=hj
 constructor
 ·rcases (show 0 < tA P (P.v j)∨tA P (P.v j)=0 by omega) with g|g
  ·exact g
  ·exfalso
   obtain ⟨f,fa,fb,fp⟩:=h.offI (i:=1) (k:=j) (by omega) hn (by omega) (by omega) (by omega)
   have e:=bary0 P f (P.v j)
   rw [g,Int.zero_mul] at e
   have g1:=pm hτ fp
   have g2:=nn0 hc (show 0≤f.ev (P.v 1) by omega)
   have g3:=nn0 hb (show 0≤f.ev (P.v 2) from Int.le_of_lt fb)
   omega
 ·rcases (show 0 < tB P (P.v j)∨tB P (P.v j)=0 by omega) with g|g
  ·exact g
  ·exfalso
   obtain ⟨f,fa,fb,fp⟩:=h.offI (i:=0) (k:=j) (by omega) hn (by omega) (by omega) (by omega)
   have e:=bary0 P f (P.v j)
   rw [g,Int.zero_mul] at e
   have g1:=pm hτ fp
   have g2:=nn0 hc (show 0≤f.ev (P.v 1) from Int.le_of_lt fb)
   have g3:=nn0 ha (show 0≤f.ev (P.v 0) by omega)
   omega
theorem no_wall (h:SimpleP P) (h4:4≤P.n) (hτ:0 < turnZ (P.v 0) (P.v 1) (P.v 2)) {c:Int} {i:Nat} (hi2:2≤i) (hi:i < P.n) (hc:0≤c∨(3≤i∧i + 1 < P.n)) {s t:Int} (hs:0≤s) (ht:0≤t) (hst:0 < s + t)
  (ya:0≤s * tA P (P.v i) + t * tA P (P.v (i + 1))) (yb:0≤s * tB P (P.v i) + t * tB P (P.v (i + 1))) (hyc:0≤s * tC P (P.v i) + t * tC P (P.v (i + 1))) (yc:c * (s + t) < s * tC P (P.v i) + t * tC P (P.v (i + 1))) (hcm:-1≤c)
  (hmax:∀ k,InT P k→tC P (P.v k)≤c):False:=by
 obtain ⟨v1,v2,v3,v4,v5,v6,v7,v8,v9⟩:=tri_vals P
 have hpn:P.v (i + 1)=P.v (if i + 1=P.n then 0 else i + 1):=by
  split
  ·rename_i e;rw [e];have:=P.per 0;rwa [Nat.zero_add] at this
  ·rfl
 have sep1:i≠2→∃ f:Aff,0 < f.ev (P.v i)∧0 < f.ev (P.v (i + 1))∧f.ev (P.v 1)≤0∧f.ev (P.v 2)≤0:=fun h2=>(h.apartI (i:=1) (k:=i) hi (by omega) (by omega)).symm
 have sep0:i + 1≠P.n→∃ f:Aff,0 < f.ev (P.v i)∧0 < f.ev (P.v (i + 1))∧f.ev (P.v 0)≤0∧f.ev (P.v 1)≤0:=fun h2=>(h.apartI (i:=0) (k:=i) hi (by omega) (by omega)).symm
 have fin:∀ p,(p=i∨p=i + 1)→c < tC P (P.v p)→False:=by
  intro p hp hcp
  have hout:tA P (P.v p) < 0∨tB P (P.v p) < 0:=by
   rcases (show tA P (P.v p) < 0∨tB P (P.v p) < 0∨(0≤tA P (P.v p)∧0≤tB P (P.v p)) by omega) with g|g|⟨g1,g2⟩
   ·exact .inl g
   ·exact .inr g
   ·exfalso
    have key:∀ k,k < P.n→k≠1→(0≤c∨3≤k)→P.v p=P.v k→False:=by
     intro k hk hk1 hk3 e
     rw [e] at hcp g1 g2
     rcases (show k=0∨k=2∨3≤k by omega) with rfl|rfl|h3
     ·omega
     ·omega
     ·have:=hmax k ⟨h3,hk,g1,g2,by omega⟩;omega
    rcases hp with rfl|rfl
    ·exact key p hi (by omega) (hc.imp id fun h=>h.1) rfl
    ·rw [hpn] at key
     split at key
     ·rename_i e;exact key 0 (by omega) (by omega) (.inl (hc.resolve_right fun h=>absurd e (Nat.ne_of_lt h.2))) rfl
     ·exact key (i + 1) (by omega) (by omega) (hc.imp id fun h=>Nat.le_succ_of_le h.1) rfl
  have fpos:∀ f:Aff,0 < f.ev (P.v i)→0 < f.ev (P.v (i + 1))→0 < s * f.ev (P.v i) + t * f.ev (P.v (i + 1))∧0 < f.ev (P.v p):=by
   intro f h1 h2
   refine ⟨?_,by rcases hp with rfl|rfl <;> assumption⟩
   rcases (show 0 < s∨0 < t by omega) with g|g
   ·have:=pp g h1;have:=nn0 ht (show 0≤f.ev (P.v (i + 1)) by omega);omega
   ·have:=pp g h2;have:=nn0 hs (show 0≤f.ev (P.v i) by omega);omega
  refine leave (a:=P.v 0) (v:=P.v 1) (b:=P.v 2) (p:=P.v p) (Y:=fun f=>s * f.ev (P.v i) + t * f.ev (P.v (i + 1))) rfl hτ (fun f=>?_) rfl rfl rfl ya yb hyc (show 0≤tC P (P.v p) by omega) hout (fun hneg=>?_) (fun hneg=>?_)
  ·have e1:=bary0 P f (P.v i)
   have e2:=bary0 P f (P.v (i + 1))
   have:turnZ (P.v 0) (P.v 1) (P.v 2) * (s * f.ev (P.v i) + t * f.ev (P.v (i + 1)))=s * (turnZ (P.v 0) (P.v 1) (P.v 2) * f.ev (P.v i)) + t * (turnZ (P.v 0) (P.v 1) (P.v 2) * f.ev (P.v (i + 1))):=by grind
   rw [this,e1,e2];grind
  ·-- over the side from 1 to 2
   by_cases e2:i=2
   ·exfalso
    subst e2
    rw [v7,Int.mul_zero,Int.zero_add] at ya
    rw [v9,Int.mul_zero,Int.zero_add] at yc
    have hneg':tA P (P.v 3) < 0:=by
     rcases hp with rfl|rfl
     ·have h9:tA P (P.v 2) < 0:=hneg
      omega
     ·exact hneg
    rcases (show t=0∨0 < t by omega) with g|g
    ·subst g
     have:=nn0 (hc.resolve_right fun h=>absurd h.1 (by decide)) (show 0≤s + 0 by omega);omega
    ·have:=pm g hneg';have ya:0≤t * tA P (P.v 3):=ya;omega
   ·obtain ⟨f,q1,q2,q3,q4⟩:=sep1 e2
    exact ⟨f,(fpos f q1 q2).1,(fpos f q1 q2).2,q3,q4⟩
  ·by_cases e2:i + 1=P.n
   ·exfalso
    have e0:P.v (i + 1)=P.v 0:=by rw [hpn,if_pos e2]
    rw [e0,v2,Int.mul_zero,Int.add_zero] at yb
    rw [e0,v3,Int.mul_zero,Int.add_zero] at yc
    have hneg':tB P (P.v i) < 0:=by
     rcases hp with rfl|rfl
     ·exact hneg
     ·have h9:tB P (P.v (i + 1)) < 0:=hneg
      rw [e0] at h9;omega
    rcases (show s=0∨0 < s by omega) with g|g
    ·subst g
     have:=nn0 (hc.resolve_right fun h=>absurd e2 (Nat.ne_of_lt h.2)) (show 0≤0 + t by omega);omega
    ·have:=pm g hneg';omega
   ·obtain ⟨f,q1,q2,q3,q4⟩:=sep0 e2
    exact ⟨f,(fpos f q1 q2).1,(fpos f q1 q2).2,q3,q4⟩
 rcases (show c < tC P (P.v i)∨c < tC P (P.v (i + 1))∨(tC P (P.v i)≤c∧tC P (P.v (i + 1))≤c) by omega) with g|g|⟨g1,g2⟩
 ·exact fin i (.inl rfl) g
 ·exact fin (i + 1) (.inr rfl) g
 ·have:=Int.mul_le_mul_of_nonneg_left g1 hs
  have:=Int.mul_le_mul_of_nonneg_left g2 ht
  rw [Int.mul_add,Int.mul_comm c s,Int.mul_comm c t] at yc
  omega
end
theorem off_ne {p a b:Pt} (h:Off p a b):p≠b:=by
 rintro rfl;obtain ⟨f,fa,fb,fp⟩:=h;omega
theorem Bends.symm {a b z:Pt} (h:Bends a b z) (hz:z≠b):Bends z b a:=by
 refine ⟨hz,?_⟩
 have e1:turnZ z b a=- turnZ a b z:=by unfold turnZ;grind
 have e2:dotZ z b a=dotZ a b z:=by unfold dotZ;grind
 rw [e1,e2]
 have:=h.2
 omega
theorem bends_of {a b p:Pt} (h1:Off p a b) (h2:Off a p b):Bends a b p:=by
 have hab:a≠b:=off_ne h2
 refine ⟨hab,?_⟩
 rcases (show turnZ a b p≠0∨0 < dotZ a b p∨(turnZ a b p=0∧dotZ a b p≤0) by omega) with g|g|⟨g1,g2⟩
 ·exact .inl g
 ·exact .inr g
 ·exfalso
  have hN:=sq_pos hab
  have m:=line_mean g1
  generalize hNN:(b.1 - a.1) * (b.1 - a.1) + (b.2 - a.2) * (b.2 - a.2)=N at hN m
  generalize dotZ a b p=x at m g2
  rcases (show 0≤N + x∨N + x < 0 by omega) with c|c
  ·obtain ⟨f,fa,fb,fp⟩:=h1
   have e:=m f
   have k1:=pm hN fp
   have k2:=nn0 (show 0≤-x by omega) (show 0≤f.ev a by omega)
   have k3:=nn0 c (show 0≤f.ev b by omega)
   omega
  ·obtain ⟨f,fp,fb,fa⟩:=h2
   have e:=m f
   have k1:=pp hN fp
   have k2:=pm (show 0 < -x by omega) fa
   have k3:=mp c fb
   omega
theorem Chord.mk' {P:Poly} (h:SimpleP P) {m:Nat} (m2:2≤m) (mn:m + 2≤P.n) (off:∀ j,0 < j→j < P.n→j≠m→Off (P.v j) (P.v 0) (P.v m))
  (apart:∀ j,0 < j→j + 1 < P.n→j≠m→j + 1≠m→Part (P.v j) (P.v (j + 1)) (P.v 0) (P.v m)):Chord P m:=by
 have e0:P.v P.n=P.v 0:=by have:=P.per 0;rwa [Nat.zero_add] at this
 have o1:=off 1 (by omega) (by omega) (by omega)
 have o2:=off (P.n - 1) (by omega) (by omega) (by omega)
 have o3:=off (m - 1) (by omega) (by omega) (by omega)
 have o4:=off (m + 1) (by omega) (by omega) (by omega)
 have w1:Off (P.v m) (P.v 0) (P.v 1):=h.offI (by omega) (by omega) (by omega) (by omega) (by omega)
 have w2:Off (P.v m) (P.v (P.n - 1)) (P.v 0):=by
  have:=h.offI (i:=P.n - 1) (k:=m) (by omega) (by omega) (by omega) (by omega) (by omega)
  rwa [show P.n - 1 + 1=P.n by omega,e0] at this
 have w3:Off (P.v 0) (P.v (m - 1)) (P.v m):=by
  have:=h.offI (i:=m - 1) (k:=0) (by omega) (by omega) (by omega) (by omega) (by omega)
  rwa [show m - 1 + 1=m by omega] at this
 have w4:Off (P.v 0) (P.v m) (P.v (m + 1)):=h.offI (by omega) (by omega) (by omega) (by omega) (by omega)
 exact ⟨m2,mn,off,apart,⟨⟨bends_of o1.swap w1.swap,bends_of w1.swap o1.swap⟩,bends_of o2.swap w2,bends_of w2 o2.swap⟩,⟨⟨bends_of o3 w3,bends_of w3 o3⟩,bends_of o4 w4.swap,bends_of w4.swap o4⟩⟩
theorem ex_max (p:Nat→Prop) (f:Nat→Int) (n:Nat) (hb:∀ k,p k→k < n) (he:∃ k,p k):∃ k,p k∧∀ j,p j→f j≤f k:=by
 induction n generalizing p with
 | zero=>obtain ⟨k,hk⟩:=he;exact absurd (hb k hk) (by omega)
 | succ n ih=>
  by_cases h1:∃ k,p k∧k < n
  ·obtain ⟨k,⟨hk,hkn⟩,hm⟩:=ih (fun k=>p k∧k < n) (fun k h=>h.2) h1
   by_cases h2:p n∧f k < f n
   ·refine ⟨n,h2.1,fun j hj=>?_⟩
    rcases (show j < n∨j=n by have:=hb j hj;omega) with g|rfl
    ·have:=hm j ⟨hj,g⟩;omega
    ·omega
   ·refine ⟨k,hk,fun j hj=>?_⟩
    rcases (show j < n∨j=n by have:=hb j hj;omega) with g|rfl
    ·exact hm j ⟨hj,g⟩
    ·have:¬ f k < f j:=fun h=>h2 ⟨hj,h⟩
     omega
  ·obtain ⟨k,hk⟩:=he
   have:∀ j,p j→j=n:=fun j hj=>by
    have:=hb j hj
    have:¬ j < n:=fun g=>h1 ⟨j,hj,g⟩
    omega
   refine ⟨k,hk,fun j hj=>?_⟩
   rw [this j hj,this k hk];omega
theorem tri_sum (P:Poly) (x:Pt):tA P x + tB P x + tC P x=turnZ (P.v 0) (P.v 1) (P.v 2):=by unfold tA tB tC turnZ;grind
theorem Meet.vals {a b q r:Pt} {s t s' t':Int} (h:∀ f:Aff,s * f.ev a + t * f.ev b=s' * f.ev q + t' * f.ev r) (x y:Pt):s * turnZ x y a + t * turnZ x y b=s' * turnZ x y q + t' * turnZ x y r:=by
 have:=h (Aff.turn x y);simpa only [ev_turn] using this
theorem OnM.turns {s t:Int} {p a b:Pt} (h:∀ f:Aff,(s + t) * f.ev p=s * f.ev a + t * f.ev b) (x y:Pt):(s + t) * turnZ x y p=s * turnZ x y a + t * turnZ x y b:=by
 have:=h (Aff.turn x y);simpa only [ev_turn] using this
theorem chord_tri {P:Poly} (h:SimpleP P) (h4:4≤P.n) (hτ:0 < turnZ (P.v 0) (P.v 1) (P.v 2)) (hno:∀ j,¬ InT P j):Chord P 2:=by
 obtain ⟨v1,v2,v3,v4,v5,v6,v7,v8,v9⟩:=tri_vals P
 have h02:P.v 0≠P.v 2:=h.inj (by omega) (by omega) (by omega)
 refine Chord.mk' h (by omega) (by omega) (fun j h1 h2 h3=>?_) (fun j h1 h2 h3 h5=>?_)
 ·rcases off_or_on (P.v j) h02 with g|⟨s,t,hs,ht,hst,g⟩
  ·exact g
  ·exfalso
   rcases (show j=1∨3≤j by omega) with rfl|hj
   ·have e:=OnM.turns g (P.v 2) (P.v 0)
    have e:(s + t) * tC P (P.v 1)=s * tC P (P.v 0) + t * tC P (P.v 2):=e
    rw [v6,v3,v9,Int.mul_zero,Int.mul_zero] at e
    have:=pp hst hτ
    omega
   ·have eA:(s + t) * tA P (P.v j)=s * tA P (P.v 0) + t * tA P (P.v 2):=OnM.turns g _ _
    have eB:(s + t) * tB P (P.v j)=s * tB P (P.v 0) + t * tB P (P.v 2):=OnM.turns g _ _
    have eC:(s + t) * tC P (P.v j)=s * tC P (P.v 0) + t * tC P (P.v 2):=OnM.turns g _ _
    rw [v1,v7,Int.mul_zero,Int.add_zero] at eA
    rw [v2,v8,Int.mul_zero,Int.zero_add] at eB
    rw [v3,v9,Int.mul_zero,Int.mul_zero] at eC
    have nonneg:∀ {x y:Int},(s + t) * x=y→0≤y→0≤x:=fun {x y} e hy=>by
     rcases (show 0≤x∨x < 0 by omega) with g|g
     ·exact g
     ·have:=pm hst g;omega
    exact hno j ⟨hj,h2,nonneg eA (nn0 hs (by omega)),nonneg eB (nn0 ht (by omega)),nonneg eC (by omega)⟩
 ·have hjj:P.v j≠P.v (j + 1):=h.ne j
  rcases part_or_meet (P.v 0) (P.v 2) hjj with g|⟨s,t,s',t',hs,ht,hs',ht',hst,hst',g⟩
  ·exact g
  ·exfalso
   have eA:s * tA P (P.v j) + t * tA P (P.v (j + 1))=s' * tA P (P.v 0) + t' * tA P (P.v 2):=Meet.vals g _ _
   have eB:s * tB P (P.v j) + t * tB P (P.v (j + 1))=s' * tB P (P.v 0) + t' * tB P (P.v 2):=Meet.vals g _ _
   have eC:s * tC P (P.v j) + t * tC P (P.v (j + 1))=s' * tC P (P.v 0) + t' * tC P (P.v 2):=Meet.vals g _ _
   rw [v1,v7,Int.mul_zero,Int.add_zero] at eA
   rw [v2,v8,Int.mul_zero,Int.zero_add] at eB
   rw [v3,v9,Int.mul_zero,Int.mul_zero] at eC
   have:=nn0 hs' (show 0≤turnZ (P.v 0) (P.v 1) (P.v 2) by omega)
   have:=nn0 ht' (show 0≤turnZ (P.v 0) (P.v 1) (P.v 2) by omega)
   exact no_wall h h4 hτ (c:=-1) (i:=j) (by omega) (by omega) (.inr ⟨by omega,by omega⟩) hs ht hst (by omega) (by omega) (by omega) (by omega) (by omega) fun k hk=>absurd hk (hno k)
theorem chord_in {P:Poly} (h:SimpleP P) (h4:4≤P.n) (hτ:0 < turnZ (P.v 0) (P.v 1) (P.v 2)) {j:Nat} (hj:InT P j) (hmax:∀ k,InT P k→tC P (P.v k)≤tC P (P.v j)):Chord (P.rot 1) (j - 1):=by
 obtain ⟨v1,v2,v3,v4,v5,v6,v7,v8,v9⟩:=tri_vals P
 obtain ⟨pA,pB⟩:=hj.pos h hτ
 obtain ⟨hj3,hjn,hja,hjb,hjc⟩:=id hj
 have hsum:=tri_sum P (P.v j)
 have h1j:P.v 1≠P.v j:=h.inj (by omega) (by omega) (by omega)
 have e0:P.v P.n=P.v 0:=by have:=P.per 0;rwa [Nat.zero_add] at this
 have r:∀ k,(P.rot 1).v k=P.v (k + 1):=fun k=>by show P.v (1 + k)=_;rw [Nat.add_comm]
 refine Chord.mk' (h.rot 1) (by omega) (by show j - 1 + 2≤P.n;omega) (fun k h1 h2 h3=>?_) (fun k h1 h2 h3 h5=>?_)
 ·have h2:k < P.n:=h2
  rw [r,r,r,show j - 1 + 1=j by omega,Nat.zero_add]
  suffices H:∀ i,i < P.n→i≠1→i≠j→Off (P.v i) (P.v 1) (P.v j) by
   rcases (show k + 1 < P.n∨k + 1=P.n by omega) with g|g
   ·exact H _ g (by omega) (by omega)
   ·rw [g,e0];exact H 0 (by omega) (by omega) (by omega)
  intro i hi hi1 hij
  rcases off_or_on (P.v i) h1j with g|⟨s,t,hs,ht,hst,g⟩
  ·exact g
  ·exfalso
   have eA:(s + t) * tA P (P.v i)=s * tA P (P.v 1) + t * tA P (P.v j):=OnM.turns g _ _
   have eB:(s + t) * tB P (P.v i)=s * tB P (P.v 1) + t * tB P (P.v j):=OnM.turns g _ _
   have eC:(s + t) * tC P (P.v i)=s * tC P (P.v 1) + t * tC P (P.v j):=OnM.turns g _ _
   rw [v4,Int.mul_zero,Int.zero_add] at eA
   rw [v5,Int.mul_zero,Int.zero_add] at eB
   rw [v6] at eC
   have q1:=nn0 hs (show 0≤turnZ (P.v 0) (P.v 1) (P.v 2) by omega)
   have q2:=nn0 ht hjc
   have nonneg:∀ {x y:Int},(s + t) * x=y→0≤y→0≤x:=fun {x y} e hy=>by
    rcases (show 0≤x∨x < 0 by omega) with g|g
    ·exact g
    ·have:=pm hst g;omega
   have s0:s=0∨0 < s:=by omega
   have t0:t=0∨0 < t:=by omega
   rcases (show i=0∨i=2∨3≤i by omega) with rfl|rfl|hi3
   ·rw [v2,Int.mul_zero] at eB
    rw [v3,Int.mul_zero] at eC
    rcases t0 with rfl|t0
    ·have:=pp (show 0 < s by omega) hτ;omega
    ·have:=pp t0 pB;omega
   ·rw [v7,Int.mul_zero] at eA
    rw [v9,Int.mul_zero] at eC
    rcases t0 with rfl|t0
    ·have:=pp (show 0 < s by omega) hτ;omega
    ·have:=pp t0 pA;omega
   ·have:=hmax i ⟨hi3,hi,nonneg eA (nn0 ht (by omega)),nonneg eB (nn0 ht (by omega)),nonneg eC (by omega)⟩
    have q3:=Int.mul_le_mul_of_nonneg_left this (show 0≤s + t by omega)
    rw [eC,Int.add_mul] at q3
    rcases s0 with rfl|s0
    ·have hne:=h.inj hi hjn hij
     apply hne
     have e1:=g ⟨1,0,0⟩
     have e2:=g ⟨0,1,0⟩
     simp only [Aff.ev,Int.one_mul,Int.zero_mul,Int.zero_add,Int.add_zero] at e1 e2
     have ht0:t≠0:=by omega
     exact Prod.ext (Int.eq_of_mul_eq_mul_left ht0 e1) (Int.eq_of_mul_eq_mul_left ht0 e2)
    ·have q4:0 < s * (turnZ (P.v 0) (P.v 1) (P.v 2) - tC P (P.v j)):=pp s0 (by omega)
     rw [Int.mul_sub] at q4
     omega
 ·have h2:k + 1 < P.n:=h2
  rw [r,r,r,r,show j - 1 + 1=j by omega,Nat.zero_add]
  have hi2:2≤k + 1:=by omega
  have hin:k + 1 < P.n:=h2
  have hne1:j≠k + 1:=by omega
  have hne2:j≠k + 1 + 1:=by omega
  generalize k + 1=i at *
  rcases part_or_meet (P.v 1) (P.v j) (h.ne i) with g|⟨s,t,s',t',hs,ht,hs',ht',hst,hst',g⟩
  ·exact g
  ·exfalso
   have eA:s * tA P (P.v i) + t * tA P (P.v (i + 1))=s' * tA P (P.v 1) + t' * tA P (P.v j):=Meet.vals g _ _
   have eB:s * tB P (P.v i) + t * tB P (P.v (i + 1))=s' * tB P (P.v 1) + t' * tB P (P.v j):=Meet.vals g _ _
   have eC:s * tC P (P.v i) + t * tC P (P.v (i + 1))=s' * tC P (P.v 1) + t' * tC P (P.v j):=Meet.vals g _ _
   rw [v4,Int.mul_zero,Int.zero_add] at eA
   rw [v5,Int.mul_zero,Int.zero_add] at eB
   rw [v6] at eC
   rcases (show s'=0∨0 < s' by omega) with rfl|s0
   ·obtain ⟨f,f1,f2,f3⟩:=h.offI (i:=i) (k:=j) hin hjn hne1 hne2 (by omega)
    have e:=g f
    rw [Int.zero_mul,Int.zero_add] at e
    have:=pm (show 0 < t' by omega) f3
    have:=nn0 hs (show 0≤f.ev (P.v i) by omega)
    have:=nn0 ht (show 0≤f.ev (P.v (i + 1)) by omega)
    omega
   ·have q0:=nn0 (show 0≤s' by omega) (show 0≤turnZ (P.v 0) (P.v 1) (P.v 2) by omega)
    have q1:=nn0 ht' hjc
    have q4:0 < s' * (turnZ (P.v 0) (P.v 1) (P.v 2) - tC P (P.v j)):=pp s0 (by omega)
    rw [Int.mul_sub] at q4
    have q5:tC P (P.v j) * (s + t)=s' * tC P (P.v j) + t' * tC P (P.v j):=by rw [hst'];grind
    exact no_wall h h4 hτ (c:=tC P (P.v j)) hi2 hin (.inl hjc) hs ht hst (by rw [eA];exact nn0 ht' (by omega)) (by rw [eB];exact nn0 ht' (by omega)) (by rw [eC];omega) (by rw [eC,q5];omega) (by omega) hmax
theorem Poly.ext' {P Q:Poly} (hn:P.n=Q.n) (hv:∀ j,P.v j=Q.v j):P=Q:=by
 cases P;cases Q;simp only at hn hv;subst hn;obtain rfl:=funext hv;rfl
theorem Poly.per_mul (P:Poly) (j q:Nat):P.v (j + P.n * q)=P.v j:=by
 induction q with
 | zero=>rfl
 | succ q ih=>rw [Nat.mul_succ,← Nat.add_assoc,P.per,ih]
theorem Poly.per_mod (P:Poly) (j:Nat):P.v (j % P.n)=P.v j:=by
 have:=P.per_mul (j % P.n) (j / P.n)
 rwa [Nat.mod_add_div,eq_comm] at this
theorem Poly.per_add (P:Poly) (s t:Nat):P.v (s % P.n + t)=P.v (s + t):=by
 rw [← P.per_mod (s % P.n + t),Nat.mod_add_mod,P.per_mod]
theorem Poly.vn (P:Poly):P.v P.n=P.v 0:=by have:=P.per 0;rwa [Nat.zero_add] at this
theorem rot_rot (P:Poly) (s t:Nat):(P.rot s).rot t=P.rot (s + t):=Poly.ext' rfl fun j=>by show P.v (s + (t + j))=P.v (s + t + j);rw [Nat.add_assoc]
theorem rot_back (P:Poly) (s:Nat) (hn:1≤P.n):(P.rot s).rot (s * (P.n - 1))=P:=Poly.ext' rfl fun j=>by
 show P.v (s + (s * (P.n - 1) + j))=P.v j
 have:s + (s * (P.n - 1) + j)=j + P.n * s:=by
  obtain ⟨m,hm⟩:∃ m,P.n=m + 1:=⟨P.n - 1,by omega⟩
  rw [hm,Nat.add_sub_cancel,Nat.add_mul,Nat.one_mul,Nat.mul_comm m s];omega
 rw [this,P.per_mul]
theorem rot_zero (P:Poly):P.rot 0=P:=Poly.ext' rfl fun j=>by show P.v (0 + j)=_;rw [Nat.zero_add]
def Poly.sc (K:Int) (P:Poly):Poly:=⟨P.n,fun k=>smul K (P.v k),fun j=>by show smul K (P.v (j + P.n))=_;rw [P.per]⟩
theorem wndO_rot (h:Aff) (P:Poly) (s:Nat) {k:Nat} (hk:k < P.n) (x:Pt):wndO h (P.rot s).way k x=wndO h P.way ((s + k) % P.n) x:=by
 have h1:=wnd_one h (P.rot s).way (k:=k) hk x
 have h2:=wnd_one h P.way (k:=(s + k) % P.n) (Nat.mod_lt _ (show 0 < P.n by omega)) x
 rw [wnd_rot] at h1
 have e1:P.way.v ((s + k) % P.n)=(P.rot s).way.v k:=P.per_mod _
 have e2:P.way.v ((s + k) % P.n + 1)=(P.rot s).way.v (k + 1):=by show P.v _=P.v (s + (k + 1));rw [P.per_add];rfl
 rw [e1,e2] at h2
 omega
theorem LeftIs.rot {h:Aff} {P:Poly} {l:Int} (hl:LeftIs h P.way l) (s:Nat):LeftIs h (P.rot s).way l:=by
 refine ⟨hl.1,fun K k x hK hk hx=>?_,fun K p hK hc=>?_⟩
 ·have hk:k < P.n:=hk
  have e1:P.v ((s + k) % P.n)=P.v (s + k):=P.per_mod _
  have e2:P.v ((s + k) % P.n + 1)=P.v (s + (k + 1)):=by rw [P.per_add];rfl
  have hx:OnI x (smul K (P.v (s + k))) (smul K (P.v (s + (k + 1)))):=hx
  rw [← e1,← e2] at hx
  have e:=hl.2.1 K ((s + k) % P.n) x hK (Nat.mod_lt _ (show 0 < P.n by omega)) hx
  have o:=wndO_rot (h.sc K) (P.sc K) s (k:=k) hk x
  unfold lam at e ⊢
  have o:wndO (h.sc K) ((P.rot s).way.sc K) k x=wndO (h.sc K) (P.way.sc K) ((s + k) % P.n) x:=o
  rw [o]
  have a1:(P.way.sc K).v ((s + k) % P.n)=((P.rot s).way.sc K).v k:=congrArg (smul K) e1
  have a2:(P.way.sc K).v ((s + k) % P.n + 1)=((P.rot s).way.sc K).v (k + 1):=congrArg (smul K) e2
  rwa [a1,a2] at e
 ·have w:wnd (h.sc K) ((P.rot s).way.sc K) p=wnd (h.sc K) (P.way.sc K) p:=wnd_rot (h.sc K) (P.sc K) s p
  rw [w]
  refine hl.2.2 K p hK fun k hk=>?_
  have hk:k < P.n:=hk
  have hr:s % P.n < P.n:=Nat.mod_lt _ (by omega)
  obtain ⟨t,ht,e⟩:∃ t,t < P.n∧∀ i,P.v (s + (t + i))=P.v (k + i):=by
   rcases (show s % P.n≤k∨k < s % P.n by omega) with g|g
   ·exact ⟨k - s % P.n,by omega,fun i=>by rw [← P.per_add];congr 1;omega⟩
   ·exact ⟨k + P.n - s % P.n,by omega,fun i=>by rw [← P.per_add,show s % P.n + (k + P.n - s % P.n + i)=k + i + P.n by omega,P.per]⟩
  have c:=hc t ht
  have a1:((P.rot s).way.sc K).v t=(P.way.sc K).v k:=congrArg (smul K) (e 0)
  have a2:((P.rot s).way.sc K).v (t + 1)=(P.way.sc K).v (k + 1):=congrArg (smul K) (e 1)
  rwa [a1,a2] at c
theorem LeftIs.rot_iff {h:Aff} {P:Poly} {l:Int} (hn:1≤P.n) (s:Nat):LeftIs h (P.rot s).way l↔LeftIs h P.way l:=
 ⟨fun hl=>by have:=hl.rot (s * (P.n - 1));rwa [rot_back P s hn] at this,fun hl=>hl.rot s⟩
theorem LeftIs.uniq {h:Aff} {P:Poly} {l l':Int} (h1:LeftIs h P.way l) (h2:LeftIs h P.way l') (hn:1≤P.n):l=l':=by
 have a:=h1.2.1 2 0 _ (by omega) hn (nearA_on (by omega) _ _)
 have b:=h2.2.1 2 0 _ (by omega) hn (nearA_on (by omega) _ _)
 rw [← a,← b]
def LowAt (h:Aff) (P:Poly) (s:Nat):Prop:=∀ j,j < P.n→j≠1→h.ev ((P.rot s).v 1) < h.ev ((P.rot s).v j)
def Pos (h:Aff) (P:Poly):Prop:=∃ s,LowAt h P s∧0 < turnZ ((P.rot s).v 0) ((P.rot s).v 1) ((P.rot s).v 2)
def NegP (h:Aff) (P:Poly):Prop:=∃ s,LowAt h P s∧turnZ ((P.rot s).v 0) ((P.rot s).v 1) ((P.rot s).v 2) < 0
theorem Gen.low {h:Aff} {P:Poly} (hg:Gen h P) (h3:3≤P.n):∃ s,LowAt h P s:=by
 obtain ⟨k,hk,hm⟩:=ex_max (fun k=>k < P.n) (fun k=>- h.ev (P.v k)) P.n (fun k h=>h) ⟨0,by omega⟩
 refine ⟨k + P.n - 1,fun j hj hj1=>?_⟩
 have e1:(P.rot (k + P.n - 1)).v 1=P.v k:=by show P.v (k + P.n - 1 + 1)=_;rw [show k + P.n - 1 + 1=k + P.n by omega,P.per]
 have ej:(P.rot (k + P.n - 1)).v j=P.v ((k + P.n - 1 + j) % P.n):=(P.per_mod _).symm
 rw [e1,ej]
 have hlt:(k + P.n - 1 + j) % P.n < P.n:=Nat.mod_lt _ (by omega)
 have hle:=hm _ hlt
 have hne:k≠(k + P.n - 1 + j) % P.n:=by
  intro e
  rcases (show k + P.n - 1 + j < P.n∨(P.n≤k + P.n - 1 + j∧k + P.n - 1 + j < 2 * P.n)∨2 * P.n≤k + P.n - 1 + j by omega) with g|g|g
  ·rw [Nat.mod_eq_of_lt g] at e;omega
  ·rw [Nat.mod_eq_sub_mod (by omega),Nat.mod_eq_of_lt (by omega)] at e;omega
  ·rw [Nat.mod_eq_sub_mod (by omega),Nat.mod_eq_sub_mod (by omega),Nat.mod_eq_of_lt (by omega)] at e;omega
 have:=hg _ _ hk hlt hne
 omega
theorem side_or {h:Aff} {P:Poly} (hP:SimpleP P) (hg:Gen h P) {s:Nat} (hs:LowAt h P s) :
  (LeftIs h P.way 1∧0 < turnZ ((P.rot s).v 0) ((P.rot s).v 1) ((P.rot s).v 2))∨(LeftIs h P.way 0∧turnZ ((P.rot s).v 0) ((P.rot s).v 1) ((P.rot s).v 2) < 0):=by
 have h3:=hP.n3
 obtain ⟨l,hl⟩:=(hP.rot s).simple.zero_one ((hg.rot s).sloped (by show 2≤P.n;omega))
 have hl:LeftIs h (P.rot s).way l:=hl
 have hl0:=(LeftIs.rot_iff (by omega) s).1 hl
 rcases low_turn (hP.rot s).simple ((hg.rot s).sloped (by show 2≤P.n;omega)) hl hs with ⟨rfl,g⟩|⟨rfl,g⟩
 ·exact .inl ⟨hl0,g⟩
 ·exact .inr ⟨hl0,g⟩
theorem Pos.left {h:Aff} {P:Poly} (hP:SimpleP P) (hg:Gen h P) (hp:Pos h P):LeftIs h P.way 1:=by
 obtain ⟨s,hs,ht⟩:=hp
 rcases side_or hP hg hs with ⟨g,_⟩|⟨_,g⟩
 ·exact g
 ·omega
theorem Pos.of_left {h:Aff} {P:Poly} (hP:SimpleP P) (hg:Gen h P) (hl:LeftIs h P.way 1):Pos h P:=by
 have h3:=hP.n3
 obtain ⟨s,hs⟩:=hg.low h3
 rcases side_or hP hg hs with ⟨_,g⟩|⟨g,_⟩
 ·exact ⟨s,hs,g⟩
 ·have:=hl.uniq g (by omega);omega
theorem pos_or_neg {h:Aff} {P:Poly} (hP:SimpleP P) (hg:Gen h P):Pos h P∨NegP h P:=by
 have h3:=hP.n3
 obtain ⟨s,hs⟩:=hg.low h3
 rcases side_or hP hg hs with ⟨_,g⟩|⟨_,g⟩
 ·exact .inl ⟨s,hs,g⟩
 ·exact .inr ⟨s,hs,g⟩
theorem Pos.rot {h:Aff} {P:Poly} (hp:Pos h P) (hn:1≤P.n) (t:Nat):Pos h (P.rot t):=by
 obtain ⟨s,hs,ht⟩:=hp
 have e:(P.rot t).rot (t * (P.n - 1) + s)=P.rot s:=by rw [← rot_rot,rot_back P t hn]
 exact ⟨t * (P.n - 1) + s,by unfold LowAt;rw [e];exact hs,by rw [e];exact ht⟩
theorem Pos.rot_iff {h:Aff} {P:Poly} (hn:1≤P.n) (t:Nat):Pos h (P.rot t)↔Pos h P:=
 ⟨fun hp=>by have:=hp.rot (show 1≤(P.rot t).n from hn) (t * (P.n - 1));rwa [show ((P.rot t).rot (t * (P.n - 1)))=P from rot_back P t hn] at this,fun hp=>hp.rot hn t⟩
theorem wnd_out (h:Aff) {P:Way} {p:Pt} (f:Aff) (hf:∀ k,k < P.n→f.ev p < f.ev (P.v k)):wnd h P p=0:=by
 have hf':∀ k,k < P.n→f.ev p < f.ev (P.v (k + 1)):=fun k hk=>by
  rcases (show k + 1 < P.n∨k + 1=P.n by omega) with e|e
  ·exact hf _ e
  ·rw [e,P.cyc];exact hf 0 (by omega)
 have ho:∀ k,k < P.n→Off p (P.v k) (P.v (k + 1)):=fun k hk=>by
  have h1:=hf k hk
  have h2:=hf' k hk
  exact ⟨Aff.lc 2 f 0 f (-(2 * f.ev p + 1)),by rw [ev_lc];omega,by rw [ev_lc];omega,by rw [ev_lc];omega⟩
 have key:∀ g:Aff,(∀ k,k < P.n→g.ev p < g.ev (P.v k))→h.u * g.v - h.v * g.u≠0→wnd h P p=0:=fun g hg hd=>by
  rw [wnd_two hd ho];exact wnd_below hg
 have pert:∀ g:Aff,h.u * g.v - h.v * g.u≠0→h.u * f.v - h.v * f.u=0→wnd h P p=0:=fun g hd h0=>by
  have:Late fun N=>∀ k,k < P.n→(Aff.lc N f 1 g 0).ev p < (Aff.lc N f 1 g 0).ev (P.v k):=Late.all fun k hk=>by
   refine ⟨g.ev p - g.ev (P.v k) + 1,fun N hN hN0=>?_⟩
   show (Aff.lc N f 1 g 0).ev p < (Aff.lc N f 1 g 0).ev (P.v k)
   rw [ev_lc,ev_lc]
   have h1:=hf k hk
   have h2:=Int.mul_le_mul_of_nonneg_left (show f.ev p + 1≤f.ev (P.v k) by omega) (show 0≤N by omega)
   rw [Int.mul_add,Int.mul_one] at h2
   omega
  obtain ⟨N,hN,hl⟩:=this.get
  refine key _ hl ?_
  have:h.u * (Aff.lc N f 1 g 0).v - h.v * (Aff.lc N f 1 g 0).u=N * (h.u * f.v - h.v * f.u) + (h.u * g.v - h.v * g.u):=by unfold Aff.lc;grind
  rw [this,h0,Int.mul_zero,Int.zero_add];exact hd
 by_cases h0:h.u * f.v - h.v * f.u=0
 ·by_cases hu:h.u=0
  ·by_cases hv:h.v=0
   ·have:wnd h P p=sumN (fun _=>0) P.n:=sumN_congr fun k hk=>by
     unfold crN Aff.ev
     rw [hu,hv]
     simp
    rw [this]
    have z:∀ n,sumN (fun _=>0) n=0:=fun n=>by
     induction n with
     | zero=>rfl
     | succ n ih=>simp only [sumN,ih];rfl
    exact z _
   ·exact pert ⟨1,0,0⟩ (by show h.u * 0 - h.v * 1≠0;omega) h0
  ·exact pert ⟨0,1,0⟩ (by show h.u * 1 - h.v * 0≠0;omega) h0
 ·exact key f hf h0
theorem pos_rest {h:Aff} {P:Poly} (hP:SimpleP P) (hg:Gen h P) (hl:LeftIs h P.way 1) (h4:4≤P.n) (c:Chord P 2) {f:Aff} (f0:0≤f.ev (P.v 0)) (f1:0≤f.ev (P.v 1)) (f2:0≤f.ev (P.v 2)) (f3:f.ev (P.v 3) < 0) :
  Pos h ((P.rot 2).arc (P.n - 2)):=by
 have hR:=(hP.rot 2).arc c.rot
 have hgR:Gen h ((P.rot 2).arc (P.n - 2)):=(hg.rot 2).arc (by show P.n - 2 < P.n;omega)
 obtain ⟨l,hlR⟩:=hR.simple.zero_one (hgR.sloped (by show 2≤P.n - 2 + 1;omega))
 have hlR:LeftIs h ((P.rot 2).arc (P.n - 2)).way l:=hlR
 suffices l=1 by subst this;exact Pos.of_left hR hgR hlR
 have lt:Late fun K=>∀ k,k < 3→(f.sc K).ev (nearA K (P.v 3) (P.v 2)) < (f.sc K).ev (smul K ((P.arc 2).v k)):=by
  refine ⟨f.lin (psub (P.v 2) (P.v 3)) + 1,fun K hK hK0 k hk=>?_⟩
  have e1:(f.sc K).ev (nearA K (P.v 3) (P.v 2))=K * f.ev (P.v 3) + f.lin (psub (P.v 2) (P.v 3)):=ev_sc f K _ _
  rw [e1,ev_sc0]
  have g1:K * f.ev (P.v 3)≤K * (-1):=Int.mul_le_mul_of_nonneg_left (by omega) (by omega)
  have g2:0≤f.ev ((P.arc 2).v k):=by
   rcases (show k=0∨k=1∨k=2 by omega) with rfl|rfl|rfl <;> rw [arc_v P (by omega)] <;> assumption
  have g3:=nn0 (show 0≤K by omega) g2
  omega
 obtain ⟨K,hK,hlt,hK2⟩:=(lt.and (Late.ge 2)).get
 obtain ⟨x,hx⟩:∃ x,x=nearA K (P.v 3) (P.v 2):=⟨_,rfl⟩
 rw [← hx] at hlt
 have hon:OnI x (smul K (P.v 2)) (smul K (P.v 3)):=by
  obtain ⟨s,t,hs,ht,a1,a2⟩:=nearA_on hK2 (P.v 3) (P.v 2)
  rw [← hx] at a1 a2
  exact ⟨t,s,ht,hs,by rw [Int.add_comm t s,a1];omega,by rw [Int.add_comm t s,a2];omega⟩
 have w0:wnd (h.sc K) ((P.sc K).arc 2).way x=0:=wnd_out _ (f.sc K) hlt
 have wc:=wnd_cut (h.sc K) (P.sc K) (m:=2) (by show 2≤P.n;omega) x
 rw [w0,Int.zero_add] at wc
 have e0:((P.rot 2).arc (P.n - 2)).v 0=P.v 2:=arc_v _ (by omega)
 have e1:((P.rot 2).arc (P.n - 2)).v 1=P.v 3:=arc_v _ (by omega)
 have o1:=wnd_one (h.sc K) (P.sc K).way (k:=2) (by show 2 < P.n;omega) x
 have o2:=wnd_one (h.sc K) (((P.rot 2).arc (P.n - 2)).way.sc K) (k:=0) (by show 0 < P.n - 2 + 1;omega) x
 have s0:(((P.rot 2).arc (P.n - 2)).way.sc K).v 0=(P.sc K).way.v 2:=congrArg (smul K) e0
 have s1:(((P.rot 2).arc (P.n - 2)).way.sc K).v 1=(P.sc K).way.v 3:=congrArg (smul K) e1
 rw [s0,show 0 + 1=1 from rfl,s1] at o2
 have wc:wnd (h.sc K) (P.sc K).way x=wnd (h.sc K) (((P.rot 2).arc (P.n - 2)).way.sc K) x:=wc
 have la:=hl.2.1 K 2 x hK (by show 2 < P.n;omega) hon
 have lb:=hlR.2.1 K 0 x hK (by show 0 < P.n - 2 + 1;omega) (by
  show OnI x (smul K (((P.rot 2).arc (P.n - 2)).v 0)) (smul K (((P.rot 2).arc (P.n - 2)).v 1))
  rw [e0,e1];exact hon)
 unfold lam at la lb
 rw [s0,show 0 + 1=1 from rfl,s1] at lb
 have la:wndO (h.sc K) (P.sc K).way 2 x + (if (h.sc K).ev ((P.sc K).way.v 2) < (h.sc K).ev ((P.sc K).way.v 3) then 1 else 0)=1:=la
 have o1:wnd (h.sc K) (P.sc K).way x=wndO (h.sc K) (P.sc K).way 2 x + crN (h.sc K) x ((P.sc K).way.v 2) ((P.sc K).way.v 3):=o1
 omega
theorem arc_rot_v (P:Poly) (m s j:Nat):((P.arc m).rot s).v j=P.v ((s + j) % (m + 1)):=rfl
theorem exists_cut {h:Aff} {P:Poly} (hP:SimpleP P) (hg:Gen h P) (hp:Pos h P) (h4:4≤P.n) :
  ∃ s m,Chord (P.rot s) m∧Pos h ((P.rot s).arc m)∧Pos h (((P.rot s).rot m).arc (P.n - m)):=by
 have hl:=hp.left hP hg
 obtain ⟨s,hs,hτ⟩:=hp
 have hl:=hl.rot s
 have hQ:=hP.rot s
 have hgQ:=hg.rot s
 unfold LowAt at hs
 generalize hQQ:P.rot s=Q at *
 have hn:Q.n=P.n:=by rw [← hQQ];rfl
 rw [← hn] at h4 hs
 by_cases hin:∃ j,InT Q j
 ·obtain ⟨j,hj,hmax⟩:=ex_max (InT Q) (fun j=>tC Q (Q.v j)) Q.n (fun k hk=>hk.2.1) hin
  obtain ⟨pA,pB⟩:=hj.pos hQ hτ
  obtain ⟨hj3,hjn,_⟩:=id hj
  refine ⟨s + 1,j - 1,?_⟩
  rw [← rot_rot,hQQ,← hn]
  have lowE:∀ i,i≠0→i < Q.n→h.ev (Q.v 1) < h.ev (Q.v (1 + i)):=fun i h0 hi=>by
   rcases (show 1 + i < Q.n∨1 + i=Q.n by omega) with g|g
   ·exact hs _ g (by omega)
   ·rw [g,Q.vn];exact hs 0 (by omega) (by omega)
  refine ⟨chord_in hQ h4 hτ hj hmax,⟨j - 1,fun k hk hk1=>?_,?_⟩,⟨Q.n - (j - 1) - 1,fun k hk hk1=>?_,?_⟩⟩
  ·have hk:k < j - 1 + 1:=hk
   rw [arc_rot_v,arc_rot_v,Nat.mod_self]
   show h.ev (Q.v (1 + 0)) < h.ev (Q.v (1 + _))
   refine lowE _ ?_ (by have:=Nat.mod_lt (j - 1 + k) (show 0 < j - 1 + 1 by omega);omega)
   rcases (show k=0∨2≤k by omega) with rfl|g
   ·rw [Nat.mod_eq_of_lt (by omega)];omega
   ·rw [Nat.mod_eq_sub_mod (by omega),Nat.mod_eq_of_lt (by omega)];omega
  ·rw [arc_rot_v,arc_rot_v,arc_rot_v,Nat.mod_self,Nat.mod_eq_of_lt (show j - 1 + 0 < j - 1 + 1 by omega),Nat.mod_eq_sub_mod (show j - 1 + 1≤j - 1 + 2 by omega),Nat.mod_eq_of_lt (by omega)]
   show 0 < turnZ (Q.v (1 + (j - 1 + 0))) (Q.v (1 + 0)) (Q.v (1 + _))
   rw [show 1 + (j - 1 + 0)=j by omega,show j - 1 + 2 - (j - 1 + 1)=1 by omega]
   have:turnZ (Q.v j) (Q.v (1 + 0)) (Q.v (1 + 1))=tA Q (Q.v j):=by unfold tA turnZ;grind
   rw [this];exact pA
  ·have hk:k < Q.n - (j - 1) + 1:=hk
   rw [arc_rot_v,arc_rot_v]
   show h.ev (Q.v (1 + (j - 1 + (Q.n - (j - 1) - 1 + 1) % (Q.n - (j - 1) + 1)))) < h.ev (Q.v (1 + (j - 1 + _)))
   rw [Nat.mod_eq_of_lt (show Q.n - (j - 1) - 1 + 1 < Q.n - (j - 1) + 1 by omega),show 1 + (j - 1 + (Q.n - (j - 1) - 1 + 1))=1 + Q.n by omega,Q.per]
   rcases (show k=0∨2≤k by omega) with rfl|g
   ·rw [Nat.mod_eq_of_lt (by omega),show 1 + (j - 1 + (Q.n - (j - 1) - 1 + 0))=Q.n by omega,Q.vn];exact hs 0 (by omega) (by omega)
   ·rw [Nat.mod_eq_sub_mod (by omega),Nat.mod_eq_of_lt (by omega)]
    exact hs _ (by omega) (by omega)
  ·rw [arc_rot_v,arc_rot_v,arc_rot_v]
   show 0 < turnZ (Q.v (1 + (j - 1 + (Q.n - (j - 1) - 1 + 0) % (Q.n - (j - 1) + 1)))) (Q.v (1 + (j - 1 + (Q.n - (j - 1) - 1 + 1) % (Q.n - (j - 1) + 1)))) (Q.v (1 + (j - 1 + (Q.n - (j - 1) - 1 + 2) % (Q.n - (j - 1) + 1))))
   rw [Nat.mod_eq_of_lt (show Q.n - (j - 1) - 1 + 1 < Q.n - (j - 1) + 1 by omega),Nat.mod_eq_of_lt (show Q.n - (j - 1) - 1 + 0 < Q.n - (j - 1) + 1 by omega),show Q.n - (j - 1) - 1 + 2=Q.n - (j - 1) + 1 by omega,Nat.mod_self,
    show 1 + (j - 1 + (Q.n - (j - 1) - 1 + 1))=1 + Q.n by omega,show 1 + (j - 1 + (Q.n - (j - 1) - 1 + 0))=Q.n by omega,Q.per,Q.vn,show 1 + (j - 1 + 0)=j by omega]
   exact pB
 ·have hno:∀ j,¬ InT Q j:=fun j hj=>hin ⟨j,hj⟩
  have c:=chord_tri hQ h4 hτ hno
  obtain ⟨v1,v2,v3,v4,v5,v6,v7,v8,v9⟩:=tri_vals Q
  refine ⟨s,2,?_⟩
  rw [hQQ,← hn]
  refine ⟨c,⟨0,fun k hk hk1=>?_,?_⟩,?_⟩
  ·have hk:k < 3:=hk
   rw [rot_zero,arc_v Q (by omega),arc_v Q (by omega)]
   exact hs k (by omega) hk1
  ·rw [rot_zero,arc_v Q (by omega),arc_v Q (by omega),arc_v Q (by omega)];exact hτ
  ·have h3:=hno 3
   have:tA Q (Q.v 3) < 0∨tB Q (Q.v 3) < 0∨tC Q (Q.v 3) < 0:=by
    rcases (show tA Q (Q.v 3) < 0∨tB Q (Q.v 3) < 0∨tC Q (Q.v 3) < 0∨(0≤tA Q (Q.v 3)∧0≤tB Q (Q.v 3)∧0≤tC Q (Q.v 3)) by omega) with g|g|g|g
    ·exact .inl g
    ·exact .inr (.inl g)
    ·exact .inr (.inr g)
    ·exact absurd ⟨by omega,by omega,g⟩ h3
   rcases this with g|g|g
   ·exact pos_rest hQ hgQ hl h4 c (f:=Aff.turn (Q.v 1) (Q.v 2)) (by rw [ev_turn];show 0≤tA Q _;omega) (by rw [ev_turn];show 0≤tA Q _;omega) (by rw [ev_turn];show 0≤tA Q _;omega) (by rw [ev_turn];exact g)
   ·exact pos_rest hQ hgQ hl h4 c (f:=Aff.turn (Q.v 0) (Q.v 1)) (by rw [ev_turn];show 0≤tB Q _;omega) (by rw [ev_turn];show 0≤tB Q _;omega) (by rw [ev_turn];show 0≤tB Q _;omega) (by rw [ev_turn];exact g)
   ·exact pos_rest hQ hgQ hl h4 c (f:=Aff.turn (Q.v 2) (Q.v 0)) (by rw [ev_turn];show 0≤tC Q _;omega) (by rw [ev_turn];show 0≤tC Q _;omega) (by rw [ev_turn];show 0≤tC Q _;omega) (by rw [ev_turn];exact g)
theorem pos_induct (h:Aff) (M:Poly→Prop) (tri:∀ P,SimpleP P→Gen h P→P.n=3→0 < turnZ (P.v 0) (P.v 1) (P.v 2)→M P)
  (rot:∀ P s,SimpleP P→Gen h P→Pos h P→M (P.rot s)→M P) (cut:∀ P m,SimpleP P→Gen h P→Pos h P→Chord P m→Pos h (P.arc m)→Pos h ((P.rot m).arc (P.n - m))→M (P.arc m)→M ((P.rot m).arc (P.n - m))→M P) :
  ∀ P,SimpleP P→Gen h P→Pos h P→M P:=by
 suffices H:∀ n P,P.n=n→SimpleP P→Gen h P→Pos h P→M P from fun P=>H P.n P rfl
 intro n
 induction n using Nat.strongRecOn with
 | ind n ih=>
  intro P hn hP hg hp
  have h3:=hP.n3
  rcases (show P.n=3∨4≤P.n by omega) with e|h4
  ·obtain ⟨s,hs,ht⟩:=id hp
   exact rot P s hP hg hp (tri _ (hP.rot s) (hg.rot s) e ht)
  ·obtain ⟨s,m,c,p1,p2⟩:=exists_cut hP hg hp h4
   have hm2:=c.m2
   have hmn:m + 2≤P.n:=c.mn
   exact rot P s hP hg hp (cut _ m (hP.rot s) (hg.rot s) (hp.rot (by omega) s) c p1 p2 (ih (m + 1) (by omega) _ rfl ((hP.rot s).arc c) ((hg.rot s).arc (by show m < P.n;omega)) p1)
    (ih (P.n - m + 1) (by omega) _ rfl (((hP.rot s).rot m).arc c.rot) (((hg.rot s).rot m).arc (by show P.n - m < P.n;omega)) p2))
theorem area_pos {h:Aff} {P:Poly} (hP:SimpleP P) (hg:Gen h P) (hp:Pos h P):0 < P.area:=by
 refine pos_induct h (fun P=>0 < P.area) (fun P hP hg hn ht=>?_) (fun P s hP _ _ h=>by rwa [area_rot] at h) (fun P m hP hg hp c _ _ h1 h2=>?_) P hP hg hp
 ·have:P.area=turnZ (P.v 0) (P.v 1) (P.v 2):=by
   unfold Poly.area;rw [hn];simp only [sumN]
   have e:=P.vn;rw [hn] at e;rw [e]
   unfold crs0 turnZ;grind
  show 0 < P.area
  rw [this];exact ht
 ·have:=c.mn
  show 0 < P.area
  rw [area_cut P (m:=m) (by omega)]
  have h1:0 < (P.arc m).area:=h1
  have h2:0 < ((P.rot m).arc (P.n - m)).area:=h2
  omega
def mirP (p:Pt):Pt:=(-p.1,p.2)
def Aff.mir (f:Aff):Aff:=⟨-f.u,f.v,f.w⟩
theorem ev_mir (f:Aff) (p:Pt):f.mir.ev (mirP p)=f.ev p:=by unfold Aff.mir mirP Aff.ev;grind
theorem turn_mir (a b c:Pt):turnZ (mirP a) (mirP b) (mirP c)=- turnZ a b c:=by unfold mirP turnZ;grind
def Poly.mir (P:Poly):Poly:=⟨P.n,fun j=>mirP (P.v j),fun j=>by show mirP (P.v (j + P.n))=_;rw [P.per]⟩
theorem mir_ne {a b:Pt} (h:a≠b):mirP a≠mirP b:=fun e=>h (by
 have e1:=congrArg Prod.fst e
 have e2:=congrArg Prod.snd e
 unfold mirP at e1 e2
 exact Prod.ext (by omega) e2)
theorem SimpleP.mir {P:Poly} (h:SimpleP P):SimpleP P.mir:=by
 have hb:∀ {a b z:Pt},Bends a b z→Bends (mirP a) (mirP b) (mirP z):=fun {a b z} hb=>by
  refine ⟨mir_ne hb.1,?_⟩
  rw [turn_mir]
  have:dotZ (mirP a) (mirP b) (mirP z)=dotZ a b z:=by unfold dotZ mirP;grind
  rw [this]
  have:=hb.2
  omega
 refine ⟨h.n3,fun j d h1 h2=>?_,fun j d h1 h2=>?_,fun k=>⟨hb (h.bend k).1,hb (h.bend k).2⟩⟩
 ·obtain ⟨f,f1,f2,f3⟩:=h.off j d h1 h2
  exact ⟨f.mir,by show 0 < f.mir.ev (mirP _);rwa [ev_mir],by show 0 < f.mir.ev (mirP _);rwa [ev_mir],by show f.mir.ev (mirP _) < 0;rwa [ev_mir]⟩
 ·obtain ⟨f,f1,f2,f3,f4⟩:=h.apart j d h1 h2
  exact ⟨f.mir,by show 0 < f.mir.ev (mirP _);rwa [ev_mir],by show 0 < f.mir.ev (mirP _);rwa [ev_mir],by show f.mir.ev (mirP _)≤0;rwa [ev_mir],by show f.mir.ev (mirP _)≤0;rwa [ev_mir]⟩
theorem area_mir (P:Poly):P.mir.area=- P.area:=by
 unfold Poly.area
 have:∀ n,sumN (fun k=>crs0 (P.mir.v k) (P.mir.v (k + 1))) n=- sumN (fun k=>crs0 (P.v k) (P.v (k + 1))) n:=fun n=>by
  induction n with
  | zero=>rfl
  | succ n ih=>
   simp only [sumN]
   rw [ih]
   have:crs0 (P.mir.v n) (P.mir.v (n + 1))=- crs0 (P.v n) (P.v (n + 1)):=by
    show crs0 (mirP _) (mirP _)=_
    unfold crs0 mirP;grind
   omega
 exact this _
theorem Gen.mir {h:Aff} {P:Poly} (hg:Gen h P):Gen h.mir P.mir:=fun i j hi hj hij=>by
 show h.mir.ev (mirP _)≠h.mir.ev (mirP _)
 rw [ev_mir,ev_mir];exact hg i j hi hj hij
theorem NegP.mir {h:Aff} {P:Poly} (hn:NegP h P):Pos h.mir P.mir:=by
 obtain ⟨s,hs,ht⟩:=hn
 refine ⟨s,fun j hj h1=>?_,?_⟩
 ·have:=hs j hj h1
  show h.mir.ev (mirP _) < h.mir.ev (mirP _)
  rw [ev_mir,ev_mir];exact this
 ·show 0 < turnZ (mirP _) (mirP _) (mirP _)
  rw [turn_mir]
  have:turnZ ((P.rot s).v 0) ((P.rot s).v 1) ((P.rot s).v 2) < 0:=ht
  show 0 < - turnZ ((P.rot s).v 0) ((P.rot s).v 1) ((P.rot s).v 2)
  omega
theorem pos_iff {h:Aff} {P:Poly} (hP:SimpleP P) (hg:Gen h P):Pos h P↔0 < P.area:=by
 refine ⟨area_pos hP hg,fun ha=>?_⟩
 rcases pos_or_neg hP hg with g|g
 ·exact g
 ·have:=area_pos hP.mir hg.mir g.mir
  rw [area_mir] at this
  omega
theorem part_or_on {a b q r:Pt} (hab:a≠b) (hqr:q≠r):Part a b q r∨OnM q a b∨OnM r a b∨OnM a q r∨OnM b q r ∨
  (((turnZ q r a < 0∧0 < turnZ q r b)∨(turnZ q r b < 0∧0 < turnZ q r a))∧((turnZ a b q < 0∧0 < turnZ a b r)∨(turnZ a b r < 0∧0 < turnZ a b q))):=by
 have E0:=tid a b q r
 have tqq:turnZ q r q=0:=by unfold turnZ;grind
 have trr:turnZ q r r=0:=by unfold turnZ;grind
 have taa:turnZ a b a=0:=by unfold turnZ;grind
 have tbb:turnZ a b b=0:=by unfold turnZ;grind
 rcases part_or_meet q r hab with h|⟨s,t,s',t',h1,h2,h3,h4,h5,h6,h7⟩
 ·exact .inl h
 have V1:=Meet.vals h7 q r
 have V2:=Meet.vals h7 a b
 rw [tqq,trr,Int.mul_zero,Int.mul_zero] at V1
 rw [taa,tbb,Int.mul_zero,Int.mul_zero] at V2
 by_cases es:s=0
 ·subst es
  exact .inr (.inr (.inr (.inr (.inl ⟨s',t',h3,h4,by omega,fun f=>by have:=h7 f;rw [Int.zero_mul] at this;rw [← h6,Int.zero_add];omega⟩))))
 by_cases et:t=0
 ·subst et
  exact .inr (.inr (.inr (.inl ⟨s',t',h3,h4,by omega,fun f=>by have:=h7 f;rw [Int.zero_mul] at this;rw [← h6,Int.add_zero];omega⟩)))
 by_cases es':s'=0
 ·subst es'
  exact .inr (.inr (.inl ⟨s,t,h1,h2,by omega,fun f=>by have:=h7 f;rw [Int.zero_mul] at this;rw [h6,Int.zero_add];omega⟩))
 by_cases et':t'=0
 ·subst et'
  exact .inr (.inl ⟨s,t,h1,h2,by omega,fun f=>by have:=h7 f;rw [Int.zero_mul] at this;rw [h6,Int.add_zero];omega⟩)
 have opp:∀ {x y m k:Int},0 < x→0 < y→x * m + y * k=0→(m < 0∧0 < k)∨(k < 0∧0 < m)∨(m=0∧k=0):=fun {x y m k} hx hy e=>by
  rcases (show m < 0∨m=0∨0 < m by omega) with g|g|g
  ·rcases (show 0 < k∨k≤0 by omega) with g'|g'
   ·exact .inl ⟨g,g'⟩
   ·have:=pm hx g;have:=pm0 (show 0≤y by omega) g';omega
  ·subst g
   rw [Int.mul_zero,Int.zero_add] at e
   rcases Int.mul_eq_zero.1 e with e|e
   ·omega
   ·exact .inr (.inr ⟨rfl,e⟩)
  ·rcases (show k < 0∨0≤k by omega) with g'|g'
   ·exact .inr (.inl ⟨g',g⟩)
   ·have:=pp hx g;have:=nn0 (show 0≤y by omega) g';omega
 have o1:=opp (show 0 < s by omega) (show 0 < t by omega) V1
 have o2:=opp (show 0 < s' by omega) (show 0 < t' by omega) V2.symm
 rcases o1 with o1|o1|⟨z1,z2⟩
 ·rcases o2 with o2|o2|⟨z3,z4⟩
  ·exact .inr (.inr (.inr (.inr (.inr ⟨.inl o1,.inl o2⟩))))
  ·exact .inr (.inr (.inr (.inr (.inr ⟨.inl o1,.inr o2⟩))))
  ·omega
 ·rcases o2 with o2|o2|⟨z3,z4⟩
  ·exact .inr (.inr (.inr (.inr (.inr ⟨.inr o1,.inl o2⟩))))
  ·exact .inr (.inr (.inr (.inr (.inr ⟨.inr o1,.inr o2⟩))))
  ·omega
 ·-- all on one line
  have hq:turnZ a b q=0:=by rcases o2 with o2|o2|o2 <;> omega
  have hr:turnZ a b r=0:=by rcases o2 with o2|o2|o2 <;> omega
  have hsq:=sq_pos hab
  generalize hN:(b.1 - a.1) * (b.1 - a.1) + (b.2 - a.2) * (b.2 - a.2)=N at hsq
  have mq:=line_mean hq
  have mr:=line_mean hr
  rw [hN] at mq mr
  have da:dotZ a b a=-N:=by rw [← hN];unfold dotZ;grind
  have db:dotZ a b b=0:=by unfold dotZ;grind
  generalize hx:dotZ a b q=x at mq
  generalize hy:dotZ a b r=y at mr
  by_cases c1:0 < x∧0 < y
  ·exact .inl ⟨Aff.lc (-2) (Aff.dot a b) 0 (Aff.dot a b) 1,by rw [ev_lc,ev_dot,da];omega,by rw [ev_lc,ev_dot,db];omega,by rw [ev_lc,ev_dot,hx];omega,by rw [ev_lc,ev_dot,hy];omega⟩
  by_cases c2:x < -N∧y < -N
  ·exact .inl ⟨Aff.lc 1 (Aff.dot a b) 0 (Aff.dot a b) (N + 1),by rw [ev_lc,ev_dot,da];omega,by rw [ev_lc,ev_dot,db];omega,by rw [ev_lc,ev_dot,hx];omega,by rw [ev_lc,ev_dot,hy];omega⟩
  by_cases c3:-N≤x∧x≤0
  ·exact .inr (.inl ⟨-x,N + x,by omega,by omega,by omega,fun f=>by rw [show -x + (N + x)=N by omega,mq f]⟩)
  by_cases c4:-N≤y∧y≤0
  ·exact .inr (.inr (.inl ⟨-y,N + y,by omega,by omega,by omega,fun f=>by rw [show -y + (N + y)=N by omega,mr f]⟩))
  have hN0:N≠0:=by omega
  rcases (show (0 < x∧y < -N)∨(x < -N∧0 < y) by omega) with ⟨c5,c6⟩|⟨c5,c6⟩
  ·refine .inr (.inr (.inr (.inr (.inl ⟨-y,x,by omega,by omega,by omega,fun f=>?_⟩))))
   have e1:=mq f
   have e2:=mr f
   refine Int.eq_of_mul_eq_mul_left hN0 ?_
   have:N * (-y * f.ev q + x * f.ev r)=-y * (N * f.ev q) + x * (N * f.ev r):=by grind
   rw [this,e1,e2];grind
  ·refine .inr (.inr (.inr (.inr (.inl ⟨y,-x,by omega,by omega,by omega,fun f=>?_⟩))))
   have e1:=mq f
   have e2:=mr f
   refine Int.eq_of_mul_eq_mul_left hN0 ?_
   have:N * (y * f.ev q + -x * f.ev r)=y * (N * f.ev q) + -x * (N * f.ev r):=by grind
   rw [this,e1,e2];grind
theorem Part.off1 {a b q r:Pt} (h:Part a b q r):Off q a b:=let ⟨f,fa,fb,fq,_⟩:=h;⟨Aff.lc 2 f 0 f (-1),by rw [ev_lc];omega,by rw [ev_lc];omega,by rw [ev_lc];omega⟩
theorem Part.off2 {a b q r:Pt} (h:Part a b q r):Off r a b:=let ⟨f,fa,fb,_,fr⟩:=h;⟨Aff.lc 2 f 0 f (-1),by rw [ev_lc];omega,by rw [ev_lc];omega,by rw [ev_lc];omega⟩
theorem off_turn {a b p:Pt} (h:turnZ a b p≠0):Off p a b:=by
 have ta:turnZ a b a=0:=by unfold turnZ;grind
 have tb:turnZ a b b=0:=by unfold turnZ;grind
 rcases (show turnZ a b p < 0∨0 < turnZ a b p by omega) with g|g
 ·exact ⟨Aff.lc 2 (Aff.turn a b) 0 (Aff.turn a b) 1,by rw [ev_lc,ev_turn,ta];omega,by rw [ev_lc,ev_turn,tb];omega,by rw [ev_lc,ev_turn];omega⟩
 ·exact ⟨Aff.lc (-2) (Aff.turn a b) 0 (Aff.turn a b) 1,by rw [ev_lc,ev_turn,ta];omega,by rw [ev_lc,ev_turn,tb];omega,by rw [ev_lc,ev_turn];omega⟩
theorem bends_turn {a b z:Pt} (h:turnZ a b z≠0):Bends a b z∧Bends z b a:=by
 have e:turnZ z b a=- turnZ a b z:=by unfold turnZ;grind
 refine ⟨⟨?_,.inl h⟩,⟨?_,.inl (by omega)⟩⟩
 ·rintro rfl;apply h;unfold turnZ;grind
 ·rintro rfl;apply h;unfold turnZ;grind
theorem simple_of {P:Poly} (h3:3≤P.n) (ht:∀ j,j < P.n→turnZ (P.v j) (P.v (j + 1)) (P.v (j + 2))≠0)
  (ha:∀ i k,i + 2≤k→k < P.n→¬ (i=0∧k + 1=P.n)→Part (P.v i) (P.v (i + 1)) (P.v k) (P.v (k + 1))):SimpleP P:=by
 have pm:∀ j i,P.v (j + i)=P.v (j % P.n + i):=fun j i=>(P.per_add j i).symm
 have ht':∀ j,turnZ (P.v j) (P.v (j + 1)) (P.v (j + 2))≠0:=fun j=>by
  have:=ht (j % P.n) (Nat.mod_lt _ (by omega))
  rwa [P.per_mod,P.per_add,P.per_add] at this
 have hap:∀ j d,2≤d→d + 2≤P.n→Part (P.v j) (P.v (j + 1)) (P.v (j + d)) (P.v (j + d + 1)):=by
  intro j d h1 h2
  have hr:j % P.n < P.n:=Nat.mod_lt _ (by omega)
  rw [show P.v j=P.v (j % P.n) from (P.per_mod j).symm,pm j 1,pm j d,show j + d + 1=j + (d + 1) by omega,pm j (d + 1)]
  generalize j % P.n=i at *
  rcases (show i + d < P.n∨P.n≤i + d by omega) with g|g
  ·exact ha i (i + d) (by omega) g (by omega)
  ·have:=ha (i + d - P.n) i (by omega) hr (by omega)
   rw [show i + d=i + d - P.n + P.n by omega,P.per,show i + (d + 1)=i + d - P.n + 1 + P.n by omega,P.per]
   exact this.symm
 refine ⟨h3,fun j d h1 h2=>?_,hap,fun k=>bends_turn (ht' k)⟩
 rcases (show d + 2≤P.n∨(d + 1=P.n∧4≤P.n)∨(d=2∧P.n=3) by omega) with g|⟨g,g4⟩|⟨g,g3⟩
 ·exact (hap j d h1 g).off1
 ·have:=hap j (d - 1) (by omega) (by omega)
  rw [show j + (d - 1) + 1=j + d by omega] at this
  exact this.off2
 ·subst g;exact off_turn (ht' j)
def roomP (xs:List Pt):Poly:=⟨xs.length,fun j=>pCy xs j,fun j=>by show xs.getD ((j + xs.length) % xs.length) _=_;rw [Nat.add_mod_right]⟩
theorem sgn_opp {m n:Int}:sgn m * sgn n < 0↔(m < 0∧0 < n)∨(n < 0∧0 < m):=by
 rcases sgn_cases m with ⟨h,e⟩|⟨h,e⟩|⟨h,e⟩ <;> rcases sgn_cases n with ⟨h',e'⟩|⟨h',e'⟩|⟨h',e'⟩ <;> rw [e,e'] <;> omega
theorem mean_between {s t p a b:Int} (hs:0≤s) (ht:0≤t) (h0:0 < s + t) (e:(s + t) * p=s * a + t * b):min a b≤p∧p≤max a b:=by
 constructor
 ·rcases (show min a b≤p∨p < min a b by omega) with g|g
  ·exact g
  ·exfalso
   have g1:=nn0 hs (show 0≤a - p - 1 by omega)
   have g2:=nn0 ht (show 0≤b - p - 1 by omega)
   rw [Int.mul_sub,Int.mul_sub,Int.mul_one] at g1 g2
   rw [Int.add_mul] at e
   omega
 ·rcases (show p≤max a b∨max a b < p by omega) with g|g
  ·exact g
  ·exfalso
   have g1:=nn0 hs (show 0≤p - a - 1 by omega)
   have g2:=nn0 ht (show 0≤p - b - 1 by omega)
   rw [Int.mul_sub,Int.mul_sub,Int.mul_one] at g1 g2
   rw [Int.add_mul] at e
   omega
theorem OnM.onS {p a b:Pt} (ha:Bd a) (hb:Bd b) (hp:Bd p) (h:OnM p a b):onS p a b=true:=by
 obtain ⟨s,t,hs,ht,h0,h⟩:=h
 have e:=OnM.turns h a b
 have taa:turnZ a b a=0:=by unfold turnZ;grind
 have tbb:turnZ a b b=0:=by unfold turnZ;grind
 rw [taa,tbb,Int.mul_zero,Int.mul_zero] at e
 have e0:turnZ a b p=0:=by rcases Int.mul_eq_zero.1 e with g|g <;> omega
 have e1:=h ⟨1,0,0⟩
 have e2:=h ⟨0,1,0⟩
 simp only [Aff.ev,Int.one_mul,Int.zero_mul,Int.zero_add,Int.add_zero] at e1 e2
 have b1:=mean_between hs ht h0 e1
 have b2:=mean_between hs ht h0 e2
 unfold Proofs.YtpafacebfogkmaaGreat.onS
 rw [turn_exact ha hb hp,e0]
 simp only [decide_true,Bool.true_and,Bool.and_eq_true,btw_iff]
 exact ⟨b1,b2⟩
theorem onS_OnM {p a b:Pt} (ha:Bd a) (hb:Bd b) (hp:Bd p) (h:onS p a b=true):OnM p a b:=by
 unfold Proofs.YtpafacebfogkmaaGreat.onS at h
 rw [turn_exact ha hb hp] at h
 simp only [Bool.and_eq_true,decide_eq_true_eq,btw_iff] at h
 obtain ⟨h0,⟨h1,h2⟩,h3,h4⟩:=h
 by_cases hab:a=b
 ·subst hab
  have e:p=a:=Prod.ext (by omega) (by omega)
  subst e
  exact ⟨1,0,by omega,by omega,by omega,fun f=>by omega⟩
 ·have hN:=sq_pos hab
  have m:=line_mean h0
  have x1:dotZ a b p≤0:=by
   unfold dotZ
   have g1:(b.1 - a.1) * (p.1 - b.1)≤0:=by
    rcases (show a.1≤b.1∨b.1≤a.1 by omega) with g|g
    ·exact pm0 (by omega) (by omega)
    ·exact mp0 (by omega) (by omega)
   have g2:(b.2 - a.2) * (p.2 - b.2)≤0:=by
    rcases (show a.2≤b.2∨b.2≤a.2 by omega) with g|g
    ·exact pm0 (by omega) (by omega)
    ·exact mp0 (by omega) (by omega)
   omega
  have x2:0≤((b.1 - a.1) * (b.1 - a.1) + (b.2 - a.2) * (b.2 - a.2)) + dotZ a b p:=by
   have e:((b.1 - a.1) * (b.1 - a.1) + (b.2 - a.2) * (b.2 - a.2)) + dotZ a b p=(b.1 - a.1) * (p.1 - a.1) + (b.2 - a.2) * (p.2 - a.2):=by unfold dotZ;grind
   rw [e]
   have g1:0≤(b.1 - a.1) * (p.1 - a.1):=by
    rcases (show a.1≤b.1∨b.1≤a.1 by omega) with g|g
    ·exact nn0 (by omega) (by omega)
    ·exact mm0 (by omega) (by omega)
   have g2:0≤(b.2 - a.2) * (p.2 - a.2):=by
    rcases (show a.2≤b.2∨b.2≤a.2 by omega) with g|g
    ·exact nn0 (by omega) (by omega)
    ·exact mm0 (by omega) (by omega)
   omega
  refine ⟨-(dotZ a b p),((b.1 - a.1) * (b.1 - a.1) + (b.2 - a.2) * (b.2 - a.2)) + dotZ a b p,by omega,x2,by omega,fun f=>?_⟩
  rw [← m f]
  congr 1
  omega
theorem meet_part {v w:Pt × Pt} (hv:wallOk v=true) (hw:wallOk w=true) (h:meet v w=false):Part v.1 v.2 w.1 w.2:=by
 have pv:=hv
 have pw:=hw
 unfold wallOk at pv pw
 simp only [Bool.and_eq_true,Bool.not_eq_true',decide_eq_false_iff_not] at pv pw
 have b1:=bd_of_ok pv.1
 have b2:=bd_of_ok pv.2.1
 have b3:=bd_of_ok pw.1
 have b4:=bd_of_ok pw.2.1
 unfold meet at h
 rw [hv,hw] at h
 simp only [Bool.true_and,Bool.or_eq_false_iff] at h
 obtain ⟨h1,h2,h3,h4,h5⟩:=h
 rcases part_or_on (q:=w.1) (r:=w.2) pv.2.2 pw.2.2 with g|g|g|g|g|⟨g1,g2⟩
 ·exact g
 ·rw [g.onS b1 b2 b3] at h4;exact absurd h4 (by decide)
 ·rw [g.onS b1 b2 b4] at h5;exact absurd h5 (by decide)
 ·rw [g.onS b3 b4 b1] at h2;exact absurd h2 (by decide)
 ·rw [g.onS b3 b4 b2] at h3;exact absurd h3 (by decide)
 ·exfalso
  unfold crs at h1
  rw [turn_exact b3 b4 b1,turn_exact b3 b4 b2,turn_exact b1 b2 b3,turn_exact b1 b2 b4,decide_eq_true (sgn_opp.2 g1),decide_eq_true (sgn_opp.2 g2)] at h1
  exact absurd h1 (by decide)
theorem room_simple {xs:List Pt} (h:roomOk xs=true):SimpleP (roomP xs):=by
 obtain ⟨⟨h3,h10⟩,hp,hok,_⟩:=roomOk_iff.1 h
 have hb:=bd_of_room h
 have vj:∀ j,j < xs.length→(roomP xs).v j=pAt xs j:=fun j hj=>pCy_lt hj
 refine simple_of h3 (fun j hj=>?_) (fun i k hik hk hne=>?_)
 ·have hj:j < xs.length:=hj
  have:=(okAt_iff.1 (hok j hj)).1
  rw [turn_exact (pAt_bd hb hj) (pCy_bd hb (by omega)) (pCy_bd hb (by omega))] at this
  rw [vj j hj];exact this
 ·have hk:k < xs.length:=hk
  have hne:¬ (i=0∧k + 1=xs.length):=hne
  have hi:i < xs.length:=by omega
  have hm:=(okAt_half.1 hok i hi).2 k hik hk (by
   rcases (show k + 1 < xs.length∨k + 1=xs.length by omega) with g|g
   ·rw [Nat.mod_eq_of_lt g];omega
   ·rw [g,Nat.mod_self];omega)
  have:=meet_part (room_wallOk h hi) (room_wallOk h hk) hm
  rw [vj i hi,vj k hk]
  exact this
theorem mul_bd {x y:Int} (h1:-40≤x∧x≤40) (h2:-40≤y∧y≤40):-1600≤x * y∧x * y≤1600:=by
 have a1:=nn0 (show 0≤40 - x by omega) (show 0≤40 - y by omega)
 have a2:=nn0 (show 0≤40 + x by omega) (show 0≤40 + y by omega)
 have a3:=nn0 (show 0≤40 - x by omega) (show 0≤40 + y by omega)
 have a4:=nn0 (show 0≤40 + x by omega) (show 0≤40 - y by omega)
 have e1:(40 - x) * (40 - y)=1600 - 40 * x - 40 * y + x * y:=by grind
 have e2:(40 + x) * (40 + y)=1600 + 40 * x + 40 * y + x * y:=by grind
 have e3:(40 - x) * (40 + y)=1600 - 40 * x + 40 * y - x * y:=by grind
 have e4:(40 + x) * (40 - y)=1600 + 40 * x - 40 * y - x * y:=by grind
 omega
theorem room_dbl {xs:List Pt} (h:∀ q∈xs,-40≤q.1∧q.1≤40∧-40≤q.2∧q.2≤40) (hn:0 < xs.length):∀ k,k≤xs.length→dblTo xs k=sumN (fun k=>crs0 ((roomP xs).v k) ((roomP xs).v (k + 1))) k∧-(3200 * (k:Int))≤dblTo xs k∧dblTo xs k≤3200 * (k:Int):=by
 intro k
 induction k with
 | zero=>intro _;exact ⟨rfl,by show _≤(0:Int);omega,by show (0:Int)≤_;omega⟩
 | succ k ih=>
  intro hk
  obtain ⟨e,l,u⟩:=ih (by omega)
  have gp:∀ j,j < xs.length→-40≤(pAt xs j).1∧(pAt xs j).1≤40∧-40≤(pAt xs j).2∧(pAt xs j).2≤40:=fun j hj=>h _ (by rw [show pAt xs j=xs[j] from getD_lt _ hj];exact List.getElem_mem hj)
  have g1:=gp k (by omega)
  have g2:-40≤(pCy xs (k + 1)).1∧(pCy xs (k + 1)).1≤40∧-40≤(pCy xs (k + 1)).2∧(pCy xs (k + 1)).2≤40:=gp ((k + 1) % xs.length) (Nat.mod_lt _ hn)
  have m1:=mul_bd ⟨g1.1,g1.2.1⟩ ⟨g2.2.2.1,g2.2.2.2⟩
  have m2:=mul_bd ⟨g1.2.2.1,g1.2.2.2⟩ ⟨g2.1,g2.2.1⟩
  have ec:cr (pAt xs k) (pCy xs (k + 1))=crs0 ((roomP xs).v k) ((roomP xs).v (k + 1)):=by
   rw [show (roomP xs).v k=pAt xs k from pCy_lt (by omega)];rfl
  refine ⟨by show dblTo xs k + _=sumN _ k + _;rw [e,ec],?_,?_⟩
  ·show _≤dblTo xs k + cr _ _
   unfold cr;omega
  ·show dblTo xs k + cr _ _≤_
   unfold cr;omega
theorem room_area {xs:List Pt} (h:roomOk xs=true):dbl xs=(roomP xs).area∧0 < (roomP xs).area∧(roomP xs).area≤32000:=by
 obtain ⟨⟨h3,h10⟩,hp,hok,ha⟩:=roomOk_iff.1 h
 obtain ⟨e,l,u⟩:=room_dbl (pt_of_room h) (by omega) xs.length (by omega)
 have e:dbl xs=(roomP xs).area:=e
 have l:-(3200 * (xs.length:Int))≤dbl xs:=l
 have u:dbl xs≤3200 * (xs.length:Int):=u
 rw [W_in (by omega) (by omega)] at ha
 exact ⟨e,by omega,by omega⟩
def outd (u v w:Pt):Pt:=if 0 < turnZ u v w then psub (psub v u) (psub w v) else psub (psub w v) (psub v u)
theorem outd_right {u v w:Pt} (h:turnZ u v w≠0):turnZ u v (padd u (outd u v w)) < 0∧turnZ v w (padd v (outd u v w)) < 0:=by
 unfold outd
 split
 ·have e1:turnZ u v (padd u (psub (psub v u) (psub w v)))=- turnZ u v w:=by unfold turnZ padd psub;grind
  have e2:turnZ v w (padd v (psub (psub v u) (psub w v)))=- turnZ u v w:=by unfold turnZ padd psub;grind
  omega
 ·have e1:turnZ u v (padd u (psub (psub w v) (psub v u)))=turnZ u v w:=by unfold turnZ padd psub;grind
  have e2:turnZ v w (padd v (psub (psub w v) (psub v u)))=turnZ u v w:=by unfold turnZ padd psub;grind
  omega
def qpt (P:Poly) (K:Int) (j:Nat):Pt:=padd (smul K (P.v (j + 1))) (outd (P.v j) (P.v (j + 1)) (P.v (j + 2)))
theorem far_part {a b p p':Pt} {f:Aff} (fa:0 < f.ev a) (fb:0 < f.ev b) (fp:f.ev p < 0) (fp':f.ev p' < 0) (d d':Pt):Late fun K=>Part (smul K a) (smul K b) (padd (smul K p) d) (padd (smul K p') d'):=by
 refine ⟨max (f.lin d) (f.lin d'),fun K hK h0=>⟨f.sc K,by rw [ev_sc0];exact pp h0 fa,by rw [ev_sc0];exact pp h0 fb,?_,?_⟩⟩
 ·rw [ev_sc]
  have:K * f.ev p≤K * (-1):=Int.mul_le_mul_of_nonneg_left (by omega) (by omega)
  omega
 ·rw [ev_sc]
  have:K * f.ev p'≤K * (-1):=Int.mul_le_mul_of_nonneg_left (by omega) (by omega)
  omega
theorem turn_cyc (a b c:Pt):turnZ b c a=turnZ a b c:=by unfold turnZ;grind
theorem side_part {a b x y q r:Pt} (hx:0≤turnZ a b x) (hy:0≤turnZ a b y) (hq:turnZ a b q < 0) (hr:turnZ a b r < 0):Part x y q r:=
 ⟨Aff.lc 1 (Aff.turn a b) 0 (Aff.turn a b) 1,by rw [ev_lc,ev_turn];omega,by rw [ev_lc,ev_turn];omega,by rw [ev_lc,ev_turn];omega,by rw [ev_lc,ev_turn];omega⟩
theorem late_neg {t c:Int} (h:t < 0):Late fun K=>K * (K * t + c) < 0:=by
 refine ⟨c + 1,fun K hK h0=>pm h0 ?_⟩
 have:K * t≤K * (-1):=Int.mul_le_mul_of_nonneg_left (by omega) (by omega)
 omega
theorem link_at {P:Poly} (h:SimpleP P) (hb:∀ j,turnZ (P.v j) (P.v (j + 1)) (P.v (j + 2))≠0) (j d:Nat) (hd:d < P.n) :
  Late fun K=>Part (smul K (P.v (j + 1 + d))) (smul K (P.v (j + 1 + d + 1))) (qpt P K j) (qpt P K (j + 1)):=by
 have h3:=h.n3
 obtain ⟨r1,r2⟩:=outd_right (hb j)
 obtain ⟨r3,r4⟩:=outd_right (hb (j + 1))
 have r3:turnZ (P.v (j + 1)) (P.v (j + 2)) (padd (P.v (j + 1)) (outd (P.v (j + 1)) (P.v (j + 2)) (P.v (j + 3)))) < 0:=r3
 have r4:turnZ (P.v (j + 2)) (P.v (j + 3)) (padd (P.v (j + 2)) (outd (P.v (j + 1)) (P.v (j + 2)) (P.v (j + 3)))) < 0:=r4
 have hb1:turnZ (P.v (j + 1)) (P.v (j + 2)) (P.v (j + 3))≠0:=hb (j + 1)
 have z:∀ a b:Pt,turnZ a b a=0∧turnZ a b b=0:=fun a b=>by unfold turnZ;grind
 have own:∀ K:Int,0 < K→turnZ (smul K (P.v (j + 1))) (smul K (P.v (j + 2))) (qpt P K j) < 0∧turnZ (smul K (P.v (j + 1))) (smul K (P.v (j + 2))) (qpt P K (j + 1)) < 0:=fun K hK=>by
  unfold qpt
  rw [turn_sc,turn_sc,(z _ _).1,show j + 1 + 1=j + 2 from rfl,show j + 1 + 2=j + 3 from rfl,(z _ _).2,Int.mul_zero,Int.zero_add,Int.zero_add]
  exact ⟨pm hK r2,pm hK r3⟩
 rcases (show d=0∨d=1∨d=P.n - 1∨(2≤d∧d + 2≤P.n) by omega) with rfl|rfl|e|⟨d1,d2⟩
 ·refine Late.of fun K hK=>?_
  obtain ⟨o1,o2⟩:=own K hK
  show Part (smul K (P.v (j + 1))) (smul K (P.v (j + 2))) _ _
  exact side_part (by rw [(z _ _).1];omega) (by rw [(z _ _).2];omega) o1 o2
 ·show Late fun K=>Part (smul K (P.v (j + 2))) (smul K (P.v (j + 3))) _ _
  rcases (show 0 < turnZ (P.v (j + 1)) (P.v (j + 2)) (P.v (j + 3))∨turnZ (P.v (j + 1)) (P.v (j + 2)) (P.v (j + 3)) < 0 by omega) with g|g
  ·refine Late.of fun K hK=>?_
   obtain ⟨o1,o2⟩:=own K hK
   exact side_part (by rw [(z _ _).2];omega) (by rw [turn_sc0];have:=pp hK g;have:=pp hK this;omega) o1 o2
  ·refine (late_neg (t:=turnZ (P.v (j + 2)) (P.v (j + 3)) (P.v (j + 1))) (c:=turnZ (P.v (j + 2)) (P.v (j + 3)) (padd (P.v (j + 2)) (outd (P.v j) (P.v (j + 1)) (P.v (j + 2))))) (by rw [turn_cyc];exact g)).imp fun K hK hl=>?_
   refine side_part (a:=smul K (P.v (j + 2))) (b:=smul K (P.v (j + 3))) (by rw [(z _ _).1];omega) (by rw [(z _ _).2];omega) ?_ ?_
   ·unfold qpt;rw [turn_sc];exact hl
   ·unfold qpt
    rw [turn_sc,show j + 1 + 1=j + 2 from rfl,show j + 1 + 2=j + 3 from rfl,(z _ _).1,Int.mul_zero,Int.zero_add]
    exact pm hK r4
 ·subst e
  have e1:P.v (j + 1 + (P.n - 1))=P.v j:=by rw [show j + 1 + (P.n - 1)=j + P.n by omega,P.per]
  have e2:P.v (j + 1 + (P.n - 1) + 1)=P.v (j + 1):=by rw [show j + 1 + (P.n - 1) + 1=j + 1 + P.n by omega,P.per]
  rw [e1,e2]
  rcases (show 0 < turnZ (P.v j) (P.v (j + 1)) (P.v (j + 2))∨turnZ (P.v j) (P.v (j + 1)) (P.v (j + 2)) < 0 by have:=hb j;omega) with g|g
  ·refine Late.of fun K hK=>?_
   obtain ⟨o1,o2⟩:=own K hK
   exact side_part (by rw [turn_sc0,turn_cyc];have:=pp hK g;have:=pp hK this;omega) (by rw [(z _ _).1];omega) o1 o2
  ·refine (late_neg (t:=turnZ (P.v j) (P.v (j + 1)) (P.v (j + 2))) (c:=turnZ (P.v j) (P.v (j + 1)) (padd (P.v j) (outd (P.v (j + 1)) (P.v (j + 2)) (P.v (j + 3))))) g).imp fun K hK hl=>?_
   refine side_part (a:=smul K (P.v j)) (b:=smul K (P.v (j + 1))) (by rw [(z _ _).1];omega) (by rw [(z _ _).2];omega) ?_ ?_
   ·unfold qpt
    rw [turn_sc,(z _ _).2,Int.mul_zero,Int.zero_add]
    exact pm hK r1
   ·unfold qpt;rw [turn_sc];exact hl
 ·obtain ⟨f,fa,fb,fq,fr⟩:=(h.apart (j + 1) d d1 d2).symm
  exact far_part (f:=Aff.lc 2 f 0 f (-1)) (by rw [ev_lc];omega) (by rw [ev_lc];omega) (by rw [ev_lc];omega) (by rw [ev_lc];omega) _ _
theorem qpt_mod (P:Poly) (K:Int) (j i:Nat):qpt P K (j % P.n + i)=qpt P K (j + i):=by
 unfold qpt
 rw [Nat.add_assoc,Nat.add_assoc,Nat.add_assoc,Nat.add_assoc,P.per_add,P.per_add,P.per_add]
theorem links {P:Poly} (h:SimpleP P) (hb:∀ j,turnZ (P.v j) (P.v (j + 1)) (P.v (j + 2))≠0):Late fun K=>∀ j k,k < P.n→Part (smul K (P.v k)) (smul K (P.v (k + 1))) (qpt P K j) (qpt P K (j + 1)):=by
 have h3:=h.n3
 have:Late fun K=>∀ j,j < P.n→∀ d,d < P.n→Part (smul K (P.v (j + 1 + d))) (smul K (P.v (j + 1 + d + 1))) (qpt P K j) (qpt P K (j + 1)):=Late.all fun j _=>Late.all fun d hd=>link_at h hb j d hd
 refine this.imp fun K _ H j k hk=>?_
 have hr:j % P.n < P.n:=Nat.mod_lt _ (by omega)
 have e0:qpt P K (j % P.n)=qpt P K j:=qpt_mod P K j 0
 have e1:qpt P K (j % P.n + 1)=qpt P K (j + 1):=qpt_mod P K j 1
 rw [← e0,← e1]
 generalize j % P.n=i at *
 rcases (show i + 1≤k∨k < i + 1 by omega) with g|g
 ·have:=H i hr (k - (i + 1)) (by omega)
  rwa [show i + 1 + (k - (i + 1))=k by omega] at this
 ·have:=H i hr (k + P.n - (i + 1)) (by omega)
  rwa [show i + 1 + (k + P.n - (i + 1))=k + P.n by omega,P.per,show k + P.n + 1=k + 1 + P.n by omega,P.per] at this
theorem trace_same {P:Poly} {K:Int} (hl:∀ j k,k < P.n→Part (smul K (P.v k)) (smul K (P.v (k + 1))) (qpt P K j) (qpt P K (j + 1))) (h:Aff) (j:Nat):wnd h (P.sc K).way (qpt P K j)=wnd h (P.sc K).way (qpt P K 0):=by
 induction j with
 | zero=>rfl
 | succ j ih=>rw [← ih];exact (wnd_step h (P.sc K).way fun k hk=>hl j k hk).symm
theorem trace_zero {P:Poly} (hP:SimpleP P) {h:Aff} (hg:Gen h P) (hp:Pos h P) {K:Int} (hK:0 < K) (hl:∀ j k,k < P.n→Part (smul K (P.v k)) (smul K (P.v (k + 1))) (qpt P K j) (qpt P K (j + 1))) (j:Nat):wnd (h.sc K) (P.sc K).way (qpt P K j)=0:=by
 have h3:=hP.n3
 obtain ⟨s,hs,ht⟩:=hp
 rw [trace_same hl,← trace_same hl _ s]
 have ht:0 < turnZ (P.v s) (P.v (s + 1)) (P.v (s + 2)):=ht
 have h0:h.ev (P.v (s + 1)) < h.ev (P.v s):=hs 0 (by omega) (by omega)
 have h2:h.ev (P.v (s + 1)) < h.ev (P.v (s + 2)):=hs 2 (by omega) (by omega)
 refine wnd_below fun k hk=>?_
 have hk:k < P.n:=hk
 have low:h.ev (P.v (s + 1))≤h.ev (P.v k):=by
  have hr:s % P.n < P.n:=Nat.mod_lt _ (by omega)
  obtain ⟨t,ht,e⟩:∃ t,t < P.n∧P.v (s + t)=P.v k:=by
   rcases (show s % P.n≤k∨k < s % P.n by omega) with g|g
   ·exact ⟨k - s % P.n,by omega,by rw [← P.per_add];congr 1;omega⟩
   ·exact ⟨k + P.n - s % P.n,by omega,by rw [← P.per_add,show s % P.n + (k + P.n - s % P.n)=k + P.n by omega,P.per]⟩
  rcases (show t=1∨t≠1 by omega) with rfl|g
  ·rw [← e];omega
  ·have:h.ev (P.v (s + 1)) < h.ev (P.v (s + t)):=hs t ht g
   rw [e] at this;omega
 show (h.sc K).ev (qpt P K s) < (h.sc K).ev (smul K (P.v k))
 unfold qpt
 rw [ev_sc,ev_sc0]
 have hd:h.lin (outd (P.v s) (P.v (s + 1)) (P.v (s + 2))) < 0:=by
  unfold outd
  rw [if_pos ht]
  have:h.lin (psub (psub (P.v (s + 1)) (P.v s)) (psub (P.v (s + 2)) (P.v (s + 1))))=(h.ev (P.v (s + 1)) - h.ev (P.v s)) - (h.ev (P.v (s + 2)) - h.ev (P.v (s + 1))):=by unfold Aff.lin psub Aff.ev;grind
  omega
 have:=Int.mul_le_mul_of_nonneg_left low (show 0≤K by omega)
 omega
def NC (h:Aff):Prop:=h.u≠0∨h.v≠0
theorem sq0 {a:Int} (h:a≠0):0 < a * a:=by
 rcases (show 0 < a∨a < 0 by omega) with g|g
 ·exact pp g g
 ·exact mm g g
theorem sq1 (a:Int):0≤a * a:=by
 rcases (show 0≤a∨a≤0 by omega) with g|g
 ·exact nn0 g g
 ·exact mm0 g g
theorem nc_sq {h:Aff} (hn:NC h):0 < h.u * h.u + h.v * h.v:=by
 rcases hn with g|g
 ·have:=sq0 g;have:=sq1 h.v;omega
 ·have:=sq0 g;have:=sq1 h.u;omega
theorem wnd_any {h1 h2:Aff} (n1:NC h1) (n2:NC h2) {P:Way} {p:Pt} (ho:∀ k,k < P.n→Off p (P.v k) (P.v (k + 1))):wnd h1 P p=wnd h2 P p:=by
 by_cases hd:h1.u * h2.v - h1.v * h2.u=0
 ·have q1:=nc_sq n1
  have q2:=nc_sq n2
  have d1:h1.u * (⟨-h1.v,h1.u,0⟩:Aff).v - h1.v * (⟨-h1.v,h1.u,0⟩:Aff).u≠0:=by
   have:h1.u * (⟨-h1.v,h1.u,0⟩:Aff).v - h1.v * (⟨-h1.v,h1.u,0⟩:Aff).u=h1.u * h1.u + h1.v * h1.v:=by show h1.u * h1.u - h1.v * -h1.v=_;grind
   omega
  have d2:h2.u * (⟨-h1.v,h1.u,0⟩:Aff).v - h2.v * (⟨-h1.v,h1.u,0⟩:Aff).u≠0:=by
   intro e
   have e:h2.u * h1.u - h2.v * -h1.v=0:=e
   have e':h2.u * h1.u + h2.v * h1.v=0:=by rw [Int.mul_neg] at e;omega
   have:(h1.u * h1.u + h1.v * h1.v) * (h2.u * h2.u + h2.v * h2.v)=(h2.u * h1.u + h2.v * h1.v) * (h2.u * h1.u + h2.v * h1.v) + (h1.u * h2.v - h1.v * h2.u) * (h1.u * h2.v - h1.v * h2.u):=by grind
   rw [e',hd,Int.mul_zero] at this
   have:=pp q1 q2
   omega
  rw [wnd_two d1 ho,wnd_two d2 ho]
 ·exact wnd_two hd ho
def Outp (P:Poly) (K:Int) (m:Pt):Prop:=(∀ k,k < P.n→Off m (smul K (P.v k)) (smul K (P.v (k + 1))))∧∃ h,NC h∧wnd h (P.sc K).way m=0
def NoOut (P:Poly) (a b:Pt):Prop:=∀ s t:Int,0≤s→0≤t→0 < s + t→¬ Outp P (s + t) (padd (smul s a) (smul t b))
theorem smul2 (K L:Int) (p:Pt):smul K (smul L p)=smul (K * L) p:=by unfold smul;simp [Int.mul_assoc]
theorem wnd_scale (h:Aff) (P:Poly) {L:Int} (hL:0 < L) (K:Int) (p:Pt):wnd (h.sc L) (P.sc (L * K)).way (smul L p)=wnd h (P.sc K).way p:=sumN_congr fun k _=>by
 show crN (h.sc L) (smul L p) (smul (L * K) (P.v k)) (smul (L * K) (P.v (k + 1)))=crN h p (smul K (P.v k)) (smul K (P.v (k + 1)))
 rw [← smul2,← smul2]
 exact crN_sc h hL _ _ _
theorem Part.mean {a b q r:Pt} (h:Part a b q r) {s t s' t':Int} (hs:0≤s) (ht:0≤t) (hs':0≤s') (ht':0≤t') {L:Int} (hL:0 < L) (e:s + t=L) (e':s' + t'=L):Part (smul L a) (smul L b) (padd (smul s q) (smul t r)) (padd (smul s' q) (smul t' r)):=by
 obtain ⟨f,fa,fb,fq,fr⟩:=h
 have ev:∀ x y:Int,x + y=L→(f.sc L).ev (padd (smul x q) (smul y r))=x * f.ev q + y * f.ev r:=fun x y exy=>by subst exy;unfold Aff.ev Aff.sc padd smul;grind
 refine ⟨f.sc L,by rw [ev_sc0];exact pp hL fa,by rw [ev_sc0];exact pp hL fb,?_,?_⟩
 ·rw [ev s t e];have:=pm0 hs fq;have:=pm0 ht fr;omega
 ·rw [ev s' t' e'];have:=pm0 hs' fq;have:=pm0 ht' fr;omega
theorem link_part {P:Poly} {K:Int} (hK:0 < K) {q r a b:Pt} (hqr:q≠r) {h:Aff} (hn:NC h) (hl:∀ k,k < P.n→Part (smul K (P.v k)) (smul K (P.v (k + 1))) q r) (h0:wnd h (P.sc K).way q=0) (hno:NoOut P a b):Part (smul K a) (smul K b) q r:=by
 rcases part_or_meet (smul K a) (smul K b) hqr with g|⟨s,t,s',t',hs,ht,hs',ht',hst,hst',g⟩
 ·exact g.symm
 ·exfalso
  have hm:padd (smul s q) (smul t r)=padd (smul (s' * K) a) (smul (t' * K) b):=by
   have g1:=g ⟨1,0,0⟩
   have g2:=g ⟨0,1,0⟩
   simp only [Aff.ev,smul,Int.one_mul,Int.zero_mul,Int.zero_add,Int.add_zero] at g1 g2
   unfold padd smul
   refine Prod.ext ?_ ?_
   ·show s * q.1 + t * r.1=s' * K * a.1 + t' * K * b.1
    rw [g1,Int.mul_assoc,Int.mul_assoc]
   ·show s * q.2 + t * r.2=s' * K * a.2 + t' * K * b.2
    rw [g2,Int.mul_assoc,Int.mul_assoc]
  have eL:s' * K + t' * K=(s + t) * K:=by rw [hst',Int.add_mul]
  refine hno (s' * K) (t' * K) (nn0 hs' (by omega)) (nn0 ht' (by omega)) (by rw [eL];exact pp hst hK) ?_
  rw [← hm,eL]
  have pw:∀ k,k < P.n→Part (smul ((s + t) * K) (P.v k)) (smul ((s + t) * K) (P.v (k + 1))) (padd (smul s q) (smul t r)) (smul (s + t) q):=fun k hk=>by
   have:=(hl k hk).mean hs ht (show 0≤s + t by omega) (Int.le_refl 0) hst rfl (Int.add_zero _)
   rw [smul2,smul2] at this
   have e0:padd (smul (s + t) q) (smul 0 r)=smul (s + t) q:=by unfold padd smul;simp
   rwa [e0] at this
  refine ⟨fun k hk=>(pw k hk).off1,h.sc (s + t),hn,?_⟩
  rw [wnd_step (h.sc (s + t)) (P.sc ((s + t) * K)).way (q:=padd (smul s q) (smul t r)) (r:=smul (s + t) q) pw,wnd_scale h P hst,h0]
theorem late_ne {x y c c':Int} (h:x≠y):Late fun K=>K * x + c≠K * y + c':=by
 refine ⟨c - c' + c' - c + 1 + (if c≤c' then c' - c else c - c'),fun K hK h0 e=>?_⟩
 rcases (show x + 1≤y∨y + 1≤x by omega) with g|g
 ·have:=Int.mul_le_mul_of_nonneg_left g (show 0≤K by omega)
  rw [Int.mul_add,Int.mul_one] at this
  split at hK <;> omega
 ·have:=Int.mul_le_mul_of_nonneg_left g (show 0≤K by omega)
  rw [Int.mul_add,Int.mul_one] at this
  split at hK <;> omega
theorem sumN_le {f g:Nat→Int}:∀ {n:Nat},(∀ k,k < n→f k≤g k)→sumN f n≤sumN g n
 | 0,_=>Int.le_refl _
 | n + 1,h=>by
  have h1:=sumN_le (n:=n) fun k hk=>h k (by omega)
  have h2:=h n (by omega)
  simp only [sumN];omega
theorem lev_not_off {h:Aff} {p a b:Pt} (ht:turnZ a b p=0) (h1:h.ev a≤h.ev p) (h2:h.ev p < h.ev b):¬ Off p a b:=by
 rintro ⟨f,fa,fb,fp⟩
 have e:(h.ev b - h.ev a) * f.ev p=(h.ev b - h.ev p) * f.ev a + (h.ev p - h.ev a) * f.ev b + turnZ a b p * (h.u * f.v - h.v * f.u) ∨
   (h.ev b - h.ev a) * f.ev p=(h.ev b - h.ev p) * f.ev a + (h.ev p - h.ev a) * f.ev b - turnZ a b p * (h.u * f.v - h.v * f.u):=by
  unfold turnZ Aff.ev;grind
 rw [ht,Int.zero_mul] at e
 have g1:=pm (show 0 < h.ev b - h.ev a by omega) fp
 have g2:=pp (show 0 < h.ev b - h.ev p by omega) fa
 have g3:=nn0 (show 0≤h.ev p - h.ev a by omega) (show 0≤f.ev b by omega)
 omega
theorem star_wall {p q a b:Pt} (hk:0≤turnZ a b p) {s t L:Int} (hs:0≤s) (ht:0≤t) (e:s + t=L) (hL:0 < L) (ho:Off (padd (smul s p) (smul t q)) (smul L a) (smul L b)) :
  crN (Aff.turn p q) q a b≤crN ((Aff.turn p q).sc L) (padd (smul s p) (smul t q)) (smul L a) (smul L b):=by
 have l1:(Aff.turn p q).ev q=0:=by rw [ev_turn];unfold turnZ;grind
 have l2:((Aff.turn p q).sc L).ev (padd (smul s p) (smul t q))=0:=by subst e;unfold Aff.turn Aff.ev Aff.sc padd smul;grind
 have la:((Aff.turn p q).sc L).ev (smul L a)=L * (Aff.turn p q).ev a:=ev_sc0 _ _ _
 have lb:((Aff.turn p q).sc L).ev (smul L b)=L * (Aff.turn p q).ev b:=ev_sc0 _ _ _
 have tm:turnZ (smul L a) (smul L b) (padd (smul s p) (smul t q))=L * (s * turnZ a b p + t * turnZ a b q):=by subst e;unfold turnZ padd smul;grind
 have td:turnZ a b q - turnZ a b p=(Aff.turn p q).ev a - (Aff.turn p q).ev b:=by rw [ev_turn,ev_turn];unfold turnZ;grind
 have np:=nn0 hs hk
 have A1:(Aff.turn p q).ev a≤0→L * (Aff.turn p q).ev a≤0:=fun g=>pm0 (by omega) g
 have A2:0 < L * (Aff.turn p q).ev a→0 < (Aff.turn p q).ev a:=fun g=>by
  rcases (show 0 < (Aff.turn p q).ev a∨(Aff.turn p q).ev a≤0 by omega) with k|k
  ·exact k
  ·have:=A1 k;omega
 have B1:0 < (Aff.turn p q).ev b→0 < L * (Aff.turn p q).ev b:=fun g=>pp hL g
 have B2:L * (Aff.turn p q).ev b≤0→(Aff.turn p q).ev b≤0:=fun g=>by
  rcases (show (Aff.turn p q).ev b≤0∨0 < (Aff.turn p q).ev b by omega) with k|k
  ·exact k
  ·have:=B1 k;omega
 unfold crN
 rw [l1,l2,la,lb,tm]
 by_cases c1:(Aff.turn p q).ev a≤0∧0 < (Aff.turn p q).ev b∧0 < turnZ a b q
 ·obtain ⟨g1,g2,g3⟩:=c1
  have nq:=nn0 ht (show 0≤turnZ a b q by omega)
  have:0 < L * (s * turnZ a b p + t * turnZ a b q):=by
   rcases (show 0 < s * turnZ a b p + t * turnZ a b q∨s * turnZ a b p + t * turnZ a b q=0 by omega) with k|k
   ·exact pp hL k
   ·exfalso
    refine lev_not_off (h:=(Aff.turn p q).sc L) ?_ ?_ ?_ ho
    ·rw [tm,k,Int.mul_zero]
    ·rw [l2,la];exact A1 g1
    ·rw [l2,lb];exact B1 g2
  rw [if_pos ⟨g1,g2,g3⟩,if_pos ⟨A1 g1,B1 g2,this⟩]
  omega
 ·rw [if_neg c1]
  by_cases c2:L * (Aff.turn p q).ev b≤0∧0 < L * (Aff.turn p q).ev a∧L * (s * turnZ a b p + t * turnZ a b q) < 0
  ·exfalso
   obtain ⟨g1,g2,g3⟩:=c2
   have k1:=B2 g1
   have k2:=A2 g2
   have nq:=nn0 ht (show 0≤turnZ a b q by omega)
   have:=nn0 (show 0≤L by omega) (show 0≤s * turnZ a b p + t * turnZ a b q by omega)
   omega
  ·repeat' split
   all_goals omega
theorem star_core {P:Poly} {K:Int} {p q:Pt} (hk:∀ k,k < P.n→0≤turnZ (smul K (P.v k)) (smul K (P.v (k + 1))) p) {s t:Int} (hs:0≤s) (ht:0≤t) (hst:0 < s + t)
  (hoff:∀ k,k < P.n→Off (padd (smul s p) (smul t q)) (smul ((s + t) * K) (P.v k)) (smul ((s + t) * K) (P.v (k + 1)))) :
  wnd (Aff.turn p q) (P.sc K).way q≤wnd ((Aff.turn p q).sc (s + t)) (P.sc ((s + t) * K)).way (padd (smul s p) (smul t q)):=sumN_le fun k hkn=>by
 have hkn:k < P.n:=hkn
 have ho:=hoff k hkn
 rw [← smul2,← smul2] at ho
 show crN _ q (smul K (P.v k)) (smul K (P.v (k + 1)))≤crN _ _ (smul ((s + t) * K) (P.v k)) (smul ((s + t) * K) (P.v (k + 1)))
 rw [← smul2,← smul2]
 exact star_wall (hk k hkn) hs ht rfl hst ho
def inpt (P:Poly) (K:Int) (j:Nat):Pt:=padd (smul K (P.v (j + 1))) (psub (0,0) (outd (P.v j) (P.v (j + 1)) (P.v (j + 2))))
theorem mirP_mirP (a:Pt):mirP (mirP a)=a:=by unfold mirP;simp
theorem Part.unmir {a b q r:Pt} (h:Part (mirP a) (mirP b) (mirP q) (mirP r)):Part a b q r:=by
 obtain ⟨f,fa,fb,fq,fr⟩:=h
 have e:∀ x:Pt,f.mir.ev x=f.ev (mirP x):=fun x=>by have:=ev_mir f (mirP x);rwa [mirP_mirP] at this
 exact ⟨f.mir,by rw [e];exact fa,by rw [e];exact fb,by rw [e];exact fq,by rw [e];exact fr⟩
theorem qpt_mir {P:Poly} (hb:∀ j,turnZ (P.v j) (P.v (j + 1)) (P.v (j + 2))≠0) (K:Int) (j:Nat):qpt P.mir K j=mirP (inpt P K j):=by
 show padd (smul K (mirP (P.v (j + 1)))) (outd (mirP (P.v j)) (mirP (P.v (j + 1))) (mirP (P.v (j + 2))))=_
 unfold outd inpt
 rw [turn_mir]
 unfold outd
 have:=hb j
 split
 ·rw [if_neg (by omega)]
  unfold padd smul mirP psub
  refine Prod.ext ?_ ?_
  ·show K * -_ + ((- _ - - _) - (- _ - - _))=-(K * _ + (0 - _));rw [Int.mul_neg];simp only;omega
  ·show K * _ + _=K * _ + (0 - _);simp only;omega
 ·rw [if_pos (by omega)]
  unfold padd smul mirP psub
  refine Prod.ext ?_ ?_
  ·show K * -_ + ((- _ - - _) - (- _ - - _))=-(K * _ + (0 - _));rw [Int.mul_neg];simp only;omega
  ·show K * _ + _=K * _ + (0 - _);simp only;omega
theorem ilinks {P:Poly} (h:SimpleP P) (hb:∀ j,turnZ (P.v j) (P.v (j + 1)) (P.v (j + 2))≠0):Late fun K=>∀ j k,k < P.n→Part (smul K (P.v k)) (smul K (P.v (k + 1))) (inpt P K j) (inpt P K (j + 1)):=by
 have hb':∀ j,turnZ (P.mir.v j) (P.mir.v (j + 1)) (P.mir.v (j + 2))≠0:=fun j=>by
  show turnZ (mirP _) (mirP _) (mirP _)≠0
  rw [turn_mir];have:=hb j;omega
 refine (links h.mir hb').imp fun K _ H j k hk=>?_
 have:=H j k hk
 rw [qpt_mir hb,qpt_mir hb] at this
 have e:∀ x:Pt,smul K (mirP x)=mirP (smul K x):=fun x=>by unfold smul mirP;simp [Int.mul_neg]
 have this:Part (smul K (mirP (P.v k))) (smul K (mirP (P.v (k + 1)))) _ _:=this
 rw [e,e] at this
 exact this.unmir
theorem own_left {P:Poly} (hb:∀ j,turnZ (P.v j) (P.v (j + 1)) (P.v (j + 2))≠0) (j:Nat) {K:Int} (hK:0 < K):0 < turnZ (smul K (P.v (j + 1))) (smul K (P.v (j + 2))) (inpt P K j)∧0 < turnZ (smul K (P.v (j + 1))) (smul K (P.v (j + 2))) (inpt P K (j + 1)):=by
 have z:∀ a b:Pt,turnZ a b a=0∧turnZ a b b=0:=fun a b=>by unfold turnZ;grind
 have ng:∀ a b d:Pt,turnZ a b (padd a (psub (0,0) d))=- turnZ a b (padd a d):=fun a b d=>by unfold turnZ padd psub;grind
 have r2:=(outd_right (hb j)).2
 have r3:=(outd_right (hb (j + 1))).1
 unfold inpt
 rw [turn_sc,turn_sc,(z _ _).1,show j + 1 + 1=j + 2 from rfl,show j + 1 + 2=j + 3 from rfl,(z _ _).2,Int.mul_zero,Int.zero_add,Int.zero_add,ng,ng]
 exact ⟨pp hK (by omega),pp hK (by show 0 < - turnZ (P.v (j + 1)) (P.v (j + 1 + 1)) _;exact Int.neg_pos_of_neg r3)⟩
theorem mid_off {P:Poly} (h:SimpleP P) (hb:∀ j,turnZ (P.v j) (P.v (j + 1)) (P.v (j + 2))≠0) {m:Nat} (hm:m < P.n) (h1:m≠1):Off (padd (P.v 1) (P.v 2)) (smul 2 (P.v m)) (smul 2 (P.v (m + 1))):=by
 rcases (show m=0∨m=2∨3≤m by omega) with rfl|rfl|g
 ·refine off_turn ?_
  have e:turnZ (smul 2 (P.v 0)) (smul 2 (P.v 1)) (padd (P.v 1) (P.v 2))=2 * turnZ (P.v 0) (P.v 1) (P.v 2):=by unfold turnZ smul padd;grind
  have:=hb 0
  show turnZ (smul 2 (P.v 0)) (smul 2 (P.v 1)) (padd (P.v 1) (P.v 2))≠0
  rw [e]
  have:turnZ (P.v 0) (P.v 1) (P.v 2)≠0:=hb 0
  omega
 ·refine off_turn ?_
  have e:turnZ (smul 2 (P.v 2)) (smul 2 (P.v 3)) (padd (P.v 1) (P.v 2))=2 * turnZ (P.v 1) (P.v 2) (P.v 3):=by unfold turnZ smul padd;grind
  show turnZ (smul 2 (P.v 2)) (smul 2 (P.v 3)) (padd (P.v 1) (P.v 2))≠0
  rw [e]
  have:turnZ (P.v 1) (P.v 2) (P.v 3)≠0:=hb 1
  omega
 ·obtain ⟨f,fa,fb,fq,fr⟩:=(h.apartI (i:=1) hm (by omega) (by omega)).symm
  have e:(f.sc 2).ev (padd (P.v 1) (P.v 2))=f.ev (P.v 1) + f.ev (P.v 2):=by unfold Aff.ev Aff.sc padd;grind
  have fr:f.ev (P.v 2)≤0:=fr
  exact ⟨Aff.lc 1 (f.sc 2) 0 f (-1),by rw [ev_lc,ev_sc0];omega,by rw [ev_lc,ev_sc0];omega,by rw [ev_lc,e];omega⟩
theorem itrace {P:Poly} (hP:SimpleP P) (hb:∀ j,turnZ (P.v j) (P.v (j + 1)) (P.v (j + 2))≠0) {h:Aff} (hg:Gen h P) (hl1:LeftIs h P.way 1) :
  Late fun K=>(∀ j k,k < P.n→Part (smul K (P.v k)) (smul K (P.v (k + 1))) (inpt P K j) (inpt P K (j + 1)))∧∀ j,wnd (h.sc K) (P.sc K).way (inpt P K j)=1:=by
 have h3:=hP.n3
 obtain ⟨D,hD⟩:∃ D,D=padd (psub (0,0) (outd (P.v 0) (P.v 1) (P.v 2))) (psub (0,0) (outd (P.v 1) (P.v 2) (P.v 3))):=⟨_,rfl⟩
 have near:Late fun K=>∀ m,m < P.n→(m≠1→Part (smul K (smul 2 (P.v m))) (smul K (smul 2 (P.v (m + 1)))) (padd (smul K (padd (P.v 1) (P.v 2))) D) (padd (smul K (padd (P.v 1) (P.v 2))) (0,0))):=Late.all fun m hm=>by
  by_cases e:m=1
  ·exact Late.of fun K _ g=>absurd e g
  ·exact ((mid_off hP hb hm e).near D (0,0)).imp fun K _ H _=>H
 refine ((ilinks hP hb).and near).imp fun K hK ⟨hl,hn⟩=>⟨hl,?_⟩
 have all:∀ j,wnd (h.sc K) (P.sc K).way (inpt P K j)=wnd (h.sc K) (P.sc K).way (inpt P K 0):=fun j=>by
  induction j with
  | zero=>rfl
  | succ j ih=>rw [← ih];exact (wnd_step _ (P.sc K).way fun k hk=>hl j k hk).symm
 intro j
 rw [all]
 have e2:∀ x:Pt,smul K (smul 2 x)=smul (2 * K) x:=fun x=>by rw [smul2,Int.mul_comm]
 have ex:padd (smul K (padd (P.v 1) (P.v 2))) (0,0)=smul K (padd (P.v 1) (P.v 2)):=by unfold padd;simp
 have em:padd (smul K (padd (P.v 1) (P.v 2))) D=padd (inpt P K 0) (inpt P K 1):=by
  rw [hD]
  show _=padd (padd (smul K (P.v 1)) (psub (0,0) (outd (P.v 0) (P.v 1) (P.v 2)))) (padd (smul K (P.v 2)) (psub (0,0) (outd (P.v 1) (P.v 2) (P.v 3))))
  generalize psub (0,0) (outd (P.v 0) (P.v 1) (P.v 2))=x
  generalize psub (0,0) (outd (P.v 1) (P.v 2) (P.v 3))=y
  unfold padd smul
  refine Prod.ext ?_ ?_
  ·show K * (_ + _) + (_ + _)=_ + _ + (_ + _);rw [Int.mul_add];omega
  ·show K * (_ + _) + (_ + _)=_ + _ + (_ + _);rw [Int.mul_add];omega
 have hon:OnI (smul K (padd (P.v 1) (P.v 2))) (smul (2 * K) (P.v 1)) (smul (2 * K) (P.v 2)):=⟨1,1,by decide,by decide,by unfold smul padd;grind,by unfold smul padd;grind⟩
 obtain ⟨q1,q2⟩:=own_left hb 0 hK
 have q1:0 < turnZ (smul K (P.v 1)) (smul K (P.v 2)) (inpt P K 0):=q1
 have q2:0 < turnZ (smul K (P.v 1)) (smul K (P.v 2)) (inpt P K 1):=q2
 have w1:=wnd_left (h:=h.sc (2 * K)) (P:=P.way.sc (2 * K)) (sloped_sc (hg.sloped (by omega)) (by omega)) (k:=1) (p:=padd (inpt P K 0) (inpt P K 1)) (x:=smul K (padd (P.v 1) (P.v 2))) (by show 1 < P.n;omega) hon (fun k hk hk1=>by
  have:=hn k hk hk1
  rw [e2,e2,ex,em] at this
  exact this) (by
  show 0 < turnZ (smul (2 * K) (P.v 1)) (smul (2 * K) (P.v 2)) (padd (inpt P K 0) (inpt P K 1))
  have:turnZ (smul (2 * K) (P.v 1)) (smul (2 * K) (P.v 2)) (padd (inpt P K 0) (inpt P K 1))=2 * (turnZ (smul K (P.v 1)) (smul K (P.v 2)) (inpt P K 0) + turnZ (smul K (P.v 1)) (smul K (P.v 2)) (inpt P K 1)):=by unfold turnZ smul padd;grind
  omega)
 have w2:=hl1.2.1 (2 * K) 1 (smul K (padd (P.v 1) (P.v 2))) (by omega) (by show 1 < P.n;omega) hon
 rw [w2] at w1
 have w3:wnd (h.sc (2 * K)) (P.sc (2 * K)).way (padd (inpt P K 0) (inpt P K 1))=wnd (h.sc (2 * K)) (P.sc (2 * K)).way (smul 2 (inpt P K 0)):=wnd_step _ (P.sc (2 * K)).way fun k hk=>by
  have:=(hl 0 k hk).mean (s:=1) (t:=1) (s':=2) (t':=0) (L:=2) (by decide) (by decide) (by decide) (by decide) (by decide) rfl rfl
  rw [smul2,smul2] at this
  have e1:padd (smul 1 (inpt P K 0)) (smul 1 (inpt P K (0 + 1)))=padd (inpt P K 0) (inpt P K 1):=by unfold padd smul;simp
  have e0:padd (smul 2 (inpt P K 0)) (smul 0 (inpt P K (0 + 1)))=smul 2 (inpt P K 0):=by unfold padd smul;simp
  rwa [e1,e0] at this
 have w4:=wnd_scale (h.sc K) P (show (0:Int) < 2 by decide) K (inpt P K 0)
 have eh:(h.sc K).sc 2=h.sc (2 * K):=by unfold Aff.sc;rw [← Int.mul_assoc]
 rw [eh] at w4
 rw [← w4,← w3];exact w1
theorem nc_turn {p q:Pt} (h:p≠q):NC (Aff.turn p q):=by
 have:¬ (q.1 - p.1=0∧q.2 - p.2=0):=fun ⟨e1,e2⟩=>h (Prod.ext (by omega) (by omega))
 unfold NC Aff.turn
 simp only
 omega
theorem wnd_free {h1 h2:Aff} (n1:NC h1) (n2:NC h2) {P:Poly} {K:Int} {p:Pt} (ho:∀ k,k < P.n→Off p (smul K (P.v k)) (smul K (P.v (k + 1)))):wnd h1 (P.sc K).way p=wnd h2 (P.sc K).way p:=wnd_any (P:=(P.sc K).way) n1 n2 ho
theorem sc_one (P:Poly):P.sc 1=P:=Poly.ext' rfl fun j=>by show smul 1 (P.v j)=_;unfold smul;simp
theorem wnd_zero_one {P:Poly} (hP:SimpleP P) (ha:0 < P.area) {h:Aff} (hn:NC h) {p:Pt} (ho:∀ k,k < P.n→Off p (P.v k) (P.v (k + 1))):wnd h P.way p=0∨wnd h P.way p=1:=by
 have lv:Late fun M=>∀ k,k < P.n→(hM M).ev (P.v k)≠(hM M).ev p:=Late.all fun k hk=>by
  have hne:P.v k≠p:=fun e=>(Off.ne (ho k hk)).1 e.symm
  by_cases e:(P.v k).2=p.2
  ·refine Late.of fun M _ e2=>hne (Prod.ext ?_ e)
   have e2:1 * (P.v k).1 + M * (P.v k).2 + 0=1 * p.1 + M * p.2 + 0:=e2
   rw [e] at e2;omega
  ·refine (late_ne (c:=(P.v k).1) (c':=p.1) e).imp fun M _ H e2=>H ?_
   have e2:1 * (P.v k).1 + M * (P.v k).2 + 0=1 * p.1 + M * p.2 + 0:=e2
   omega
 obtain ⟨M,hM0,hg,hl⟩:=((hM_gen hP).and lv).get
 have hL:=((pos_iff hP hg).2 ha).left hP hg
 have hc:Clear (hM M) P.way p:=Off.clear (P:=P.way) ho hl
 have e1:(hM M).sc 1=hM M:=by unfold Aff.sc;rw [Int.one_mul]
 have e2:P.way.sc 1=P.way:=congrArg Poly.way (sc_one P)
 have:=hL.2.2 1 p (by decide) (by rw [e1,e2];exact hc)
 rw [e1,e2] at this
 have e3:wnd h P.way p=wnd (hM M) P.way p:=wnd_any hn (.inl (by show (1:Int)≠0;decide)) ho
 rw [e3];omega
theorem Late.mul {Q:Int→Prop} (h:Late Q) {X:Int} (hX:0 < X):Late fun K=>Q (X * K):=by
 obtain ⟨k0,hk⟩:=h
 refine ⟨k0,fun K h1 h2=>hk _ ?_ (pp hX h2)⟩
 have:=Int.mul_le_mul_of_nonneg_right (show 1≤X by omega) (show 0≤K by omega)
 rw [Int.one_mul] at this
 omega
theorem star {P:Poly} (hP:SimpleP P) (hb:∀ j,turnZ (P.v j) (P.v (j + 1)) (P.v (j + 2))≠0) (ha:0 < P.area) {p q:Pt} (hk:∀ k,k < P.n→0≤turnZ (P.v k) (P.v (k + 1)) p) (hq:¬ Outp P 1 q):NoOut P p q:=by
 intro s t hs ht hst ⟨hoff,h,hnc,h0⟩
 have h3:=hP.n3
 by_cases hqo:∀ k,k < P.n→Off q (P.v k) (P.v (k + 1))
 ·-- q is off the walls: counted once
  have hqo':∀ k,k < P.n→Off q (smul 1 (P.v k)) (smul 1 (P.v (k + 1))):=fun k hk=>by rw [smul_one,smul_one];exact hqo k hk
  have one:∀ g:Aff,NC g→wnd g (P.sc 1).way q=1:=fun g hg=>by
   rw [sc_one]
   rcases wnd_zero_one hP ha hg hqo with e|e
   ·exact absurd ⟨hqo',g,hg,by rw [sc_one];exact e⟩ hq
   ·exact e
  by_cases hpq:p=q
  ·subst hpq
   have e:padd (smul s p) (smul t p)=smul (s + t) p:=by unfold padd smul;simp [Int.add_mul]
   rw [e] at hoff h0
   have:=wnd_scale h P hst 1 p
   rw [Int.mul_one,one h hnc,wnd_free (h1:=h.sc (s + t)) (h2:=h) hnc hnc hoff,h0] at this
   omega
  ·have c:=star_core (P:=P) (K:=1) (p:=p) (q:=q) (fun k hkn=>by rw [smul_one,smul_one];exact hk k hkn) hs ht hst (by rw [Int.mul_one];exact hoff)
   rw [one _ (nc_turn hpq),Int.mul_one,wnd_free (h1:=(Aff.turn p q).sc (s + t)) (h2:=h) (nc_turn hpq) hnc hoff,h0] at c
   omega
 ·-- q is on a wall: counted once close by
  have ⟨k,hkn,hno⟩:∃ k,k < P.n∧¬ Off q (P.v k) (P.v (k + 1)):=by
   apply Classical.byContradiction
   intro hc
   exact hqo fun k hk=>Classical.byContradiction fun hn=>hc ⟨k,hk,hn⟩
  rcases off_or_on q (hP.ne k) with g|⟨x,y,hx,hy,hxy,hon⟩
  ·exact hno g
  have eq:smul (x + y) q=padd (smul x (P.v k)) (smul y (P.v (k + 1))):=by
   have g1:=hon ⟨1,0,0⟩
   have g2:=hon ⟨0,1,0⟩
   simp only [Aff.ev,Int.one_mul,Int.zero_mul,Int.zero_add,Int.add_zero] at g1 g2
   exact Prod.ext g1 g2
  generalize hX:x + y=X at *
  obtain ⟨j,hj⟩:∃ j,j + 1=k + P.n:=⟨k + P.n - 1,by omega⟩
  have v1:P.v (j + 1)=P.v k:=by rw [hj,P.per]
  have v2:P.v (j + 2)=P.v (k + 1):=by rw [show j + 2=k + 1 + P.n by omega,P.per]
  obtain ⟨d1,hd1⟩:∃ d,d=psub (0,0) (outd (P.v j) (P.v (j + 1)) (P.v (j + 2))):=⟨_,rfl⟩
  obtain ⟨d2,hd2⟩:∃ d,d=psub (0,0) (outd (P.v (j + 1)) (P.v (j + 2)) (P.v (j + 3))):=⟨_,rfl⟩
  have i1:∀ K,inpt P K j=padd (smul K (P.v k)) d1:=fun K=>by rw [hd1,← v1];rfl
  have i2:∀ K,inpt P K (j + 1)=padd (smul K (P.v (k + 1))) d2:=fun K=>by rw [hd2,← v2];rfl
  obtain ⟨E,hE⟩:∃ E,E=padd (smul x d1) (smul y d2):=⟨_,rfl⟩
  obtain ⟨M,hM0,hg⟩:=(hM_gen hP).get
  have hL:=((pos_iff hP hg).2 ha).left hP hg
  have near:Late fun K=>∀ i,i < P.n→Part (smul K (smul (s + t) (P.v i))) (smul K (smul (s + t) (P.v (i + 1)))) (padd (smul K (padd (smul s p) (smul t q))) (smul t E)) (padd (smul K (padd (smul s p) (smul t q))) (0,0)):=Late.all fun i hi=>(hoff i hi).near _ _
  obtain ⟨K,hK,⟨hlk,hone⟩,hnr⟩:=((itrace hP hb hg hL).and (near.mul hxy)).get
  obtain ⟨q',hq'⟩:∃ q',q'=padd (smul x (inpt P K j)) (smul y (inpt P K (j + 1))):=⟨_,rfl⟩
  have hXK:0 < X * K:=pp hxy hK
  have hpart:∀ i,i < P.n→Part (smul (X * K) (P.v i)) (smul (X * K) (P.v (i + 1))) q' (smul X (inpt P K j)):=fun i hi=>by
   have:=(hlk j i hi).mean hx hy (Int.le_of_lt hxy) (Int.le_refl 0) hxy hX (Int.add_zero X)
   rw [smul2,smul2,← hq'] at this
   have e0:padd (smul X (inpt P K j)) (smul 0 (inpt P K (j + 1)))=smul X (inpt P K j):=by unfold padd smul;simp
   rwa [e0] at this
  have hoq:∀ i,i < P.n→Off q' (smul (X * K) (P.v i)) (smul (X * K) (P.v (i + 1))):=fun i hi=>(hpart i hi).off1
  have nM:NC (hM M):=.inl (by show (1:Int)≠0;decide)
  have oneq:∀ g:Aff,NC g→wnd g (P.sc (X * K)).way q'=1:=fun g hg=>by
   rw [wnd_free (h2:=((hM M).sc K).sc X) hg nM hoq,wnd_step _ (P.sc (X * K)).way (q:=q') (r:=smul X (inpt P K j)) hpart,wnd_scale _ P hxy,hone]
  have em:padd (smul s (smul (X * K) p)) (smul t q')=padd (smul (X * K) (padd (smul s p) (smul t q))) (smul t E):=by
   have eq1:X * q.1=x * (P.v k).1 + y * (P.v (k + 1)).1:=congrArg Prod.fst eq
   have eq2:X * q.2=x * (P.v k).2 + y * (P.v (k + 1)).2:=congrArg Prod.snd eq
   rw [hq',i1,i2,hE]
   unfold padd smul
   refine Prod.ext ?_ ?_
   ·show s * (X * K * p.1) + t * (x * (K * (P.v k).1 + d1.1) + y * (K * (P.v (k + 1)).1 + d2.1))=X * K * (s * p.1 + t * q.1) + t * (x * d1.1 + y * d2.1)
    have:X * K * (s * p.1 + t * q.1)=X * K * (s * p.1) + K * t * (X * q.1):=by grind
    rw [this,eq1];grind
   ·show s * (X * K * p.2) + t * (x * (K * (P.v k).2 + d1.2) + y * (K * (P.v (k + 1)).2 + d2.2))=X * K * (s * p.2 + t * q.2) + t * (x * d1.2 + y * d2.2)
    have:X * K * (s * p.2 + t * q.2)=X * K * (s * p.2) + K * t * (X * q.2):=by grind
    rw [this,eq2];grind
  have ez:padd (smul (X * K) (padd (smul s p) (smul t q))) (0,0)=smul (X * K) (padd (smul s p) (smul t q)):=by unfold padd;simp
  have hnr':∀ i,i < P.n→Part (smul ((s + t) * (X * K)) (P.v i)) (smul ((s + t) * (X * K)) (P.v (i + 1))) (padd (smul s (smul (X * K) p)) (smul t q')) (smul (X * K) (padd (smul s p) (smul t q))):=fun i hi=>by
   have:=hnr i hi
   rw [smul2,smul2,← em,ez,Int.mul_comm (X * K) (s + t)] at this
   exact this
  have hom:∀ i,i < P.n→Off (padd (smul s (smul (X * K) p)) (smul t q')) (smul ((s + t) * (X * K)) (P.v i)) (smul ((s + t) * (X * K)) (P.v (i + 1))):=fun i hi=>(hnr' i hi).off1
  have zm:∀ g:Aff,NC g→wnd g (P.sc ((s + t) * (X * K))).way (padd (smul s (smul (X * K) p)) (smul t q'))=0:=fun g hg=>by
   rw [wnd_free (h2:=h.sc (X * K)) hg hnc hom,wnd_step _ (P.sc ((s + t) * (X * K))).way (q:=padd (smul s (smul (X * K) p)) (smul t q')) (r:=smul (X * K) (padd (smul s p) (smul t q))) hnr',Int.mul_comm (s + t),wnd_scale h P hXK,h0]
  by_cases hpq:smul (X * K) p=q'
  ·have e:padd (smul s (smul (X * K) p)) (smul t q')=smul (s + t) q':=by rw [hpq];unfold padd smul;simp [Int.add_mul]
   have a:=zm (h.sc (s + t)) hnc
   rw [e,wnd_scale h P hst,oneq h hnc] at a
   omega
  ·have c:=star_core (P:=P) (K:=X * K) (p:=smul (X * K) p) (q:=q') (fun i hi=>by rw [turn_sc0];exact nn0 (Int.le_of_lt hXK) (nn0 (Int.le_of_lt hXK) (hk i hi))) hs ht hst hom
   rw [oneq _ (nc_turn hpq),zm ((Aff.turn (smul (X * K) p) q').sc (s + t)) (nc_turn hpq)] at c
   omega
theorem wnd_zero_oneK {P:Poly} (hP:SimpleP P) (ha:0 < P.area) {K:Int} (hK:0 < K) {h:Aff} (hn:NC h) {p:Pt} (ho:∀ k,k < P.n→Off p (smul K (P.v k)) (smul K (P.v (k + 1)))):wnd h (P.sc K).way p=0∨wnd h (P.sc K).way p=1:=by
 have ev:∀ (M:Int) (x:Pt),((hM M).sc K).ev x=x.1 + M * x.2:=fun M x=>by unfold hM Aff.sc Aff.ev;simp
 have lv:Late fun M=>∀ k,k < P.n→((hM M).sc K).ev (smul K (P.v k))≠((hM M).sc K).ev p:=Late.all fun k hk=>by
  have hne:smul K (P.v k)≠p:=fun e=>(Off.ne (ho k hk)).1 e.symm
  by_cases e:(smul K (P.v k)).2=p.2
  ·refine Late.of fun M _ e2=>hne (Prod.ext ?_ e)
   rw [ev,ev,e] at e2;omega
  ·refine (late_ne (c:=(smul K (P.v k)).1) (c':=p.1) e).imp fun M _ H e2=>H ?_
   rw [ev,ev] at e2;omega
 obtain ⟨M,hM0,hg,hl⟩:=((hM_gen hP).and lv).get
 have hL:=((pos_iff hP hg).2 ha).left hP hg
 have hc:Clear ((hM M).sc K) (P.sc K).way p:=Off.clear (P:=(P.sc K).way) ho hl
 have:wnd ((hM M).sc K) (P.sc K).way p=1∨wnd ((hM M).sc K) (P.sc K).way p=1 - 1:=hL.2.2 K p hK hc
 rw [wnd_free hn (h2:=(hM M).sc K) (.inl (by show (1:Int)≠0;decide)) ho]
 omega
def Opp (x y:Int):Prop:=(x < 0∧0 < y)∨(y < 0∧0 < x)
theorem cross_not_part {a b q r:Pt} (h:Part a b q r) (o1:Opp (turnZ q r a) (turnZ q r b)) (o2:Opp (turnZ a b q) (turnZ a b r)):False:=by
 obtain ⟨f,fa,fb,fq,fr⟩:=h
 have E0:=tid a b q r
 have e:=aid f a b q r
 unfold Opp at o1 o2
 rcases o1 with ⟨g1,g2⟩|⟨g1,g2⟩ <;> rcases o2 with ⟨g3,g4⟩|⟨g3,g4⟩
 ·have:=pp g2 fa;have:=mp g1 fb;have:=mp0 (Int.le_of_lt g3) (Int.le_refl 0)
  first
   | omega
   | (have k1:=pm0 (Int.le_of_lt g4) fq;have k2:=mm0 (Int.le_of_lt g3) fr;omega)
   | (have k1:=pm0 (Int.le_of_lt g4) fq;have k2:=mm0 (Int.le_of_lt g3) fr;have k3:=mm0 (Int.le_of_lt g3) fq;have k4:=pm0 (Int.le_of_lt g4) fr;omega)
 ·have:=pp g2 fa;have:=mp g1 fb
  have k1:=mm0 (Int.le_of_lt g3) fq;have k2:=pm0 (Int.le_of_lt g4) fr;have k3:=mm0 (Int.le_of_lt g3) fr;have k4:=pm0 (Int.le_of_lt g4) fq
  omega
 ·have:=pp g2 fb;have:=mp g1 fa;have:=pp g2 fa;have:=mp g1 fb
  have k1:=mm0 (Int.le_of_lt g3) fq;have k2:=pm0 (Int.le_of_lt g4) fr;have k3:=mm0 (Int.le_of_lt g3) fr;have k4:=pm0 (Int.le_of_lt g4) fq
  omega
 ·have:=pp g2 fb;have:=mp g1 fa;have:=pp g2 fa;have:=mp g1 fb
  have k1:=mm0 (Int.le_of_lt g3) fq;have k2:=pm0 (Int.le_of_lt g4) fr;have k3:=mm0 (Int.le_of_lt g3) fr;have k4:=pm0 (Int.le_of_lt g4) fq
  omega
theorem late_neg2 {t c e:Int} (h:t < 0):Late fun K=>K * (K * t + c) + e < 0:=by
 refine ⟨max (c + 1) (e + 1),fun K hK h0=>?_⟩
 have g:K * t≤K * (-1):=Int.mul_le_mul_of_nonneg_left (by omega) (by omega)
 have g2:K * (K * t + c)≤K * (-1):=Int.mul_le_mul_of_nonneg_left (by omega) (by omega)
 omega
theorem late_pos2 {t c e:Int} (h:0 < t):Late fun K=>0 < K * (K * t + c) + e:=(late_neg2 (t:=-t) (c:=-c) (e:=-e) (by omega)).imp fun K _ g=>by
 have:K * (K * -t + -c)=-(K * (K * t + c)):=by grind
 omega
theorem late_opp {t1 t2 c1 c2 e1 e2:Int} (h:Opp t1 t2):Late fun K=>Opp (K * (K * t1 + c1) + e1) (K * (K * t2 + c2) + e2):=by
 rcases h with ⟨h1,h2⟩|⟨h1,h2⟩
 ·exact ((late_neg2 h1).and (late_pos2 h2)).imp fun K _ g=>.inl g
 ·exact ((late_neg2 h1).and (late_pos2 h2)).imp fun K _ g=>.inr g
theorem turn_two (K:Int) (u w d d' a:Pt):turnZ (padd (smul K u) d) (padd (smul K w) d') (smul K a)=K * (K * turnZ u w a + (((d'.1 - d.1) * (a.2 - u.2) - (d'.2 - d.2) * (a.1 - u.1)) - ((w.1 - u.1) * d.2 - (w.2 - u.2) * d.1))) + ((d'.2 - d.2) * d.1 - (d'.1 - d.1) * d.2):=by unfold turnZ padd smul;grind
theorem no_cross {P:Poly} (hP:SimpleP P) (hb:∀ j,turnZ (P.v j) (P.v (j + 1)) (P.v (j + 2))≠0) (ha:0 < P.area) {a b:Pt} (hno:NoOut P a b) {k:Nat} (o1:Opp (turnZ a b (P.v k)) (turnZ a b (P.v (k + 1)))) (o2:Opp (turnZ (P.v k) (P.v (k + 1)) a) (turnZ (P.v k) (P.v (k + 1)) b)):False:=by
 have h3:=hP.n3
 obtain ⟨j,hj⟩:∃ j,j + 1=k + P.n:=⟨k + P.n - 1,by omega⟩
 have v1:P.v (j + 1)=P.v k:=by rw [hj,P.per]
 have v2:P.v (j + 2)=P.v (k + 1):=by rw [show j + 2=k + 1 + P.n by omega,P.per]
 rw [← v1,← v2] at o1 o2
 obtain ⟨M,hM0,hg⟩:=(hM_gen hP).get
 have hPp:=(pos_iff hP hg).2 ha
 have s1:Late fun K=>Opp (turnZ (smul K a) (smul K b) (qpt P K j)) (turnZ (smul K a) (smul K b) (qpt P K (j + 1))):=
  (late_opp (c1:=turnZ a b (padd a (outd (P.v j) (P.v (j + 1)) (P.v (j + 2))))) (c2:=turnZ a b (padd a (outd (P.v (j + 1)) (P.v (j + 2)) (P.v (j + 3))))) (e1:=0) (e2:=0) o1).imp fun K _ g=>by
   unfold qpt
   rw [turn_sc,turn_sc]
   rwa [Int.add_zero,Int.add_zero] at g
 have s2:Late fun K=>Opp (turnZ (qpt P K j) (qpt P K (j + 1)) (smul K a)) (turnZ (qpt P K j) (qpt P K (j + 1)) (smul K b)):=by
  unfold qpt
  simp only [turn_two]
  exact late_opp o2
 obtain ⟨K,hK,hl,g1,g2⟩:=((links hP hb).and (s1.and s2)).get
 have z:=trace_zero hP hg hPp hK hl
 have hnc:NC ((hM M).sc K):=.inl (by show (1:Int)≠0;decide)
 have hne:qpt P K j≠qpt P K (j + 1):=fun e=>by
  rw [e] at g1
  unfold Opp at g1;omega
 exact cross_not_part (link_part hK hne hnc (fun k hk=>hl j k hk) (z j) hno) g2 g1
theorem on_line {a b c:Pt} (h:turnZ a b c=0):((b.1 - a.1) * (b.1 - a.1) + (b.2 - a.2) * (b.2 - a.2)) * c.1=(((b.1 - a.1) * (b.1 - a.1) + (b.2 - a.2) * (b.2 - a.2)) - (((b.1 - a.1) * (b.1 - a.1) + (b.2 - a.2) * (b.2 - a.2)) + dotZ a b c)) * a.1 + (((b.1 - a.1) * (b.1 - a.1) + (b.2 - a.2) * (b.2 - a.2)) + dotZ a b c) * b.1 ∧
  ((b.1 - a.1) * (b.1 - a.1) + (b.2 - a.2) * (b.2 - a.2)) * c.2=(((b.1 - a.1) * (b.1 - a.1) + (b.2 - a.2) * (b.2 - a.2)) - (((b.1 - a.1) * (b.1 - a.1) + (b.2 - a.2) * (b.2 - a.2)) + dotZ a b c)) * a.2 + (((b.1 - a.1) * (b.1 - a.1) + (b.2 - a.2) * (b.2 - a.2)) + dotZ a b c) * b.2:=by
 have m1:=line_mean h ⟨1,0,0⟩
 have m2:=line_mean h ⟨0,1,0⟩
 simp only [Aff.ev,Int.one_mul,Int.zero_mul,Int.zero_add,Int.add_zero] at m1 m2
 constructor
 ·rw [m1];congr 1;congr 1;omega
 ·rw [m2];congr 1;congr 1;omega
def phi (a b c:Pt):Int:=((b.1 - a.1) * (b.1 - a.1) + (b.2 - a.2) * (b.2 - a.2)) + dotZ a b c
theorem flat_mean {a b p q c:Pt} (hab:a≠b) (hp:turnZ a b p=0) (hq:turnZ a b q=0) (hc:turnZ a b c=0) (h1:phi a b p≤phi a b c) (h2:phi a b c≤phi a b q) (h3:phi a b p < phi a b q):OnM c p q:=by
 have hN:=sq_pos hab
 have e:∀ f:Aff,(phi a b q - phi a b p) * f.ev c=(phi a b q - phi a b c) * f.ev p + (phi a b c - phi a b p) * f.ev q:=fun f=>by
  have mp:=line_mean hp f
  have mq:=line_mean hq f
  have mc:=line_mean hc f
  unfold phi
  generalize (b.1 - a.1) * (b.1 - a.1) + (b.2 - a.2) * (b.2 - a.2)=N at *
  have hN0:N≠0:=by omega
  refine Int.eq_of_mul_eq_mul_left hN0 ?_
  have e1:N * ((N + dotZ a b q - (N + dotZ a b p)) * f.ev c)=(dotZ a b q - dotZ a b p) * (N * f.ev c):=by grind
  have e2:N * ((N + dotZ a b q - (N + dotZ a b c)) * f.ev p + (N + dotZ a b c - (N + dotZ a b p)) * f.ev q)=(dotZ a b q - dotZ a b c) * (N * f.ev p) + (dotZ a b c - dotZ a b p) * (N * f.ev q):=by grind
  rw [e1,e2,mp,mq,mc];grind
 exact ⟨phi a b q - phi a b c,phi a b c - phi a b p,by omega,by omega,by omega,fun f=>by rw [show phi a b q - phi a b c + (phi a b c - phi a b p)=phi a b q - phi a b p by omega];exact e f⟩
theorem phi_a (a b:Pt):phi a b a=0:=by unfold phi dotZ;grind
theorem phi_b (a b:Pt):phi a b b=(b.1 - a.1) * (b.1 - a.1) + (b.2 - a.2) * (b.2 - a.2):=by unfold phi dotZ;grind
theorem par_odd {f:Nat→Bool} {c:Nat→Int}:∀ {n:Nat},(∀ k,k < n→(f k=true∧(c k=1∨c k=-1))∨(f k=false∧c k=0))→(par f n=true↔sumN c n % 2=1)
 | 0,_=>by simp [par,sumN]
 | n + 1,h=>by
  have ih:=par_odd (n:=n) (f:=f) (c:=c) fun k hk=>h k (by omega)
  simp only [par,sumN]
  rcases h n (by omega) with ⟨e,g|g⟩|⟨e,g⟩ <;> rw [e,g] <;> cases hp:par f n <;> rw [hp] at ih <;> simp at ih ⊢ <;> omega
theorem place_out {xs ys:List Pt} (hr:roomOk xs=true) {K:Int} (hK:0 < K) (hy:ys.length=xs.length) (hv:∀ k,pCy ys k=smul K (pCy xs k)) (hb:∀ q∈ys,Bd q) {p:Pt} (hp:Bd p):placeM ys p=0↔Outp (roomP xs) K p:=by
 have hP:=room_simple hr
 have ha:=(room_area hr).2.1
 have hn:=room_pos hr
 have wa:∀ k,k < xs.length→pAt ys k=smul K ((roomP xs).v k)∧pCy ys (k + 1)=smul K ((roomP xs).v (k + 1)):=fun k hk=>⟨(pCy_lt (by omega)).symm.trans (hv k),hv (k + 1)⟩
 have ne:∀ k,k < xs.length→smul K ((roomP xs).v k)≠smul K ((roomP xs).v (k + 1)):=fun k hk e=>by
  apply hP.ne k
  have e1:=congrArg Prod.fst e
  have e2:=congrArg Prod.snd e
  exact Prod.ext (Int.eq_of_mul_eq_mul_left (by omega) e1) (Int.eq_of_mul_eq_mul_left (by omega) e2)
 have onoff:∀ k,k < xs.length→(onAt ys p k=false↔Off p (smul K ((roomP xs).v k)) (smul K ((roomP xs).v (k + 1)))):=fun k hk=>by
  have b1:Bd (pAt ys k):=pAt_bd hb (by omega)
  have b2:Bd (pCy ys (k + 1)):=pCy_bd hb (by omega)
  show onS p (pAt ys k) (pCy ys (k + 1))=false↔_
  constructor
  ·intro h0
   rcases off_or_on p (ne k hk) with g|g
   ·exact g
   ·rw [← (wa k hk).1,← (wa k hk).2] at g
    rw [g.onS b1 b2 hp] at h0
    exact absurd h0 (by decide)
  ·intro g
   cases h0:onS p (pAt ys k) (pCy ys (k + 1)) with
   | false=>rfl
   | true=>
    exfalso
    have:=onS_OnM b1 b2 hp h0
    rw [(wa k hk).1,(wa k hk).2] at this
    exact this.not_off g
 have hh:=place_holds hb hp
 have hnc:NC (⟨0,1,0⟩:Aff):=.inr (by decide)
 have odd:par (upSAt ys p) ys.length=true↔wnd ⟨0,1,0⟩ ((roomP xs).sc K).way p % 2=1:=by
  rw [hy]
  refine par_odd (n:=xs.length) fun k hk=>?_
  show (upS p (pAt ys k) (pCy ys (k + 1))=true∧_)∨_
  have b1:Bd (pAt ys k):=pAt_bd hb (by omega)
  have b2:Bd (pCy ys (k + 1)):=pCy_bd hb (by omega)
  have e:crN ⟨0,1,0⟩ p (((roomP xs).sc K).way.v k) (((roomP xs).sc K).way.v (k + 1))=crN ⟨0,1,0⟩ p (pAt ys k) (pCy ys (k + 1)):=by
   rw [(wa k hk).1,(wa k hk).2];rfl
  show (upS p (pAt ys k) (pCy ys (k + 1))=true∧(crN ⟨0,1,0⟩ p (((roomP xs).sc K).way.v k) (((roomP xs).sc K).way.v (k + 1))=1∨crN ⟨0,1,0⟩ p (((roomP xs).sc K).way.v k) (((roomP xs).sc K).way.v (k + 1))=-1))∨(upS p (pAt ys k) (pCy ys (k + 1))=false∧crN ⟨0,1,0⟩ p (((roomP xs).sc K).way.v k) (((roomP xs).sc K).way.v (k + 1))=0)
  rw [e]
  generalize pAt ys k=a at *
  generalize pCy ys (k + 1)=b at *
  have lv:∀ x:Pt,(⟨0,1,0⟩:Aff).ev x=x.2:=fun x=>by unfold Aff.ev;simp
  unfold upS crN
  rw [turn_exact b1 b2 hp,lv,lv,lv]
  by_cases c1:a.2≤p.2∧p.2 < b.2∧0 < turnZ a b p
  ·rw [if_pos c1];left;simp [c1]
  ·rw [if_neg c1]
   by_cases c2:b.2≤p.2∧p.2 < a.2∧turnZ a b p < 0
   ·rw [if_pos c2];left;simp [c2]
   ·rw [if_neg c2];right
    refine ⟨?_,rfl⟩
    rw [Bool.eq_false_iff]
    intro h
    simp only [Bool.or_eq_true,Bool.and_eq_true,decide_eq_true_eq] at h
    rcases h with h|h
    ·exact c1 h
    ·exact c2 h
 rw [hh]
 unfold holdsM
 constructor
 ·intro h0
  have hon:onAny ys p=false:=by
   cases e:onAny ys p with
   | false=>rfl
   | true=>rw [e] at h0;simp at h0
  rw [hon] at h0
  have hpar:¬ par (upSAt ys p) ys.length=true:=fun e=>by rw [e] at h0;simp at h0
  have ho:∀ k,k < xs.length→Off p (smul K ((roomP xs).v k)) (smul K ((roomP xs).v (k + 1))):=fun k hk=>(onoff k hk).1 (by
   cases e:onAt ys p k with
   | false=>rfl
   | true=>rw [onAny_yes (by omega) e] at hon;exact absurd hon (by decide))
  refine ⟨ho,⟨0,1,0⟩,hnc,?_⟩
  rcases wnd_zero_oneK hP ha hK hnc ho with g|g
  ·exact g
  ·exact absurd (odd.2 (by rw [g];decide)) hpar
 ·rintro ⟨ho,h,hn',h0⟩
  have hon:onAny ys p=false:=onAny_no fun k hk=>(onoff k (by omega)).2 (ho k (by show k < xs.length;omega))
  have w0:wnd ⟨0,1,0⟩ ((roomP xs).sc K).way p=0:=by rw [wnd_free hnc hn' ho,h0]
  have hpar:par (upSAt ys p) ys.length=false:=by
   rw [Bool.eq_false_iff]
   intro e
   have:=odd.1 e
   rw [w0] at this
   exact absurd this (by decide)
  rw [hon,hpar]
  rfl
theorem twP_eq {q:Pt} (h:-40≤q.1∧q.1≤40∧-40≤q.2∧q.2≤40):twP q=smul 2 q:=by
 unfold twP smul
 rw [W_in (by omega) (by omega),W_in (by omega) (by omega)]
theorem mid_out {xs:List Pt} (hr:roomOk xs=true) {p q:Pt} (hp:-40≤p.1∧p.1≤40∧-40≤p.2∧p.2≤40) (hq:-40≤q.1∧q.1≤40∧-40≤q.2∧q.2≤40):midM xs p q=0↔Outp (roomP xs) 2 (padd p q):=by
 have h:=pt_of_room hr
 have hn:=room_pos hr
 have e:sumP p q=padd p q:=by
  unfold sumP padd
  rw [W_in (by omega) (by omega),W_in (by omega) (by omega)]
 unfold midM
 rw [e]
 refine place_out hr (by decide) (by simp) (fun k=>?_) (fun c' hc'=>?_) ?_
 ·have hk:k % xs.length < xs.length:=Nat.mod_lt _ hn
  show (xs.map twP).getD (k % (xs.map twP).length) (0,0)=smul 2 (xs.getD (k % xs.length) (0,0))
  rw [List.length_map,getD_lt _ (by rw [List.length_map];exact hk),getD_lt _ hk,List.getElem_map]
  exact twP_eq (h _ (List.getElem_mem hk))
 ·obtain ⟨c,hc,rfl⟩:=List.mem_map.1 hc'
  have:=h c hc
  rw [twP_eq this]
  unfold Bd smul
  simp only
  omega
 ·unfold Bd padd
  simp only
  omega
theorem room_turns {xs:List Pt} (hr:roomOk xs=true) (j:Nat):turnZ ((roomP xs).v j) ((roomP xs).v (j + 1)) ((roomP xs).v (j + 2))≠0:=by
 have hn:=room_pos hr
 have hb:=bd_of_room hr
 have hk:j % xs.length < xs.length:=Nat.mod_lt _ hn
 have:=(okAt_iff.1 ((roomOk_iff.1 hr).2.2.1 _ hk)).1
 rw [turn_exact (pAt_bd hb hk) (pCy_bd hb hn) (pCy_bd hb hn)] at this
 have e1:pCy xs (j % xs.length + 1)=(roomP xs).v (j + 1):=(roomP xs).per_add j 1
 have e2:pCy xs (j % xs.length + 2)=(roomP xs).v (j + 2):=(roomP xs).per_add j 2
 rw [e1,e2] at this
 exact this
theorem Outp.scale {P:Poly} {K:Int} {m:Pt} (h:Outp P K m) {L:Int} (hL:0 < L):Outp P (L * K) (smul L m):=by
 obtain ⟨ho,g,hg,h0⟩:=h
 refine ⟨fun k hk=>?_,g.sc L,hg,by rw [wnd_scale g P hL,h0]⟩
 obtain ⟨f,fa,fb,fp⟩:=ho k hk
 rw [← smul2,← smul2]
 exact ⟨f.sc L,by rw [ev_sc0];exact pp hL fa,by rw [ev_sc0];exact pp hL fb,by rw [ev_sc0];exact pm hL fp⟩
theorem OnM.coords {p a b:Pt} (h:OnM p a b):∃ s t:Int,0≤s∧0≤t∧0 < s + t∧(s + t) * p.1=s * a.1 + t * b.1∧(s + t) * p.2=s * a.2 + t * b.2:=by
 obtain ⟨s,t,hs,ht,h0,h⟩:=h
 have g1:=h ⟨1,0,0⟩
 have g2:=h ⟨0,1,0⟩
 simp only [Aff.ev,Int.one_mul,Int.zero_mul,Int.zero_add,Int.add_zero] at g1 g2
 exact ⟨s,t,hs,ht,h0,g1,g2⟩
theorem sees_of {xs:List Pt} (hr:roomOk xs=true) {a b:Pt} (ha:ptOk a=true) (hb:ptOk b=true) (h:NoOut (roomP xs) a b):Sees xs a b:=by
 have hbd:=bd_of_room hr
 have hn:=room_pos hr
 have ba:=bd_of_ok ha
 have bb:=bd_of_ok hb
 constructor
 ·intro k hk
  cases hc:crs a b (wl xs k).1 (wl xs k).2 with
  | false=>rfl
  | true=>
   exfalso
   unfold crs at hc
   rw [Bool.and_eq_true,decide_eq_true_eq,decide_eq_true_eq,sgn_opp,sgn_opp] at hc
   have b1:Bd (wl xs k).1:=pAt_bd hbd hk
   have b2:Bd (wl xs k).2:=pCy_bd hbd hn
   rw [turn_exact ba bb b1,turn_exact ba bb b2,turn_exact b1 b2 ba,turn_exact b1 b2 bb] at hc
   have e1:(wl xs k).1=(roomP xs).v k:=(pCy_lt hk).symm
   have e2:(wl xs k).2=(roomP xs).v (k + 1):=rfl
   rw [e1,e2] at hc
   exact no_cross (room_simple hr) (room_turns hr) (room_area hr).2.1 h hc.1 hc.2
 ·intro p q hp hq _ _ e0
  have op:=cuts_on hp
  have oq:=cuts_on hq
  have p40:=on_pt40 ha hb op
  have q40:=on_pt40 ha hb oq
  have bp:Bd p:=by unfold Bd;omega
  have bq:Bd q:=by unfold Bd;omega
  obtain ⟨s,t,hs,ht,h0,x1,x2⟩:=(onS_OnM ba bb bp op).coords
  obtain ⟨s',t',hs',ht',h0',y1,y2⟩:=(onS_OnM ba bb bq oq).coords
  have o:=((mid_out hr p40 q40).1 e0).scale (pp h0 h0')
  have eL:(s + t) * (s' + t') * 2=((s' + t') * s + (s + t) * s') + ((s' + t') * t + (s + t) * t'):=by grind
  have em:smul ((s + t) * (s' + t')) (padd p q)=padd (smul ((s' + t') * s + (s + t) * s') a) (smul ((s' + t') * t + (s + t) * t') b):=by
   unfold smul padd
   refine Prod.ext ?_ ?_
   ·show (s + t) * (s' + t') * (p.1 + q.1)=_ * a.1 + _ * b.1
    have:(s + t) * (s' + t') * (p.1 + q.1)=(s' + t') * ((s + t) * p.1) + (s + t) * ((s' + t') * q.1):=by grind
    rw [this,x1,y1];grind
   ·show (s + t) * (s' + t') * (p.2 + q.2)=_ * a.2 + _ * b.2
    have:(s + t) * (s' + t') * (p.2 + q.2)=(s' + t') * ((s + t) * p.2) + (s + t) * ((s' + t') * q.2):=by grind
    rw [this,x2,y2];grind
  rw [eL,em] at o
  have n1:=nn0 (show 0≤s' + t' by omega) hs
  have n2:=nn0 (show 0≤s + t by omega) hs'
  have n3:=nn0 (show 0≤s' + t' by omega) ht
  have n4:=nn0 (show 0≤s + t by omega) ht'
  exact h _ _ (by omega) (by omega) (by rw [← eL];have:=pp h0 h0';omega) o
theorem onS_flat {p a b:Pt} (ha:Bd a) (hb:Bd b) (hp:Bd p) (h:onS p a b=true):turnZ a b p=0∧0≤phi a b p∧phi a b p≤phi a b b:=by
 have g:=(onS_iff hp ha hb).1 h
 obtain ⟨h0,⟨h1,h2⟩,h3,h4⟩:=g
 refine ⟨h0,?_,?_⟩
 ·have e:phi a b p=(b.1 - a.1) * (p.1 - a.1) + (b.2 - a.2) * (p.2 - a.2):=by unfold phi dotZ;grind
  rw [e]
  have g1:0≤(b.1 - a.1) * (p.1 - a.1):=by
   rcases (show a.1≤b.1∨b.1≤a.1 by omega) with g|g
   ·exact nn0 (by omega) (by omega)
   ·exact mm0 (by omega) (by omega)
  have g2:0≤(b.2 - a.2) * (p.2 - a.2):=by
   rcases (show a.2≤b.2∨b.2≤a.2 by omega) with g|g
   ·exact nn0 (by omega) (by omega)
   ·exact mm0 (by omega) (by omega)
  omega
 ·have e:phi a b b - phi a b p=(b.1 - a.1) * (b.1 - p.1) + (b.2 - a.2) * (b.2 - p.2):=by unfold phi dotZ;grind
  have g1:0≤(b.1 - a.1) * (b.1 - p.1):=by
   rcases (show a.1≤b.1∨b.1≤a.1 by omega) with g|g
   ·exact nn0 (by omega) (by omega)
   ·exact mm0 (by omega) (by omega)
  have g2:0≤(b.2 - a.2) * (b.2 - p.2):=by
   rcases (show a.2≤b.2∨b.2≤a.2 by omega) with g|g
   ·exact nn0 (by omega) (by omega)
   ·exact mm0 (by omega) (by omega)
  omega
theorem flat_onS {p a b:Pt} (ha:Bd a) (hb:Bd b) (hp:Bd p) (hab:a≠b) (h0:turnZ a b p=0) (h1:0≤phi a b p) (h2:phi a b p≤phi a b b):onS p a b=true:=by
 have hN:=sq_pos hab
 refine OnM.onS ha hb hp (flat_mean hab ?_ ?_ h0 (by rw [phi_a];exact h1) h2 (by rw [phi_a,phi_b];exact hN))
 ·unfold turnZ;grind
 ·unfold turnZ;grind
theorem phi_inj {a b p q:Pt} (hab:a≠b) (hp:turnZ a b p=0) (hq:turnZ a b q=0) (h:phi a b p=phi a b q):p=q:=by
 have hN:=sq_pos hab
 obtain ⟨p1,p2⟩:=on_line hp
 obtain ⟨q1,q2⟩:=on_line hq
 have h':dotZ a b p=dotZ a b q:=by unfold phi at h;omega
 rw [h'] at p1 p2
 exact Prod.ext (Int.eq_of_mul_eq_mul_left (by omega) (p1.trans q1.symm)) (Int.eq_of_mul_eq_mul_left (by omega) (p2.trans q2.symm))
theorem cut_pair {xs:List Pt} {a b:Pt} (hr:roomOk xs=true) (ha:ptOk a=true) (hb:ptOk b=true) (hab:a≠b) {L w:Int} (hL:0 < L) (h0:0 < w) (h1:w < L * phi a b b) (hne:∀ r∈cutsOf xs a b,L * phi a b r≠w) :
  ∃ p q,p∈cutsOf xs a b∧q∈cutsOf xs a b∧L * phi a b p < w∧w < L * phi a b q∧∀ r∈cutsOf xs a b,r=p∨r=q∨phi a b r < phi a b p∨phi a b q < phi a b r:=by
 have ba:=bd_of_ok ha
 have bb:=bd_of_ok hb
 have hf:∀ r∈cutsOf xs a b,turnZ a b r=0:=fun r hr'=>by
  have h4:=on_pt40 ha hb (cuts_on hr')
  exact (onS_flat ba bb (by unfold Bd;omega) (cuts_on hr')).1
 have gm:∀ k,k < (cutsOf xs a b).length→pAt (cutsOf xs a b) k∈cutsOf xs a b:=fun k hk=>by rw [show pAt (cutsOf xs a b) k=(cutsOf xs a b)[k] from getD_lt _ hk];exact List.getElem_mem hk
 have mg:∀ r∈cutsOf xs a b,∃ k,k < (cutsOf xs a b).length∧pAt (cutsOf xs a b) k=r:=fun r hr'=>by
  obtain ⟨k,hk,e⟩:=List.getElem_of_mem hr'
  exact ⟨k,hk,by rw [show pAt (cutsOf xs a b) k=(cutsOf xs a b)[k] from getD_lt _ hk];exact e⟩
 have lt:∀ x y:Int,L * x < L * y↔x < y:=fun x y=>by
  constructor
  ·intro g
   rcases (show x < y∨y≤x by omega) with k|k
   ·exact k
   ·have:=Int.mul_le_mul_of_nonneg_left k (show 0≤L by omega);omega
  ·intro g
   have:=pp hL (show 0 < y - x by omega)
   rw [Int.mul_sub] at this;omega
 obtain ⟨ka,hka,ea⟩:=mg a (cuts_mem.2 (.inl rfl))
 obtain ⟨kb,hkb,eb⟩:=mg b (cuts_mem.2 (.inr (.inl rfl)))
 obtain ⟨i,⟨hi,hil⟩,him⟩:=ex_max (fun k=>k < (cutsOf xs a b).length∧L * phi a b (pAt (cutsOf xs a b) k) < w) (fun k=>phi a b (pAt (cutsOf xs a b) k)) (cutsOf xs a b).length (fun k h=>h.1) ⟨ka,hka,by rw [ea,phi_a,Int.mul_zero];exact h0⟩
 obtain ⟨j,⟨hj,hjl⟩,hjm⟩:=ex_max (fun k=>k < (cutsOf xs a b).length∧w < L * phi a b (pAt (cutsOf xs a b) k)) (fun k=>- phi a b (pAt (cutsOf xs a b) k)) (cutsOf xs a b).length (fun k h=>h.1) ⟨kb,hkb,by rw [eb];exact h1⟩
 refine ⟨_,_,gm i hi,gm j hj,hil,hjl,fun r hr'=>?_⟩
 obtain ⟨k,hk,e⟩:=mg r hr'
 have hn:=hne r hr'
 rcases (show L * phi a b r < w∨w < L * phi a b r by omega) with g|g
 ·have:=him k ⟨hk,by rw [e];exact g⟩
  rw [e] at this
  rcases (show phi a b r < phi a b (pAt (cutsOf xs a b) i)∨phi a b r=phi a b (pAt (cutsOf xs a b) i) by omega) with c|c
  ·exact .inr (.inr (.inl c))
  ·exact .inl (phi_inj hab (hf r hr') (hf _ (gm i hi)) c)
 ·have:=hjm k ⟨hk,by rw [e];exact g⟩
  rw [e] at this
  rcases (show phi a b (pAt (cutsOf xs a b) j) < phi a b r∨phi a b r=phi a b (pAt (cutsOf xs a b) j) by omega) with c|c
  ·exact .inr (.inr (.inr c))
  ·exact .inr (.inl (phi_inj hab (hf r hr') (hf _ (gm j hj)) c))
theorem Outp.desc {P:Poly} {K L:Int} (hL:0 < L) {m:Pt} (h:Outp P (L * K) (smul L m)):Outp P K m:=by
 obtain ⟨ho,g,hg,h0⟩:=h
 refine ⟨fun k hk=>?_,g,hg,?_⟩
 ·obtain ⟨f,fa,fb,fp⟩:=ho k hk
  have e:∀ x:Pt,(⟨L * f.u,L * f.v,f.w⟩:Aff).ev x=f.ev (smul L x):=fun x=>by unfold Aff.ev smul;grind
  rw [← smul2,← e] at fa fb
  rw [← e] at fp
  exact ⟨_,fa,fb,fp⟩
 ·rw [← wnd_scale g P hL,wnd_free (h2:=g) (show NC (g.sc L) from hg) hg ho,h0]
theorem open_part {P:Poly} {a b p q:Pt} (hab:a≠b) (p0:0≤phi a b p) (q1:phi a b q≤phi a b b) (nocut:∀ k,turnZ a b (P.v k)=0→phi a b p < phi a b (P.v k)→phi a b (P.v k) < phi a b q→False)
  {k:Nat} (nocross:¬ (Opp (turnZ a b (P.v k)) (turnZ a b (P.v (k + 1)))∧Opp (turnZ (P.v k) (P.v (k + 1)) a) (turnZ (P.v k) (P.v (k + 1)) b)))
  {S T S' T' L:Int} (hL:0 < L) (e:S + T=L) (e':S' + T'=L) (hS:0≤S) (hT:0≤T) (hS':0≤S') (hT':0≤T')
  (x1:L * phi a b p < T * phi a b b) (x2:T * phi a b b < L * phi a b q) (y1:L * phi a b p < T' * phi a b b) (y2:T' * phi a b b < L * phi a b q) (hne:P.v k≠P.v (k + 1))
  (ho:Off (padd (smul S a) (smul T b)) (smul L (P.v k)) (smul L (P.v (k + 1)))):Part (smul L (P.v k)) (smul L (P.v (k + 1))) (padd (smul S a) (smul T b)) (padd (smul S' a) (smul T' b)):=by
 have hN:=sq_pos hab
 rw [← phi_b] at hN
 have taa:turnZ a b a=0:=by unfold turnZ;grind
 have tbb:turnZ a b b=0:=by unfold turnZ;grind
 have pe:∀ v:Pt,(Aff.dot a b).ev v + phi a b b=phi a b v:=fun v=>by rw [ev_dot,phi_b];unfold phi;omega
 generalize hx:padd (smul S a) (smul T b)=x at *
 generalize hy:padd (smul S' a) (smul T' b)=y at *
 by_cases exy:x=y
 ·subst exy
  obtain ⟨f,fa,fb,fp⟩:=ho
  exact ⟨f,fa,fb,by omega,by omega⟩
 have hne':smul L (P.v k)≠smul L (P.v (k + 1)):=fun e=>hne (Prod.ext (Int.eq_of_mul_eq_mul_left (by omega) (congrArg Prod.fst e)) (Int.eq_of_mul_eq_mul_left (by omega) (congrArg Prod.snd e)))
 have Fx:∀ f:Aff,(f.sc L).ev x=S * f.ev a + T * f.ev b:=fun f=>by rw [← hx,← e];unfold Aff.ev Aff.sc padd smul;grind
 have Fy:∀ f:Aff,(f.sc L).ev y=S' * f.ev a + T' * f.ev b:=fun f=>by rw [← hy,← e'];unfold Aff.ev Aff.sc padd smul;grind
 have ends:∀ i,OnM (smul L (P.v i)) x y→False:=fun i hi=>by
  obtain ⟨σ,τ,hσ,hτ,h0,hf⟩:=hi
  have h1:=hf ((Aff.turn a b).sc L)
  have h2:=hf ((Aff.dot a b).sc L)
  rw [Fx,Fy,ev_sc0,ev_turn,ev_turn,ev_turn,taa,tbb] at h1
  rw [Fx,Fy,ev_sc0] at h2
  have e1:=pe a
  have e2:=pe b
  have e3:=pe (P.v i)
  rw [phi_a] at e1
  have t0:turnZ a b (P.v i)=0:=by
   have z:(σ + τ) * (L * turnZ a b (P.v i))=0:=by rw [h1];simp
   rcases Int.mul_eq_zero.1 z with z|z
   ·omega
   ·rcases Int.mul_eq_zero.1 z with z|z
    ·omega
    ·exact z
  have key:(σ + τ) * (L * phi a b (P.v i))=σ * (T * phi a b b) + τ * (T' * phi a b b):=by
   have hA:(Aff.dot a b).ev a=- phi a b b:=by omega
   have hB:(Aff.dot a b).ev b=0:=by omega
   have hD:(Aff.dot a b).ev (P.v i)=phi a b (P.v i) - phi a b b:=by omega
   rw [hA,hB,hD] at h2
   have hS1:S=L - T:=by omega
   have hS2:S'=L - T':=by omega
   rw [hS1,hS2] at h2
   have a1:(σ + τ) * (L * (phi a b (P.v i) - phi a b b))=(σ + τ) * (L * phi a b (P.v i)) - (σ + τ) * (L * phi a b b):=by grind
   have a2:σ * ((L - T) * - phi a b b + T * 0) + τ * ((L - T') * - phi a b b + T' * 0)=σ * (T * phi a b b) + τ * (T' * phi a b b) - (σ + τ) * (L * phi a b b):=by grind
   omega
  have low:∀ w:Int,L * w < T * phi a b b→L * w < T' * phi a b b→w < phi a b (P.v i):=fun w k1 k2=>by
   rcases (show w < phi a b (P.v i)∨phi a b (P.v i)≤w by omega) with g|g
   ·exact g
   ·exfalso
    have c0:=Int.mul_le_mul_of_nonneg_left g (show 0≤L by omega)
    have c1:=nn0 hσ (show 0≤T * phi a b b - L * phi a b (P.v i) - 1 by omega)
    have c2:=nn0 hτ (show 0≤T' * phi a b b - L * phi a b (P.v i) - 1 by omega)
    rw [Int.mul_sub,Int.mul_sub,Int.mul_one] at c1 c2
    rw [Int.add_mul] at key
    omega
  have high:∀ w:Int,T * phi a b b < L * w→T' * phi a b b < L * w→phi a b (P.v i) < w:=fun w k1 k2=>by
   rcases (show phi a b (P.v i) < w∨w≤phi a b (P.v i) by omega) with g|g
   ·exact g
   ·exfalso
    have c0:=Int.mul_le_mul_of_nonneg_left g (show 0≤L by omega)
    have c1:=nn0 hσ (show 0≤L * phi a b (P.v i) - T * phi a b b - 1 by omega)
    have c2:=nn0 hτ (show 0≤L * phi a b (P.v i) - T' * phi a b b - 1 by omega)
    rw [Int.mul_sub,Int.mul_sub,Int.mul_one] at c1 c2
    rw [Int.add_mul] at key
    omega
  exact nocut i t0 (low _ x1 y1) (high _ x2 y2)
 rcases part_or_on hne' exy with g|g|g|g|g|⟨g1,g2⟩
 ·exact g
 ·exact absurd ho g.not_off
 ·obtain ⟨σ,τ,hσ,hτ,h0,hf⟩:=g
  have hφ:∀ z:Pt,turnZ (smul L a) (smul L b) z=(L * (b.1 - a.1)) * (z.2 - L * a.2) - (L * (b.2 - a.2)) * (z.1 - L * a.1):=fun z=>by unfold turnZ smul;grind
  have e1:=hf ((Aff.turn a b).sc L)
  rw [Fy,ev_sc0,ev_sc0,ev_turn,ev_turn,ev_turn,ev_turn,taa,tbb] at e1
  have e2:=hf ((Aff.turn (P.v k) (P.v (k + 1))).sc L)
  have tv:turnZ (P.v k) (P.v (k + 1)) (P.v k)=0:=by unfold turnZ;grind
  have tv':turnZ (P.v k) (P.v (k + 1)) (P.v (k + 1))=0:=by unfold turnZ;grind
  rw [Fy,ev_sc0,ev_sc0,ev_turn,ev_turn,ev_turn,ev_turn,tv,tv'] at e2
  have hT0:0 < T':=by
   rcases (show 0 < T'∨T'=0 by omega) with c|c
   ·exact c
   ·rw [c,Int.zero_mul] at y1
    have:=nn0 (show 0≤L by omega) p0
    omega
  have hS0:0 < S':=by
   rcases (show 0 < S'∨S'=0 by omega) with c|c
   ·exact c
   ·rw [show T'=L by omega] at y2
    have:=Int.mul_le_mul_of_nonneg_left q1 (show 0≤L by omega)
    omega
  have hid:=tid a b (P.v k) (P.v (k + 1))
  by_cases s0:σ=0
  ·refine (ends (k + 1) ⟨0,1,by decide,by decide,by decide,fun f=>?_⟩).elim
   have:=hf f
   rw [s0] at this h0
   have:=Int.eq_of_mul_eq_mul_left (a:=τ) (show τ≠0 by omega) (show τ * f.ev y=τ * f.ev (smul L (P.v (k + 1))) by grind)
   grind
  by_cases t0:τ=0
  ·refine (ends k ⟨0,1,by decide,by decide,by decide,fun f=>?_⟩).elim
   have:=hf f
   rw [t0] at this h0
   have:=Int.eq_of_mul_eq_mul_left (a:=σ) (show σ≠0 by omega) (show σ * f.ev y=σ * f.ev (smul L (P.v k)) by grind)
   grind
  have k2:S' * turnZ (P.v k) (P.v (k + 1)) a + T' * turnZ (P.v k) (P.v (k + 1)) b=0:=by
   have z:(σ + τ) * (S' * turnZ (P.v k) (P.v (k + 1)) a + T' * turnZ (P.v k) (P.v (k + 1)) b)=0:=by rw [e2];simp
   rcases Int.mul_eq_zero.1 z with z|z
   ·omega
   ·exact z
  have k1:σ * turnZ a b (P.v k) + τ * turnZ a b (P.v (k + 1))=0:=by
   have z:L * (σ * turnZ a b (P.v k) + τ * turnZ a b (P.v (k + 1)))=0:=by
    have:L * (σ * turnZ a b (P.v k) + τ * turnZ a b (P.v (k + 1)))=σ * (L * turnZ a b (P.v k)) + τ * (L * turnZ a b (P.v (k + 1))):=by grind
    rw [this,← e1];simp
   rcases Int.mul_eq_zero.1 z with z|z
   ·omega
   ·exact z
  have s1:=sgn_of (show 0 < σ by omega) (show 0 < τ by omega) k1
  have s2:=sgn_of hS0 hT0 k2
  by_cases hC:turnZ a b (P.v k)=0
  ·have hD:turnZ a b (P.v (k + 1))=0:=by omega
   have TT:T≠T':=fun c=>exy (by rw [← hx,← hy,c,show S=S' by omega])
   have hLab:smul L a≠smul L b:=fun e=>hab (Prod.ext (Int.eq_of_mul_eq_mul_left (by omega) (congrArg Prod.fst e)) (Int.eq_of_mul_eq_mul_left (by omega) (congrArg Prod.snd e)))
   have lx:turnZ (smul L a) (smul L b) x=0:=by rw [← hx,← e];unfold turnZ smul padd;grind
   have ly:turnZ (smul L a) (smul L b) y=0:=by rw [← hy,← e'];unfold turnZ smul padd;grind
   have lv:turnZ (smul L a) (smul L b) (smul L (P.v k))=0:=by rw [turn_sc0,hC];simp
   have lv':turnZ (smul L a) (smul L b) (smul L (P.v (k + 1)))=0:=by rw [turn_sc0,hD];simp
   have fx:phi (smul L a) (smul L b) x=L * (T * phi a b b):=by rw [← hx,← e];unfold phi dotZ smul padd;grind
   have fy:phi (smul L a) (smul L b) y=L * (T' * phi a b b):=by rw [← hy,← e'];unfold phi dotZ smul padd;grind
   have X0:phi (smul L a) (smul L b) x≠phi (smul L a) (smul L b) y:=fun c=>by
    rw [fx,fy] at c
    exact TT (Int.eq_of_mul_eq_mul_right (by omega) (Int.eq_of_mul_eq_mul_left (by omega) c))
   have V0:phi (smul L a) (smul L b) (smul L (P.v k))≠phi (smul L a) (smul L b) (smul L (P.v (k + 1))):=fun c=>hne' (phi_inj hLab lv lv' c)
   have hY:=hf (Aff.dot (smul L a) (smul L b))
   have pe2:∀ v:Pt,(Aff.dot (smul L a) (smul L b)).ev v=phi (smul L a) (smul L b) v - phi (smul L a) (smul L b) (smul L b):=fun v=>by rw [ev_dot,phi_b];unfold phi;omega
   rw [pe2,pe2,pe2] at hY
   have hY2:(σ + τ) * phi (smul L a) (smul L b) y=σ * phi (smul L a) (smul L b) (smul L (P.v k)) + τ * phi (smul L a) (smul L b) (smul L (P.v (k + 1))):=by grind
   have mb:=mean_between hσ hτ h0 hY2
   have FM:=fun {p q c:Pt}=>flat_mean (p:=p) (q:=q) (c:=c) hLab
   have sw:∀ {c p q:Pt},OnM c p q→OnM c q p:=fun h=>by
    obtain ⟨s,t,hs,ht,h0,hf⟩:=h
    exact ⟨t,s,ht,hs,by omega,fun f=>by rw [Int.add_comm t s,hf];omega⟩
   have notx:OnM x (smul L (P.v k)) (smul L (P.v (k + 1)))→False:=fun h=>h.not_off ho
   rcases (show phi (smul L a) (smul L b) (smul L (P.v k)) < phi (smul L a) (smul L b) (smul L (P.v (k + 1)))∨phi (smul L a) (smul L b) (smul L (P.v (k + 1))) < phi (smul L a) (smul L b) (smul L (P.v k)) by omega) with d|d
   ·rcases (show phi (smul L a) (smul L b) x < phi (smul L a) (smul L b) (smul L (P.v k))∨phi (smul L a) (smul L b) (smul L (P.v (k + 1))) < phi (smul L a) (smul L b) x∨(phi (smul L a) (smul L b) (smul L (P.v k))≤phi (smul L a) (smul L b) x∧phi (smul L a) (smul L b) x≤phi (smul L a) (smul L b) (smul L (P.v (k + 1)))) by omega) with c|c|c
    ·exact (ends k (FM lx ly lv (by omega) (by omega) (by omega))).elim
    ·exact (ends (k + 1) (sw (FM ly lx lv' (by omega) (by omega) (by omega)))).elim
    ·exact (notx (FM lv lv' lx (by omega) (by omega) (by omega))).elim
   ·rcases (show phi (smul L a) (smul L b) x < phi (smul L a) (smul L b) (smul L (P.v (k + 1)))∨phi (smul L a) (smul L b) (smul L (P.v k)) < phi (smul L a) (smul L b) x∨(phi (smul L a) (smul L b) (smul L (P.v (k + 1)))≤phi (smul L a) (smul L b) x∧phi (smul L a) (smul L b) x≤phi (smul L a) (smul L b) (smul L (P.v k))) by omega) with c|c|c
    ·exact (ends (k + 1) (FM lx ly lv' (by omega) (by omega) (by omega))).elim
    ·exact (ends k (sw (FM ly lx lv (by omega) (by omega) (by omega)))).elim
    ·exact (notx (sw (FM lv' lv lx (by omega) (by omega) (by omega)))).elim
  ·exfalso
   unfold Opp at nocross
   omega
 ·exact (ends k g).elim
 ·exact (ends (k + 1) g).elim
 ·exfalso
  have c1:∀ v:Pt,turnZ x y (smul L v)=(T' - T) * (L * turnZ a b v):=fun v=>by
   rw [← hx,← hy]
   have hS1:S=L - T:=by omega
   have hS2:S'=L - T':=by omega
   rw [hS1,hS2];unfold turnZ smul padd;grind
  have c2:∀ u v:Pt,turnZ (smul L u) (smul L v) x=L * (S * turnZ u v a + T * turnZ u v b):=fun u v=>by rw [← hx,← e];unfold turnZ smul padd;grind
  have c3:∀ u v:Pt,turnZ (smul L u) (smul L v) y=L * (S' * turnZ u v a + T' * turnZ u v b):=fun u v=>by rw [← hy,← e'];unfold turnZ smul padd;grind
  rw [c1,c1] at g1
  rw [c2,c3] at g2
  have nn:∀ {w z:Int},0≤w→0≤z→0≤L * (S * w + T * z)∧0≤L * (S' * w + T' * z):=fun {w z} hw hz=>by
   have:=nn0 hS hw;have:=nn0 hT hz;have:=nn0 hS' hw;have:=nn0 hT' hz
   exact ⟨nn0 (by omega) (by omega),nn0 (by omega) (by omega)⟩
  have np:∀ {w z:Int},w≤0→z≤0→L * (S * w + T * z)≤0∧L * (S' * w + T' * z)≤0:=fun {w z} hw hz=>by
   have:=pm0 hS hw;have:=pm0 hT hz;have:=pm0 hS' hw;have:=pm0 hT' hz
   exact ⟨pm0 (by omega) (by omega),pm0 (by omega) (by omega)⟩
  have mp2:∀ z:Int,(0 < z→0 < L * z)∧(z < 0→L * z < 0)∧(z=0→L * z=0):=fun z=>⟨fun g=>pp hL g,fun g=>pm hL g,fun g=>by rw [g,Int.mul_zero]⟩
  refine nocross ⟨?_,?_⟩
  ·have m1:=mp2 (turnZ a b (P.v k))
   have m2:=mp2 (turnZ a b (P.v (k + 1)))
   generalize L * turnZ a b (P.v k)=w1 at *
   generalize L * turnZ a b (P.v (k + 1))=w2 at *
   have sgn3:∀ z:Int,(0 < z→(0 < T' - T→0 < (T' - T) * z)∧(T' - T < 0→(T' - T) * z < 0))∧(z < 0→(0 < T' - T→(T' - T) * z < 0)∧(T' - T < 0→0 < (T' - T) * z))∧(z=0→(T' - T) * z=0)∧(T' - T=0→(T' - T) * z=0):=fun z=>
    ⟨fun g=>⟨fun g2=>pp g2 g,fun g2=>mp g2 g⟩,fun g=>⟨fun g2=>pm g2 g,fun g2=>mm g2 g⟩,fun g=>by rw [g,Int.mul_zero],fun g=>by rw [g,Int.zero_mul]⟩
   have s1:=sgn3 w1
   have s2:=sgn3 w2
   unfold Opp
   omega
  ·generalize turnZ (P.v k) (P.v (k + 1)) a=A at *
   generalize turnZ (P.v k) (P.v (k + 1)) b=B at *
   unfold Opp
   rcases (show (0≤A∧0≤B)∨(A≤0∧B≤0)∨((A < 0∧0 < B)∨(B < 0∧0 < A)) by omega) with c|c|c
   ·have:=nn c.1 c.2;omega
   ·have:=np c.1 c.2;omega
   ·exact c
theorem noout_of {xs:List Pt} (hr:roomOk xs=true) {a b:Pt} (ha:ptOk a=true) (hb:ptOk b=true) (hsa:¬ Outp (roomP xs) 1 a) (hsb:¬ Outp (roomP xs) 1 b) (h:Sees xs a b):NoOut (roomP xs) a b:=by
 intro s t hs ht hst o
 have ba:=bd_of_ok ha
 have bb:=bd_of_ok hb
 have dsc:∀ c:Pt,¬ Outp (roomP xs) 1 c→padd (smul s a) (smul t b)=smul (s + t) c→False:=fun c hc e=>by
  rw [e] at o
  exact hc (Outp.desc hst (by rw [Int.mul_one];exact o))
 by_cases hab:a=b
 ·exact dsc a hsa (by rw [hab];unfold padd smul;simp [Int.add_mul])
 have hN:=sq_pos hab
 rw [← phi_b] at hN
 have t0:0 < t:=by
  rcases (show 0 < t∨t=0 by omega) with g|g
  ·exact g
  ·exact absurd (dsc a hsa (by subst g;unfold padd smul;simp)) (by simp)
 have s0:0 < s:=by
  rcases (show 0 < s∨s=0 by omega) with g|g
  ·exact g
  ·exact absurd (dsc b hsb (by subst g;unfold padd smul;simp)) (by simp)
 have w0:=pp t0 hN
 have w1:t * phi a b b < (s + t) * phi a b b:=by have:=pp s0 hN;rw [Int.add_mul];omega
 have hbr:=bd_of_room hr
 have flat:∀ r∈cutsOf xs a b,turnZ a b r=0∧0≤phi a b r∧phi a b r≤phi a b b:=fun r hr'=>by
  have h4:=on_pt40 ha hb (cuts_on hr')
  exact onS_flat ba bb (by unfold Bd;omega) (cuts_on hr')
 have at_:∀ r,turnZ a b r=0→(s + t) * phi a b r=t * phi a b b→padd (smul s a) (smul t b)=smul (s + t) r:=fun r h0 e=>by
  obtain ⟨p1,p2⟩:=on_line h0
  rw [← phi_b] at p1 p2
  have eφ:phi a b b + dotZ a b r=phi a b r:=by rw [phi_b];rfl
  rw [eφ] at p1 p2
  have hN0:phi a b b≠0:=by omega
  unfold padd smul
  refine Prod.ext ?_ ?_
  ·refine Int.eq_of_mul_eq_mul_left hN0 ?_
   show phi a b b * (s * a.1 + t * b.1)=phi a b b * ((s + t) * r.1)
   have e1:phi a b b * ((s + t) * r.1)=(s + t) * (phi a b b * r.1):=by grind
   rw [e1,p1]
   have e2:(s + t) * ((phi a b b - phi a b r) * a.1 + phi a b r * b.1)=((s + t) * phi a b b - (s + t) * phi a b r) * a.1 + ((s + t) * phi a b r) * b.1:=by grind
   rw [e2,e];grind
  ·refine Int.eq_of_mul_eq_mul_left hN0 ?_
   show phi a b b * (s * a.2 + t * b.2)=phi a b b * ((s + t) * r.2)
   have e1:phi a b b * ((s + t) * r.2)=(s + t) * (phi a b b * r.2):=by grind
   rw [e1,p2]
   have e2:(s + t) * ((phi a b b - phi a b r) * a.2 + phi a b r * b.2)=((s + t) * phi a b b - (s + t) * phi a b r) * a.2 + ((s + t) * phi a b r) * b.2:=by grind
   rw [e2,e];grind
 have hne:∀ r∈cutsOf xs a b,(s + t) * phi a b r≠t * phi a b b:=fun r hr' e=>by
  have em:=at_ r (flat r hr').1 e
  rcases cuts_mem.1 hr' with rfl|rfl|⟨hx,_⟩
  ·exact dsc _ hsa em
  ·exact dsc _ hsb em
  ·obtain ⟨k,hk,e⟩:=List.getElem_of_mem hx
   have ho:=o.1 k hk
   rw [em,show (roomP xs).v k=r from (pCy_lt hk).trans ((getD_lt _ hk).trans e)] at ho
   exact (Off.ne ho).1 rfl
 obtain ⟨p,q,hp,hq,hpw,hqw,hpq⟩:=cut_pair hr ha hb hab hst w0 w1 hne
 have nocut:∀ k,turnZ a b ((roomP xs).v k)=0→phi a b p < phi a b ((roomP xs).v k)→phi a b ((roomP xs).v k) < phi a b q→False:=fun k h0 g1 g2=>by
  have hk:k % xs.length < xs.length:=Nat.mod_lt _ (room_pos hr)
  have hc:(roomP xs).v k∈xs:=by
   rw [show (roomP xs).v k=xs[k % xs.length] from getD_lt _ hk];exact List.getElem_mem hk
  generalize (roomP xs).v k=c at *
  have hin:c∈cutsOf xs a b:=by
   by_cases e1:c=a
   ·exact cuts_mem.2 (.inl e1)
   ·by_cases e2:c=b
    ·exact cuts_mem.2 (.inr (.inl e2))
    ·have:=flat p hp
     have:=flat q hq
     exact cuts_mem.2 (.inr (.inr ⟨hc,e1,e2,flat_onS ba bb (hbr c hc) hab h0 (by omega) (by omega)⟩))
  rcases hpq c hin with e|e|e|e
  ·rw [e] at g1;omega
  ·rw [e] at g2;omega
  ·omega
  ·omega
 obtain ⟨fp,p0,pN⟩:=flat p hp
 obtain ⟨fq,q0,qN⟩:=flat q hq
 have p40:=on_pt40 ha hb (cuts_on hp)
 have q40:=on_pt40 ha hb (cuts_on hq)
 have ltL:∀ x y:Int,(s + t) * x < (s + t) * y→x < y:=fun x y g=>by
  rcases (show x < y∨y≤x by omega) with k|k
  ·exact k
  ·have:=Int.mul_le_mul_of_nonneg_left k (show 0≤s + t by omega);omega
 have lpq:phi a b p < phi a b q:=ltL _ _ (by omega)
 have hm:=h.2 p q hp hq (.inl (fun e=>by rw [e] at lpq;omega)) (fun r hr' n1 n2=>by
  cases hon:onS r p q with
  | false=>rfl
  | true=>
   exfalso
   have r40:=on_pt40 ha hb (cuts_on hr')
   obtain ⟨x,y,hx,hy,hxy,hf⟩:=onS_OnM (by unfold Bd;omega) (by unfold Bd;omega) (by unfold Bd;omega) hon
   have e:=hf (Aff.dot a b)
   rw [ev_dot,ev_dot,ev_dot] at e
   have pe:∀ v:Pt,dotZ a b v=phi a b v - phi a b b:=fun v=>by rw [phi_b];unfold phi;omega
   rw [pe,pe,pe] at e
   have e:(x + y) * phi a b r=x * phi a b p + y * phi a b q:=by
    have:(x + y) * (phi a b r - phi a b b)=(x + y) * phi a b r - (x + y) * phi a b b:=by rw [Int.mul_sub]
    rw [this] at e
    have:x * (phi a b p - phi a b b) + y * (phi a b q - phi a b b)=x * phi a b p + y * phi a b q - (x + y) * phi a b b:=by grind
    omega
   rcases hpq r hr' with c|c|c|c
   ·exact n1 c
   ·exact n2 c
   ·have c1:=nn0 hx (show 0≤phi a b p - phi a b r - 1 by omega)
    have c2:=nn0 hy (show 0≤phi a b q - phi a b r - 1 by omega)
    rw [Int.mul_sub,Int.mul_sub,Int.mul_one] at c1 c2
    rw [Int.add_mul] at e
    omega
   ·have c1:=nn0 hx (show 0≤phi a b r - phi a b p - 1 by omega)
    have c2:=nn0 hy (show 0≤phi a b r - phi a b q - 1 by omega)
    rw [Int.mul_sub,Int.mul_sub,Int.mul_one] at c1 c2
    rw [Int.add_mul] at e
    omega)
 refine hm ((mid_out hr p40 q40).2 ?_)
 obtain ⟨N,hNe⟩:∃ N,N=phi a b b:=⟨_,rfl⟩
 rw [← hNe] at hN w0 w1 hpw hqw pN qN
 have hL:0 < (s + t) * N * 2:=by have:=pp hst hN;omega
 refine Outp.desc (L:=(s + t) * N) (pp hst hN) ?_
 have ox:=o.scale (L:=N * 2) (by omega)
 have eL:N * 2 * (s + t)=(s + t) * N * 2:=by grind
 have eX:smul (N * 2) (padd (smul s a) (smul t b))=padd (smul (2 * s * N) a) (smul (2 * t * N) b):=by
  unfold smul padd
  refine Prod.ext ?_ ?_
  ·show N * 2 * (s * a.1 + t * b.1)=2 * s * N * a.1 + 2 * t * N * b.1;grind
  ·show N * 2 * (s * a.2 + t * b.2)=2 * s * N * a.2 + 2 * t * N * b.2;grind
 have coord:∀ r,turnZ a b r=0→N * r.1=(N - phi a b r) * a.1 + phi a b r * b.1∧N * r.2=(N - phi a b r) * a.2 + phi a b r * b.2:=fun r h0=>by
  have:=on_line h0
  rw [← phi_b,← hNe] at this
  have eφ:N + dotZ a b r=phi a b r:=by rw [hNe,phi_b];rfl
  rw [eφ] at this;exact this
 obtain ⟨cp1,cp2⟩:=coord p fp
 obtain ⟨cq1,cq2⟩:=coord q fq
 have eY:smul ((s + t) * N) (padd p q)=padd (smul ((s + t) * (2 * N - phi a b p - phi a b q)) a) (smul ((s + t) * (phi a b p + phi a b q)) b):=by
  unfold smul padd
  refine Prod.ext ?_ ?_
  ·show (s + t) * N * (p.1 + q.1)=_ * a.1 + _ * b.1
   have:(s + t) * N * (p.1 + q.1)=(s + t) * (N * p.1 + N * q.1):=by grind
   rw [this,cp1,cq1];grind
  ·show (s + t) * N * (p.2 + q.2)=_ * a.2 + _ * b.2
   have:(s + t) * N * (p.2 + q.2)=(s + t) * (N * p.2 + N * q.2):=by grind
   rw [this,cp2,cq2];grind
 rw [eX,eL] at ox
 rw [eY]
 obtain ⟨hox,g,hg,h0⟩:=ox
 have gx1:=pp hN (show 0 < t * N - (s + t) * phi a b p by omega)
 have gx2:=pp hN (show 0 < (s + t) * phi a b q - t * N by omega)
 have gy:=pp (pp hst hN) (show 0 < phi a b q - phi a b p by omega)
 have parts:∀ k,k < (roomP xs).n→Part (smul ((s + t) * N * 2) ((roomP xs).v k)) (smul ((s + t) * N * 2) ((roomP xs).v (k + 1))) (padd (smul (2 * s * N) a) (smul (2 * t * N) b)) (padd (smul ((s + t) * (2 * N - phi a b p - phi a b q)) a) (smul ((s + t) * (phi a b p + phi a b q)) b)):=fun k hk=>by
  refine open_part hab p0 (by rw [← hNe];exact qN) nocut ?_ hL ?_ ?_ ?_ ?_ ?_ ?_ ?_ ?_ ?_ ?_ ((room_simple hr).ne k) (hox k hk)
  ·rintro ⟨o1,o2⟩
   have hk:k < xs.length:=hk
   have c:=h.1 k hk
   have e1:(wl xs k).1=(roomP xs).v k:=(pCy_lt hk).symm
   have e2:(wl xs k).2=(roomP xs).v (k + 1):=rfl
   have b1:Bd (wl xs k).1:=pAt_bd hbr hk
   have b2:Bd (wl xs k).2:=pCy_bd hbr (room_pos hr)
   rw [← e1,← e2] at o1 o2
   unfold crs at c
   rw [turn_exact ba bb b1,turn_exact ba bb b2,turn_exact b1 b2 ba,turn_exact b1 b2 bb,decide_eq_true (sgn_opp.2 o1),decide_eq_true (sgn_opp.2 o2)] at c
   exact absurd c (by decide)
  ·grind
  ·grind
  ·have:=pp s0 hN;have e:2 * s * N=2 * (s * N):=by grind
   omega
  ·have:=pp t0 hN;have e:2 * t * N=2 * (t * N):=by grind
   omega
  ·exact nn0 (by omega) (by omega)
  ·exact nn0 (by omega) (by omega)
  ·rw [← hNe];grind
  ·rw [← hNe];grind
  ·rw [← hNe];grind
  ·rw [← hNe];grind
 exact ⟨fun k hk=>(parts k hk).off2,g,hg,by rw [← h0];exact (wnd_step g ((roomP xs).sc ((s + t) * N * 2)).way parts).symm⟩
theorem out_iff {xs:List Pt} (hr:roomOk xs=true) {p:Pt} (hp:Bd p):placeM xs p=0↔Outp (roomP xs) 1 p:=
 place_out hr (by decide) rfl (fun k=>(smul_one _).symm) (bd_of_room hr) hp
theorem seesS_noout {xs:List Pt} (hr:roomOk xs=true) {a b:Pt} (ha:ptOk a=true) (hb:ptOk b=true) (ia:placeM xs a≠0) (ib:placeM xs b≠0):seesS xs a b=true↔NoOut (roomP xs) a b:=
 (seesS_iff hr ha hb).trans ⟨noout_of hr ha hb (fun o=>ia ((out_iff hr (bd_of_ok ha)).2 o)) fun o=>ib ((out_iff hr (bd_of_ok hb)).2 o),sees_of hr ha hb⟩
theorem v_lt {xs:List Pt} {k:Nat} (hk:k < xs.length):(roomP xs).v k=pAt xs k:=pCy_lt hk
theorem corner_mem {xs:List Pt} {k:Nat} (hk:k < xs.length):pAt xs k∈xs:=by
 show xs.getD k _∈xs
 rw [getD_lt _ hk];exact List.getElem_mem hk
theorem corner_ok {xs:List Pt} (hr:roomOk xs=true) {k:Nat} (hk:k < xs.length):ptOk (pAt xs k)=true:=List.all_eq_true.1 (roomOk_iff.1 hr).2.1 _ (corner_mem hk)
theorem corner_in {xs:List Pt} (hr:roomOk xs=true) {k:Nat} (hk:k < xs.length):placeM xs (pAt xs k)≠0:=by
 intro h
 have:=((out_iff hr (bd_of_ok (corner_ok hr hk))).1 h).1 k hk
 rw [smul_one,smul_one,v_lt hk] at this
 exact (Off.ne this).1 rfl
end Go.Proofs.YtpafacebfogkmaaGreat.Geo
namespace Go.Proofs.YtpafacebfogkmaaGreat
def sub (b a:Pt):Pt:=(b.1 - a.1,b.2 - a.2)
end Go.Proofs.YtpafacebfogkmaaGreat
namespace Go.Proofs.YtpafacebfogkmaaGreat.Geo
abbrev partB (P:Poly) (m:Nat):Poly:=(P.rot m).arc (P.n - m)
theorem A_walls {P:Poly} {m:Nat} {Q:Pt→Pt→Prop}:(∀ k,k < (P.arc m).n→Q ((P.arc m).v k) ((P.arc m).v (k + 1)))↔(∀ k,k < m→Q (P.v k) (P.v (k + 1)))∧Q (P.v m) (P.v 0):=by
 constructor
 ·intro h
  refine ⟨fun k hk=>?_,?_⟩
  ·have:=h k (by show k < m + 1;omega)
   rwa [arc_v P (by omega),arc_v P (by omega)] at this
  ·have:=h m (by show m < m + 1;omega)
   rwa [arc_v P (Nat.le_refl m),arc_v0] at this
 ·rintro ⟨h1,h2⟩ k hk
  have hk:k < m + 1:=hk
  rcases (show k < m∨k=m by omega) with g|g
  ·rw [arc_v P (by omega),arc_v P (by omega)];exact h1 k g
  ·subst g;rw [arc_v P (Nat.le_refl k),arc_v0];exact h2
theorem B_v {P:Poly} {m j:Nat} (hm:m≤P.n) (hj:j≤P.n - m):(partB P m).v j=P.v (m + j):=arc_v (P.rot m) hj
theorem B_walls {P:Poly} {m:Nat} (hm:m < P.n) {Q:Pt→Pt→Prop}:(∀ k,k < (partB P m).n→Q ((partB P m).v k) ((partB P m).v (k + 1)))↔(∀ k,m≤k→k < P.n→Q (P.v k) (P.v (k + 1)))∧Q (P.v 0) (P.v m):=by
 have h:=A_walls (P:=P.rot m) (m:=P.n - m) (Q:=Q)
 have e1:(P.rot m).v (P.n - m)=P.v 0:=by show P.v (m + (P.n - m))=_;rw [show m + (P.n - m)=P.n by omega,P.vn]
 have e0:(P.rot m).v 0=P.v m:=by show P.v (m + 0)=_;rw [Nat.add_zero]
 rw [e1,e0] at h
 rw [h]
 refine and_congr ⟨fun g k h1 h2=>?_,fun g k hk=>?_⟩ Iff.rfl
 ·have:=g (k - m) (by omega)
  rwa [show (P.rot m).v (k - m)=P.v k by show P.v (m + (k - m))=_;rw [show m + (k - m)=k by omega],show (P.rot m).v (k - m + 1)=P.v (k + 1) by show P.v (m + (k - m + 1))=_;rw [show m + (k - m + 1)=k + 1 by omega]] at this
 ·exact g (m + k) (by omega) (by omega)
theorem P_walls {P:Poly} {m:Nat} (hm:m < P.n) {Q:Pt→Pt→Prop} (hA:∀ k,k < (P.arc m).n→Q ((P.arc m).v k) ((P.arc m).v (k + 1))) (hB:∀ k,k < (partB P m).n→Q ((partB P m).v k) ((partB P m).v (k + 1))):∀ k,k < P.n→Q (P.v k) (P.v (k + 1)):=fun k hk=>by
 rcases (show k < m∨m≤k by omega) with g|g
 ·exact (A_walls.1 hA).1 k g
 ·exact ((B_walls hm).1 hB).1 k g hk
theorem cut_sum (h:Aff) (P:Poly) (K:Int) {m:Nat} (hm:m≤P.n) (x:Pt):wnd h (P.sc K).way x=wnd h ((P.arc m).sc K).way x + wnd h ((partB P m).sc K).way x:=wnd_cut h (P.sc K) hm x
def OffP (P:Poly) (K:Int) (m:Pt):Prop:=∀ k,k < P.n→Off m (smul K (P.v k)) (smul K (P.v (k + 1)))
def Inn (P:Poly) (K:Int) (m:Pt):Prop:=OffP P K m∧∃ h,NC h∧wnd h (P.sc K).way m=1
theorem Outp.off {P:Poly} {K:Int} {m:Pt} (h:Outp P K m):OffP P K m:=h.1
theorem Outp.w {P:Poly} {K:Int} {m:Pt} (h:Outp P K m) {g:Aff} (hg:NC g):wnd g (P.sc K).way m=0:=by
 obtain ⟨ho,f,hf,e⟩:=h
 rw [← e];exact wnd_free hg hf ho
theorem Inn.w {P:Poly} {K:Int} {m:Pt} (h:Inn P K m) {g:Aff} (hg:NC g):wnd g (P.sc K).way m=1:=by
 obtain ⟨ho,f,hf,e⟩:=h
 rw [← e];exact wnd_free hg hf ho
def up:Aff:=⟨0,1,0⟩
theorem nc_up:NC up:=.inr (by decide)
theorem out_or_in {P:Poly} (hP:SimpleP P) (ha:0 < P.area) {K:Int} (hK:0 < K) {m:Pt} (ho:OffP P K m):Outp P K m∨Inn P K m:=by
 rcases wnd_zero_oneK hP ha hK nc_up ho with g|g
 ·exact .inl ⟨ho,up,nc_up,g⟩
 ·exact .inr ⟨ho,up,nc_up,g⟩
theorem Inn.not_out {P:Poly} {K:Int} {m:Pt} (h:Inn P K m):¬ Outp P K m:=fun o=>by
 have:=o.w nc_up
 rw [h.w nc_up] at this
 exact absurd this (by decide)
theorem OffP.scale {P:Poly} {K:Int} {m:Pt} (h:OffP P K m) {L:Int} (hL:0 < L):OffP P (L * K) (smul L m):=fun k hk=>by
 rw [← smul2,← smul2];exact (h k hk).sc hL
theorem Inn.scale {P:Poly} {K:Int} {m:Pt} (h:Inn P K m) {L:Int} (hL:0 < L):Inn P (L * K) (smul L m):=by
 obtain ⟨ho,g,hg,e⟩:=h
 exact ⟨OffP.scale ho hL,g.sc L,hg,by rw [wnd_scale g P hL];exact e⟩
theorem near {P:Poly} {K:Int} {x:Pt} (ho:OffP P K x) (d:Pt):Late fun L=>OffP P (L * K) (padd (smul L x) d)∧∀ h:Aff,wnd (h.sc L) (P.sc (L * K)).way (padd (smul L x) d)=wnd h (P.sc K).way x:=by
 have:Late fun L=>∀ k,k < P.n→Part (smul L (smul K (P.v k))) (smul L (smul K (P.v (k + 1)))) (padd (smul L x) d) (padd (smul L x) (0,0)):=Late.all fun k hk=>(ho k hk).near d (0,0)
 refine this.imp fun L hL g=>?_
 have e0:padd (smul L x) (0,0)=smul L x:=by unfold padd;simp
 rw [e0] at g
 refine ⟨fun k hk=>?_,fun h=>?_⟩
 ·have:=(g k hk).off1
  rwa [smul2,smul2] at this
 ·rw [← wnd_scale h P hL]
  refine wnd_step (h.sc L) (P.sc (L * K)).way fun k hk=>?_
  have:=g k hk
  rw [smul2,smul2] at this
  exact this
theorem wall_sides {Q:Poly} (hQ:SimpleP Q) {h:Aff} (hg:Gen h Q) {l:Int} (hl:LeftIs h Q.way l) {k:Nat} (hk:k < Q.n) {s t K:Int} (hs:0 < s) (ht:0 < t) (e:s + t=K) {x:Pt} (hx:x=padd (smul s (Q.v k)) (smul t (Q.v (k + 1)))) {d:Pt} :
  Late fun L=>(0 < turnZ (Q.v k) (Q.v (k + 1)) (padd (Q.v k) d)→wnd (h.sc (L * K)) (Q.sc (L * K)).way (padd (smul L x) d)=l∧OffP Q (L * K) (padd (smul L x) d)) ∧
   (turnZ (Q.v k) (Q.v (k + 1)) (padd (Q.v k) d) < 0→wnd (h.sc (L * K)) (Q.sc (L * K)).way (padd (smul L x) d)=l - 1∧OffP Q (L * K) (padd (smul L x) d)):=by
 have hn:=hQ.n3
 have hK:0 < K:=by omega
 have hon:OnI x (smul K (Q.v k)) (smul K (Q.v (k + 1))):=by
  refine ⟨s,t,hs,ht,?_,?_⟩
  ·rw [hx,← e];unfold padd smul;simp only;grind
  ·rw [hx,← e];unfold padd smul;simp only;grind
 have hoff:∀ j,j < Q.n→j≠k→Off x (smul K (Q.v j)) (smul K (Q.v (j + 1))):=fun j hj hjk=>by
  have:=(hQ.simple.sc hK).inn (k:=k) hk hon hon (j:=j) hj hjk
  exact this.off1
 have:Late fun L=>∀ j,j < Q.n→j≠k→Part (smul L (smul K (Q.v j))) (smul L (smul K (Q.v (j + 1)))) (padd (smul L x) d) (padd (smul L x) (0,0)):=Late.all fun j hj=>by
  by_cases hjk:j=k
  ·exact Late.of fun _ _ h=>absurd hjk h
  ·exact ((hoff j hj hjk).near d (0,0)).imp fun _ _ g _=>g
 refine this.imp fun L hL g=>?_
 have e0:padd (smul L x) (0,0)=smul L x:=by unfold padd;simp
 rw [e0] at g
 have hLK:0 < L * K:=pp hL hK
 have g':∀ j,j < Q.n→j≠k→Part (smul (L * K) (Q.v j)) (smul (L * K) (Q.v (j + 1))) (padd (smul L x) d) (smul L x):=fun j hj hjk=>by
  have:=g j hj hjk
  rwa [smul2,smul2] at this
 have honL:OnI (smul L x) (smul (L * K) (Q.v k)) (smul (L * K) (Q.v (k + 1))):=by
  have:=smul_on hL hon
  rwa [smul2,smul2] at this
 have hlam:=hl.2.1 (L * K) k (smul L x) hLK hk honL
 have hsl:Sloped (h.sc (L * K)) (Q.way.sc (L * K)):=fun j hj=>by
  have:=hg.sloped (by omega) j hj
  show (h.sc (L * K)).ev (smul (L * K) (Q.v j))≠(h.sc (L * K)).ev (smul (L * K) (Q.v (j + 1)))
  rw [ev_sc0,ev_sc0]
  exact fun e=>this (Int.eq_of_mul_eq_mul_left (by omega) e)
 have hturn:turnZ (smul (L * K) (Q.v k)) (smul (L * K) (Q.v (k + 1))) (padd (smul L x) d)=(L * K) * turnZ (Q.v k) (Q.v (k + 1)) (padd (Q.v k) d):=by
  rw [hx,← e];unfold turnZ padd smul;grind
 have off:turnZ (Q.v k) (Q.v (k + 1)) (padd (Q.v k) d)≠0→OffP Q (L * K) (padd (smul L x) d):=fun hne j hj=>by
  by_cases hjk:j=k
  ·subst hjk
   exact off_turn (by rw [hturn];exact fun e=>by rcases Int.mul_eq_zero.1 e with q|q <;> omega)
  ·exact (g' j hj hjk).off1
 refine ⟨fun hp=>⟨?_,off (by omega)⟩,fun hp=>⟨?_,off (by omega)⟩⟩
 ·have:=wnd_left hsl (k:=k) hk honL (fun j hj hjk=>g' j hj hjk) (by show 0 < turnZ (smul (L * K) (Q.v k)) (smul (L * K) (Q.v (k + 1))) _;rw [hturn];exact pp hLK hp)
  rw [hlam] at this;exact this
 ·have:=wnd_right hsl (k:=k) hk honL (fun j hj hjk=>g' j hj hjk) (by show turnZ (smul (L * K) (Q.v k)) (smul (L * K) (Q.v (k + 1))) _ < 0;rw [hturn];exact pm hLK hp)
  rw [hlam] at this;exact this
theorem chord_off {P:Poly} {m:Nat} (c:Chord P m) {s t K:Int} (hs:0 < s) (ht:0 < t) (e:s + t=K):OffP P K (padd (smul s (P.v 0)) (smul t (P.v m))):=by
 have hm2:=c.m2
 have hmn:=c.mn
 have hK:0 < K:=by omega
 have hon:OnI (padd (smul s (P.v 0)) (smul t (P.v m))) (smul K (P.v 0)) (smul K (P.v m)):=by
  refine ⟨s,t,hs,ht,?_,?_⟩
  ·rw [← e];unfold padd smul;simp only;grind
  ·rw [← e];unfold padd smul;simp only;grind
 have bend:∀ {a b z:Pt},Bends a b z→OnI (padd (smul s (P.v 0)) (smul t (P.v m))) (smul K a) (smul K b)→Off (padd (smul s (P.v 0)) (smul t (P.v m))) (smul K b) (smul K z):=fun hb ho=>((hb.sc hK).part ho ho).off1
 intro k hk
 rcases (show k=0∨k + 1=m∨k=m∨k + 1=P.n∨(0 < k∧k + 1 < P.n∧k≠m∧k + 1≠m) by omega) with g|g|g|g|⟨g1,g2,g3,g4⟩
 ·subst g;exact bend c.b0.1.1 hon.swap
 ·have:=bend c.bm.1.1 hon
  rw [← g] at this ⊢
  rw [show k + 1 - 1=k by omega] at this
  exact this.swap
 ·subst g;exact bend c.bm.2.1 hon
 ·have:=bend c.b0.2.1 hon.swap
  rw [show P.n - 1=k by omega] at this
  rw [g,P.vn];exact this.swap
 ·exact (((c.apart k g1 g2 g3 g4).sc hK).inn hon hon).off1
theorem sc_sc (h:Aff) (L K:Int):(h.sc K).sc L=h.sc (L * K):=by unfold Aff.sc;rw [Int.mul_assoc]
theorem chord_sum {P:Poly} (hP:SimpleP P) {m:Nat} (c:Chord P m) {h:Aff} (hg:Gen h P) {l1 l2:Int} (hA:LeftIs h (P.arc m).way l1) (hB:LeftIs h (partB P m).way l2) {s t K:Int} (hs:0 < s) (ht:0 < t) (e:s + t=K) :
  wnd (h.sc K) (P.sc K).way (padd (smul s (P.v 0)) (smul t (P.v m)))=l1 + l2 - 1:=by
 have hm2:=c.m2
 have hmn:=c.mn
 have hSA:=hP.arc c
 have hSB:SimpleP (partB P m):=(hP.rot m).arc c.rot
 have hgA:Gen h (P.arc m):=hg.arc (by omega)
 have hgB:Gen h (partB P m):=(hg.rot m).arc (by show P.n - m < P.n;omega)
 have hab:P.v 0≠P.v m:=hP.inj (by omega) (by omega) (by omega)
 have hN:=sq_pos hab
 have nB:P.n - m < (partB P m).n:=by show P.n - m < P.n - m + 1;omega
 have bB0:(partB P m).v (P.n - m)=P.v 0:=by rw [B_v (by omega) (by omega),show m + (P.n - m)=P.n by omega,P.vn]
 have bB1:(partB P m).v (P.n - m + 1)=P.v m:=by show (P.rot m).v ((P.n - m + 1) % (P.n - m + 1))=_;rw [Nat.mod_self];show P.v (m + 0)=_;rw [Nat.add_zero]
 have lA:=wall_sides hSA hgA hA (k:=m) (by show m < m + 1;omega) ht hs (show t + s=K by omega) (x:=padd (smul s (P.v 0)) (smul t (P.v m))) (by rw [arc_v P (Nat.le_refl m),arc_v0];unfold padd smul;refine Prod.ext ?_ ?_ <;> simp only <;> omega) (d:=rotP (psub (P.v 0) (P.v m)))
 have lB:=wall_sides hSB hgB hB (k:=P.n - m) nB hs ht e (x:=padd (smul s (P.v 0)) (smul t (P.v m))) (by rw [bB0,bB1]) (d:=rotP (psub (P.v 0) (P.v m)))
 obtain ⟨L,hL,⟨gA,gB⟩,gP⟩:=((lA.and lB).and (near (chord_off c hs ht e) (rotP (psub (P.v 0) (P.v m))))).get
 rw [arc_v P (Nat.le_refl m),arc_v0] at gA
 rw [bB0,bB1] at gB
 have tA:0 < turnZ (P.v m) (P.v 0) (padd (P.v m) (rotP (psub (P.v 0) (P.v m)))):=by
  have:turnZ (P.v m) (P.v 0) (padd (P.v m) (rotP (psub (P.v 0) (P.v m))))=((P.v m).1 - (P.v 0).1) * ((P.v m).1 - (P.v 0).1) + ((P.v m).2 - (P.v 0).2) * ((P.v m).2 - (P.v 0).2):=by unfold turnZ padd rotP psub;grind
  omega
 have tB:turnZ (P.v 0) (P.v m) (padd (P.v 0) (rotP (psub (P.v 0) (P.v m)))) < 0:=by
  have:turnZ (P.v 0) (P.v m) (padd (P.v 0) (rotP (psub (P.v 0) (P.v m))))=-(((P.v m).1 - (P.v 0).1) * ((P.v m).1 - (P.v 0).1) + ((P.v m).2 - (P.v 0).2) * ((P.v m).2 - (P.v 0).2)):=by unfold turnZ padd rotP psub;grind
  omega
 have wA:=(gA.1 tA).1
 have wB:=(gB.2 tB).1
 have wP:=gP.2 (h.sc K)
 rw [sc_sc,cut_sum _ P _ (show m≤P.n by omega),wA,wB] at wP
 omega
structure Cut (P:Poly) (m:Nat):Prop where
 c:Chord P m
 a:0 < (P.arc m).area
 b:0 < (partB P m).area
theorem left_of_area {P:Poly} (hP:SimpleP P) {h:Aff} (hg:Gen h P) (ha:0 < P.area):LeftIs h P.way 1:=((pos_iff hP hg).2 ha).left hP hg
theorem left_ex {P:Poly} (hP:SimpleP P) {h:Aff} (hg:Gen h P):∃ l,LeftIs h P.way l∧(l=1→0 < P.area):=by
 obtain ⟨s,hs⟩:=hg.low hP.n3
 rcases side_or hP hg hs with ⟨g,q⟩|⟨g,q⟩
 ·exact ⟨1,g,fun _=>area_pos hP hg ⟨s,hs,q⟩⟩
 ·exact ⟨0,g,fun e=>by omega⟩
theorem cut_of {P:Poly} (hP:SimpleP P) {m:Nat} (c:Chord P m) {s t K:Int} (hs:0 < s) (ht:0 < t) (e:s + t=K) (hin:Inn P K (padd (smul s (P.v 0)) (smul t (P.v m)))):Cut P m:=by
 have hm2:=c.m2
 have hmn:=c.mn
 have hSA:=hP.arc c
 have hSB:SimpleP (partB P m):=(hP.rot m).arc c.rot
 obtain ⟨M,-,hg⟩:=(hM_gen hP).get
 obtain ⟨l1,hA,a1⟩:=left_ex hSA (hg.arc (by omega))
 obtain ⟨l2,hB,a2⟩:=left_ex hSB (h:=hM M) ((hg.rot m).arc (by show P.n - m < P.n;omega))
 have:=chord_sum hP c hg hA hB hs ht e
 rw [hin.w (g:=(hM M).sc K) (.inl (show (1:Int)≠0 by decide))] at this
 have b1:=hA.1
 have b2:=hB.1
 exact ⟨c,a1 (by omega),a2 (by omega)⟩
theorem Cut.simA {P:Poly} (hP:SimpleP P) {m:Nat} (c:Cut P m):SimpleP (P.arc m):=hP.arc c.c
theorem Cut.simB {P:Poly} (hP:SimpleP P) {m:Nat} (c:Cut P m):SimpleP (partB P m):=(hP.rot m).arc c.c.rot
theorem Cut.area {P:Poly} {m:Nat} (c:Cut P m):0 < P.area:=by
 have:=area_cut P (m:=m) (by have:=c.c.mn;omega)
 have h1:=c.a
 have h2:0 < ((P.rot m).arc (P.n - m)).area:=c.b
 omega
theorem Cut.inn {P:Poly} (hP:SimpleP P) {m:Nat} (c:Cut P m) {s t K:Int} (hs:0 < s) (ht:0 < t) (e:s + t=K):Inn P K (padd (smul s (P.v 0)) (smul t (P.v m))):=by
 have hm2:=c.c.m2
 have hmn:=c.c.mn
 obtain ⟨M,-,hg⟩:=(hM_gen hP).get
 have:=chord_sum hP c.c hg (left_of_area (c.simA hP) (hg.arc (by omega)) c.a) (left_of_area (c.simB hP) ((hg.rot m).arc (by show P.n - m < P.n;omega)) c.b) hs ht e
 exact ⟨chord_off c.c hs ht e,(hM M).sc K,.inl (show (1:Int)≠0 by decide),this⟩
theorem Cut.out {P:Poly} {m:Nat} (c:Cut P m) {K:Int} {x:Pt} (hA:Outp (P.arc m) K x) (hB:Outp (partB P m) K x):Outp P K x:=by
 have hmn:=c.c.mn
 refine ⟨P_walls (m:=m) (by omega) (Q:=fun a b=>Off x (smul K a) (smul K b)) hA.1 hB.1,up,nc_up,?_⟩
 rw [cut_sum _ P K (show m≤P.n by omega),hA.w nc_up,hB.w nc_up];rfl
theorem Cut.out_both {P:Poly} (hP:SimpleP P) {m:Nat} (c:Cut P m) {K:Int} (hK:0 < K) {x:Pt} (h:Outp P K x):Outp (P.arc m) K x∧Outp (partB P m) K x:=by
 have hm2:=c.c.m2
 have hmn:=c.c.mn
 have hab:P.v 0≠P.v m:=hP.inj (by omega) (by omega) (by omega)
 have habK:smul K (P.v 0)≠smul K (P.v m):=fun e=>hab (Prod.ext (Int.eq_of_mul_eq_mul_left (by omega) (congrArg Prod.fst e)) (Int.eq_of_mul_eq_mul_left (by omega) (congrArg Prod.snd e)))
 have hoff:Off x (smul K (P.v 0)) (smul K (P.v m)):=by
  rcases off_or_on x habK with g|g
  ·exact g
  ·exfalso
   obtain ⟨s,t,hs,ht,h0,hf⟩:=g
   have x1:=hf ⟨1,0,0⟩
   have x2:=hf ⟨0,1,0⟩
   simp only [Aff.ev,Int.one_mul,Int.zero_mul,Int.zero_add,Int.add_zero] at x1 x2
   have ends:∀ j,j < P.n→x≠smul K (P.v j):=fun j hj e=>by
    have:=h.1 j hj
    rw [e] at this
    exact (Off.ne this).1 rfl
   by_cases s0:s=0
   ·refine ends m (by omega) (Prod.ext ?_ ?_)
    ·rw [s0] at x1;exact Int.eq_of_mul_eq_mul_left (show t≠0 by omega) (by simpa using x1)
    ·rw [s0] at x2;exact Int.eq_of_mul_eq_mul_left (show t≠0 by omega) (by simpa using x2)
   by_cases t0:t=0
   ·refine ends 0 (by omega) (Prod.ext ?_ ?_)
    ·rw [t0] at x1;exact Int.eq_of_mul_eq_mul_left (show s≠0 by omega) (by simpa using x1)
    ·rw [t0] at x2;exact Int.eq_of_mul_eq_mul_left (show s≠0 by omega) (by simpa using x2)
   have hi:=c.inn hP (s:=s * K) (t:=t * K) (K:=(s + t) * K) (pp (by omega) hK) (pp (by omega) hK) (by rw [Int.add_mul])
   have ho:=h.scale (L:=s + t) h0
   have e:smul (s + t) x=padd (smul (s * K) (P.v 0)) (smul (t * K) (P.v m)):=by
    unfold smul padd at *
    refine Prod.ext ?_ ?_
    ·show (s + t) * x.1=s * K * (P.v 0).1 + t * K * (P.v m).1
     rw [x1];grind
    ·show (s + t) * x.2=s * K * (P.v 0).2 + t * K * (P.v m).2
     rw [x2];grind
   rw [e] at ho
   exact hi.not_out ho
 have oA:OffP (P.arc m) K x:=A_walls (Q:=fun a b=>Off x (smul K a) (smul K b)) |>.2 ⟨fun k hk=>h.1 k (by omega),hoff.swap⟩
 have oB:OffP (partB P m) K x:=(B_walls (show m < P.n by omega) (Q:=fun a b=>Off x (smul K a) (smul K b))).2 ⟨fun k _ hk=>h.1 k hk,hoff⟩
 have sum:=cut_sum up P K (show m≤P.n by omega) x
 rw [h.w nc_up] at sum
 have wA:=wnd_zero_oneK (c.simA hP) c.a hK nc_up oA
 have wB:=wnd_zero_oneK (c.simB hP) c.b hK nc_up oB
 exact ⟨⟨oA,up,nc_up,by omega⟩,⟨oB,up,nc_up,by omega⟩⟩
theorem corner_not_out (P:Poly) (j:Nat) (hn:0 < P.n):¬ Outp P 1 (P.v j):=fun h=>by
 have:=h.1 (j % P.n) (Nat.mod_lt _ hn)
 rw [smul_one,smul_one,P.per_mod] at this
 exact (Off.ne this).1 rfl
theorem tri_area' {P:Poly} (hn:P.n=3):P.area=turnZ (P.v 0) (P.v 1) (P.v 2):=by
 unfold Poly.area;rw [hn];simp only [sumN]
 have e:=P.vn;rw [hn] at e;rw [e]
 unfold crs0 turnZ;grind
theorem tri_turns {P:Poly} (hn:P.n=3) (j:Nat):turnZ (P.v j) (P.v (j + 1)) (P.v (j + 2))=turnZ (P.v 0) (P.v 1) (P.v 2):=by
 have c3:∀ j,P.v (j + 3)=P.v j:=fun j=>by rw [← hn,P.per]
 have t1:turnZ (P.v 1) (P.v 2) (P.v 3)=turnZ (P.v 0) (P.v 1) (P.v 2):=by rw [c3 0];unfold turnZ;grind
 have t2:turnZ (P.v 2) (P.v 3) (P.v 4)=turnZ (P.v 0) (P.v 1) (P.v 2):=by rw [c3 0,c3 1];unfold turnZ;grind
 have hm:∀ i d,P.v (i + d)=P.v (i % 3 + d):=fun i d=>by rw [← hn,P.per_add]
 have h0:P.v j=P.v (j % 3):=by have:=hm j 0;simpa using this
 rw [h0,hm j 1,hm j 2]
 rcases (show j % 3=0∨j % 3=1∨j % 3=2 by omega) with q|q|q <;> rw [q]
 ·exact t1
 ·exact t2
theorem Outp.rot {P:Poly} {K:Int} {x:Pt} (h:Outp P K x) (s:Nat):Outp (P.rot s) K x:=by
 obtain ⟨ho,g,hg,e⟩:=h
 refine ⟨fun k hk=>?_,g,hg,by rw [← e];exact wnd_rot g (P.sc K) s x⟩
 have hn:0 < P.n:=by have hk:k < P.n:=hk;omega
 have:=ho ((s + k) % P.n) (Nat.mod_lt _ hn)
 rw [P.per_mod,P.per_add] at this
 exact this
theorem Outp.rot_iff {P:Poly} {K:Int} {x:Pt} (hn:1≤P.n) (s:Nat):Outp (P.rot s) K x↔Outp P K x:=
 ⟨fun h=>by have:=h.rot (s * (P.n - 1));rw [rot_back P s hn] at this;exact this,fun h=>h.rot s⟩
theorem NoOut.rot_iff {P:Poly} {a b:Pt} (hn:1≤P.n) (s:Nat):NoOut (P.rot s) a b↔NoOut P a b:=
 ⟨fun h s' t' hs ht hst o=>h s' t' hs ht hst (o.rot s),fun h s' t' hs ht hst o=>h s' t' hs ht hst ((Outp.rot_iff hn s).1 o)⟩
theorem Cut.rot {P:Poly} {m:Nat} (c:Cut P m):Cut (P.rot m) (P.n - m)∧partB (P.rot m) (P.n - m)=P.arc m:=by
 have hm2:=c.c.m2
 have hmn:=c.c.mn
 have e:partB (P.rot m) (P.n - m)=P.arc m:=by
  have e1:(P.rot m).rot (P.n - m)=P:=by
   rw [rot_rot]
   exact Poly.ext' rfl fun j=>by show P.v (m + (P.n - m) + j)=P.v j;rw [show m + (P.n - m) + j=j + P.n by omega,P.per]
  show ((P.rot m).rot (P.n - m)).arc (P.n - (P.n - m))=P.arc m
  rw [e1,show P.n - (P.n - m)=m by omega]
 exact ⟨⟨c.c.rot,c.b,by rw [e];exact c.a⟩,e⟩
theorem Cut.wall {P:Poly} (hP:SimpleP P) {m:Nat} (c:Cut P m) {k:Nat} (h1:m≤k) (h2:k < P.n) {s t K:Int} (hs:0 < s) (ht:0 < t) (e:s + t=K) (hin:Inn (P.arc m) K (padd (smul s (P.v k)) (smul t (P.v (k + 1))))):False:=by
 have hm2:=c.c.m2
 have hmn:=c.c.mn
 have hK:0 < K:=by omega
 have hSB:=c.simB hP
 obtain ⟨M,-,hg⟩:=(hM_gen hP).get
 have hgB:Gen (hM M) (partB P m):=(hg.rot m).arc (by show P.n - m < P.n;omega)
 have b0:(partB P m).v (k - m)=P.v k:=by rw [B_v (by omega) (by omega),show m + (k - m)=k by omega]
 have b1:(partB P m).v (k - m + 1)=P.v (k + 1):=by rw [B_v (by omega) (by omega),show m + (k - m + 1)=k + 1 by omega]
 have hab:P.v k≠P.v (k + 1):=hP.ne k
 have hN:=sq_pos hab
 have lB:=wall_sides hSB hgB (left_of_area hSB hgB c.b) (k:=k - m) (by show k - m < P.n - m + 1;omega) hs ht e (x:=padd (smul s (P.v k)) (smul t (P.v (k + 1)))) (by rw [b0,b1]) (d:=rotP (psub (P.v (k + 1)) (P.v k)))
 obtain ⟨L,hL,gB,gA⟩:=(lB.and (near hin.1 (rotP (psub (P.v (k + 1)) (P.v k))))).get
 rw [b0,b1] at gB
 have tB:0 < turnZ (P.v k) (P.v (k + 1)) (padd (P.v k) (rotP (psub (P.v (k + 1)) (P.v k)))):=by
  have:turnZ (P.v k) (P.v (k + 1)) (padd (P.v k) (rotP (psub (P.v (k + 1)) (P.v k))))=((P.v (k + 1)).1 - (P.v k).1) * ((P.v (k + 1)).1 - (P.v k).1) + ((P.v (k + 1)).2 - (P.v k).2) * ((P.v (k + 1)).2 - (P.v k).2):=by unfold turnZ padd rotP psub;grind
  omega
 obtain ⟨wB,oB⟩:=gB.1 tB
 obtain ⟨oA,wA⟩:=gA
 have wA:=wA ((hM M).sc K)
 rw [hin.w (g:=(hM M).sc K) (.inl (show (1:Int)≠0 by decide)),sc_sc] at wA
 have sum:=cut_sum ((hM M).sc (L * K)) P (L * K) (show m≤P.n by omega) (padd (smul L (padd (smul s (P.v k)) (smul t (P.v (k + 1))))) (rotP (psub (P.v (k + 1)) (P.v k))))
 rw [wA,wB] at sum
 have:=wnd_zero_oneK hP c.area (pp hL hK) (h:=(hM M).sc (L * K)) (.inl (show (1:Int)≠0 by decide)) (P_walls (m:=m) (by omega) (Q:=fun a b=>Off _ (smul (L * K) a) (smul (L * K) b)) oA oB)
 omega
theorem Cut.corner {P:Poly} (hP:SimpleP P) {m:Nat} (c:Cut P m) {j:Nat} (h1:m < j) (h2:j < P.n):Outp (P.arc m) 1 (P.v j):=by
 have hm2:=c.c.m2
 have hmn:=c.c.mn
 have ho:OffP (P.arc m) 1 (P.v j):=A_walls (Q:=fun a b=>Off (P.v j) (smul 1 a) (smul 1 b)) |>.2 ⟨fun k hk=>by
  rw [smul_one,smul_one]
  exact hP.offI (by omega) h2 (by omega) (by omega) (by omega),by rw [smul_one,smul_one];exact (c.c.off j (by omega) h2 (by omega)).swap⟩
 rcases out_or_in (c.simA hP) c.a (by decide) ho with g|g
 ·exact g
 ·exfalso
  obtain ⟨L,hL,⟨gA,wA⟩,h2L⟩:=((near ho (psub (P.v (j + 1)) (P.v j))).and (Late.ge 2)).get
  refine c.wall hP (k:=j) (by omega) h2 (s:=L - 1) (t:=1) (K:=L * 1) (by omega) (by decide) (by omega) ?_
  have e:padd (smul (L - 1) (P.v j)) (smul 1 (P.v (j + 1)))=padd (smul L (P.v j)) (psub (P.v (j + 1)) (P.v j)):=by
   unfold padd smul psub
   refine Prod.ext ?_ ?_ <;> simp only <;> grind
  rw [e]
  exact ⟨gA,up.sc L,nc_up,by rw [wA up];exact g.w nc_up⟩
theorem Cut.inn_of {P:Poly} (hP:SimpleP P) {m:Nat} (c:Cut P m) {K:Int} (hK:0 < K) {x:Pt} (h:Inn (P.arc m) K x):Inn P K x:=by
 have hm2:=c.c.m2
 have hmn:=c.c.mn
 have hA:=A_walls (Q:=fun a b=>Off x (smul K a) (smul K b)) |>.1 h.1
 have corner:∀ j,m≤j→j≤P.n→x≠smul K (P.v j):=fun j g1 g2 e=>by
  rcases (show j=m∨j=P.n∨(m < j∧j < P.n) by omega) with q|q|⟨q1,q2⟩
  ·have:=hA.2
   rw [e,q] at this
   exact (Off.ne this).1 rfl
  ·have:=hA.2
   rw [e,q,P.vn] at this
   exact (Off.ne this).2 rfl
  ·have:=(c.corner hP q1 q2).scale (L:=K) hK
   rw [Int.mul_one,← e] at this
   exact h.not_out this
 have oP:OffP P K x:=fun k hk=>by
  rcases (show k < m∨m≤k by omega) with g|g
  ·exact hA.1 k g
  ·have hne:smul K (P.v k)≠smul K (P.v (k + 1)):=fun e=>hP.ne k (Prod.ext (Int.eq_of_mul_eq_mul_left (by omega) (congrArg Prod.fst e)) (Int.eq_of_mul_eq_mul_left (by omega) (congrArg Prod.snd e)))
   rcases off_or_on x hne with q|q
   ·exact q
   ·exfalso
    obtain ⟨s,t,hs,ht,h0,hf⟩:=q
    have x1:=hf ⟨1,0,0⟩
    have x2:=hf ⟨0,1,0⟩
    simp only [Aff.ev,Int.one_mul,Int.zero_mul,Int.zero_add,Int.add_zero] at x1 x2
    by_cases s0:s=0
    ·refine corner (k + 1) (by omega) (by omega) (Prod.ext ?_ ?_)
     ·rw [s0] at x1;exact Int.eq_of_mul_eq_mul_left (show t≠0 by omega) (by simpa using x1)
     ·rw [s0] at x2;exact Int.eq_of_mul_eq_mul_left (show t≠0 by omega) (by simpa using x2)
    by_cases t0:t=0
    ·refine corner k g (by omega) (Prod.ext ?_ ?_)
     ·rw [t0] at x1;exact Int.eq_of_mul_eq_mul_left (show s≠0 by omega) (by simpa using x1)
     ·rw [t0] at x2;exact Int.eq_of_mul_eq_mul_left (show s≠0 by omega) (by simpa using x2)
    refine c.wall hP g hk (s:=s * K) (t:=t * K) (K:=(s + t) * K) (pp (by omega) hK) (pp (by omega) hK) (by rw [Int.add_mul]) ?_
    have e:padd (smul (s * K) (P.v k)) (smul (t * K) (P.v (k + 1)))=smul (s + t) x:=by
     unfold smul padd at *
     refine Prod.ext ?_ ?_
     ·show s * K * (P.v k).1 + t * K * (P.v (k + 1)).1=(s + t) * x.1
      rw [x1];grind
     ·show s * K * (P.v k).2 + t * K * (P.v (k + 1)).2=(s + t) * x.2
      rw [x2];grind
    rw [e]
    exact h.scale h0
 have oB:OffP (partB P m) K x:=(B_walls (show m < P.n by omega) (Q:=fun a b=>Off x (smul K a) (smul K b))).2 ⟨fun k _ hk=>oP k hk,hA.2.swap⟩
 refine ⟨oP,up,nc_up,?_⟩
 have sum:=cut_sum up P K (show m≤P.n by omega) x
 rw [h.w nc_up] at sum
 have:=wnd_zero_oneK hP c.area hK nc_up oP
 have:=wnd_zero_oneK (c.simB hP) c.b hK nc_up oB
 omega
theorem cut_of_far {P:Poly} (hP:SimpleP P) (ha:0 < P.area) {m:Nat} (c:Chord P m) (hA:0 < (P.arc m).area) {k:Nat} (h1:m≤k) (h2:k < P.n) {f:Aff} (hf:∀ j,j≤m→0≤f.ev (P.v j)) (hneg:f.ev (P.v (k + 1)) < 0):Cut P m:=by
 have hm2:=c.m2
 have hmn:=c.mn
 refine ⟨c,hA,?_⟩
 have hSB:SimpleP (partB P m):=(hP.rot m).arc c.rot
 obtain ⟨M,-,hg⟩:=(hM_gen hP).get
 have hgB:Gen (hM M) (partB P m):=(hg.rot m).arc (by show P.n - m < P.n;omega)
 obtain ⟨l2,hB,a2⟩:=left_ex hSB hgB
 have b0:(partB P m).v (k - m)=P.v k:=by rw [B_v (by omega) (by omega),show m + (k - m)=k by omega]
 have b1:(partB P m).v (k - m + 1)=P.v (k + 1):=by rw [B_v (by omega) (by omega),show m + (k - m + 1)=k + 1 by omega]
 have hN:=sq_pos (hP.ne k)
 obtain ⟨t,ht,htf⟩:∃ t:Int,0 < t∧f.ev (P.v k) + t * f.ev (P.v (k + 1)) < 0:=by
  refine ⟨(f.ev (P.v k)).natAbs + 1,by omega,?_⟩
  have:=Int.mul_le_mul_of_nonneg_left (show f.ev (P.v (k + 1))≤-1 by omega) (show 0≤((f.ev (P.v k)).natAbs:Int) + 1 by omega)
  omega
 obtain ⟨d,hd⟩:∃ d,d=rotP (psub (P.v (k + 1)) (P.v k)):=⟨_,rfl⟩
 obtain ⟨x,hx⟩:∃ x,x=padd (smul 1 (P.v k)) (smul t (P.v (k + 1))):=⟨_,rfl⟩
 have lB:=wall_sides hSB hgB hB (k:=k - m) (by show k - m < P.n - m + 1;omega) (s:=1) (by decide) ht rfl (x:=x) (by rw [b0,b1];exact hx) (d:=d)
 have lP:=wall_sides hP hg (left_of_area hP hg ha) (k:=k) h2 (s:=1) (by decide) ht rfl (x:=x) hx (d:=d)
 obtain ⟨L,hL,⟨gB,gP⟩,hbig⟩:=((lB.and lP).and (Late.ge (f.lin d + 1))).get
 rw [b0,b1] at gB
 have tB:0 < turnZ (P.v k) (P.v (k + 1)) (padd (P.v k) d):=by
  have:turnZ (P.v k) (P.v (k + 1)) (padd (P.v k) d)=((P.v (k + 1)).1 - (P.v k).1) * ((P.v (k + 1)).1 - (P.v k).1) + ((P.v (k + 1)).2 - (P.v k).2) * ((P.v (k + 1)).2 - (P.v k).2):=by rw [hd];unfold turnZ padd rotP psub;grind
  omega
 have wB:=(gB.1 tB).1
 have wP:=(gP.1 tB).1
 have hLK:0 < L * (1 + t):=pp hL (by omega)
 have wA:wnd ((hM M).sc (L * (1 + t))) ((P.arc m).sc (L * (1 + t))).way (padd (smul L x) d)=0:=by
  refine wnd_out _ (f.sc (L * (1 + t))) fun j hj=>?_
  have hj:j < m + 1:=hj
  show (f.sc (L * (1 + t))).ev (padd (smul L x) d) < (f.sc (L * (1 + t))).ev (smul (L * (1 + t)) ((P.arc m).v j))
  rw [arc_v P (by omega),ev_sc0]
  have r:=nn0 (show 0≤L * (1 + t) by omega) (hf j (by omega))
  have e:(f.sc (L * (1 + t))).ev (padd (smul L x) d)=L * (f.ev (P.v k) + t * f.ev (P.v (k + 1))) + f.lin d:=by
   rw [hx];unfold Aff.sc Aff.ev Aff.lin padd smul;grind
  rw [e]
  have:=Int.mul_le_mul_of_nonneg_left (show f.ev (P.v k) + t * f.ev (P.v (k + 1))≤-1 by omega) (show 0≤L by omega)
  omega
 have sum:=cut_sum ((hM M).sc (L * (1 + t))) P (L * (1 + t)) (show m≤P.n by omega) (padd (smul L x) d)
 rw [wA,wB,wP] at sum
 exact a2 (by omega)
def EarP (P:Poly) (a b c:Pt):Prop:=0 < turnZ a b c∧∀ j,P.v j≠a→P.v j≠b→P.v j≠c→¬ (0≤turnZ a b (P.v j)∧0≤turnZ b c (P.v j)∧0≤turnZ c a (P.v j))
def EarI (P:Poly) (k:Nat):Prop:=EarP P (P.v k) (P.v (k + 1)) (P.v (k + 2))
theorem tri_closed {Q:Poly} (hQ:SimpleP Q) (hn:Q.n=3) (ht:0 < turnZ (Q.v 0) (Q.v 1) (Q.v 2)) {p:Pt} (h0:0≤turnZ (Q.v 0) (Q.v 1) p) (h1:0≤turnZ (Q.v 1) (Q.v 2) p) (h2:0≤turnZ (Q.v 2) (Q.v 0) p):¬ Outp Q 1 p:=by
 have c3:∀ j,Q.v (j + 3)=Q.v j:=fun j=>by rw [← hn,Q.per]
 have:=star hQ (fun j=>by rw [tri_turns hn];omega) (by rw [tri_area' hn];exact ht) (p:=p) (fun k hk=>by
  rcases (show k=0∨k=1∨k=2 by omega) with q|q|q <;> subst q
  ·exact h0
  ·exact h1
  ·rw [c3 0];exact h2) (corner_not_out Q 0 (by omega))
 have:=this 1 0 (by decide) (by decide) (by decide)
 rwa [show padd (smul 1 p) (smul 0 (Q.v 0))=p by unfold padd smul;simp,show (1:Int) + 0=1 from rfl] at this
theorem ear_cut {P:Poly} (hP:SimpleP P) (ha:0 < P.area) (h4:4≤P.n) (he:EarI P 0):Cut P 2:=by
 have ht:0 < turnZ (P.v 0) (P.v 1) (P.v 2):=he.1
 have hno:=he.2
 have hin:∀ j,¬ InT P j:=fun j ⟨g1,g2,gA,gB,gC⟩=>hno j (hP.inj g2 (by omega) (by omega)) (hP.inj g2 (by omega) (by omega)) (hP.inj g2 (by omega) (by omega)) ⟨gB,gA,gC⟩
 have c:=chord_tri hP h4 ht hin
 have hA:0 < (P.arc 2).area:=by
  rw [tri_area' (show (P.arc 2).n=3 from rfl),arc_v P (by omega),arc_v P (by omega),arc_v P (by omega)];exact ht
 have h3:=hin 3
 have vals:=tri_vals P
 have key:∀ (f:Aff),(∀ j,j≤2→0≤f.ev (P.v j))→f.ev (P.v 3) < 0→Cut P 2:=fun f g1 g2=>cut_of_far hP ha c hA (k:=2) (by omega) (by omega) g1 g2
 have small:∀ (Q:Nat→Prop),Q 0→Q 1→Q 2→∀ j,j≤2→Q j:=fun Q q0 q1 q2 j hj=>by
  rcases (show j=0∨j=1∨j=2 by omega) with q|q|q <;> subst q <;> assumption
 have t00:∀ a b:Pt,turnZ a b a=0:=fun a b=>by unfold turnZ;grind
 have t01:∀ a b:Pt,turnZ a b b=0:=fun a b=>by unfold turnZ;grind
 have r1:turnZ (P.v 1) (P.v 2) (P.v 0)=turnZ (P.v 0) (P.v 1) (P.v 2):=by unfold turnZ;grind
 have r2:turnZ (P.v 2) (P.v 0) (P.v 1)=turnZ (P.v 0) (P.v 1) (P.v 2):=by unfold turnZ;grind
 by_cases gA:0≤tA P (P.v 3)
 ·by_cases gB:0≤tB P (P.v 3)
  ·by_cases gC:0≤tC P (P.v 3)
   ·exact absurd ⟨by omega,by omega,gA,gB,gC⟩ h3
   ·refine key (Aff.turn (P.v 2) (P.v 0)) (small _ ?_ ?_ ?_) (by rw [ev_turn];exact Int.not_le.1 gC) <;> rw [ev_turn]
    ·rw [t01];exact Int.le_refl _
    ·rw [r2];omega
    ·rw [t00];exact Int.le_refl _
  ·refine key (Aff.turn (P.v 0) (P.v 1)) (small _ ?_ ?_ ?_) (by rw [ev_turn];exact Int.not_le.1 gB) <;> rw [ev_turn]
   ·rw [t00];exact Int.le_refl _
   ·rw [t01];exact Int.le_refl _
   ·omega
 ·refine key (Aff.turn (P.v 1) (P.v 2)) (small _ ?_ ?_ ?_) (by rw [ev_turn];exact Int.not_le.1 gA) <;> rw [ev_turn]
  ·rw [r1];omega
  ·rw [t00];exact Int.le_refl _
  ·rw [t01];exact Int.le_refl _
theorem EarI.rot {P:Poly} (g:0 < P.n) {s k:Nat}:EarI (P.rot s) k↔EarI P (s + k):=by
 unfold EarI EarP
 have e:∀ j,(P.rot s).v j=P.v (s + j):=fun _=>rfl
 simp only [e,← Nat.add_assoc]
 refine and_congr_right fun _=>⟨fun h j=>?_,fun h j=>h (s + j)⟩
 have hle:s≤P.n * (s + 1):=by
  have:1 * (s + 1)≤P.n * (s + 1):=Nat.mul_le_mul_right _ g
  omega
 have:=h (j + P.n * (s + 1) - s)
 rwa [show s + (j + P.n * (s + 1) - s)=j + P.n * (s + 1) by omega,P.per_mul] at this
theorem ear_lift {P:Poly} (hP:SimpleP P) {m:Nat} (c:Cut P m) {i:Nat} (hi:i + 2≤m) (he:EarP (P.arc m) (P.v i) (P.v (i + 1)) (P.v (i + 2))):EarI P i:=by
 have hm2:=c.c.m2
 have hmn:=c.c.mn
 refine ⟨he.1,fun j n0 n1 n2 hb=>?_⟩
 have hj:j % P.n < P.n:=Nat.mod_lt _ (by omega)
 rw [← P.per_mod j] at n0 n1 n2 hb
 generalize j % P.n=r at hj n0 n1 n2 hb
 rcases (show r≤m∨m < r by omega) with g|g
 ·refine he.2 r ?_ ?_ ?_ ?_ <;> rw [arc_v P g] <;> assumption
 ·have ho:=c.corner hP g hj
  have hA:=c.simA hP
  have tr:∀ {Q:Poly},SimpleP Q→Q.n=3→Q.v 0=P.v i→Q.v 1=P.v (i + 1)→Q.v 2=P.v (i + 2)→¬ Outp Q 1 (P.v r):=fun hQ h3 e0 e1 e2=>by
   refine tri_closed hQ h3 ?_ ?_ ?_ ?_ <;> (try rw [e0]) <;> (try rw [e1]) <;> (try rw [e2]) <;> first|exact he.1|exact hb.1|exact hb.2.1|exact hb.2.2
  rcases (show m=2∨3≤m by omega) with q|q
  ·subst q
   have:i=0:=by omega
   subst this
   exact tr hA rfl (arc_v P (by omega)) (arc_v P (by omega)) (arc_v P (by omega)) ho
  ·-- the ear cut off from the part
   have hR:SimpleP ((P.arc m).rot i):=hA.rot i
   have hv:∀ d,d≤2→((P.arc m).rot i).v d=P.v (i + d):=fun d hd=>arc_v P (by omega)
   have hE:EarI ((P.arc m).rot i) 0:=(EarI.rot (by show 0 < m + 1;omega)).2 (by
    show EarP (P.arc m) ((P.arc m).v (i + 0)) ((P.arc m).v (i + 0 + 1)) ((P.arc m).v (i + 0 + 2))
    rw [arc_v P (by omega),arc_v P (by omega),arc_v P (by omega)];exact he)
   have c2:=ear_cut hR (by rw [area_rot];exact c.a) (by show 4≤m + 1;omega) hE
   refine tr (c2.simA hR) rfl ?_ ?_ ?_ (c2.out_both hR (by decide) (ho.rot i)).1
   ·rw [arc_v _ (by omega)];exact hv 0 (by omega)
   ·rw [arc_v _ (by omega)];exact hv 1 (by omega)
   ·rw [arc_v _ (by omega)];exact hv 2 (by omega)
def TwoEars (P:Poly):Prop:=∃ s d,2≤d∧d + 2≤P.n∧EarI P s∧EarI P (s + d)
theorem side_ear {P:Poly} (hP:SimpleP P) {m:Nat} (c:Cut P m) (ih:4≤m + 1→TwoEars (P.arc m)):∃ i,i + 2≤m∧EarI P i:=by
 have hm2:=c.c.m2
 have hmn:=c.c.mn
 rcases (show m=2∨3≤m by omega) with q|q
 ·subst q
  refine ⟨0,by omega,ear_lift hP c (by omega) ⟨?_,fun j n0 n1 n2 _=>?_⟩⟩
  ·have:=c.a
   rwa [tri_area' (show (P.arc 2).n=3 from rfl),arc_v P (by omega),arc_v P (by omega),arc_v P (by omega)] at this
  ·have hj:j % 3 < 3:=Nat.mod_lt _ (by omega)
   have e:(P.arc 2).v j=(P.arc 2).v (j % 3):=((P.arc 2).per_mod j).symm
   rw [e,arc_v P (by omega)] at n0 n1 n2
   rcases (show j % 3=0∨j % 3=1∨j % 3=2 by omega) with g|g|g <;> rw [g] at n0 n1 n2
   ·exact n0 rfl
   ·exact n1 rfl
   ·exact n2 rfl
 ·obtain ⟨s,d,d2,dn,e1,e2⟩:=ih (by omega)
  have dn:d + 2≤m + 1:=dn
  have mk:∀ t,EarI (P.arc m) t→(t % (m + 1)) + 2≤m→∃ i,i + 2≤m∧EarI P i:=fun t ht h=>by
   refine ⟨t % (m + 1),h,ear_lift hP c h ?_⟩
   have per:∀ x,(P.arc m).v (t + x)=P.v (t % (m + 1) + x)∨2 < x:=fun x=>by
    rcases (show x≤2∨2 < x by omega) with g|g
    ·left
     rw [← arc_v P (show t % (m + 1) + x≤m by omega)]
     exact ((P.arc m).per_add t x).symm
    ·exact .inr g
   have p0:=(per 0).resolve_right (by omega)
   have p1:=(per 1).resolve_right (by omega)
   have p2:=(per 2).resolve_right (by omega)
   unfold EarI at ht
   rw [p1,p2,show (P.arc m).v t=P.v (t % (m + 1)) from p0] at ht
   exact ht
  have hs:s % (m + 1) < m + 1:=Nat.mod_lt _ (by omega)
  have hd:(s + d) % (m + 1) < m + 1:=Nat.mod_lt _ (by omega)
  rcases (show s % (m + 1) + 2≤m∨s % (m + 1)=m∨s % (m + 1)=m - 1 by omega) with g|g|g
  ·exact mk s e1 g
  all_goals
   refine mk (s + d) e2 ?_
   have:(s + d) % (m + 1)=(s % (m + 1) + d) % (m + 1):=by rw [Nat.mod_add_mod]
   rw [this,g]
   rw [Nat.mod_eq_sub_mod (by omega),Nat.mod_eq_of_lt (by omega)]
   omega
theorem two_ears:∀ (n:Nat) (P:Poly),P.n=n→4≤n→SimpleP P→0 < P.area→TwoEars P:=fun n=>by
 induction n using Nat.strongRecOn with
 | ind n ih=>
  intro P hn h4 hP ha
  obtain ⟨M,-,hg⟩:=(hM_gen hP).get
  obtain ⟨s,m,c0,p1,p2⟩:=exists_cut hP hg ((pos_iff hP hg).2 ha) (by omega)
  have c:Cut (P.rot s) m:=⟨c0,area_pos ((hP.rot s).arc c0) ((hg.rot s).arc (show m < P.n from by have:m + 2≤P.n:=c0.mn;omega)) p1,area_pos (((hP.rot s).rot m).arc c0.rot) (((hg.rot s).rot m).arc (by have:=c0.m2;have:m + 2≤P.n:=c0.mn;show P.n - m < P.n;omega)) p2⟩
  have hm2:=c.c.m2
  have hmn:=c.c.mn
  have hR:=hP.rot s
  have hnR:(P.rot s).n=n:=hn
  obtain ⟨i,hi,ei⟩:=side_ear hR c fun h=>ih (m + 1) (by omega) ((P.rot s).arc m) rfl h (c.simA hR) c.a
  obtain ⟨c',e'⟩:=c.rot
  have hR':=hR.rot m
  obtain ⟨k,hk,ek⟩:=side_ear hR' c' fun h=>ih ((P.rot s).n - m + 1) (by omega) _ rfl h (c.simB hR) c.b
  refine ⟨s + i,m + k - i,by omega,by omega,(EarI.rot (by omega)).1 ei,?_⟩
  rw [show s + i + (m + k - i)=s + (m + k) by omega]
  exact (EarI.rot (by omega)).1 ((EarI.rot (by omega)).1 ek)
end Go.Proofs.YtpafacebfogkmaaGreat.Geo
namespace Go.Proofs.YtpafacebfogkmaaGreat.Geo
open Go.RowKit
def subP (xs:List Pt) (l:List Int):Poly:=⟨l.length,fun j=>(roomP xs).v (gI l (j % l.length)).toNat,fun j=>by show (roomP xs).v (gI l ((j + l.length) % l.length)).toNat=_;rw [Nat.add_mod_right]⟩
theorem sub_v (xs:List Pt) {l:List Int} {j:Nat} (h:j < l.length):(subP xs l).v j=(roomP xs).v (gI l j).toNat:=by
 show (roomP xs).v (gI l (j % l.length)).toNat=_
 rw [Nat.mod_eq_of_lt h]
theorem gI_all {n k:Nat} (h:k < n):gI (allC n) k=k:=by
 unfold gI allC
 rw [getD_lt _ (by simpa using h)];simp
theorem sub_all {xs:List Pt} (hn:0 < xs.length):subP xs (allC xs.length)=roomP xs:=by
 refine Poly.ext' (allC_len _) fun j=>?_
 show (roomP xs).v (gI (allC xs.length) (j % (allC xs.length).length)).toNat=_
 rw [allC_len,gI_all (Nat.mod_lt _ hn),Int.toNat_natCast]
 exact (roomP xs).per_mod j
theorem sub_erase (xs:List Pt) {l:List Int} (h3:3 < l.length) {i:Nat} (hi:i < l.length):(subP xs (l.eraseIdx i)).rot i=partB ((subP xs l).rot (i + l.length - 1)) 2:=by
 have hl:=List.length_eraseIdx_of_lt hi
 refine Poly.ext' (by show (l.eraseIdx i).length=l.length - 2 + 1;omega) fun j=>?_
 show (roomP xs).v (gI (l.eraseIdx i) ((i + j) % (l.eraseIdx i).length)).toNat=(roomP xs).v (gI l ((i + l.length - 1 + (2 + j % (l.length - 2 + 1))) % l.length)).toNat
 have hm:j % (l.length - 1) < l.length - 1:=Nat.mod_lt _ (by omega)
 rw [hl,show l.length - 2 + 1=l.length - 1 by omega,← Nat.add_mod_mod]
 generalize j % (l.length - 1)=r at hm
 have e1:(i + l.length - 1 + (2 + r)) % l.length=(i + 1 + r) % l.length:=by
  rw [show i + l.length - 1 + (2 + r)=i + 1 + r + l.length by omega,Nat.add_mod_right]
 rw [e1]
 rcases Nat.lt_or_ge (i + 1 + r) l.length with g|g
 ·rw [Nat.mod_eq_of_lt g,Nat.mod_eq_of_lt (show i + r < l.length - 1 by omega),gI_erase (by omega),if_neg (by omega),show i + r + 1=i + 1 + r by omega]
 ·rw [Nat.mod_eq_sub_mod g,Nat.mod_eq_of_lt (show i + 1 + r - l.length < l.length by omega),Nat.mod_eq_sub_mod (show l.length - 1≤i + r by omega),Nat.mod_eq_of_lt (show i + r - (l.length - 1) < l.length - 1 by omega),
   gI_erase (by omega),if_pos (by omega),show i + r - (l.length - 1)=i + 1 + r - l.length by omega]
structure Sub (xs:List Pt) (l:List Int):Prop where
 left:Left xs.length l
 sim:SimpleP (subP xs l)
 area:0 < (subP xs l).area
 out:∀ {K x},0 < K→Outp (roomP xs) K x→Outp (subP xs l) K x
 inn:∀ {K x},0 < K→Inn (subP xs l) K x→Inn (roomP xs) K x
theorem Sub.all {xs:List Pt} (hr:roomOk xs=true):Sub xs (allC xs.length):=by
 have e:=sub_all (room_pos hr)
 exact ⟨left_all (room_len hr).1,by rw [e];exact room_simple hr,by rw [e];exact (room_area hr).2.1,fun _ h=>by rw [e];exact h,fun _ h=>by rw [e] at h;exact h⟩
theorem Inn.rot {P:Poly} {K:Int} {x:Pt} (h:Inn P K x) (s:Nat):Inn (P.rot s) K x:=by
 obtain ⟨ho,g,hg,e⟩:=h
 refine ⟨fun k hk=>?_,g,hg,by rw [← e];exact wnd_rot g (P.sc K) s x⟩
 have hn:0 < P.n:=by have hk:k < P.n:=hk;omega
 have:=ho ((s + k) % P.n) (Nat.mod_lt _ hn)
 rw [P.per_mod,P.per_add] at this
 exact this
theorem Inn.rot_iff {P:Poly} {K:Int} {x:Pt} (hn:1≤P.n) (s:Nat):Inn (P.rot s) K x↔Inn P K x:=
 ⟨fun h=>by have:=h.rot (s * (P.n - 1));rw [rot_back P s hn] at this;exact this,fun h=>h.rot s⟩
abbrev EarL (xs:List Pt) (l:List Int) (i:Nat):Prop:=EarI (subP xs l) (i + l.length - 1)
theorem ear_pts (xs:List Pt) {l:List Int} (h3:3≤l.length) {i:Nat} (hi:i < l.length) :
  (subP xs l).v (i + l.length - 1)=(roomP xs).v (gI l (prvN l.length i)).toNat∧(subP xs l).v (i + l.length - 1 + 1)=(roomP xs).v (gI l i).toNat∧(subP xs l).v (i + l.length - 1 + 2)=(roomP xs).v (gI l (nxtN l.length i)).toNat:=by
 refine ⟨rfl,?_,?_⟩
 ·show (roomP xs).v (gI l ((i + l.length - 1 + 1) % l.length)).toNat=_
  rw [show i + l.length - 1 + 1=i + l.length by omega,Nat.add_mod_right,Nat.mod_eq_of_lt hi]
 ·show (roomP xs).v (gI l ((i + l.length - 1 + 2) % l.length)).toNat=_
  rw [show i + l.length - 1 + 2=i + 1 + l.length by omega,Nat.add_mod_right];rfl
theorem Sub.some {xs:List Pt} {l:List Int} (h:Sub xs l) (h3:3 < l.length):∃ i,i < l.length∧EarL xs l i:=by
 obtain ⟨s,d,-,-,e,-⟩:=two_ears l.length (subP xs l) rfl h3 h.sim h.area
 refine ⟨(s + 1) % l.length,Nat.mod_lt _ (by omega),?_⟩
 have key:∀ d,(subP xs l).v ((s + 1) % l.length + l.length - 1 + d)=(subP xs l).v (s + d):=fun d=>by
  rw [show (s + 1) % l.length + l.length - 1 + d=(s + 1) % (subP xs l).n + (l.length - 1 + d) by show _=(s + 1) % l.length + _;omega,(subP xs l).per_add,show s + 1 + (l.length - 1 + d)=s + d + l.length by omega]
  exact (subP xs l).per (s + d)
 show EarP _ _ _ _
 have k0:(subP xs l).v ((s + 1) % l.length + l.length - 1)=(subP xs l).v s:=key 0
 rw [k0,key 1,key 2]
 exact e
theorem room_v {xs:List Pt} {k:Int} (h0:0≤k) (h:k < xs.length):(roomP xs).v k.toNat=pI xs k:=v_lt (by omega)
theorem turnI {xs:List Pt} (hr:roomOk xs=true) {a b c:Int} (ha:0≤a∧a < xs.length) (hb:0≤b∧b < xs.length) (hc:0≤c∧c < xs.length):turn (pI xs a) (pI xs b) (pI xs c)=turnZ ((roomP xs).v a.toNat) ((roomP xs).v b.toNat) ((roomP xs).v c.toNat):=by
 rw [room_v ha.1 ha.2,room_v hb.1 hb.2,room_v hc.1 hc.2]
 exact turn_exact (bd_of_ok (corner_ok hr (by omega))) (bd_of_ok (corner_ok hr (by omega))) (bd_of_ok (corner_ok hr (by omega)))
theorem inTri_iff {a b c p:Pt} (ha:Bd a) (hb:Bd b) (hc:Bd c) (hp:Bd p):inTri a b c p=true↔0≤turnZ a b p∧0≤turnZ b c p∧0≤turnZ c a p:=by
 unfold inTri
 rw [turn_exact ha hb hp,turn_exact hb hc hp,turn_exact hc ha hp]
 simp only [Bool.and_eq_true,decide_eq_true_eq]
theorem left_bd {xs:List Pt} (hr:roomOk xs=true) {l:List Int} (hL:Left xs.length l) {k:Nat} (hk:k < l.length):Bd (pI xs (gI l k)):=by
 have:=hL.at hk
 exact bd_of_ok (corner_ok hr (by omega))
theorem Sub.ear_of {xs:List Pt} (hr:roomOk xs=true) {l:List Int} (h:Sub xs l) {i:Nat} (hi:i < l.length) (hc:cutM xs l i=true):EarL xs l i:=by
 have h3:=h.left.len
 obtain ⟨-,ht,hno⟩:=cutM_iff.1 hc
 have hp:prvN l.length i < l.length:=prv_lt (by omega)
 have hn:nxtN l.length i < l.length:=nxt_lt (by omega)
 obtain ⟨e0,e1,e2⟩:=ear_pts xs h3 hi
 show EarP _ _ _ _
 rw [e0,e1,e2]
 rw [turnI hr (h.left.at hp) (h.left.at hi) (h.left.at hn)] at ht
 refine ⟨ht,fun j n0 n1 n2 hb=>?_⟩
 have hj:j % l.length < l.length:=Nat.mod_lt _ (by omega)
 have ej:(subP xs l).v j=(roomP xs).v (gI l (j % l.length)).toNat:=rfl
 rw [ej] at n0 n1 n2 hb
 generalize j % l.length=r at hj n0 n1 n2 hb
 rcases hno r hj with g|g|g|g
 ·exact n0 (by rw [g])
 ·exact n1 (by rw [g])
 ·exact n2 (by rw [g])
 ·have rv:∀ {k},k < l.length→(roomP xs).v (gI l k).toNat=pI xs (gI l k):=fun hk=>room_v (h.left.at hk).1 (h.left.at hk).2
  rw [rv hp,rv hi,rv hn,rv hj] at hb
  have:=(inTri_iff (left_bd hr h.left hp) (left_bd hr h.left hi) (left_bd hr h.left hn) (left_bd hr h.left hj)).2 hb
  rw [g] at this
  cases this
theorem Sub.cut2 {xs:List Pt} {l:List Int} (h:Sub xs l) (h3:3 < l.length) {i:Nat} (he:EarL xs l i):Cut ((subP xs l).rot (i + l.length - 1)) 2:=
 ear_cut (h.sim.rot _) (by rw [area_rot];exact h.area) h3 ((EarI.rot (show 0 < l.length by omega)).2 he)
theorem Sub.step {xs:List Pt} {l:List Int} (h:Sub xs l) (h3:3 < l.length) {i:Nat} (hi:i < l.length) (he:EarL xs l i):Sub xs (l.eraseIdx i):=by
 have c:=h.cut2 h3 he
 have hR:=h.sim.rot (i + l.length - 1)
 have hl:=List.length_eraseIdx_of_lt hi
 have e:=sub_erase xs h3 hi
 have n1:1≤(subP xs (l.eraseIdx i)).n:=by show 1≤(l.eraseIdx i).length;omega
 have nl:1≤(subP xs l).n:=by show 1≤l.length;omega
 have hb:(subP xs (l.eraseIdx i))=(partB ((subP xs l).rot (i + l.length - 1)) 2).rot (i * ((subP xs (l.eraseIdx i)).n - 1)):=by rw [← e,rot_back _ _ n1]
 obtain ⟨c',e'⟩:=c.rot
 refine ⟨h.left.erase h3 hi,by rw [hb];exact (c.simB hR).rot _,by rw [hb,area_rot];exact c.b,fun hK o=>?_,fun hK o=>h.inn hK ?_⟩
 ·rw [← Outp.rot_iff n1 i,e]
  exact (c.out_both hR hK ((h.out hK o).rot _)).2
 ·rw [← Inn.rot_iff n1 i,e] at o
  have:=c'.inn_of (hR.rot 2) hK o
  rwa [Inn.rot_iff (P:=(subP xs l).rot (i + l.length - 1)) nl,Inn.rot_iff nl] at this
theorem Sub.chord_inn {xs:List Pt} {l:List Int} (h:Sub xs l) (h3:3 < l.length) {i:Nat} (hi:i < l.length) (he:EarL xs l i) {s t K:Int} (hs:0 < s) (ht:0 < t) (e:s + t=K) :
  Inn (roomP xs) K (padd (smul s ((roomP xs).v (gI l (prvN l.length i)).toNat)) (smul t ((roomP xs).v (gI l (nxtN l.length i)).toNat))):=by
 have c:=h.cut2 h3 he
 have:=c.inn (h.sim.rot _) hs ht e
 rw [Inn.rot_iff (show 1≤l.length by omega)] at this
 have:=h.inn (by omega) this
 obtain ⟨e0,e1,e2⟩:=ear_pts xs (by omega) hi
 rw [← e0,← e2]
 exact this
theorem mid_inn {xs:List Pt} (hr:roomOk xs=true) {p q:Pt} (hp:-40≤p.1∧p.1≤40∧-40≤p.2∧p.2≤40) (hq:-40≤q.1∧q.1≤40∧-40≤q.2∧q.2≤40):midM xs p q=2↔Inn (roomP xs) 2 (padd p q):=by
 have h:=pt_of_room hr
 have hn:=room_pos hr
 have hmo:=mid_out hr hp hq
 have e:sumP p q=padd p q:=by
  unfold sumP padd
  rw [W_in (by omega) (by omega),W_in (by omega) (by omega)]
 have hs:Bd (padd p q):=by
  unfold Bd padd
  simp only
  omega
 have hy:(xs.map twP).length=xs.length:=by simp
 have hv:∀ k,pCy (xs.map twP) k=smul 2 (pCy xs k):=fun k=>by
  have hk:k % xs.length < xs.length:=Nat.mod_lt _ hn
  show (xs.map twP).getD (k % (xs.map twP).length) (0,0)=smul 2 (xs.getD (k % xs.length) (0,0))
  rw [List.length_map,getD_lt _ (by rw [List.length_map];exact hk),getD_lt _ hk,List.getElem_map]
  exact twP_eq (h _ (List.getElem_mem hk))
 have hb:∀ q∈xs.map twP,Bd q:=fun c' hc'=>by
  obtain ⟨c,hc,rfl⟩:=List.mem_map.1 hc'
  have:=h c hc
  rw [twP_eq this]
  unfold Bd smul
  simp only
  omega
 have hP:=room_simple hr
 have ne:∀ k,k < xs.length→smul 2 ((roomP xs).v k)≠smul 2 ((roomP xs).v (k + 1)):=fun k hk e=>by
  apply hP.ne k
  have e1:=congrArg Prod.fst e
  have e2:=congrArg Prod.snd e
  exact Prod.ext (Int.eq_of_mul_eq_mul_left (by omega) e1) (Int.eq_of_mul_eq_mul_left (by omega) e2)
 have wa:∀ k,k < xs.length→pAt (xs.map twP) k=smul 2 ((roomP xs).v k)∧pCy (xs.map twP) (k + 1)=smul 2 ((roomP xs).v (k + 1)):=fun k hk=>⟨(pCy_lt (by omega)).symm.trans (hv k),hv (k + 1)⟩
 have onoff:∀ k,k < xs.length→(onAt (xs.map twP) (padd p q) k=false↔Off (padd p q) (smul 2 ((roomP xs).v k)) (smul 2 ((roomP xs).v (k + 1)))):=fun k hk=>by
  have b1:Bd (pAt (xs.map twP) k):=pAt_bd hb (by omega)
  have b2:Bd (pCy (xs.map twP) (k + 1)):=pCy_bd hb (by omega)
  show onS (padd p q) (pAt (xs.map twP) k) (pCy (xs.map twP) (k + 1))=false↔_
  constructor
  ·intro h0
   rcases off_or_on (padd p q) (ne k hk) with g|g
   ·exact g
   ·rw [← (wa k hk).1,← (wa k hk).2] at g
    rw [g.onS b1 b2 hs] at h0
    exact absurd h0 (by decide)
  ·intro g
   cases h0:onS (padd p q) (pAt (xs.map twP) k) (pCy (xs.map twP) (k + 1)) with
   | false=>rfl
   | true=>
    exfalso
    have:=onS_OnM b1 b2 hs h0
    rw [(wa k hk).1,(wa k hk).2] at this
    exact this.not_off g
 have two:midM xs p q=2↔midM xs p q≠0∧onAny (xs.map twP) (padd p q)=false:=by
  unfold midM
  rw [e]
  unfold placeM
  split
  ·rename_i g;rw [g];simp
  ·rename_i g;split <;> simp [Bool.eq_false_iff.2 g]
 rw [two,ne_eq,hmo]
 have hoff:onAny (xs.map twP) (padd p q)=false↔OffP (roomP xs) 2 (padd p q):=by
  constructor
  ·intro g k hk
   have hk:k < xs.length:=hk
   exact (onoff k hk).1 (onAny_off g (by omega))
  ·intro g
   exact onAny_no fun k hk=>(onoff k (by omega)).2 (g k (by show k < xs.length;omega))
 rw [hoff]
 constructor
 ·rintro ⟨g1,g2⟩
  exact (out_or_in hP (room_area hr).2.1 (by decide) g2).resolve_left g1
 ·intro g
  exact ⟨g.not_out,g.1⟩
theorem diag_of_inn {xs:List Pt} (hr:roomOk xs=true) {i k:Nat} (hi:i < xs.length) (hk:k < xs.length) (hik:i≠k) (hin:∀ s t K:Int,0 < s→0 < t→s + t=K→Inn (roomP xs) K (padd (smul s ((roomP xs).v i)) (smul t ((roomP xs).v k)))):diagC xs i k=true:=by
 have vi:(roomP xs).v i=pAt xs i:=v_lt hi
 have vk:(roomP xs).v k=pAt xs k:=v_lt hk
 rw [diagC_iff]
 refine ⟨?_,?_,?_⟩
 ·rw [seesS_noout hr (corner_ok hr hi) (corner_ok hr hk) (corner_in hr hi) (corner_in hr hk)]
  intro s t hs ht hst o
  rcases (show s=0∨t=0∨(0 < s∧0 < t) by omega) with g|g|⟨g1,g2⟩
  ·subst g
   have e:padd (smul 0 (pAt xs i)) (smul t (pAt xs k))=smul t ((roomP xs).v k):=by rw [vk];unfold padd smul;simp
   rw [e] at o
   refine corner_not_out (roomP xs) k (by show 0 < xs.length;omega) (Outp.desc (L:=t) (by omega) ?_)
   rw [Int.mul_one];rwa [Int.zero_add] at o
  ·subst g
   have e:padd (smul s (pAt xs i)) (smul 0 (pAt xs k))=smul s ((roomP xs).v i):=by rw [vi];unfold padd smul;simp
   rw [e] at o
   refine corner_not_out (roomP xs) i (by show 0 < xs.length;omega) (Outp.desc (L:=s) (by omega) ?_)
   rw [Int.mul_one];rwa [Int.add_zero] at o
  ·have:=hin s t (s + t) g1 g2 rfl
   rw [vi,vk] at this
   exact this.not_out o
 ·rw [freeTo_iff]
  intro j hj
  by_cases e1:j=i
  ·exact .inl e1
  by_cases e2:j=k
  ·exact .inr (.inl e2)
  refine .inr (.inr ?_)
  cases h0:onS (pAt xs j) (pAt xs i) (pAt xs k) with
  | false=>rfl
  | true=>
   exfalso
   obtain ⟨s,t,hs,ht,h0,x1,x2⟩:=(onS_OnM (bd_of_ok (corner_ok hr hi)) (bd_of_ok (corner_ok hr hk)) (bd_of_ok (corner_ok hr hj)) h0).coords
   have hne:∀ {a},a < xs.length→j≠a→pAt xs j≠pAt xs a:=fun ha hja e=>hja (room_inj hr hj ha e)
   rcases (show s=0∨t=0∨(0 < s∧0 < t) by omega) with g|g|⟨g1,g2⟩
   ·subst g
    refine hne hk e2 (Prod.ext (Int.eq_of_mul_eq_mul_left (show t≠0 by omega) (by simpa using x1)) (Int.eq_of_mul_eq_mul_left (show t≠0 by omega) (by simpa using x2)))
   ·subst g
    refine hne hi e1 (Prod.ext (Int.eq_of_mul_eq_mul_left (show s≠0 by omega) (by simpa using x1)) (Int.eq_of_mul_eq_mul_left (show s≠0 by omega) (by simpa using x2)))
   ·have:=hin s t (s + t) g1 g2 rfl
    rw [vi,vk,show padd (smul s (pAt xs i)) (smul t (pAt xs k))=smul (s + t) ((roomP xs).v j) by rw [v_lt hj];exact Prod.ext x1.symm x2.symm] at this
    have:=this.1 j hj
    exact (Off.ne this).1 rfl
 ·rw [mid_inn hr (ptOk_iff.1 (corner_ok hr hi)) (ptOk_iff.1 (corner_ok hr hk))]
  have:=hin 1 1 2 (by decide) (by decide) rfl
  rwa [vi,vk,smul_one,smul_one] at this
theorem Sub.cut_of {xs:List Pt} (hr:roomOk xs=true) {l:List Int} (h:Sub xs l) (h3:3 < l.length) {i:Nat} (hi:i < l.length) (he:EarL xs l i):cutM xs l i=true:=by
 have hp:prvN l.length i < l.length:=prv_lt (by omega)
 have hn:nxtN l.length i < l.length:=nxt_lt (by omega)
 obtain ⟨q1,q2,q3⟩:=prv_ne (by omega) hi
 obtain ⟨e0,e1,e2⟩:=ear_pts xs (by omega) hi
 have ap:=h.left.at hp
 have an:=h.left.at hn
 have hne:gI l (prvN l.length i)≠gI l (nxtN l.length i):=fun e=>q3 (h.left.inj hp hn e)
 have heP:EarP (subP xs l) _ _ _:=he
 rw [e0,e1,e2] at heP
 rw [cutM_iff]
 refine ⟨?_,by rw [turnI hr ap (h.left.at hi) an];exact heP.1,fun j hj=>?_⟩
 ·cases hnb:neighZ xs.length (gI l (prvN l.length i)) (gI l (nxtN l.length i)) with
  | true=>exact .inr rfl
  | false=>
   left
   rw [diagM_iff]
   refine ⟨btw_iff.2 (by omega),btw_iff.2 (by omega),hne,hnb,diag_of_inn hr (by omega) (by omega) (by omega) fun s t K hs ht e=>h.chord_inn h3 hi he hs ht e⟩
 ·by_cases g0:gI l j=gI l (prvN l.length i)
  ·exact .inl g0
  by_cases g1:gI l j=gI l i
  ·exact .inr (.inl g1)
  by_cases g2:gI l j=gI l (nxtN l.length i)
  ·exact .inr (.inr (.inl g2))
  refine .inr (.inr (.inr ?_))
  have rv:∀ {k},k < l.length→(roomP xs).v (gI l k).toNat=pI xs (gI l k):=fun hk=>room_v (h.left.at hk).1 (h.left.at hk).2
  have dif:∀ {k},k < l.length→gI l j≠gI l k→(subP xs l).v j≠(roomP xs).v (gI l k).toNat:=fun {k} hk hjk e=>by
   rw [sub_v xs hj,rv hj,rv hk] at e
   have a1:=h.left.at hj
   have a2:=h.left.at hk
   have:=room_inj hr (by omega) (by omega) e
   omega
  have:=heP.2 j (dif hp g0) (dif hi g1) (dif hn g2)
  rw [sub_v xs hj,rv hp,rv hi,rv hn,rv hj] at this
  exact Bool.eq_false_iff.2 fun hb=>this ((inTri_iff (left_bd hr h.left hp) (left_bd hr h.left hi) (left_bd hr h.left hn) (left_bd hr h.left hj)).1 hb)
theorem Sub.first {xs:List Pt} (hr:roomOk xs=true) {l:List Int} (h:Sub xs l) (h3:3 < l.length):∃ i,firstCut xs l=Option.some i∧i < l.length∧EarL xs l i:=by
 obtain ⟨i,hi,he⟩:=h.some h3
 cases hf:firstCut xs l with
 | some j=>
  have:=firstCut_spec hf
  exact ⟨j,rfl,this.1,h.ear_of hr this.1 this.2⟩
 | none=>
  exfalso
  unfold firstCut at hf
  rw [List.find?_eq_none] at hf
  exact hf i (List.mem_range.2 hi) (h.cut_of hr h3 hi he)
abbrev tv (xs:List Pt) (k:Int):Pt:=(roomP xs).v k.toNat
theorem NoOut.swap {P:Poly} {a b:Pt} (h:NoOut P a b):NoOut P b a:=fun s t hs ht hst o=>by
 refine h t s ht hs (by omega) ?_
 rw [show padd (smul t a) (smul s b)=padd (smul s b) (smul t a) by unfold padd;exact Prod.ext (Int.add_comm _ _) (Int.add_comm _ _),Int.add_comm]
 exact o
theorem cut_of_diag {xs:List Pt} (hr:roomOk xs=true) {i k m:Nat} (hi:i < xs.length) (hk:k < xs.length) (hm:(i + m) % xs.length=k) (m2:2≤m) (mn:m + 2≤xs.length) (hd:diagC xs i k=true):Cut ((roomP xs).rot i) m:=by
 have hP:=room_simple hr
 have hR:=hP.rot i
 obtain ⟨hs,hf,hmid⟩:=diagC_iff.1 hd
 have hf:=freeTo_iff.1 hf
 have hno:=(seesS_noout hr (corner_ok hr hi) (corner_ok hr hk) (corner_in hr hi) (corner_in hr hk)).1 hs
 have v:∀ j,((roomP xs).rot i).v j=pAt xs ((i + j) % xs.length):=fun j=>by
  show (roomP xs).v (i + j)=_
  rw [← v_lt (Nat.mod_lt _ (room_pos hr))];exact ((roomP xs).per_mod (i + j)).symm
 have v0:((roomP xs).rot i).v 0=pAt xs i:=by rw [v 0,Nat.add_zero,Nat.mod_eq_of_lt hi]
 have vm:((roomP xs).rot i).v m=pAt xs k:=by rw [v m,hm]
 have idx:∀ {a b:Nat},a < xs.length→b < xs.length→(i + a) % xs.length=(i + b) % xs.length→a=b:=fun {a b} ha hb e=>by
  rcases Nat.lt_or_ge (i + a) xs.length with g1|g1 <;> rcases Nat.lt_or_ge (i + b) xs.length with g2|g2
  ·rw [Nat.mod_eq_of_lt g1,Nat.mod_eq_of_lt g2] at e;omega
  ·rw [Nat.mod_eq_of_lt g1,Nat.mod_eq_sub_mod g2,Nat.mod_eq_of_lt (by omega)] at e;omega
  ·rw [Nat.mod_eq_sub_mod g1,Nat.mod_eq_of_lt (show i + a - xs.length < xs.length by omega),Nat.mod_eq_of_lt g2] at e;omega
  ·rw [Nat.mod_eq_sub_mod g1,Nat.mod_eq_of_lt (show i + a - xs.length < xs.length by omega),Nat.mod_eq_sub_mod g2,Nat.mod_eq_of_lt (show i + b - xs.length < xs.length by omega)] at e;omega
 have bd:∀ j,Bd (pAt xs ((i + j) % xs.length)):=fun j=>bd_of_ok (corner_ok hr (Nat.mod_lt _ (by omega)))
 have hnR:((roomP xs).rot i).n=xs.length:=rfl
 have h0m:((roomP xs).rot i).v 0≠((roomP xs).rot i).v m:=hR.inj (by omega) (by omega) (by omega)
 have noOn:∀ j,0 < j→j < xs.length→j≠m→¬ OnM (((roomP xs).rot i).v j) (((roomP xs).rot i).v 0) (((roomP xs).rot i).v m):=fun j h1 h2 h3 ho=>by
  rw [v j,v0,vm] at ho
  have:=ho.onS (bd_of_ok (corner_ok hr hi)) (bd_of_ok (corner_ok hr hk)) (bd j)
  have hlt:(i + j) % xs.length < xs.length:=Nat.mod_lt _ (by omega)
  rcases hf _ hlt with e|e|e
  ·have:=idx (a:=j) (b:=0) h2 (by omega) (by rw [Nat.add_zero,Nat.mod_eq_of_lt hi];exact e)
   omega
  ·have:=idx (a:=j) (b:=m) h2 (by omega) (by rw [hm];exact e)
   omega
  ·rw [this] at e;cases e
 have c:Chord ((roomP xs).rot i) m:=by
  refine Chord.mk' hR m2 mn (fun j h1 h2 h3=>(off_or_on _ h0m).resolve_right (noOn j h1 h2 h3)) (fun j h1 h2 h3 h4=>?_)
  have h2:j + 1 < xs.length:=h2
  have hjj:((roomP xs).rot i).v j≠((roomP xs).rot i).v (j + 1):=hR.ne j
  rcases part_or_on h0m hjj with g|g|g|g|g|⟨g1,g2⟩
  ·exact g.symm
  ·exact absurd g (noOn j h1 (by omega) h3)
  ·exact absurd g (noOn (j + 1) (by omega) h2 h4)
  ·exact absurd (hR.offI (i:=j) (k:=0) (by omega) (by omega) (by omega) (by omega) (by omega)) g.not_off
  ·exact absurd (hR.offI (i:=j) (k:=m) (by omega) (by omega) (by omega) (by omega) (by omega)) g.not_off
  ·exfalso
   have hnoR:NoOut ((roomP xs).rot i) (((roomP xs).rot i).v 0) (((roomP xs).rot i).v m):=by
    rw [NoOut.rot_iff (show 1≤xs.length by omega),v0,vm];exact hno
   exact no_cross hR (fun j=>room_turns hr (i + j)) (by rw [area_rot];exact (room_area hr).2.1) hnoR (k:=j) g2 g1
 refine cut_of hR c (s:=1) (t:=1) (K:=2) (by decide) (by decide) rfl ?_
 rw [Inn.rot_iff (show 1≤xs.length by omega),v0,vm,smul_one,smul_one]
 exact (mid_inn hr (ptOk_iff.1 (corner_ok hr hi)) (ptOk_iff.1 (corner_ok hr hk))).1 hmid
theorem Part.swap1 {a b q r:Pt} (h:Part a b q r):Part b a q r:=let ⟨f,fa,fb,fq,fr⟩:=h;⟨f,fb,fa,fq,fr⟩
theorem chord_part {P:Poly} {m:Nat} (c:Chord P m) {K:Int} (hK:0 < K) {x y:Pt} (hx:OnI x (smul K (P.v 0)) (smul K (P.v m))) (hy:OnI y (smul K (P.v 0)) (smul K (P.v m))):∀ k,k < P.n→Part (smul K (P.v k)) (smul K (P.v (k + 1))) x y:=by
 have hm2:=c.m2
 have hmn:=c.mn
 intro k hk
 rcases (show k=0∨k + 1=m∨k=m∨k + 1=P.n∨(0 < k∧k + 1 < P.n∧k≠m∧k + 1≠m) by omega) with g|g|g|g|⟨g1,g2,g3,g4⟩
 ·subst g;exact (c.b0.1.1.sc hK).part hx.swap hy.swap
 ·have:=(c.bm.1.1.sc hK).part hx hy
  rw [show m - 1=k by omega,← g] at this
  exact this.swap1
 ·subst g;exact (c.bm.2.1.sc hK).part hx hy
 ·have:=(c.b0.2.1.sc hK).part hx.swap hy.swap
  rw [show P.n - 1=k by omega] at this
  rw [g,P.vn];exact this.swap1
 ·exact ((c.apart k g1 g2 g3 g4).sc hK).inn hx hy
theorem mean_on {s t K:Int} (hs:0 < s) (ht:0 < t) (e:s + t=K) (a b:Pt):OnI (padd (smul s a) (smul t b)) (smul K a) (smul K b):=by
 refine ⟨s,t,hs,ht,?_,?_⟩
 ·rw [← e];unfold padd smul;simp only;grind
 ·rw [← e];unfold padd smul;simp only;grind
theorem near_mean (L:Int) (a b:Pt):padd (smul (L - 1) a) (smul 1 b)=padd (smul L a) (psub b a):=by
 unfold padd smul psub
 refine Prod.ext ?_ ?_ <;> simp only <;> grind
theorem mean_comm (s t:Int) (a b:Pt):padd (smul s a) (smul t b)=padd (smul t b) (smul s a):=by
 unfold padd
 refine Prod.ext ?_ ?_ <;> simp only <;> omega
theorem Cut.corner' {P:Poly} (hP:SimpleP P) {m:Nat} (c:Cut P m) {e:Nat} (h0:0 < e) (hm:e < m):Outp (partB P m) 1 (P.v e):=by
 have hmn:=c.c.mn
 have:=c.rot.1.corner (hP.rot m) (j:=P.n - m + e) (by omega) (by show _ < P.n;omega)
 rw [show (P.rot m).v (P.n - m + e)=P.v e by show P.v (m + (P.n - m + e))=_;rw [show m + (P.n - m + e)=e + P.n by omega,P.per]] at this
 exact this
theorem chord_facts {P:Poly} {i k:Nat} (hik:i < k) (hk:k < P.n) (d:Chord (P.rot i) (k - i)):(∀ t,t < P.n→t≠i→t≠k→Off (P.v t) (P.v i) (P.v k)) ∧
  (∀ t,t + 1 < P.n→t≠i→t≠k→t + 1≠i→t + 1≠k→Part (P.v t) (P.v (t + 1)) (P.v i) (P.v k)):=by
 have e0:(P.rot i).v 0=P.v i:=by show P.v (i + 0)=_;rw [Nat.add_zero]
 have em:(P.rot i).v (k - i)=P.v k:=by show P.v (i + (k - i))=_;rw [show i + (k - i)=k by omega]
 have v1:∀ t,i≤t→(P.rot i).v (t - i)=P.v t:=fun t h=>by show P.v (i + (t - i))=_;rw [show i + (t - i)=t by omega]
 have v2:∀ t,t≤i→(P.rot i).v (t + P.n - i)=P.v t:=fun t h=>by show P.v (i + (t + P.n - i))=_;rw [show i + (t + P.n - i)=t + P.n by omega,P.per]
 have hn:(P.rot i).n=P.n:=rfl
 refine ⟨fun t ht h1 h2=>?_,fun t ht h1 h2 h3 h4=>?_⟩
 ·rcases (show i≤t∨t < i by omega) with g|g
  ·have:=d.off (t - i) (by omega) (by omega) (by omega)
   rwa [e0,em,v1 t g] at this
  ·have:=d.off (t + P.n - i) (by omega) (by omega) (by omega)
   rwa [e0,em,v2 t (by omega)] at this
 ·rcases (show i≤t∨t < i by omega) with g|g
  ·have:=d.apart (t - i) (by omega) (by omega) (by omega) (by omega)
   rwa [e0,em,v1 t g,show t - i + 1=t + 1 - i by omega,v1 (t + 1) (by omega)] at this
  ·have:=d.apart (t + P.n - i) (by omega) (by omega) (by omega) (by omega)
   rwa [e0,em,v2 t (by omega),show t + P.n - i + 1=t + 1 + P.n - i by omega,v2 (t + 1) (by omega)] at this
theorem Cut.sub_chord {P:Poly} (hP:SimpleP P) {m:Nat} (c:Cut P m) {i k:Nat} (hik:i + 2≤k) (hk:k≤m) (hne:¬ (i=0∧k=m)) (d:Cut (P.rot i) (k - i)) (hsep:i≠0→k≠m→Part (P.v i) (P.v k) (P.v m) (P.v 0)):Cut ((P.arc m).rot i) (k - i):=by
 have hm2:=c.c.m2
 have hmn:=c.c.mn
 have hA:=c.simA hP
 have hA':=hA.rot i
 obtain ⟨dO,dP⟩:=chord_facts (by omega) (by omega) d.c
 have av:∀ j,((P.arc m).rot i).v j=P.v ((i + j) % (m + 1)):=fun _=>rfl
 have a0:((P.arc m).rot i).v 0=P.v i:=by rw [av,Nat.add_zero,Nat.mod_eq_of_lt (by omega)]
 have ak:((P.arc m).rot i).v (k - i)=P.v k:=by rw [av,show i + (k - i)=k by omega,Nat.mod_eq_of_lt (by omega)]
 have hn:((P.arc m).rot i).n=m + 1:=rfl
 have idx:∀ j,j < m + 1→(i + j < m + 1∧(i + j) % (m + 1)=i + j)∨(m + 1≤i + j∧(i + j) % (m + 1)=i + j - (m + 1)):=fun j hj=>by
  rcases Nat.lt_or_ge (i + j) (m + 1) with g|g
  ·exact .inl ⟨g,Nat.mod_eq_of_lt g⟩
  ·exact .inr ⟨g,by rw [Nat.mod_eq_sub_mod g,Nat.mod_eq_of_lt (by omega)]⟩
 have ch:Chord ((P.arc m).rot i) (k - i):=by
  refine Chord.mk' hA' (by omega) (by omega) (fun j j0 hj jk=>?_) (fun j j0 hj jk jk1=>?_)
  ·rw [a0,ak,av]
   rcases idx j (by omega) with ⟨g,e⟩|⟨g,e⟩ <;> rw [e] <;> exact dO _ (by omega) (by omega) (by omega)
  ·rw [a0,ak,av,av]
   rcases idx j (by omega) with ⟨g,e⟩|⟨g,e⟩
   ·rcases idx (j + 1) (by omega) with ⟨g',e'⟩|⟨g',e'⟩
    ·rw [e,e',show i + (j + 1)=i + j + 1 by omega]
     exact dP _ (by omega) (by omega) (by omega) (by omega) (by omega)
    ·rw [e,e',show i + j=m by omega,show i + (j + 1) - (m + 1)=0 by omega]
     exact (hsep (by omega) (by omega)).symm
   ·rcases idx (j + 1) (by omega) with ⟨g',e'⟩|⟨g',e'⟩
    ·omega
    ·rw [e,e',show i + (j + 1) - (m + 1)=i + j - (m + 1) + 1 by omega]
     exact dP _ (by omega) (by omega) (by omega) (by omega) (by omega)
 have hR:=hP.rot i
 have e0:(P.rot i).v 0=P.v i:=by show P.v (i + 0)=_;rw [Nat.add_zero]
 have em:(P.rot i).v (k - i)=P.v k:=by show P.v (i + (k - i))=_;rw [show i + (k - i)=k by omega]
 have key:∃ s t K:Int,0 < s∧0 < t∧s + t=K∧wnd (up.sc K) ((partB P m).sc K).way (padd (smul s (P.v i)) (smul t (P.v k)))=0:=by
  by_cases hi:i=0
  ·have ho:=c.corner' hP (e:=k) (by omega) (by omega)
   obtain ⟨L,hL,⟨g1,g2⟩,g3⟩:=((near ho.off (psub (P.v i) (P.v k))).and (Late.ge 2)).get
   refine ⟨1,L - 1,L,by omega,by omega,by omega,?_⟩
   have:=g2 up
   rw [Int.mul_one,ho.w nc_up] at this
   rw [mean_comm,near_mean];exact this
  ·have ho:=c.corner' hP (e:=i) (by omega) (by omega)
   obtain ⟨L,hL,⟨g1,g2⟩,g3⟩:=((near ho.off (psub (P.v k) (P.v i))).and (Late.ge 2)).get
   refine ⟨L - 1,1,L,by omega,by omega,by omega,?_⟩
   have:=g2 up
   rw [Int.mul_one,ho.w nc_up] at this
   rw [near_mean];exact this
 obtain ⟨s,t,K,hs,ht,e,hB⟩:=key
 have hK:0 < K:=by omega
 have hoff:=chord_off ch hs ht e
 rw [a0,ak] at hoff
 rcases out_or_in hA' (by rw [area_rot];exact c.a) hK hoff with g|g
 ·exfalso
  have g:=(Outp.rot_iff (show 1≤(P.arc m).n by show 1≤m + 1;omega) i).1 g
  have hin:=d.inn hR hs ht e
  rw [e0,em,Inn.rot_iff (show 1≤P.n by omega)] at hin
  have sum:=cut_sum (up.sc K) P K (show m≤P.n by omega) (padd (smul s (P.v i)) (smul t (P.v k)))
  rw [hB,g.w (g:=up.sc K) nc_up,hin.w (g:=up.sc K) nc_up] at sum
  omega
 ·exact cut_of hA' ch hs ht e (by rw [a0,ak];exact g)
theorem Cut.no_lace {P:Poly} (hP:SimpleP P) {m:Nat} (c:Cut P m) {i k:Nat} (h0:0 < i) (hi:i < m) (hmk:m < k) (hk:k < P.n) (d:Cut (P.rot i) (k - i)) (hsep:Part (P.v i) (P.v k) (P.v m) (P.v 0)):False:=by
 have hm2:=c.c.m2
 have hmn:=c.c.mn
 have hR:=hP.rot i
 have e0:(P.rot i).v 0=P.v i:=by show P.v (i + 0)=_;rw [Nat.add_zero]
 have em:(P.rot i).v (k - i)=P.v k:=by show P.v (i + (k - i))=_;rw [show i + (k - i)=k by omega]
 have oB:=c.corner' hP h0 hi
 have oA:=c.corner hP hmk hk
 obtain ⟨L,hL,⟨⟨b1,b2⟩,a1,a2⟩,hL2⟩:=(((near oB.off (psub (P.v k) (P.v i))).and (near oA.off (psub (P.v i) (P.v k)))).and (Late.ge 2)).get
 have wB:=b2 up
 have wA:=a2 up
 rw [Int.mul_one,oB.w nc_up,← near_mean] at wB
 rw [Int.mul_one,oA.w nc_up,← near_mean,mean_comm] at wA
 have hx:=mean_on (s:=L - 1) (t:=1) (K:=L) (by omega) (by omega) (by omega) (P.v i) (P.v k)
 have hy:=mean_on (s:=1) (t:=L - 1) (K:=L) (by omega) (by omega) (by omega) (P.v i) (P.v k)
 have hwalls:=chord_part d.c hL (x:=padd (smul (L - 1) (P.v i)) (smul 1 (P.v k))) (y:=padd (smul 1 (P.v i)) (smul (L - 1) (P.v k))) (by rw [e0,em];exact hx) (by rw [e0,em];exact hy)
 have wall:∀ t,t < m→Part (smul L (P.v t)) (smul L (P.v (t + 1))) (padd (smul (L - 1) (P.v i)) (smul 1 (P.v k))) (padd (smul 1 (P.v i)) (smul (L - 1) (P.v k))):=fun t ht=>by
  rcases (show i≤t∨t < i by omega) with g|g
  ·have:=hwalls (t - i) (by show _ < P.n;omega)
   rwa [show (P.rot i).v (t - i)=P.v t by show P.v (i + (t - i))=_;rw [show i + (t - i)=t by omega],show (P.rot i).v (t - i + 1)=P.v (t + 1) by show P.v (i + (t - i + 1))=_;rw [show i + (t - i + 1)=t + 1 by omega]] at this
  ·have:=hwalls (t + P.n - i) (by show _ < P.n;omega)
   rwa [show (P.rot i).v (t + P.n - i)=P.v t by show P.v (i + (t + P.n - i))=_;rw [show i + (t + P.n - i)=t + P.n by omega,P.per],show (P.rot i).v (t + P.n - i + 1)=P.v (t + 1) by show P.v (i + (t + P.n - i + 1))=_;rw [show i + (t + P.n - i + 1)=t + 1 + P.n by omega,P.per]] at this
 have hcw:Part (smul L (P.v m)) (smul L (P.v 0)) (padd (smul (L - 1) (P.v i)) (smul 1 (P.v k))) (padd (smul 1 (P.v i)) (smul (L - 1) (P.v k))):=(hsep.symm.sc hL).inn hx hy
 have same:=wnd_step (up.sc L) ((P.arc m).sc L).way (q:=padd (smul (L - 1) (P.v i)) (smul 1 (P.v k))) (r:=padd (smul 1 (P.v i)) (smul (L - 1) (P.v k)))
  (A_walls (Q:=fun a b=>Part (smul L a) (smul L b) (padd (smul (L - 1) (P.v i)) (smul 1 (P.v k))) (padd (smul 1 (P.v i)) (smul (L - 1) (P.v k)))) |>.2 ⟨wall,hcw⟩)
 have hin:=d.inn hR (s:=L - 1) (t:=1) (K:=L) (by omega) (by omega) (by omega)
 rw [e0,em,Inn.rot_iff (show 1≤P.n by omega)] at hin
 have sum:=cut_sum (up.sc L) P L (show m≤P.n by omega) (padd (smul (L - 1) (P.v i)) (smul 1 (P.v k)))
 rw [hin.w (g:=up.sc L) nc_up,wB,same,wA] at sum
 omega
end Go.Proofs.YtpafacebfogkmaaGreat.Geo
namespace Go.Proofs.YtpafacebfogkmaaGreat
open Go.RowKit Go.Proofs.YtpafacebfogkmaaGreat.Nm
set_option maxRecDepth 10000
set_option maxHeartbeats 2000000
def hasM (l:List Int) (k:Int):Bool:=l.any fun x=>x == k
end Go.Proofs.YtpafacebfogkmaaGreat
namespace Go.Proofs.YtpafacebfogkmaaGreat.Geo
open Go.RowKit
def ChV (Q:Poly) (u w:Pt):Prop:=∃ i m,Q.v i=u∧Q.v (i + m)=w∧Cut (Q.rot i) m
theorem rot_mul (Q:Poly) (i s:Nat):Q.rot (i + Q.n * s)=Q.rot i:=Poly.ext' rfl fun j=>by
 show Q.v (i + Q.n * s + j)=Q.v (i + j)
 rw [show i + Q.n * s + j=i + j + Q.n * s by omega,Q.per_mul]
theorem rot_n (Q:Poly) (i:Nat):Q.rot (i + Q.n)=Q.rot i:=by have:=rot_mul Q i 1;rwa [Nat.mul_one] at this
theorem rot_mod (Q:Poly) (i:Nat):Q.rot (i % Q.n)=Q.rot i:=Poly.ext' rfl fun j=>Q.per_add i j
theorem ChV.symm {Q:Poly} {u w:Pt} (h:ChV Q u w):ChV Q w u:=by
 obtain ⟨i,m,h1,h2,c⟩:=h
 have hmn:m + 2≤Q.n:=c.c.mn
 have c':=c.rot.1
 rw [rot_rot] at c'
 exact ⟨i + m,Q.n - m,h2,by rw [show i + m + (Q.n - m)=i + Q.n by omega,Q.per];exact h1,c'⟩
theorem ChV.of_rot {Q:Poly} {u w:Pt} {s:Nat} (h:ChV (Q.rot s) u w):ChV Q u w:=by
 obtain ⟨i,m,h1,h2,c⟩:=h
 rw [rot_rot] at c
 exact ⟨s + i,m,h1,by rw [Nat.add_assoc];exact h2,c⟩
theorem ChV.rot {Q:Poly} {u w:Pt} (h:ChV Q u w) (s:Nat):ChV (Q.rot s) u w:=by
 obtain ⟨i,m,h1,h2,c⟩:=h
 have hmn:m + 2≤Q.n:=c.c.mn
 have hle:s≤Q.n * s:=Nat.le_mul_of_pos_left _ (by omega)
 refine ⟨i + Q.n * s - s,m,?_,?_,?_⟩
 ·show Q.v (s + (i + Q.n * s - s))=u
  rw [show s + (i + Q.n * s - s)=i + Q.n * s by omega,Q.per_mul];exact h1
 ·show Q.v (s + (i + Q.n * s - s + m))=w
  rw [show s + (i + Q.n * s - s + m)=i + m + Q.n * s by omega,Q.per_mul];exact h2
 ·rw [rot_rot,show s + (i + Q.n * s - s)=i + Q.n * s by omega,rot_mul];exact c
theorem ChV.norm {Q:Poly} {u w:Pt} (h:ChV Q u w):∃ i k,i < k∧k < Q.n∧((Q.v i=u∧Q.v k=w)∨(Q.v i=w∧Q.v k=u))∧Cut (Q.rot i) (k - i):=by
 obtain ⟨i,m,h1,h2,c⟩:=h
 have hm2:=c.c.m2
 have hmn:m + 2≤Q.n:=c.c.mn
 have hi:=Nat.mod_lt i (show 0 < Q.n by omega)
 rw [← rot_mod] at c
 rw [← Q.per_mod i] at h1
 rw [← Q.per_add i m] at h2
 generalize i % Q.n=r at *
 rcases Nat.lt_or_ge (r + m) Q.n with g|g
 ·exact ⟨r,r + m,by omega,g,.inl ⟨h1,h2⟩,by rw [show r + m - r=m by omega];exact c⟩
 ·have c':=c.rot.1
  rw [rot_rot,show (Q.rot r).n=Q.n from rfl] at c'
  refine ⟨r + m - Q.n,r,by omega,hi,.inr ⟨?_,h1⟩,?_⟩
  ·rw [← h2,← Q.per (r + m - Q.n),show r + m - Q.n + Q.n=r + m by omega]
  ·rw [← rot_n,show r + m - Q.n + Q.n=r + m by omega,show r - (r + m - Q.n)=Q.n - m by omega];exact c'
theorem ChV.split {Q:Poly} (hQ:SimpleP Q) {m:Nat} (c:Cut Q m) {u w:Pt} (h:ChV Q u w) (hne:¬ ((u=Q.v 0∧w=Q.v m)∨(u=Q.v m∧w=Q.v 0)))
  (hsep:u≠Q.v 0→u≠Q.v m→w≠Q.v 0→w≠Q.v m→Part u w (Q.v m) (Q.v 0)):ChV (Q.arc m) u w∨ChV (partB Q m) u w:=by
 have hm2:=c.c.m2
 have hmn:=c.c.mn
 have key:∀ i k,i < k→k < Q.n→Cut (Q.rot i) (k - i)→¬ (i=0∧k=m)→(i≠0→i≠m→k≠m→Part (Q.v i) (Q.v k) (Q.v m) (Q.v 0))→ChV (Q.arc m) (Q.v i) (Q.v k)∨ChV (partB Q m) (Q.v i) (Q.v k):=fun i k hik hk d hne hs=>by
  have hd2:=d.c.m2
  have c':=c.rot.1
  have hQm:=hQ.rot m
  rcases (show k≤m∨m≤i∨(i=0∧m < k)∨(0 < i∧i < m∧m < k) by omega) with g|g|⟨g1,g2⟩|⟨g1,g2,g3⟩
  ·left
   exact ⟨i,k - i,arc_v _ (by omega),(congrArg _ (show i + (k - i)=k by omega)).trans (arc_v _ g),c.sub_chord hQ (by omega) g hne d fun a b=>hs a (by omega) b⟩
  ·right
   have e1:(Q.rot m).v (i - m)=Q.v i:=by show Q.v (m + (i - m))=_;rw [show m + (i - m)=i by omega]
   have e2:(Q.rot m).v (k - m)=Q.v k:=by show Q.v (m + (k - m))=_;rw [show m + (k - m)=k by omega]
   have e3:(Q.rot m).v (Q.n - m)=Q.v 0:=by show Q.v (m + (Q.n - m))=_;rw [show m + (Q.n - m)=0 + Q.n by omega,Q.per]
   have e4:(Q.rot m).v 0=Q.v m:=rfl
   have:=c'.sub_chord hQm (i:=i - m) (k:=k - m) (by omega) (by omega) (by omega) (by rw [rot_rot,show m + (i - m)=i by omega,show k - m - (i - m)=k - i by omega];exact d) (fun a b=>by
    rw [e1,e2,e3,e4]
    exact (hs (by omega) (by omega) (by omega)).comm2)
   refine ⟨i - m,k - m - (i - m),?_,?_,this⟩
   ·rw [B_v (by omega) (by omega),show m + (i - m)=i by omega]
   ·rw [B_v (by omega) (by omega),show m + (i - m + (k - m - (i - m)))=k by omega]
  ·right
   subst g1
   have d':=d.rot.1
   rw [rot_rot,show (Q.rot 0).n=Q.n from rfl,Nat.zero_add,Nat.sub_zero] at d'
   have:=c'.sub_chord hQm (i:=k - m) (k:=Q.n - m) (by have:=d'.c.m2;omega) (by omega) (by omega) (by rw [rot_rot,show m + (k - m)=k by omega,show Q.n - m - (k - m)=Q.n - k by omega];exact d') (fun a b=>absurd rfl b)
   refine ChV.symm ⟨k - m,Q.n - m - (k - m),?_,?_,this⟩
   ·rw [B_v (by omega) (by omega),show m + (k - m)=k by omega]
   ·rw [B_v (by omega) (by omega),show m + (k - m + (Q.n - m - (k - m)))=0 + Q.n by omega,Q.per]
  ·exact (c.no_lace hQ g1 g2 g3 hk d (hs (by omega) (by omega) (by omega))).elim
 obtain ⟨i,k,hik,hk,ho,d⟩:=h.norm
 have inj:∀ {a b},a < Q.n→b < Q.n→Q.v a=Q.v b→a=b:=fun {a b} ha hb e=>by
  by_cases q:a=b
  ·exact q
  ·exact absurd e (hQ.inj ha hb q)
 rcases ho with ⟨rfl,rfl⟩|⟨rfl,rfl⟩
 ·exact key i k hik hk d (fun ⟨a,b⟩=>hne (.inl ⟨by rw [a],by rw [b]⟩)) fun a b c=>hsep (fun e=>a (inj (by omega) (by omega) e)) (fun e=>b (inj (by omega) (by omega) e)) (fun e=>by have:=inj (by omega) (by omega) e;omega) fun e=>c (inj (by omega) (by omega) e)
 ·have:=key i k hik hk d (fun ⟨a,b⟩=>hne (.inr ⟨by rw [b],by rw [a]⟩)) fun a b c=>(hsep (fun e=>by have:=inj (by omega) (by omega) e;omega) (fun e=>c (inj (by omega) (by omega) e)) (fun e=>a (inj (by omega) (by omega) e)) fun e=>b (inj (by omega) (by omega) e)).swap1
  exact this.imp ChV.symm ChV.symm
structure Prt (xs:List Pt) (l:List Int):Prop where
 sorted:l.Pairwise (· < ·)
 bd:∀ x∈l,0≤x∧x < xs.length
 sim:SimpleP (subP xs l)
 area:0 < (subP xs l).area
 inn:∀ {K x},0 < K→Inn (subP xs l) K x→Inn (roomP xs) K x
theorem Prt.len {xs:List Pt} {l:List Int} (h:Prt xs l):3≤l.length:=h.sim.n3
theorem sorted_lt {l:List Int} (h:l.Pairwise (· < ·)) {i j:Nat} (hij:i < j) (hj:j < l.length):gI l i < gI l j:=by
 have:=List.pairwise_iff_getElem.1 h i j (by omega) hj hij
 rwa [← getD_lt 0 (show i < l.length by omega),← getD_lt 0 hj] at this
theorem filt_mid {l:List Int} {f:Int→Bool} {p q:Nat} (hpq:p≤q) (hq:q < l.length) (hf:∀ t,t < l.length→(f (gI l t)=true↔p≤t∧t≤q)):l.filter f=(l.drop p).take (q + 1 - p):=by
 have e:l=l.take p ++ ((l.drop p).take (q + 1 - p) ++ l.drop (q + 1)):=by
  have e2:(l.drop p).drop (q + 1 - p)=l.drop (q + 1):=by rw [List.drop_drop];congr 1;omega
  rw [← e2,List.take_append_drop,List.take_append_drop]
 have at_:∀ {t} (h:t < l.length),l[t]=gI l t:=fun h=>(getD_lt 0 h).symm
 have f1:(l.take p).filter f=[]:=by
  rw [List.filter_eq_nil_iff]
  intro x hx
  obtain ⟨t,ht,rfl⟩:=List.getElem_of_mem hx
  rw [List.length_take] at ht
  rw [List.getElem_take,at_ (by omega)]
  intro g
  have:=(hf t (by omega)).1 g
  omega
 have f3:(l.drop (q + 1)).filter f=[]:=by
  rw [List.filter_eq_nil_iff]
  intro x hx
  obtain ⟨t,ht,rfl⟩:=List.getElem_of_mem hx
  rw [List.length_drop] at ht
  rw [List.getElem_drop,at_ (by omega)]
  intro g
  have:=(hf (q + 1 + t) (by omega)).1 g
  omega
 have f2:((l.drop p).take (q + 1 - p)).filter f=(l.drop p).take (q + 1 - p):=by
  rw [List.filter_eq_self]
  intro x hx
  obtain ⟨t,ht,rfl⟩:=List.getElem_of_mem hx
  rw [List.length_take,List.length_drop] at ht
  rw [List.getElem_take,List.getElem_drop,at_ (by omega)]
  exact (hf (p + t) (by omega)).2 (by omega)
 conv=>lhs;rw [e]
 rw [List.filter_append,List.filter_append,f1,f2,f3,List.nil_append,List.append_nil]
theorem filt_out {l:List Int} {f:Int→Bool} {p q:Nat} (hpq:p < q) (hq:q < l.length) (hf:∀ t,t < l.length→(f (gI l t)=true↔t≤p∨q≤t)):l.filter f=l.take (p + 1) ++ l.drop q:=by
 have e:l=l.take (p + 1) ++ ((l.drop (p + 1)).take (q - (p + 1)) ++ l.drop q):=by
  have e2:(l.drop (p + 1)).drop (q - (p + 1))=l.drop q:=by rw [List.drop_drop];congr 1;omega
  rw [← e2,List.take_append_drop,List.take_append_drop]
 have at_:∀ {t} (h:t < l.length),l[t]=gI l t:=fun h=>(getD_lt 0 h).symm
 have f1:(l.take (p + 1)).filter f=l.take (p + 1):=by
  rw [List.filter_eq_self]
  intro x hx
  obtain ⟨t,ht,rfl⟩:=List.getElem_of_mem hx
  rw [List.length_take] at ht
  rw [List.getElem_take,at_ (by omega)]
  exact (hf t (by omega)).2 (by omega)
 have f3:(l.drop q).filter f=l.drop q:=by
  rw [List.filter_eq_self]
  intro x hx
  obtain ⟨t,ht,rfl⟩:=List.getElem_of_mem hx
  rw [List.length_drop] at ht
  rw [List.getElem_drop,at_ (by omega)]
  exact (hf (q + t) (by omega)).2 (by omega)
 have f2:((l.drop (p + 1)).take (q - (p + 1))).filter f=[]:=by
  rw [List.filter_eq_nil_iff]
  intro x hx
  obtain ⟨t,ht,rfl⟩:=List.getElem_of_mem hx
  rw [List.length_take,List.length_drop] at ht
  rw [List.getElem_take,List.getElem_drop,at_ (by omega)]
  intro g
  have:=(hf (p + 1 + t) (by omega)).1 g
  omega
 conv=>lhs;rw [e]
 rw [List.filter_append,List.filter_append,f1,f2,f3,List.nil_append]
theorem gI_mid {l:List Int} {p q r:Nat} (hq:q < l.length) (hr:p + r≤q):gI ((l.drop p).take (q + 1 - p)) r=gI l (p + r):=by
 show List.getD _ r 0=List.getD l (p + r) 0
 rw [getD_lt _ (by rw [List.length_take,List.length_drop];omega),getD_lt _ (by omega),List.getElem_take,List.getElem_drop]
theorem sub_mid (xs:List Pt) {l:List Int} {p q:Nat} (hpq:p < q) (hq:q < l.length):subP xs ((l.drop p).take (q + 1 - p))=((subP xs l).rot p).arc (q - p):=by
 have hl:((l.drop p).take (q + 1 - p)).length=q - p + 1:=by rw [List.length_take,List.length_drop];omega
 refine Poly.ext' hl fun j=>?_
 show (roomP xs).v (gI _ (j % _)).toNat=(roomP xs).v (gI l ((p + j % (q - p + 1)) % l.length)).toNat
 rw [hl]
 have hr:j % (q - p + 1) < q - p + 1:=Nat.mod_lt _ (by omega)
 rw [gI_mid hq (by omega),Nat.mod_eq_of_lt (show p + j % (q - p + 1) < l.length by omega)]
theorem sub_out (xs:List Pt) {l:List Int} {p q:Nat} (hpq:p < q) (hq:q < l.length):(subP xs (l.take (p + 1) ++ l.drop q)).rot (p + 1)=partB ((subP xs l).rot p) (q - p):=by
 have hl:(l.take (p + 1) ++ l.drop q).length=p + 1 + (l.length - q):=by rw [List.length_append,List.length_take,List.length_drop];omega
 have hn:(subP xs l).n - (q - p) + 1=p + 1 + (l.length - q):=by show l.length - (q - p) + 1=_;omega
 refine Poly.ext' (by show (l.take (p + 1) ++ l.drop q).length=(subP xs l).n - (q - p) + 1;rw [hl,hn]) fun j=>?_
 show (roomP xs).v (gI _ ((p + 1 + j) % (l.take (p + 1) ++ l.drop q).length)).toNat=(roomP xs).v (gI l ((p + (q - p + j % ((subP xs l).n - (q - p) + 1))) % l.length)).toNat
 rw [hl,hn,← Nat.add_mod_mod]
 have hr:j % (p + 1 + (l.length - q)) < p + 1 + (l.length - q):=Nat.mod_lt _ (by omega)
 generalize j % (p + 1 + (l.length - q))=r at *
 congr 2
 rcases Nat.lt_or_ge r (l.length - q) with g|g
 ·rw [Nat.mod_eq_of_lt (show p + 1 + r < p + 1 + (l.length - q) by omega),Nat.mod_eq_of_lt (show p + (q - p + r) < l.length by omega)]
  show List.getD _ (p + 1 + r) 0=List.getD l (p + (q - p + r)) 0
  rw [List.getD_eq_getElem?_getD,List.getElem?_append_right (by rw [List.length_take];omega),List.length_take,List.getElem?_drop,List.getD_eq_getElem?_getD]
  congr 2;omega
 ·rw [Nat.mod_eq_sub_mod (show p + 1 + (l.length - q)≤p + 1 + r by omega),Nat.mod_eq_of_lt (show p + 1 + r - (p + 1 + (l.length - q)) < p + 1 + (l.length - q) by omega),Nat.mod_eq_sub_mod (show l.length≤p + (q - p + r) by omega),Nat.mod_eq_of_lt (show p + (q - p + r) - l.length < l.length by omega)]
  show List.getD _ (p + 1 + r - (p + 1 + (l.length - q))) 0=List.getD l (p + (q - p + r) - l.length) 0
  rw [List.getD_eq_getElem?_getD,List.getElem?_append_left (by rw [List.length_take];omega),List.getElem?_take_of_lt (by omega),List.getD_eq_getElem?_getD]
  congr 2;omega
end Go.Proofs.YtpafacebfogkmaaGreat.Geo
