/- What the proof of 'FnExactPartsOf' needs, part 2: conditions and steps of the functions that it reaches, and the mathematics. -/
import Derived.Test.YtpafacebfogkmaaGreatRows
import Derived.WalkKit
import Derived.WalkSpells
import Derived.Below
import Derived.Orders
import Derived.Maps.AppendAt
import Derived.Test.YtpafacebfogkmaaGreatSFnExactPartsOf1
set_option linter.unusedSimpArgs false
set_option linter.unusedVariables false
namespace Go.Proofs.YtpafacebfogkmaaGreat
open Go.RowKit
section
variable {P : Program} {c : Cfg} {w : World} {N F : Nat → Prop} {ρ : Nat → Value} {own : Nat → Loc} {slots : Nat → AV} {a : Act} {Q : Exit → Act → World → Prop} {o : Oper} {p : Prop} {y : AV}
structure Next' (P:Program) (c:Cfg) (N F:Nat→Prop) (ρ:Nat→Value) (own:Nat→Loc) (a:Act) (w:World) (σ':St) (a':Act) (w':World) (F':Nat→Prop) (ρ':Nat→Value):Prop where
 here:Here P c N F' ρ' σ'.own σ'.slots a' w'
 ext:Ext w F w' F'
 fr:∀ b,b < w.heap.size→¬ N b→w'.heap[b]?=w.heap[b]?
 new:∀ b,F' b→F b∨N b
 size:a'.tmps.size=a.tmps.size
 defers:a'.defers=a.defers
 mono:∀ l,(own l).ver≤(σ'.own l).ver
 keep:∀ l,(σ'.own l).ver=(own l).ver→ρ' (pl l)=ρ (pl l)
def Eff (P:Program) (c:Cfg) (N F:Nat→Prop) (ρ:Nat→Value) (own:Nat→Loc) (o:Oper) (a:Act) (w:World) (K:St→Prop) (Q:Exit→Act→World→Prop):Prop:=
 o.wp P a w (fun a' w'=>∃ σ' F' ρ',K σ'∧Next' P c N F ρ own a w σ' a' w' F' ρ') Q
theorem put_get {a:Act} {d:Nat} {u:Value} (hd:d < a.tmps.size) (t:Nat):(a.put (some d) u).tmps.getD t undef=if t=d then u else a.tmps.getD t undef:=by
 simp only [Act.put]
 by_cases h:t=d
 ·subst h
  rw [if_pos rfl]
  simp [hd]
 ·rw [if_neg h]
  simp [Array.getElem?_setIfInBounds_ne (Ne.symm h)]
theorem upd_get {α:Type} (f:Nat→α) (d:Nat) (x:α) (t:Nat):upd f d x t=if t=d then x else f t:=by
 by_cases h:t=d
 ·subst h;rw [upd_eq,if_pos rfl]
 ·rw [upd_ne _ _ h,if_neg h]
theorem ver_two (own:Nat→Loc) (d:Nat) (x:Own) (l:Nat):(own l).ver≤(upd own d ⟨(own d).ver + 1,x⟩ l).ver:=by
 rw [upd_get]
 split
 ·rename_i h;subst h;exact Nat.le_succ _
 ·exact Nat.le_refl _
theorem inn_two (ρ:Nat→Value) (d:Nat) (s:Value):∀ l',l'≠d→∀ i,upd ρ (pl d) s (inn l' i)=ρ (inn l' i):=fun _ _ _=>upd_ne _ _ (inn_pl _ _ _)
theorem keep_two (own:Nat→Loc) (ρ:Nat→Value) (d:Nat) (x:Own) (s:Value) (l:Nat) (h:(upd own d ⟨(own d).ver + 1,x⟩ l).ver=(own l).ver):upd ρ (pl d) s (pl l)=ρ (pl l):=by
 rw [upd_get] at h
 split at h
 ·rename_i e;subst e;simp at h
 ·rename_i e;exact upd_ne _ _ (pl_ne e)
theorem ver_same (own:Nat→Loc) (d:Nat) (x:Own) (l:Nat):(own l).ver≤(upd own d ⟨(own d).ver,x⟩ l).ver:=by
 rw [upd_get]
 split
 ·rename_i h;subst h;exact Nat.le_refl _
 ·exact Nat.le_refl _
theorem slots_put {C':Cell→Value→Prop} {C:Cell→Value→Prop} (hC:∀ z v,C z v→C' z v) (hs:∀ t,AVG C (slots t) (a.tmps.getD t undef)) {d:Nat} (hd:d < a.tmps.size) {x:AV} {u:Value} (hx:AVG C' x u) (t:Nat) :
  AVG C' (upd slots d x t) ((a.put (some d) u).tmps.getD t undef):=by
 rw [upd_get,put_get hd]
 split
 ·exact hx
 ·exact AVG.imp hC (hs t)
theorem put_size (a:Act) (d:Option Nat) (u:Value):(a.put d u).tmps.size=a.tmps.size:=by cases d <;> simp [Act.put]
theorem put_defers' (a:Act) (d:Option Nat) (u:Value):(a.put d u).defers=a.defers:=by cases d <;> rfl
theorem CellC.step {w':World} {F':Nat→Prop} {ρ':Nat→Value} {own':Nat→Loc} {l:Nat} (hext:Ext w F w' F') (ho:∀ l',l'≠l→own' l'=own l'∧ρ' (pl l')=ρ (pl l'))
  (hl:(own l).ver < (own' l).ver∨((own' l).ver=(own l).ver∧ρ' (pl l)=ρ (pl l)∧((∃ ty cs cs',(own l).obj=.box ty cs∧(own' l).obj=.box ty cs')∨(∃ ty k xs xs',(own l).obj=.row ty k xs∧(own' l).obj=.row ty k xs') ∨
   ∃ ty ety e xs xs' g g',(own l).obj=.deep ty ety e xs g∧(own' l).obj=.deep ty ety e xs' g'∧xs'.length=xs.length∧∀ i,sees g' i→sees g i∧ρ' (inn l i)=ρ (inn l i))))
  {z:Cell} {v:Value} (h:CellC w F ρ own z v) (hi:∀ l',l'≠l→∀ i,ρ' (inn l' i)=ρ (inn l' i):=by first|exact fun _ _ _=>rfl|exact inn_two _ _ _):CellC w' F' ρ' own' z v:=by
 cases z with
 | d x=>exact DC.mono hext h
 | own m ver=>
  by_cases hm:m=l
  ·subst hm
   rcases hl with hl|⟨h1,h2,h3⟩
   ·exact ⟨h.1,by have:=h.2.1;omega,fun hv=>by have:=h.2.1;omega⟩
   ·refine ⟨h.1,by rw [h1];exact h.2.1,fun hv=>?_⟩
    rw [h2]
    refine h.2.2 ⟨h1 ▸ hv.1,?_⟩
    rcases h3 with ⟨ty,cs,cs',e1,e2⟩|⟨ty,k,xs,xs',e1,e2⟩|⟨ty,ety,e,xs,xs',g,g',e1,e2,-,-⟩
    ·have e3:=hv.2
     rw [e2] at e3;exact e3.elim
    ·rw [e1];trivial
    ·rw [e1];trivial
  ·obtain ⟨e1,e2⟩:=ho m hm
   refine ⟨h.1,by rw [e1];exact h.2.1,fun hv=>?_⟩
   rw [e1] at hv
   rw [e2]
   exact h.2.2 hv
 | ptr m ver i j=>
  by_cases hm:m=l
  ·subst hm
   rcases hl with hl|⟨h1,h2,h3⟩
   ·exact ⟨h.1,by have:=h.2.1;omega,fun hv=>by have:=h.2.1;omega⟩
   ·refine ⟨h.1,by rw [h1];exact h.2.1,fun hv=>?_⟩
    have hh:=h.2.2 (h1 ▸ hv)
    rcases h3 with ⟨ty,cs,cs',e1,e2⟩|⟨ty,k,xs,xs',e1,e2⟩|⟨ty,ety,e,xs,xs',g,g',e1,e2,e3,e4⟩
    ·rw [e1] at hh;rw [e2,h2];exact hh
    ·rw [e1] at hh;rw [e2,h2];exact hh
    ·rw [e1] at hh;rw [e2]
     cases j with
     | zero=>simp only at hh ⊢;rw [h2];exact hh
     | succ j=>
      simp only at hh ⊢
      intro x hx hg
      rw [(e4 i hg).2]
      have hlt:=(List.getElem?_eq_some_iff.1 hx).1
      exact hh _ (List.getElem?_eq_getElem (by omega)) (e4 i hg).1
  ·obtain ⟨e1,e2⟩:=ho m hm
   refine ⟨h.1,by rw [e1];exact h.2.1,fun hv=>?_⟩
   rw [e1] at hv ⊢
   rw [e2]
   have hh:=h.2.2 hv
   revert hh
   generalize (own m).obj=q
   intro hh
   cases q with
   | deep ty ety e xs g=>
    cases j with
    | zero=>exact hh
    | succ j=>
     simp only at hh ⊢
     intro x hx hg
     rw [hi m hm]
     exact hh x hx hg
   | _=>exact hh
 | sub m ver off n=>
  by_cases hm:m=l
  ·subst hm
   rcases hl with hl|⟨h1,h2,h3⟩
   ·exact ⟨h.1,by have:=h.2.1;omega,fun hv=>by have:=h.2.1;omega⟩
   ·refine ⟨h.1,by rw [h1];exact h.2.1,fun hv=>⟨fun ty0 k0 xs0 hob=>?_,fun ty0 ety0 e0 xs0 g0 x0 hob hx hg=>?_⟩⟩
    ·have hh:=(h.2.2 (h1 ▸ hv)).1
     rw [h2]
     rcases h3 with ⟨ty,cs,cs',e1,e2⟩|⟨ty,k,xs,xs',e1,e2⟩|⟨ty,ety,e,xs,xs',g,g',e1,e2,e3,e4⟩
     ·rw [e2] at hob;cases hob
     ·rw [e2] at hob
      injection hob with q1 q2 q3
      subst q1 q2
      exact hh _ _ xs e1
     ·rw [e2] at hob;cases hob
    ·have hh:=(h.2.2 (h1 ▸ hv)).2
     rcases h3 with ⟨ty,cs,cs',e1,e2⟩|⟨ty,k,xs,xs',e1,e2⟩|⟨ty,ety,e,xs,xs',g,g',e1,e2,e3,e4⟩
     ·rw [e2] at hob;cases hob
     ·rw [e2] at hob;cases hob
     ·rw [e2] at hob
      injection hob with q1 q2 q3 q4 q5
      subst q1 q2 q3
      have q4:=eq_of_heq q4
      subst q4 q5
      rw [(e4 _ hg).2]
      have hlt:=(List.getElem?_eq_some_iff.1 hx).1
      exact hh _ _ _ xs g _ e1 (List.getElem?_eq_getElem (by omega)) (e4 _ hg).1
  ·obtain ⟨e1,e2⟩:=ho m hm
   refine ⟨h.1,by rw [e1];exact h.2.1,fun hv=>?_⟩
   rw [e1] at hv ⊢
   rw [e2,hi m hm]
   exact h.2.2 hv
theorem OwnOk.step {w':World} {F':Nat→Prop} {ρ':Nat→Value} {own':Nat→Loc} {l:Nat} {ob:Own} (hext:Ext w F w' F') (hC:∀ z v,CellC w F ρ own z v→CellC w' F' ρ' own' z v) (hρ:ρ' (pl l)=ρ (pl l)) (hi:∀ i,ρ' (inn l i)=ρ (inn l i))
  (hb:∀ b,holds ρ l ob b→b < w.heap.size→N b→¬ F b→w'.heap[b]?=w.heap[b]?∧¬ F' b) (h:OwnOk w N F ρ own l ob):OwnOk w' N F' ρ' own' l ob:=by
 cases ob with
 | dead=>trivial
 | box ty cs=>
  obtain ⟨b,vs,h1,hh,hc,h2,hN,hn⟩:=h
  obtain ⟨k1,k2⟩:=hb b (show blk (ρ (pl l))=some b by rw [h1];rfl) (lt_of_block hh) hN hn
  exact ⟨b,vs,hρ.trans h1,k1.trans hh,CellsG.imp (fun z v _=>hC z v) hc,h2,hN,k2⟩
 | row ty k xs=>
  obtain ⟨vs,hw,hc,hn⟩:=h
  refine ⟨vs,⟨hw.1,?_⟩,hc.mono hext,fun b hbl=>?_⟩
  ·rw [hρ]
   rcases hw.2 with h|⟨g,cap,cur,hv,hg,hh,r⟩
   ·exact .inl h
   ·have hbl:blk (ρ (pl l))=some g:=by rw [hv];rfl
    exact .inr ⟨g,cap,cur,hv,hg,(hb g hbl (lt_of_block hh) (hn g hbl).1 (hn g hbl).2).1.trans hh,r⟩
  ·rw [hρ] at hbl
   have hlt:=(hw.lt b (blk_own hw hbl)).2
   exact ⟨(hn b hbl).1,(hb b hbl hlt (hn b hbl).1 (hn b hbl).2).2⟩
 | tail ty k xs=>
  obtain ⟨vs,hw,hc,hn⟩:=h
  exact ⟨vs,by rw [hρ];exact hw.of fun b hbl=>(hb b hbl (hw.lt hbl) (hn b hbl).1 (hn b hbl).2).1,hc.mono hext,fun b hbl=>by rw [hρ] at hbl;exact ⟨(hn b hbl).1,(hb b hbl (hw.lt hbl) (hn b hbl).1 (hn b hbl).2).2⟩⟩
 | deep ty ety e xs gn=>
  obtain ⟨vs,hw,h1,hn,hin⟩:=h
  have hlt:∀ b,blk (ρ (pl l))=some b→b < w.heap.size:=fun b hbl=>(hw.lt b (blk_own hw hbl)).2
  refine ⟨vs,⟨hw.1,?_⟩,h1,fun b hbl=>?_,fun i x hx hgi=>?_⟩
  ·rw [hρ]
   rcases hw.2 with h|⟨g,cap,cur,hv,hg,hh,r⟩
   ·exact .inl h
   ·have hbl:blk (ρ (pl l))=some g:=by rw [hv];rfl
    exact .inr ⟨g,cap,cur,hv,hg,(hb g (.inl hbl) (lt_of_block hh) (hn g hbl).1 (hn g hbl).2).1.trans hh,r⟩
  ·rw [hρ] at hbl
   exact ⟨(hn b hbl).1,(hb b (.inl hbl) (hlt b hbl) (hn b hbl).1 (hn b hbl).2).2⟩
  ·obtain ⟨q1,⟨us,hu,hr⟩,q3⟩:=hin i x hx hgi
   rw [hi,hρ]
   refine ⟨q1,⟨us,⟨hu.1,?_⟩,hr.mono hext⟩,fun b hbl=>⟨(q3 b hbl).1,(hb b (.inr ⟨i,x,hx,hgi,hbl⟩) (hu.lt b (blk_own hu hbl)).2 (q3 b hbl).1 (q3 b hbl).2.1).2,(q3 b hbl).2.2.1,fun j y hj hy hgj=>by rw [hi];exact (q3 b hbl).2.2.2 j y hj hy hgj⟩⟩
   rcases hu.2 with h|⟨g,cap,cur,hv,hg,hh,r⟩
   ·exact .inl h
   ·have hbl:blk (ρ (inn l i))=some g:=by rw [hv];rfl
    exact .inr ⟨g,cap,cur,hv,hg,(hb g (.inr ⟨i,x,hx,hgi,hbl⟩) (lt_of_block hh) (q3 g hbl).1 (q3 g hbl).2.1).1.trans hh,r⟩
theorem Mem.step (m:Mem w N F ρ own) {w':World} {F':Nat→Prop} {ρ':Nat→Value} {own':Nat→Loc} {l:Nat} (hext:Ext w F w' F') (ho:∀ l',l'≠l→own' l'=own l'∧ρ' (pl l')=ρ (pl l')) (hi:∀ l',l'≠l→∀ i,ρ' (inn l' i)=ρ (inn l' i))
  (hC:∀ z v,CellC w F ρ own z v→CellC w' F' ρ' own' z v)
  (hb:∀ l' b,l'≠l→(own l').obj.live=true→holds ρ l' (own l').obj b→b < w.heap.size→¬ F b→w'.heap[b]?=w.heap[b]?∧¬ F' b)
  (hl:OwnOk w' N F' ρ' own' l (own' l).obj) (hap:∀ l' b,l'≠l→(own l').obj.live=true→holds ρ' l (own' l).obj b→holds ρ l' (own l').obj b→False)
  (hfin:∀ b,F' b→b < w'.heap.size):Mem w' N F' ρ' own':=by
 refine ⟨fun l'=>?_,fun l1 l2 b hne h1 h2 e1 e2=>?_,hfin⟩
 ·by_cases h:l'=l
  ·subst h;exact hl
  ·obtain ⟨e1,e2⟩:=ho l' h
   rw [e1]
   cases hob:(own l').obj with
   | dead=>trivial
   | _=>
    have:=m.ok l'
    rw [hob] at this
    exact this.step hext hC e2 (hi l' h) fun b h1 h2 h3 h4=>hb l' b h (by rw [hob];rfl) (by rw [hob];exact h1) h2 h4
 ·by_cases h1':l1=l
  ·subst h1'
   obtain ⟨g1,g2⟩:=ho l2 (Ne.symm hne)
   rw [g1] at h2 e2
   have e2:=holds_step g2 (hi l2 (Ne.symm hne)) e2
   exact hap l2 b (Ne.symm hne) h2 e1 e2
  ·obtain ⟨g1,g2⟩:=ho l1 h1'
   rw [g1] at h1 e1
   have e1:=holds_step g2 (hi l1 h1') e1
   by_cases h2':l2=l
   ·subst h2'
    exact hap l1 b hne h1 e2 e1
   ·obtain ⟨k1,k2⟩:=ho l2 h2'
    rw [k1] at h2 e2
    have e2:=holds_step k2 (hi l2 h2') e2
    exact m.apart l1 l2 b hne h1 h2 e1 e2
theorem upd_two {α β:Type} (f:Nat→α) (g:Nat→β) (d:Nat) (x:α) (z:β):∀ l',l'≠d→upd f d x l'=f l'∧upd g (pl d) z (pl l')=g (pl l'):=fun _ h=>⟨upd_ne _ _ h,upd_ne _ _ (pl_ne h)⟩
theorem blk_lt (m:Mem w N F ρ own) {l b:Nat} (hl:(own l).obj.live=true) (hb:holds ρ l (own l).obj b):b < w.heap.size∧N b∧¬ F b:=by
 have h:=m.ok l
 cases ho:(own l).obj with
 | dead=>rw [ho] at hl;cases hl
 | box ty cs=>
  rw [ho] at h hb
  obtain ⟨b',vs,h1,hh,_,_,hN,hn⟩:=h
  simp only [holds] at hb
  rw [h1] at hb
  simp only [blk,Option.some.injEq] at hb
  subst hb
  exact ⟨lt_of_block hh,hN,hn⟩
 | row ty k xs=>
  rw [ho] at h hb
  obtain ⟨vs,hw,_,hn⟩:=h
  exact ⟨(hw.lt b (blk_own hw hb)).2,hn b hb⟩
 | tail ty k xs=>
  rw [ho] at h hb
  obtain ⟨vs,hw,_,hn⟩:=h
  exact ⟨hw.lt hb,hn b hb⟩
 | deep ty ety e xs gn=>
  rw [ho] at h hb
  obtain ⟨vs,hw,_,hn,hin⟩:=h
  rcases hb with hb|⟨i,x,hx,hgi,hb⟩
  ·exact ⟨(hw.lt b (blk_own hw hb)).2,hn b hb⟩
  ·obtain ⟨q1,⟨us,hu,hr⟩,q3⟩:=hin i x hx hgi
   exact ⟨(hu.lt b (blk_own hu hb)).2,(q3 b hb).1,(q3 b hb).2.1⟩
theorem eff_new (H:Here P c N F ρ own slots a w) (hN:∀ b,w.heap.size≤b→N b) {d:Nat} (hd:d < a.tmps.size) {ob:Obj} {u:Value} {x:AV} {own1:Own} {s:Value} (hdst:o.dst=some d)
  (hrun:(execOp a.eval o).run P w=.ok (.value u) (w.alloc ob)) (hs:blk s=some w.heap.size)
  (hnd:∀ (ρ':Nat→Value) b,holds ρ' d own1 b→blk (ρ' (pl d))=some b)
  (hx:∀ ρ' own',ρ' (pl d)=s→own' d=⟨(own d).ver + 1,own1⟩→AVC (w.alloc ob) F ρ' own' x u)
  (hok:∀ ρ' own',ρ' (pl d)=s→(∀ z v,CellC w F ρ own z v→CellC (w.alloc ob) F ρ' own' z v)→N w.heap.size→¬ F w.heap.size→OwnOk (w.alloc ob) N F ρ' own' d own1)
  {K:St→Prop} (hK:K ⟨upd slots d x,upd own d ⟨(own d).ver + 1,own1⟩⟩):Eff P c N F ρ own o a w K Q:=by
 unfold Eff Oper.wp
 rw [hrun]
 have hbel:Below w.heap.size w (w.alloc ob):=(Below.refl _ _).alloc (Nat.le_refl _) _
 have hext:Ext w F (w.alloc ob) F:=⟨hbel.os,hbel.tape,hbel.output,hbel.size,fun b h=>hbel.block b (H.mem.fin b h),fun _ h=>h⟩
 have hC:∀ z v,CellC w F ρ own z v→CellC (w.alloc ob) F (upd ρ (pl d) s) (upd own d ⟨(own d).ver + 1,own1⟩) z v:=fun z v h=>
  h.step (l:=d) hext (upd_two own ρ d _ s) (.inl (by rw [upd_eq];exact Nat.lt_succ_self _))
 refine ⟨_,F,upd ρ (pl d) s,hK,⟨H.cfg,?_,?_⟩,hext,fun b h _=>hbel.block b h,fun b h=>.inl h,?_,?_,ver_two own d _,keep_two own ρ d _ s⟩
 ·rw [hdst]
  exact slots_put hC H.sl hd (hx _ _ (upd_eq _ _ _) (upd_eq _ _ _))
 ·refine H.mem.step (l:=d) hext (upd_two own ρ d _ s) (inn_two ρ d s) hC (fun l' b hne hl' hb hlt hn=>⟨hbel.block b hlt,hn⟩) ?_ (fun l' b hne hl' e1 e2=>?_) (fun b h=>Nat.lt_of_lt_of_le (H.mem.fin b h) hbel.size)
  ·show OwnOk _ N F _ _ d (upd own d _ d).obj
   rw [upd_eq]
   exact hok _ _ (upd_eq _ _ _) hC (hN _ (Nat.le_refl _)) (fun h=>Nat.lt_irrefl _ (H.mem.fin _ h))
  ·have e1:holds (upd ρ (pl d) s) d (upd own d ⟨(own d).ver + 1,own1⟩ d).obj b:=e1
   rw [upd_eq] at e1
   have e1:=hnd _ _ e1
   rw [upd_eq,hs] at e1
   injection e1 with e1
   have:=(blk_lt H.mem hl' e2).1
   omega
 ·rw [hdst];exact put_size _ _ _
 ·rw [hdst];exact put_defers' _ _ _
theorem e_alloc (H:Here P c N F ρ own slots a w) (hN:∀ b,w.heap.size≤b→N b) {d:Nat} (hd:d < a.tmps.size) (hdst:o.dst=some d) {t:TypeId} (ho:o.op=.alloc t) {i:TI} (hty:c.ty t=some i)
  {K:St→Prop} (hK:K ⟨upd slots d (.one (.ptr d ((own d).ver + 1) 0 0)),upd own d ⟨(own d).ver + 1,.box t (i.zero.map ZK.c)⟩⟩):Eff P c N F ρ own o a w K Q:=by
 obtain ⟨zv,hz,hzc⟩:=zero_ok (H.cfg.ty _ _ hty).2.1
 refine eff_new H hN hd hdst (ob:=.cells zv.cells t) (u:=.pointer (some ⟨w.heap.size,0,none⟩)) (s:=.pointer (some ⟨w.heap.size,0,none⟩)) ?_ rfl (by intro _ _ h;exact h) (fun ρ' own' h1 h2=>?_) (fun ρ' own' h1 hC h3 h4=>?_) hK
 ·simp [execOp,ho,Instr.alloc,hz,newVar,newRow]
 ·exact ⟨rfl,by rw [h2];exact Nat.le_refl _,fun _=>by rw [h2,h1];exact ⟨w.heap.size,rfl,rfl,rfl⟩⟩
 ·exact ⟨w.heap.size,zv.cells,h1,heap_new w _,by rw [hzc];exact zk_ok _,by rw [hzc];exact one_of_cells (zk_ok (w:=w) (F:=F) (ρ:=ρ) (own:=own) i.zero),h3,h4⟩
theorem e_box (H:Here P c N F ρ own slots a w) (hN:∀ b,w.heap.size≤b→N b) {d:Nat} (hd:d < a.tmps.size) (hdst:o.dst=some d) {t:TypeId} {x:Operand} (ho:o.op=.box t x) {cs:List Cell} (hcs:cells (evA slots x)=some cs)
  {K:St→Prop} (hK:K ⟨upd slots d (.one (.ptr d ((own d).ver + 1) 0 0)),upd own d ⟨(own d).ver + 1,.box t cs⟩⟩):Eff P c N F ρ own o a w K Q:=by
 have hc:=cells_ok hcs (H.ev x)
 refine eff_new H hN hd hdst (ob:=.cells (a.eval x).cells t) (u:=.pointer (some ⟨w.heap.size,0,none⟩)) (s:=.pointer (some ⟨w.heap.size,0,none⟩)) ?_ rfl (by intro _ _ h;exact h) (fun ρ' own' h1 h2=>?_) (fun ρ' own' h1 hC h3 h4=>?_) hK
 ·simp [execOp,ho,Instr.box,newVar,newRow]
 ·exact ⟨rfl,by rw [h2];exact Nat.le_refl _,fun _=>by rw [h2,h1];exact ⟨w.heap.size,rfl,rfl,rfl⟩⟩
 ·exact ⟨w.heap.size,(a.eval x).cells,h1,heap_new w _,CellsG.imp (fun z v _=>hC z v) hc,one_of_cells hc,h3,h4⟩
theorem e_buildSlice (H:Here P c N F ρ own slots a w) (hN:∀ b,w.heap.size≤b→N b) {d:Nat} (hd:d < a.tmps.size) (hdst:o.dst=some d) {t:TypeId} {len:Nat} {parts:Array (Nat × Operand)} (ho:o.op=.buildSlice t len parts)
  {sz:Nat} {z0:List ZK} {e:TypeId} {k:ElK} {b:Nat} {z:List ZK} {xs:List k.T} (hty:c.ty t=some ⟨sz,z0,.slice e k b z⟩) (hlen:len≤1024) (h:elems k (z.map ZK.c) (parts.toList.map fun p=>(p.1,evA slots p.2)) len=some xs)
  {K:St→Prop} (hK:K ⟨upd slots d (.one (.own d ((own d).ver + 1))),upd own d ⟨(own d).ver + 1,.row e k xs⟩⟩):Eff P c N F ρ own o a w K Q:=by
 obtain ⟨hl,row,hrs,hrun,hrow⟩:=buildSlice_ok H hty hlen h
 have hk4:=elk_size k
 refine eff_new H hN hd hdst (ob:=.cells row e) (u:=.slice (some ⟨w.heap.size,0,none⟩) len len) (s:=.slice (some ⟨w.heap.size,0,none⟩) len len) ?_ rfl (by intro _ _ h;exact h) (fun ρ' own' h1 h2=>?_) (fun ρ' own' h1 hC h3 h4=>?_) hK
 ·simp only [execOp,ho,Sem.run_bind,hrun,Result.andThen_ok,Sem.run_pure]
 ·exact ⟨rfl,by rw [h2];exact Nat.le_refl _,fun _=>h1.symm⟩
 ·have hext:Ext w F (w.alloc (.cells row e)) F:=⟨rfl,rfl,rfl,by simp,fun b h=>Below.heap_alloc w _ b (H.mem.fin b h),fun _ h=>h⟩
  refine ⟨row.toList,?_,hrow.mono hext,fun b hb=>?_⟩
  ·rw [h1,hl]
   exact World.ownsRow_lit w row len (Nat.zero_le _) (by unfold maxLen;omega) hrs
  ·rw [h1] at hb
   simp only [blk,Option.some.injEq] at hb
   subst hb
   exact ⟨h3,h4⟩
theorem replicate_row {k:ElK} {z:List ZK} {x:k.T} {vs:List Value} (n:Nat) (hd:k.dec (z.map ZK.c)=some x) (hc:CellsC w F ρ own (z.map ZK.c) vs):RowC w F k (List.replicate n x) (List.replicate n vs).flatten:=by
 obtain ⟨hl,he⟩:=dec_ok hd hc
 have hlen:∀ l∈List.replicate n vs,l.length=k.size:=fun l h=>by rw [List.eq_of_mem_replicate h,hl]
 refine ⟨fun v hv=>?_,fun i y hy=>?_⟩
 ·obtain ⟨us,hus,hv'⟩:=List.mem_flatten.1 hv
  rw [List.eq_of_mem_replicate hus] at hv'
  exact one_of_cells hc v hv'
 ·have hi:i < n:=by have:=(List.getElem?_eq_some_iff.1 hy).1;simpa using this
  have:=List.eq_of_mem_replicate (List.mem_of_getElem? hy)
  subst this
  refine ⟨vs,hl,he,fun j u hj=>?_⟩
  have hjl:=(List.getElem?_eq_some_iff.1 hj).1
  rw [flat_get _ i j hlen (by omega),List.getElem?_replicate,if_pos hi]
  exact hj
theorem e_makeSlice (H:Here P c N F ρ own slots a w) (hN:∀ b,w.heap.size≤b→N b) {d:Nat} (hd:d < a.tmps.size) (hdst:o.dst=some d) {t:TypeId} {len cap:Operand} (ho:o.op=.makeSlice t len cap)
  {sz:Nat} {z0:List ZK} {e:TypeId} {k:ElK} {b:Nat} {z:List ZK} {x:k.T} {n:Int} (hty:c.ty t=some ⟨sz,z0,.slice e k b z⟩) (hn:evA slots len=.one (.d (.int .i64 n))) (hn':evA slots cap=.one (.d (.int .i64 n)))
  (hz:k.dec (z.map ZK.c)=some x) (h0:0≤n) (h1:n≤1073741824) (hb:b≤4096)
  {K:St→Prop} (hK:K ⟨upd slots d (.one (.own d ((own d).ver + 1))),upd own d ⟨(own d).ver + 1,.row e k (List.replicate n.toNat x)⟩⟩):Eff P c N F ρ own o a w K Q:=by
 obtain ⟨hu,hes,_,zv,hzr,hzc,hzs,ie,hie,hiz,hisz,hib⟩:=elem_size (H.cfg.ty _ _ hty)
 have hk4:=elk_size k
 obtain ⟨m,rfl⟩:=Int.eq_ofNat_of_zero_le h0
 have hbn:ie.bytes * m≤281474976710656:=by
  have:ie.bytes * m≤4096 * 1073741824:=Nat.mul_le_mul (by omega) (by omega)
  omega
 have hbi:(ie.bytes:Int) * (m:Int)≤281474976710656:=by
  have h:((ie.bytes * m:Nat):Int)≤281474976710656:=by omega
  rwa [Int.natCast_mul] at h
 have hr:=run_make (P:=P) w t e ie zv hu hie hiz .i64 .i64 m m (by omega) (Int.le_refl _) hbi (by omega)
 simp only [Int.toNat_natCast] at hr
 rw [hisz] at hr
 have hmade:(madeCells zv.cells (m * k.size)).toList=(List.replicate m zv.cells.toList).flatten:=by
  rw [← hzs];exact zeros_row zv.cells m (by omega)
 refine eff_new H hN hd hdst (ob:=.cells (madeCells zv.cells (m * k.size)) e) (u:=.slice (some ⟨w.heap.size,0,none⟩) m m) (s:=.slice (some ⟨w.heap.size,0,none⟩) m m) ?_ rfl (by intro _ _ h;exact h) (fun ρ' own' h1 h2=>?_) (fun ρ' own' h1 hC h3 h4=>?_) hK
 ·simp only [execOp,ho,H.int hn,H.int hn',Sem.run_bind,hr,Result.andThen_ok,Sem.run_pure]
 ·exact ⟨rfl,by rw [h2];exact Nat.le_refl _,fun _=>h1.symm⟩
 ·have hext:Ext w F (w.alloc (.cells (madeCells zv.cells (m * k.size)) e)) F:=⟨rfl,rfl,rfl,by simp,fun b h=>Below.heap_alloc w _ b (H.mem.fin b h),fun _ h=>h⟩
  refine ⟨(madeCells zv.cells (m * k.size)).toList,?_,?_,fun b hb=>?_⟩
  ·rw [h1]
   simp only [Int.toNat_natCast,List.length_replicate]
   exact World.ownsRow_lit w _ m (Nat.zero_le _) (by unfold maxLen;omega) (size_madeCells _ _)
  ·rw [hmade]
   exact (replicate_row (ρ:=ρ) (own:=own) m hz (by rw [hzc];exact zk_ok z)).mono hext
  ·rw [h1] at hb
   simp only [blk,Option.some.injEq] at hb
   subst hb
   exact ⟨h3,h4⟩
theorem run_storeCells_own (b:Nat) (ty:TypeId):∀ (us:List Value) (j i:Nat) (cur:Array Value) (w:World),w.heap[b]?=some (.cells cur ty (0,0))→j + i + us.length≤cur.size→(∀ u∈us,u.oneCell'=true) →
  ∃ w',(storeCells ⟨b,j,none⟩ us i).run P w=.ok () w'∧w'.heap[b]?=some (.cells (putV cur.toList (j + i) us).toArray ty (0,0))∧w'.os=w.os∧w'.tape=w.tape∧w'.output=w.output∧w'.heap.size=w.heap.size∧∀ b',b'≠b→w'.heap[b']?=w.heap[b']?
 | [],j,i,cur,w,hh,_,_=>by
  refine ⟨w,by simp [storeCells],?_,rfl,rfl,rfl,rfl,fun _ _=>rfl⟩
  have:∀ (vs:List Value) (n:Nat),n≤vs.length→putV vs n []=vs:=by
   intro vs
   induction vs with
   | nil=>intro n hn;cases n <;> simp [putV]
   | cons v vs ih=>intro n hn;cases n with
    | zero=>simp [putV]
    | succ n=>simp only [putV];rw [ih n (by simpa using hn)]
  rw [this _ _ (by simpa using ‹_›)]
  simpa using hh
 | u :: us,j,i,cur,w,hh,hle,h1=>by
  have hlt:j + i < cur.size:=by simp at hle;omega
  have hcell:w.cell? ((⟨b,j,none⟩:Addr).add i)=some (cur[j + i]'hlt):=by
   rw [add_lit',World.cell?,hh];simp [hlt]
  have hfr:w.frozen? ((⟨b,j,none⟩:Addr).add i)=false:=by
   rw [add_lit',World.frozen?,hh];simp
  have hst:(store ((⟨b,j,none⟩:Addr).add i) u).run P w=.ok () (w.setCell ((⟨b,j,none⟩:Addr).add i) u):=by
   rw [run_store P w _ u _ (h1 u (by simp))]
   simp [hcell,hfr]
  have hh':(w.setCell ((⟨b,j,none⟩:Addr).add i) u).heap[b]?=some (.cells (cur.setIfInBounds (j + i) u) ty (0,0)):=by
   rw [add_lit'];exact heap_setCell_same w b (j + i) cur ty u hh
  obtain ⟨w',r1,r2,r3,r4,r5,r6,r7⟩:=run_storeCells_own b ty us j (i + 1) (cur.setIfInBounds (j + i) u) _ hh' (by simp at hle ⊢;omega) (fun u hu=>h1 u (by simp [hu]))
  refine ⟨w',?_,?_,r3,r4,r5,by rw [r6];simp [World.setCell],fun b' hb'=>?_⟩
  ·simp only [storeCells,Sem.run_bind,hst,Result.andThen_ok,r1]
  ·rw [r2]
   congr 2
   apply Array.ext'
   simp only [Array.toList_setIfInBounds]
   obtain ⟨p1,p2⟩:=putV_get (cur.toList.set (j + i) u) (j + (i + 1)) us (by simp at hle ⊢;omega)
   obtain ⟨q1,q2⟩:=putV_get cur.toList (j + i) (u :: us) (by simp at hle ⊢;omega)
   apply List.ext_getElem?
   intro n
   rw [p2,q2]
   by_cases hn:j + (i + 1)≤n∧n < j + (i + 1) + us.length
   ·rw [if_pos hn,if_pos (by simp;omega),show n - (j + i)=(n - (j + (i + 1))) + 1 by omega]
    simp
   ·rw [if_neg hn]
    by_cases he:n=j + i
    ·subst he
     rw [if_pos (by simp),List.getElem?_set_self (by simpa using hlt)]
     simp
    ·rw [if_neg (by simp;omega),List.getElem?_set_ne (Ne.symm he)]
  ·rw [r7 b' hb',add_lit']
   exact heap_setCell_other w _ b' u hb'
theorem run_storeAt {t:TypeId} {n:Nat} (hs:(P.info? t).map (·.size)=some n) {b j:Nat} {u:Value} (hu:u.cells.size=n) {cur:Array Value} {ty:TypeId} (hh:w.heap[b]?=some (.cells cur ty (0,0))) (hle:j + n≤cur.size) (h1:∀ x∈u.cells.toList,x.oneCell'=true) :
  ∃ w',(Instr.storeAt t (.pointer (some ⟨b,j,none⟩)) u).run P w=.ok () w'∧w'.heap[b]?=some (.cells (putV cur.toList j u.cells.toList).toArray ty (0,0))∧w'.os=w.os∧w'.tape=w.tape∧w'.output=w.output∧w'.heap.size=w.heap.size∧∀ b',b'≠b→w'.heap[b']?=w.heap[b']?:=by
 obtain ⟨w',r1,r2,r⟩:=run_storeCells_own (P:=P) b ty u.cells.toList j 0 cur w hh (by simpa [hu] using hle) h1
 refine ⟨w',?_,r2,r⟩
 simp only [Instr.storeAt,Instr.sureAddr,Sem.run_bind,Sem.run_pure,Result.andThen_ok,storeVar,run_size hs,hu,ne_eq,not_true_eq_false,if_false,r1]
theorem eff_store (H:Here P c N F ρ own slots a w) (hdst:o.dst=none) {l b:Nat} {own1:Own} {w':World} (hlive:(own l).obj.live=true) (hbl:blk (ρ (pl l))=some b)
  (hrun:(execOp a.eval o).run P w=.ok .skip w') (hos:w'.os=w.os) (htape:w'.tape=w.tape) (hout:w'.output=w.output) (hsz:w'.heap.size=w.heap.size) (hoth:∀ b',b'≠b→w'.heap[b']?=w.heap[b']?)
  (hsame:(∃ ty cs cs',(own l).obj=.box ty cs∧own1=.box ty cs')∨∃ ty k xs xs',(own l).obj=.row ty k xs∧own1=.row ty k xs')
  (hok:∀ own',own'=upd own l ⟨(own l).ver,own1⟩→Ext w F w' F→(∀ z v,CellC w F ρ own z v→CellC w' F ρ own' z v)→N b→¬ F b→OwnOk w' N F ρ own' l own1)
  {K:St→Prop} (hK:K ⟨slots,upd own l ⟨(own l).ver,own1⟩⟩):Eff P c N F ρ own o a w K Q:=by
 unfold Eff Oper.wp
 rw [hrun]
 obtain ⟨hlt,hNb,hFb⟩:=blk_lt H.mem hlive (holds_of hbl)
 have hext:Ext w F w' F:=⟨hos,htape,hout,by omega,fun b' h=>hoth b' (by rintro rfl;exact hFb h),fun _ h=>h⟩
 have hother:∀ l',l'≠l→upd own l ⟨(own l).ver,own1⟩ l'=own l'∧ρ (pl l')=ρ (pl l'):=fun l' h=>⟨upd_ne _ _ h,rfl⟩
 have hC:∀ z v,CellC w F ρ own z v→CellC w' F ρ (upd own l ⟨(own l).ver,own1⟩) z v:=fun z v h=>
  h.step (l:=l) hext hother (.inr (by rw [upd_eq];exact ⟨rfl,rfl,hsame.imp id .inl⟩))
 show ∃ σ' F' ρ',K σ'∧Next' P c N F ρ own a w σ' (a.put o.dst undef) w' F' ρ'
 rw [hdst]
 refine ⟨_,F,ρ,hK,⟨H.cfg,fun t=>AVG.imp hC (H.sl t),?_⟩,hext,fun b' _ hn=>hoth b' (by rintro rfl;exact hn hNb),fun b h=>.inl h,rfl,rfl,ver_same own l _,fun _ _=>rfl⟩
 refine H.mem.step (l:=l) hext hother (fun _ _ _=>rfl) hC (fun l' b' hne hl' hb' hlt' hn=>⟨hoth b' (by rintro rfl;exact H.mem.apart l l' b' (Ne.symm hne) hlive hl' (holds_of hbl) hb'),hn⟩) ?_ (fun l' b' hne hl' e1 e2=>H.mem.apart l l' b' (Ne.symm hne) hlive hl' (holds_of (by have e1:holds ρ l (upd own l ⟨(own l).ver,own1⟩ l).obj b':=e1;rw [upd_eq] at e1;rcases hsame with ⟨_,_,_,_,rfl⟩|⟨_,_,_,_,_,rfl⟩ <;> exact e1)) e2) (fun b' h=>by rw [hsz];exact H.mem.fin b' h)
 show OwnOk _ N F _ _ l (upd own l _ l).obj
 rw [upd_eq]
 exact hok _ rfl hext hC hNb hFb
theorem e_store_box (H:Here P c N F ρ own slots a w) (hdst:o.dst=none) {t:TypeId} {x z:Operand} (ho:o.op=.store t x z) {l ver i j:Nat} {cs cs':List Cell} {ti:TI} {ty:TypeId} (hx:evA slots x=.one (.ptr l ver i j)) (hz:cells (evA slots z)=some cs)
  (hti:c.ty t=some ti) (hsz:cs.length=ti.size) (hl:own l=⟨ver,.box ty cs'⟩) (hle:j + cs.length≤cs'.length)
  {K:St→Prop} (hK:K ⟨slots,upd own l ⟨ver,.box ty (putCells cs' j cs)⟩⟩):Eff P c N F ρ own o a w K Q:=by
 have hok:=H.mem.ok l
 rw [hl] at hok
 obtain ⟨b,vs,hρ,hh,hcs,h1,hN,hn⟩:=hok
 have hd:CellC w F ρ own (.ptr l ver i j) (a.eval x):=H.ev' hx
 have hv:=hd.2.2 (by rw [hl])
 simp only [hl] at hv
 obtain ⟨b',hb',he,_⟩:=hv
 rw [hρ] at hb'
 simp only [blk,Option.some.injEq] at hb'
 subst hb'
 have hc:=cells_ok hz (H.ev z)
 have hlen:(a.eval z).cells.size=ti.size:=by rw [← Array.length_toList,hc.1,hsz]
 have hvl:vs.size=cs'.length:=by rw [← Array.length_toList,hcs.1]
 obtain ⟨w',r1,r2,r3,r4,r5,r6,r7⟩:=run_storeAt (w:=w) (H.cfg.ty _ _ hti).1 hlen hh (j:=j) (by omega) (one_of_cells hc)
 have hver:(own l).ver=ver:=by rw [hl]
 refine eff_store H hdst (l:=l) (b:=b) (own1:=.box ty (putCells cs' j cs)) (w':=w') (by rw [hl];rfl) (by rw [hρ];rfl) ?_ r3 r4 r5 r6 r7 (.inl ⟨ty,cs',_,by rw [hl],rfl⟩) (fun own' e hext hC hNb hFb=>?_) (by rw [hver];exact hK)
 ·simp [execOp,ho,he,r1]
 ·have hput:=CellsC.put hcs hc hle
  refine ⟨b,_,hρ,r2,by simpa using CellsG.imp (fun z v _=>hC z v) hput,?_,hNb,hFb⟩
  have:=one_of_cells hput
  simpa using this
theorem e_store_row (H:Here P c N F ρ own slots a w) (hdst:o.dst=none) {t:TypeId} {x z:Operand} (ho:o.op=.store t x z) {l ver i j:Nat} {cs:List Cell} {ti:TI} {ty:TypeId} {k:ElK} {xs:List k.T} {y:k.T} (hx:evA slots x=.one (.ptr l ver i j)) (hz:cells (evA slots z)=some cs)
  (hti:c.ty t=some ti) (hsz:cs.length=ti.size) (hl:own l=⟨ver,.row ty k xs⟩) (hle:j + cs.length≤k.size) (hi:i < xs.length) (hdec:k.dec (putCells ((k.enc (xs.getD i k.dflt)).map .d) j cs)=some y)
  {K:St→Prop} (hK:K ⟨slots,upd own l ⟨ver,.row ty k (xs.set i y)⟩⟩):Eff P c N F ρ own o a w K Q:=by
 have hok:=H.mem.ok l
 rw [hl] at hok
 obtain ⟨vs,hw,hrow,hn⟩:=hok
 have hd:CellC w F ρ own (.ptr l ver i j) (a.eval x):=H.ev' hx
 have hv:=hd.2.2 (by rw [hl])
 simp only [hl] at hv
 obtain ⟨b,hb,he⟩:=hv
 have hc:=cells_ok hz (H.ev z)
 have hlen:(a.eval z).cells.size=ti.size:=by rw [← Array.length_toList,hc.1,hsz]
 rcases hw.2 with ⟨_,h0⟩|⟨g,cap,cur,hs,hbase,hh,hcap,hmax,hcs,htake⟩
 ·omega
 ·have hbg:g=b:=by rw [hs] at hb;simpa [blk] using hb
  subst hbg
  have hk4:=elk_size k
  have hcur:i * k.size + k.size≤cur.size:=by
   rw [hcs,← Nat.succ_mul];exact Nat.mul_le_mul_right _ (by omega)
  obtain ⟨w',r1,r2,r3,r4,r5,r6,r7⟩:=run_storeAt (w:=w) (H.cfg.ty _ _ hti).1 hlen hh (j:=i * k.size + j) (by omega) (one_of_cells hc)
  have hver:(own l).ver=ver:=by rw [hl]
  refine eff_store H hdst (l:=l) (b:=g) (own1:=.row ty k (xs.set i y)) (w':=w') (by rw [hl];rfl) hb ?_ r3 r4 r5 r6 r7 (.inr ⟨ty,k,xs,_,by rw [hl],rfl⟩) (fun own' e hext hC hNb hFb=>?_) (by rw [hver];exact hK)
  ·simp [execOp,ho,he,r1]
  ·obtain ⟨us,hul,hel,hus⟩:=hrow.2 i _ (getD_some (d:=k.dflt) hi)
   have hput:=CellsC.put (elem_enc (ρ:=ρ) (own:=own) hel) hc (n:=j) (by rw [List.length_map,enc_len];omega)
   obtain ⟨e1,e2⟩:=dec_ok hdec hput
   have hcl:=hc.1
   obtain ⟨q1,q2⟩:=putV_get us j (a.eval z).cells.toList (by omega)
   obtain ⟨p1,p2⟩:=putV_get cur.toList (i * k.size + j) (a.eval z).cells.toList (by simp;omega)
   have htl:vs.length=xs.length * k.size:=hw.1
   have hvs':∀ n,(List.take (xs.length * k.size) (putV cur.toList (i * k.size + j) (a.eval z).cells.toList))[n]?=if i * k.size + j≤n∧n < i * k.size + j + (a.eval z).cells.toList.length then (a.eval z).cells.toList[n - (i * k.size + j)]? else vs[n]?:=by
    intro n
    have hin:i * k.size + k.size≤xs.length * k.size:=by rw [← Nat.succ_mul];exact Nat.mul_le_mul_right _ (by omega)
    rw [List.getElem?_take,p2,← htake,List.getElem?_take]
    by_cases hnl:n < xs.length * k.size
    ·rw [if_pos hnl,if_pos hnl]
    ·rw [if_neg hnl,if_neg hnl,if_neg (by omega)]
   refine ⟨(putV cur.toList (i * k.size + j) (a.eval z).cells.toList).take (xs.length * k.size),⟨by rw [List.length_take,p1,List.length_set];exact Nat.min_eq_left (by rw [Array.length_toList (xs:=cur),hcs];exact Nat.mul_le_mul_right _ hcap),.inr ⟨g,cap,_,by rw [List.length_set];exact hs,hbase,r2,by rw [List.length_set];exact hcap,hmax,by simp [p1,hcs],by simp⟩⟩,⟨fun v hv=>?_,fun n x' hx'=>?_⟩,fun b' hb'=>?_⟩
   ·obtain ⟨n,hn'⟩:=List.getElem?_of_mem hv
    rw [hvs'] at hn'
    split at hn'
    ·exact one_of_cells hc v (List.mem_of_getElem? hn')
    ·exact hrow.1 v (List.mem_of_getElem? hn')
   ·by_cases hni:i=n
    ·subst hni
     rw [List.getElem?_set_self hi] at hx'
     injection hx' with hx'
     subst hx'
     refine ⟨_,e1,Elem.mono hext k _ _ e2,fun m u hm=>?_⟩
     rw [hvs']
     rw [q2] at hm
     by_cases hjm:j≤m∧m < j + (a.eval z).cells.toList.length
     ·rw [if_pos hjm] at hm
      rw [if_pos (by omega),show i * k.size + m - (i * k.size + j)=m - j by omega]
      exact hm
     ·rw [if_neg hjm] at hm
      rw [if_neg (by omega)]
      exact hus m u hm
    ·rw [List.getElem?_set_ne hni] at hx'
     obtain ⟨us',g1,g2,g3⟩:=hrow.2 n x' hx'
     refine ⟨us',g1,Elem.mono hext k _ _ g2,fun m u hm=>?_⟩
     have hml:=(List.getElem?_eq_some_iff.1 hm).1
     rw [hvs',if_neg,g3 m u hm]
     intro ⟨k1,k2⟩
     rcases Nat.lt_or_gt_of_ne hni with h|h
     ·have:=Nat.mul_le_mul_right k.size h
      rw [Nat.succ_mul] at this;omega
     ·have:=Nat.mul_le_mul_right k.size h
      rw [Nat.succ_mul] at this;omega
   ·rw [hs] at hb'
    simp only [blk,Option.some.injEq] at hb'
    subst hb'
    exact ⟨hNb,hFb⟩
theorem next_row (H:Here P c N F ρ own slots a w) (hN:∀ b,w.heap.size≤b→N b) {d l:Nat} (hd:d < a.tmps.size) (hdst:o.dst=some d) {w':World} {s:Value} {ty:TypeId} {k:ElK} {ys:List k.T} {vs:List Value}
  (hone:s.oneCell'=true) (hg:w.grownBy w' (if (own l).obj.live then blk (ρ (pl l)) else none))
  (hs:∀ b,blk s=some b→((own l).obj.live=true∧blk (ρ (pl l))=some b)∨(w.heap.size≤b))
  (hw:w'.ownsRow 0 ty k.size s ys.length vs) (hrow:RowC w' F k ys vs)
  {K:St→Prop} (hK:K ⟨upd slots d (.one (.own l ((own l).ver + 1))),upd own l ⟨(own l).ver + 1,.row ty k ys⟩⟩):∃ σ' F' ρ',K σ'∧Next' P c N F ρ own a w σ' (a.put o.dst s) w' F' ρ':=by
 have hnF:∀ b,F b→some b≠(if (own l).obj.live then blk (ρ (pl l)) else none):=fun b hb e=>by
  split at e
  ·rename_i hl
   exact (blk_lt H.mem hl (holds_of e.symm)).2.2 hb
  ·cases e
 have hext:Ext w F w' F:=⟨hg.os,hg.tape,hg.output,hg.size,fun b h=>hg.block b (H.mem.fin b h) (hnF b h),fun _ h=>h⟩
 have hC:∀ z v,CellC w F ρ own z v→CellC w' F (upd ρ (pl l) s) (upd own l ⟨(own l).ver + 1,.row ty k ys⟩) z v:=fun z v h=>
  h.step (l:=l) hext (upd_two own ρ l _ s) (.inl (by rw [upd_eq];exact Nat.lt_succ_self _))
 have hblk:∀ b,blk s=some b→N b∧¬ F b:=fun b hb=>by
  rcases hs b hb with ⟨h1,h2⟩|h
  ·exact (blk_lt H.mem h1 (holds_of h2)).2
  ·exact ⟨hN b h,fun hf=>by have:=H.mem.fin b hf;omega⟩
 refine ⟨_,F,upd ρ (pl l) s,hK,⟨H.cfg,?_,?_⟩,hext,fun b h hn=>hg.block b h (fun e=>?_),fun b h=>.inl h,?_,?_,ver_two own l _,keep_two own ρ l _ s⟩
 ·rw [hdst]
  refine slots_put hC H.sl hd ?_
  show CellC w' F _ _ (.own l _) s
  exact ⟨hone,by rw [upd_eq];exact Nat.le_refl _,fun _=>(upd_eq _ _ _).symm⟩
 ·refine H.mem.step (l:=l) hext (upd_two own ρ l _ s) (inn_two ρ l s) hC (fun l' b hne hl' hb hlt hn=>⟨hg.block b hlt (fun e=>?_),hn⟩) ?_ (fun l' b hne hl' e1 e2=>?_) (fun b h=>Nat.lt_of_lt_of_le (H.mem.fin b h) hg.size)
  ·split at e
   ·rename_i hl
    exact H.mem.apart l l' b (Ne.symm hne) hl hl' (holds_of e.symm) hb
   ·cases e
  ·show OwnOk _ N F _ _ l (upd own l _ l).obj
   rw [upd_eq]
   refine ⟨vs,by rw [upd_eq];exact hw,hrow,fun b hb=>hblk b (by rwa [upd_eq] at hb)⟩
  ·simp only [upd_eq,holds] at e1
   rcases hs b e1 with ⟨h1,h2⟩|h
   ·exact H.mem.apart l l' b (Ne.symm hne) h1 hl' (holds_of h2) e2
   ·have:=(blk_lt H.mem hl' e2).1
    omega
 ·split at e
  ·rename_i hl
   exact hn (blk_lt H.mem hl (holds_of e.symm)).2.1
  ·cases e
 ·rw [hdst];exact put_size _ _ _
 ·rw [hdst];exact put_defers' _ _ _
theorem eff_row (H:Here P c N F ρ own slots a w) (hN:∀ b,w.heap.size≤b→N b) {d l:Nat} (hd:d < a.tmps.size) (hdst:o.dst=some d) {w':World} {s:Value} {ty:TypeId} {k:ElK} {ys:List k.T} {vs:List Value}
  (hrun:(execOp a.eval o).run P w=.ok (.value s) w') (hone:s.oneCell'=true) (hg:w.grownBy w' (if (own l).obj.live then blk (ρ (pl l)) else none))
  (hs:∀ b,blk s=some b→((own l).obj.live=true∧blk (ρ (pl l))=some b)∨(w.heap.size≤b))
  (hw:w'.ownsRow 0 ty k.size s ys.length vs) (hrow:RowC w' F k ys vs)
  {K:St→Prop} (hK:K ⟨upd slots d (.one (.own l ((own l).ver + 1))),upd own l ⟨(own l).ver + 1,.row ty k ys⟩⟩):Eff P c N F ρ own o a w K Q:=by
 unfold Eff Oper.wp
 rw [hrun]
 exact next_row H hN hd hdst hone hg hs hw hrow hK
theorem RowC.take {k:ElK} {xs:List k.T} {vs:List Value} (h:RowC w F k xs vs) (n:Nat):RowC w F k (xs.take n) (vs.take (n * k.size)):=by
 refine ⟨fun v hv=>h.1 v (List.mem_of_mem_take hv),fun i x hx=>?_⟩
 rw [List.getElem?_take] at hx
 split at hx
 ·rename_i hi
  obtain ⟨us,h1,h2,h3⟩:=h.2 i x hx
  refine ⟨us,h1,h2,fun j u hj=>?_⟩
  have hjl:=(List.getElem?_eq_some_iff.1 hj).1
  have:i * k.size + k.size≤n * k.size:=by rw [← Nat.succ_mul];exact Nat.mul_le_mul_right _ hi
  rw [List.getElem?_take,if_pos (by omega)]
  exact h3 j u hj
 ·cases hx
theorem RowC.append {k:ElK} {xs ys:List k.T} {vs us:List Value} (h:RowC w F k xs vs) (h':RowC w F k ys us) (hl:vs.length=xs.length * k.size):RowC w F k (xs ++ ys) (vs ++ us):=by
 refine ⟨fun v hv=>(List.mem_append.1 hv).elim (h.1 v) (h'.1 v),fun i x hx=>?_⟩
 by_cases hi:i < xs.length
 ·rw [List.getElem?_append_left hi] at hx
  obtain ⟨us',h1,h2,h3⟩:=h.2 i x hx
  refine ⟨us',h1,h2,fun j u hj=>?_⟩
  have hjl:=(List.getElem?_eq_some_iff.1 hj).1
  have:i * k.size + k.size≤xs.length * k.size:=by rw [← Nat.succ_mul];exact Nat.mul_le_mul_right _ hi
  rw [List.getElem?_append_left (by omega)]
  exact h3 j u hj
 ·rw [List.getElem?_append_right (by omega)] at hx
  obtain ⟨us',h1,h2,h3⟩:=h'.2 _ x hx
  refine ⟨us',h1,h2,fun j u hj=>?_⟩
  have:xs.length * k.size≤i * k.size:=Nat.mul_le_mul_right _ (by omega)
  rw [List.getElem?_append_right (by omega),hl,show i * k.size + j - xs.length * k.size=(i - xs.length) * k.size + j by rw [Nat.sub_mul];omega]
  exact h3 j u hj
theorem e_trunc (H:Here P c N F ρ own slots a w) (hN:∀ b,w.heap.size≤b→N b) {d l ver:Nat} (hd:d < a.tmps.size) (hdst:o.dst=some d) {t:TypeId} {x hi:Operand} (ho:o.op=.slice t x none (some hi) none)
  {sz b:Nat} {z0 z:List ZK} {e ty:TypeId} {k k':ElK} {xs:List k.T} {ki:IntKind} {h:Int} (hty:c.ty t=some ⟨sz,z0,.slice e k' b z⟩) (hk:k'=k) (hx:evA slots x=.one (.own l ver)) (hh:evA slots hi=.one (.d (.int ki h))) (hl:own l=⟨ver,.row ty k xs⟩) (h0:0≤h) (h1:h≤(xs.length:Int))
  {K:St→Prop} (hK:K ⟨upd slots d (.one (.own l (ver + 1))),upd own l ⟨ver + 1,.row ty k (xs.take h.toNat)⟩⟩):Eff P c N F ρ own o a w K Q:=by
 subst hk
 obtain ⟨hu,hes,_⟩:=elem_size (H.cfg.ty _ _ hty)
 have hok:=H.mem.ok l
 rw [hl] at hok
 obtain ⟨vs,hw,hrow,hn⟩:=hok
 have hd':CellC w F ρ own (.own l ver) (a.eval x):=H.ev' hx
 have he:=hd'.2.2 ⟨by rw [hl],by rw [hl];trivial⟩
 have hver:(own l).ver=ver:=by rw [hl]
 have hlive:(own l).obj.live=true:=by rw [hl];rfl
 have hlen:(xs.take h.toNat).length=h.toNat:=by rw [List.length_take];omega
 rcases hw.2 with ⟨hs,hn0⟩|⟨g,cap,cur,hs,hbase,hg,hnc,hcm,hcs,htake⟩
 ·have hx0:xs=[]:=List.eq_nil_of_length_eq_zero hn0
  subst hx0
  have hh0:h=0:=by simp at h1;omega
  subst hh0
  rw [hs] at he
  simp only [List.take_nil] at hK
  have hr:=run_sliceB t e hu _ hes none 0 0 (Nat.le_refl _) none (some (.int ki 0)) 0 0 (.inl ⟨rfl,rfl⟩) (.inr ⟨ki,rfl⟩) (by omega) (by omega) (by omega) w
  refine eff_row H hN (l:=l) hd hdst (w':=w) (s:=.slice none 0 0) (ty:=ty) (k:=k') (ys:=[]) (vs:=[]) ?_ rfl (World.grownBy.refl w _) (fun b hb=>by simp [blk] at hb) ?_ ⟨fun v hv=>by simp at hv,fun i x hx=>by simp at hx⟩ (by rw [hver];exact hK)
  ·simp [execOp,ho,he,H.int hh,hr]
  ·exact World.ownsRow_nil w 0 _ _
 ·rw [hs] at he
  have hr:=run_sliceB t e hu _ hes (some ⟨g,0,none⟩) xs.length cap hnc none (some (.int ki h)) 0 h (.inl ⟨rfl,rfl⟩) (.inr ⟨ki,rfl⟩) (by omega) h0 h1 w
  have hb0:blk (ρ (pl l))=some g:=by rw [hs];rfl
  refine eff_row H hN (l:=l) hd hdst (w':=w) (s:=.slice (some ⟨g,0,none⟩) h.toNat cap) (vs:=vs.take (h.toNat * k'.size)) ?_ rfl (World.grownBy.refl w _) (fun b hb=>.inl ⟨hlive,?_⟩) ?_ (hrow.take _) (by rw [hver];exact hK)
  ·have e1:(if cap=(0:Int).toNat then some (⟨g,0,none⟩:Addr) else (some (⟨g,0,none⟩:Addr)).map (·.add ((0:Int).toNat * k'.size)))=some ⟨g,0,none⟩:=by
    split
    ·rfl
    ·simp [Addr.add]
   rw [e1] at hr
   simp [execOp,ho,he,H.int hh]
   simp at hr
   rw [hr]
   rfl
  ·rw [hb0];simpa [blk] using hb
  ·rw [hlen]
   have hmul:h.toNat * k'.size≤xs.length * k'.size:=Nat.mul_le_mul_right _ (by omega)
   refine ⟨by rw [List.length_take,hw.1];omega,.inr ⟨g,cap,cur,rfl,hbase,hg,by omega,hcm,hcs,?_⟩⟩
   rw [← htake,List.take_take,Nat.min_eq_left hmul]
theorem e_append (H:Here P c N F ρ own slots a w) (hN:∀ b,w.heap.size≤b→N b) {d l:Nat} (hd:d < a.tmps.size) (hdst:o.dst=some d) {cl:Call} (ho:o.op=.call cl) (hcl:cl.callee=.builtin .append) {t:TypeId} {s x:Operand} (hargs:cl.args.toList=[s,x]) (hat:cl.argTypes.toList=[t,t])
  {sz b:Nat} {z0 z:List ZK} {e:TypeId} {k:ElK} {xs ys:List k.T} {vs:List Value} (hty:c.ty t=some ⟨sz,z0,.slice e k b z⟩)
  (hw:w.ownsRow 0 e k.size (a.eval s) xs.length vs) (hrow:RowC w F k xs vs) (hbl:∀ g,blk (a.eval s)=some g→(own l).obj.live=true∧blk (ρ (pl l))=some g)
  {G:Nat→Prop} (hy:SLK w G k ys (a.eval x)) (hyb:k.base=true∨∀ n,G n→F n) (hlen:xs.length + ys.length≤1073741824) (hb:b≤4096)
  {K:St→Prop} (hK:K ⟨upd slots d (.one (.own l ((own l).ver + 1))),upd own l ⟨(own l).ver + 1,.row e k (xs ++ ys)⟩⟩):Eff P c N F ρ own o a w K Q:=by
 obtain ⟨hu,hes,_,zv,hzr,hzc,hzs,ie,hie,hiz,hisz,hib⟩:=elem_size (H.cfg.ty _ _ hty)
 have hk4:=elk_size k
 have hbytes:(xs.length + ys.length) * b≤140737488355328:=by
  have:(xs.length + ys.length) * b≤1073741824 * 4096:=Nat.mul_le_mul hlen hb
  omega
 have hone:∀ {base:Nat} {sv:Value} {n:Nat} {us:List Value} {w:World},w.ownsRow base e k.size sv n us→sv.oneCell'=true:=by
  intro base sv n us w h
  rcases h.2 with ⟨rfl,_⟩|⟨g,cap,cur,rfl,_⟩ <;> rfl
 have hgr:∀ {w':World} {sv:Value},w.grownBy w' (Value.ownBlock sv)→(∀ g,Value.ownBlock sv=some g→(own l).obj.live=true∧blk (ρ (pl l))=some g)→w.grownBy w' (if (own l).obj.live then blk (ρ (pl l)) else none):=by
  intro w' sv hg hh
  refine ⟨hg.os,hg.tape,hg.output,hg.size,fun i hi hne=>hg.block i hi (fun e=>?_)⟩
  obtain ⟨h1,h2⟩:=hh i e.symm
  rw [if_pos h1,h2] at hne
  exact hne rfl
 have hob:∀ g,Value.ownBlock (a.eval s)=some g→(own l).obj.live=true∧blk (ρ (pl l))=some g:=fun g hg=>hbl g (own_blk hw hg)
 have hexec:∀ {r:Value} {w':World},(Builtin.append_ #[t,t] o.type #[a.eval s,a.eval x]).run P w=.ok r w'→(execOp a.eval o).run P w=.ok (.value r) w':=by
  intro r w' hr
  simp [execOp,ho,resolve,hcl,invoke,builtin,arr_of_list hargs,arr_of_list hat,hr]
 rcases hy with ⟨hxv,rfl⟩|⟨ad,cap,hxv,hc,hGb,hcell⟩
 ·have hr:=run_append_owned_none (P:=P) w 0 t o.type e ie k.size hu hie (a.eval s) xs.length vs hw
  rw [List.append_nil] at hK
  refine eff_row H hN (l:=l) hd hdst (w':=w) (s:=a.eval s) (hexec (by rw [hxv];exact hr)) (hone hw) (World.grownBy.refl w _) (fun b hb=>.inl (hbl b hb)) hw hrow hK
 ·-- the cells of ys
  have hfl:∃ us:List (List Value),us.length=ys.length∧(∀ l∈us,l.length=k.size)∧∀ (i:Nat) x u,ys[i]?=some x→us[i]?=some u→Elem w G k x u∧∀ j v,u[j]?=some v→w.cell? (ad.add (i * k.size + j))=some v:=by
   clear hlen hbytes hK hxv hc
   have:∀ n,n≤ys.length→∃ us:List (List Value),us.length=n∧(∀ l∈us,l.length=k.size)∧∀ (i:Nat) x u,i < n→ys[i]?=some x→us[i]?=some u→Elem w G k x u∧∀ j v,u[j]?=some v→w.cell? (ad.add (i * k.size + j))=some v:=by
    intro n
    induction n with
    | zero=>intro _;exact ⟨[],rfl,fun l hl=>by simp at hl,fun i x u hi=>absurd hi (by omega)⟩
    | succ n ih=>
     intro hn
     obtain ⟨us,h1,h2,h3⟩:=ih (by omega)
     obtain ⟨u,g1,g2,g3⟩:=hcell n _ (List.getElem?_eq_getElem (by omega))
     refine ⟨us ++ [u],by simp [h1],fun l hl=>?_,fun i x u' hi hx hu'=>?_⟩
     ·rcases List.mem_append.1 hl with hl|hl
      ·exact h2 l hl
      ·rw [List.mem_singleton.1 hl,g1]
     ·by_cases hin:i < n
      ·rw [List.getElem?_append_left (by omega)] at hu'
       exact h3 i x u' hin hx hu'
      ·have:i=n:=by omega
       subst this
       rw [List.getElem?_append_right (by omega),h1,Nat.sub_self] at hu'
       simp only [List.getElem?_cons_zero,Option.some.injEq] at hu'
       subst hu'
       rw [List.getElem?_eq_getElem (by omega)] at hx
       injection hx with hx
       subst hx
       exact ⟨g2,g3⟩
   obtain ⟨us,h1,h2,h3⟩:=this ys.length (Nat.le_refl _)
   exact ⟨us,h1,h2,fun i x u hx hu=>h3 i x u (List.getElem?_eq_some_iff.1 hx).1 hx hu⟩
  obtain ⟨us,u1,u2,u3⟩:=hfl
  have hnews:∀ (j:Nat) u,us.flatten[j]?=some u→w.cell? (ad.add j)=some u:=by
   intro j u hj
   have hjd:j=j / k.size * k.size + j % k.size:=by rw [Nat.mul_comm];exact (Nat.div_add_mod j k.size).symm
   have hm:=Nat.mod_lt j hk4.2
   have hf:=flat_get us (j / k.size) (j % k.size) u2 hm
   rw [← hjd,hj] at hf
   cases hq:us[j / k.size]? with
   | none=>rw [hq] at hf;cases hf
   | some l=>
    rw [hq] at hf
    have hlt:=(List.getElem?_eq_some_iff.1 hq).1
    have:=(u3 (j / k.size) _ l (List.getElem?_eq_getElem (by omega)) hq).2 (j % k.size) u hf.symm
    rwa [← hjd] at this
  have hrowY:RowC w G k ys us.flatten:=by
   refine ⟨fun v hv=>?_,fun i x hx=>?_⟩
   ·obtain ⟨l,hl,hv'⟩:=List.mem_flatten.1 hv
    obtain ⟨i,hi⟩:=List.getElem?_of_mem hl
    have hlt:=(List.getElem?_eq_some_iff.1 hi).1
    have:=(u3 i _ l (List.getElem?_eq_getElem (by omega)) hi).1
    exact one_of_cells (elem_enc (ρ:=ρ) (own:=own) this) v hv'
   ·have hlt:=(List.getElem?_eq_some_iff.1 hx).1
    have hus:us[i]?=some (us[i]'(by omega)):=List.getElem?_eq_getElem (by omega)
    refine ⟨_,u2 _ (List.getElem_mem _),(u3 i x _ hx hus).1,fun j u hj=>?_⟩
    have hjl:=(List.getElem?_eq_some_iff.1 hj).1
    have:=u2 _ (List.getElem_mem (l:=us) (h:=by omega) (n:=i))
    rw [flat_get us i j u2 (by omega),hus]
    exact hj
  have hus1:us.flatten.length=ys.length * k.size:=by rw [flat_len us u2,u1]
  obtain ⟨v',w',hr,hown',hg',_,hat'⟩:=run_append_own_at (P:=P) w 0 t o.type e ie zv k.size b hu hie hiz hisz hib hzs hk4.2 (a.eval s) xs.length vs hw ad ys.length cap us.flatten hus1 hnews hrowY.1 (by unfold maxLen;omega) hbytes (Nat.zero_le _)
  have hs':∀ g,blk v'=some g→((own l).obj.live=true∧blk (ρ (pl l))=some g)∨w.heap.size≤g:=by
   intro g hgb
   have hgo:=blk_own hown' hgb
   rcases hat' with e|e
   ·exact .inl (hob g (by rw [← e];exact hgo))
   ·rw [hgo] at e
    injection e with e
    exact .inr (by omega)
  have hrowF:RowC w' F k (xs ++ ys) (vs ++ us.flatten):=by
   have hg2:=hgr hg' hob
   have hnF:∀ n,F n→some n≠(if (own l).obj.live then blk (ρ (pl l)) else none):=fun n hn e=>by
    split at e
    ·rename_i hl
     exact (blk_lt H.mem hl (holds_of e.symm)).2.2 hn
    ·cases e
   have hext:Ext w F w' F:=⟨hg2.os,hg2.tape,hg2.output,hg2.size,fun n h=>hg2.block n (H.mem.fin n h) (hnF n h),fun _ h=>h⟩
   have hrowY':RowC w F k ys us.flatten:=by
    rcases hyb with hyb|hyb
    ·refine ⟨hrowY.1,fun i x hx=>?_⟩
     obtain ⟨us',e1,e2,e3⟩:=hrowY.2 i x hx
     refine ⟨us',e1,?_,e3⟩
     cases k with
     | b e=>exact e2
     | s e=>cases hyb
    ·exact hrowY.mono (ext_sub hyb)
   exact (hrow.append hrowY' hw.1).mono hext
  exact eff_row H hN (l:=l) hd hdst (hexec (by rw [hxv];exact hr)) (hone hown') (hgr hg' hob) hs' (by rw [List.length_append];exact hown') hrowF hK
theorem e_callrow (H:Here P c N F ρ own slots a w) (hN:∀ b,w.heap.size≤b→N b) {d:Nat} (hd:d < a.tmps.size) (hdst:o.dst=some d) {cl:Call} {g:Operand} (hcl:cl.callee=.value g) {f:FuncId} {caps:List D} (hg:evA slots g=.one (.d (.clo f caps))) {r:RV} {R:RowR}
  (h:acall c own f (evL (evA slots) cl.args.toList ++ capsOf caps)=.ok p r) (hp:p) (ho:o.op=.call cl) (hR:r.row=some R)
  {K:St→Prop} (hK:K ⟨upd slots d (ren (.own d ((own d).ver + 1)) r.av),upd own d ⟨(own d).ver + 1,.row R.ty R.k R.xs⟩⟩):Eff P c N F ρ own o a w K Q:=by
 unfold Eff
 refine call_ok H hcl hg h hp ho fun v w' hbel hret=>?_
 unfold RetC at hret
 rw [hR] at hret
 obtain ⟨s,vs,hw,hrow,hn,hav⟩:=hret
 have hF':∀ b,newB w w' F s b→F b∨w.heap.size≤b:=fun b hb=>hb.1.imp id (fun h=>h.1)
 have hge:∀ b,blk s=some b→w.heap.size≤b∧b < w'.heap.size:=fun b hb=>hw.lt b (blk_own hw hb)
 have hFs:∀ b,F b→newB w w' F s b:=fun b hb=>⟨.inl hb,fun e=>by have:=(hge b e).1;have:=H.mem.fin b hb;omega⟩
 have hext:Ext w F w' (newB w w' F s):=⟨hbel.os,hbel.tape,hbel.output,hbel.size,fun b h=>hbel.block b (H.mem.fin b h),hFs⟩
 have hC:∀ z v,CellC w F ρ own z v→CellC w' (newB w w' F s) (upd ρ (pl d) s) (upd own d ⟨(own d).ver + 1,.row R.ty R.k R.xs⟩) z v:=fun z v h=>
  h.step (l:=d) hext (upd_two own ρ d _ s) (.inl (by rw [upd_eq];exact Nat.lt_succ_self _))
 have hone:s.oneCell'=true:=by rcases hw.2 with ⟨rfl,_⟩|⟨g,cap,cur,rfl,_⟩ <;> rfl
 refine ⟨_,newB w w' F s,upd ρ (pl d) s,hK,⟨H.cfg,?_,?_⟩,hext,fun b h _=>hbel.block b h,fun b hb=>(hF' b hb).imp id (hN b),?_,?_,ver_two own d _,keep_two own ρ d _ s⟩
 ·rw [hdst]
  refine slots_put hC H.sl hd (AVG.ren (fun z v hz=>?_) hav)
  cases z with
  | d x=>exact hz
  | own l ver=>
   injection hz with hz
   subst hz
   exact ⟨hone,by rw [upd_eq];exact Nat.le_refl _,fun _=>(upd_eq _ _ _).symm⟩
  | ptr l ver i j=>exact hz.elim
  | sub l ver off n=>exact hz.elim
 ·refine H.mem.step (l:=d) hext (upd_two own ρ d _ s) (inn_two ρ d s) hC (fun l' b hne hl' hb hlt hn=>⟨hbel.block b hlt,fun hf=>?_⟩) ?_ (fun l' b hne hl' e1 e2=>?_) (fun b h=>?_)
  ·rcases hF' b hf with h|h
   ·exact hn h
   ·omega
  ·show OwnOk _ N _ _ _ d (upd own d _ d).obj
   rw [upd_eq]
   refine ⟨vs,?_,hrow,fun b hb=>?_⟩
   ·rw [upd_eq]
    refine ⟨hw.1,hw.2.imp id ?_⟩
    rintro ⟨g,cap,cur,h1,_,h2⟩
    exact ⟨g,cap,cur,h1,Nat.zero_le _,h2⟩
   ·rw [upd_eq] at hb
    exact ⟨hN b (hge b hb).1,fun hf=>hf.2 hb⟩
  ·simp only [upd_eq,holds] at e1
   have h1:=(hge b e1).1
   have h2:=(blk_lt H.mem hl' e2).1
   omega
  ·rcases h.1 with h|h
   ·exact Nat.lt_of_lt_of_le (H.mem.fin b h) hbel.size
   ·exact h.2
 ·rw [hdst];exact put_size _ _ _
 ·rw [hdst];exact put_defers' _ _ _
theorem nthA_eq:∀ (xs:List AV) (i:Nat),nthA xs i=xs[i]?
 | [],_=>rfl
 | _ :: _,0=>rfl
 | _ :: r,i + 1=>by simpa [nthA] using nthA_eq r i
theorem othersD_get:∀ {i:Nat} {xs:List AV},othersD i xs=true→∀ (j:Nat) y,j≠i→xs[j]?=some y→strictD y=true
 | _,[],_,j,y,_,hy=>by simp at hy
 | 0,x :: r,h,j,y,hj,hy=>by
  cases j with
  | zero=>exact absurd rfl hj
  | succ j=>simp at hy;exact List.all_eq_true.1 h y (List.mem_of_getElem? hy)
 | i + 1,x :: r,h,j,y,hj,hy=>by
  simp only [othersD,Bool.and_eq_true] at h
  cases j with
  | zero=>simp at hy;subst hy;exact h.1
  | succ j=>simp at hy;exact othersD_get h.2 j y (by omega) hy
theorem strict_arg {s:Value} {y:AV} {v:Value} (h:strictD y=true) (hy:AVC w F ρ own y v):AVG (ArgCell w F s) y v:=by
 match y,h with
 | .one (.d x),_=>exact hy
 | .agg cs,h=>
  obtain ⟨vs,hv,hs⟩:=hy
  refine ⟨vs,hv,hs.imp fun z u hz hc=>?_⟩
  have:=List.all_eq_true.1 h z hz
  cases z with
  | d x=>exact hc
  | own _ _=>cases this
  | ptr _ _ _ _=>cases this
  | sub _ _ _ _=>cases this
theorem own_arg {l ver:Nat} {y:AV} {v:Value} (ho:ownCell y=some (l,ver)) (hl:(own l).ver=ver∧(own l).obj.rowy) (hy:AVC w F ρ own y v):AVG (ArgCell w F (ρ (pl l))) y v:=by
 unfold ownCell at ho
 split at ho
 ·injection ho with ho
  injection ho with h1 h2
  subst h1;subst h2
  exact hy.2.2 hl
 ·injection ho with ho
  injection ho with h1 h2
  subst h1;subst h2
  obtain ⟨vs,hv,hs⟩:=hy
  refine ⟨vs,hv,hs.imp fun z u hz hc=>?_⟩
  rw [List.mem_singleton.1 hz] at hc ⊢
  exact hc.2.2 hl
 ·cases ho
theorem callw_ok (H:Here P c N F ρ own slots a w) {cl:Call} {g:Operand} (hcl:cl.callee=.value g) {f:FuncId} {caps:List D} (hg:evA slots g=.one (.d (.clo f caps))) {l ver:Nat} {ty:TypeId} {k:ElK} {ys:List k.T} {trunc:Bool} {av:AV}
  (h:acallW c own f (evL (evA slots) cl.args.toList ++ capsOf caps)=.ok p l ver ty k ys trunc av) (hp:p) (ho:o.op=.call cl) {K:Act→World→Prop}
  (hK:∀ v w' s' cells' xs,∀ F':Nat→Prop,own l=⟨ver,.row ty k xs⟩→w.grownBy w' (blk (ρ (pl l)))→((∀ b,F b→F' b)∧(∀ b,F' b→F b∨w.heap.size≤b∨blk (ρ (pl l))=some b)∧∀ b,F' b→b < w'.heap.size) →
   (∀ b,blk s'=some b→(blk (ρ (pl l))=some b∨w.heap.size≤b)∧¬ F' b)→w'.ownsRow 0 ty k.size s' ys.length cells'→RowC w' F' k ys cells'→s'.oneCell'=true →
   (match trunc with|true=>v=s'|false=>s'=ρ (pl l)∧AVG (RetCell w' (fun _=>False) none) av v)→K (a.put o.dst v) w'):o.wp P a w K Q:=by
 unfold acallW at h
 split at h
 ·cases h
 ·rename_i con hcon
  obtain ⟨hs,fn,hfn,hname,hbody⟩:=H.cfg.conw f con hcon
  split at h
  ·cases h
  ·rename_i a0 ha0
   split at h
   ·cases h
   ·rename_i l0 ver0 hoc
    split at h
    ·rename_i ver' ty' k' xs hl
     split at h
     ·rename_i x hoth hpat
      split at h
      ·rename_i ys' hcast
       injection h with e1 e2 e3 e4 e5 e6 e7 e8
       subst e1;subst e2;subst e3;subst e4;subst e5
       have e6:=eq_of_heq e6
       subst e6;subst e7;subst e8
       obtain ⟨hv1,hty,hpre⟩:=hp
       subst hv1;subst hty
       have hok:=H.mem.ok l0
       rw [hl] at hok
       obtain ⟨cells,hw,hrow,hn⟩:=hok
       have hlive:(own l0).obj.live=true:=by rw [hl];rfl
       have hclo:DC w F (.clo f caps) (a.eval g):=H.ev' hg
       generalize hge:a.eval g=vg at hclo
       cases hclo with
       | clo us hul hus=>
        have hargs:∀ (j:Nat) x v,(evL (evA slots) cl.args.toList ++ capsOf caps)[j]?=some x→(cl.args.toList.map a.eval ++ us)[j]?=some v→AVC w F ρ own x v:=by
         intro j x v hx hv
         have hlen:(evL (evA slots) cl.args.toList).length=(cl.args.toList.map a.eval).length:=by simp [evL]
         by_cases hj:j < (cl.args.toList.map a.eval).length
         ·rw [List.getElem?_append_left (by omega)] at hx
          rw [List.getElem?_append_left hj] at hv
          exact evL_ok H _ j x v hx hv
         ·rw [List.getElem?_append_right (by omega),capsOf_get,hlen] at hx
          rw [List.getElem?_append_right (by omega)] at hv
          cases hc:caps[j - (cl.args.toList.map a.eval).length]? with
          | none=>rw [hc] at hx;cases hx
          | some d=>
           rw [hc] at hx
           simp only [Option.map_some,Option.some.injEq] at hx
           subst hx
           exact hus _ d v hc hv
        have hone:(ρ (pl l0)).oneCell'=true:=by rcases hw.2 with ⟨e,_⟩|⟨g',cap,cur,e,_⟩ <;> rw [e] <;> rfl
        have hcall:=hs w F (evL (evA slots) cl.args.toList ++ capsOf caps) (cl.args.toList.map a.eval ++ us) a0 l0 ver0 x (ρ (pl l0)) k' xs ys' cells ha0 hoc hoth hpat hpre hcast H.mem.fin
         (by simp [evL,capsOf_len,hul]) (fun j y v hy hv=>by
          by_cases hj:j=con.wi
          ·subst hj
           rw [nthA_eq,hy] at ha0
           injection ha0 with ha0
           subst ha0
           exact own_arg hoc ⟨by rw [hl],by rw [hl];trivial⟩ (hargs _ y v hy hv)
          ·exact strict_arg (othersD_get hoth j y hj hy) (hargs j y v hy hv)) hw hrow
         (fun b hb=>⟨(blk_lt H.mem hlive (holds_of hb)).1,(hn b hb).2⟩) hone
        unfold Oper.wp
        have hrun:(execOp a.eval o).run P w=.ok (.enter f (cl.args.toList.map a.eval ++ us).toArray) w:=by
         have hargs':(cl.args.map a.eval) ++ us.toArray=(cl.args.toList.map a.eval ++ us).toArray:=by
          apply Array.ext';simp
         have hname' : ¬ fn.name = "runtime.NumGoroutine" := by simpa using hname
         have hbody':¬ fn.body=none:=by intro h;rw [h] at hbody;cases hbody
         simp [execOp,ho,resolve,hcl,hge,Deferred.ofValue,invoke,callFunc,hfn,hargs']
         rw [if_neg hname',if_neg hbody']
        rw [hrun]
        refine hcall.mono fun e w' he=>?_
        obtain ⟨v,s',cells',F',rfl,q1,qF,q2,q3,q4,q5,q6⟩:=he
        exact hK v w' s' cells' xs F' hl q1 qF q2 q3 q4 q5 q6
      ·cases h
     ·cases h
    ·cases h
theorem next_rowF (H:Here P c N F ρ own slots a w) (hN:∀ b,w.heap.size≤b→N b) {d l:Nat} (hd:d < a.tmps.size) (hdst:o.dst=some d) {w':World} {F':Nat→Prop} {s:Value} {ty:TypeId} {k:ElK} {ys:List k.T} {vs:List Value}
  (hlive:(own l).obj.live=true) (hone:s.oneCell'=true) (hg:w.grownBy w' (blk (ρ (pl l)))) (hF:(∀ b,F b→F' b)∧(∀ b,F' b→F b∨w.heap.size≤b∨blk (ρ (pl l))=some b)∧∀ b,F' b→b < w'.heap.size)
  (hs:∀ b,blk s=some b→(blk (ρ (pl l))=some b∨w.heap.size≤b)∧¬ F' b)
  (hw:w'.ownsRow 0 ty k.size s ys.length vs) (hrow:RowC w' F' k ys vs)
  {K:St→Prop} (hK:K ⟨upd slots d (.one (.own l ((own l).ver + 1))),upd own l ⟨(own l).ver + 1,.row ty k ys⟩⟩):∃ σ' F' ρ',K σ'∧Next' P c N F ρ own a w σ' (a.put o.dst s) w' F' ρ':=by
 have hnF:∀ b,F b→some b≠blk (ρ (pl l)):=fun b hb e=>(blk_lt H.mem hlive (holds_of e.symm)).2.2 hb
 have hext:Ext w F w' F':=⟨hg.os,hg.tape,hg.output,hg.size,fun b h=>hg.block b (H.mem.fin b h) (hnF b h),hF.1⟩
 have hC:∀ z v,CellC w F ρ own z v→CellC w' F' (upd ρ (pl l) s) (upd own l ⟨(own l).ver + 1,.row ty k ys⟩) z v:=fun z v h=>
  h.step (l:=l) hext (upd_two own ρ l _ s) (.inl (by rw [upd_eq];exact Nat.lt_succ_self _))
 have hblk:∀ b,blk s=some b→N b∧¬ F' b:=fun b hb=>by
  obtain ⟨h1,h2⟩:=hs b hb
  rcases h1 with h1|h1
  ·exact ⟨(blk_lt H.mem hlive (holds_of h1)).2.1,h2⟩
  ·exact ⟨hN b h1,h2⟩
 refine ⟨_,F',upd ρ (pl l) s,hK,⟨H.cfg,?_,?_⟩,hext,fun b h hn=>hg.block b h (fun e=>hn (blk_lt H.mem hlive (holds_of e.symm)).2.1),fun b h=>?_,?_,?_,ver_two own l _,keep_two own ρ l _ s⟩
 ·rw [hdst]
  refine slots_put hC H.sl hd ?_
  show CellC w' F' _ _ (.own l _) s
  exact ⟨hone,by rw [upd_eq];exact Nat.le_refl _,fun _=>(upd_eq _ _ _).symm⟩
 ·refine H.mem.step (l:=l) hext (upd_two own ρ l _ s) (inn_two ρ l s) hC (fun l' b hne hl' hb hlt hn=>⟨hg.block b hlt (fun e=>?_),fun hf=>?_⟩) ?_ (fun l' b hne hl' e1 e2=>?_) hF.2.2
  ·exact H.mem.apart l l' b (Ne.symm hne) hlive hl' (holds_of e.symm) hb
  ·rcases hF.2.1 b hf with g|g|g
   ·exact hn g
   ·omega
   ·exact H.mem.apart l l' b (Ne.symm hne) hlive hl' (holds_of g) hb
  ·show OwnOk _ N F' _ _ l (upd own l _ l).obj
   rw [upd_eq]
   refine ⟨vs,by rw [upd_eq];exact hw,hrow,fun b hb=>hblk b (by rwa [upd_eq] at hb)⟩
  ·simp only [upd_eq,holds] at e1
   rcases (hs b e1).1 with h2|h
   ·exact H.mem.apart l l' b (Ne.symm hne) hlive hl' (holds_of h2) e2
   ·have:=(blk_lt H.mem hl' e2).1
    omega
 ·rcases hF.2.1 b h with g|g|g
  ·exact .inl g
  ·exact .inr (hN b g)
  ·exact .inr (blk_lt H.mem hlive (holds_of g)).2.1
 ·rw [hdst];exact put_size _ _ _
 ·rw [hdst];exact put_defers' _ _ _
theorem e_callwT (H:Here P c N F ρ own slots a w) (hN:∀ b,w.heap.size≤b→N b) {d:Nat} (hd:d < a.tmps.size) (hdst:o.dst=some d) {cl:Call} {g:Operand} (hcl:cl.callee=.value g) {f:FuncId} {caps:List D} (hg:evA slots g=.one (.d (.clo f caps))) {l ver:Nat} {ty:TypeId} {k:ElK} {ys:List k.T} {av:AV}
  (h:acallW c own f (evL (evA slots) cl.args.toList ++ capsOf caps)=.ok p l ver ty k ys true av) (hp:p) (ho:o.op=.call cl)
  {K:St→Prop} (hK:K ⟨upd slots d (.one (.own l (ver + 1))),upd own l ⟨ver + 1,.row ty k ys⟩⟩):Eff P c N F ρ own o a w K Q:=by
 unfold Eff
 refine callw_ok H hcl hg h hp ho fun v w' s' cells' xs F' hl hgr hF hbl hw hrow hone hres=>?_
 have hres:v=s':=hres
 subst hres
 have hlive:(own l).obj.live=true:=by rw [hl];rfl
 have hver:(own l).ver=ver:=by rw [hl]
 exact next_rowF H hN hd hdst hlive hone hgr hF hbl hw hrow (by rw [hver];exact hK)
theorem e_callwF (H:Here P c N F ρ own slots a w) (hN:∀ b,w.heap.size≤b→N b) {d:Nat} (hd:d < a.tmps.size) (hdst:o.dst=some d) {cl:Call} {g:Operand} (hcl:cl.callee=.value g) {f:FuncId} {caps:List D} (hg:evA slots g=.one (.d (.clo f caps))) {l ver:Nat} {ty:TypeId} {k:ElK} {ys:List k.T} {av:AV}
  (h:acallW c own f (evL (evA slots) cl.args.toList ++ capsOf caps)=.ok p l ver ty k ys false av) (hp:p) (ho:o.op=.call cl)
  {K:St→Prop} (hK:K ⟨upd slots d av,upd own l ⟨ver,.row ty k ys⟩⟩):Eff P c N F ρ own o a w K Q:=by
 unfold Eff
 refine callw_ok H hcl hg h hp ho fun v w' s' cells' xs F' hl hgr hF hbl hw hrow hone hres=>?_
 obtain ⟨rfl,hav⟩:s'=ρ (pl l)∧AVG (RetCell w' (fun _=>False) none) av v:=hres
 have hlive:(own l).obj.live=true:=by rw [hl];rfl
 have hnF:∀ b,F b→some b≠blk (ρ (pl l)):=fun b hb e=>(blk_lt H.mem hlive (holds_of e.symm)).2.2 hb
 have hext:Ext w F w' F':=⟨hgr.os,hgr.tape,hgr.output,hgr.size,fun b h=>hgr.block b (H.mem.fin b h) (hnF b h),hF.1⟩
 have hother:∀ l',l'≠l→upd own l ⟨ver,.row ty k ys⟩ l'=own l'∧ρ (pl l')=ρ (pl l'):=fun l' h=>⟨upd_ne _ _ h,rfl⟩
 have hC:∀ z v,CellC w F ρ own z v→CellC w' F' ρ (upd own l ⟨ver,.row ty k ys⟩) z v:=fun z v h=>
  h.step (l:=l) hext hother (.inr (by rw [upd_eq];exact ⟨by rw [hl],rfl,.inr (.inl ⟨ty,k,xs,ys,by rw [hl],rfl⟩)⟩))
 refine ⟨_,F',ρ,hK,⟨H.cfg,?_,?_⟩,hext,fun b h hn=>hgr.block b h (fun e=>hn (blk_lt H.mem hlive (holds_of e.symm)).2.1),fun b h=>(hF.2.1 b h).imp id fun g=>g.elim (hN b) fun g=>(blk_lt H.mem hlive (holds_of g)).2.1,?_,?_,fun l'=>?_,fun _ _=>rfl⟩
 ·rw [hdst]
  refine slots_put hC H.sl hd (AVG.imp (fun z v hz=>?_) hav)
  cases z with
  | d x=>exact DC.mono (ext_sub fun b hb=>hb.elim) hz
  | own _ _=>cases hz
  | ptr _ _ _ _=>exact hz.elim
  | sub _ _ _ _=>exact hz.elim
 ·refine H.mem.step (l:=l) hext hother (fun _ _ _=>rfl) hC (fun l' b hne hl' hb hlt hn=>⟨hgr.block b hlt (fun e=>H.mem.apart l l' b (Ne.symm hne) hlive hl' (holds_of e.symm) hb),fun hf=>?_⟩) ?_ (fun l' b hne hl' e1 e2=>H.mem.apart l l' b (Ne.symm hne) hlive hl' (holds_of (by simpa only [upd_eq,holds] using e1)) e2) hF.2.2
  ·rcases hF.2.1 b hf with g|g|g
   ·exact hn g
   ·omega
   ·exact H.mem.apart l l' b (Ne.symm hne) hlive hl' (holds_of g) hb
  ·show OwnOk _ N F' _ _ l (upd own l _ l).obj
   rw [upd_eq]
   exact ⟨cells',hw,hrow,fun b hb=>⟨(blk_lt H.mem hlive (holds_of hb)).2.1,(hbl b hb).2⟩⟩
 ·rw [hdst];exact put_size _ _ _
 ·rw [hdst];exact put_defers' _ _ _
 ·have:=ver_same own l (.row ty k ys) l'
  rw [hl] at this
  exact this
theorem putL_len {α:Type} (xs:List α) (off:Nat) (ys:List α) (h:off + ys.length≤xs.length):(putL xs off ys).length=xs.length:=by
 unfold putL;simp;omega
theorem putL_get {α:Type} (xs:List α) (off:Nat) (ys:List α) (h:off + ys.length≤xs.length) (n:Nat):(putL xs off ys)[n]?=if off≤n∧n < off + ys.length then ys[n - off]? else xs[n]?:=by
 unfold putL
 by_cases h1:n < off
 ·rw [List.getElem?_append_left (by simp;omega),if_neg (by omega),List.getElem?_take,if_pos h1]
 ·rw [List.getElem?_append_right (by simp;omega),List.length_take,Nat.min_eq_left (by omega)]
  by_cases h2:n < off + ys.length
  ·rw [List.getElem?_append_left (by omega),if_pos (by omega)]
  ·rw [List.getElem?_append_right (by omega),if_neg (by omega),List.getElem?_drop]
   congr 1
   omega
theorem eff_put (H:Here P c N F ρ own slots a w) (hd:∀ d,o.dst=some d→d < a.tmps.size) {l off ver g cap:Nat} {ty:TypeId} {k:ElK} {xs ys:List k.T} {us:List Value} {x:AV} {u:Value}
  (hl:own l=⟨ver,.row ty k xs⟩) (hρ:ρ (pl l)=.slice (some ⟨g,0,none⟩) xs.length cap) (hoff:off + ys.length≤xs.length) (hrow':RowC w F k ys us) (hul:us.length=ys.length * k.size)
  (hrun:∀ w',(storeCells ⟨g,off * k.size,none⟩ us).run P w=.ok () w'→(execOp a.eval o).run P w=.ok (.value u) w') (hx:∀ (C:Cell→Value→Prop),(∀ n,C (.d (.int .i64 n)) (.int .i64 n))→AVG C x u)
  {K:St→Prop} (hK:K ⟨(St.put ⟨slots,own⟩ o.dst x).slots,upd own l ⟨ver,.row ty k (putL xs off ys)⟩⟩):Eff P c N F ρ own o a w K Q:=by
 have hok:=H.mem.ok l
 rw [hl] at hok
 obtain ⟨vs,hw,hrow,hn⟩:=hok
 have hlive:(own l).obj.live=true:=by rw [hl];rfl
 have hbl:blk (ρ (pl l))=some g:=by rw [hρ];rfl
 have hk4:=elk_size k
 rcases hw.2 with ⟨h0,_⟩|⟨g',cap',cur,hs,hbase,hh,hcap,hmax,hcs,htake⟩
 ·rw [hρ] at h0;cases h0
 ·rw [hρ] at hs
  injection hs with hs1 hs2 hs3
  injection hs1 with hs1
  injection hs1 with hs1
  subst hs1 hs3
  have htl:vs.length=xs.length * k.size:=hw.1
  have hmul:off * k.size + ys.length * k.size≤xs.length * k.size:=by rw [← Nat.add_mul];exact Nat.mul_le_mul_right _ hoff
  have hcur:xs.length * k.size≤cur.size:=by rw [hcs];exact Nat.mul_le_mul_right _ hcap
  obtain ⟨w',r1,r2,r3,r4,r5,r6,r7⟩:=run_storeCells_own (P:=P) g ty us (off * k.size) 0 cur w hh (by omega) (fun u hu=>hrow'.1 u hu)
  have hexec:=hrun w' r1
  obtain ⟨hlt,hNb,hFb⟩:=blk_lt H.mem hlive (holds_of hbl)
  have hext:Ext w F w' F:=⟨r3,r4,r5,by omega,fun b' h=>r7 b' (by rintro rfl;exact hFb h),fun _ h=>h⟩
  have hother:∀ l',l'≠l→upd own l ⟨ver,.row ty k (putL xs off ys)⟩ l'=own l'∧ρ (pl l')=ρ (pl l'):=fun l' h=>⟨upd_ne _ _ h,rfl⟩
  have hC:∀ z v,CellC w F ρ own z v→CellC w' F ρ (upd own l ⟨ver,.row ty k (putL xs off ys)⟩) z v:=fun z v h=>
   h.step (l:=l) hext hother (.inr (by rw [upd_eq];exact ⟨by rw [hl],rfl,.inr (.inl ⟨ty,k,xs,_,by rw [hl],rfl⟩)⟩))
  unfold Eff Oper.wp
  rw [hexec]
  refine ⟨_,F,ρ,hK,⟨H.cfg,?_,?_⟩,hext,fun b' _ hn'=>r7 b' (by rintro rfl;exact hn' hNb),fun b h=>.inl h,put_size _ _ _,put_defers' _ _ _,fun l'=>?_,fun _ _=>rfl⟩
  ·cases hdst:o.dst with
   | none=>exact fun t=>AVG.imp hC (H.sl t)
   | some d=>exact slots_put hC H.sl (hd d hdst) (hx _ fun n=>DC.int _ _)
  ·refine H.mem.step (l:=l) hext hother (fun _ _ _=>rfl) hC (fun l' b' hne hl' hb' hlt' hn'=>⟨r7 b' (by rintro rfl;exact H.mem.apart l l' b' (Ne.symm hne) hlive hl' (holds_of hbl) hb'),hn'⟩) ?_ (fun l' b' hne hl' e1 e2=>H.mem.apart l l' b' (Ne.symm hne) hlive hl' (holds_of (by simpa only [upd_eq,holds] using e1)) e2) (fun b' h=>by rw [r6];exact H.mem.fin b' h)
   show OwnOk _ N F _ _ l (upd own l _ l).obj
   rw [upd_eq]
   have hlen:=putL_len xs off ys hoff
   obtain ⟨p1,p2⟩:=putV_get cur.toList (off * k.size + 0) us (by simp;omega)
   have hvs':∀ n,(List.take (xs.length * k.size) (putV cur.toList (off * k.size + 0) us))[n]?=if off * k.size≤n∧n < off * k.size + us.length then us[n - off * k.size]? else vs[n]?:=by
    intro n
    rw [List.getElem?_take,p2,← htake,List.getElem?_take]
    simp only [Nat.add_zero]
    by_cases hnl:n < xs.length * k.size
    ·rw [if_pos hnl,if_pos hnl]
    ·rw [if_neg hnl,if_neg hnl,if_neg (by omega)]
   refine ⟨(putV cur.toList (off * k.size + 0) us).take (xs.length * k.size),⟨by rw [List.length_take,p1,hlen];exact Nat.min_eq_left (by simpa using hcur),.inr ⟨g,cap,_,by rw [hlen];exact hρ,hbase,r2,by rw [hlen];exact hcap,hmax,by simp only [List.size_toArray,p1,Array.length_toList];exact hcs,by rw [hlen]⟩⟩,⟨fun v hv=>?_,fun n x' hx'=>?_⟩,fun b' hb'=>?_⟩
   ·obtain ⟨n,hn'⟩:=List.getElem?_of_mem hv
    rw [hvs'] at hn'
    split at hn'
    ·exact hrow'.1 v (List.mem_of_getElem? hn')
    ·exact hrow.1 v (List.mem_of_getElem? hn')
   ·rw [putL_get xs off ys hoff] at hx'
    have step:∀ {i j:Nat},i < j→i * k.size + k.size≤j * k.size:=fun h=>by rw [← Nat.succ_mul];exact Nat.mul_le_mul_right _ h
    split at hx'
    ·rename_i hin
     obtain ⟨us',g1,g2,g3⟩:=hrow'.2 _ x' hx'
     refine ⟨us',g1,Elem.mono hext k _ _ g2,fun m u' hm=>?_⟩
     have hml:=(List.getElem?_eq_some_iff.1 hm).1
     have hlt2:=step (show n - off < ys.length by omega)
     have hsub:n * k.size=off * k.size + (n - off) * k.size:=by rw [← Nat.add_mul];congr 1;omega
     rw [hvs',if_pos (by omega),show n * k.size + m - off * k.size=(n - off) * k.size + m by omega]
     exact g3 m u' hm
    ·rename_i hout
     obtain ⟨us',g1,g2,g3⟩:=hrow.2 n x' hx'
     refine ⟨us',g1,Elem.mono hext k _ _ g2,fun m u' hm=>?_⟩
     have hml:=(List.getElem?_eq_some_iff.1 hm).1
     rw [hvs',if_neg,g3 m u' hm]
     intro ⟨q1,q2⟩
     by_cases hno:n < off
     ·have:=step hno;omega
     ·have h3:(off + ys.length) * k.size≤n * k.size:=Nat.mul_le_mul_right _ (by omega)
      rw [Nat.add_mul] at h3
      omega
   ·rw [hρ] at hb'
    simp only [blk,Option.some.injEq] at hb'
    subst hb'
    exact ⟨hNb,hFb⟩
  ·show _≤(upd own l _ l').ver
   rw [upd_get]
   split
   ·rename_i h;subst h;rw [hl];exact Nat.le_refl _
   ·exact Nat.le_refl _
theorem e_clear (H:Here P c N F ρ own slots a w) (hdst:o.dst=none) {cl:Call} (ho:o.op=.call cl) (hcl:cl.callee=.builtin .clear) {t:TypeId} {x:Operand} (hargs:cl.args.toList=[x]) (hat:cl.argTypes.toList=[t])
  {sz b:Nat} {z0 z:List ZK} {e ty:TypeId} {k:ElK} {xs:List k.T} {l ver off n:Nat} {zv:k.T} (hty:c.ty t=some ⟨sz,z0,.slice e k b z⟩) (hx:evA slots x=.one (.sub l ver off n)) (hl:own l=⟨ver,.row ty k xs⟩)
  (hz:k.dec (z.map ZK.c)=some zv) (hoff:off + n≤xs.length) {K:St→Prop} (hK:K ⟨slots,upd own l ⟨ver,.row ty k (putL xs off (List.replicate n zv))⟩⟩):Eff P c N F ρ own o a w K Q:=by
 obtain ⟨hu,hes,_,zval,hzr,hzc,hzs,ie,hie,hiz,hisz,hib⟩:=elem_size (H.cfg.ty _ _ hty)
 have hk4:=elk_size k
 have hd:CellC w F ρ own (.sub l ver off n) (a.eval x):=H.ev' hx
 obtain ⟨g,cp,hbl,hcp,he⟩:=(hd.2.2 (by rw [hl])).1 ty k xs (by rw [hl])
 have hok:=H.mem.ok l
 rw [hl] at hok
 obtain ⟨vs,hw,hrow,hn⟩:=hok
 rcases hw.2 with ⟨h0,_⟩|⟨g',cap,cur,hs,_⟩
 ·rw [h0] at hbl;simp [blk] at hbl
 ·have hgg:g'=g:=by rw [hs] at hbl;simpa [blk] using hbl
  subst hgg
  have hmade:(Builtin.zeroCells zval.cells n).toList=(List.replicate n zval.cells.toList).flatten:=by
   have:Builtin.zeroCells zval.cells n=madeCells zval.cells (n * zval.cells.size):=rfl
   rw [this]
   exact zeros_row zval.cells n (by omega)
  have hrz:RowC w F k (List.replicate n zv) (List.replicate n zval.cells.toList).flatten:=replicate_row (ρ:=ρ) (own:=own) n hz (by rw [hzc];exact zk_ok z)
  refine eff_put H (fun d hd=>by rw [hdst] at hd;cases hd) (x:=.junk) (u:=.tuple #[]) hl hs (ys:=List.replicate n zv) (us:=(List.replicate n zval.cells.toList).flatten) (by simpa using hoff) hrz ?_ (fun w' hst=>?_) (fun _ _=>trivial) (by rw [hdst];exact hK)
  ·rw [flat_len (size:=k.size) _ (fun l hl=>by rw [List.eq_of_mem_replicate hl,Array.length_toList,hzs]),List.length_replicate,List.length_replicate]
  ·have hat':cl.argTypes[0]?=some t:=by rw [arr_of_list hat];rfl
   have har':cl.args=#[x]:=arr_of_list hargs
   rw [← hmade] at hst
   cases n with
   | zero=>
    have e0:(Builtin.zeroCells zval.cells 0).toList=[]:=by rw [hmade];rfl
    rw [e0] at hst
    simp [storeCells] at hst
    subst hst
    simp [execOp,ho,resolve,hcl,invoke,builtin,Builtin.clear_,hat',har',run_und hu,he]
   | succ n=>simp [execOp,ho,resolve,hcl,invoke,builtin,Builtin.clear_,hat',har',run_und hu,he,hzr,hst]
theorem read_ok (H:Here P c N F ρ own slots a w) {s:Operand} {q:Prop} {ys:List Int} (h:readOf own (evA slots s)=.ok q (.b .int) ys) (hq:q) (hne:0 < ys.length) :
  ∃ ad cp,a.eval s=.slice (some ad) ys.length cp∧∀ (j:Nat) v,(ys.map (Value.int .i64))[j]?=some v→w.cell? (ad.add j)=some v:=by
 have hcells:∀ {l g cap:Nat} {ty:TypeId} {xs:List Int} {ver:Nat},own l=⟨ver,.row ty (.b .int) xs⟩→ρ (pl l)=.slice (some ⟨g,0,none⟩) xs.length cap→∀ (j:Nat) x,xs[j]?=some x→w.cell? ⟨g,j,none⟩=some (.int .i64 x):=by
  intro l g cap ty xs ver hl hs j x hj
  have hok:=H.mem.ok l
  rw [hl] at hok
  obtain ⟨vs,hw,hrow,hn⟩:=hok
  obtain ⟨us,u1,u2,u3⟩:=hrow.2 j x hj
  have u2:us=[.int .i64 x]:=u2
  subst u2
  have h1:=u3 0 (.int .i64 x) rfl
  have h1:vs[j]?=some (.int .i64 x):=by simpa using h1
  rcases hw.2 with ⟨h0,_⟩|⟨g',cap',cur,hs',hbase,hh,hcap,hmax,hcs,htake⟩
  ·rw [hs] at h0;cases h0
  ·rw [hs] at hs'
   injection hs' with e1 e2 e3
   injection e1 with e1
   injection e1 with e1
   subst e1
   rw [← htake,List.getElem?_take] at h1
   split at h1
   ·simp only [World.cell?,hh]
    rw [← Array.getElem?_toList]
    simpa using h1
   ·cases h1
 unfold readOf at h
 split at h
 ·rename_i nl k ys' hs
  injection h with e1 e2 e3
  subst e2
  have e3:=eq_of_heq e3
  subst e3
  have hd:DC w F (.sl nl (.b .int) ys') (a.eval s):=H.ev' hs
  generalize he:a.eval s=v at hd
  cases hd with
  | sl hn hsl=>
   rcases hsl with ⟨_,h0⟩|⟨ad,cp,rfl,hc,hF,hcell⟩
   ·rw [h0] at hne;simp at hne
   ·refine ⟨ad,cp,rfl,fun j v hj=>?_⟩
    rw [List.getElem?_map] at hj
    cases hx:ys'[j]? with
    | none=>rw [hx] at hj;cases hj
    | some x=>
     rw [hx] at hj
     simp only [Option.map_some,Option.some.injEq] at hj
     subst hj
     obtain ⟨us,u1,u2,u3⟩:=hcell j x hx
     have u2:us=[.int .i64 x]:=u2
     subst u2
     have:=u3 0 (.int .i64 x) rfl
     simpa using this
 ·rename_i l ver hs
  split at h
  ·rename_i ver' ty k ys' hl
   injection h with e1 e2 e3
   subst e1 e2
   have e3:=eq_of_heq e3
   subst e3
   have hd:CellC w F ρ own (.own l ver) (a.eval s):=H.ev' hs
   have he:=hd.2.2 ⟨by rw [hl];exact hq.symm,by rw [hl];trivial⟩
   have hok:=H.mem.ok l
   rw [hl] at hok
   obtain ⟨vs,hw,hrow,hn⟩:=hok
   rcases hw.2 with ⟨_,h0⟩|⟨g,cap,cur,hρ,_⟩
   ·omega
   ·refine ⟨⟨g,0,none⟩,cap,by rw [he,hρ],fun j v hj=>?_⟩
    rw [List.getElem?_map] at hj
    cases hx:ys'[j]? with
    | none=>rw [hx] at hj;cases hj
    | some x=>
     rw [hx] at hj
     simp only [Option.map_some,Option.some.injEq] at hj
     subst hj
     rw [add_lit',Nat.zero_add]
     exact hcells hl hρ j x hx
  ·cases h
 ·rename_i l ver off n hs
  split at h
  ·rename_i ver' ty k ys' hl
   injection h with e1 e2 e3
   subst e1 e2
   have e3:=eq_of_heq e3
   subst e3
   obtain ⟨hv,hle⟩:=hq
   have hd:CellC w F ρ own (.sub l ver off n) (a.eval s):=H.ev' hs
   obtain ⟨g,cp,hb,hcp,he⟩:=(hd.2.2 (by rw [hl];exact hv.symm)).1 ty _ ys' (by rw [hl])
   have hok:=H.mem.ok l
   rw [hl] at hok
   obtain ⟨vs,hw,hrow,hn⟩:=hok
   rcases hw.2 with ⟨h0,_⟩|⟨g',cap,cur,hρ,_⟩
   ·rw [h0] at hb;simp [blk] at hb
   ·have hgg:g'=g:=by rw [hρ] at hb;simpa [blk] using hb
    subst hgg
    have hlen:((ys'.drop off).take n).length=n:=by simp;omega
    refine ⟨⟨g',off * ElK.size (.b .int),none⟩,cp,by rw [he,hlen],fun j v hj=>?_⟩
    rw [List.getElem?_map,List.getElem?_take,List.getElem?_drop] at hj
    split at hj
    ·cases hx:ys'[off + j]? with
     | none=>rw [hx] at hj;cases hj
     | some x=>
      rw [hx] at hj
      simp only [Option.map_some,Option.some.injEq] at hj
      subst hj
      rw [add_lit',show off * ElK.size (.b .int)=off from Nat.mul_one _]
      exact hcells hl hρ (off + j) x hx
    ·cases hj
  ·cases h
 ·cases h
theorem e_copy (H:Here P c N F ρ own slots a w) {d:Nat} (hd:d < a.tmps.size) (hdst:o.dst=some d) {cl:Call} (ho:o.op=.call cl) (hcl:cl.callee=.builtin .copy) {t t':TypeId} {x s:Operand} (hargs:cl.args.toList=[x,s]) (hat:cl.argTypes.toList=[t,t'])
  {sz b:Nat} {z0 z:List ZK} {e ty:TypeId} {xs ys:List Int} {l ver off n g cp cap:Nat} {q:Prop} (hty:c.ty t=some ⟨sz,z0,.slice e (.b .int) b z⟩) (hx:a.eval x=.slice (some ⟨g,off,none⟩) n cp) (hl:own l=⟨ver,.row ty (.b .int) xs⟩)
  (hρ:ρ (pl l)=.slice (some ⟨g,0,none⟩) xs.length cap) (hs:readOf own (evA slots s)=.ok q (.b .int) ys) (hq:q) (hne:0 < ys.length) (hoff:off + n≤xs.length)
  {K:St→Prop} (hK:K ⟨upd slots d (.one (.d (.int .i64 ((min ys.length n:Nat):Int)))),upd own l ⟨ver,.row ty (.b .int) (putL xs off (ys.take n))⟩⟩):Eff P c N F ρ own o a w K Q:=by
 obtain ⟨hu,hes,_⟩:=elem_size (H.cfg.ty _ _ hty)
 obtain ⟨ad,sc,he,hcell⟩:=read_ok H hs hq hne
 have hrow:RowC w F (.b .int) (ys.take n) ((ys.take n).map (Value.int .i64)):=⟨fun v hv=>by obtain ⟨y,_,rfl⟩:=List.mem_map.1 hv;rfl,fun i y hy=>⟨[.int .i64 y],rfl,rfl,fun j u hj=>by
  have hj0:j=0:=by have:=(List.getElem?_eq_some_iff.1 hj).1;simp at this;omega
  subst hj0
  have hj:u=.int .i64 y:=by simpa using hj.symm
  subst hj
  rw [show i * ElK.size (.b .int) + 0=i from Nat.mul_one _,List.getElem?_map,hy];rfl⟩⟩
 have hlen:((ys.take n).map (Value.int .i64)).length=Nat.min ys.length n:=by rw [List.length_map,List.length_take,Nat.min_comm]
 refine eff_put H (fun d' h=>by rw [hdst] at h;injection h with h;subst h;exact hd) (x:=.one (.d (.int .i64 ((min ys.length n:Nat):Int)))) (u:=.int .i64 ((min ys.length n:Nat):Int)) hl hρ (k:=.b .int) (off:=off) (ys:=(ys.take n:List Int)) (us:=(ys.take n).map (Value.int .i64)) (by rw [List.length_take];omega) hrow (by rw [List.length_map];exact (Nat.mul_one _).symm) (fun w' hst=>?_) (fun C hC=>hC _) (by rw [hdst];exact hK)
 have hload:=run_loadCells_list (P:=P) w ad ((ys.take n).map (Value.int .i64)) (fun j v hj=>by
  rw [List.getElem?_map,List.getElem?_take] at hj
  split at hj
  ·exact hcell j v (by rw [List.getElem?_map];exact hj)
  ·cases hj)
 rw [hlen] at hload
 have hat':cl.argTypes=#[t,t']:=arr_of_list hat
 have har':cl.args=#[x,s]:=arr_of_list hargs
 have hst:(storeCells ⟨g,off,none⟩ ((ys.take n).map (Value.int .i64))).run P w=.ok () w':=by
  have:off * ElK.size (.b .int)=off:=Nat.mul_one _
  rwa [this] at hst
 cases hq':P.info? e with
 | none=>rw [hq'] at hes;cases hes
 | some i=>
  have hi:i.size=1:=by rw [hq'] at hes;simpa using hes
  simp [execOp,ho,resolve,hcl,invoke,builtin,Builtin.copy_,hat',har',run_und hu,hx,he,Builtin.lenOf,Builtin.firstCells,sizeOf,typeInfo,hq',hi,hload,-List.map_take,hst,goInt]
theorem slk_cells {G:Nat→Prop} {k:ElK} {ys:List k.T} {v:Value} (hy:SLK w G k ys v) (hne:0 < ys.length) :
  ∃ ad cap news,v=.slice (some ad) ys.length cap∧news.length=ys.length * k.size∧(∀ (j:Nat) u,news[j]?=some u→w.cell? (ad.add j)=some u)∧RowC w G k ys news:=by
 have hk4:=elk_size k
 rcases hy with ⟨_,h0⟩|⟨ad,cap,hxv,hc,hGb,hcell⟩
 ·rw [h0] at hne;simp at hne
 have hfl:∃ us:List (List Value),us.length=ys.length∧(∀ l∈us,l.length=k.size)∧∀ (i:Nat) x u,ys[i]?=some x→us[i]?=some u→Elem w G k x u∧∀ j v,u[j]?=some v→w.cell? (ad.add (i * k.size + j))=some v:=by
  have:∀ n,n≤ys.length→∃ us:List (List Value),us.length=n∧(∀ l∈us,l.length=k.size)∧∀ (i:Nat) x u,i < n→ys[i]?=some x→us[i]?=some u→Elem w G k x u∧∀ j v,u[j]?=some v→w.cell? (ad.add (i * k.size + j))=some v:=by
   intro n
   induction n with
   | zero=>intro _;exact ⟨[],rfl,fun l hl=>by simp at hl,fun i x u hi=>absurd hi (by omega)⟩
   | succ n ih=>
    intro hn
    obtain ⟨us,h1,h2,h3⟩:=ih (by omega)
    obtain ⟨u,g1,g2,g3⟩:=hcell n _ (List.getElem?_eq_getElem (by omega))
    refine ⟨us ++ [u],by simp [h1],fun l hl=>?_,fun i x u' hi hx hu'=>?_⟩
    ·rcases List.mem_append.1 hl with hl|hl
     ·exact h2 l hl
     ·rw [List.mem_singleton.1 hl,g1]
    ·by_cases hin:i < n
     ·rw [List.getElem?_append_left (by omega)] at hu'
      exact h3 i x u' hin hx hu'
     ·have:i=n:=by omega
      subst this
      rw [List.getElem?_append_right (by omega),h1,Nat.sub_self] at hu'
      simp only [List.getElem?_cons_zero,Option.some.injEq] at hu'
      subst hu'
      rw [List.getElem?_eq_getElem (by omega)] at hx
      injection hx with hx
      subst hx
      exact ⟨g2,g3⟩
  obtain ⟨us,h1,h2,h3⟩:=this ys.length (Nat.le_refl _)
  exact ⟨us,h1,h2,fun i x u hx hu=>h3 i x u (List.getElem?_eq_some_iff.1 hx).1 hx hu⟩
 obtain ⟨us,u1,u2,u3⟩:=hfl
 refine ⟨ad,cap,us.flatten,hxv,by rw [flat_len us u2,u1],fun j u hj=>?_,fun v hv=>?_,fun i x hx=>?_⟩
 ·have hjd:j=j / k.size * k.size + j % k.size:=by rw [Nat.mul_comm];exact (Nat.div_add_mod j k.size).symm
  have hm:=Nat.mod_lt j hk4.2
  have hf:=flat_get us (j / k.size) (j % k.size) u2 hm
  rw [← hjd,hj] at hf
  cases hq:us[j / k.size]? with
  | none=>rw [hq] at hf;cases hf
  | some l=>
   rw [hq] at hf
   have hlt:=(List.getElem?_eq_some_iff.1 hq).1
   have:=(u3 (j / k.size) _ l (List.getElem?_eq_getElem (by omega)) hq).2 (j % k.size) u hf.symm
   rwa [← hjd] at this
 ·obtain ⟨l,hl,hv'⟩:=List.mem_flatten.1 hv
  obtain ⟨i,hi⟩:=List.getElem?_of_mem hl
  have hlt:=(List.getElem?_eq_some_iff.1 hi).1
  have:=(u3 i _ l (List.getElem?_eq_getElem (by omega)) hi).1
  exact one_of_cells (elem_enc (ρ:=noRho) (own:=deadOwn) this) v hv'
 ·have hlt:=(List.getElem?_eq_some_iff.1 hx).1
  have hus:us[i]?=some (us[i]'(by omega)):=List.getElem?_eq_getElem (by omega)
  refine ⟨_,u2 _ (List.getElem_mem _),(u3 i x _ hx hus).1,fun j u hj=>?_⟩
  have hjl:=(List.getElem?_eq_some_iff.1 hj).1
  have:=u2 _ (List.getElem_mem (l:=us) (h:=by omega) (n:=i))
  rw [flat_get us i j u2 (by omega),hus]
  exact hj
theorem TailOk.ofRow {ty:TypeId} {size n:Nat} {v:Value} {vs:List Value} (h:w.ownsRow 0 ty size v n vs) (hn:0 < n):TailOk w ty size v n vs:=by
 rcases h.2 with ⟨_,h0⟩|⟨g,cap,cur,hv,_,hh,hc,hm,hs,ht⟩
 ·omega
 ·exact ⟨g,0,cap,cur,hv,hh,hc,hm,fun _=>by rw [hs];omega,by rw [List.drop_zero];exact ht.symm,h.1⟩
theorem RowC.drop {k:ElK} {xs:List k.T} {vs:List Value} (h:RowC w F k xs vs) (n:Nat):RowC w F k (xs.drop n) (vs.drop (n * k.size)):=by
 refine ⟨fun v hv=>h.1 v (List.mem_of_mem_drop hv),fun i x hx=>?_⟩
 rw [List.getElem?_drop] at hx
 obtain ⟨us,h1,h2,h3⟩:=h.2 _ x hx
 refine ⟨us,h1,h2,fun j u hj=>?_⟩
 rw [List.getElem?_drop,← Nat.add_assoc,← Nat.add_mul]
 exact h3 j u hj
theorem next_tail (H:Here P c N F ρ own slots a w) (hN:∀ b,w.heap.size≤b→N b) {d l:Nat} (hd:d < a.tmps.size) (hdst:o.dst=some d) {w':World} {s:Value} {ty:TypeId} {k:ElK} {ys:List k.T} {vs:List Value}
  (hg:w.grownBy w' (if (own l).obj.live then blk (ρ (pl l)) else none))
  (hs:∀ b,blk s=some b→((own l).obj.live=true∧blk (ρ (pl l))=some b)∨(w.heap.size≤b))
  (hw:TailOk w' ty k.size s ys.length vs) (hrow:RowC w' F k ys vs)
  {K:St→Prop} (hK:K ⟨upd slots d (.one (.own l ((own l).ver + 1))),upd own l ⟨(own l).ver + 1,.tail ty k ys⟩⟩):∃ σ' F' ρ',K σ'∧Next' P c N F ρ own a w σ' (a.put o.dst s) w' F' ρ':=by
 have hone:s.oneCell'=true:=by obtain ⟨g,off,cap,cur,rfl,_⟩:=hw;rfl
 have hnF:∀ b,F b→some b≠(if (own l).obj.live then blk (ρ (pl l)) else none):=fun b hb e=>by
  split at e
  ·rename_i hl
   exact (blk_lt H.mem hl (holds_of e.symm)).2.2 hb
  ·cases e
 have hext:Ext w F w' F:=⟨hg.os,hg.tape,hg.output,hg.size,fun b h=>hg.block b (H.mem.fin b h) (hnF b h),fun _ h=>h⟩
 have hC:∀ z v,CellC w F ρ own z v→CellC w' F (upd ρ (pl l) s) (upd own l ⟨(own l).ver + 1,.tail ty k ys⟩) z v:=fun z v h=>
  h.step (l:=l) hext (upd_two own ρ l _ s) (.inl (by rw [upd_eq];exact Nat.lt_succ_self _))
 have hblk:∀ b,blk s=some b→N b∧¬ F b:=fun b hb=>by
  rcases hs b hb with ⟨h1,h2⟩|h
  ·exact (blk_lt H.mem h1 (holds_of h2)).2
  ·exact ⟨hN b h,fun hf=>by have:=H.mem.fin b hf;omega⟩
 refine ⟨_,F,upd ρ (pl l) s,hK,⟨H.cfg,?_,?_⟩,hext,fun b h hn=>hg.block b h (fun e=>?_),fun b h=>.inl h,?_,?_,ver_two own l _,keep_two own ρ l _ s⟩
 ·rw [hdst]
  refine slots_put hC H.sl hd ?_
  show CellC w' F _ _ (.own l _) s
  exact ⟨hone,by rw [upd_eq];exact Nat.le_refl _,fun _=>(upd_eq _ _ _).symm⟩
 ·refine H.mem.step (l:=l) hext (upd_two own ρ l _ s) (inn_two ρ l s) hC (fun l' b hne hl' hb hlt hn=>⟨hg.block b hlt (fun e=>?_),hn⟩) ?_ (fun l' b hne hl' e1 e2=>?_) (fun b h=>Nat.lt_of_lt_of_le (H.mem.fin b h) hg.size)
  ·split at e
   ·rename_i hl
    exact H.mem.apart l l' b (Ne.symm hne) hl hl' (holds_of e.symm) hb
   ·cases e
  ·show OwnOk _ N F _ _ l (upd own l _ l).obj
   rw [upd_eq]
   refine ⟨vs,by rw [upd_eq];exact hw,hrow,fun b hb=>hblk b (by rwa [upd_eq] at hb)⟩
  ·simp only [upd_eq,holds] at e1
   rcases hs b e1 with ⟨h1,h2⟩|h
   ·exact H.mem.apart l l' b (Ne.symm hne) h1 hl' (holds_of h2) e2
   ·have:=(blk_lt H.mem hl' e2).1
    omega
 ·split at e
  ·rename_i hl
   exact hn (blk_lt H.mem hl (holds_of e.symm)).2.1
  ·cases e
 ·rw [hdst];exact put_size _ _ _
 ·rw [hdst];exact put_defers' _ _ _
theorem e_tail (H:Here P c N F ρ own slots a w) (hN:∀ b,w.heap.size≤b→N b) {d l ver:Nat} (hd:d < a.tmps.size) (hdst:o.dst=some d) {t:TypeId} {x lo:Operand} (ho:o.op=.slice t x (some lo) none none)
  {sz b:Nat} {z0 z:List ZK} {e ty:TypeId} {k k':ElK} {xs:List k.T} {ki:IntKind} {h:Int} {vs:List Value} (hty:c.ty t=some ⟨sz,z0,.slice e k' b z⟩) (hk:k'=k) (he:a.eval x=ρ (pl l)) (hh:evA slots lo=.one (.d (.int ki h)))
  (hver:(own l).ver=ver) (hlive:(own l).obj.live=true) (hw:TailOk w ty k.size (ρ (pl l)) xs.length vs) (hrow:RowC w F k xs vs) (h0:0≤h) (h1:h≤(xs.length:Int))
  {K:St→Prop} (hK:K ⟨upd slots d (.one (.own l (ver + 1))),upd own l ⟨ver + 1,.tail ty k (xs.drop h.toNat)⟩⟩):Eff P c N F ρ own o a w K Q:=by
 subst hk
 obtain ⟨hu,hes,_⟩:=elem_size (H.cfg.ty _ _ hty)
 have hw':=hw
 obtain ⟨g,off,cap,cur,hs,hg,hnc,hcm,hcs,hvs,hvl⟩:=hw
 rw [hs] at he
 have hr:=run_sliceB t e hu _ hes (some ⟨g,off,none⟩) xs.length cap hnc (some (.int ki h)) none h xs.length (.inr ⟨ki,rfl⟩) (.inl ⟨rfl,rfl⟩) h0 h1 (Int.le_refl _) w
 generalize hof:(if cap=h.toNat then off else off + h.toNat * k'.size)=off'
 have e1:(if cap=h.toNat then some (⟨g,off,none⟩:Addr) else (some (⟨g,off,none⟩:Addr)).map (·.add (h.toNat * k'.size)))=some ⟨g,off',none⟩:=by
  rw [← hof]
  split
  ·rfl
  ·simp [add_lit']
 rw [e1] at hr
 have hdl:(xs.drop h.toNat).length=xs.length - h.toNat:=List.length_drop
 unfold Eff Oper.wp
 rw [show (execOp a.eval o).run P w=.ok (.value (.slice (some ⟨g,off',none⟩) (xs.length - h.toNat) (cap - h.toNat))) w by
  simp [execOp,ho,he,H.int hh]
  simp at hr
  rw [hr]
  rfl]
 refine next_tail H hN (l:=l) hd hdst (w':=w) (s:=.slice (some ⟨g,off',none⟩) (xs.length - h.toNat) (cap - h.toNat)) (vs:=vs.drop (h.toNat * k'.size)) (World.grownBy.refl w _) (fun b hb=>.inl ⟨hlive,?_⟩) ?_ (hrow.drop _) (by rw [hver];exact hK)
 ·rw [hs];simpa [blk] using hb
 ·rw [hdl]
  refine ⟨g,off',cap - h.toNat,cur,rfl,hg,by omega,by omega,fun hc=>?_,?_,by rw [List.length_drop,hvl,Nat.sub_mul]⟩
  ·rw [hcs (by omega),← hof,if_neg (by omega),Nat.sub_mul]
   have:h.toNat * k'.size≤cap * k'.size:=Nat.mul_le_mul_right _ (by omega)
   omega
  ·rw [hvs,List.drop_take,List.drop_drop,← Nat.sub_mul,← hof]
   by_cases hc:cap=h.toNat
   ·rw [show xs.length - h.toNat=0 by omega,Nat.zero_mul,List.take_zero,List.take_zero]
   ·rw [if_neg hc]
theorem run_append_room_off (t ty e:TypeId) (i:TypeInfo) (ht:P.underlying t=some (.slice e)) (hi:P.info? e=some i)
  (g off sLen sCap:Nat) (cur:Array Value) (hg:w.heap[g]?=some (.cells cur e (0,0)))
  (a:Addr) (m c:Nat) (news:List Value) (hl:news.length=m * i.size) (hnews:∀ j u,news[j]?=some u→w.cell? (a.add j)=some u) (h1:∀ u∈news,u.oneCell'=true)
  (hroom:sLen + m≤sCap) (hfit:off + sLen * i.size + news.length≤cur.size) :
  (Builtin.append_ #[t,t] ty #[.slice (some ⟨g,off,none⟩) sLen sCap,.slice (some a) m c]).run P w =
   .ok (.slice (some ⟨g,off,none⟩) (sLen + m) sCap) (w.setRow g (cur.toList.take (off + sLen * i.size) ++ news ++ cur.toList.drop (off + sLen * i.size + news.length)).toArray):=by
 have hf:=run_firstCells_some (P:=P) w i.size m a m c news hl hnews
 have hst:=run_storeCells_at P g (off + sLen * i.size) e news 0 cur w hg (by simpa using hfit) h1
 simp only [Nat.add_zero] at hst
 simp [Builtin.append_,run_underlying ht,sizeOf,typeInfo,hi,Builtin.lenOf,hroom,hf,add_lit',hst]
theorem grown_row (t:TypeId) (e:TypeId) {i:TypeInfo} {z:Value} {size:Nat} (hsize:i.size=size) (hzs:z.cells.size=size) (n m old:Nat) (olds news:List Value) (hlo:olds.length=n * size) (hl:news.length=m * size) (ho:old < n + m) (h63:n + m≤maxLen) (w:World) :
  (w.drew.alloc (.cells (olds.toArray ++ news.toArray ++ Builtin.zeroCells z.cells (grownCap w (n + m) old e - (n + m))) e)).ownsRow 0 e size (.slice (some ⟨w.heap.size,0,none⟩) (n + m) (grownCap w (n + m) old e)) (n + m) (olds ++ news) ∧
  ∀ row,w.grownBy (w.drew.alloc (.cells (olds.toArray ++ news.toArray ++ Builtin.zeroCells z.cells (grownCap w (n + m) old e - (n + m))) e)) row:=by
 subst hsize
 have hge:=grownCap_ge w (n + m) old e
 have hcm:grownCap w (n + m) old e≤maxLen:=grownCap_le_maxLen w (n + m) old e h63
 have hlen:(olds ++ news).length=(n + m) * i.size:=by rw [List.length_append,hlo,hl,Nat.add_mul]
 refine ⟨⟨hlen,.inr ⟨w.heap.size,_,_,rfl,Nat.zero_le _,heap_alloc_new w.drew _,hge,hcm,?_,?_⟩⟩,fun row=>⟨rfl,rfl,rfl,by simp,fun k hk _=>heap_alloc_old w.drew _ hk⟩⟩
 ·simp only [Array.size_append,List.size_toArray,size_zeroCells,hzs,hlo,hl,← Nat.add_mul]
  congr 1
  omega
 ·simp only [Array.toList_append,List.append_assoc]
  rw [← List.append_assoc,← hlen]
  exact List.take_left
theorem e_apptail (H:Here P c N F ρ own slots a w) (hN:∀ b,w.heap.size≤b→N b) {d l:Nat} (hd:d < a.tmps.size) (hdst:o.dst=some d) {cl:Call} (ho:o.op=.call cl) (hcl:cl.callee=.builtin .append) {t:TypeId} {s x:Operand} (hargs:cl.args.toList=[s,x]) (hat:cl.argTypes.toList=[t,t])
  {sz b:Nat} {z0 z:List ZK} {e:TypeId} {k:ElK} {xs ys:List k.T} {vs:List Value} (hty:c.ty t=some ⟨sz,z0,.slice e k b z⟩)
  (he:a.eval s=ρ (pl l)) (hw:TailOk w e k.size (ρ (pl l)) xs.length vs) (hrow:RowC w F k xs vs) (hlive:(own l).obj.live=true)
  {G:Nat→Prop} (hy:SLK w G k ys (a.eval x)) (hyb:k.base=true∨∀ n,G n→F n) (hne:0 < ys.length) (hlen:xs.length + ys.length≤1073741824) (hb:b≤4096)
  {K:St→Prop} (hK:K ⟨upd slots d (.one (.own l ((own l).ver + 1))),upd own l ⟨(own l).ver + 1,.tail e k (xs ++ ys)⟩⟩):Eff P c N F ρ own o a w K Q:=by
 obtain ⟨hu,hes,_,zv,hzr,hzc,hzs,ie,hie,hiz,hisz,hib⟩:=elem_size (H.cfg.ty _ _ hty)
 have hk4:=elk_size k
 have hbytes:(xs.length + ys.length) * b≤140737488355328:=by
  have:(xs.length + ys.length) * b≤1073741824 * 4096:=Nat.mul_le_mul hlen hb
  omega
 obtain ⟨ad,cy,news,hxv,hnl,hnews,hrowY⟩:=slk_cells hy hne
 have hw0:=hw
 obtain ⟨g,off,cap,cur,hs,hg,hnc,hcm,hcs,hvs,hvl⟩:=hw
 have hbl:blk (ρ (pl l))=some g:=by rw [hs];rfl
 obtain ⟨hlt,hNg,hFg⟩:=blk_lt H.mem hlive (holds_of hbl)
 have hexec:∀ {r:Value} {w':World},(Builtin.append_ #[t,t] o.type #[a.eval s,a.eval x]).run P w=.ok r w'→(execOp a.eval o).run P w=.ok (.value r) w':=by
  intro r w' hr
  simp [execOp,ho,resolve,hcl,invoke,builtin,arr_of_list hargs,arr_of_list hat,hr]
 have hl2:(xs ++ ys).length=xs.length + ys.length:=List.length_append
 have hrowY':RowC w F k ys news:=by
  rcases hyb with hyb|hyb
  ·refine ⟨hrowY.1,fun i x hx=>?_⟩
   obtain ⟨us',e1,e2,e3⟩:=hrowY.2 i x hx
   refine ⟨us',e1,?_,e3⟩
   cases k with
   | b e=>exact e2
   | s e=>cases hyb
  ·exact hrowY.mono (ext_sub hyb)
 have hrowA:=hrow.append hrowY' hvl
 unfold Eff Oper.wp
 by_cases hroom:xs.length + ys.length≤cap
 ·have hfit:off + xs.length * k.size + news.length≤cur.size:=by
   rw [hnl,hcs (by omega),Nat.add_assoc,← Nat.add_mul]
   exact Nat.add_le_add_left (Nat.mul_le_mul_right _ hroom) _
  have hr:=run_append_room_off (P:=P) (w:=w) t o.type e ie hu hie g off xs.length cap cur hg ad ys.length cy news (by rw [hisz];exact hnl) hnews hrowY.1 hroom (by rw [hisz];exact hfit)
  rw [hexec (by rw [he,hs,hxv];exact hr)]
  rw [hisz]
  have hgr:w.grownBy (w.setRow g (cur.toList.take (off + xs.length * k.size) ++ news ++ cur.toList.drop (off + xs.length * k.size + news.length)).toArray) (some g):=⟨rfl,rfl,rfl,by simp,fun n _ hn=>setRow_other w g n _ (fun e=>hn (by rw [e]))⟩
  have hext:Ext w F (w.setRow g (cur.toList.take (off + xs.length * k.size) ++ news ++ cur.toList.drop (off + xs.length * k.size + news.length)).toArray) F:=⟨rfl,rfl,rfl,hgr.size,fun n h=>hgr.block n (H.mem.fin n h) (fun e=>hFg (by injection e with e;rw [← e];exact h)),fun _ h=>h⟩
  refine next_tail H hN (l:=l) hd hdst (s:=.slice (some ⟨g,off,none⟩) (xs.length + ys.length) cap) (vs:=vs ++ news) (by rw [if_pos hlive,hbl];exact hgr) (fun b hb=>.inl ⟨hlive,by rw [hbl];simpa [blk] using hb⟩) ?_ (hrowA.mono hext) hK
  rw [hl2]
  refine ⟨g,off,cap,_,rfl,setRow_heap w g cur _ e _ hg,hroom,hcm,fun hc=>?_,?_,by rw [List.length_append,hvl,hnl,Nat.add_mul]⟩
  ·rw [← hcs hc]
   simp only [List.size_toArray,List.length_append,List.length_take,List.length_drop,Array.length_toList]
   omega
  ·have hcl':off + xs.length * k.size≤cur.toList.length:=by have:cur.toList.length=cur.size:=Array.length_toList;omega
   have hA:(cur.toList.take (off + xs.length * k.size)).drop off=vs:=by rw [List.drop_take,Nat.add_sub_cancel_left,← hvs]
   simp only
   rw [List.append_assoc,List.drop_append_of_le_length (by rw [List.length_take];omega),hA,← List.append_assoc,List.take_left' (by rw [List.length_append,hvl,hnl,Nat.add_mul])]
 ·have hr:=run_append_grow (P:=P) w t o.type e ie zv hu hie hiz ⟨g,off,none⟩ xs.length cap vs (by rw [hisz];exact hvl) (fun j u hj=>by rw [add_lit'];exact hw0.cell hs j u hj) ad ys.length cy news (by rw [hisz];exact hnl) hnews (by omega) (by omega) (growslice_fits (by omega) (by rw [hib];exact hbytes))
  rw [hexec (by rw [he,hs,hxv];exact hr)]
  obtain ⟨q1,q2⟩:=grown_row t e (i:=ie) hisz hzs xs.length ys.length cap vs news hvl hnl (by omega) (by unfold maxLen;omega) w
  generalize w.drew.alloc (.cells (vs.toArray ++ news.toArray ++ Builtin.zeroCells zv.cells (grownCap w (xs.length + ys.length) cap e - (xs.length + ys.length))) e)=w' at *
  have hgr:=q2 (some g)
  have hext:Ext w F w' F:=⟨hgr.os,hgr.tape,hgr.output,hgr.size,fun n h=>hgr.block n (H.mem.fin n h) (fun e=>hFg (by injection e with e;rw [← e];exact h)),fun _ h=>h⟩
  refine next_tail H hN (l:=l) hd hdst (vs:=vs ++ news) (by rw [if_pos hlive,hbl];exact hgr) (fun b hb=>.inr ?_) ?_ (hrowA.mono hext) hK
  ·simp only [blk,Option.some.injEq] at hb;omega
  ·rw [hl2];exact TailOk.ofRow q1 (by omega)
theorem e_appfull (H:Here P c N F ρ own slots a w) (hN:∀ b,w.heap.size≤b→N b) {d:Nat} (hd:d < a.tmps.size) (hdst:o.dst=some d) {cl:Call} (ho:o.op=.call cl) (hcl:cl.callee=.builtin .append) {t:TypeId} {s x:Operand} (hargs:cl.args.toList=[s,x]) (hat:cl.argTypes.toList=[t,t])
  {sz b:Nat} {z0 z:List ZK} {e:TypeId} {k:ElK} {xs ys:List k.T} (hty:c.ty t=some ⟨sz,z0,.slice e k b z⟩)
  (hs:SLK w F k xs (a.eval s)) (hfull:∃ pa n,a.eval s=.slice pa n n)
  {G:Nat→Prop} (hy:SLK w G k ys (a.eval x)) (hyb:k.base=true∨∀ n,G n→F n) (hne:0 < ys.length) (hlen:xs.length + ys.length≤1073741824) (hb:b≤4096)
  {K:St→Prop} (hK:K ⟨upd slots d (.one (.own d ((own d).ver + 1))),upd own d ⟨(own d).ver + 1,.row e k (xs ++ ys)⟩⟩):Eff P c N F ρ own o a w K Q:=by
 obtain ⟨hu,hes,_,zv,hzr,hzc,hzs,ie,hie,hiz,hisz,hib⟩:=elem_size (H.cfg.ty _ _ hty)
 have hk4:=elk_size k
 have hbytes:(xs.length + ys.length) * b≤140737488355328:=by
  have:(xs.length + ys.length) * b≤1073741824 * 4096:=Nat.mul_le_mul hlen hb
  omega
 obtain ⟨ad,cy,news,hxv,hnl,hnews,hrowY⟩:=slk_cells hy hne
 have hexec:∀ {r:Value} {w':World},(Builtin.append_ #[t,t] o.type #[a.eval s,a.eval x]).run P w=.ok r w'→(execOp a.eval o).run P w=.ok (.value r) w':=by
  intro r w' hr
  simp [execOp,ho,resolve,hcl,invoke,builtin,arr_of_list hargs,arr_of_list hat,hr]
 have hl2:(xs ++ ys).length=xs.length + ys.length:=List.length_append
 have hrowY':RowC w F k ys news:=by
  rcases hyb with hyb|hyb
  ·refine ⟨hrowY.1,fun i x hx=>?_⟩
   obtain ⟨us',e1,e2,e3⟩:=hrowY.2 i x hx
   refine ⟨us',e1,?_,e3⟩
   cases k with
   | b e=>exact e2
   | s e=>cases hyb
  ·exact hrowY.mono (ext_sub hyb)
 have key:∃ olds old,olds.length=xs.length * k.size∧RowC w F k xs olds∧old < xs.length + ys.length∧(Builtin.append_ #[t,t] o.type #[a.eval s,a.eval x]).run P w=.ok (.slice (some ⟨w.heap.size,0,none⟩) (xs.length + ys.length) (grownCap w (xs.length + ys.length) old e))
   (w.drew.alloc (.cells (olds.toArray ++ news.toArray ++ Builtin.zeroCells zv.cells (grownCap w (xs.length + ys.length) old e - (xs.length + ys.length))) e)):=by
  obtain ⟨pa,n,hsv⟩:=hfull
  rcases Nat.eq_zero_or_pos xs.length with h0|h0
  ·have hx0:xs=[]:=List.eq_nil_of_length_eq_zero h0
   subst hx0
   refine ⟨[],0,by simp,⟨fun v hv=>by simp at hv,fun i x hx=>by simp at hx⟩,by simpa using hne,?_⟩
   rcases hs with ⟨hv,_⟩|⟨ad0,cap0,hv,_⟩
   ·have hr:=run_append_nil (P:=P) w t o.type e ie zv hu hie hiz ad ys.length cy news (by rw [hisz];exact hnl) hnews hne (by simp at hlen;omega) (by rw [hib];simp at hbytes;omega)
    rw [hv,hxv,hr]
    simp
   ·rw [hv] at hsv
    injection hsv with e1 e2 e3
    have hc0:cap0=0:=by rw [e3,← e2];rfl
    subst hc0
    have hr:=run_append_grow (P:=P) w t o.type e ie zv hu hie hiz ad0 0 0 [] (by simp) (fun j u hj=>by simp at hj) ad ys.length cy news (by rw [hisz];exact hnl) hnews (by omega) (by simp at hlen;omega) (growslice_fits (by omega) (by rw [hib];simpa using hbytes))
    rw [hv,hxv]
    exact hr
  ·obtain ⟨ad0,cap0,olds,hv,hol,holds,hrowX⟩:=slk_cells hs h0
   rw [hv] at hsv
   injection hsv with e1 e2 e3
   have hc0:cap0=xs.length:=by rw [e3,← e2]
   subst hc0
   have hr:=run_append_grow (P:=P) w t o.type e ie zv hu hie hiz ad0 xs.length xs.length olds (by rw [hisz];exact hol) holds ad ys.length cy news (by rw [hisz];exact hnl) hnews (by omega) (by omega) (growslice_fits (by omega) (by rw [hib];exact hbytes))
   exact ⟨olds,xs.length,hol,hrowX,by omega,by rw [hv,hxv];exact hr⟩
 obtain ⟨olds,old,hol,hrowX,hold,hr⟩:=key
 obtain ⟨q1,q2⟩:=grown_row t e (i:=ie) hisz hzs xs.length ys.length old olds news hol hnl hold (by unfold maxLen;omega) w
 have hrun:=hexec hr
 generalize w.drew.alloc (.cells (olds.toArray ++ news.toArray ++ Builtin.zeroCells zv.cells (grownCap w (xs.length + ys.length) old e - (xs.length + ys.length))) e)=w' at *
 have hgr:=q2 none
 have hext:Ext w F w' F:=⟨hgr.os,hgr.tape,hgr.output,hgr.size,fun n h=>hgr.block n (H.mem.fin n h) (fun e=>by cases e),fun _ h=>h⟩
 exact eff_row H hN (l:=d) hd hdst hrun rfl (q2 _) (fun b hb=>.inr (by simp only [blk,Option.some.injEq] at hb;omega)) (by rw [hl2];exact q1) ((hrowX.append hrowY' hol).mono hext) hK
end
theorem CellC.kill {w:World} {F:Nat→Prop} {ρ:Nat→Value} {own:Nat→Loc} (D:Nat→Bool) {x:Cell} {v:Value} (h:CellC w F ρ own x v):CellC w F ρ (killW D own) x v:=by
 cases x with
 | d x=>exact h
 | own l ver=>
  obtain ⟨h1,h2,h3⟩:=h
  refine ⟨h1,by rw [killW_ver];exact h2,?_⟩
  rintro ⟨e,hx⟩
  rcases killW_obj D own l with hk|hk
  ·rw [hk] at hx;exact hx.elim
  ·rw [hk] at e hx;exact h3 ⟨e,hx⟩
 | ptr l ver i j=>
  obtain ⟨h1,h2,h3⟩:=h
  refine ⟨h1,by rw [killW_ver];exact h2,fun e=>?_⟩
  rcases killW_obj D own l with hk|hk
  ·rw [hk];trivial
  ·rw [hk] at e ⊢;exact h3 e
 | sub l ver off n=>
  obtain ⟨h1,h2,h3⟩:=h
  refine ⟨h1,by rw [killW_ver];exact h2,fun e=>?_⟩
  rcases killW_obj D own l with hk|hk
  ·rw [hk];exact ⟨fun _ _ _ hx=>(by cases hx),fun _ _ _ _ _ _ hx=>(by cases hx)⟩
  ·rw [hk] at e ⊢;exact h3 e
theorem Mem.kill {w:World} {N F:Nat→Prop} {ρ:Nat→Value} {own:Nat→Loc} (D:Nat→Bool) (m:Mem w N F ρ own):Mem w N F ρ (killW D own):=by
 have live:∀ l,(killW D own l).obj.live=true→(own l).obj.live=true:=fun l h=>by
  rcases killW_obj D own l with hk|hk
  ·rw [hk] at h;cases h
  ·rw [hk] at h;exact h
 have hol:∀ l b,(killW D own l).obj.live=true→holds ρ l (killW D own l).obj b→holds ρ l (own l).obj b:=fun l b h hh=>by
  rcases killW_obj D own l with hk|hk
  ·rw [hk] at h;cases h
  ·rw [hk] at hh;exact hh
 refine ⟨fun l=>?_,fun l l' b hne h1 h2 b1 b2=>m.apart l l' b hne (live l h1) (live l' h2) (hol l b h1 b1) (hol l' b h2 b2),m.fin⟩
 rcases killW_obj D own l with hk|hk
 ·rw [hk];trivial
 ·rw [hk]
  have:=m.ok l
  generalize (own l).obj=ob at this
  cases ob with
  | dead=>trivial
  | box ty cs=>obtain ⟨b,vs,h1,h2,h3,h4⟩:=this;exact ⟨b,vs,h1,h2,h3.imp fun c v _ h=>h.kill D,h4⟩
  | row ty k xs=>exact this
  | tail ty k xs=>exact this
  | deep ty ety el xs g=>exact this
section
variable {P : Program} {c : Cfg} {w : World} {N F : Nat → Prop} {ρ : Nat → Value} {own : Nat → Loc} {slots : Nat → AV} {a : Act} {Q : Exit → Act → World → Prop} {o : Oper} {p : Prop} {y : AV}
theorem kill1 (own:Nat→Loc) (l:Nat):upd own l ⟨(own l).ver,.dead⟩=killW (fun n=>Nat.beq n l) own:=by
 funext n
 unfold upd killW
 cases h:Nat.beq n l
 ·simp only [h,cond_false]
 ·simp only [h,cond_true]
  rw [Nat.eq_of_beq_eq_true h]
theorem Here.kill1 (H:Here P c N F ρ own slots a w) (l:Nat):Here P c N F ρ (upd own l ⟨(own l).ver,.dead⟩) slots a w:=by
 rw [Go.Proofs.YtpafacebfogkmaaGreat.kill1]
 exact ⟨H.cfg,fun t=>AVG.imp (fun z v h=>h.kill _) (H.sl t),H.mem.kill _⟩
theorem Next'.base {own1:Nat→Loc} {σ':St} {a':Act} {w':World} {F':Nat→Prop} {ρ':Nat→Value} (hv:∀ l,(own1 l).ver=(own l).ver) (h:Next' P c N F ρ own1 a w σ' a' w' F' ρ'):Next' P c N F ρ own a w σ' a' w' F' ρ':=
 ⟨h.here,h.ext,h.fr,h.new,h.size,h.defers,fun l=>by rw [← hv];exact h.mono l,fun l hl=>h.keep l (by rw [hv];exact hl)⟩
theorem Eff.base {own1:Nat→Loc} {K:St→Prop} (hv:∀ l,(own1 l).ver=(own l).ver) (h:Eff P c N F ρ own1 o a w K Q):Eff P c N F ρ own o a w K Q:=
 Oper.wp_mono (fun a' w' h=>let ⟨σ',F',ρ',hK,hn⟩:=h;⟨σ',F',ρ',hK,hn.base hv⟩) h
theorem CellC.gone {l ver:Nat} {ty ety:TypeId} {e:ElB} {xs:List (List e.T)} {g g':Nat→Bool} (hl:own l=⟨ver,.deep ty ety e xs g⟩) (hg:∀ i,g' i=false→g i=false) {x:Cell} {v:Value} (h:CellC w F ρ own x v) :
  CellC w F ρ (upd own l ⟨ver,.deep ty ety e xs g'⟩) x v:=by
 have hver:∀ m,(upd own l ⟨ver,.deep ty ety e xs g'⟩ m).ver=(own m).ver:=fun m=>by
  rw [upd_get];split
  ·rename_i e;rw [e,hl]
  ·rfl
 cases x with
 | d x=>exact h
 | own m ver'=>
  obtain ⟨h1,h2,h3⟩:=h
  refine ⟨h1,by rw [hver];exact h2,fun hv=>h3 ⟨by rw [← hver];exact hv.1,?_⟩⟩
  by_cases hm:m=l
  ·subst hm;rw [hl];trivial
  ·have:=hv.2;rw [upd_ne _ _ hm] at this;exact this
 | ptr m ver' i j=>
  obtain ⟨h1,h2,h3⟩:=h
  refine ⟨h1,by rw [hver];exact h2,fun hv=>?_⟩
  have h3:=h3 (by rw [← hver];exact hv)
  by_cases hm:m=l
  ·subst hm
   rw [upd_eq]
   rw [hl] at h3
   cases j with
   | zero=>exact h3
   | succ j=>exact fun x hx hgi=>h3 x hx ⟨hg _ hgi.1,hg _ hgi.2⟩
  ·rw [upd_ne _ _ hm];exact h3
 | sub m ver' off n=>
  obtain ⟨h1,h2,h3⟩:=h
  refine ⟨h1,by rw [hver];exact h2,fun hv=>?_⟩
  have h3:=h3 (by rw [← hver];exact hv)
  by_cases hm:m=l
  ·subst hm
   rw [upd_eq]
   rw [hl] at h3
   refine ⟨fun ty k xs hob=>(by cases hob),fun ty0 ety0 e0 xs0 g0 x0 hob hx hgi=>?_⟩
   injection hob with q1 q2 q3 q4 q5
   subst q1 q2 q3
   have q4:=eq_of_heq q4
   subst q4 q5
   exact h3.2 _ _ _ _ _ _ rfl hx ⟨hg _ hgi.1,hg _ hgi.2⟩
  ·rw [upd_ne _ _ hm];exact h3
theorem Here.gone (H:Here P c N F ρ own slots a w) {l ver:Nat} {ty ety:TypeId} {e:ElB} {xs:List (List e.T)} {g g':Nat→Bool} (hl:own l=⟨ver,.deep ty ety e xs g⟩) (hg:∀ i,g' i=false→g i=false) :
  Here P c N F ρ (upd own l ⟨ver,.deep ty ety e xs g'⟩) slots a w:=by
 have hh:∀ m b,holds ρ m (upd own l ⟨ver,.deep ty ety e xs g'⟩ m).obj b→holds ρ m (own m).obj b:=fun m b h=>by
  by_cases hm:m=l
  ·subst hm
   rw [upd_eq] at h
   rw [hl]
   rcases h with h|⟨i,x,hx,hgi,h⟩
   ·exact .inl h
   ·exact .inr ⟨i,x,hx,hg i hgi,h⟩
  ·rw [upd_ne _ _ hm] at h;exact h
 have live:∀ m,(upd own l ⟨ver,.deep ty ety e xs g'⟩ m).obj.live=true→(own m).obj.live=true:=fun m h=>by
  by_cases hm:m=l
  ·subst hm;rw [hl];rfl
  ·rw [upd_ne _ _ hm] at h;exact h
 refine ⟨H.cfg,fun t=>AVG.imp (fun z v h=>h.gone hl hg) (H.sl t),fun m=>?_,fun m m' b hne h1 h2 e1 e2=>H.mem.apart m m' b hne (live m h1) (live m' h2) (hh m b e1) (hh m' b e2),H.mem.fin⟩
 have hok:=H.mem.ok m
 by_cases hm:m=l
 ·subst hm
  rw [upd_eq]
  rw [hl] at hok
  obtain ⟨vs,hw,h1,hn,hin⟩:=hok
  refine ⟨vs,hw,h1,hn,fun i x hx hgi=>?_⟩
  obtain ⟨q1,q2,q3⟩:=hin i x hx (hg i hgi)
  exact ⟨q1,q2,fun b hb=>⟨(q3 b hb).1,(q3 b hb).2.1,(q3 b hb).2.2.1,fun j y hj hy hgj=>(q3 b hb).2.2.2 j y hj hy (hg j hgj)⟩⟩
 ·rw [upd_ne _ _ hm]
  generalize (own m).obj=ob at hok
  cases ob with
  | box ty cs=>obtain ⟨b,vs,h1,h2,h3,h4⟩:=hok;exact ⟨b,vs,h1,h2,h3.imp fun c v _ h=>h.gone hl hg,h4⟩
  | dead=>trivial
  | row ty k xs=>exact hok
  | tail ty k xs=>exact hok
  | deep ty ety el xs g=>exact hok
noncomputable def setD (ρ:Nat→Value) (l:Nat) (s:Value) (inner:Nat→Value):Nat→Value:=
 open Classical in fun n=>if n=pl l then s else if h:∃ i,n=inn l i then inner h.choose else ρ n
theorem setD_pl (ρ:Nat→Value) (l:Nat) (s:Value) (inner:Nat→Value):setD ρ l s inner (pl l)=s:=by simp [setD]
theorem setD_inn (ρ:Nat→Value) (l:Nat) (s:Value) (inner:Nat→Value) (i:Nat):setD ρ l s inner (inn l i)=inner i:=by
 have h:∃ j,inn l i=inn l j:=⟨i,rfl⟩
 unfold setD
 rw [if_neg (inn_pl l i l),dif_pos h,← (inn_inj h.choose_spec).2]
theorem setD_ple (ρ:Nat→Value) (l:Nat) (s:Value) (inner:Nat→Value) {m:Nat} (h:m≠l):setD ρ l s inner (pl m)=ρ (pl m):=by
 unfold setD
 rw [if_neg (pl_ne h),dif_neg (fun ⟨i,e⟩=>inn_pl l i m e.symm)]
theorem setD_inne (ρ:Nat→Value) (l:Nat) (s:Value) (inner:Nat→Value) {m:Nat} (i:Nat) (h:m≠l):setD ρ l s inner (inn m i)=ρ (inn m i):=by
 unfold setD
 rw [if_neg (inn_pl m i l),dif_neg (fun ⟨j,e⟩=>h (inn_inj e).1)]
theorem rowCb {w w':World} {F G:Nat→Prop} {e:ElB} {x:List e.T} {us:List Value} (h:RowC w F (.b e) x us):RowC w' G (.b e) x us:=h
theorem next_deep (H:Here P c N F ρ own slots a w) {d l:Nat} (hd:d < a.tmps.size) (hdst:o.dst=some d) {w':World} {F':Nat→Prop} {s u:Value} {inner:Nat→Value} {ty ety:TypeId} {e:ElB} {xs:List (List e.T)} {x:AV}
  (hos:w'.os=w.os) (htape:w'.tape=w.tape) (hout:w'.output=w.output) (hsz:w.heap.size≤w'.heap.size)
  (hoth:∀ b,b < w.heap.size→¬ ((own l).obj.live=true∧holds ρ l (own l).obj b)→w'.heap[b]?=w.heap[b]?)
  (hFF:∀ b,F b→F' b) (hF':∀ b,F' b→F b∨(w.heap.size≤b∧b < w'.heap.size)) (hN:∀ b,w.heap.size≤b→N b)
  (hdeep:DeepAt w' (fun b=>N b∧¬ F' b) (fun _=>False) ty ety e xs s inner)
  (hap:∀ b,(blk s=some b∨∃ i x,xs[i]?=some x∧blk (inner i)=some b)→∀ l',l'≠l→(own l').obj.live=true→¬ holds ρ l' (own l').obj b)
  (hx:∀ ρ' own',ρ' (pl l)=s→own' l=⟨(own l).ver + 1,.deep ty ety e xs noG⟩→(∀ z v,CellC w F ρ own z v→CellC w' F' ρ' own' z v)→AVC w' F' ρ' own' x u)
  {K:St→Prop} (hK:K ⟨upd slots d x,upd own l ⟨(own l).ver + 1,.deep ty ety e xs noG⟩⟩):∃ σ' F' ρ',K σ'∧Next' P c N F ρ own a w σ' (a.put o.dst u) w' F' ρ':=by
 have hext:Ext w F w' F':=⟨hos,htape,hout,hsz,fun b hb=>hoth b (H.mem.fin b hb) (fun h=>(blk_lt H.mem h.1 h.2).2.2 hb),hFF⟩
 have ho:∀ l',l'≠l→upd own l ⟨(own l).ver + 1,.deep ty ety e xs noG⟩ l'=own l'∧setD ρ l s inner (pl l')=ρ (pl l'):=fun l' h=>⟨upd_ne _ _ h,setD_ple _ _ _ _ h⟩
 have hi:∀ l',l'≠l→∀ i,setD ρ l s inner (inn l' i)=ρ (inn l' i):=fun l' h i=>setD_inne _ _ _ _ i h
 have hC:∀ z v,CellC w F ρ own z v→CellC w' F' (setD ρ l s inner) (upd own l ⟨(own l).ver + 1,.deep ty ety e xs noG⟩) z v:=fun z v h=>
  h.step (l:=l) hext ho (.inl (by rw [upd_eq];exact Nat.lt_succ_self _)) hi
 obtain ⟨vs,hw,h1,hn,hin⟩:=hdeep
 refine ⟨_,F',setD ρ l s inner,hK,⟨H.cfg,?_,?_⟩,hext,fun b hb hnb=>hoth b hb (fun h=>hnb (blk_lt H.mem h.1 h.2).2.1),fun b hb=>(hF' b hb).imp id (fun h=>hN b h.1),?_,?_,ver_two own l _,fun m hm=>?_⟩
 ·rw [hdst]
  exact slots_put hC H.sl hd (hx _ _ (setD_pl _ _ _ _) (upd_eq _ _ _) hC)
 ·refine H.mem.step (l:=l) hext ho hi hC (fun l' b hne hl' hb hlt hnF=>⟨hoth b hlt (fun h=>H.mem.apart l l' b (Ne.symm hne) h.1 hl' h.2 hb),fun hf=>?_⟩) ?_ (fun l' b hne hl' e1 e2=>?_) (fun b hb=>?_)
  ·rcases hF' b hf with h|h
   ·exact hnF h
   ·omega
  ·show OwnOk _ N _ _ _ l (upd own l _ l).obj
   rw [upd_eq]
   refine ⟨vs,by rw [setD_pl];exact hw,h1,fun b hb=>hn b (by rwa [setD_pl] at hb),fun i x hx _=>?_⟩
   obtain ⟨q1,⟨us,hu,hr⟩,q3⟩:=hin i x hx
   rw [setD_inn,setD_pl]
   exact ⟨q1,⟨us,hu,rowCb hr⟩,fun b hb=>⟨(q3 b hb).1.1,(q3 b hb).1.2,(q3 b hb).2.1,fun j y hj hy _=>by rw [setD_inn];exact (q3 b hb).2.2 j y hj hy⟩⟩
  ·have e1:holds (setD ρ l s inner) l (upd own l ⟨(own l).ver + 1,.deep ty ety e xs noG⟩ l).obj b:=e1
   rw [upd_eq] at e1
   refine hap b ?_ l' hne hl' e2
   rcases e1 with e1|⟨i,x,hx,_,e1⟩
   ·exact .inl (by rwa [setD_pl] at e1)
   ·exact .inr ⟨i,x,hx,by rwa [setD_inn] at e1⟩
  ·rcases hF' b hb with h|h
   ·exact Nat.lt_of_lt_of_le (H.mem.fin b h) hsz
   ·exact h.2
 ·rw [hdst];exact put_size _ _ _
 ·rw [hdst];exact put_defers' _ _ _
 ·have hm':m≠l:=fun h=>by
   subst h
   have hm:(upd own m ⟨(own m).ver + 1,.deep ty ety e xs noG⟩ m).ver=(own m).ver:=hm
   rw [upd_eq] at hm
   simp at hm
  exact setD_ple _ _ _ _ hm'
theorem run_build1 {t e:TypeId} {zv:Value} (hu:P.underlying t=some (.slice e)) (hes:(P.info? e).map (·.size)=some 1) (hz:∀ w,(zeroValue e).run P w=.ok zv w) (hzs:zv.cells.size=1) {v:Value} (hv:v.oneCell'=true) (w:World) :
  (Instr.buildSlice t 1 #[(0,v)]).run P w=.ok (.slice (some ⟨w.heap.size,0,none⟩) 1 1) (w.alloc (.cells #[v] e)):=by
 have hvc:=cells_one hv
 unfold Instr.buildSlice
 have hgt:¬ (1 * 1 > 2 ^ 24):=by decide
 simp only [Sem.run_bind,run_und hu,Result.andThen_ok,run_size hes,if_neg hgt]
 simp only [show ¬ (1 * 1=0) by decide,if_false,Sem.run_bind,hz,Result.andThen_ok,Sem.run_pure]
 have hf:Instr.fill (fun i=>some (i * 1,1)) ((Array.range (1 * 1)).map (zv.cells[· % zv.cells.size]!)) [(0,v)]=some #[v]:=by
  unfold Instr.fill
  have hr:((Array.range (1 * 1)).map (zv.cells[· % zv.cells.size]!)).size=1:=by simp
  obtain ⟨q,hq⟩:∃ q,(Array.range (1 * 1)).map (zv.cells[· % zv.cells.size]!)=#[q]:=by
   generalize (Array.range (1 * 1)).map (zv.cells[· % zv.cells.size]!)=A at hr
   obtain ⟨L⟩:=A
   match L,hr with
   | [q],_=>exact ⟨q,rfl⟩
  rw [hq]
  simp [hvc,Instr.fill]
 rw [hf]
 simp only [newRow,Sem.run_bind,run_newObj,Result.andThen_ok,Sem.run_pure]
 rfl
theorem own_one {base:Nat} {e:TypeId} {size:Nat} {v:Value} {n:Nat} {vs:List Value} {w:World} (h:w.ownsRow base e size v n vs):v.oneCell'=true:=by
 rcases h.2 with ⟨rfl,_⟩|⟨g,cap,cur,rfl,_⟩ <;> rfl
theorem owns_of {w w':World} {base:Nat} {e:TypeId} {size:Nat} {v:Value} {n:Nat} {vs:List Value} (h:w.ownsRow base e size v n vs) (hb:∀ b,blk v=some b→w'.heap[b]?=w.heap[b]?):w'.ownsRow base e size v n vs:=by
 refine ⟨h.1,h.2.imp id ?_⟩
 rintro ⟨g,cap,cur,hv,hg,hh,r⟩
 exact ⟨g,cap,cur,hv,hg,(hb g (by rw [hv];rfl)).trans hh,r⟩
theorem e_deep1 (H:Here P c N F ρ own slots a w) (hN:∀ b,w.heap.size≤b→N b) {d:Nat} (hd:d < a.tmps.size) (hdst:o.dst=some d) {t:TypeId} {parts:Array (Nat × Operand)} {x:Operand} (ho:o.op=.buildSlice t 1 parts) (hp:parts.toList=[(0,x)])
  {sz:Nat} {z0:List ZK} {ty ety:TypeId} {e:ElB} {b:Nat} {z:List ZK} {xs:List e.T} {us:List Value} (hty:c.ty t=some ⟨sz,z0,.slice ty (.s e) b z⟩)
  (hw:w.ownsRow 0 ety (ElK.b e).size (a.eval x) xs.length us) (hr:RowC w F (.b e) xs us) (hb:∀ b,blk (a.eval x)=some b→N b∧¬ F b)
  (hap:∀ b,blk (a.eval x)=some b→∀ l',l'≠d→(own l').obj.live=true→¬ holds ρ l' (own l').obj b)
  {K:St→Prop} (hK:K ⟨upd slots d (.one (.own d ((own d).ver + 1))),upd own d ⟨(own d).ver + 1,.deep ty ety e [xs] noG⟩⟩):Eff P c N F ρ own o a w K Q:=by
 obtain ⟨hu,hes,_,zv,hzr,hzc,hzs,_⟩:=elem_size (H.cfg.ty _ _ hty)
 have hone:=own_one hw
 have hrun:=run_build1 (P:=P) hu hes hzr hzs hone w
 have hpa:(parts.map fun (x:Nat × Operand)=>(x.1,a.eval x.2))=#[(0,a.eval x)]:=by apply Array.ext';simp [hp]
 unfold Eff Oper.wp
 have hexec:(execOp a.eval o).run P w=.ok (.value (.slice (some ⟨w.heap.size,0,none⟩) 1 1)) (w.alloc (.cells #[a.eval x] ty)):=by
  simp only [execOp,ho,Sem.run_bind]
  rw [show (parts.map fun (i,x)=>(i,a.eval x))=#[(0,a.eval x)] from hpa,hrun]
  simp only [Result.andThen_ok,Sem.run_pure]
 rw [hexec]
 have hold:∀ b,b < w.heap.size→(w.alloc (.cells #[a.eval x] ty)).heap[b]?=w.heap[b]?:=fun b hb=>Below.heap_alloc w _ b hb
 have hlt:∀ b,blk (a.eval x)=some b→b < w.heap.size:=fun b hb=>(hw.lt b (blk_own hw hb)).2
 refine next_deep H (w':=w.alloc (.cells #[a.eval x] ty)) (l:=d) (s:=.slice (some ⟨w.heap.size,0,none⟩) 1 1) (inner:=fun _=>a.eval x) (F':=F) hd hdst rfl rfl rfl (by simp) (fun b hb _=>hold b hb) (fun _ h=>h) (fun _ h=>.inl h) hN ?_ ?_ (fun ρ' own' h1 h2 _=>?_) hK
 ·refine ⟨[a.eval x],World.ownsRow_lit w #[a.eval x] 1 (Nat.zero_le _) (by decide) (by simp),fun v hv=>by rw [List.mem_singleton.1 hv];exact hone,fun b hb=>?_,fun i y hi=>?_⟩
  ·simp only [blk,Option.some.injEq] at hb
   subst hb
   exact ⟨hN _ (Nat.le_refl _),fun hf=>Nat.lt_irrefl _ (H.mem.fin _ hf)⟩
  ·cases i with
   | zero=>
    simp only [List.getElem?_cons_zero,Option.some.injEq] at hi
    subst hi
    refine ⟨rfl,⟨us,owns_of hw (fun b hb=>hold b (hlt b hb)),rowCb hr⟩,fun b' hb'=>⟨hb b' hb',?_,fun j y hj hy=>?_⟩⟩
    ·intro e
     simp only [blk,Option.some.injEq] at e
     have:=hlt b' hb'
     omega
    ·exfalso
     cases j with
     | zero=>exact hj rfl
     | succ j=>simp at hy
   | succ i=>simp at hi
 ·rintro b' (e|⟨i,y,hi,e⟩) l' hne hl' hh
  ·simp only [blk,Option.some.injEq] at e
   have:=(blk_lt H.mem hl' hh).1
   omega
  ·exact hap b' e l' hne hl' hh
 ·exact ⟨rfl,by rw [h2];exact Nat.le_refl _,fun _=>h1.symm⟩
theorem e_deep0 (H:Here P c N F ρ own slots a w) (hN:∀ b,w.heap.size≤b→N b) {d:Nat} (hd:d < a.tmps.size) (hdst:o.dst=some d) {t:TypeId} {parts:Array (Nat × Operand)} (ho:o.op=.buildSlice t 0 parts) (hp:parts.toList=[])
  {sz:Nat} {z0:List ZK} {ty ety:TypeId} {e:ElB} {b:Nat} {z:List ZK} (hty:c.ty t=some ⟨sz,z0,.slice ty (.s e) b z⟩)
  {K:St→Prop} (hK:K ⟨upd slots d (.one (.own d ((own d).ver + 1))),upd own d ⟨(own d).ver + 1,.deep ty ety e [] noG⟩⟩):Eff P c N F ρ own o a w K Q:=by
 obtain ⟨_,row,hrs,hrun,_⟩:=buildSlice_ok (len:=0) (parts:=parts) (xs:=[]) H hty (by decide) (by rw [hp];rfl)
 have hr0:row=#[]:=by
  have:row.size=0:=by rw [hrs];simp
  exact Array.eq_empty_of_size_eq_zero this
 subst hr0
 unfold Eff Oper.wp
 have hexec:(execOp a.eval o).run P w=.ok (.value (.slice (some ⟨w.heap.size,0,none⟩) 0 0)) (w.alloc (.cells #[] ty)):=by
  simp only [execOp,ho,Sem.run_bind,hrun,Result.andThen_ok,Sem.run_pure]
 rw [hexec]
 refine next_deep H (w':=w.alloc (.cells #[] ty)) (l:=d) (s:=.slice (some ⟨w.heap.size,0,none⟩) 0 0) (inner:=fun _=>undef) (F':=F) hd hdst rfl rfl rfl (by simp) (fun b hb _=>Below.heap_alloc w _ b hb) (fun _ h=>h) (fun _ h=>.inl h) hN ?_ ?_ (fun ρ' own' h1 h2 _=>?_) hK
 ·refine ⟨[],World.ownsRow_lit w #[] 0 (Nat.zero_le _) (by decide) (by simp),fun v hv=>by simp at hv,fun b hb=>?_,fun i y hi=>by simp at hi⟩
  simp only [blk,Option.some.injEq] at hb
  subst hb
  exact ⟨hN _ (Nat.le_refl _),fun hf=>Nat.lt_irrefl _ (H.mem.fin _ hf)⟩
 ·rintro b' (e|⟨i,y,hi,e⟩) l' hne hl' hh
  ·simp only [blk,Option.some.injEq] at e
   have:=(blk_lt H.mem hl' hh).1
   omega
  ·simp at hi
 ·exact ⟨rfl,by rw [h2];exact Nat.le_refl _,fun _=>h1.symm⟩
theorem deep_at (H:Here P c N F ρ own slots a w) {l ver:Nat} {ty ety:TypeId} {e:ElB} {xs:List (List e.T)} {g:Nat→Bool} (hl:own l=⟨ver,.deep ty ety e xs g⟩) (hg:allG g xs.length) :
  DeepAt w (fun b=>(N b∧¬ F b)∧b < w.heap.size∧∀ l',l'≠l→(own l').obj.live=true→¬ holds ρ l' (own l').obj b) (fun _=>False) ty ety e xs (ρ (pl l)) (fun i=>ρ (inn l i)):=by
 have hlive:(own l).obj.live=true:=by rw [hl];rfl
 have hok:=H.mem.ok l
 rw [hl] at hok
 obtain ⟨vs,hw,h1,hn,hin⟩:=hok
 have hap:∀ b,holds ρ l (.deep ty ety e xs g) b→∀ l',l'≠l→(own l').obj.live=true→¬ holds ρ l' (own l').obj b:=fun b hb l' hne hl' h=>H.mem.apart l l' b (Ne.symm hne) hlive hl' (by rw [hl];exact hb) h
 refine ⟨vs,hw,h1,fun b hb=>⟨hn b hb,(hw.lt b (blk_own hw hb)).2,hap b (.inl hb)⟩,fun i x hx=>?_⟩
 have hgi:=hg i (List.getElem?_eq_some_iff.1 hx).1
 obtain ⟨q1,⟨us,hu,hr⟩,q3⟩:=hin i x hx hgi
 exact ⟨q1,⟨us,hu,rowCb hr⟩,fun b hb=>⟨⟨⟨(q3 b hb).1,(q3 b hb).2.1⟩,(hu.lt b (blk_own hu hb)).2,hap b (.inr ⟨i,x,hx,hgi,hb⟩)⟩,(q3 b hb).2.2.1,fun j y hj hy=>(q3 b hb).2.2.2 j y hj hy (hg j (List.getElem?_eq_some_iff.1 hy).1)⟩⟩
theorem e_deepApp (H:Here P c N F ρ own slots a w) (hN:∀ b,w.heap.size≤b→N b) {d l q ver verq:Nat} (hd:d < a.tmps.size) (hdst:o.dst=some d) {cl:Call} (ho:o.op=.call cl) (hcl:cl.callee=.builtin .append) {t:TypeId} {s x:Operand} (hargs:cl.args.toList=[s,x]) (hat:cl.argTypes.toList=[t,t])
  {sz b:Nat} {z0 z:List ZK} {te ty' ety:TypeId} {e:ElB} {xs ys:List (List e.T)} {g g':Nat→Bool} (hty:c.ty t=some ⟨sz,z0,.slice te (.s e) b z⟩)
  (hs:evA slots s=.one (.own l ver)) (hx:evA slots x=.one (.own q verq)) (hne:l≠q) (hl:own l=⟨ver,.deep te ety e xs g⟩) (hq:own q=⟨verq,.deep ty' ety e ys g'⟩) (hg:allG g xs.length) (hg':allG g' ys.length)
  (hlen:xs.length + ys.length≤1073741824) (hb:b≤4096)
  {K:St→Prop} (hK:K ⟨upd slots d (.one (.own l (ver + 1))),upd (upd own q ⟨verq,.dead⟩) l ⟨ver + 1,.deep te ety e (xs ++ ys) noG⟩⟩):Eff P c N F ρ own o a w K Q:=by
 obtain ⟨hu,hes,_,zv,hzr,hzc,hzs,ie,hie,hiz,hisz,hib⟩:=elem_size (H.cfg.ty _ _ hty)
 have hk1:=H.kill1 q
 have hvq:(own q).ver=verq:=by rw [hq]
 rw [hvq] at hk1
 have hvers:∀ m,(upd own q ⟨verq,.dead⟩ m).ver=(own m).ver:=fun m=>by
  rw [upd_get];split
  ·rename_i e;rw [e,hq]
  ·rfl
 have hl1:upd own q ⟨verq,.dead⟩ l=⟨ver,.deep te ety e xs g⟩:=by rw [upd_ne _ _ hne,hl]
 refine Eff.base hvers ?_
 have hsd:CellC w F ρ own (.own l ver) (a.eval s):=H.ev' hs
 have hse:=hsd.2.2 ⟨by rw [hl],by rw [hl];trivial⟩
 have hxd:CellC w F ρ own (.own q verq) (a.eval x):=H.ev' hx
 have hxe:=hxd.2.2 ⟨by rw [hq],by rw [hq];trivial⟩
 obtain ⟨vs,hw,v1,vn,vin⟩:=deep_at H hl hg
 obtain ⟨us,hwq,u1,un,uin⟩:=deep_at H hq hg'
 have hexec:∀ {r:Value} {w':World},(Builtin.append_ #[t,t] o.type #[a.eval s,a.eval x]).run P w=.ok r w'→(execOp a.eval o).run P w=.ok (.value r) w':=by
  intro r w' hr
  simp [execOp,ho,resolve,hcl,invoke,builtin,arr_of_list hargs,arr_of_list hat,hr]
 have hlive:(upd own q ⟨verq,.dead⟩ l).obj.live=true:=by rw [hl1];rfl
 have hver1:(upd own q ⟨verq,.dead⟩ l).ver=ver:=by rw [hl1]
 have liveq:∀ m,m≠l→(upd own q ⟨verq,.dead⟩ m).obj.live=true→m≠q∧(own m).obj.live=true∧(upd own q ⟨verq,.dead⟩ m)=own m:=fun m hm h=>by
  have hmq:m≠q:=fun e=>by subst e;rw [upd_eq] at h;cases h
  rw [upd_ne _ _ hmq] at h
  exact ⟨hmq,h,upd_ne _ _ hmq⟩
 have hlq:∀ b,holds ρ l (own l).obj b→holds ρ q (own q).obj b→False:=fun b h1 h2=>H.mem.apart l q b hne (by rw [hl];rfl) (by rw [hq];rfl) h1 h2
 have holdl:∀ b,(blk (ρ (pl l))=some b∨∃ i x,xs[i]?=some x∧blk (ρ (inn l i))=some b)→holds ρ l (own l).obj b:=fun b h=>by
  rw [hl]
  rcases h with h|⟨i,x,hx,h⟩
  ·exact .inl h
  ·exact .inr ⟨i,x,hx,hg i (List.getElem?_eq_some_iff.1 hx).1,h⟩
 have holdq:∀ b,(blk (ρ (pl q))=some b∨∃ i x,ys[i]?=some x∧blk (ρ (inn q i))=some b)→holds ρ q (own q).obj b:=fun b h=>by
  rw [hq]
  rcases h with h|⟨i,x,hx,h⟩
  ·exact .inl h
  ·exact .inr ⟨i,x,hx,hg' i (List.getElem?_eq_some_iff.1 hx).1,h⟩
 have fin:∀ (v':Value) (w':World),(execOp a.eval o).run P w=.ok (.value v') w'→w'.ownsRow 0 te 1 v' (xs.length + ys.length) (vs ++ us)→w.grownBy w' (blk (ρ (pl l)))→(∀ b,blk v'=some b→blk (ρ (pl l))=some b∨w.heap.size≤b) →
   Eff P c N F ρ (upd own q ⟨verq,.dead⟩) o a w K Q:=by
  intro v' w' hrun hown hgr hbl
  unfold Eff Oper.wp
  rw [hrun]
  have keepb:∀ b,b < w.heap.size→blk (ρ (pl l))≠some b→w'.heap[b]?=w.heap[b]?:=fun b hb h=>hgr.block b hb (fun e=>h e.symm)
  refine next_deep hk1 (l:=l) (w':=w') (s:=v') (u:=v') (inner:=fun i=>if i < xs.length then ρ (inn l i) else ρ (inn q (i - xs.length))) (F':=F) hd hdst hgr.os hgr.tape hgr.output hgr.size
   (fun b hb h=>keepb b hb (fun e=>h ⟨hlive,by rw [hl1];exact .inl e⟩)) (fun _ h=>h) (fun _ h=>.inl h) hN ?_ ?_ (fun ρ' own' h1 h2 _=>?_) (by rw [hver1];exact hK)
  ·have hNF:∀ b,w.heap.size≤b→N b∧¬ F b:=fun b h=>⟨hN b h,fun hf=>by have:=H.mem.fin b hf;omega⟩
   refine ⟨vs ++ us,by rw [List.length_append];exact hown,fun v hv=>(List.mem_append.1 hv).elim (v1 v) (u1 v),fun b hb=>?_,fun i x hi=>?_⟩
   ·rcases hbl b hb with h|h
    ·exact (vn b h).1
    ·exact hNF b h
   ·by_cases hlt:i < xs.length
    ·rw [List.getElem?_append_left hlt] at hi
     obtain ⟨q1,⟨es,hw',hr⟩,q3⟩:=vin i x hi
     simp only [if_pos hlt]
     refine ⟨by rw [List.getElem?_append_left (by have:=(List.getElem?_eq_some_iff.1 q1).1;exact this)];exact q1,⟨es,owns_of hw' fun b hb=>keepb b (q3 b hb).1.2.1 (q3 b hb).2.1,rowCb hr⟩,fun b hb=>⟨(q3 b hb).1.1,fun e=>?_,fun j y hj hy=>?_⟩⟩
     ·rcases hbl b e with h|h
      ·exact (q3 b hb).2.1 h
      ·have:=(q3 b hb).1.2.1;omega
     ·by_cases hjl:j < xs.length
      ·rw [if_pos hjl]
       rw [List.getElem?_append_left hjl] at hy
       exact (q3 b hb).2.2 j y hj hy
      ·rw [if_neg hjl]
       rw [List.getElem?_append_right (by omega)] at hy
       exact fun e=>hlq b (holdl b (.inr ⟨i,x,hi,hb⟩)) (holdq b (.inr ⟨_,y,hy,e⟩))
    ·rw [List.getElem?_append_right (by omega)] at hi
     obtain ⟨q1,⟨es,hw',hr⟩,q3⟩:=uin _ x hi
     simp only [if_neg hlt]
     have hvl:vs.length=xs.length:=by have:=hw.1;rw [this,Nat.mul_one]
     refine ⟨by rw [List.getElem?_append_right (by omega),hvl];exact q1,⟨es,owns_of hw' fun b hb=>keepb b (q3 b hb).1.2.1 (fun e=>hlq b (holdl b (.inl e)) (holdq b (.inr ⟨_,x,hi,hb⟩))),rowCb hr⟩,fun b hb=>⟨(q3 b hb).1.1,fun e=>?_,fun j y hj hy=>?_⟩⟩
     ·rcases hbl b e with h|h
      ·exact hlq b (holdl b (.inl h)) (holdq b (.inr ⟨_,x,hi,hb⟩))
      ·have:=(q3 b hb).1.2.1;omega
     ·by_cases hjl:j < xs.length
      ·rw [if_pos hjl]
       rw [List.getElem?_append_left hjl] at hy
       exact fun e=>hlq b (holdl b (.inr ⟨j,y,hy,e⟩)) (holdq b (.inr ⟨_,x,hi,hb⟩))
      ·rw [if_neg hjl]
       rw [List.getElem?_append_right (by omega)] at hy
       exact (q3 b hb).2.2 _ y (by omega) hy
  ·intro b hbb m hm hml hh
   obtain ⟨m1,m2,m3⟩:=liveq m hm hml
   rw [m3] at hh
   rcases hbb with h|⟨i,x,hi,h⟩
   ·rcases hbl b h with h|h
    ·exact H.mem.apart l m b (Ne.symm hm) (by rw [hl];rfl) m2 (holdl b (.inl h)) hh
    ·have:=(blk_lt H.mem m2 hh).1;omega
   ·by_cases hlt:i < xs.length
    ·rw [List.getElem?_append_left hlt] at hi
     simp only [if_pos hlt] at h
     exact H.mem.apart l m b (Ne.symm hm) (by rw [hl];rfl) m2 (holdl b (.inr ⟨i,x,hi,h⟩)) hh
    ·rw [List.getElem?_append_right (by omega)] at hi
     simp only [if_neg hlt] at h
     exact H.mem.apart q m b (Ne.symm m1) (by rw [hq];rfl) m2 (holdq b (.inr ⟨_,x,hi,h⟩)) hh
  ·rw [hver1] at h2
   exact ⟨own_one hown,by rw [h2];exact Nat.le_refl _,fun _=>h1.symm⟩
 rw [hse,hxe] at hexec
 have hown':w.ownsRow 0 te ie.size (ρ (pl l)) xs.length vs:=by rw [hisz];exact hw
 rcases hwq.2 with ⟨hqn,hq0⟩|⟨gq,cap,cur,hqv,_,hh,hcap,_,hcs,htake⟩
 ·have hu0:us=[]:=List.eq_nil_of_length_eq_zero (by rw [hwq.1,hq0])
  have hr:=run_append_owned_none (P:=P) w 0 t o.type te ie 1 hu hie (ρ (pl l)) xs.length vs hw
  rw [← hqn] at hr
  exact fin _ _ (hexec hr) (by rw [hq0,hu0,List.append_nil];exact hw) (World.grownBy.refl w _) (fun b h=>.inl h)
 ·have hbytes:(xs.length + ys.length) * b≤140737488355328:=by
   have:(xs.length + ys.length) * b≤1073741824 * 4096:=Nat.mul_le_mul hlen hb
   omega
  obtain ⟨v',w',hr,hown2,hg2,_,hat'⟩:=run_append_own_at (P:=P) w 0 t o.type te ie zv 1 b hu hie hiz hisz hib hzs (by omega) (ρ (pl l)) xs.length vs hw ⟨gq,0,none⟩ ys.length cap us hwq.1
   (fun j u hj=>hwq.cells (g:=gq) (by rw [hqv];rfl) j u hj) u1 (by unfold maxLen;omega) hbytes (Nat.zero_le _)
  rw [← hqv] at hr
  have hblk:∀ b,Value.ownBlock (ρ (pl l))=some b↔blk (ρ (pl l))=some b:=fun b=>⟨own_blk hw,blk_own hw⟩
  refine fin _ _ (hexec hr) hown2 ⟨hg2.os,hg2.tape,hg2.output,hg2.size,fun k hk hne'=>hg2.block k hk (fun e=>hne' ((hblk k).1 e.symm).symm)⟩ (fun b hbv=>?_)
  have:=blk_own hown2 hbv
  rcases hat' with e|e
  ·exact .inl ((hblk b).1 (by rw [← e];exact this))
  ·rw [this] at e
   injection e with e
   exact .inr (by omega)
theorem e_deepCall (H:Here P c N F ρ own slots a w) (hN:∀ b,w.heap.size≤b→N b) {d:Nat} (hd:d < a.tmps.size) (hdst:o.dst=some d) {cl:Call} {g:Operand} (hcl:cl.callee=.value g) {f:FuncId} {caps:List D} (hg:evA slots g=.one (.d (.clo f caps))) {r:RV} {ty ety:TypeId} {nl:Option Bool} {e:ElB} {xs:List (List e.T)}
  (h:acall c own f (evL (evA slots) cl.args.toList ++ capsOf caps)=.ok p r) (hp:p) (ho:o.op=.call cl) (hR:r.row=some ⟨ty,nl,.s e,xs⟩) (hdp:dpOf c f=some ety)
  {K:St→Prop} (hK:K ⟨upd slots d (ren (.own d ((own d).ver + 1)) r.av),upd own d ⟨(own d).ver + 1,.deep ty ety e xs noG⟩⟩):Eff P c N F ρ own o a w K Q:=by
 unfold Eff
 refine call_okX H hcl hg h hp ho fun v w' hbel hret=>?_
 rw [hdp] at hret
 unfold RetX RetD at hret
 simp only [hR] at hret
 obtain ⟨s,inner,hdeep,hn,hav⟩:=hret
 obtain ⟨vs,hw,h1,hns,hin⟩:=hdeep
 have hFn:∀ b,F b→newD w w' F s inner xs.length b:=fun b hb=>by
  have hlt:=H.mem.fin b hb
  refine ⟨.inl hb,fun e=>by have:=hns b e;omega,fun i hi e=>?_⟩
  have:=((hin i _ (List.getElem?_eq_getElem hi)).2.2 b e).1
  omega
 refine next_deep H (l:=d) (w':=w') (s:=s) (u:=v) (inner:=inner) (F':=newD w w' F s inner xs.length) hd hdst hbel.os hbel.tape hbel.output hbel.size (fun b hb _=>hbel.block b hb) hFn (fun b hb=>hb.1) hN ?_ ?_ (fun ρ' own' h1 h2 hC=>?_) hK
 ·refine ⟨vs,hw,h1,fun b hb=>⟨hN b (hns b hb),fun hf=>hf.2.1 hb⟩,fun i x hx=>?_⟩
  obtain ⟨q1,q2,q3⟩:=hin i x hx
  exact ⟨q1,q2,fun b hb=>⟨⟨hN b (q3 b hb).1,fun hf=>hf.2.2 i (List.getElem?_eq_some_iff.1 hx).1 hb⟩,(q3 b hb).2⟩⟩
 ·intro b hb l' hne hl' hh
  have:=(blk_lt H.mem hl' hh).1
  rcases hb with hb|⟨i,x,hx,hb⟩
  ·have:=hns b hb;omega
  ·have:=((hin i x hx).2.2 b hb).1;omega
 ·refine AVG.ren (fun z v hz=>?_) hav
  cases z with
  | d x=>exact hz
  | own l ver=>
   injection hz with hz
   subst hz
   exact ⟨own_one hw,by rw [h2];exact Nat.le_refl _,fun _=>h1.symm⟩
  | ptr l ver i j=>exact hz.elim
  | sub l ver off n=>exact hz.elim
theorem nthA_set {xs:List AV} {i:Nat} {a b:AV} (h:nthA xs i=some a):nthA (setA xs i b) i=some b:=by
 induction xs generalizing i with
 | nil=>simp [nthA] at h
 | cons x xs ih=>cases i with
  | zero=>rfl
  | succ i=>exact ih h
theorem setA_set:∀ (xs:List AV) (i:Nat) (a b:AV),setA (setA xs i a) i b=setA xs i b
 | [],_,_,_=>rfl
 | _ :: _,0,_,_=>rfl
 | x :: r,i + 1,a,b=>by simp [setA,setA_set r i a b]
theorem setA_len:∀ (xs:List AV) (i:Nat) (a:AV),(setA xs i a).length=xs.length
 | [],_,_=>rfl
 | _ :: _,0,_=>rfl
 | x :: r,i + 1,a=>by simp [setA,setA_len r i a]
theorem setA_get:∀ (xs:List AV) (i j:Nat) (a:AV),j≠i→(setA xs i a)[j]?=xs[j]?
 | [],_,_,_,_=>rfl
 | _ :: _,0,0,_,h=>absurd rfl h
 | _ :: _,0,j + 1,_,_=>rfl
 | x :: r,i + 1,0,a,_=>rfl
 | x :: r,i + 1,j + 1,a,h=>by simpa [setA] using setA_get r i j a (by omega)
theorem othersD_set:∀ {xs:List AV} {i:Nat} {a:AV},othersD i xs=true→othersD i (setA xs i a)=true
 | [],_,_,h=>h
 | _ :: _,0,_,h=>h
 | x :: r,i + 1,a,h=>by
  simp only [othersD,setA,Bool.and_eq_true] at h ⊢
  exact ⟨h.1,othersD_set h.2⟩
theorem args_ok (H:Here P c N F ρ own slots a w) {cl:Call} {caps:List D} {us:List Value} (hul:us.length=caps.length) (hus:∀ (j:Nat) x u,caps[j]?=some x→us[j]?=some u→DC w F x u) :
  ∀ (j:Nat) x v,(evL (evA slots) cl.args.toList ++ capsOf caps)[j]?=some x→(cl.args.toList.map a.eval ++ us)[j]?=some v→AVC w F ρ own x v:=by
 intro j x v hx hv
 have hlen:(evL (evA slots) cl.args.toList).length=(cl.args.toList.map a.eval).length:=by simp [evL]
 by_cases hj:j < (cl.args.toList.map a.eval).length
 ·rw [List.getElem?_append_left (by omega)] at hx
  rw [List.getElem?_append_left hj] at hv
  exact evL_ok H _ j x v hx hv
 ·rw [List.getElem?_append_right (by omega),capsOf_get,hlen] at hx
  rw [List.getElem?_append_right (by omega)] at hv
  cases hc:caps[j - (cl.args.toList.map a.eval).length]? with
  | none=>rw [hc] at hx;cases hx
  | some d=>
   rw [hc] at hx
   simp only [Option.map_some,Option.some.injEq] at hx
   subst hx
   exact hus _ d v hc hv
theorem enter_run {cl : Call} {g : Operand} {f : FuncId} {us : List Value} {fn : Func} (hcl : cl.callee = .value g) (hge : a.eval g = .func (.func f) #[] us.toArray) (ho : o.op = .call cl) (hfn : P.funcs[f]? = some fn) (hname : (fn.name == "runtime.NumGoroutine") = false) (hbody : fn.body.isNone = false) :
  (execOp a.eval o).run P w=.ok (.enter f (cl.args.toList.map a.eval ++ us).toArray) w:=by
 have hargs':(cl.args.map a.eval) ++ us.toArray=(cl.args.toList.map a.eval ++ us).toArray:=by
  apply Array.ext';simp
 have hname' : ¬ fn.name = "runtime.NumGoroutine" := by simpa using hname
 have hbody':¬ fn.body=none:=by intro h;rw [h] at hbody;cases hbody
 simp [execOp,ho,resolve,hcl,hge,Deferred.ofValue,invoke,callFunc,hfn,hargs']
 rw [if_neg hname',if_neg hbody']
theorem next_inner (H:Here P c N F ρ own slots a w) {d l ver:Nat} (hd:d < a.tmps.size) (hdst:o.dst=some d) {w':World} {v:Value} {ty ety:TypeId} {e:ElB} {xs ys:List (List e.T)} {g:Nat→Bool} {av:AV}
  (hl:own l=⟨ver,.deep ty ety e xs g⟩) (hlen:ys.length=xs.length)
  (hos:w'.os=w.os) (htape:w'.tape=w.tape) (hout:w'.output=w.output) (hsz:w.heap.size≤w'.heap.size)
  (hoth:∀ b,b < w.heap.size→¬ holds ρ l (own l).obj b→w'.heap[b]?=w.heap[b]?)
  (hdeep:OwnOk w' N F ρ own l (.deep ty ety e ys g)) (hav:AVG (RetCell w' (fun _=>False) none) av v)
  {K:St→Prop} (hK:K ⟨upd slots d av,upd own l ⟨ver,.deep ty ety e ys g⟩⟩):∃ σ' F' ρ',K σ'∧Next' P c N F ρ own a w σ' (a.put o.dst v) w' F' ρ':=by
 have hlive:(own l).obj.live=true:=by rw [hl];rfl
 have hext:Ext w F w' F:=⟨hos,htape,hout,hsz,fun b hb=>hoth b (H.mem.fin b hb) (fun h=>(blk_lt H.mem hlive h).2.2 hb),fun _ h=>h⟩
 have hother:∀ l',l'≠l→upd own l ⟨ver,.deep ty ety e ys g⟩ l'=own l'∧ρ (pl l')=ρ (pl l'):=fun l' h=>⟨upd_ne _ _ h,rfl⟩
 have hC:∀ z v,CellC w F ρ own z v→CellC w' F ρ (upd own l ⟨ver,.deep ty ety e ys g⟩) z v:=fun z v h=>
  h.step (l:=l) hext hother (.inr (by rw [upd_eq];exact ⟨by rw [hl],rfl,.inr (.inr ⟨ty,ety,e,xs,ys,g,g,by rw [hl],rfl,hlen,fun _ h=>⟨h,rfl⟩⟩)⟩))
 have hsame:∀ b,holds ρ l (.deep ty ety e ys g) b→holds ρ l (own l).obj b:=fun b h=>by
  rw [hl]
  rcases h with h|⟨i,x,hx,hgi,h⟩
  ·exact .inl h
  ·have hlt:=(List.getElem?_eq_some_iff.1 hx).1
   exact .inr ⟨i,_,List.getElem?_eq_getElem (by omega),hgi,h⟩
 refine ⟨_,F,ρ,hK,⟨H.cfg,?_,?_⟩,hext,fun b h hn=>hoth b h (fun e=>hn (blk_lt H.mem hlive e).2.1),fun b h=>.inl h,?_,?_,fun l'=>?_,fun _ _=>rfl⟩
 ·rw [hdst]
  refine slots_put hC H.sl hd (AVG.imp (fun z v hz=>?_) hav)
  cases z with
  | d x=>exact DC.mono (ext_sub fun b hb=>hb.elim) hz
  | own _ _=>cases hz
  | ptr _ _ _ _=>exact hz.elim
  | sub _ _ _ _=>exact hz.elim
 ·refine H.mem.step (l:=l) hext hother (fun _ _ _=>rfl) hC (fun l' b hne hl' hb hlt hn=>⟨hoth b hlt (fun e=>H.mem.apart l l' b (Ne.symm hne) hlive hl' e hb),hn⟩) ?_ (fun l' b hne hl' e1 e2=>?_) (fun b h=>Nat.lt_of_lt_of_le (H.mem.fin b h) hsz)
  ·show OwnOk _ N F _ _ l (upd own l _ l).obj
   rw [upd_eq]
   exact hdeep
  ·have e1:holds ρ l (upd own l ⟨ver,.deep ty ety e ys g⟩ l).obj b:=e1
   rw [upd_eq] at e1
   exact H.mem.apart l l' b (Ne.symm hne) hlive hl' (hsame b e1) e2
 ·rw [hdst];exact put_size _ _ _
 ·rw [hdst];exact put_defers' _ _ _
 ·show _≤(upd own l ⟨ver,.deep ty ety e ys g⟩ l').ver
  rw [upd_get];split
  ·rename_i e;rw [e,hl];exact Nat.le_refl _
  ·exact Nat.le_refl _
theorem relay (H:Here P c N F ρ own slots a w) {l ver:Nat} {w':World} {ty ety:TypeId} {e:ElB} {xs ys:List (List e.T)} {g g':Nat→Bool} {inner:Nat→Value}
  (hl:own l=⟨ver,.deep ty ety e xs g⟩) (hlen:ys.length=xs.length) (hst:g' srt=true)
  (hos:w'.os=w.os) (htape:w'.tape=w.tape) (hout:w'.output=w.output) (hsz:w.heap.size≤w'.heap.size)
  (hoth:∀ b,b < w.heap.size→¬ holds ρ l (own l).obj b→w'.heap[b]?=w.heap[b]?)
  (hdeep:OwnOk w' N F (setD ρ l (ρ (pl l)) inner) (upd own l ⟨ver,.deep ty ety e ys g'⟩) l (.deep ty ety e ys g'))
  (hap:∀ i b,i < ys.length→g' i=false→blk (inner i)=some b→∀ l',l'≠l→(own l').obj.live=true→¬ holds ρ l' (own l').obj b) :
  Ext w F w' F∧(∀ b,b < w.heap.size→¬ N b→w'.heap[b]?=w.heap[b]?)∧(∀ z v,CellC w F ρ own z v→CellC w' F (setD ρ l (ρ (pl l)) inner) (upd own l ⟨ver,.deep ty ety e ys g'⟩) z v) ∧
   Mem w' N F (setD ρ l (ρ (pl l)) inner) (upd own l ⟨ver,.deep ty ety e ys g'⟩)∧(∀ l',(own l').ver≤(upd own l ⟨ver,.deep ty ety e ys g'⟩ l').ver)∧∀ l',setD ρ l (ρ (pl l)) inner (pl l')=ρ (pl l'):=by
 have hlive:(own l).obj.live=true:=by rw [hl];rfl
 have hext:Ext w F w' F:=⟨hos,htape,hout,hsz,fun b hb=>hoth b (H.mem.fin b hb) (fun h=>(blk_lt H.mem hlive h).2.2 hb),fun _ h=>h⟩
 have hother:∀ l',l'≠l→upd own l ⟨ver,.deep ty ety e ys g'⟩ l'=own l'∧setD ρ l (ρ (pl l)) inner (pl l')=ρ (pl l'):=fun l' h=>⟨upd_ne _ _ h,setD_ple _ _ _ _ h⟩
 have hi:∀ l',l'≠l→∀ i,setD ρ l (ρ (pl l)) inner (inn l' i)=ρ (inn l' i):=fun l' h i=>setD_inne _ _ _ _ i h
 have hC:∀ z v,CellC w F ρ own z v→CellC w' F (setD ρ l (ρ (pl l)) inner) (upd own l ⟨ver,.deep ty ety e ys g'⟩) z v:=fun z v h=>
  h.step (l:=l) hext hother (.inr (by rw [upd_eq];exact ⟨by rw [hl],setD_pl _ _ _ _,.inr (.inr ⟨ty,ety,e,xs,ys,g,g',by rw [hl],rfl,hlen,fun i hs=>absurd (hst.symm.trans hs.2) (by decide)⟩)⟩)) hi
 refine ⟨hext,fun b h hn=>hoth b h (fun e=>hn (blk_lt H.mem hlive e).2.1),hC,?_,fun l'=>?_,fun l'=>?_⟩
 ·refine H.mem.step (l:=l) hext hother hi hC (fun l' b hne hl' hb hlt hn=>⟨hoth b hlt (fun e=>H.mem.apart l l' b (Ne.symm hne) hlive hl' e hb),hn⟩) ?_ (fun l' b hne hl' e1 e2=>?_) (fun b h=>Nat.lt_of_lt_of_le (H.mem.fin b h) hsz)
  ·show OwnOk _ N F _ _ l (upd own l _ l).obj
   rw [upd_eq]
   exact hdeep
  ·have e1:holds (setD ρ l (ρ (pl l)) inner) l (upd own l ⟨ver,.deep ty ety e ys g'⟩ l).obj b:=e1
   rw [upd_eq] at e1
   rcases e1 with e1|⟨i,x,hx,hgi,e1⟩
   ·rw [setD_pl] at e1
    exact H.mem.apart l l' b (Ne.symm hne) hlive hl' (holds_of e1) e2
   ·rw [setD_inn] at e1
    exact hap i b (List.getElem?_eq_some_iff.1 hx).1 hgi e1 l' hne hl' e2
 ·rw [upd_get];split
  ·rename_i e;rw [e,hl];exact Nat.le_refl _
  ·exact Nat.le_refl _
 ·by_cases h:l'=l
  ·rw [h,setD_pl]
  ·exact setD_ple _ _ _ _ h
theorem srt_out {g:Nat→Bool} {i j:Nat} (h:upd (upd g i false) srt true j=false):j=i∨g j=false:=by
 rw [upd_get] at h
 split at h
 ·cases h
 ·rw [upd_get] at h
  split at h
  ·rename_i e;exact .inl e
  ·exact .inr h
theorem e_store_deep (H:Here P c N F ρ own slots a w) (hdst:o.dst=none) {t:TypeId} {x z:Operand} (ho:o.op=.store t x z) {l ver i q verq:Nat} {ti:TI} {ty ety:TypeId} {e:ElB} {xs:List (List e.T)} {y:List e.T} {g:Nat→Bool} (hx:evA slots x=.one (.ptr l ver i 0)) (hz:cells (evA slots z)=some [.own q verq])
  (hti:c.ty t=some ti) (hsz:1=ti.size) (hne:l≠q) (hl:own l=⟨ver,.deep ty ety e xs g⟩) (hq:own q=⟨verq,.row ety (.b e) y⟩) (hi:i < xs.length)
  {K:St→Prop} (hK:K ⟨slots,upd (upd own q ⟨verq,.dead⟩) l ⟨ver,.deep ty ety e (xs.set i y) (upd (upd g i false) srt true)⟩⟩):Eff P c N F ρ own o a w K Q:=by
 have hlive:(own l).obj.live=true:=by rw [hl];rfl
 have hliveq:(own q).obj.live=true:=by rw [hq];rfl
 have hok:=H.mem.ok l
 rw [hl] at hok
 obtain ⟨vs,hw,v1,vn,hin⟩:=hok
 have hokq:=H.mem.ok q
 rw [hq] at hokq
 obtain ⟨us,hwq,hrq,hnq⟩:=hokq
 have hd:CellC w F ρ own (.ptr l ver i 0) (a.eval x):=H.ev' hx
 have hv:=hd.2.2 (by rw [hl])
 simp only [hl] at hv
 obtain ⟨b,hb,he⟩:=hv
 have hc:=cells_ok hz (H.ev z)
 obtain ⟨v,hv1,hcv⟩:∃ v,(a.eval z).cells.toList=[v]∧CellC w F ρ own (.own q verq) v:=by
  have h1:=hc.1
  match hcl:(a.eval z).cells.toList,h1 with
  | [v],_=>exact ⟨v,rfl,hc.2 0 _ v rfl (by rw [hcl];rfl)⟩
 have hvq:=hcv.2.2 ⟨by rw [hq],by rw [hq];trivial⟩
 have hlen:(a.eval z).cells.size=ti.size:=by rw [← Array.length_toList,hv1,← hsz];rfl
 have hqb:∀ b',blk (ρ (pl q))=some b'→¬ holds ρ l (own l).obj b':=fun b' h1 h2=>H.mem.apart l q b' hne hlive hliveq h2 (holds_of h1)
 have hlb:∀ b',(blk (ρ (pl l))=some b'∨∃ j x,xs[j]?=some x∧g j=false∧blk (ρ (inn l j))=some b')→holds ρ l (own l).obj b':=fun b' h=>by rw [hl];exact h
 rcases hw.2 with ⟨_,h0⟩|⟨gb,cap,cur,hs,hbase,hh,hcap,hmax,hcs,htake⟩
 ·omega
 ·have hbg:gb=b:=by rw [hs] at hb;simpa [blk] using hb
  subst hbg
  obtain ⟨w',r1,r2,r3,r4,r5,r6,r7⟩:=run_storeAt (w:=w) (H.cfg.ty _ _ hti).1 hlen hh (j:=i) (by omega) (by rw [hv1];intro u hu;rw [List.mem_singleton.1 hu];exact CellC.oneCell hcv)
  have hverq:(own q).ver=verq:=by rw [hq]
  have hk1:=H.kill1 q
  rw [hverq] at hk1
  have hl1:upd own q ⟨verq,.dead⟩ l=⟨ver,.deep ty ety e xs g⟩:=by rw [upd_ne _ _ hne];exact hl
  have hv1':∀ m,(upd own q ⟨verq,.dead⟩ m).ver=(own m).ver:=fun m=>by
   rw [upd_get];split
   ·rename_i e;rw [e,hq]
   ·rfl
  have hlq:∀ l',(upd own q ⟨verq,.dead⟩ l').obj.live=true→l'≠q:=fun l' h e=>by subst e;rw [upd_eq] at h;cases h
  have hne2:∀ {b'},blk (ρ (pl q))=some b'→b'≠gb:=fun {b'} h e=>hqb b' h (hlb b' (.inl (by rw [e];exact hb)))
  have hset:=putV_get cur.toList i [v] (by simp;omega)
  have hrel:=relay hk1 (w':=w') (ty:=ty) (ety:=ety) (e:=e) (xs:=xs) (ys:=xs.set i y) (g:=g) (g':=upd (upd g i false) srt true) (inner:=fun j=>if j=i then ρ (pl q) else ρ (inn l j)) hl1 (List.length_set ..) (upd_eq _ _ _) r3 r4 r5 (by omega) (fun b' _ hnh=>r7 b' (fun e=>hnh (by rw [hl1];exact .inl (by rw [e];exact hb)))) ?_ (fun j b' hj hgj hbj l' hne' hl' hh'=>?_)
  ·obtain ⟨hext,hfr,hC,hmem,hmono,hkeep⟩:=hrel
   unfold Eff Oper.wp
   have hrun:(execOp a.eval o).run P w=.ok .skip w':=by simp [execOp,ho,he,r1]
   rw [hrun]
   show ∃ σ' F' ρ',K σ'∧Next' P c N F ρ own a w σ' (a.put o.dst undef) w' F' ρ'
   rw [hdst]
   exact ⟨_,F,_,hK,⟨H.cfg,fun t=>AVG.imp hC (hk1.sl t),hmem⟩,hext,hfr,fun b h=>.inl h,rfl,rfl,fun m=>by rw [← hv1' m];exact hmono m,fun l' _=>hkeep l'⟩
  ·have hvl:vs.length=xs.length * 1:=hw.1
   refine ⟨(putV cur.toList i [v]).take (xs.length * 1),?_,fun u hu=>?_,fun b' hb'=>vn b' (by rwa [setD_pl] at hb'),fun j y' hj hgj=>?_⟩
   ·rw [setD_pl,List.length_set]
    refine ⟨by rw [List.length_take,hset.1];exact Nat.min_eq_left (by rw [Array.length_toList (xs:=cur),hcs];exact Nat.mul_le_mul_right _ hcap),.inr ⟨gb,cap,_,hs,hbase,r2,hcap,hmax,?_,?_⟩⟩
    ·rw [hv1];simp [hset.1,hcs]
    ·rw [hv1]
   ·obtain ⟨n,hn'⟩:=List.getElem?_of_mem hu
    rw [List.getElem?_take] at hn'
    split at hn'
    ·rw [hset.2] at hn'
     split at hn'
     ·have:u=v:=by simpa using List.mem_of_getElem? hn'
      rw [this];exact CellC.oneCell hcv
     ·rename_i hnl _
      exact v1 u (by rw [← htake];exact List.mem_of_getElem? (i:=n) (by rw [List.getElem?_take,if_pos hnl];exact hn'))
    ·cases hn'
   ·have hjl:j < xs.length:=by have:=(List.getElem?_eq_some_iff.1 hj).1;simpa using this
    rw [setD_inn,setD_pl]
    have hcell:((putV cur.toList i [v]).take (xs.length * 1))[j]?=if j=i then some v else vs[j]?:=by
     rw [List.getElem?_take,if_pos (by omega),hset.2]
     by_cases e:j=i
     ·subst e
      rw [if_pos (by simp),if_pos rfl,Nat.sub_self];rfl
     ·rw [if_neg (by simp;omega),if_neg e,← htake,List.getElem?_take,if_pos (by omega)]
    by_cases e:j=i
    ·subst e
     rw [List.getElem?_set_self hjl] at hj
     injection hj with hj
     subst hj
     simp only [if_true]
     rw [hcell,if_pos rfl,hvq]
     refine ⟨rfl,⟨us,owns_of hwq (fun b' hb'=>r7 b' (hne2 hb')),rowCb hrq⟩,fun b' hb'=>⟨(hnq b' hb').1,(hnq b' hb').2,fun e=>hqb b' hb' (hlb b' (.inl e)),fun j' z' hj' hz' hgj'=>?_⟩⟩
     rw [setD_inn,if_neg hj']
     intro e
     rcases srt_out hgj' with q1|q1
     ·exact hj' q1
     ·rw [List.getElem?_set_ne (Ne.symm hj')] at hz'
      exact hqb b' hb' (hlb b' (.inr ⟨j',z',hz',q1,e⟩))
    ·rw [List.getElem?_set_ne (Ne.symm e)] at hj
     have hgj0:g j=false:=(srt_out hgj).resolve_left e
     obtain ⟨q1,⟨us1,hu1,hr1⟩,q3⟩:=hin j y' hj hgj0
     simp only [if_neg e]
     rw [hcell,if_neg e]
     refine ⟨q1,⟨us1,owns_of hu1 (fun b' hb'=>r7 b' (fun e'=>(q3 b' hb').2.2.1 (by rw [e'];exact hb))),rowCb hr1⟩,fun b' hb'=>⟨(q3 b' hb').1,(q3 b' hb').2.1,(q3 b' hb').2.2.1,fun j' z' hj' hz' hgj'=>?_⟩⟩
     rw [setD_inn]
     by_cases e2:j'=i
     ·rw [if_pos e2]
      exact fun e3=>hqb b' e3 (hlb b' (.inr ⟨j,y',hj,hgj0,hb'⟩))
     ·rw [if_neg e2]
      rw [List.getElem?_set_ne (Ne.symm e2)] at hz'
      exact (q3 b' hb').2.2.2 j' z' hj' hz' ((srt_out hgj').resolve_left e2)
  ·have hlq':=hlq l' hl'
   rw [upd_ne _ _ hlq'] at hl' hh'
   have hbj:blk (if j=i then ρ (pl q) else ρ (inn l j))=some b':=hbj
   split at hbj
   ·exact H.mem.apart q l' b' (Ne.symm hlq') hliveq hl' (holds_of hbj) hh'
   ·rename_i e
    have hjl:j < xs.length:=by simpa using hj
    exact H.mem.apart l l' b' (Ne.symm hne') hlive hl' (hlb b' (.inr ⟨j,_,List.getElem?_eq_getElem hjl,(srt_out hgj).resolve_left e,hbj⟩)) hh'
theorem e_deepMake (H:Here P c N F ρ own slots a w) (hN:∀ b,w.heap.size≤b→N b) {d:Nat} (hd:d < a.tmps.size) (hdst:o.dst=some d) {t:TypeId} {len cap:Operand} (ho:o.op=.makeSlice t len cap)
  {sz:Nat} {z0:List ZK} {ty ety:TypeId} {e:ElB} {b:Nat} {n:Int} (hty:c.ty t=some ⟨sz,z0,.slice ty (.s e) b [.nil]⟩) (hn:evA slots len=.one (.d (.int .i64 n))) (hn':evA slots cap=.one (.d (.int .i64 n)))
  (h0:0≤n) (h1:n≤1073741824) (hb:b≤4096)
  {K:St→Prop} (hK:K ⟨upd slots d (.one (.own d ((own d).ver + 1))),upd own d ⟨(own d).ver + 1,.deep ty ety e (List.replicate n.toNat []) noG⟩⟩):Eff P c N F ρ own o a w K Q:=by
 obtain ⟨hu,hes,_,zv,hzr,hzc,hzs,ie,hie,hiz,hisz,hib⟩:=elem_size (H.cfg.ty _ _ hty)
 obtain ⟨m,rfl⟩:=Int.eq_ofNat_of_zero_le h0
 have hbn:ie.bytes * m≤281474976710656:=by
  have:ie.bytes * m≤4096 * 1073741824:=Nat.mul_le_mul (by omega) (by omega)
  omega
 have hbi:(ie.bytes:Int) * (m:Int)≤281474976710656:=by
  have h:((ie.bytes * m:Nat):Int)≤281474976710656:=by omega
  rwa [Int.natCast_mul] at h
 have hr:=run_make (P:=P) w t ty ie zv hu hie hiz .i64 .i64 m m (by omega) (Int.le_refl _) hbi (by omega)
 simp only [Int.toNat_natCast] at hr
 rw [hisz] at hr
 have hmade:(madeCells zv.cells (m * 1)).toList=(List.replicate m zv.cells.toList).flatten:=by
  have hzs1:zv.cells.size=1:=hzs
  rw [← hzs1]
  exact zeros_row zv.cells m (by rw [hzs1];decide)
 have hzl:zv.cells.toList=[.slice none 0 0]:=hzc
 have hall:(madeCells zv.cells (m * 1)).toList=List.replicate m (.slice none 0 0):=by
  rw [hmade,hzl]
  clear hmade hr hbi hbn h1 h0 hK hn hn'
  induction m with
  | zero=>rfl
  | succ m ih=>rw [List.replicate_succ,List.replicate_succ,List.flatten_cons,ih];rfl
 have hexec:(execOp a.eval o).run P w=.ok (.value (.slice (some ⟨w.heap.size,0,none⟩) m m)) (w.alloc (.cells (madeCells zv.cells (m * 1)) ty)):=by
  simp only [execOp,ho,H.int hn,H.int hn',Sem.run_bind,hr,Result.andThen_ok,Sem.run_pure]
 unfold Eff Oper.wp
 rw [hexec]
 refine next_deep H (w':=w.alloc (.cells (madeCells zv.cells (m * 1)) ty)) (l:=d) (s:=.slice (some ⟨w.heap.size,0,none⟩) m m) (inner:=fun _=>.slice none 0 0) (F':=F) hd hdst rfl rfl rfl (by simp) (fun b hb _=>Below.heap_alloc w _ b hb) (fun _ h=>h) (fun _ h=>.inl h) hN ?_ ?_ (fun ρ' own' h1 h2 _=>?_) hK
 ·refine ⟨(madeCells zv.cells (m * 1)).toList,?_,fun v hv=>?_,fun b hb=>?_,fun i x hx=>?_⟩
  ·simp only [Int.toNat_natCast,List.length_replicate]
   exact World.ownsRow_lit w _ m (Nat.zero_le _) (by unfold maxLen;omega) (size_madeCells _ _)
  ·rw [hall] at hv
   rw [(List.mem_replicate.1 hv).2];rfl
  ·simp only [blk,Option.some.injEq] at hb
   subst hb
   exact ⟨hN _ (Nat.le_refl _),fun hf=>Nat.lt_irrefl _ (H.mem.fin _ hf)⟩
  ·have hi:i < m:=by have:=(List.getElem?_eq_some_iff.1 hx).1;simpa using this
   have hx0:x=[]:=by
    have:=List.mem_of_getElem? hx
    exact (List.mem_replicate.1 this).2
   subst hx0
   exact ⟨by rw [hall,List.getElem?_replicate,if_pos hi],⟨[],World.ownsRow_nil _ _ _ _,fun v hv=>by simp at hv,fun j y hy=>by simp at hy⟩,fun b hb=>by simp [blk] at hb⟩
 ·rintro b' (e|⟨i,y,hi,e⟩) l' hne hl' hh
  ·simp only [blk,Option.some.injEq] at e
   have:=(blk_lt H.mem hl' hh).1
   omega
  ·simp [blk] at e
 ·exact ⟨rfl,by rw [h2];exact Nat.le_refl _,fun _=>h1.symm⟩
theorem sub_some {x:AV} {l ver off:Nat} (h:subCell x=some (l,ver,off)):∃ n,x=.one (.sub l ver off n):=by
 unfold subCell at h
 split at h
 ·injection h with h
  simp only [Prod.mk.injEq] at h
  obtain ⟨rfl,rfl,rfl⟩:=h
  exact ⟨_,rfl⟩
 ·cases h
theorem e_callI (H:Here P c N F ρ own slots a w) {d:Nat} (hd:d < a.tmps.size) (hdst:o.dst=some d) {cl:Call} {g:Operand} (hcl:cl.callee=.value g) {f:FuncId} {caps:List D} (hg:evA slots g=.one (.d (.clo f caps))) {r:AV × (Nat→Loc)}
  (h:acallI c own f (evL (evA slots) cl.args.toList ++ capsOf caps)=.ok p r) (hp:p) (ho:o.op=.call cl)
  {K:St→Prop} (hK:K ⟨upd slots d r.1,r.2⟩):Eff P c N F ρ own o a w K Q:=by
 unfold acallI at h
 split at h
 ·cases h
 ·rename_i con hcon
  obtain ⟨hs,fn,hfn,hname,hbody⟩:=H.cfg.conw f con hcon
  split at h
  ·cases h
  ·rename_i a0 ha0
   split at h
   ·cases h
   ·rename_i l ver off hoc
    split at h
    ·rename_i ver' ty ety e xs gg hl
     split at h
     ·rename_i x hoth hpat
      split at h
      ·rename_i ys hcast
       injection h with e1 e2
       subst e1;subst e2
       obtain ⟨hv1,hty,hoff,hgo,hpre,htr⟩:=hp
       subst hv1;subst hty
       obtain ⟨n,rfl⟩:=sub_some hoc
       have hx0:=getD_some (d:=[]) hoff
       have hok:=H.mem.ok l
       rw [hl] at hok
       have hok0:=hok
       obtain ⟨vs,hw,v1,vn,hin⟩:=hok
       have hgs:=hgo
       have hgo:=hgo.1
       obtain ⟨q1,⟨us0,hu,hr⟩,q3⟩:=hin off _ hx0 hgo
       have hlive:(own l).obj.live=true:=by rw [hl];rfl
       have hclo:DC w F (.clo f caps) (a.eval g):=H.ev' hg
       generalize hge:a.eval g=vg at hclo
       cases hclo with
       | clo us hul hus=>
        have hargs:=args_ok H (cl:=cl) hul hus
        have hcall:=hs w F (setA (evL (evA slots) cl.args.toList ++ capsOf caps) con.wi (.one (.own 0 0))) (cl.args.toList.map a.eval ++ us) (.one (.own 0 0)) 0 0 x (ρ (inn l off)) (.b e) (xs.getD off []) ys us0 (nthA_set ha0) rfl (othersD_set hoth) (by rw [setA_set];exact hpat) hpre hcast H.mem.fin
         (by rw [setA_len];simp [evL,capsOf_len,hul]) (fun j y v hy hv=>by
          by_cases hj:j=con.wi
          ·subst hj
           rw [nthA_eq] at ha0
           have h1:=nthA_set (b:=.one (.own 0 0)) (by rw [nthA_eq];exact ha0)
           rw [nthA_eq,hy] at h1
           injection h1 with h1
           subst h1
           have hc:CellC w F ρ own (.sub l ver off n) v:=hargs _ _ v ha0 hv
           exact (hc.2.2 (by rw [hl])).2 _ _ _ _ _ _ (by rw [hl]) hx0 hgs
          ·rw [setA_get _ _ _ _ hj] at hy
           exact strict_arg (othersD_get hoth j y hj hy) (hargs j y v hy hv)) hu hr
         (fun b hb=>⟨(hu.lt b (blk_own hu hb)).2,(q3 b hb).2.1⟩) (own_one hu)
        unfold Eff Oper.wp
        rw [enter_run hcl hge ho hfn hname hbody]
        refine hcall.mono fun e' w' he=>?_
        obtain ⟨v,s',cells',F',rfl,hgr,qF,q2,q3',q4,q5,q6⟩:=he
        rw [htr] at q6
        obtain ⟨rfl,hav⟩:=q6
        have hbl:∀ b,blk (ρ (inn l off))=some b→holds ρ l (own l).obj b:=fun b hb=>by rw [hl];exact .inr ⟨off,_,hx0,hgo,hb⟩
        refine next_inner H hd hdst (ty:=ty) (ety:=con.ty) (e:=e) (xs:=xs) (ys:=xs.set off ys) (g:=gg) (w':=w') hl (by simp) hgr.os hgr.tape hgr.output hgr.size (fun b hb hnh=>hgr.block b hb (fun e=>hnh (hbl b e.symm))) ?_ hav hK
        have keepb:∀ b,b < w.heap.size→blk (ρ (inn l off))≠some b→w'.heap[b]?=w.heap[b]?:=fun b hb h=>hgr.block b hb (fun e=>h e.symm)
        refine ⟨vs,owns_of (by rw [List.length_set];exact hw) (fun b hb=>keepb b (hw.lt b (blk_own hw hb)).2 (fun e=>(q3 b e).2.2.1 hb)),v1,vn,fun i y hi hgi=>?_⟩
        have hlt:i < xs.length:=by have:=(List.getElem?_eq_some_iff.1 hi).1;simpa using this
        have hrest:∀ b,blk (ρ (inn l i))=some b→N b∧¬ F b∧blk (ρ (pl l))≠some b∧∀ j y,j≠i→(xs.set off ys)[j]?=some y→gg j=false→blk (ρ (inn l j))≠some b:=fun b hb=>by
         obtain ⟨_,_,r3⟩:=hin i _ (List.getElem?_eq_getElem hlt) hgi
         refine ⟨(r3 b hb).1,(r3 b hb).2.1,(r3 b hb).2.2.1,fun j y hj hy hgj=>?_⟩
         have hjl:j < xs.length:=by have:=(List.getElem?_eq_some_iff.1 hy).1;simpa using this
         exact (r3 b hb).2.2.2 j _ hj (List.getElem?_eq_getElem hjl) hgj
        by_cases hio:i=off
        ·subst hio
         rw [List.getElem?_set_self hlt] at hi
         injection hi with hi
         subst hi
         exact ⟨q1,⟨_,q3',rowCb q4⟩,hrest⟩
        ·rw [List.getElem?_set_ne (Ne.symm hio)] at hi
         obtain ⟨r1,⟨us1,hu1,hr1⟩,r3⟩:=hin i y hi hgi
         exact ⟨r1,⟨us1,owns_of hu1 (fun b hb=>keepb b (hu1.lt b (blk_own hu1 hb)).2 (fun e=>(q3 b e).2.2.2 i y hio hi hgi hb)),rowCb hr1⟩,hrest⟩
      ·cases h
     ·cases h
    ·cases h
theorem e_callD (H:Here P c N F ρ own slots a w) (hN:∀ b,w.heap.size≤b→N b) {d:Nat} (hd:d < a.tmps.size) (hdst:o.dst=some d) {cl:Call} {g:Operand} (hcl:cl.callee=.value g) {f:FuncId} {caps:List D} (hg:evA slots g=.one (.d (.clo f caps))) {r:AV × (Nat→Loc)}
  (h:acallD c own f (evL (evA slots) cl.args.toList ++ capsOf caps)=.ok p r) (hp:p) (ho:o.op=.call cl)
  {K:St→Prop} (hK:K ⟨upd slots d r.1,r.2⟩):Eff P c N F ρ own o a w K Q:=by
 unfold acallD at h
 split at h
 ·cases h
 ·rename_i con hcon
  obtain ⟨hs,fn,hfn,hname,hbody⟩:=H.cfg.cond f con hcon
  split at h
  ·cases h
  ·cases h
  rename_i hkind
  have hs:SoundDD P f con:=by unfold SoundD at hs;rw [hkind] at hs;exact hs
  split at h
  ·cases h
  ·rename_i a0 ha0
   split at h
   ·cases h
   ·rename_i l ver hoc
    split at h
    ·rename_i ver' ty ety xs gg hl
     split at h
     ·rename_i x hoth hpat
      injection h with e1 e2
      subst e1;subst e2
      obtain ⟨hv1,hty,hety,hgg,hpre,hlen⟩:=hp
      subst hv1;subst hty;subst hety
      have hlive:(own l).obj.live=true:=by rw [hl];rfl
      obtain ⟨vs,hw,v1,vn,vin⟩:=deep_at H hl hgg
      have hclo:DC w F (.clo f caps) (a.eval g):=H.ev' hg
      generalize hge:a.eval g=vg at hclo
      cases hclo with
      | clo us hul hus=>
       have hargs:=args_ok H (cl:=cl) hul hus
       have hcall:=hs w F (evL (evA slots) cl.args.toList ++ capsOf caps) (cl.args.toList.map a.eval ++ us) a0 l ver x (ρ (pl l)) xs (fun i=>ρ (inn l i)) ha0 hoc hoth hpat hpre hlen H.mem.fin
        (by simp [evL,capsOf_len,hul]) (fun j y v hy hv=>by
         by_cases hj:j=con.wi
         ·subst hj
          rw [nthA_eq,hy] at ha0
          injection ha0 with ha0
          subst ha0
          exact own_arg hoc ⟨by rw [hl],by rw [hl];trivial⟩ (hargs _ y v hy hv)
         ·exact strict_arg (othersD_get hoth j y hj hy) (hargs j y v hy hv))
        ⟨vs,hw,v1,fun b hb=>⟨(vn b hb).2.1,(vn b hb).1.2⟩,fun i y hi=>⟨(vin i y hi).1,(vin i y hi).2.1,fun b hb=>⟨⟨((vin i y hi).2.2 b hb).1.2.1,((vin i y hi).2.2 b hb).1.1.2⟩,((vin i y hi).2.2 b hb).2⟩⟩⟩ (own_one hw)
       unfold Eff Oper.wp
       rw [enter_run hcl hge ho hfn hname hbody]
       refine hcall.mono fun e' w' he=>?_
       obtain ⟨v,inner,rfl,hos,htape,hout,hsz,hoth',hdeep,hbl,hav⟩:=he
       have hlive':(own l).obj.live=true:=by rw [hl];rfl
       have hhold:∀ b,(blk (ρ (pl l))=some b∨∃ i,i < xs.length∧blk (ρ (inn l i))=some b)→holds ρ l (own l).obj b:=fun b hb=>by
        rw [hl]
        rcases hb with hb|⟨i,hi,hb⟩
        ·exact .inl hb
        ·exact .inr ⟨i,_,List.getElem?_eq_getElem hi,hgg i hi,hb⟩
       have hNb:∀ i b,i < xs.length→blk (inner i)=some b→N b∧¬ F b:=fun i b hi hb=>by
        rcases hbl i b hi hb with h|h
        ·exact ⟨hN b h,fun hf=>by have:=H.mem.fin b hf;omega⟩
        ·exact (blk_lt H.mem hlive' (hhold b (.inr h))).2
       obtain ⟨vs',hw',v1',vn',vin'⟩:=hdeep
       have hrel:=relay H (w':=w') (ty:=con.ty) (ety:=con.ety) (e:=.int) (xs:=xs) (ys:=con.out x) (g:=gg) (g':=upd gg srt true) (inner:=inner) hl hlen (upd_eq _ _ _) hos htape hout hsz (fun b hb hnh=>hoth' b hb (fun e=>hnh (hhold b (.inl e))) (fun i hi e=>hnh (hhold b (.inr ⟨i,hi,e⟩)))) ?_ (fun i b hi _ hb l' hne hl' hh=>?_)
       ·obtain ⟨hext,hfr,hC,hmem,hmono,hkeep⟩:=hrel
        refine ⟨_,F,_,hK,⟨H.cfg,?_,hmem⟩,hext,hfr,fun b h=>.inl h,?_,?_,hmono,fun l' _=>hkeep l'⟩
        ·rw [hdst]
         refine slots_put hC H.sl hd (AVG.imp (fun z v hz=>?_) hav)
         cases z with
         | d x=>exact DC.mono (ext_sub fun b hb=>hb.elim) hz
         | own _ _=>cases hz
         | ptr _ _ _ _=>exact hz.elim
         | sub _ _ _ _=>exact hz.elim
        ·rw [hdst];exact put_size _ _ _
        ·rw [hdst];exact put_defers' _ _ _
       ·refine ⟨vs',by rw [setD_pl];exact hw',v1',fun b hb=>(blk_lt H.mem hlive' (hhold b (.inl (by rwa [setD_pl] at hb)))).2,fun i y hi hgi=>?_⟩
        obtain ⟨r1,⟨us1,hu1,hr1⟩,r3⟩:=vin' i y hi
        have hlt:i < xs.length:=by have:=(List.getElem?_eq_some_iff.1 hi).1;omega
        rw [setD_inn,setD_pl]
        exact ⟨r1,⟨us1,hu1,rowCb hr1⟩,fun b hb=>⟨(hNb i b hlt hb).1,(hNb i b hlt hb).2,(r3 b hb).2.1,fun j y hj hy _=>by rw [setD_inn];exact (r3 b hb).2.2 j y hj hy⟩⟩
       ·rcases hbl i b (by omega) hb with h|h
        ·have:=(blk_lt H.mem hl' hh).1;omega
        ·exact H.mem.apart l l' b (Ne.symm hne) hlive' hl' (hhold b (.inr h)) hh
     ·cases h
    ·cases h
theorem box_some {x:AV} {l ver:Nat} (h:boxCell x=some (l,ver)):x=.one (.ptr l ver 0 0):=by
 unfold boxCell at h
 split at h
 ·injection h with h
  simp only [Prod.mk.injEq] at h
  obtain ⟨rfl,rfl⟩:=h
  rfl
 ·cases h
theorem strict_argB {s:Value} {y:AV} {v:Value} (h:strictD y=true) (hy:AVC w F ρ own y v):AVG (ArgCellB w F s) y v:=by
 match y,h with
 | .one (.d x),_=>exact hy
 | .agg cs,h=>
  obtain ⟨vs,hv,hs⟩:=hy
  refine ⟨vs,hv,hs.imp fun z u hz hc=>?_⟩
  have:=List.all_eq_true.1 h z hz
  cases z with
  | d x=>exact hc
  | own _ _=>cases this
  | ptr _ _ _ _=>cases this
  | sub _ _ _ _=>cases this
theorem strict_data {ρ':Nat→Value} {own':Nat→Loc} {y:AV} {v:Value} (h:strictD y=true) (hy:AVC w F ρ own y v):AVC w F ρ' own' y v:=by
 match y,h with
 | .one (.d x),_=>exact hy
 | .agg cs,h=>
  obtain ⟨vs,hv,hs⟩:=hy
  refine ⟨vs,hv,hs.imp fun z u hz hc=>?_⟩
  have:=List.all_eq_true.1 h z hz
  cases z with
  | d x=>exact hc
  | own _ _=>cases this
  | ptr _ _ _ _=>cases this
  | sub _ _ _ _=>cases this
theorem dOf_eq:∀ {cs:List Cell} {ds:List D},dOf cs=some ds→cs=ds.map .d
 | [],ds,h=>by simp [dOf] at h;subst h;rfl
 | .d x :: cs,ds,h=>by
  unfold dOf at h
  split at h
  ·rename_i l hl
   injection h with h
   subst h
   rw [List.map_cons,← dOf_eq hl]
  ·cases h
 | .own .. :: _,ds,h=>by cases h
 | .ptr .. :: _,ds,h=>by cases h
 | .sub .. :: _,ds,h=>by cases h
theorem box_at (H:Here P c N F ρ own slots a w) {l ver:Nat} {ty:TypeId} {cs:List Cell} {ds:List D} (hl:own l=⟨ver,.box ty cs⟩) (hd:dOf cs=some ds) :
  ∃ b,ρ (pl l)=.pointer (some ⟨b,0,none⟩)∧BoxAt w F ty ds b∧N b∧¬ F b∧b < w.heap.size:=by
 have hok:=H.mem.ok l
 rw [hl] at hok
 obtain ⟨b,us,h1,h2,h3,h4,h5,h6⟩:=hok
 refine ⟨b,h1,⟨us,h2,h4,?_,fun j x u hx hu=>?_⟩,h5,h6,lt_of_block h2⟩
 ·rw [h3.1,dOf_eq hd,List.length_map]
 ·have hc:cs[j]?=some (.d x):=by rw [dOf_eq hd,List.getElem?_map,hx];rfl
  exact h3.2 j _ u hc hu
theorem box_own {ρ':Nat→Value} {own':Nat→Loc} {l b:Nat} {ty:TypeId} {ds:List D} (hρ:ρ' (pl l)=.pointer (some ⟨b,0,none⟩)) (h:BoxAt w F ty ds b) (hN:N b) (hF:¬ F b):OwnOk w N F ρ' own' l (.box ty (ds.map .d)):=by
 obtain ⟨us,h1,h2,h3,h4⟩:=h
 refine ⟨b,us,hρ,h1,⟨by rw [List.length_map];exact h3,fun j z v hz hv=>?_⟩,h2,hN,hF⟩
 rw [List.getElem?_map] at hz
 cases hx:ds[j]? with
 | none=>rw [hx] at hz;cases hz
 | some x=>
  rw [hx] at hz
  injection hz with hz
  subst hz
  exact h4 j x v hx hv
theorem e_callB (H:Here P c N F ρ own slots a w) (hN:∀ b,w.heap.size≤b→N b) {d:Nat} (hd:d < a.tmps.size) (hdst:o.dst=some d) {cl:Call} {g:Operand} (hcl:cl.callee=.value g) {f:FuncId} {caps:List D} (hg:evA slots g=.one (.d (.clo f caps))) {r:AV × (Nat→Loc)}
  (h:acallB c own f (evL (evA slots) cl.args.toList ++ capsOf caps)=.ok p r) (hp:p) (ho:o.op=.call cl)
  {K:St→Prop} (hK:K ⟨upd slots d r.1,r.2⟩):Eff P c N F ρ own o a w K Q:=by
 unfold acallB at h
 split at h
 ·cases h
 ·rename_i con hcon
  obtain ⟨hs,fn,hfn,hname,hbody⟩:=H.cfg.cond f con hcon
  split at h
  ·cases h
  ·cases h
  rename_i hkind
  have hs:SoundB P f con:=by unfold SoundD at hs;rw [hkind] at hs;exact hs
  split at h
  ·cases h
  ·rename_i a0 ha0
   split at h
   ·cases h
   ·rename_i l ver hoc
    split at h
    ·rename_i ver' ty cs hl
     split at h
     ·cases h
     rename_i ds hds
     split at h
     ·rename_i x hoth hpat
      injection h with e1 e2
      subst e1;subst e2
      obtain ⟨hv1,hty,-,hpre⟩:=hp
      subst hv1;subst hty
      have hlive:(own l).obj.live=true:=by rw [hl];rfl
      obtain ⟨b,hρ,hbox,hNb,hFb,hblt⟩:=box_at H hl hds
      have hclo:DC w F (.clo f caps) (a.eval g):=H.ev' hg
      generalize hge:a.eval g=vg at hclo
      cases hclo with
      | clo us hul hus=>
       have hargs:=args_ok H (cl:=cl) hul hus
       have hcall:=hs w F (evL (evA slots) cl.args.toList ++ capsOf caps) (cl.args.toList.map a.eval ++ us) a0 l ver x b ds ha0 hoc hoth hpat hpre H.mem.fin
        (by simp [evL,capsOf_len,hul]) (fun j y v hy hv=>by
         by_cases hj:j=con.wi
         ·subst hj
          rw [nthA_eq,hy] at ha0
          injection ha0 with ha0
          subst ha0
          have h1:=hargs _ y v hy hv
          rw [box_some hoc] at h1 ⊢
          have h1:CellC w F ρ own (.ptr l ver 0 0) v:=h1
          have h2:=h1.2.2 (by rw [hl])
          rw [hl] at h2
          obtain ⟨b',h3,h4,-⟩:=h2
          rw [hρ] at h3
          injection h3 with h3
          subst h3
          exact h4
         ·exact strict_argB (othersD_get hoth j y hj hy) (hargs j y v hy hv)) hbox hblt hFb
       unfold Eff Oper.wp
       rw [enter_run hcl hge ho hfn hname hbody]
       refine hcall.mono fun e' w' he=>?_
       obtain ⟨v,rfl,hgr,hbox',hav⟩:=he
       have hkeep:∀ g,g < w.heap.size→g≠b→w'.heap[g]?=w.heap[g]?:=fun g hg hne=>hgr.block g hg (fun e=>hne (by injection e))
       have hnew:∀ g,g < w.heap.size→¬ F g→¬ newF w w' F g:=fun g hg hn hf=>by
        rcases hf with hf|hf
        ·exact hn hf
        ·omega
       have hext:Ext w F w' (newF w w' F):=⟨hgr.os,hgr.tape,hgr.output,hgr.size,fun g hg=>hkeep g (H.mem.fin g hg) (fun e=>hFb (e ▸ hg)),fun g hg=>.inl hg⟩
       have hother:∀ l',l'≠l→upd own l ⟨ver,.box con.ty ((con.outB x).map .d)⟩ l'=own l'∧ρ (pl l')=ρ (pl l'):=fun l' h=>⟨upd_ne _ _ h,rfl⟩
       have hC:∀ z v,CellC w F ρ own z v→CellC w' (newF w w' F) ρ (upd own l ⟨ver,.box con.ty ((con.outB x).map .d)⟩) z v:=fun z v h=>
        h.step (l:=l) hext hother (.inr (by rw [upd_eq];exact ⟨by rw [hl],rfl,.inl ⟨con.ty,cs,_,by rw [hl],rfl⟩⟩))
       refine ⟨_,newF w w' F,ρ,hK,⟨H.cfg,?_,?_⟩,hext,fun g hg hn=>hkeep g hg (fun e=>hn (e ▸ hNb)),fun g hg=>hg.imp id fun h=>hN g h.1,?_,?_,fun l'=>?_,fun _ _=>rfl⟩
       ·rw [hdst]
        refine slots_put hC H.sl hd (AVG.imp (fun z v hz=>?_) hav)
        cases z with
        | d x=>exact hz
        | own _ _=>cases hz
        | ptr _ _ _ _=>exact hz.elim
        | sub _ _ _ _=>exact hz.elim
       ·refine H.mem.step (l:=l) hext hother (fun _ _ _=>rfl) hC (fun l' g hne hl' hb hlt hn=>⟨hkeep g hlt (fun e=>H.mem.apart l l' g (Ne.symm hne) hlive hl' (holds_of (by rw [hρ,e];rfl)) hb),hnew g hlt hn⟩) ?_
         (fun l' g hne hl' e1 e2=>H.mem.apart l l' g (Ne.symm hne) hlive hl' (holds_of (by simpa only [upd_eq,holds] using e1)) e2) (fun g hg=>hg.elim (fun h=>Nat.lt_of_lt_of_le (H.mem.fin g h) hgr.size) (fun h=>h.2))
        show OwnOk _ N _ _ _ l (upd own l _ l).obj
        rw [upd_eq]
        exact box_own hρ hbox' hNb (hnew b hblt hFb)
       ·rw [hdst];exact put_size _ _ _
       ·rw [hdst];exact put_defers' _ _ _
       ·have:=ver_same own l (.box con.ty ((con.outB x).map .d)) l'
        rw [hl] at this
        exact this
     ·cases h
    ·cases h
theorem e_callN (H:Here P c N F ρ own slots a w) (hN:∀ b,w.heap.size≤b→N b) {d:Nat} (hd:d < a.tmps.size) (hdst:o.dst=some d) {cl:Call} {g:Operand} (hcl:cl.callee=.value g) {f:FuncId} {caps:List D} (hg:evA slots g=.one (.d (.clo f caps))) {r:AV × (Nat→Loc)}
  (h:acallN c own f (evL (evA slots) cl.args.toList ++ capsOf caps) d=.ok p r) (hp:p) (ho:o.op=.call cl)
  {K:St→Prop} (hK:K ⟨upd slots d r.1,r.2⟩):Eff P c N F ρ own o a w K Q:=by
 unfold acallN at h
 split at h
 ·cases h
 ·rename_i con hcon
  obtain ⟨hs,fn,hfn,hname,hbody⟩:=H.cfg.cond f con hcon
  split at h
  ·cases h
  ·cases h
  rename_i hkind
  have hs:SoundN P f con:=by unfold SoundD at hs;rw [hkind] at hs;exact hs
  split at h
  ·rename_i x hstr hpat
   injection h with e1 e2
   subst e1;subst e2
   have hclo:DC w F (.clo f caps) (a.eval g):=H.ev' hg
   generalize hge:a.eval g=vg at hclo
   cases hclo with
   | clo us hul hus=>
    have hargs:=args_ok H (cl:=cl) hul hus
    have hcall:=hs w F (evL (evA slots) cl.args.toList ++ capsOf caps) (cl.args.toList.map a.eval ++ us) x hpat hp H.mem.fin (by simp [evL,capsOf_len,hul])
     (fun j y v hy hv=>strict_data (List.all_eq_true.1 hstr y (List.mem_of_getElem? hy)) (hargs j y v hy hv))
    unfold Eff Oper.wp
    rw [enter_run hcl hge ho hfn hname hbody]
    refine hcall.mono fun e' w' he=>?_
    obtain ⟨b,rfl,hbel,hge1,hlt1,hbox⟩:=he
    have hnew:∀ g,g < w.heap.size→¬ F g→¬ (newF w w' F g∧g≠b):=fun g hg hn hf=>by
     rcases hf.1 with hf|hf
     ·exact hn hf
     ·omega
    have hext:Ext w F w' (fun g=>newF w w' F g∧g≠b):=⟨hbel.os,hbel.tape,hbel.output,hbel.size,fun g hg=>hbel.block g (H.mem.fin g hg),fun g hg=>⟨.inl hg,fun e=>by have:=H.mem.fin g hg;omega⟩⟩
    have hC:∀ z v,CellC w F ρ own z v→CellC w' (fun g=>newF w w' F g∧g≠b) (upd ρ (pl d) (.pointer (some ⟨b,0,none⟩))) (upd own d ⟨(own d).ver + 1,.box con.ty ((con.outB x).map .d)⟩) z v:=fun z v h=>
     h.step (l:=d) hext (upd_two own ρ d _ _) (.inl (by rw [upd_eq];exact Nat.lt_succ_self _))
    refine ⟨_,_,upd ρ (pl d) (.pointer (some ⟨b,0,none⟩)),hK,⟨H.cfg,?_,?_⟩,hext,fun g hg _=>hbel.block g hg,fun g hg=>hg.1.imp id fun h=>hN g h.1,?_,?_,ver_two own d _,keep_two own ρ d _ _⟩
    ·rw [hdst]
     refine slots_put hC H.sl hd (x:=.one (.ptr d ((own d).ver + 1) 0 0)) ?_
     show CellC w' F _ _ (.ptr d ((own d).ver + 1) 0 0) _
     exact ⟨rfl,by rw [upd_eq];exact Nat.le_refl _,fun _=>by rw [upd_eq,upd_eq];exact ⟨b,rfl,rfl,rfl⟩⟩
    ·refine H.mem.step (l:=d) hext (upd_two own ρ d _ _) (inn_two ρ d _) hC (fun l' g hne hl' hb hlt hn=>⟨hbel.block g hlt,hnew g hlt hn⟩) ?_ (fun l' g hne hl' e1 e2=>?_) (fun g hg=>hg.1.elim (fun h=>Nat.lt_of_lt_of_le (H.mem.fin g h) hbel.size) (fun h=>h.2))
     ·show OwnOk _ N _ _ _ d (upd own d _ d).obj
      rw [upd_eq]
      exact box_own (w:=w') (F:=fun g=>newF w w' F g∧g≠b) (upd_eq _ _ _) hbox (hN b hge1) (fun h=>h.2 rfl)
     ·simp only [upd_eq,holds,blk,Option.some.injEq] at e1
      have h2:=(blk_lt H.mem hl' e2).1
      omega
    ·rw [hdst];exact put_size _ _ _
    ·rw [hdst];exact put_defers' _ _ _
  ·cases h
theorem s_deep (H:Here P c N F ρ own slots a w) (hN:∀ b,w.heap.size≤b→N b) (hd:∀ d,o.dst=some d→d < a.tmps.size) {r:AV × (Nat→Loc)} (h:aeffD c o (evA slots) own=.ok p r) (hp:p) {K:St→Prop} (hK:K ⟨(St.put ⟨slots,own⟩ o.dst r.1).slots,r.2⟩):Eff P c N F ρ own o a w K Q:=by
 unfold aeffD at h
 split at h
 ·rename_i t len parts d ho hdst
  rw [hdst] at hK
  split at h
  ·rename_i sz z0 ty e b z hty hparts
   split at h
   ·split at h
    ·injection h with e1 e2
     subst e2
     exact e_deep0 H hN (hd d hdst) hdst ho hparts hty hK
    ·cases h
   ·cases h
  ·rename_i sz z0 ty e b z x hty hparts
   split at h
   ·rename_i l ver hx
    split at h
    ·rename_i ver' ety e' xs hl
     split at h
     ·rename_i xs' hcast
      obtain ⟨ee,he⟩:=castB_ok hcast
      subst ee
      subst he
      injection h with e1 e2
      subst e1;subst e2
      obtain ⟨rfl,hne⟩:=hp
      have hok:=H.mem.ok l
      rw [hl] at hok
      obtain ⟨us,hw,hr,hn⟩:=hok
      have hxd:CellC w F ρ own (.own l ver) (a.eval x):=H.ev' hx
      have hxe:=hxd.2.2 ⟨by rw [hl],by rw [hl];trivial⟩
      have hvl:(own l).ver=ver:=by rw [hl]
      have hk1:=H.kill1 l
      rw [hvl] at hk1
      refine Eff.base (own1:=upd own l ⟨ver,.dead⟩) (fun m=>?_) ?_
      ·rw [upd_get];split
       ·rename_i e;rw [e,hl]
       ·rfl
      ·refine e_deep1 hk1 hN (hd d hdst) hdst ho hparts hty (by rw [hxe];exact hw) hr (fun b hb=>hn b (by rw [← hxe];exact hb)) (fun b hb l' hne' hl' hh=>?_) (by rw [upd_ne _ _ hne];exact hK)
       rw [hxe] at hb
       have hll:l'≠l:=fun e=>by subst e;rw [upd_eq] at hl';cases hl'
       rw [upd_ne _ _ hll] at hl' hh
       exact H.mem.apart l l' b (Ne.symm hll) (by rw [hl];rfl) hl' (by rw [hl];exact hb) hh
     ·cases h
    ·cases h
   ·rename_i l ver off n hx
    split at h
    ·rename_i ver' ty' ety e' xs g hl
     split at h
     ·rename_i x' hcast
      obtain ⟨ee,he⟩:=castB_ok hcast
      subst ee
      subst he
      injection h with e1 e2
      subst e1;subst e2
      obtain ⟨rfl,hne,hoff,hgo⟩:=hp
      have hx0:=getD_some (d:=[]) hoff
      have hok:=H.mem.ok l
      rw [hl] at hok
      obtain ⟨vs,hw,v1,vn,hin⟩:=hok
      have hgs:=hgo
      have hgo:=hgo.1
      obtain ⟨q1,⟨us,hu,hr⟩,q3⟩:=hin off _ hx0 hgo
      have hxd:CellC w F ρ own (.sub l ver off n) (a.eval x):=H.ev' hx
      have hxe:=(hxd.2.2 (by rw [hl])).2 _ _ _ _ _ _ (by rw [hl]) hx0 hgs
      have hmono:∀ i,upd g off true i=false→g i=false:=fun i h=>by
       rw [upd_get] at h
       split at h
       ·cases h
       ·exact h
      have hk1:=H.gone hl hmono
      refine Eff.base (own1:=upd own l ⟨ver,.deep ty' ety _ xs (upd g off true)⟩) (fun m=>?_) ?_
      ·rw [upd_get];split
       ·rename_i e;rw [e,hl]
       ·rfl
      ·refine e_deep1 hk1 hN (hd d hdst) hdst ho hparts hty (by rw [hxe];exact hu) hr (fun b hb=>⟨(q3 b (by rw [← hxe];exact hb)).1,(q3 b (by rw [← hxe];exact hb)).2.1⟩) (fun b hb l' hne' hl' hh=>?_) (by rw [upd_ne _ _ hne];exact hK)
       rw [hxe] at hb
       by_cases hll:l'=l
       ·subst hll
        rw [upd_eq] at hh
        rcases hh with hh|⟨i,y,hi,hgi,hh⟩
        ·exact (q3 b hb).2.2.1 hh
        ·have hio:i≠off:=fun e=>by subst e;rw [upd_eq] at hgi;cases hgi
         exact (q3 b hb).2.2.2 i y hio hi (hmono i hgi) hh
       ·rw [upd_ne _ _ hll] at hl' hh
        exact H.mem.apart l l' b (Ne.symm hll) (by rw [hl];rfl) hl' (by rw [hl];exact .inr ⟨off,_,hx0,hgo,hb⟩) hh
     ·cases h
    ·cases h
   ·cases h
  ·cases h
 ·rename_i t a0 x ho hdst
  rw [hdst] at hK
  split at h
  ·rename_i l ver i q verq ti hx hz hti
   split at h
   ·rename_i ver' ty ety e xs g verq' ety' e' ys hsz hl hq
    split at h
    ·rename_i y hcast
     obtain ⟨ee,he⟩:=castB_ok hcast
     subst ee
     subst he
     injection h with e1 e2
     subst e1;subst e2
     obtain ⟨hne,rfl,rfl,rfl,hi⟩:=hp
     exact e_store_deep H hdst ho hx hz hti (Nat.eq_of_beq_eq_true hsz) hne hl hq hi hK
    ·cases h
   ·cases h
  ·cases h
 ·rename_i t len cap d ho hdst
  rw [hdst] at hK
  split at h
  ·rename_i sz z0 ty e b n n' hty hn hn'
   split at h
   ·split at h
    ·injection h with e1 e2
     subst e1;subst e2
     obtain ⟨rfl,h0,h1,hb⟩:=hp
     exact e_deepMake H hN (hd d hdst) hdst ho hty hn hn' h0 h1 hb hK
    ·cases h
   ·cases h
  ·cases h
 ·rename_i cl d0 ho hdst0
  split at h
  ·rename_i hcl
   split at h
   ·rename_i l ver q verq t t' hargs hat
    split at h
    ·rename_i sz z0 te e b z htt hty
     have:=Nat.eq_of_beq_eq_true htt
     subst this
     obtain ⟨s0,r0,hargs',hs0,hr⟩:=evL_cons hargs
     obtain ⟨x0,r0,rfl,hx0,hr⟩:=evL_cons hr
     rw [evL_nil hr] at hargs'
     split at h
     ·rename_i ver' ty ety e1 xs g verq' ty2 ety' e2 ys g' hl hq
      split at h
      ·rename_i xs' ys' hc1 hc2
       obtain ⟨ee,he⟩:=castBB_ok hc1
       subst ee
       subst he
       obtain ⟨ee,he⟩:=castBB_ok hc2
       subst ee
       subst he
       injection h with k1 k2
       subst k1;subst k2
       obtain ⟨hne,rfl,rfl,rfl,rfl,hg,hg',hlen,hb⟩:=hp
       rw [hdst0] at hK
       exact e_deepApp H hN (hd _ hdst0) hdst0 ho hcl hargs' hat hty hs0 hx0 hne hl hq hg hg' hlen hb hK
      ·cases h
     ·cases h
    ·cases h
   ·cases h
  ·rename_i gf hcl
   split at h
   ·rename_i f caps d hg hdst
    rw [hdst] at hK
    split at h
    ·rename_i p' r' hac
     injection h with e1 e2
     subst e1;subst e2
     exact e_callI H (hd d hdst) hdst hcl hg hac hp ho hK
    ·split at h
     ·rename_i p' r' hac
      injection h with e1 e2
      subst e1;subst e2
      exact e_callD H hN (hd d hdst) hdst hcl hg hac hp ho hK
     ·split at h
      ·rename_i p' r' hac
       injection h with e1 e2
       subst e1;subst e2
       exact e_callB H hN (hd d hdst) hdst hcl hg hac hp ho hK
      split at h
      ·rename_i p' r' hac
       injection h with e1 e2
       subst e1;subst e2
       exact e_callN H hN (hd d hdst) hdst hcl hg hac hp ho hK
      split at h
      ·rename_i ety p' r' hdp hac
       split at h
       ·rename_i ty nl e xs hrow
        injection h with e1 e2
        subst e1;subst e2
        exact e_deepCall H hN (hd d hdst) hdst hcl hg hac hp ho hrow hdp hK
       ·cases h
      ·cases h
   ·cases h
  ·cases h
 ·cases h
end
section
variable {P : Program} {c : Cfg} {w : World} {N F : Nat → Prop} {ρ : Nat → Value} {own : Nat → Loc} {slots : Nat → AV} {a : Act} {Q : Exit → Act → World → Prop} {o : Oper} {p : Prop} {y : AV}
theorem asYs_ok {k:ElK} {x:AV} {ys:List k.T} {v:Value} {ρ':Nat→Value} {own':Nat→Loc} (h:asYs k x=some ys) (hx:AVC w F ρ' own' x v):SLK w F k ys v:=by
 unfold asYs at h
 split at h
 ·rename_i nl k' zs
  obtain ⟨e,he⟩:=castL_ok h
  subst e
  subst he
  have hd:DC w F (.sl nl k' zs) v:=hx
  cases hd with
  | sl _ hs=>exact hs
 ·injection h with h
  subst h
  have hd:DC w F .nil v:=hx
  exact .inl ⟨nilD hd,rfl⟩
 ·cases h
theorem base_or {bv:Bool} {k:ElK} (h:(bv && !k.base)=false):k.base=true∨∀ n,viewF w F bv n→F n:=by
 cases bv with
 | false=>exact .inr fun n hn=>hn.elim id (fun h=>by cases h.1)
 | true=>cases hk:k.base with
  | true=>exact .inl rfl
  | false=>rw [hk] at h;cases h
theorem s_eff (H:Here P c N F ρ own slots a w) (hN:∀ b,w.heap.size≤b→N b) (hd:∀ d,o.dst=some d→d < a.tmps.size) {r:AV × (Nat→Loc)} (h:aeff c o (evA slots) own=.ok p r) (hp:p) {K:St→Prop} (hK:K ⟨(St.put ⟨slots,own⟩ o.dst r.1).slots,r.2⟩):Eff P c N F ρ own o a w K Q:=by
 unfold aeff at h
 split at h
 ·rename_i t d ho hdst
  rw [hdst] at hK
  split at h
  ·rename_i i hi
   injection h with e1 e2
   subst e2
   exact e_alloc H hN (hd d hdst) hdst ho hi hK
  ·cases h
 ·rename_i t x d ho hdst
  rw [hdst] at hK
  split at h
  ·rename_i cs hcs
   injection h with e1 e2
   subst e2
   exact e_box H hN (hd d hdst) hdst ho hcs hK
  ·cases h
 ·rename_i t len parts d ho hdst
  rw [hdst] at hK
  split at h
  ·rename_i sz z0 e k b z hty
   split at h
   ·rename_i xs hlen hel
    injection h with e1 e2
    subst e2
    exact e_buildSlice H hN (hd d hdst) hdst ho hty (Nat.le_of_ble_eq_true hlen) hel hK
   ·cases h
  ·cases h
 ·rename_i t len cap d ho hdst
  rw [hdst] at hK
  split at h
  ·rename_i sz z0 e k b z n n' hty hn hn'
   split at h
   ·rename_i x hx
    injection h with e1 e2
    subst e1;subst e2
    obtain ⟨rfl,h0,h1,hb⟩:=hp
    exact e_makeSlice H hN (hd d hdst) hdst ho hty hn hn' hx h0 h1 hb hK
   ·cases h
  ·cases h
 ·rename_i t x z ho hdst
  rw [hdst] at hK
  split at h
  ·rename_i l ver i j cs ti hx hz hti
   split at h
   ·rename_i ver' ty cs' hsz hl
    injection h with e1 e2
    subst e1;subst e2
    obtain ⟨rfl,hle⟩:=hp
    exact e_store_box H hdst ho hx hz hti (Nat.eq_of_beq_eq_true hsz) hl hle hK
   ·rename_i ver' ty k xs hsz hl
    split at h
    ·rename_i xs' hset
     injection h with e1 e2
     subst e1;subst e2
     obtain ⟨rfl,hle,hi⟩:=hp
     unfold setElem at hset
     split at hset
     ·rename_i y hy
      injection hset with hset
      subst hset
      exact e_store_row H hdst ho hx hz hti (Nat.eq_of_beq_eq_true hsz) hl hle hi hy hK
     ·cases hset
    ·cases h
   ·cases h
  ·cases h
 ·rename_i t x hi d ho hdst
  rw [hdst] at hK
  split at h
  ·rename_i sz z0 e k' b z l ver ki hh hty hx hhi
   split at h
   ·rename_i ver' ty k xs hl
    split at h
    ·rename_i hk
     injection h with e1 e2
     subst e1;subst e2
     obtain ⟨rfl,h0,h1⟩:=hp
     exact e_trunc H hN (hd d hdst) hdst ho hty (ElK.beq_eq hk) hx hhi hl h0 h1 hK
    ·cases h
   ·cases h
  ·cases h
 ·rename_i t x lo d ho hdst
  rw [hdst] at hK
  split at h
  ·rename_i sz z0 e k' b z l ver ki hh hty hx hlo
   split at h
   ·rename_i ver' ty k xs hl
    split at h
    ·rename_i hk
     injection h with e1 e2
     subst e1;subst e2
     obtain ⟨rfl,-,hpos,h0,h1⟩:=hp
     have hok:=H.mem.ok l
     rw [hl] at hok
     obtain ⟨vs,hw,hrow,hn⟩:=hok
     have hd':CellC w F ρ own (.own l ver) (a.eval x):=H.ev' hx
     have he:=hd'.2.2 ⟨by rw [hl],by rw [hl];trivial⟩
     exact e_tail H hN (hd d hdst) hdst ho hty (ElK.beq_eq hk) he hlo (by rw [hl]) (by rw [hl];rfl) (TailOk.ofRow hw hpos) hrow h0 h1 hK
    ·cases h
   ·rename_i ver' ty k xs hl
    split at h
    ·rename_i hk
     injection h with e1 e2
     subst e1;subst e2
     obtain ⟨rfl,-,h0,h1⟩:=hp
     have hok:=H.mem.ok l
     rw [hl] at hok
     obtain ⟨vs,hw,hrow,hn⟩:=hok
     have hd':CellC w F ρ own (.own l ver) (a.eval x):=H.ev' hx
     have he:=hd'.2.2 ⟨by rw [hl],by rw [hl];trivial⟩
     exact e_tail H hN (hd d hdst) hdst ho hty (ElK.beq_eq hk) he hlo (by rw [hl]) (by rw [hl];rfl) hw hrow h0 h1 hK
    ·cases h
   ·cases h
  ·cases h
 ·rename_i cl d ho hdst
  rw [hdst] at hK
  split at h
  ·rename_i hcl
   split at h
   ·rename_i s x t t' hargs hat
    split at h
    ·rename_i sz z0 e k b z htt hty
     have:=Nat.eq_of_beq_eq_true htt
     subst this
     obtain ⟨s0,r0,hargs',hs0,hr⟩:=evL_cons hargs
     obtain ⟨x0,r0,rfl,hx0,hr⟩:=evL_cons hr
     rw [evL_nil hr] at hargs'
     split at h
     ·cases h
     ·rename_i pv x' bv hv
      split at h
      ·cases h
      ·rename_i ys hys
       split at h
       ·rename_i l ver
        split at h
        ·rename_i ver' ty k' xs0 hl
         split at h
         ·rename_i xs hcast
          injection h with e1 e2
          subst e1;subst e2
          obtain ⟨hp,hb,rfl,rfl,hlen,hb4⟩:=hp
          obtain ⟨e',he'⟩:=castL_ok hcast
          subst e'
          subst he'
          have hxd:=view_ok H.mem hv hp (hx0 ▸ H.ev x0) noRho deadOwn
          have hok:=H.mem.ok l
          rw [hl] at hok
          obtain ⟨vs,hw,hrow,hn⟩:=hok
          have hsd:CellC w F ρ own (.own l ver) (a.eval s0):=H.ev' hs0
          have he:=hsd.2.2 ⟨by rw [hl],by rw [hl];trivial⟩
          refine e_append H hN (l:=l) (hd d hdst) hdst ho hcl hargs' hat hty (by rw [he];exact hw) hrow (fun g hg=>⟨by rw [hl];rfl,by rw [← he];exact hg⟩) (asYs_ok hys hxd) (base_or hb) hlen hb4 ?_
          have hver:(own l).ver=ver:=by rw [hl]
          rw [hver]
          exact hK
         ·cases h
        ·rename_i ver' ty k' xs0 hl
         split at h
         ·rename_i xs hcast
          injection h with e1 e2
          subst e1;subst e2
          obtain ⟨hp,hb,rfl,rfl,hne,hlen,hb4⟩:=hp
          obtain ⟨e',he'⟩:=castL_ok hcast
          subst e'
          subst he'
          have hxd:=view_ok H.mem hv hp (hx0 ▸ H.ev x0) noRho deadOwn
          have hok:=H.mem.ok l
          rw [hl] at hok
          obtain ⟨vs,hw,hrow,hn⟩:=hok
          have hsd:CellC w F ρ own (.own l ver) (a.eval s0):=H.ev' hs0
          have he:=hsd.2.2 ⟨by rw [hl],by rw [hl];trivial⟩
          refine e_apptail H hN (l:=l) (hd d hdst) hdst ho hcl hargs' hat hty he hw hrow (by rw [hl];rfl) (asYs_ok hys hxd) (base_or hb) hne hlen hb4 ?_
          have hver:(own l).ver=ver:=by rw [hl]
          rw [hver]
          exact hK
         ·cases h
        ·cases h
       ·rename_i k' xs0
        split at h
        ·rename_i xs hcast
         injection h with e1 e2
         subst e1;subst e2
         obtain ⟨hp,hb,hne,hlen,hb4⟩:=hp
         obtain ⟨e',he'⟩:=castL_ok hcast
         subst e'
         subst he'
         have hxd:=view_ok H.mem hv hp (hx0 ▸ H.ev x0) noRho deadOwn
         have hsd:DC w F (.full k' xs0) (a.eval s0):=H.ev' hs0
         generalize hev:a.eval s0=sv at hsd
         cases hsd with
         | full hs hc=>exact e_appfull H hN (hd d hdst) hdst ho hcl hargs' hat hty (by rw [hev];exact hs) (by rw [hev];exact hc) (asYs_ok hys hxd) (base_or hb) hne hlen hb4 hK
        ·cases h
       ·injection h with e1 e2
        subst e1;subst e2
        obtain ⟨hp,hb,hlen,hb4⟩:=hp
        have hxd:=view_ok H.mem hv hp (hx0 ▸ H.ev x0) noRho deadOwn
        have he:=H.nil hs0
        refine e_append H hN (l:=d) (hd d hdst) hdst ho hcl hargs' hat hty (xs:=[]) (vs:=[]) (by rw [he];exact World.ownsRow_nil w 0 _ _) ⟨fun v hv=>by simp at hv,fun i x hx=>by simp at hx⟩ (fun g hg=>by rw [he] at hg;simp [blk] at hg) (asYs_ok hys hxd) (base_or hb) (by simpa using hlen) hb4 ?_
        exact hK
       ·cases h
    ·cases h
   ·cases h
  ·rename_i g hcl
   split at h
   ·rename_i f caps hg
    split at h
    ·rename_i p' l ver ty k ys av hac
     injection h with e1 e2
     subst e1;subst e2
     exact e_callwT H hN (hd d hdst) hdst hcl hg hac hp ho hK
    ·rename_i p' l ver ty k ys av hac
     injection h with e1 e2
     subst e1;subst e2
     exact e_callwF H hN (hd d hdst) hdst hcl hg hac hp ho hK
    ·split at h
     ·cases h
     ·rename_i p' r' hac
      split at h
      ·rename_i R hR
       injection h with e1 e2
       subst e1;subst e2
       exact e_callrow H hN (hd d hdst) hdst hcl hg hac hp ho hR hK
      ·injection h with e1 e2
       subst e1;subst e2
       have hv:aval c (evA slots) own o.op=.ok (p'∧True) r'.data:=by
        rw [ho]
        dsimp only [aval]
        rw [hcl]
        simp only [hg,hac,VR.bind]
       refine Oper.wp_mono (fun a' w' h=>?_) (s_val (Q:=Q) H hv ⟨hp,trivial⟩)
       obtain ⟨u,F',rfl,hb,hs,hn,hx⟩:=h
       have hext:Ext w F w' F':=⟨hb.os,hb.tape,hb.output,hb.size,fun b h=>hb.block b (H.mem.fin b h),hs⟩
       have hown:upd own d (own d)=own:=by
        funext n
        by_cases e:n=d
        ·subst e;rw [upd_eq]
        ·rw [upd_ne _ _ e]
       refine ⟨_,F',ρ,hK,⟨H.cfg,?_,?_⟩,hext,fun b h _=>hb.block b h,fun b h=>(hn b h).imp id (fun h=>hN b h.1),put_size _ _ _,put_defers' _ _ _,fun l=>by show _≤(upd own d (own d) l).ver;rw [hown];exact Nat.le_refl _,fun _ _=>rfl⟩
       ·show ∀ t,AVC w' F' ρ (upd own d (own d)) _ _
        rw [hown,hdst]
        exact slots_put (fun z v hz=>CellC.mono hext hz) H.sl (hd d hdst) hx
       ·show Mem w' N F' ρ (upd own d (own d))
        rw [hown]
        exact H.mem.grow hb hn hs
   ·cases h
  ·rename_i hcl
   split at h
   ·rename_i x s t t' hargs hat
    obtain ⟨x0,r0,hargs',hx0,hr⟩:=evL_cons hargs
    obtain ⟨s0,r0,rfl,hs0,hr⟩:=evL_cons hr
    rw [evL_nil hr] at hargs'
    split at h
    ·rename_i sz z0 e k b z l ver off n hty
     split at h
     ·rename_i ver' ty k' xs hl
      split at h
      ·rename_i q k'' ys hrd
       split at h
       ·rename_i ys' hcast
        injection h with e1 e2
        subst e1;subst e2
        obtain ⟨hq,hne,rfl,rfl,rfl,hoff⟩:=hp
        obtain ⟨e',he'⟩:=castL_ok hcast
        subst e'
        subst he'
        have hsd:CellC w F ρ own (.sub l ver off n) (a.eval x0):=H.ev' hx0
        obtain ⟨g,cp,hb,_,he⟩:=(hsd.2.2 (by rw [hl])).1 ty _ xs (by rw [hl])
        have hok:=H.mem.ok l
        rw [hl] at hok
        obtain ⟨vs,hw,hrow,hn⟩:=hok
        rcases hw.2 with ⟨h0,_⟩|⟨g',cap,cur,hρ,_⟩
        ·rw [h0] at hb;simp [blk] at hb
        ·have hgg:g'=g:=by rw [hρ] at hb;simpa [blk] using hb
         subst hgg
         rw [show off * ElK.size (.b .int)=off from Nat.mul_one _] at he
         rw [← hs0] at hrd
         exact e_copy H (hd d hdst) hdst ho hcl hargs' hat hty he hl hρ hrd hq hne hoff hK
       ·cases h
      ·cases h
     ·cases h
    ·rename_i sz z0 e k b z l ver hty
     split at h
     ·rename_i ver' ty k' xs hl
      split at h
      ·rename_i q k'' ys hrd
       split at h
       ·rename_i ys' hcast
        injection h with e1 e2
        subst e1;subst e2
        obtain ⟨hq,hne,rfl,rfl,rfl,hpos⟩:=hp
        obtain ⟨e',he'⟩:=castL_ok hcast
        subst e'
        subst he'
        have hsd:CellC w F ρ own (.own l ver) (a.eval x0):=H.ev' hx0
        have he:=hsd.2.2 ⟨by rw [hl],by rw [hl];trivial⟩
        have hok:=H.mem.ok l
        rw [hl] at hok
        obtain ⟨vs,hw,hrow,hn⟩:=hok
        rcases hw.2 with ⟨_,h0⟩|⟨g,cap,cur,hρ,_⟩
        ·omega
        ·rw [hρ] at he
         rw [← hs0] at hrd
         exact e_copy H (hd d hdst) hdst ho hcl hargs' hat hty he hl hρ hrd hq hne (by omega) hK
       ·cases h
      ·cases h
     ·cases h
    ·cases h
   ·cases h
  ·cases h
 ·rename_i cl ho hdst
  rw [hdst] at hK
  split at h
  ·rename_i hcl
   split at h
   ·rename_i x t hargs hat
    obtain ⟨x0,r0,hargs',hx0,hr⟩:=evL_cons hargs
    rw [evL_nil hr] at hargs'
    split at h
    ·rename_i sz z0 e k b z l ver off n hty
     split at h
     ·rename_i ver' ty k' xs hl
      split at h
      ·rename_i zv hz
       injection h with e1 e2
       subst e1;subst e2
       obtain ⟨rfl,rfl,hoff⟩:=hp
       exact e_clear H hdst ho hcl hargs' hat hty hx0 hl hz hoff hK
      ·cases h
     ·cases h
    ·cases h
   ·cases h
  ·cases h
 ·cases h
theorem AVC.imp {C C':Cell→Value→Prop} (h:∀ c v,C c v→C' c v) {x:AV} {v:Value} (s:AVG C x v):AVG C' x v:=by
 cases x with
 | one c=>exact h _ _ s
 | agg cs=>obtain ⟨vs,hv,hs⟩:=s;exact ⟨vs,hv,hs.imp fun c v _=>h c v⟩
 | tup xs=>
  obtain ⟨vs,hv,hl,hs⟩:=s
  refine ⟨vs,hv,hl,fun j x u hx hu=>?_⟩
  have:=hs j x u hx hu
  cases x with
  | inl c=>exact h _ _ this
  | inr cs=>obtain ⟨us,e,hc⟩:=this;exact ⟨us,e,hc.imp fun c v _=>h c v⟩
 | junk=>trivial
theorem RelL.cells {R:Cell→Cell→Prop} {C C':Cell→Value→Prop} (h:∀ x y v,R x y→C x v→C' y v):∀ {xs ys:List Cell} {vs:List Value},RelL R xs ys→CellsG C xs vs→CellsG C' ys vs
 | [],[],vs,_,s=>⟨s.1,fun j c v hc=>by simp at hc⟩
 | x :: xs,y :: ys,[],_,s=>by have:=s.1;simp at this
 | x :: xs,y :: ys,v :: vs,hf,s=>by
  have hr:CellsG C' ys vs:=RelL.cells h (xs:=xs) hf.2 ⟨by have:=s.1;simp at this;exact this,fun j c v hc hv=>s.2 (j + 1) c v hc hv⟩
  refine ⟨by simp [hr.1],fun j c u hc hu=>?_⟩
  cases j with
  | zero=>simp at hc hu;subst hc;subst hu;exact h _ _ _ hf.1 (s.2 0 x v rfl rfl)
  | succ j=>exact hr.2 j c u hc hu
 | [],_ :: _,_,hf,_=>hf.elim
 | _ :: _,[],_,hf,_=>hf.elim
theorem RelA.ok {R : Cell → Cell → Prop} (hrefl : ∀ x, R x x) {C C' : Cell → Value → Prop} (h : ∀ x y v, R x y → C x v → C' y v) {x y : AV} {v : Value} (hf : RelA R x y) (s : AVG C x v) : AVG C' y v := by
  have same : AVG C' x v := AVC.imp (fun c v hc => h c c v (hrefl c) hc) s
  cases x with
  | one x => cases y with
    | one y => exact h _ _ _ hf s
    | _ => cases hf
  | agg xs => cases y with
    | agg ys => obtain ⟨vs, hv, hs⟩ := s; exact ⟨vs, hv, hf.cells h hs⟩
    | _ => cases hf
  | tup xs => have hf : AV.tup xs = y := by cases y <;> exact hf
              subst hf; exact same
  | junk => have hf : AV.junk = y := by cases y <;> exact hf
            subst hf; exact same
theorem Here.wk {σ σ' : St} {a : Act} {w : World} {ρ : Nat → Value} (hk : Wk c σ σ') (H : Here P c N F ρ σ.own σ.slots a w) : ∃ F', Here P c N F' ρ σ'.own σ'.slots a w ∧ (∀ b, F b → F' b) ∧ ∀ b, F' b → F b ∨ N b := by
  obtain ⟨Z, hs, ho⟩ := hk
  have hsub : Ext w F w (fun b => F b ∨ ∃ l, Z l = true ∧ (σ.own l).obj.live = true ∧ blk (ρ (pl l)) = some b) := ⟨rfl, rfl, rfl, Nat.le_refl _, fun _ _ => rfl, fun _ h => .inl h⟩
  generalize hFF : (fun b => F b ∨ ∃ l, Z l = true ∧ (σ.own l).obj.live = true ∧ blk (ρ (pl l)) = some b) = F' at hsub
  have hF' : ∀ b, F' b → F b ∨ ∃ l, Z l = true ∧ (σ.own l).obj.live = true ∧ blk (ρ (pl l)) = some b := fun b hb => by rw [← hFF] at hb; exact hb
  have hcell : ∀ x y v, FrzC Z σ.own x y → CellC w F ρ σ.own x v → CellC w F' ρ σ'.own y v := by
    intro x y v hf hc
    rcases hf with rfl | ⟨l, ver, ty, k, xs, rfl, hZ, hl, rfl⟩ | ⟨l, ver, ty, cs, ds, rfl, hZ, hl, hds, rfl⟩
    · cases y with
      | d x => exact DC.mono hsub hc
      | own l ver =>
        obtain ⟨g1, g2, g3⟩ := hc
        obtain ⟨e1, e2⟩ := ho l
        refine ⟨g1, by rw [e1]; exact g2, ?_⟩
        rintro ⟨e, hr⟩
        rcases e2 with e2 | ⟨-, e2⟩
        · rw [e2] at hr; exact hr.elim
        · refine g3 ⟨by rw [← e1, e], ?_⟩
          generalize (σ.own l).obj = q at e2 ⊢
          generalize (σ'.own l).obj = q' at e2 hr
          cases q <;> cases q' <;> first | trivial | (cases e2; done) | exact hr.elim
      | ptr l ver i j =>
        obtain ⟨g1, g2, g3⟩ := hc
        obtain ⟨e1, e2⟩ := ho l
        refine ⟨g1, by rw [e1]; exact g2, fun e => ?_⟩
        have g3 := g3 (by rw [← e1]; exact e)
        rcases e2 with e2 | ⟨-, e2⟩
        · rw [e2]; trivial
        · generalize (σ.own l).obj = q at e2 g3
          generalize (σ'.own l).obj = q' at e2
          cases q with
          | dead => have e2 : Own.dead = q' := by cases q' <;> exact e2
                    subst e2; trivial
          | box ty cs => cases q' with
            | box ty' cs' => exact g3
            | _ => cases e2
          | row ty k xs => have e2 : Own.row ty k xs = q' := by cases q' <;> exact e2
                           subst e2; exact g3
          | tail ty k xs => have e2 : Own.tail ty k xs = q' := by cases q' <;> exact e2
                            subst e2; exact g3
          | deep ty ety el xs gg => have e2 : Own.deep ty ety el xs gg = q' := by cases q' <;> exact e2
                                    subst e2; exact g3
      | sub l ver off m =>
        obtain ⟨g1, g2, g3⟩ := hc
        obtain ⟨e1, e2⟩ := ho l
        refine ⟨g1, by rw [e1]; exact g2, fun e => ?_⟩
        rcases e2 with e2 | ⟨-, e2⟩
        · rw [e2]; exact ⟨fun _ _ _ hx => (by cases hx), fun _ _ _ _ _ _ hx => (by cases hx)⟩
        · have g3 := g3 (by rw [← e1]; exact e)
          refine ⟨fun ty k xs hr => g3.1 ty k xs ?_, fun ty ety ee xs gg x hr => g3.2 ty ety ee xs gg x ?_⟩
          · rw [hr] at e2
            generalize (σ.own l).obj = q at e2
            cases q <;> first | (cases e2; done) | exact e2
          · rw [hr] at e2
            generalize (σ.own l).obj = q at e2
            cases q <;> first | (cases e2; done) | exact e2
    · obtain ⟨g1, g2, g3⟩ := hc
      have hv : v = ρ (pl l) := g3 ⟨by rw [hl], by rw [hl]; trivial⟩
      subst hv
      have hok := H.mem.ok l
      rw [hl] at hok
      obtain ⟨vs, hw, hr, hn⟩ := hok
      exact DC.sl (fun b hb => by cases hb) (row_data hw hr (fun b hb => hsub.sub b hb) fun b hb => by rw [← hFF]; exact .inr ⟨l, hZ, by rw [hl]; rfl, hb⟩)
    · obtain ⟨g1, g2, g3⟩ := hc
      have g3 := g3 (by rw [hl])
      rw [hl] at g3
      obtain ⟨b, hb, rfl, -⟩ := g3
      have hok := H.mem.ok l
      rw [hl] at hok
      obtain ⟨b', vs, r1, r2, r3, r4⟩ := hok
      have hbb : b' = b := by rw [r1] at hb; simpa [blk] using hb
      subst hbb
      have hcs := dOf_ok hds
      subst hcs
      refine DC.ptr ⟨b', 0, none⟩ vs.toList (by rw [r3.1, List.length_map]) (by rw [← hFF]; exact .inr ⟨l, hZ, by rw [hl]; rfl, hb⟩) (fun j u hu => ?_) fun j x u hx hu => ?_
      · rw [add_lit', Nat.zero_add]
        simp only [World.cell?, r2]
        simpa using hu
      · have h0 : CellC w F ρ σ.own (.d x) u := r3.2 j (.d x) u (by rw [List.getElem?_map, hx]; rfl) hu
        exact DC.mono hsub h0
  refine ⟨F', ⟨H.cfg, fun t => (hs t).ok (fun _ => .inl rfl) hcell (H.sl t), ⟨fun l => ?_, fun l l' b hne a1 a2 => ?_, fun b hb => ?_⟩⟩, hsub.sub, fun b hb => ?_⟩
  · obtain ⟨e1, e2⟩ := ho l
    have hok := H.mem.ok l
    have hnF : Z l = false → (σ.own l).obj.live = true → ∀ b, holds ρ l (σ.own l).obj b → ¬ F b → ¬ F' b := fun hZ hlive b hb hn hf => by
      rcases hF' b hf with hf | ⟨l', hZ', hr, hb'⟩
      · exact hn hf
      · refine H.mem.apart l l' b (fun e => ?_) hlive hr hb (holds_of hb')
        rw [e, hZ'] at hZ; cases hZ
    rcases e2 with e2 | ⟨hZ, e2⟩
    · rw [e2]; trivial
    · generalize (σ.own l).obj = q at e2 hok hnF
      generalize (σ'.own l).obj = q' at e2
      cases q with
      | dead => have e2 : Own.dead = q' := by cases q' <;> exact e2
                subst e2; trivial
      | box ty cs => cases q' with
        | box ty' cs' =>
          obtain ⟨rfl, hfl⟩ := e2
          obtain ⟨b, vs, r1, r2, r3, r4, r5, r6⟩ := hok
          exact ⟨b, vs, r1, r2, hfl.cells hcell r3, r4, r5, hnF hZ rfl b (show blk (ρ (pl l)) = some b by rw [r1]; rfl) r6⟩
        | _ => cases e2
      | row ty k xs =>
        have e2 : Own.row ty k xs = q' := by cases q' <;> exact e2
        subst e2
        obtain ⟨vs, hw, hr, hn⟩ := hok
        exact ⟨vs, hw, hr.mono hsub, fun b hb => ⟨(hn b hb).1, hnF hZ rfl b hb (hn b hb).2⟩⟩
      | tail ty k xs =>
        have e2 : Own.tail ty k xs = q' := by cases q' <;> exact e2
        subst e2
        obtain ⟨vs, hw, hr, hn⟩ := hok
        exact ⟨vs, hw, hr.mono hsub, fun b hb => ⟨(hn b hb).1, hnF hZ rfl b hb (hn b hb).2⟩⟩
      | deep ty ety el xs gg =>
        have e2 : Own.deep ty ety el xs gg = q' := by cases q' <;> exact e2
        subst e2
        obtain ⟨vs, hw, h1, hn, hin⟩ := hok
        refine ⟨vs, hw, h1, fun b hb => ⟨(hn b hb).1, hnF hZ rfl b (.inl hb) (hn b hb).2⟩, fun i x hx hgi => ?_⟩
        obtain ⟨q1, ⟨us, hu, hr⟩, q3⟩ := hin i x hx hgi
        exact ⟨q1, ⟨us, hu, hr.mono hsub⟩, fun b hb => ⟨(q3 b hb).1, hnF hZ rfl b (.inr ⟨i, x, hx, hgi, hb⟩) (q3 b hb).2.1, (q3 b hb).2.2⟩⟩
  · have hol : ∀ l, (σ'.own l).obj.live = true → holds ρ l (σ'.own l).obj b → holds ρ l (σ.own l).obj b := fun l h hh => by
      rcases (ho l).2 with e2 | ⟨-, e2⟩
      · rw [e2] at h; cases h
      · generalize (σ.own l).obj = q at e2 ⊢
        generalize (σ'.own l).obj = q' at e2 h hh
        cases q with
        | box ty cs => cases q' with
          | box ty' cs' => exact hh
          | _ => cases e2
        | dead => have e2 : Own.dead = q' := by cases q' <;> exact e2
                  subst e2; exact hh
        | row ty k xs => have e2 : Own.row ty k xs = q' := by cases q' <;> exact e2
                         subst e2; exact hh
        | tail ty k xs => have e2 : Own.tail ty k xs = q' := by cases q' <;> exact e2
                          subst e2; exact hh
        | deep ty ety el xs gg => have e2 : Own.deep ty ety el xs gg = q' := by cases q' <;> exact e2
                                  subst e2; exact hh
    have live : ∀ l, (σ'.own l).obj.live = true → (σ.own l).obj.live = true := fun l h => by
      rcases (ho l).2 with e2 | ⟨-, e2⟩
      · rw [e2] at h; cases h
      · generalize (σ.own l).obj = q at e2
        generalize (σ'.own l).obj = q' at e2 h
        cases q with
        | dead => have e2 : Own.dead = q' := by cases q' <;> exact e2
                  subst e2; exact h
        | _ => rfl
    exact fun b1 b2 => H.mem.apart l l' b hne (live l a1) (live l' a2) (hol l a1 b1) (hol l' a2 b2)
  · rcases hF' b hb with hb | ⟨l, -, hr, hb⟩
    · exact H.mem.fin b hb
    · exact (blk_lt H.mem hr (holds_of hb)).1
  · rcases hF' b hb with hb | ⟨l, hZ, hr, hb⟩
    · exact .inl hb
    · exact .inr (blk_lt H.mem hr (holds_of hb)).2.1
theorem Here.tl {σ σ':St} {a:Act} {w:World} {ρ:Nat→Value} (hk:Tl σ σ') (H:Here P c N F ρ σ.own σ.slots a w):Here P c N F ρ σ'.own σ'.slots a w:=by
 obtain ⟨l,ty,k,xs,hne,hl,rfl⟩:=hk
 have hok:=H.mem.ok l
 rw [hl] at hok
 obtain ⟨vs,hw,hr,hn⟩:=hok
 have ht:=TailOk.ofRow hw (List.length_pos_iff.2 hne)
 have hC:∀ x v,CellC w F ρ σ.own x v→CellC w F ρ (upd σ.own l ⟨(σ.own l).ver,.tail ty k xs⟩) x v:=by
  intro x v hc
  cases x with
  | d x=>exact hc
  | own l' ver=>
   obtain ⟨g1,g2,g3⟩:=hc
   by_cases e:l'=l
   ·subst e
    refine ⟨g1,by rw [upd_eq];exact g2,fun h=>g3 ⟨?_,by rw [hl];trivial⟩⟩
    have:=h.1
    rw [upd_eq] at this
    exact this
   ·refine ⟨g1,by rw [upd_ne _ _ e];exact g2,fun h=>g3 ?_⟩
    rw [upd_ne _ _ e] at h
    exact h
  | ptr l' ver i j=>
   obtain ⟨g1,g2,g3⟩:=hc
   by_cases e:l'=l
   ·subst e
    refine ⟨g1,by rw [upd_eq];exact g2,fun e=>?_⟩
    rw [upd_eq] at e ⊢
    have g3:=g3 e
    rw [hl] at g3
    obtain ⟨b,hb,rfl⟩:=g3
    obtain ⟨g,off,cap,cur,hρ,-⟩:=ht
    rcases hw.2 with ⟨_,h0⟩|⟨g',cap',cur',hρ',-⟩
    ·exact absurd (List.eq_nil_of_length_eq_zero h0) hne
    ·rw [hρ'] at hb
     simp only [blk,Option.some.injEq] at hb
     subst hb
     exact ⟨g',0,_,_,hρ',by rw [Nat.zero_add]⟩
   ·refine ⟨g1,by rw [upd_ne _ _ e];exact g2,fun h=>?_⟩
    rw [upd_ne _ _ e] at h ⊢
    exact g3 h
  | sub l' ver off m=>
   obtain ⟨g1,g2,g3⟩:=hc
   by_cases e:l'=l
   ·subst e
    refine ⟨g1,by rw [upd_eq];exact g2,fun e=>?_⟩
    rw [upd_eq]
    exact ⟨fun _ _ _ h=>(by cases h),fun _ _ _ _ _ _ h=>(by cases h)⟩
   ·refine ⟨g1,by rw [upd_ne _ _ e];exact g2,fun h=>?_⟩
    rw [upd_ne _ _ e] at h ⊢
    exact g3 h
 refine ⟨H.cfg,fun t=>AVC.imp hC (H.sl t),?_⟩
 refine H.mem.step (l:=l) (Ext.refl w F) (fun l' h=>⟨upd_ne _ _ h,rfl⟩) (fun _ _ _=>rfl) hC (fun l' b hne' h1 h2 h3 h4=>⟨rfl,h4⟩) ?_ (fun l' b hne' h1 h2 h3=>?_) H.mem.fin
 ·show OwnOk w N F ρ _ l (upd σ.own l ⟨(σ.own l).ver,.tail ty k xs⟩ l).obj
  rw [upd_eq]
  exact ⟨vs,ht,hr,hn⟩
 ·have h2:holds ρ l (upd σ.own l ⟨(σ.own l).ver,.tail ty k xs⟩ l).obj b:=h2
  rw [upd_eq] at h2
  exact H.mem.apart l l' b (Ne.symm hne') (by rw [hl];rfl) h1 (holds_of h2) h3
theorem next_frz {K:St→Prop} {a':Act} {w':World} {F':Nat→Prop} {ρ':Nat→Value} {r r':AV × (Nat→Loc)} {q:Prop} (hn:Next' P c N F ρ own a w ⟨(St.put ⟨slots,own⟩ o.dst r.1).slots,r.2⟩ a' w' F' ρ') (hf:frzR c r=.ok q r') (hq:q)
  (hK:K ⟨(St.put ⟨slots,own⟩ o.dst r'.1).slots,r'.2⟩):∃ σ' F' ρ',K σ'∧Next' P c N F ρ own a w σ' a' w' F' ρ':=by
 obtain ⟨x,own1⟩:=r
 unfold frzR at hf
 split at hf
 ·rename_i l ver own2 hr
  injection hr with e1 e2
  subst e1
  subst e2
  split at hf
  ·rename_i ver' ty k xs hl
   injection hf with e1 e2
   subst e1
   subst e2
   obtain ⟨rfl,-⟩:=hq
   have hw:Wk c ⟨(St.put ⟨slots,own⟩ o.dst (.one (.own l ver))).slots,own1⟩ ⟨(St.put ⟨slots,own⟩ o.dst (.one (.d (.sl none k xs)))).slots,upd own1 l ⟨ver,.dead⟩⟩:=by
    have hrefl:∀ (Z:Nat→Bool) (ow:Nat→Loc) (x:AV),RelA (FrzC Z ow) x x:=fun Z ow x=>by
     have hL:∀ (xs:List Cell),RelL (FrzC Z ow) xs xs:=fun xs=>by
      induction xs with
      | nil=>trivial
      | cons x xs ih=>exact ⟨.inl rfl,ih⟩
     cases x <;> first|exact .inl rfl|exact hL _|rfl
    have hreflO:∀ (Z:Nat→Bool) (ow:Nat→Loc) (x:Own),RelO (FrzC Z ow) x x:=fun Z ow x=>by
     have hL:∀ (xs:List Cell),RelL (FrzC Z ow) xs xs:=fun xs=>by
      induction xs with
      | nil=>trivial
      | cons x xs ih=>exact ⟨.inl rfl,ih⟩
     cases x <;> first|exact ⟨rfl,hL _⟩|rfl
    refine ⟨fun m=>Nat.beq m l,fun t=>?_,fun m=>?_⟩
    ·cases hd:o.dst with
     | none=>exact hrefl _ _ _
     | some d=>
      show RelA _ (upd slots d _ t) (upd slots d _ t)
      rw [upd_get,upd_get]
      by_cases e:t=d
      ·rw [if_pos e,if_pos e]
       exact .inr (.inl ⟨l,ver,ty,k,xs,rfl,by simp,hl,rfl⟩)
      ·rw [if_neg e,if_neg e];exact hrefl _ _ _
    ·show (upd own1 l ⟨ver,.dead⟩ m).ver=(own1 m).ver∧((upd own1 l ⟨ver,.dead⟩ m).obj=.dead∨_)
     by_cases e:m=l
     ·subst e;rw [upd_eq,hl];exact ⟨rfl,.inl rfl⟩
     ·rw [upd_ne _ _ e]
      refine ⟨rfl,.inr ⟨?_,?_⟩⟩
      ·cases hb:Nat.beq m l
       ·exact hb
       ·exact absurd (Nat.eq_of_beq_eq_true hb) e
      ·show RelO _ _ (upd own1 l ⟨ver,.dead⟩ m).obj
       rw [upd_ne _ _ e]
       exact hreflO _ _ _
   obtain ⟨F'',h1,h2,h3⟩:=Here.wk hw hn.here
   refine ⟨_,F'',ρ',hK,⟨h1,hn.ext.trans (ext_sub h2),hn.fr,fun b hb=>(h3 b hb).elim (hn.new b) .inr,hn.size,hn.defers,fun m=>?_,fun m hm=>?_⟩⟩
   ·rw [(hw.choose_spec.2 m).1];exact hn.mono m
   ·rw [(hw.choose_spec.2 m).1] at hm;exact hn.keep m hm
  ·cases hf
 ·cases hf
theorem s_op (H:Here P c N F ρ own slots a w) (hN:∀ b,w.heap.size≤b→N b) (hd:∀ d,o.dst=some d→d < a.tmps.size) {K:St→Prop} (h:aop c o ⟨slots,own⟩ K):Eff P c N F ρ own o a w K Q:=by
 unfold aop at h
 split at h
 ·unfold VR.run at h
  split at h
  ·cases h
  ·rename_i p r hv
   unfold aeffS at hv
   split at hv
   ·exact s_deep H hN hd hv h.1 h.2
   split at hv
   ·cases hv2:aeff c o (evA slots) own with
    | no=>rw [hv2] at hv;cases hv
    | ok p0 r0=>
     rw [hv2] at hv
     cases hf:frzR c r0 with
     | no=>simp only [VR.bind,hf] at hv;cases hv
     | ok q r'=>
      simp only [VR.bind,hf] at hv
      injection hv with e1 e2
      subst e1
      subst e2
      refine Oper.wp_mono (fun a' w' h'=>?_) (s_eff (K:=fun σ=>σ=⟨(St.put ⟨slots,own⟩ o.dst r0.1).slots,r0.2⟩) (Q:=Q) H hN hd hv2 h.1.1 rfl)
      obtain ⟨σ',F',ρ',rfl,hnx⟩:=h'
      exact next_frz hnx hf h.1.2 h.2
   split at hv
   ·cases hv2:aeff c o (evA slots) own with
    | no=>rw [hv2] at hv;cases hv
    | ok p0 r0=>
     rw [hv2] at hv
     simp only [VR.bind] at hv
     injection hv with e1 e2
     subst e1
     subst e2
     exact s_eff H hN hd hv2 h.1.1 h.2
   ·exact s_eff H hN hd hv h.1 h.2
 ·have h:(aval c (evA slots) own o.op).run fun x=>K (St.put ⟨slots,own⟩ o.dst x):=by
   split at h
   ·exact h.2
   ·split at h
    ·exact h.2
    ·exact h
  unfold VR.run at h
  split at h
  ·cases h
  ·rename_i p x hv
   obtain ⟨hp,hK⟩:=h
   refine Oper.wp_mono (fun a' w' h=>?_) (s_val (Q:=Q) H hv hp)
   obtain ⟨u,F',rfl,hb,hs,hn,hx⟩:=h
   have hext:Ext w F w' F':=⟨hb.os,hb.tape,hb.output,hb.size,fun b h=>hb.block b (H.mem.fin b h),hs⟩
   refine ⟨_,F',ρ,hK,⟨H.cfg,?_,?_⟩,hext,fun b h _=>hb.block b h,fun b h=>(hn b h).imp id (fun h=>hN b h.1),put_size _ _ _,put_defers' _ _ _,fun l=>by cases o.dst <;> exact Nat.le_refl _,fun _ _=>rfl⟩
   ·cases hdst:o.dst with
    | none=>exact fun t=>(H.sl t).mono hext
    | some d=>exact slots_put (fun z v hz=>CellC.mono hext hz) H.sl (hd d hdst) hx
   ·cases hdst:o.dst <;> exact H.mem.grow hb hn hs
theorem s_junk (H:Here P c N F ρ own slots a w) (hd:∀ d,o.dst=some d→d < a.tmps.size):Here P c N F ρ (St.put ⟨slots,own⟩ o.dst (.tup [])).own (St.put ⟨slots,own⟩ o.dst (.tup [])).slots (a.put o.dst undef) w:=by
 cases hdst:o.dst with
 | none=>exact H
 | some d=>exact ⟨H.cfg,slots_put (fun z v hz=>hz) H.sl (hd d hdst) ⟨[],rfl,rfl,fun j x u hx=>by simp at hx⟩,H.mem⟩
end
def Good (P:Program) (c:Cfg) (w0:World) (N F0:Nat→Prop) (ρ0:Nat→Value) (own0:Nat→Loc) (n:Nat) (σ:St) (a:Act) (w:World):Prop:=
 ∃ F ρ,Here P c N F ρ σ.own σ.slots a w∧Ext w0 F0 w F∧(∀ b,b < w0.heap.size→¬ N b→w.heap[b]?=w0.heap[b]?)∧(∀ b,F b→F0 b∨N b)∧a.tmps.size=n∧a.defers=[]∧∀ l,(own0 l).ver≤(σ.own l).ver∧((σ.own l).ver=(own0 l).ver→ρ (pl l)=ρ0 (pl l))
section
variable {P : Program} {c : Cfg} {w0 : World} {N F0 : Nat → Prop} {ρ0 : Nat → Value} {own0 : Nat → Loc} {n : Nat}
theorem Good.next {σ':St} {a a':Act} {w w':World} {F F':Nat→Prop} {ρ ρ':Nat→Value} {own:Nat→Loc} (hx:Ext w0 F0 w F) (hfr:∀ b,b < w0.heap.size→¬ N b→w.heap[b]?=w0.heap[b]?) (hF:∀ b,F b→F0 b∨N b) (hn:a.tmps.size=n)
  (hdf:a.defers=[]∧∀ l,(own0 l).ver≤(own l).ver∧((own l).ver=(own0 l).ver→ρ (pl l)=ρ0 (pl l))) (h:Next' P c N F ρ own a w σ' a' w' F' ρ'):Good P c w0 N F0 ρ0 own0 n σ' a' w':=
 ⟨F',ρ',h.here,hx.trans h.ext,fun b hb hnb=>(h.fr b (Nat.lt_of_lt_of_le hb hx.size) hnb).trans (hfr b hb hnb),fun b hb=>(h.new b hb).elim (hF b) .inr,by rw [h.size,hn],by rw [h.defers,hdf.1],
  fun l=>⟨Nat.le_trans (hdf.2 l).1 (h.mono l),fun e=>by
   have h1:=(hdf.2 l).1
   have h2:=h.mono l
   have k1:=h.keep l (by omega)
   have k2:=(hdf.2 l).2 (by omega)
   exact k1.trans k2⟩⟩
theorem Good.drew {σ:St} {a:Act} {w:World} (h:Good P c w0 N F0 ρ0 own0 n σ a w):Good P c w0 N F0 ρ0 own0 n σ a { w with drawn:=w.drawn + 1 }:=by
 obtain ⟨F,ρ,H,hx,h1,h2,h3,h4⟩:=h
 have hext:Ext w F { w with drawn:=w.drawn + 1 } F:=⟨rfl,rfl,rfl,Nat.le_refl _,fun _ _=>rfl,fun _ h=>h⟩
 exact ⟨F,ρ,⟨H.cfg,fun t=>(H.sl t).mono hext,H.mem.grow ⟨rfl,rfl,rfl,Nat.le_refl _,fun _ _=>rfl⟩ (fun b h=>.inl h) (fun _ h=>h)⟩,hx.trans hext,h1,h2,h3,h4⟩
def run1 (c:Cfg) (ops:List Oper) (o:Oper) (σ:St) (K:St→Prop):Prop:=
 aguard ops o σ fun wd σ'=>match wd with
  | true=>aop c o σ' K
  | false=>K (σ'.put o.dst (.tup []))
theorem arun_cons (ops:List Oper) (o:Oper) (rest:List Oper) (σ:St) (K:St→Prop):arun c ops (o :: rest) σ K=run1 c ops o σ (fun σ'=>arun c ops rest σ' K):=rfl
def WantV (v:AV) (want wd:Bool):Prop:=(∃ b,v=.one (.d (.bool b))∧wd=(b == want))∨(v=.tup []∧wd=false)
theorem guard_ok {ops:List Oper} {o:Oper} {σ:St} {K:Bool→St→Prop} (h:aguard ops o σ K) :
  ∃ wd,K wd σ∧((o.guard=none∧wd=true)∨∃ j want oj d v,o.guard=some (j,want)∧ops[j]?=some oj∧oj.dst=some d∧σ.slots d=v∧WantV v want wd):=by
 unfold aguard at h
 split at h
 ·rename_i hg
  exact ⟨true,h,.inl ⟨hg,rfl⟩⟩
 ·rename_i j want hg
  split at h
  ·rename_i oj hoj
   split at h
   ·rename_i d hd
    split at h
    ·rename_i b hb
     cases b with
     | true=>
      refine ⟨true == want,?_,.inr ⟨j,want,oj,d,_,hg,hoj,hd,hb,.inl ⟨true,rfl,rfl⟩⟩⟩
      have:=h.1 rfl
      rwa [upd_self hb] at this
     | false=>
      refine ⟨false == want,?_,.inr ⟨j,want,oj,d,_,hg,hoj,hd,hb,.inl ⟨false,rfl,rfl⟩⟩⟩
      have:=h.2 rfl
      rwa [upd_self hb] at this
    ·rename_i hb
     exact ⟨false,h,.inr ⟨j,want,oj,d,_,hg,hoj,hd,hb,.inr ⟨rfl,rfl⟩⟩⟩
    ·cases h
   ·cases h
  ·cases h
theorem guard_mk {ops:List Oper} {o:Oper} {σ:St} {K:Bool→St→Prop} {wd:Bool} (hK:K wd σ) (h:(o.guard=none∧wd=true)∨∃ j want oj d v,o.guard=some (j,want)∧ops[j]?=some oj∧oj.dst=some d∧σ.slots d=v∧WantV v want wd):aguard ops o σ K:=by
 unfold aguard
 rcases h with ⟨h1,rfl⟩|⟨j,want,oj,d,v,h1,h2,h3,h4,⟨b,rfl,rfl⟩|⟨rfl,rfl⟩⟩
 ·simp only [h1];exact hK
 rotate_left
 ·simp only [h1,h2,h3,h4];exact hK
 ·simp only [h1,h2,h3,h4]
  refine ⟨fun hb=>?_,fun hb=>?_⟩
  ·subst hb
   rw [upd_self h4];exact hK
  ·subst hb
   rw [upd_self h4];exact hK
theorem wanted_ok {ops:Array Oper} {o:Oper} {σ:St} {a:Act} {w:World} {F:Nat→Prop} {ρ:Nat→Value} (H:Here P c N F ρ σ.own σ.slots a w) {wd:Bool}
  (h:(o.guard=none∧wd=true)∨∃ j want oj d v,o.guard=some (j,want)∧ops.toList[j]?=some oj∧oj.dst=some d∧σ.slots d=v∧WantV v want wd):Region.wanted o (yielded ops a.tmps)=wd:=by
 unfold Region.wanted
 rcases h with ⟨h1,rfl⟩|⟨j,want,oj,d,v,h1,h2,h3,h4,⟨b,rfl,rfl⟩|⟨rfl,rfl⟩⟩
 ·rw [h1]
 rotate_left
 ·rw [h1]
  have hb:a.tmps.getD d undef=undef:=by
   have:=H.sl d
   rw [h4] at this
   obtain ⟨vs,e,hl,-⟩:=this
   rw [e,List.eq_nil_of_length_eq_zero hl];rfl
  have h2':ops[j]?=some oj:=by simpa using h2
  rcases Nat.lt_or_ge d a.tmps.size with hlt|hge
  ·simp [hlt] at hb
   simp [yielded,h2',h3,hlt,hb,undef]
  ·simp [yielded,h2',h3,Array.getElem?_eq_none hge]
 ·rw [h1]
  have hb:a.tmps.getD d undef=.bool b:=boolD (F:=F) (w:=w) (by have:=H.sl d;rw [h4] at this;exact this)
  have hb':a.tmps[d]?=some (.bool b):=by
   rcases Nat.lt_or_ge d a.tmps.size with hlt|hge
   ·simp [hlt] at hb ⊢;exact hb
   ·simp [Array.getElem?_eq_none hge,undef] at hb
  have h2':ops[j]?=some oj:=by simpa using h2
  simp [yielded,h2',h3,hb']
theorem step1 {ops:Array Oper} {o:Oper} {i:Nat} (hi:ops[i]?=some o) (hN:∀ b,w0.heap.size≤b→N b) (hd:∀ d,o.dst=some d→d < n) {σ:St} {a:Act} {w:World} {K:St→Prop} {Q:Exit→Act→World→Prop} {R:Act→World→Prop}
  (hg:Good P c w0 N F0 ρ0 own0 n σ a w) (h:run1 c ops.toList o σ K) (hR:∀ σ' a' w',K σ'→Good P c w0 N F0 ρ0 own0 n σ' a' w'→R a' w'):wpOp P ops Q i R a w:=by
 obtain ⟨F,ρ,H,hx,h1,h2,h3,h4⟩:=hg
 obtain ⟨wd,hwd,hw⟩:=guard_ok h
 have hwant:=wanted_ok (ops:=ops) H hw
 unfold wpOp
 simp only [hi]
 rw [hwant]
 cases wd with
 | true=>
  simp only [if_true]
  refine .inl (Oper.wp_mono (fun a' w' hh=>?_) (s_op (Q:=Q) H (fun b hb=>hN b (Nat.le_trans hx.size hb)) (fun d hdd=>by rw [h3];exact hd d hdd) hwd))
  obtain ⟨σ',F',ρ',hK,hnx⟩:=hh
  exact hR σ' a' w' hK (Good.next hx h1 h2 h3 h4 hnx)
 | false=>
  simp only [Bool.false_eq_true,if_false]
  refine hR _ _ _ hwd ⟨F,ρ,s_junk H (fun d hdd=>by rw [h3];exact hd d hdd),hx,h1,h2,?_,?_⟩
  ·rw [put_size,h3]
  ·exact ⟨by rw [put_defers',h4.1],fun l=>by cases o.dst <;> exact h4.2 l⟩
theorem wp_text {ops:Array Oper} (hN:∀ b,w0.heap.size≤b→N b) (hd:∀ (i:Nat) o d,ops[i]?=some o→o.dst=some d→d < n) {K:St→Prop} {Q:Exit→Act→World→Prop} (hK:∀ σ' a' w',K σ'→Good P c w0 N F0 ρ0 own0 n σ' a' w'→Q .normal a' w') :
  ∀ (m i:Nat) (σ:St) (a:Act) (w:World),m + i=ops.size→Good P c w0 N F0 ρ0 own0 n σ a w→arun c ops.toList (ops.toList.drop i) σ K→wpOps P ops Q (List.range' i m) a w
 | 0,i,σ,a,w,hm,hg,h=>by
  have:ops.toList.drop i=[]:=List.drop_eq_nil_of_le (by simp;omega)
  rw [this] at h
  exact hK σ a w h hg
 | m + 1,i,σ,a,w,hm,hg,h=>by
  have hlt:i < ops.size:=by omega
  have hi:ops[i]?=some ops[i]:=by simp [hlt]
  have hdrop:ops.toList.drop i=ops[i] :: ops.toList.drop (i + 1):=by
   rw [List.drop_eq_getElem_cons (by simpa using hlt)];simp
  rw [hdrop,arun_cons] at h
  rw [List.range'_succ,wpOps_cons]
  exact step1 hi hN (fun d hdd=>hd i _ d hi hdd) hg h fun σ' a' w' h1 h2=>wp_text hN hd hK m (i + 1) σ' a' w' (by omega) h2 h1
end
end Go.Proofs.YtpafacebfogkmaaGreat
