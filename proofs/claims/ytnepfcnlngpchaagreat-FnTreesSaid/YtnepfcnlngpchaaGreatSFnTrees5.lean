/- What the proof of 'FnTrees' needs, part 5: conditions and steps of the functions that it reaches, and the mathematics. -/
import Derived.Test.YtnepfcnlngpchaaGreatRows
import Derived.WalkKit
import Derived.WalkSpells
import Derived.Below
import Derived.Orders
import Derived.Maps.AppendAt
import Derived.Laws.StructEq
import Derived.WideShapes
import Derived.ChangeSlices
import Derived.Deep.Strs
import Derived.ChangeOld
import Derived.Shelf.SlLaysF0
import Derived.Shelf.SlSortCmp.InsertionK
import Derived.Shelf.SlSortCmp.SmallK
import Derived.Shelf.SlSortCmp.Xorshift
import Derived.Sort.LotA
import Derived.Shelf.Slices.Delete
import Derived.Shelf.Sort.Plain
import Derived.Shelf.Bits.Mul64
import Derived.Test.YtnepfcnlngpchaaGreatSFnTrees4
set_option linter.unusedSimpArgs false
set_option linter.unusedVariables false
namespace Go.Proofs.YtnepfcnlngpchaaGreat
open Go.RowKit
def FirstFrom (f:Nat→Bool) (n k:Nat) (a:Int):Prop:=(a=-1∧∀ j,k≤j→j < n→f j=false)∨∃ i:Nat,a=i∧k≤i∧i < n∧f i=true∧∀ j,k≤j→j < i→f j=false
theorem ff_start (f:Nat→Bool) (n:Nat):FirstFrom f n n (-1):=.inl ⟨rfl,fun j h1 h2=>absurd h2 (by omega)⟩
theorem ff_yes {f:Nat→Bool} {n k:Nat} {a:Int} (hk:k < n) (h:f k=true):FirstFrom f n k k:=.inr ⟨k,rfl,Nat.le_refl _,hk,h,fun j h1 h2=>absurd h2 (by omega)⟩
theorem ff_no {f:Nat→Bool} {n k:Nat} {a:Int} (h:f k=false) (hf:FirstFrom f n (k + 1) a):FirstFrom f n k a:=by
 rcases hf with ⟨rfl,h1⟩|⟨i,rfl,h1,h2,h3,h4⟩
 ·exact .inl ⟨rfl,fun j h5 h6=>by
   rcases Nat.eq_or_lt_of_le h5 with e|e
   ·rw [← e];exact h
   ·exact h1 j e h6⟩
 ·exact .inr ⟨i,rfl,by omega,h2,h3,fun j h5 h6=>by
   rcases Nat.eq_or_lt_of_le h5 with e|e
   ·rw [← e];exact h
   ·exact h4 j e h6⟩
theorem ff_bd {f:Nat→Bool} {n k:Nat} {a:Int} (hf:FirstFrom f n k a):-1≤a∧a < n:=by
 rcases hf with ⟨rfl,h1⟩|⟨i,rfl,h1,h2,h3,h4⟩ <;> omega
theorem ff_find {f:Nat→Bool} {n:Nat} {a:Int} (hf:FirstFrom f n 0 a):(a=-1∧(List.range n).find? f=none)∨(0≤a∧a < n∧(List.range n).find? f=some a.toNat):=by
 rcases hf with ⟨rfl,h1⟩|⟨i,rfl,h1,h2,h3,h4⟩
 ·exact .inl ⟨rfl,List.find?_eq_none.2 fun j hj=>by rw [h1 j (Nat.zero_le _) (List.mem_range.1 hj)];decide⟩
 ·exact .inr ⟨by omega,by omega,List.find?_range_eq_some.2 ⟨h3,List.mem_range.2 h2,fun j hj=>by rw [h4 j (Nat.zero_le _) hj];rfl⟩⟩
def dnV:Nat→AV
 | 0=>vInt (-1)
 | i + 1=>vInt i
theorem dnV_eq (n:Nat):vInt ((n:Int) - 1)=dnV n:=by
 cases n with
 | zero=>rfl
 | succ i=>exact congrArg vInt (by omega)
theorem erase_eq {α:Type} (l:List α) (k:Nat):l.eraseIdx k=l.take k ++ l.drop (k + 1):=List.eraseIdx_eq_take_drop_succ l k
abbrev gI (l:List Int) (k:Nat):Int:=l.getD k 0
def prvN (n i:Nat):Nat:=(i + n - 1) % n
def nxtN (n i:Nat):Nat:=(i + 1) % n
theorem prv_int {n i:Nat} (hi:i < n):Int.tmod ((i:Int) + n - 1) n=(prvN n i:Nat):=by
 unfold prvN
 rw [show ((i:Int) + n - 1)=((i + n - 1:Nat):Int) by omega,← Int.ofNat_tmod]
def cutM (xs:List Pt) (l:List Int) (i:Nat):Bool:=
 ((diagM xs (gI l (prvN l.length i)) (gI l (nxtN l.length i)) || neighZ xs.length (gI l (prvN l.length i)) (gI l (nxtN l.length i))) && decide (0 < turn (pI xs (gI l (prvN l.length i))) (pI xs (gI l i)) (pI xs (gI l (nxtN l.length i))))) &&
 l.all fun x=>decide (x=gI l (prvN l.length i)) || (decide (x=gI l i) || (decide (x=gI l (nxtN l.length i)) || !inTri (pI xs (gI l (prvN l.length i))) (pI xs (gI l i)) (pI xs (gI l (nxtN l.length i))) (pI xs x)))
theorem cutM_iff {xs:List Pt} {l:List Int} {i:Nat}:cutM xs l i=true↔(diagM xs (gI l (prvN l.length i)) (gI l (nxtN l.length i))=true∨neighZ xs.length (gI l (prvN l.length i)) (gI l (nxtN l.length i))=true) ∧
  0 < turn (pI xs (gI l (prvN l.length i))) (pI xs (gI l i)) (pI xs (gI l (nxtN l.length i))) ∧
  ∀ j,j < l.length→gI l j=gI l (prvN l.length i)∨gI l j=gI l i∨gI l j=gI l (nxtN l.length i)∨inTri (pI xs (gI l (prvN l.length i))) (pI xs (gI l i)) (pI xs (gI l (nxtN l.length i))) (pI xs (gI l j))=false:=by
 unfold cutM
 simp only [Bool.and_eq_true,Bool.or_eq_true,decide_eq_true_eq,List.all_eq_true,Bool.not_eq_true']
 constructor
 ·rintro ⟨⟨h1,h2⟩,h3⟩
  refine ⟨h1,h2,fun j hj=>h3 _ ?_⟩
  rw [show gI l j=l[j] from getD_lt _ hj]
  exact List.getElem_mem _
 ·rintro ⟨h1,h2,h3⟩
  refine ⟨⟨h1,h2⟩,fun x hx=>?_⟩
  obtain ⟨j,hj,rfl⟩:=List.getElem_of_mem hx
  have:=h3 j hj
  rwa [show gI l j=l[j] from getD_lt _ hj] at this
def firstCut (xs:List Pt) (l:List Int):Option Nat:=(List.range l.length).find? (cutM xs l)
theorem firstCut_some {xs:List Pt} {l:List Int} {i:Nat} (hi:i < l.length) (h:cutM xs l i=true) (hb:∀ j,j < i→cutM xs l j=false):firstCut xs l=some i:=by
 unfold firstCut
 rw [List.find?_range_eq_some]
 exact ⟨h,List.mem_range.2 hi,fun j hj=>by rw [hb j hj];rfl⟩
theorem firstCut_none {xs:List Pt} {l:List Int} (h:∀ j,j < l.length→cutM xs l j=false):firstCut xs l=none:=by
 unfold firstCut
 rw [List.find?_eq_none]
 intro j hj
 rw [h j (List.mem_range.1 hj)]
 decide
theorem firstCut_spec {xs:List Pt} {l:List Int} {i:Nat} (h:firstCut xs l=some i):i < l.length∧cutM xs l i=true:=by
 unfold firstCut at h
 rw [List.find?_range_eq_some] at h
 exact ⟨List.mem_range.1 h.2.1,h.1⟩
def triS (a b c:Int):Tri:=(min (min a b) c,a + b + c - min (min a b) c - max (max a b) c,max (max a b) c)
def triAt (l:List Int) (i:Nat):Tri:=triS (gI l (prvN l.length i)) (gI l i) (gI l (nxtN l.length i))
def triRun (xs:List Pt):Nat→List Int→List Tri→List Tri
 | 0,l,out=>out ++ [triS (gI l 0) (gI l 1) (gI l 2)]
 | f + 1,l,out=>match firstCut xs l with
  | none=>[]
  | some i=>triRun xs f (l.eraseIdx i) (out ++ [triAt l i])
def allC (n:Nat):List Int:=(List.range n).map fun k:Nat=>(k:Int)
def trisM (xs:List Pt):List Tri:=if roomOk xs then triRun xs (xs.length - 3) (allC xs.length) [] else []
theorem allC_len (n:Nat):(allC n).length=n:=by simp [allC]
theorem allC_succ (n:Nat):allC (n + 1)=allC n ++ [(n:Int)]:=by unfold allC;rw [List.range_succ,List.map_append];rfl
theorem tris_bad {xs:List Pt} (h:roomOk xs=false):trisM xs=[]:=by unfold trisM;rw [h];rfl
theorem triRun_len {xs:List Pt}:∀ (f:Nat) (l:List Int) (out:List Tri),(triRun xs f l out).length≤out.length + f + 1
 | 0,l,out=>by simp [triRun]
 | f + 1,l,out=>by
  unfold triRun
  split
  ·simp
  ·have:=triRun_len (xs:=xs) f (l.eraseIdx ‹Nat›) (out ++ [triAt l ‹Nat›])
   simp only [List.length_append,List.length_cons,List.length_nil] at this
   omega
theorem tris_len (xs:List Pt):(trisM xs).length≤xs.length + 1:=by
 unfold trisM
 split
 ·have:=triRun_len (xs:=xs) (xs.length - 3) (allC xs.length) []
  simp only [List.length_nil] at this
  omega
 ·simp
structure Left (n:Nat) (l:List Int):Prop where
 len:3≤l.length
 le:l.length≤n
 inc:l.Pairwise (· < ·)
 ge:∀ x∈l,0≤x
 lt:∀ x∈l,x < n
theorem left_all {n:Nat} (h:3≤n):Left n (allC n):=by
 refine ⟨by rw [allC_len];exact h,by rw [allC_len];exact Nat.le_refl _,?_,?_,?_⟩
 ·unfold allC
  rw [List.pairwise_map]
  exact List.pairwise_lt_range.imp fun h=>by omega
 all_goals (intro x hx;unfold allC at hx;obtain ⟨k,hk,rfl⟩:=List.mem_map.1 hx;have:=List.mem_range.1 hk;omega)
theorem Left.erase {n:Nat} {l:List Int} (h:Left n l) (h4:3 < l.length) {i:Nat} (hi:i < l.length):Left n (l.eraseIdx i):=by
 have hl:=List.length_eraseIdx_of_lt hi
 refine ⟨by omega,by have:=h.le;omega,h.inc.sublist (List.eraseIdx_sublist _ _),fun x hx=>h.ge x ((List.eraseIdx_sublist _ _).mem hx),fun x hx=>h.lt x ((List.eraseIdx_sublist _ _).mem hx)⟩
theorem gI_mem {l:List Int} {k:Nat} (h:k < l.length):gI l k∈l:=by rw [show gI l k=l[k] from getD_lt _ h];exact List.getElem_mem _
theorem Left.at {n:Nat} {l:List Int} (h:Left n l) {k:Nat} (hk:k < l.length):0≤gI l k∧gI l k < n:=⟨h.ge _ (gI_mem hk),h.lt _ (gI_mem hk)⟩
theorem Left.mono {n:Nat} {l:List Int} (h:Left n l) {i j:Nat} (hij:i < j) (hj:j < l.length):gI l i < gI l j:=by
 rw [show gI l i=l[i] from getD_lt _ (by omega),show gI l j=l[j] from getD_lt _ hj]
 exact List.pairwise_iff_getElem.1 h.inc i j (by omega) hj hij
theorem Left.inj {n:Nat} {l:List Int} (h:Left n l) {i j:Nat} (hi:i < l.length) (hj:j < l.length) (e:gI l i=gI l j):i=j:=by
 rcases Nat.lt_trichotomy i j with h1|h1|h1
 ·have:=h.mono h1 hj;omega
 ·exact h1
 ·have:=h.mono h1 hi;omega
theorem prv_lt {n i:Nat} (h:0 < n):prvN n i < n:=Nat.mod_lt _ h
theorem nxt_lt {n i:Nat} (h:0 < n):nxtN n i < n:=Nat.mod_lt _ h
theorem prv_eq {n i:Nat} (hi:i < n):(i=0∧prvN n i=n - 1)∨(0 < i∧prvN n i=i - 1):=by
 unfold prvN
 rcases Nat.eq_zero_or_pos i with h|h
 ·subst h;exact .inl ⟨rfl,by rw [Nat.zero_add,Nat.mod_eq_of_lt (by omega)]⟩
 ·exact .inr ⟨h,by rw [show i + n - 1=(i - 1) + n by omega,Nat.add_mod_right,Nat.mod_eq_of_lt (by omega)]⟩
theorem nxt_eq {n i:Nat} (hi:i < n):(i + 1=n∧nxtN n i=0)∨(i + 1 < n∧nxtN n i=i + 1):=by
 unfold nxtN
 rcases Nat.lt_or_ge (i + 1) n with h|h
 ·exact .inr ⟨h,Nat.mod_eq_of_lt h⟩
 ·have:i + 1=n:=by omega
  exact .inl ⟨this,by rw [this,Nat.mod_self]⟩
structure TriSt (xs:List Pt) (s:List Int × List Tri):Prop where
 left:Left xs.length s.1
 run:triRun xs (s.1.length - 3) s.1 s.2=trisM xs
 len:s.2.length + s.1.length=xs.length
theorem triSt_start {xs:List Pt} (hr:roomOk xs=true) (h3:3≤xs.length):TriSt xs (allC xs.length,[]):=
 ⟨left_all h3,by show triRun xs ((allC xs.length).length - 3) _ _=_;rw [allC_len];unfold trisM;rw [if_pos hr],by simp [allC_len]⟩
theorem TriSt.step {xs:List Pt} {s:List Int × List Tri} (h:TriSt xs s) (h4:3 < s.1.length) {i:Nat} (hc:firstCut xs s.1=some i):TriSt xs (s.1.eraseIdx i,s.2 ++ [triAt s.1 i]):=by
 have hi:=(firstCut_spec hc).1
 have hl:=List.length_eraseIdx_of_lt hi
 refine ⟨h.left.erase h4 hi,?_,?_⟩
 ·have hr:=h.run
  show triRun xs ((s.1.eraseIdx i).length - 3) _ _=_
  rw [hl,show s.1.length - 1 - 3=s.1.length - 4 by omega]
  rw [show s.1.length - 3=(s.1.length - 4) + 1 by omega] at hr
  unfold triRun at hr
  rw [hc] at hr
  exact hr
 ·have:=h.len
  show (s.2 ++ [triAt s.1 i]).length + (s.1.eraseIdx i).length=_
  rw [List.length_append,hl]
  simp only [List.length_cons,List.length_nil]
  omega
theorem TriSt.none {xs:List Pt} {s:List Int × List Tri} (h:TriSt xs s) (h4:3 < s.1.length) (hc:firstCut xs s.1=none):trisM xs=[]:=by
 have hr:=h.run
 rw [show s.1.length - 3=(s.1.length - 4) + 1 by omega] at hr
 unfold triRun at hr
 rw [hc] at hr
 exact hr.symm
theorem TriSt.last {xs:List Pt} {s:List Int × List Tri} (h:TriSt xs s) (h3:s.1.length≤3):trisM xs=s.2 ++ [triS (gI s.1 0) (gI s.1 1) (gI s.1 2)]:=by
 have hr:=h.run
 rw [show s.1.length - 3=0 by omega] at hr
 exact hr.symm
inductive Cutd:List Int→List Tri→Prop
 | last {l:List Int} (h:l.length=3):Cutd l [triS (gI l 0) (gI l 1) (gI l 2)]
 | step {l:List Int} {ts:List Tri} {i:Nat} (h:3 < l.length) (hi:i < l.length) (hr:Cutd (l.eraseIdx i) ts):Cutd l (triAt l i :: ts)
theorem run_cutd {xs:List Pt}:∀ (f:Nat) (l:List Int) (out:List Tri),l.length=f + 3→triRun xs f l out=[]∨∃ ts,triRun xs f l out=out ++ ts∧Cutd l ts
 | 0,l,out,h=>.inr ⟨_,rfl,.last (by omega)⟩
 | f + 1,l,out,h=>by
  unfold triRun
  split
  ·exact .inl rfl
  ·rename_i i hc
   have hi:=(firstCut_spec hc).1
   have hl:=List.length_eraseIdx_of_lt hi
   rcases run_cutd (xs:=xs) f (l.eraseIdx i) (out ++ [triAt l i]) (by omega) with e|⟨ts,e,hd⟩
   ·exact .inl e
   ·exact .inr ⟨triAt l i :: ts,by rw [e];simp,.step (by omega) hi hd⟩
theorem tris_cutd (xs:List Pt):trisM xs=[]∨(roomOk xs=true∧Cutd (allC xs.length) (trisM xs)):=by
 unfold trisM
 split
 ·rename_i hr
  have hl:=room_len hr
  rcases run_cutd (xs:=xs) (xs.length - 3) (allC xs.length) [] (by rw [allC_len];omega) with e|⟨ts,e,hd⟩
  ·exact .inl e
  ·rw [e,List.nil_append];exact .inr ⟨hr,hd⟩
 ·exact .inl rfl
theorem Cutd.ne {l:List Int} {ts:List Tri} (h:Cutd l ts):ts≠[]:=by cases h <;> simp
theorem triS_six (a b c:Int):triS a b c=(a,b,c)∨triS a b c=(a,c,b)∨triS a b c=(b,a,c)∨triS a b c=(b,c,a)∨triS a b c=(c,a,b)∨triS a b c=(c,b,a):=by
 unfold triS
 simp only [Prod.mk.injEq]
 omega
theorem triS_inc {a b c:Int} (h1:a≠b) (h2:b≠c) (h3:a≠c):(triS a b c).1 < (triS a b c).2.1∧(triS a b c).2.1 < (triS a b c).2.2:=by
 unfold triS
 simp only
 omega
theorem triS_sorted {a b c:Int} (h1:a < b) (h2:b < c):triS a b c=(a,b,c):=by
 unfold triS
 simp only [Prod.mk.injEq]
 omega
def TriIn (n:Nat) (t:Tri):Prop:=0≤t.1∧t.1 < t.2.1∧t.2.1 < t.2.2∧t.2.2 < n
theorem triIn_of {n:Nat} {a b c:Int} (h1:a≠b) (h2:b≠c) (h3:a≠c) (ha:0≤a∧a < n) (hb:0≤b∧b < n) (hc:0≤c∧c < n):TriIn n (triS a b c):=by
 have hi:=triS_inc h1 h2 h3
 unfold TriIn
 rcases triS_six a b c with e|e|e|e|e|e <;> rw [e] at hi ⊢ <;> simp only at hi ⊢ <;> omega
theorem prv_ne {n i:Nat} (h3:3≤n) (hi:i < n):prvN n i≠i∧nxtN n i≠i∧prvN n i≠nxtN n i:=by
 rcases prv_eq hi with ⟨h1,h2⟩|⟨h1,h2⟩ <;> rcases nxt_eq hi with ⟨h4,h5⟩|⟨h4,h5⟩ <;> omega
theorem Left.triAt {n:Nat} {l:List Int} (h:Left n l) {i:Nat} (hi:i < l.length):TriIn n (triAt l i):=by
 have h3:=h.len
 obtain ⟨e1,e2,e3⟩:=prv_ne h3 hi
 have hp:=prv_lt (n:=l.length) (i:=i) (by omega)
 have hq:=nxt_lt (n:=l.length) (i:=i) (by omega)
 exact triIn_of (fun e=>e1 (h.inj hp hi e)) (fun e=>e2 (h.inj hq hi e.symm)) (fun e=>e3 (h.inj hp hq e)) (h.at hp) (h.at hi) (h.at hq)
theorem Cutd.triIn {n:Nat} {l:List Int} {ts:List Tri} (h:Cutd l ts) (hl:Left n l):∀ t∈ts,TriIn n t:=by
 induction h with
 | last h3=>
  rename_i l
  intro t ht
  rw [List.mem_singleton.1 ht]
  have h01:=hl.mono (i:=0) (j:=1) (by omega) (by omega)
  have h12:=hl.mono (i:=1) (j:=2) (by omega) (by omega)
  exact triIn_of (by omega) (by omega) (by omega) (hl.at (by omega)) (hl.at (by omega)) (hl.at (by omega))
 | step h4 hi hr ih=>
  intro t ht
  rcases List.mem_cons.1 ht with rfl|ht
  ·exact hl.triAt hi
  ·exact ih (hl.erase h4 hi) t ht
theorem tris_in {xs:List Pt} {t:Tri} (h:t∈trisM xs):TriIn xs.length t:=by
 rcases tris_cutd xs with e|⟨hr,hd⟩
 ·rw [e] at h;cases h
 ·exact hd.triIn (left_all (room_len hr).1) t h
theorem Cutd.drop {n:Nat} {l:List Int} {ts:List Tri} (h:Cutd l ts) (hl:Left n l):∀ j,j < ts.length→∃ l',Left n l'∧Cutd l' (ts.drop j):=by
 induction h with
 | last h3=>
  intro j hj
  have:j=0:=by simpa using hj
  subst this
  exact ⟨_,hl,.last h3⟩
 | step h4 hi hr ih=>
  intro j hj
  cases j with
  | zero=>exact ⟨_,hl,.step h4 hi hr⟩
  | succ j=>exact ih (hl.erase h4 hi) j (by simpa using hj)
abbrev cI (out:List Int) (x:Int):Int:=out.getD x.toNat 0
def colStep (out:List Int) (t:Tri):List Int:=
 if cI out t.1 < 0 then out.set t.1.toNat (3 - cI out t.2.1 - cI out t.2.2)
 else if cI out t.2.1 < 0 then out.set t.2.1.toNat (3 - cI out t.2.2 - cI out t.1)
 else if cI out t.2.2 < 0 then out.set t.2.2.toNat (3 - cI out t.1 - cI out t.2.1)
 else out
theorem colStep_len (out:List Int) (t:Tri):(colStep out t).length=out.length:=by
 unfold colStep
 split
 ·simp
 ·split
  ·simp
  ·split <;> simp
theorem cI_set {out:List Int} {x y:Int} {v:Int} (hx:0≤x∧x < out.length) (hy:0≤y):cI (out.set x.toNat v) y=if y=x then v else cI out y:=by
 unfold cI
 rw [getD_set (by omega)]
 by_cases h:y=x
 ·subst h;rw [if_pos rfl,if_pos rfl]
 ·rw [if_neg h,if_neg (by omega)]
structure Col (n:Nat) (l:List Int) (out:List Int):Prop where
 len:out.length=n
 yes:∀ x∈l,0≤cI out x∧cI out x≤2
 no:∀ x:Int,0≤x→x < n→x ∉ l→cI out x=-1
 ne:∀ k,k < l.length→cI out (gI l k)≠cI out (gI l (nxtN l.length k))
theorem gI_erase {l:List Int} {i j:Nat} (hj:j + 1 < l.length):gI (l.eraseIdx i) j=if j < i then gI l j else gI l (j + 1):=by
 unfold gI
 rw [List.getD_eq_getElem?_getD,List.getElem?_eraseIdx]
 split <;> rw [← List.getD_eq_getElem?_getD]
theorem mem_gI {l:List Int} {x:Int}:x∈l↔∃ k,k < l.length∧gI l k=x:=by
 rw [List.mem_iff_getElem]
 constructor
 ·rintro ⟨k,h,e⟩;exact ⟨k,h,by rw [show gI l k=l[k] from getD_lt _ h,e]⟩
 ·rintro ⟨k,h,e⟩;exact ⟨k,h,by rw [← e,show gI l k=l[k] from getD_lt _ h]⟩
theorem Left.mem_erase {n:Nat} {l:List Int} (h:Left n l) {i:Nat} (hi:i < l.length) {x:Int}:x∈l.eraseIdx i↔x∈l∧x≠gI l i:=by
 have hl:=List.length_eraseIdx_of_lt hi
 rw [mem_gI,mem_gI,hl]
 constructor
 ·rintro ⟨k,hk,e⟩
  rw [gI_erase (by omega)] at e
  split at e
  ·exact ⟨⟨k,by omega,e⟩,fun e'=>by have:=h.inj (i:=k) (j:=i) (by omega) hi (by rw [e,e']);omega⟩
  ·exact ⟨⟨k + 1,by omega,e⟩,fun e'=>by have:=h.inj (i:=k + 1) (j:=i) (by omega) hi (by rw [e,e']);omega⟩
 ·rintro ⟨⟨k,hk,e⟩,hne⟩
  have hki:k≠i:=fun e'=>hne (by rw [← e,e'])
  rcases Nat.lt_or_ge k i with h1|h1
  ·exact ⟨k,by omega,by rw [gI_erase (by omega),if_pos h1,e]⟩
  ·exact ⟨k - 1,by omega,by rw [gI_erase (by omega),if_neg (by omega),show k - 1 + 1=k by omega,e]⟩
theorem colStep_cut {out:List Int} {p c q:Int} (hc:cI out c < 0) (hp:0≤cI out p) (hq:0≤cI out q):colStep out (triS p c q)=out.set c.toNat (3 - cI out p - cI out q):=by
 unfold colStep
 rcases triS_six p c q with e|e|e|e|e|e <;> rw [e] <;> simp only
 ·rw [if_neg (by omega),if_pos hc];congr 1;omega
 ·rw [if_neg (by omega),if_neg (by omega),if_pos hc]
 ·rw [if_pos hc]
 ·rw [if_pos hc];congr 1;omega
 ·rw [if_neg (by omega),if_neg (by omega),if_pos hc];congr 1;omega
 ·rw [if_neg (by omega),if_pos hc]
theorem Col.step {n:Nat} {l:List Int} {i:Nat} {out:List Int} (hl:Left n l) (h4:3 < l.length) (hi:i < l.length) (h:Col n (l.eraseIdx i) out) :
  (cI out (gI l i)=-1∧(0≤cI out (gI l (prvN l.length i))∧cI out (gI l (prvN l.length i))≤2)∧(0≤cI out (gI l (nxtN l.length i))∧cI out (gI l (nxtN l.length i))≤2))∧Col n l (colStep out (triAt l i)):=by
 have hlen:=List.length_eraseIdx_of_lt hi
 obtain ⟨e1,e2,e3⟩:=prv_ne (n:=l.length) (by omega) hi
 have hp:=prv_lt (n:=l.length) (i:=i) (by omega)
 have hq:=nxt_lt (n:=l.length) (i:=i) (by omega)
 have hpm:gI l (prvN l.length i)∈l.eraseIdx i:=(hl.mem_erase hi).2 ⟨gI_mem hp,fun e=>e1 (hl.inj hp hi e)⟩
 have hqm:gI l (nxtN l.length i)∈l.eraseIdx i:=(hl.mem_erase hi).2 ⟨gI_mem hq,fun e=>e2 (hl.inj hq hi e)⟩
 have hcn:gI l i ∉ l.eraseIdx i:=fun hm=>((hl.mem_erase hi).1 hm).2 rfl
 have hc:=h.no _ (hl.at hi).1 (hl.at hi).2 hcn
 have hcp:=h.yes _ hpm
 have hcq:=h.yes _ hqm
 have hpq:cI out (gI l (prvN l.length i))≠cI out (gI l (nxtN l.length i)):=by
  have key:∃ k,k < (l.eraseIdx i).length∧gI (l.eraseIdx i) k=gI l (prvN l.length i)∧gI (l.eraseIdx i) (nxtN (l.eraseIdx i).length k)=gI l (nxtN l.length i):=by
   rcases prv_eq hi with ⟨h1,h2⟩|⟨h1,h2⟩
   ·refine ⟨l.length - 2,by omega,by rw [gI_erase (by omega),if_neg (by omega),h2];congr 1;omega,?_⟩
    rcases nxt_eq (n:=(l.eraseIdx i).length) (i:=l.length - 2) (by omega) with ⟨g1,g2⟩|⟨g1,g2⟩
    ·rcases nxt_eq hi with ⟨g3,g4⟩|⟨g3,g4⟩
     ·omega
     ·rw [g2,g4,gI_erase (by omega),if_neg (by omega)];congr 1;omega
    ·omega
   ·refine ⟨i - 1,by omega,by rw [gI_erase (by omega),if_pos (by omega),h2],?_⟩
    rcases nxt_eq hi with ⟨g3,g4⟩|⟨g3,g4⟩
    ·rcases nxt_eq (n:=(l.eraseIdx i).length) (i:=i - 1) (by omega) with ⟨g1,g2⟩|⟨g1,g2⟩
     ·rw [g2,g4,gI_erase (by omega),if_pos (by omega)]
     ·omega
    ·rcases nxt_eq (n:=(l.eraseIdx i).length) (i:=i - 1) (by omega) with ⟨g1,g2⟩|⟨g1,g2⟩
     ·omega
     ·rw [g2,g4,gI_erase (by omega),if_neg (by omega)];congr 1;omega
  obtain ⟨k,k1,k2,k3⟩:=key
  have:=h.ne k k1
  rw [k2,k3] at this
  exact this
 refine ⟨⟨hc,hcp,hcq⟩,?_⟩
 have hs:colStep out (triAt l i)=out.set (gI l i).toNat (3 - cI out (gI l (prvN l.length i)) - cI out (gI l (nxtN l.length i))):=colStep_cut (by omega) hcp.1 hcq.1
 have hcx:0≤gI l i∧gI l i < out.length:=by rw [h.len];exact hl.at hi
 have hget:∀ y,0≤y→cI (colStep out (triAt l i)) y=if y=gI l i then 3 - cI out (gI l (prvN l.length i)) - cI out (gI l (nxtN l.length i)) else cI out y:=fun y hy=>by rw [hs];exact cI_set hcx hy
 refine ⟨by rw [colStep_len,h.len],fun x hx=>?_,fun x h0 h1 hx=>?_,fun k hk=>?_⟩
 ·rw [hget x (hl.ge x hx)]
  split
  ·omega
  ·exact h.yes x ((hl.mem_erase hi).2 ⟨hx,by assumption⟩)
 ·rw [hget x h0,if_neg (fun e=>hx (by rw [e];exact gI_mem hi))]
  exact h.no x h0 h1 (fun hm=>hx ((hl.mem_erase hi).1 hm).1)
 ·have hkn:=nxt_lt (n:=l.length) (i:=k) (by omega)
  rw [hget _ (hl.at hk).1,hget _ (hl.at hkn).1]
  by_cases hki:k=i
  ·subst hki
   rw [if_pos rfl,if_neg (fun e=>e2 (hl.inj hq hi e))]
   omega
  ·rw [if_neg (fun e=>hki (hl.inj hk hi e))]
   by_cases hni:nxtN l.length k=i
   ·rw [if_pos (by rw [hni])]
    have hkp:k=prvN l.length i:=by
     rcases nxt_eq hk with ⟨g1,g2⟩|⟨g1,g2⟩ <;> rcases prv_eq hi with ⟨g3,g4⟩|⟨g3,g4⟩ <;> omega
    rw [hkp]
    omega
   ·rw [if_neg (fun e=>hni (hl.inj hkn hi e))]
    have key:∃ j,j < (l.eraseIdx i).length∧gI (l.eraseIdx i) j=gI l k∧gI (l.eraseIdx i) (nxtN (l.eraseIdx i).length j)=gI l (nxtN l.length k):=by
     rcases Nat.lt_or_ge k i with h1|h1
     ·refine ⟨k,by omega,by rw [gI_erase (by omega),if_pos h1],?_⟩
      rcases nxt_eq hk with ⟨g1,g2⟩|⟨g1,g2⟩
      ·omega
      ·rcases nxt_eq (n:=(l.eraseIdx i).length) (i:=k) (by omega) with ⟨g3,g4⟩|⟨g3,g4⟩
       ·omega
       ·rw [g2,g4,gI_erase (by omega),if_pos (by omega)]
     ·refine ⟨k - 1,by omega,by rw [gI_erase (by omega),if_neg (by omega),show k - 1 + 1=k by omega],?_⟩
      rcases nxt_eq hk with ⟨g1,g2⟩|⟨g1,g2⟩
      ·rcases nxt_eq (n:=(l.eraseIdx i).length) (i:=k - 1) (by omega) with ⟨g3,g4⟩|⟨g3,g4⟩
       ·rw [g2,g4,gI_erase (by omega),if_pos (by omega)]
       ·omega
      ·rcases nxt_eq (n:=(l.eraseIdx i).length) (i:=k - 1) (by omega) with ⟨g3,g4⟩|⟨g3,g4⟩
       ·omega
       ·rw [g2,g4,gI_erase (by omega),if_neg (by omega)];congr 1;omega
    obtain ⟨j,j1,j2,j3⟩:=key
    have:=h.ne j j1
    rw [j2,j3] at this
    exact this
end Go.Proofs.YtnepfcnlngpchaaGreat
namespace Go.Proofs.YtnepfcnlngpchaaGreat
open Go.RowKit Go.Proofs.YtnepfcnlngpchaaGreat.Nm
set_option maxRecDepth 10000
set_option maxHeartbeats 2000000
def cutC:Con:=mkCon [.room,.sl (.b .int),.int] (fun x=>roomOk x.1=true∧Left x.1.length x.2.1∧0≤x.2.2.1∧x.2.2.1 < x.2.1.length) fun x=>vB (cutM x.1 x.2.1 x.2.2.1.toNat)
theorem canCut_ok:Good1 Tryz.prog n_impl_canCut cutC:=by
  refine good_ofG (tys:=tyL) (env:=[(n_impl_diagonal,diagonalC),(n_impl_neighbors,neighC),(n_impl_turn,turnC),(n_impl_inTurn,inTurnC)]) (envw:=[]) (envd:=[]) [] [11,12,13,38,39,41,42,43,44,46,47,48,49,51,52] [] [] [] mixed tys ⟨diagonal_ok,neighbors_ok,turn_ok,inTurn_ok,trivial⟩ trivial trivial Tryz.func96 rfl (by kernel_rfl) (by decide) (by kernel_rfl) ?_
  have hG_:=kpz [(0,[1,2,3]),(1,[1,2,3,7]),(2,[1,3,8,9,10]),(3,[1,3,8,9,10,11,12,13]),(4,[1,3,8,9,10,11,12,13,71]),(5,[6]),(6,[3,8,9,10,11,12,13,72,73,74]),(7,[3,8,9,10,11,12,13,72,73,74,75]),(8,[3,8,9,10,11,12,13,15,72,73,74]),(9,[3,8,9,10,11,12,13,72,73,74,101]),(10,[6]),(11,[3,8,9,10,11,12,13,72,73,74]),(12,[6])] [(3,[11,12,13]),(4,[11,12,13]),(6,[11,12,13]),(7,[11,12,13]),(8,[11,12,13]),(9,[11,12,13]),(11,[11,12,13])] [] []
  rintro ⟨(xs:List Pt),(l:List Int),(i:Int),⟨⟩⟩ ⟨(hr:roomOk xs=true),(hL:Left xs.length l),(h0:0≤i),(h1:i < l.length)⟩
  have hlr:=room_len hr
  have hle:=hL.le
  obtain ⟨i,rfl⟩:=Int.eq_ofNat_of_zero_le h0
  have hpz:=prv_int (n:=l.length) (i:=i) (by omega)
  have hpl:prvN l.length i < l.length:=prv_lt (by omega)
  have hA:0≤l.getD (prvN l.length i) (ElK.b ElB.int).dflt∧l.getD (prvN l.length i) (ElK.b ElB.int).dflt < xs.length:=hL.at hpl
  have hK:0≤l.getD i (ElK.b ElB.int).dflt∧l.getD i (ElK.b ElB.int).dflt < xs.length:=hL.at (by omega)
  have hB:0≤l.getD ((i + 1) % l.length) (ElK.b ElB.int).dflt∧l.getD ((i + 1) % l.length) (ElK.b ElB.int).dflt < xs.length:=hL.at (nxt_lt (by omega))
  have hwA:IntKind.i64.wrap (l.getD (prvN l.length i) (ElK.b ElB.int).dflt + 1)=l.getD (prvN l.length i) (ElK.b ElB.int).dflt + 1:=W_in (by omega) (by omega)
  have hwB:IntKind.i64.wrap (l.getD ((i + 1) % l.length) (ElK.b ElB.int).dflt + 1)=l.getD ((i + 1) % l.length) (ElK.b ElB.int).dflt + 1:=W_in (by omega) (by omega)
  have hX:∀ m,m < l.length→0≤l.getD m (ElK.b ElB.int).dflt∧l.getD m (ElK.b ElB.int).dflt < xs.length:=fun m hm=>hL.at hm
  have hcut:cutM xs l i=true↔(diagM xs (l.getD (prvN l.length i) (ElK.b ElB.int).dflt) (l.getD ((i + 1) % l.length) (ElK.b ElB.int).dflt)=true∨neighZ xs.length (l.getD (prvN l.length i) (ElK.b ElB.int).dflt) (l.getD ((i + 1) % l.length) (ElK.b ElB.int).dflt)=true) ∧
      0 < turn (xs.getD (l.getD (prvN l.length i) (ElK.b ElB.int).dflt).toNat (ElK.b ElB.pt).dflt) (xs.getD (l.getD i (ElK.b ElB.int).dflt).toNat (ElK.b ElB.pt).dflt) (xs.getD (l.getD ((i + 1) % l.length) (ElK.b ElB.int).dflt).toNat (ElK.b ElB.pt).dflt) ∧
      ∀ j,j < l.length→l.getD j (ElK.b ElB.int).dflt=l.getD (prvN l.length i) (ElK.b ElB.int).dflt∨l.getD j (ElK.b ElB.int).dflt=l.getD i (ElK.b ElB.int).dflt∨l.getD j (ElK.b ElB.int).dflt=l.getD ((i + 1) % l.length) (ElK.b ElB.int).dflt ∨
        inTri (xs.getD (l.getD (prvN l.length i) (ElK.b ElB.int).dflt).toNat (ElK.b ElB.pt).dflt) (xs.getD (l.getD i (ElK.b ElB.int).dflt).toNat (ElK.b ElB.pt).dflt) (xs.getD (l.getD ((i + 1) % l.length) (ElK.b ElB.int).dflt).toNat (ElK.b ElB.pt).dflt) (xs.getD (l.getD j (ElK.b ElB.int).dflt).toNat (ElK.b ElB.pt).dflt)=false:=cutM_iff
  generalize hgc:cutM xs l i=cc at hcut
  generalize hga:l.getD (prvN l.length i) (ElK.b ElB.int).dflt=A at *
  generalize hgb:l.getD ((i + 1) % l.length) (ElK.b ElB.int).dflt=B at *
  (repeat' (first|(with_reducible first|exact True.intro|refine zQ ?_|(refine zG hG_ ?_;intro K_ hK_)|(refine zR ?_;intro K_ hK_)|(refine hK_ _ _ ?_;try clear hK_ K_)|refine sq_n ?_|refine sq_r ?_|refine sq_e ?_|refine bq_n ?_|refine bq_r ?_|refine bq_q ?_|refine zB ?_|refine zX ?_|refine zT ?_|refine zK ?_|refine gq_n ?_|refine gq_r ?_|refine gq_e ?_|refine lq_n ?_|refine lq_r ?_|refine lq_e ?_|refine bq_e (by decide) ?_)|((with_reducible refine zC (b:=?b_) ?hb_ ?_ ?_);case hb_=>rfl)|((conv=>whnf);first|(with_reducible refine hK_ _ _ ?_;try clear hK_ K_)|(with_reducible refine fun (g_:Sl) (o_:Ow)=>?_)|(with_reducible first|exact True.intro|refine And.intro trivial ?_|refine And.intro ?_ ?_)|exact Nat.le_of_ble_eq_true rfl|exact Or.inl rfl|(intro h_;cases h_)|(intro h_;(try simp only [vS1] at h_))|rfl))) <;> (try (conv=>whnf)) <;> (try first|change (_:Int)≤_|change (_:Nat)≤_) <;> (try ((fail_if_success (with_reducible apply Exists.intro));(try dsimp only);(try simp only [vS1]))) <;> (try simp (disch:=omega) only [vS3,Int.add_sub_cancel,tn1,tnp,tnc,vS2] at *) <;> (try simp only [hpz,Int.toNat_natCast,hga,hgb,hgc,hwA,hwB] at *) <;> (try simp (disch:=omega) only [W_in] at *)
  all_goals (try (fail_if_success (with_reducible apply Exists.intro));first|with_reducible assumption|omega|exact mdl (by omega)|exact ilo1 (by omega)|exact ilo2 (by omega)|exact ihi1 (by omega) (by omega)|exact ihi2 (by omega) (by omega))
  all_goals first
    | (refine eq_false_of fun hc=>?_
       have h5:=hcut.1 hc
       simp_all [neighZ]
       done)
    | (refine eq_false_of fun hc=>?_
       have h5:=(hcut.1 hc).2.1
       omega)
    | skip
  ·
    refine awp'_loopG (α:=Nat) (fun m ver_=>[(74,vInt m)]) (fun m ver_=>[]) (fun m ver_=>[]) (fun m=>m≤l.length∧∀ j,j < m→l.getD j (ElK.b ElB.int).dflt=A∨l.getD j (ElK.b ElB.int).dflt=l.getD i (ElK.b ElB.int).dflt∨l.getD j (ElK.b ElB.int).dflt=B∨inTri (xs.getD A.toNat (ElK.b ElB.pt).dflt) (xs.getD (l.getD i (ElK.b ElB.int).dflt).toNat (ElK.b ElB.pt).dflt) (xs.getD B.toNat (ElK.b ElB.pt).dflt) (xs.getD (l.getD j (ElK.b ElB.int).dflt).toNat (ElK.b ElB.pt).dflt)=false) (fun m=>l.length - m) [3,8,9,10,11,12,13,72,73] [11,12,13] (0) ?_
    conv=>whnf
    refine ⟨⟨?inv1_,?vals1_,?own1_,?fix1_⟩,?body1_⟩
    case' vals1_=>(repeat' (first|(with_reducible first|exact True.intro|refine And.intro ?_ ?_|refine Head.mk ?_ ?_ ?_ ?_)|((conv=>lhs;whnf);first|(with_reducible first|rfl|exact vInt_s (by omega))|exact rfl)|((conv=>whnf);first|(with_reducible first|exact True.intro|refine And.intro ?_ ?_)))) <;> (try (conv=>lhs;whnf))
    case' own1_=>(repeat' (first|(with_reducible first|exact True.intro|refine And.intro ?_ ?_|refine Head.mk ?_ ?_ ?_ ?_)|((conv=>lhs;whnf);first|(with_reducible first|rfl|exact vInt_s (by omega))|exact rfl)|((conv=>whnf);first|(with_reducible first|exact True.intro|refine And.intro ?_ ?_)))) <;> (try (conv=>lhs;whnf))
    case' fix1_=>(repeat' (first|(with_reducible first|exact True.intro|refine And.intro ?_ ?_|refine Head.mk ?_ ?_ ?_ ?_)|((conv=>lhs;whnf);first|(with_reducible first|rfl|exact vInt_s (by omega))|exact rfl)|((conv=>whnf);first|(with_reducible first|exact True.intro|refine And.intro ?_ ?_)))) <;> (try (conv=>lhs;whnf))
    · exact ⟨Nat.zero_le _,fun j hj=>absurd hj (by omega)⟩
    rintro m g_ o_ v_ ⟨hm,hall⟩
    (repeat' (first|(with_reducible first|exact True.intro|refine zQ ?_|(refine zG hG_ ?_;intro K_ hK_)|(refine zR ?_;intro K_ hK_)|(refine hK_ _ _ ?_;try clear hK_ K_)|refine sq_n ?_|refine sq_r ?_|refine sq_e ?_|refine bq_n ?_|refine bq_r ?_|refine bq_q ?_|refine zB ?_|refine zX ?_|refine zT ?_|refine zK ?_|refine gq_n ?_|refine gq_r ?_|refine gq_e ?_|refine lq_n ?_|refine lq_r ?_|refine lq_e ?_|refine bq_e (by decide) ?_)|((with_reducible refine zC (b:=?b_) ?hb_ ?_ ?_);case hb_=>rfl)|((conv=>whnf);first|(with_reducible refine hK_ _ _ ?_;try clear hK_ K_)|(with_reducible refine fun (g_:Sl) (o_:Ow)=>?_)|(with_reducible first|exact True.intro|refine And.intro trivial ?_|refine And.intro ?_ ?_)|exact Nat.le_of_ble_eq_true rfl|exact Or.inl rfl|(intro h_;cases h_)|(intro h_;(try simp only [vS1] at h_))|rfl))) <;> (try (conv=>whnf)) <;> (try first|change (_:Int)≤_|change (_:Nat)≤_) <;> (try ((fail_if_success (with_reducible apply Exists.intro));(try dsimp only);(try simp only [vS1]))) <;> (try simp (disch:=omega) only [vS3,Int.add_sub_cancel,tn1,tnp,tnc,vS2] at *) <;> (try simp only [hpz,Int.toNat_natCast,hga,hgb,hgc,hwA,hwB] at *)
    all_goals (try (fail_if_success (with_reducible apply Exists.intro));first|with_reducible assumption|omega|exact mdl (by omega)|exact ilo1 (by omega)|exact ilo2 (by omega)|exact ihi1 (by omega) (by omega)|exact ihi2 (by omega) (by omega))
    all_goals first
      | exact (hX m (by assumption)).1
      | (have:=(hX m (by assumption)).2;omega)
      | exact ⟨m + 1,by omega,⟨by omega,lt_succ_all hall (by first|exact .inl (by assumption)|exact .inr (.inl (by assumption))|exact .inr (.inr (.inl (by assumption)))|exact .inr (.inr (.inr (by assumption))))⟩,by (repeat' (first|(with_reducible first|exact True.intro|refine And.intro ?_ ?_|refine Head.mk ?_ ?_ ?_ ?_)|((conv=>lhs;whnf);first|(with_reducible first|rfl|exact vInt_s (by omega))|exact rfl)|((conv=>whnf);first|(with_reducible first|exact True.intro|refine And.intro ?_ ?_)))) <;> (try (conv=>lhs;whnf))⟩
      | (refine eq_false_of fun hc=>?_
         rcases (hcut.1 hc).2.2 m (by assumption) with e|e|e|e <;> first|contradiction|exact absurd (‹inTri _ _ _ _=true›.symm.trans e) (by decide))
      | (refine eq_true_of (hcut.2 ⟨?_,by omega,fun j hj=>hall j (by omega)⟩)
         first|exact .inl (by assumption)|exact .inr (by assumption)|(refine .inr ?_;simp [neighZ, *];done))
      | skip
  ·
    refine awp'_loopG (α:=Nat) (fun m ver_=>[(74,vInt m)]) (fun m ver_=>[]) (fun m ver_=>[]) (fun m=>m≤l.length∧∀ j,j < m→l.getD j (ElK.b ElB.int).dflt=A∨l.getD j (ElK.b ElB.int).dflt=l.getD i (ElK.b ElB.int).dflt∨l.getD j (ElK.b ElB.int).dflt=B∨inTri (xs.getD A.toNat (ElK.b ElB.pt).dflt) (xs.getD (l.getD i (ElK.b ElB.int).dflt).toNat (ElK.b ElB.pt).dflt) (xs.getD B.toNat (ElK.b ElB.pt).dflt) (xs.getD (l.getD j (ElK.b ElB.int).dflt).toNat (ElK.b ElB.pt).dflt)=false) (fun m=>l.length - m) [3,8,9,10,11,12,13,72,73] [11,12,13] (0) ?_
    conv=>whnf
    refine ⟨⟨?inv2_,?vals2_,?own2_,?fix2_⟩,?body2_⟩
    case' vals2_=>(repeat' (first|(with_reducible first|exact True.intro|refine And.intro ?_ ?_|refine Head.mk ?_ ?_ ?_ ?_)|((conv=>lhs;whnf);first|(with_reducible first|rfl|exact vInt_s (by omega))|exact rfl)|((conv=>whnf);first|(with_reducible first|exact True.intro|refine And.intro ?_ ?_)))) <;> (try (conv=>lhs;whnf))
    case' own2_=>(repeat' (first|(with_reducible first|exact True.intro|refine And.intro ?_ ?_|refine Head.mk ?_ ?_ ?_ ?_)|((conv=>lhs;whnf);first|(with_reducible first|rfl|exact vInt_s (by omega))|exact rfl)|((conv=>whnf);first|(with_reducible first|exact True.intro|refine And.intro ?_ ?_)))) <;> (try (conv=>lhs;whnf))
    case' fix2_=>(repeat' (first|(with_reducible first|exact True.intro|refine And.intro ?_ ?_|refine Head.mk ?_ ?_ ?_ ?_)|((conv=>lhs;whnf);first|(with_reducible first|rfl|exact vInt_s (by omega))|exact rfl)|((conv=>whnf);first|(with_reducible first|exact True.intro|refine And.intro ?_ ?_)))) <;> (try (conv=>lhs;whnf))
    · exact ⟨Nat.zero_le _,fun j hj=>absurd hj (by omega)⟩
    rintro m g_ o_ v_ ⟨hm,hall⟩
    (repeat' (first|(with_reducible first|exact True.intro|refine zQ ?_|(refine zG hG_ ?_;intro K_ hK_)|(refine zR ?_;intro K_ hK_)|(refine hK_ _ _ ?_;try clear hK_ K_)|refine sq_n ?_|refine sq_r ?_|refine sq_e ?_|refine bq_n ?_|refine bq_r ?_|refine bq_q ?_|refine zB ?_|refine zX ?_|refine zT ?_|refine zK ?_|refine gq_n ?_|refine gq_r ?_|refine gq_e ?_|refine lq_n ?_|refine lq_r ?_|refine lq_e ?_|refine bq_e (by decide) ?_)|((with_reducible refine zC (b:=?b_) ?hb_ ?_ ?_);case hb_=>rfl)|((conv=>whnf);first|(with_reducible refine hK_ _ _ ?_;try clear hK_ K_)|(with_reducible refine fun (g_:Sl) (o_:Ow)=>?_)|(with_reducible first|exact True.intro|refine And.intro trivial ?_|refine And.intro ?_ ?_)|exact Nat.le_of_ble_eq_true rfl|exact Or.inl rfl|(intro h_;cases h_)|(intro h_;(try simp only [vS1] at h_))|rfl))) <;> (try (conv=>whnf)) <;> (try first|change (_:Int)≤_|change (_:Nat)≤_) <;> (try ((fail_if_success (with_reducible apply Exists.intro));(try dsimp only);(try simp only [vS1]))) <;> (try simp (disch:=omega) only [vS3,Int.add_sub_cancel,tn1,tnp,tnc,vS2] at *) <;> (try simp only [hpz,Int.toNat_natCast,hga,hgb,hgc,hwA,hwB] at *)
    all_goals (try (fail_if_success (with_reducible apply Exists.intro));first|with_reducible assumption|omega|exact mdl (by omega)|exact ilo1 (by omega)|exact ilo2 (by omega)|exact ihi1 (by omega) (by omega)|exact ihi2 (by omega) (by omega))
    all_goals first
      | exact (hX m (by assumption)).1
      | (have:=(hX m (by assumption)).2;omega)
      | exact ⟨m + 1,by omega,⟨by omega,lt_succ_all hall (by first|exact .inl (by assumption)|exact .inr (.inl (by assumption))|exact .inr (.inr (.inl (by assumption)))|exact .inr (.inr (.inr (by assumption))))⟩,by (repeat' (first|(with_reducible first|exact True.intro|refine And.intro ?_ ?_|refine Head.mk ?_ ?_ ?_ ?_)|((conv=>lhs;whnf);first|(with_reducible first|rfl|exact vInt_s (by omega))|exact rfl)|((conv=>whnf);first|(with_reducible first|exact True.intro|refine And.intro ?_ ?_)))) <;> (try (conv=>lhs;whnf))⟩
      | (refine eq_false_of fun hc=>?_
         rcases (hcut.1 hc).2.2 m (by assumption) with e|e|e|e <;> first|contradiction|exact absurd (‹inTri _ _ _ _=true›.symm.trans e) (by decide))
      | (refine eq_true_of (hcut.2 ⟨?_,by omega,fun j hj=>hall j (by omega)⟩)
         first|exact .inl (by assumption)|exact .inr (by assumption)|(refine .inr ?_;simp [neighZ, *];done))
      | skip
def l11C:Con:=mkCon [.sl (.b .pt),.sl (.b .int),.int] (fun x=>roomOk x.1=true∧Left x.1.length x.2.1∧0≤x.2.2.1∧x.2.2.1 < x.2.1.length) fun x=>vB (cutM x.1 x.2.1 x.2.2.1.toNat)
theorem l11Ear_ok:Good1 Tryz.prog n_spec_l11Ear l11C:=by
  refine good_ofG (tys:=tyL) (env:=[(n_spec_l02Turn,turnC),(n_spec_l09Diagonal,l09C),(n_spec_l11In,inTriC)]) (envw:=[]) (envd:=[]) [] [10,11,12] [] [] [] mixed tys ⟨l02Turn_ok,l09Diagonal_ok,l11In_ok,trivial⟩ trivial trivial Tryz.func57 rfl (by kernel_rfl) (by decide) (by kernel_rfl) ?_
  have hG_:=kpz [(0,[0,1,2]),(1,[0,1,2,7]),(2,[0,1,2,7,8]),(3,[0,1,2,7,8,9]),(4,[0,1,2,7,8,9,10]),(5,[0,1,2,7,8,9,10,11]),(6,[0,1,2,7,8,9,10,11,12]),(7,[0,1,2,7,8,9,10,11,12,53]),(8,[6]),(9,[0,1,2,7,8,9,10,11,12,13]),(10,[0,1,2,7,8,9,10,11,12,76]),(11,[6]),(12,[0,1,2,7,8,9,10,11,12,14]),(13,[0,1,2,7,8,9,10,11,12,14,79]),(14,[0,1,2,7,8,9,10,11,12,14]),(15,[0,1,2,7,8,9,10,11,12,14,15]),(16,[0,1,2,7,8,9,10,11,12,14,111]),(17,[6]),(18,[6])] [(4,[10]),(5,[10,11]),(6,[10,11,12]),(7,[10,11,12]),(9,[10,11,12]),(10,[10,11,12]),(12,[10,11,12]),(13,[10,11,12]),(14,[10,11,12]),(15,[10,11,12]),(16,[10,11,12])] [] []
  rintro ⟨(xs:List Pt),(l:List Int),(i:Int),⟨⟩⟩ ⟨(hr:roomOk xs=true),(hL:Left xs.length l),(h0:0≤i),(h1:i < l.length)⟩
  have hlr:=room_len hr
  have hle:=hL.le
  obtain ⟨i,rfl⟩:=Int.eq_ofNat_of_zero_le h0
  have hpz:=prv_int (n:=l.length) (i:=i) (by omega)
  have hpl:prvN l.length i < l.length:=prv_lt (by omega)
  have hA:0≤l.getD (prvN l.length i) (ElK.b ElB.int).dflt∧l.getD (prvN l.length i) (ElK.b ElB.int).dflt < xs.length:=hL.at hpl
  have hK:0≤l.getD i (ElK.b ElB.int).dflt∧l.getD i (ElK.b ElB.int).dflt < xs.length:=hL.at (by omega)
  have hB:0≤l.getD ((i + 1) % l.length) (ElK.b ElB.int).dflt∧l.getD ((i + 1) % l.length) (ElK.b ElB.int).dflt < xs.length:=hL.at (nxt_lt (by omega))
  have hwA:IntKind.i64.wrap (l.getD (prvN l.length i) (ElK.b ElB.int).dflt + 1)=l.getD (prvN l.length i) (ElK.b ElB.int).dflt + 1:=W_in (by omega) (by omega)
  have hwB:IntKind.i64.wrap (l.getD ((i + 1) % l.length) (ElK.b ElB.int).dflt + 1)=l.getD ((i + 1) % l.length) (ElK.b ElB.int).dflt + 1:=W_in (by omega) (by omega)
  have hX:∀ m,m < l.length→0≤l.getD m (ElK.b ElB.int).dflt∧l.getD m (ElK.b ElB.int).dflt < xs.length:=fun m hm=>hL.at hm
  have hcut:cutM xs l i=true↔(diagM xs (l.getD (prvN l.length i) (ElK.b ElB.int).dflt) (l.getD ((i + 1) % l.length) (ElK.b ElB.int).dflt)=true∨neighZ xs.length (l.getD (prvN l.length i) (ElK.b ElB.int).dflt) (l.getD ((i + 1) % l.length) (ElK.b ElB.int).dflt)=true) ∧
      0 < turn (xs.getD (l.getD (prvN l.length i) (ElK.b ElB.int).dflt).toNat (ElK.b ElB.pt).dflt) (xs.getD (l.getD i (ElK.b ElB.int).dflt).toNat (ElK.b ElB.pt).dflt) (xs.getD (l.getD ((i + 1) % l.length) (ElK.b ElB.int).dflt).toNat (ElK.b ElB.pt).dflt) ∧
      ∀ j,j < l.length→l.getD j (ElK.b ElB.int).dflt=l.getD (prvN l.length i) (ElK.b ElB.int).dflt∨l.getD j (ElK.b ElB.int).dflt=l.getD i (ElK.b ElB.int).dflt∨l.getD j (ElK.b ElB.int).dflt=l.getD ((i + 1) % l.length) (ElK.b ElB.int).dflt ∨
        inTri (xs.getD (l.getD (prvN l.length i) (ElK.b ElB.int).dflt).toNat (ElK.b ElB.pt).dflt) (xs.getD (l.getD i (ElK.b ElB.int).dflt).toNat (ElK.b ElB.pt).dflt) (xs.getD (l.getD ((i + 1) % l.length) (ElK.b ElB.int).dflt).toNat (ElK.b ElB.pt).dflt) (xs.getD (l.getD j (ElK.b ElB.int).dflt).toNat (ElK.b ElB.pt).dflt)=false:=cutM_iff
  generalize hgc:cutM xs l i=cc at hcut
  generalize hga:l.getD (prvN l.length i) (ElK.b ElB.int).dflt=A at *
  generalize hgb:l.getD ((i + 1) % l.length) (ElK.b ElB.int).dflt=B at *
  (repeat' (first|(with_reducible first|exact True.intro|refine zQ ?_|(refine zG hG_ ?_;intro K_ hK_)|(refine zR ?_;intro K_ hK_)|(refine hK_ _ _ ?_;try clear hK_ K_)|refine sq_n ?_|refine sq_r ?_|refine sq_e ?_|refine bq_n ?_|refine bq_r ?_|refine bq_q ?_|refine zB ?_|refine zX ?_|refine zT ?_|refine zK ?_|refine gq_n ?_|refine gq_r ?_|refine gq_e ?_|refine lq_n ?_|refine lq_r ?_|refine lq_e ?_|refine bq_e (by decide) ?_)|((with_reducible refine zC (b:=?b_) ?hb_ ?_ ?_);case hb_=>rfl)|((conv=>whnf);first|(with_reducible refine hK_ _ _ ?_;try clear hK_ K_)|(with_reducible refine fun (g_:Sl) (o_:Ow)=>?_)|(with_reducible first|exact True.intro|refine And.intro trivial ?_|refine And.intro ?_ ?_)|exact Nat.le_of_ble_eq_true rfl|exact Or.inl rfl|(intro h_;cases h_)|(intro h_;(try simp only [vS1] at h_))|rfl))) <;> (try (conv=>whnf)) <;> (try first|change (_:Int)≤_|change (_:Nat)≤_) <;> (try ((fail_if_success (with_reducible apply Exists.intro));(try dsimp only);(try simp only [vS1]))) <;> (try simp (disch:=omega) only [vS3,Int.add_sub_cancel,tn1,tnp,tnc,vS2] at *) <;> (try simp only [hpz,Int.toNat_natCast,hga,hgb,hgc,hwA,hwB] at *) <;> (try simp (disch:=omega) only [W_in] at *)
  all_goals (try (fail_if_success (with_reducible apply Exists.intro));first|with_reducible assumption|omega|exact mdl (by omega)|exact ilo1 (by omega)|exact ilo2 (by omega)|exact ihi1 (by omega) (by omega)|exact ihi2 (by omega) (by omega))
  all_goals first
    | (refine eq_false_of fun hc=>?_
       have h5:=hcut.1 hc
       simp_all [neighZ]
       done)
    | (refine eq_false_of fun hc=>?_
       have h5:=(hcut.1 hc).2.1
       omega)
    | skip
  ·
    refine awp'_loopG (α:=Nat) (fun m ver_=>[(14,vInt m)]) (fun m ver_=>[]) (fun m ver_=>[]) (fun m=>m≤l.length∧∀ j,j < m→l.getD j (ElK.b ElB.int).dflt=A∨l.getD j (ElK.b ElB.int).dflt=l.getD i (ElK.b ElB.int).dflt∨l.getD j (ElK.b ElB.int).dflt=B∨inTri (xs.getD A.toNat (ElK.b ElB.pt).dflt) (xs.getD (l.getD i (ElK.b ElB.int).dflt).toNat (ElK.b ElB.pt).dflt) (xs.getD B.toNat (ElK.b ElB.pt).dflt) (xs.getD (l.getD j (ElK.b ElB.int).dflt).toNat (ElK.b ElB.pt).dflt)=false) (fun m=>l.length - m) [0,1,2,7,8,9,10,11,12] [10,11,12] (0) ?_
    conv=>whnf
    refine ⟨⟨?inv3_,?vals3_,?own3_,?fix3_⟩,?body3_⟩
    case' vals3_=>(repeat' (first|(with_reducible first|exact True.intro|refine And.intro ?_ ?_|refine Head.mk ?_ ?_ ?_ ?_)|((conv=>lhs;whnf);first|(with_reducible first|rfl|exact vInt_s (by omega))|exact rfl)|((conv=>whnf);first|(with_reducible first|exact True.intro|refine And.intro ?_ ?_)))) <;> (try (conv=>lhs;whnf))
    case' own3_=>(repeat' (first|(with_reducible first|exact True.intro|refine And.intro ?_ ?_|refine Head.mk ?_ ?_ ?_ ?_)|((conv=>lhs;whnf);first|(with_reducible first|rfl|exact vInt_s (by omega))|exact rfl)|((conv=>whnf);first|(with_reducible first|exact True.intro|refine And.intro ?_ ?_)))) <;> (try (conv=>lhs;whnf))
    case' fix3_=>(repeat' (first|(with_reducible first|exact True.intro|refine And.intro ?_ ?_|refine Head.mk ?_ ?_ ?_ ?_)|((conv=>lhs;whnf);first|(with_reducible first|rfl|exact vInt_s (by omega))|exact rfl)|((conv=>whnf);first|(with_reducible first|exact True.intro|refine And.intro ?_ ?_)))) <;> (try (conv=>lhs;whnf))
    · exact ⟨Nat.zero_le _,fun j hj=>absurd hj (by omega)⟩
    rintro m g_ o_ v_ ⟨hm,hall⟩
    (repeat' (first|(with_reducible first|exact True.intro|refine zQ ?_|(refine zG hG_ ?_;intro K_ hK_)|(refine zR ?_;intro K_ hK_)|(refine hK_ _ _ ?_;try clear hK_ K_)|refine sq_n ?_|refine sq_r ?_|refine sq_e ?_|refine bq_n ?_|refine bq_r ?_|refine bq_q ?_|refine zB ?_|refine zX ?_|refine zT ?_|refine zK ?_|refine gq_n ?_|refine gq_r ?_|refine gq_e ?_|refine lq_n ?_|refine lq_r ?_|refine lq_e ?_|refine bq_e (by decide) ?_)|((with_reducible refine zC (b:=?b_) ?hb_ ?_ ?_);case hb_=>rfl)|((conv=>whnf);first|(with_reducible refine hK_ _ _ ?_;try clear hK_ K_)|(with_reducible refine fun (g_:Sl) (o_:Ow)=>?_)|(with_reducible first|exact True.intro|refine And.intro trivial ?_|refine And.intro ?_ ?_)|exact Nat.le_of_ble_eq_true rfl|exact Or.inl rfl|(intro h_;cases h_)|(intro h_;(try simp only [vS1] at h_))|rfl))) <;> (try (conv=>whnf)) <;> (try first|change (_:Int)≤_|change (_:Nat)≤_) <;> (try ((fail_if_success (with_reducible apply Exists.intro));(try dsimp only);(try simp only [vS1]))) <;> (try simp (disch:=omega) only [vS3,Int.add_sub_cancel,tn1,tnp,tnc,vS2] at *) <;> (try simp only [hpz,Int.toNat_natCast,hga,hgb,hgc,hwA,hwB] at *)
    all_goals (try (fail_if_success (with_reducible apply Exists.intro));first|with_reducible assumption|omega|exact mdl (by omega)|exact ilo1 (by omega)|exact ilo2 (by omega)|exact ihi1 (by omega) (by omega)|exact ihi2 (by omega) (by omega))
    all_goals first
      | exact (hX m (by assumption)).1
      | (have:=(hX m (by assumption)).2;omega)
      | exact ⟨m + 1,by omega,⟨by omega,lt_succ_all hall (by first|exact .inl (by assumption)|exact .inr (.inl (by assumption))|exact .inr (.inr (.inl (by assumption)))|exact .inr (.inr (.inr (by assumption))))⟩,by (repeat' (first|(with_reducible first|exact True.intro|refine And.intro ?_ ?_|refine Head.mk ?_ ?_ ?_ ?_)|((conv=>lhs;whnf);first|(with_reducible first|rfl|exact vInt_s (by omega))|exact rfl)|((conv=>whnf);first|(with_reducible first|exact True.intro|refine And.intro ?_ ?_)))) <;> (try (conv=>lhs;whnf))⟩
      | (refine eq_false_of fun hc=>?_
         rcases (hcut.1 hc).2.2 m (by assumption) with e|e|e|e <;> first|contradiction|exact absurd (‹inTri _ _ _ _=true›.symm.trans e) (by decide))
      | (refine eq_true_of (hcut.2 ⟨?_,by omega,fun j hj=>hall j (by omega)⟩)
         first|exact .inl (by assumption)|exact .inr (by assumption)|(refine .inr ?_;simp [neighZ, *];done))
      | skip
  ·
    refine awp'_loopG (α:=Nat) (fun m ver_=>[(14,vInt m)]) (fun m ver_=>[]) (fun m ver_=>[]) (fun m=>m≤l.length∧∀ j,j < m→l.getD j (ElK.b ElB.int).dflt=A∨l.getD j (ElK.b ElB.int).dflt=l.getD i (ElK.b ElB.int).dflt∨l.getD j (ElK.b ElB.int).dflt=B∨inTri (xs.getD A.toNat (ElK.b ElB.pt).dflt) (xs.getD (l.getD i (ElK.b ElB.int).dflt).toNat (ElK.b ElB.pt).dflt) (xs.getD B.toNat (ElK.b ElB.pt).dflt) (xs.getD (l.getD j (ElK.b ElB.int).dflt).toNat (ElK.b ElB.pt).dflt)=false) (fun m=>l.length - m) [0,1,2,7,8,9,10,11,12] [10,11,12] (0) ?_
    conv=>whnf
    refine ⟨⟨?inv4_,?vals4_,?own4_,?fix4_⟩,?body4_⟩
    case' vals4_=>(repeat' (first|(with_reducible first|exact True.intro|refine And.intro ?_ ?_|refine Head.mk ?_ ?_ ?_ ?_)|((conv=>lhs;whnf);first|(with_reducible first|rfl|exact vInt_s (by omega))|exact rfl)|((conv=>whnf);first|(with_reducible first|exact True.intro|refine And.intro ?_ ?_)))) <;> (try (conv=>lhs;whnf))
    case' own4_=>(repeat' (first|(with_reducible first|exact True.intro|refine And.intro ?_ ?_|refine Head.mk ?_ ?_ ?_ ?_)|((conv=>lhs;whnf);first|(with_reducible first|rfl|exact vInt_s (by omega))|exact rfl)|((conv=>whnf);first|(with_reducible first|exact True.intro|refine And.intro ?_ ?_)))) <;> (try (conv=>lhs;whnf))
    case' fix4_=>(repeat' (first|(with_reducible first|exact True.intro|refine And.intro ?_ ?_|refine Head.mk ?_ ?_ ?_ ?_)|((conv=>lhs;whnf);first|(with_reducible first|rfl|exact vInt_s (by omega))|exact rfl)|((conv=>whnf);first|(with_reducible first|exact True.intro|refine And.intro ?_ ?_)))) <;> (try (conv=>lhs;whnf))
    · exact ⟨Nat.zero_le _,fun j hj=>absurd hj (by omega)⟩
    rintro m g_ o_ v_ ⟨hm,hall⟩
    (repeat' (first|(with_reducible first|exact True.intro|refine zQ ?_|(refine zG hG_ ?_;intro K_ hK_)|(refine zR ?_;intro K_ hK_)|(refine hK_ _ _ ?_;try clear hK_ K_)|refine sq_n ?_|refine sq_r ?_|refine sq_e ?_|refine bq_n ?_|refine bq_r ?_|refine bq_q ?_|refine zB ?_|refine zX ?_|refine zT ?_|refine zK ?_|refine gq_n ?_|refine gq_r ?_|refine gq_e ?_|refine lq_n ?_|refine lq_r ?_|refine lq_e ?_|refine bq_e (by decide) ?_)|((with_reducible refine zC (b:=?b_) ?hb_ ?_ ?_);case hb_=>rfl)|((conv=>whnf);first|(with_reducible refine hK_ _ _ ?_;try clear hK_ K_)|(with_reducible refine fun (g_:Sl) (o_:Ow)=>?_)|(with_reducible first|exact True.intro|refine And.intro trivial ?_|refine And.intro ?_ ?_)|exact Nat.le_of_ble_eq_true rfl|exact Or.inl rfl|(intro h_;cases h_)|(intro h_;(try simp only [vS1] at h_))|rfl))) <;> (try (conv=>whnf)) <;> (try first|change (_:Int)≤_|change (_:Nat)≤_) <;> (try ((fail_if_success (with_reducible apply Exists.intro));(try dsimp only);(try simp only [vS1]))) <;> (try simp (disch:=omega) only [vS3,Int.add_sub_cancel,tn1,tnp,tnc,vS2] at *) <;> (try simp only [hpz,Int.toNat_natCast,hga,hgb,hgc,hwA,hwB] at *)
    all_goals (try (fail_if_success (with_reducible apply Exists.intro));first|with_reducible assumption|omega|exact mdl (by omega)|exact ilo1 (by omega)|exact ilo2 (by omega)|exact ihi1 (by omega) (by omega)|exact ihi2 (by omega) (by omega))
    all_goals first
      | exact (hX m (by assumption)).1
      | (have:=(hX m (by assumption)).2;omega)
      | exact ⟨m + 1,by omega,⟨by omega,lt_succ_all hall (by first|exact .inl (by assumption)|exact .inr (.inl (by assumption))|exact .inr (.inr (.inl (by assumption)))|exact .inr (.inr (.inr (by assumption))))⟩,by (repeat' (first|(with_reducible first|exact True.intro|refine And.intro ?_ ?_|refine Head.mk ?_ ?_ ?_ ?_)|((conv=>lhs;whnf);first|(with_reducible first|rfl|exact vInt_s (by omega))|exact rfl)|((conv=>whnf);first|(with_reducible first|exact True.intro|refine And.intro ?_ ?_)))) <;> (try (conv=>lhs;whnf))⟩
      | (refine eq_false_of fun hc=>?_
         rcases (hcut.1 hc).2.2 m (by assumption) with e|e|e|e <;> first|contradiction|exact absurd (‹inTri _ _ _ _=true›.symm.trans e) (by decide))
      | (refine eq_true_of (hcut.2 ⟨?_,by omega,fun j hj=>hall j (by omega)⟩)
         first|exact .inl (by assumption)|exact .inr (by assumption)|(refine .inr ?_;simp [neighZ, *];done))
      | skip
  ·
    refine awp'_loopG (α:=Nat) (fun m ver_=>[(14,vInt m)]) (fun m ver_=>[]) (fun m ver_=>[]) (fun m=>m≤l.length∧∀ j,j < m→l.getD j (ElK.b ElB.int).dflt=A∨l.getD j (ElK.b ElB.int).dflt=l.getD i (ElK.b ElB.int).dflt∨l.getD j (ElK.b ElB.int).dflt=B∨inTri (xs.getD A.toNat (ElK.b ElB.pt).dflt) (xs.getD (l.getD i (ElK.b ElB.int).dflt).toNat (ElK.b ElB.pt).dflt) (xs.getD B.toNat (ElK.b ElB.pt).dflt) (xs.getD (l.getD j (ElK.b ElB.int).dflt).toNat (ElK.b ElB.pt).dflt)=false) (fun m=>l.length - m) [0,1,2,7,8,9,10,11,12] [10,11,12] (0) ?_
    conv=>whnf
    refine ⟨⟨?inv5_,?vals5_,?own5_,?fix5_⟩,?body5_⟩
    case' vals5_=>(repeat' (first|(with_reducible first|exact True.intro|refine And.intro ?_ ?_|refine Head.mk ?_ ?_ ?_ ?_)|((conv=>lhs;whnf);first|(with_reducible first|rfl|exact vInt_s (by omega))|exact rfl)|((conv=>whnf);first|(with_reducible first|exact True.intro|refine And.intro ?_ ?_)))) <;> (try (conv=>lhs;whnf))
    case' own5_=>(repeat' (first|(with_reducible first|exact True.intro|refine And.intro ?_ ?_|refine Head.mk ?_ ?_ ?_ ?_)|((conv=>lhs;whnf);first|(with_reducible first|rfl|exact vInt_s (by omega))|exact rfl)|((conv=>whnf);first|(with_reducible first|exact True.intro|refine And.intro ?_ ?_)))) <;> (try (conv=>lhs;whnf))
    case' fix5_=>(repeat' (first|(with_reducible first|exact True.intro|refine And.intro ?_ ?_|refine Head.mk ?_ ?_ ?_ ?_)|((conv=>lhs;whnf);first|(with_reducible first|rfl|exact vInt_s (by omega))|exact rfl)|((conv=>whnf);first|(with_reducible first|exact True.intro|refine And.intro ?_ ?_)))) <;> (try (conv=>lhs;whnf))
    · exact ⟨Nat.zero_le _,fun j hj=>absurd hj (by omega)⟩
    rintro m g_ o_ v_ ⟨hm,hall⟩
    (repeat' (first|(with_reducible first|exact True.intro|refine zQ ?_|(refine zG hG_ ?_;intro K_ hK_)|(refine zR ?_;intro K_ hK_)|(refine hK_ _ _ ?_;try clear hK_ K_)|refine sq_n ?_|refine sq_r ?_|refine sq_e ?_|refine bq_n ?_|refine bq_r ?_|refine bq_q ?_|refine zB ?_|refine zX ?_|refine zT ?_|refine zK ?_|refine gq_n ?_|refine gq_r ?_|refine gq_e ?_|refine lq_n ?_|refine lq_r ?_|refine lq_e ?_|refine bq_e (by decide) ?_)|((with_reducible refine zC (b:=?b_) ?hb_ ?_ ?_);case hb_=>rfl)|((conv=>whnf);first|(with_reducible refine hK_ _ _ ?_;try clear hK_ K_)|(with_reducible refine fun (g_:Sl) (o_:Ow)=>?_)|(with_reducible first|exact True.intro|refine And.intro trivial ?_|refine And.intro ?_ ?_)|exact Nat.le_of_ble_eq_true rfl|exact Or.inl rfl|(intro h_;cases h_)|(intro h_;(try simp only [vS1] at h_))|rfl))) <;> (try (conv=>whnf)) <;> (try first|change (_:Int)≤_|change (_:Nat)≤_) <;> (try ((fail_if_success (with_reducible apply Exists.intro));(try dsimp only);(try simp only [vS1]))) <;> (try simp (disch:=omega) only [vS3,Int.add_sub_cancel,tn1,tnp,tnc,vS2] at *) <;> (try simp only [hpz,Int.toNat_natCast,hga,hgb,hgc,hwA,hwB] at *)
    all_goals (try (fail_if_success (with_reducible apply Exists.intro));first|with_reducible assumption|omega|exact mdl (by omega)|exact ilo1 (by omega)|exact ilo2 (by omega)|exact ihi1 (by omega) (by omega)|exact ihi2 (by omega) (by omega))
    all_goals first
      | exact (hX m (by assumption)).1
      | (have:=(hX m (by assumption)).2;omega)
      | exact ⟨m + 1,by omega,⟨by omega,lt_succ_all hall (by first|exact .inl (by assumption)|exact .inr (.inl (by assumption))|exact .inr (.inr (.inl (by assumption)))|exact .inr (.inr (.inr (by assumption))))⟩,by (repeat' (first|(with_reducible first|exact True.intro|refine And.intro ?_ ?_|refine Head.mk ?_ ?_ ?_ ?_)|((conv=>lhs;whnf);first|(with_reducible first|rfl|exact vInt_s (by omega))|exact rfl)|((conv=>whnf);first|(with_reducible first|exact True.intro|refine And.intro ?_ ?_)))) <;> (try (conv=>lhs;whnf))⟩
      | (refine eq_false_of fun hc=>?_
         rcases (hcut.1 hc).2.2 m (by assumption) with e|e|e|e <;> first|contradiction|exact absurd (‹inTri _ _ _ _=true›.symm.trans e) (by decide))
      | (refine eq_true_of (hcut.2 ⟨?_,by omega,fun j hj=>hall j (by omega)⟩)
         first|exact .inl (by assumption)|exact .inr (by assumption)|(refine .inr ?_;simp [neighZ, *];done))
      | skip
def vTri (t:Tri):RV:=.val (.agg [.d (.int .i64 t.1),.d (.int .i64 t.2.1),.d (.int .i64 t.2.2)])
def tri3C:Con:=mkCon [.int,.int,.int] (fun x=>(0≤x.1∧x.1≤1048576)∧(0≤x.2.1∧x.2.1≤1048576)∧0≤x.2.2.1∧x.2.2.1≤1048576) fun x=>vTri (triS x.1 x.2.1 x.2.2.1)
theorem sort3 (a b c:Int):[a,b,c].mergeSort (fun x y=>decide (x≤y))=[(triS a b c).1,(triS a b c).2.1,(triS a b c).2.2]:=by
 refine List.Perm.eq_of_pairwise (le:=fun x y:Int=>x≤y) (fun x y _ _ h1 h2=>by omega) ?_ ?_ ?_
 ·have:=List.pairwise_mergeSort (le:=fun x y:Int=>decide (x≤y)) (fun x y z h1 h2=>by simp at *;omega) (fun x y=>by simp;omega) [a,b,c]
  simpa using this
 ·have h:(triS a b c).1≤(triS a b c).2.1∧(triS a b c).2.1≤(triS a b c).2.2:=by unfold triS;simp only;omega
  simp only [List.pairwise_cons,List.mem_cons,List.not_mem_nil,or_false,forall_eq_or_imp,forall_eq,List.Pairwise.nil,and_true,false_implies,implies_true]
  omega
 ·refine (List.mergeSort_perm _ _).trans ?_
  rcases triS_six a b c with e|e|e|e|e|e <;> rw [e] <;> simp only
  ·exact .cons _ (.swap _ _ _)
  ·exact .swap _ _ _
  ·exact (List.Perm.swap b a [c]).trans (.cons _ (.swap _ _ _))
  ·exact (List.Perm.cons a (.swap c b [])).trans (.swap _ _ _)
  ·exact ((List.Perm.swap b a [c]).trans (.cons _ (.swap c a []))).trans (.swap c b [a])
theorem triangle_ok:Good1 Tryz.prog n_impl_triangle tri3C:=by
 refine good_ofG (tys:=tyL) (env:=[]) (envw:=[(n_slices_Sort_int,sortIC)]) (envd:=[]) [11,13] [] [] [] [] mixed tys trivial ⟨sortI_ok,trivial⟩ trivial Tryz.func97 rfl (by kernel_rfl) (by decide) (by kernel_rfl) ?_
 have hG_:=kpz [(0,[0,1,2,6]),(1,[6,7]),(2,[6,7]),(3,[6])] [(0,[6]),(1,[6,11]),(2,[6,11]),(3,[6,11])] [] []
 rintro ⟨(a:Int),(b:Int),(c:Int),⟨⟩⟩ ⟨⟨(h1:0≤a),(h2:a≤_)⟩,⟨(h3:0≤b),(h4:b≤_)⟩,(h5:0≤c),(h6:c≤_)⟩
 (repeat' (first|(with_reducible first|exact True.intro|refine zQ ?_|(refine zG hG_ ?_;intro K_ hK_)|(refine zR ?_;intro K_ hK_)|(refine hK_ _ _ ?_;try clear hK_ K_)|refine sq_n ?_|refine sq_r ?_|refine sq_e ?_|refine bq_n ?_|refine bq_r ?_|refine bq_q ?_|refine zB ?_|refine zX ?_|refine zT ?_|refine zK ?_|refine gq_n ?_|refine gq_r ?_|refine gq_e ?_|refine lq_n ?_|refine lq_r ?_|refine lq_e ?_|refine bq_e (by decide) ?_)|((with_reducible refine zC (b:=?b_) ?hb_ ?_ ?_);case hb_=>rfl)|((conv=>whnf);first|(with_reducible refine hK_ _ _ ?_;try clear hK_ K_)|(with_reducible refine fun (g_:Sl) (o_:Ow)=>?_)|(with_reducible first|exact True.intro|refine And.intro trivial ?_|refine And.intro ?_ ?_)|exact Nat.le_of_ble_eq_true rfl|exact Or.inl rfl|(intro h_;cases h_)|(intro h_;(try simp only [vS1] at h_))|rfl))) <;> (try (conv=>whnf)) <;> (try first|change (_:Int)≤_|change (_:Nat)≤_) <;> (try ((fail_if_success (with_reducible apply Exists.intro));(try dsimp only);(try simp only [vS1]))) <;> (try simp (disch:=omega) only [vS3,Int.add_sub_cancel,tn1,tnp,tnc,vS2] at *)
 all_goals (try (fail_if_success (with_reducible apply Exists.intro));first|with_reducible assumption|omega|exact mdl (by omega)|exact ilo1 (by omega)|exact ilo2 (by omega)|exact ihi1 (by omega) (by omega)|exact ihi2 (by omega) (by omega))
 all_goals (rw [show (sortIC.out ([a,b,c],())).ys=[(triS a b c).1,(triS a b c).2.1,(triS a b c).2.2] from sort3 a b c])
 all_goals first
  | rfl
  | (simp;done)
  | skip
theorem l11Sorted_ok:Good1 Tryz.prog n_spec_l11Sorted tri3C:=by
 refine good_ofG (tys:=tyL) (env:=[]) (envw:=[]) (envd:=[]) [] [] [] [] [] mixed tys trivial trivial trivial Tryz.func58 rfl (by kernel_rfl) (by decide) (by kernel_rfl) ?_
 have hG_:=kpz [(0,[0,1,2,6]),(1,[6])] [(0,[6]),(1,[6])] [] []
 rintro ⟨(a:Int),(b:Int),(c:Int),⟨⟩⟩ ⟨⟨(h1:0≤a),(h2:a≤_)⟩,⟨(h3:0≤b),(h4:b≤_)⟩,(h5:0≤c),(h6:c≤_)⟩
 (repeat' (first|(with_reducible first|exact True.intro|refine zQ ?_|(refine zG hG_ ?_;intro K_ hK_)|(refine zR ?_;intro K_ hK_)|(refine hK_ _ _ ?_;try clear hK_ K_)|refine sq_n ?_|refine sq_r ?_|refine sq_e ?_|refine bq_n ?_|refine bq_r ?_|refine bq_q ?_|refine zB ?_|refine zX ?_|refine zT ?_|refine zK ?_|refine gq_n ?_|refine gq_r ?_|refine gq_e ?_|refine lq_n ?_|refine lq_r ?_|refine lq_e ?_|refine bq_e (by decide) ?_)|((with_reducible refine zC (b:=?b_) ?hb_ ?_ ?_);case hb_=>rfl)|((conv=>whnf);first|(with_reducible refine hK_ _ _ ?_;try clear hK_ K_)|(with_reducible refine fun (g_:Sl) (o_:Ow)=>?_)|(with_reducible first|exact True.intro|refine And.intro trivial ?_|refine And.intro ?_ ?_)|exact Nat.le_of_ble_eq_true rfl|exact Or.inl rfl|(intro h_;cases h_)|(intro h_;(try simp only [vS1] at h_))|rfl))) <;> (try (conv=>whnf)) <;> (try first|change (_:Int)≤_|change (_:Nat)≤_) <;> (try ((fail_if_success (with_reducible apply Exists.intro));(try dsimp only);(try simp only [vS1]))) <;> (try simp (disch:=omega) only [vS3,Int.add_sub_cancel,tn1,tnp,tnc,vS2] at *)
 all_goals (try (fail_if_success (with_reducible apply Exists.intro));first|with_reducible assumption|omega|exact mdl (by omega)|exact ilo1 (by omega)|exact ilo2 (by omega)|exact ihi1 (by omega) (by omega)|exact ihi2 (by omega) (by omega))
 all_goals first
  | rfl
  | (unfold triS;simp only;rw [W_in,W_in,W_in,W_in] <;> omega)
  | (unfold triS;simp only;omega)
  | skip
def trisC:Con:=mkCon [.room] (fun x=>x.1.length≤1048576) fun x=>⟨.one (.own 0 0),some ⟨t_impl_Triangle,some (decide (trisM x.1=[])),.b .tri,trisM x.1⟩⟩
def sTrisC:Con:=mkCon [.room] (fun x=>x.1.length≤1048576) fun x=>⟨.one (.own 0 0),some ⟨t_impl_Triangle,none,.b .tri,trisM x.1⟩⟩
theorem iTrianglesOf_ok:Good1 Tryz.prog n_impl_TrianglesOf trisC:=by
 refine good_ofG (tys:=tyL) (env:=[(n_impl_RoomOk,roomOkC),(n_impl_canCut,cutC),(n_impl_triangle,tri3C)]) (envw:=[(n_slices_Delete_int,delC)]) (envd:=[]) [12,13,71] [64,82] [] [] [] mixed tys ⟨iRoomOk_ok,canCut_ok,triangle_ok,trivial⟩ ⟨del_ok,trivial⟩ trivial Tryz.func59 rfl (by kernel_rfl) (by decide) (by kernel_rfl) ?_
 have hG_:=kpz [(0,[1]),(1,[1,11]),(2,[2]),(3,[1,3]),(4,[1,3,4]),(5,[1,3,4,16,17]),(6,[1,3,4,16,17,18]),(7,[1,3,4,5,16,17]),(8,[1,3,4,16,17]),(9,[1,3,4,16,17]),(10,[1,3,4,27]),(11,[1,3,4,6]),(12,[1,3,4,6,29,30]),(13,[1,3,4,6,29,30,31]),(14,[1,3,4,6,7,29,30]),(15,[1,3,4,6,7,29,30,36]),(16,[1,3,4,6]),(17,[1,3,4,6,29,30]),(18,[1,3,4,6,40]),(19,[2]),(20,[1,3,4,6,8]),(21,[1,3,4,6]),(22,[1,3,4]),(23,[2])] [(3,[12]),(4,[12,13]),(5,[12,13]),(6,[12,13]),(7,[12,13]),(8,[12,13]),(9,[12,13]),(10,[12,13]),(11,[12,13]),(12,[12,13]),(13,[12,13]),(14,[12,13]),(15,[12,13]),(16,[12,13]),(17,[12,13]),(18,[12,13]),(19,[12,13]),(20,[12,13]),(21,[12,13]),(22,[12,13,71]),(23,[12,13])] [] []
 rintro ⟨(xs:List Pt),⟨⟩⟩ (h1:xs.length≤_)
 (repeat' (first|(with_reducible first|exact True.intro|refine zQ ?_|(refine zG hG_ ?_;intro K_ hK_)|(refine zR ?_;intro K_ hK_)|(refine hK_ _ _ ?_;try clear hK_ K_)|refine sq_n ?_|refine sq_r ?_|refine sq_e ?_|refine bq_n ?_|refine bq_r ?_|refine bq_q ?_|refine zB ?_|refine zX ?_|refine zT ?_|refine zK ?_|refine gq_n ?_|refine gq_r ?_|refine gq_e ?_|refine lq_n ?_|refine lq_r ?_|refine lq_e ?_|refine bq_e (by decide) ?_)|((with_reducible refine zC (b:=?b_) ?hb_ ?_ ?_);case hb_=>rfl)|((conv=>whnf);first|(with_reducible refine hK_ _ _ ?_;try clear hK_ K_)|(with_reducible refine fun (g_:Sl) (o_:Ow)=>?_)|(with_reducible first|exact True.intro|refine And.intro trivial ?_|refine And.intro ?_ ?_)|exact Nat.le_of_ble_eq_true rfl|exact Or.inl rfl|(intro h_;cases h_)|(intro h_;(try simp only [vS1] at h_))|rfl))) <;> (try (conv=>whnf)) <;> (try first|change (_:Int)≤_|change (_:Nat)≤_) <;> (try ((fail_if_success (with_reducible apply Exists.intro));(try dsimp only);(try simp only [vS1]))) <;> (try simp (disch:=omega) only [vS3,Int.add_sub_cancel,tn1,tnp,tnc,vS2] at *)
 all_goals (try (fail_if_success (with_reducible apply Exists.intro));first|with_reducible assumption|omega|exact mdl (by omega)|exact ilo1 (by omega)|exact ilo2 (by omega)|exact ihi1 (by omega) (by omega)|exact ihi2 (by omega) (by omega))
 ·exact tris_bad h_
 ·exact .inr (by rw [tris_bad h_];rfl)
 have hr:roomOk xs=true:=by assumption
 have hlr:=room_len hr
 refine awp'_loopG (α:=Nat) (fun k ver_=>[(17,vInt k)]) (fun k ver_=>[(4,13,false,.row t_int (.b .int) (allC k))]) (fun k ver_=>[]) (fun k=>k≤xs.length) (fun k=>xs.length - k) [1,3,16] [12] (0) ?_
 conv=>whnf
 refine ⟨⟨?inv1_,?vals1_,?own1_,?fix1_⟩,?body1_⟩
 case' vals1_=>(repeat' (first|(with_reducible first|exact True.intro|refine And.intro ?_ ?_|refine Head.mk ?_ ?_ ?_ ?_)|((conv=>lhs;whnf);first|(with_reducible first|rfl|exact vInt_s (by omega))|exact rfl)|((conv=>whnf);first|(with_reducible first|exact True.intro|refine And.intro ?_ ?_)))) <;> (try (conv=>lhs;whnf))
 case' own1_=>(repeat' (first|(with_reducible first|exact True.intro|refine And.intro ?_ ?_|refine Head.mk ?_ ?_ ?_ ?_)|((conv=>lhs;whnf);first|(with_reducible first|rfl|exact vInt_s (by omega))|exact rfl)|((conv=>whnf);first|(with_reducible first|exact True.intro|refine And.intro ?_ ?_)))) <;> (try (conv=>lhs;whnf))
 case' fix1_=>(repeat' (first|(with_reducible first|exact True.intro|refine And.intro ?_ ?_|refine Head.mk ?_ ?_ ?_ ?_)|((conv=>lhs;whnf);first|(with_reducible first|rfl|exact vInt_s (by omega))|exact rfl)|((conv=>whnf);first|(with_reducible first|exact True.intro|refine And.intro ?_ ?_)))) <;> (try (conv=>lhs;whnf))
 ·exact Nat.zero_le _
 rintro k g_ o_ v_ hk
 have hal:=allC_len k
 (repeat' (first|(with_reducible first|exact True.intro|refine zQ ?_|(refine zG hG_ ?_;intro K_ hK_)|(refine zR ?_;intro K_ hK_)|(refine hK_ _ _ ?_;try clear hK_ K_)|refine sq_n ?_|refine sq_r ?_|refine sq_e ?_|refine bq_n ?_|refine bq_r ?_|refine bq_q ?_|refine zB ?_|refine zX ?_|refine zT ?_|refine zK ?_|refine gq_n ?_|refine gq_r ?_|refine gq_e ?_|refine lq_n ?_|refine lq_r ?_|refine lq_e ?_|refine bq_e (by decide) ?_)|((with_reducible refine zC (b:=?b_) ?hb_ ?_ ?_);case hb_=>rfl)|((conv=>whnf);first|(with_reducible refine hK_ _ _ ?_;try clear hK_ K_)|(with_reducible refine fun (g_:Sl) (o_:Ow)=>?_)|(with_reducible first|exact True.intro|refine And.intro trivial ?_|refine And.intro ?_ ?_)|exact Nat.le_of_ble_eq_true rfl|exact Or.inl rfl|(intro h_;cases h_)|(intro h_;(try simp only [vS1] at h_))|rfl))) <;> (try (conv=>whnf)) <;> (try first|change (_:Int)≤_|change (_:Nat)≤_) <;> (try ((fail_if_success (with_reducible apply Exists.intro));(try dsimp only);(try simp only [vS1]))) <;> (try simp (disch:=omega) only [vS3,Int.add_sub_cancel,tn1,tnp,tnc,vS2] at *)
 all_goals (try (fail_if_success (with_reducible apply Exists.intro));first|with_reducible assumption|omega|exact mdl (by omega)|exact ilo1 (by omega)|exact ilo2 (by omega)|exact ihi1 (by omega) (by omega)|exact ihi2 (by omega) (by omega))
 ·refine ⟨k + 1,by omega,by omega,?_⟩
  (repeat' (first|(with_reducible first|exact True.intro|refine And.intro ?_ ?_|refine Head.mk ?_ ?_ ?_ ?_)|((conv=>lhs;whnf);first|(with_reducible first|rfl|exact vInt_s (by omega))|exact rfl)|((conv=>whnf);first|(with_reducible first|exact True.intro|refine And.intro ?_ ?_)))) <;> (try (conv=>lhs;whnf))
  exact congrArg (Own.row _ _) (allC_succ k).symm
 have hkn:k=xs.length:=by omega
 subst hkn
 refine awp'_loopG (α:=List Int × List Tri) (fun s ver_=>[]) (fun s ver_=>[(3,12,false,.row t_impl_Triangle (.b .tri) s.2),(4,13,false,.row t_int (.b .int) s.1)]) (fun s ver_=>[]) (fun s=>TriSt xs s) (fun s=>s.1.length) [1] [] ((allC xs.length,[])) ?_
 conv=>whnf
 refine ⟨⟨?inv2_,?vals2_,?own2_,?fix2_⟩,?body2_⟩
 case' vals2_=>(repeat' (first|(with_reducible first|exact True.intro|refine And.intro ?_ ?_|refine Head.mk ?_ ?_ ?_ ?_)|((conv=>lhs;whnf);first|(with_reducible first|rfl|exact vInt_s (by omega))|exact rfl)|((conv=>whnf);first|(with_reducible first|exact True.intro|refine And.intro ?_ ?_)))) <;> (try (conv=>lhs;whnf))
 case' own2_=>(repeat' (first|(with_reducible first|exact True.intro|refine And.intro ?_ ?_|refine Head.mk ?_ ?_ ?_ ?_)|((conv=>lhs;whnf);first|(with_reducible first|rfl|exact vInt_s (by omega))|exact rfl)|((conv=>whnf);first|(with_reducible first|exact True.intro|refine And.intro ?_ ?_)))) <;> (try (conv=>lhs;whnf))
 case' fix2_=>(repeat' (first|(with_reducible first|exact True.intro|refine And.intro ?_ ?_|refine Head.mk ?_ ?_ ?_ ?_)|((conv=>lhs;whnf);first|(with_reducible first|rfl|exact vInt_s (by omega))|exact rfl)|((conv=>whnf);first|(with_reducible first|exact True.intro|refine And.intro ?_ ?_)))) <;> (try (conv=>lhs;whnf))
 ·exact triSt_start hr hlr.1
 rintro ⟨l,out⟩ g_ o_ v_ (hS:TriSt xs (l,out))
 have hL:Left xs.length l:=hS.left
 have hle:=hL.le
 have h3:=hL.len
 have hol:out.length + l.length=xs.length:=hS.len
 have hX:∀ m,m < l.length→0≤l.getD m (ElK.b ElB.int).dflt∧l.getD m (ElK.b ElB.int).dflt < xs.length:=fun m hm=>hL.at hm
 have hP:∀ m,m < l.length→0≤l.getD (prvN l.length m) (ElK.b ElB.int).dflt∧l.getD (prvN l.length m) (ElK.b ElB.int).dflt < xs.length:=fun m hm=>hL.at (prv_lt (by omega))
 have hN:∀ m,m < l.length→0≤l.getD ((m + 1) % l.length) (ElK.b ElB.int).dflt∧l.getD ((m + 1) % l.length) (ElK.b ElB.int).dflt < xs.length:=fun m hm=>hL.at (nxt_lt (by omega))
 have hX0:=hX 0 (by omega)
 have hX1:0≤l.getD (Int.toNat 1) (ElK.b ElB.int).dflt∧l.getD (Int.toNat 1) (ElK.b ElB.int).dflt < xs.length:=hX 1 (by omega)
 have hX2:0≤l.getD (Int.toNat 2) (ElK.b ElB.int).dflt∧l.getD (Int.toNat 2) (ElK.b ElB.int).dflt < xs.length:=hX 2 (by omega)
 have hlast:l.length≤3→trisM xs=out ++ [triS (gI l 0) (gI l 1) (gI l 2)]:=hS.last
 (repeat' (first|(with_reducible first|exact True.intro|refine zQ ?_|(refine zG hG_ ?_;intro K_ hK_)|(refine zR ?_;intro K_ hK_)|(refine hK_ _ _ ?_;try clear hK_ K_)|refine sq_n ?_|refine sq_r ?_|refine sq_e ?_|refine bq_n ?_|refine bq_r ?_|refine bq_q ?_|refine zB ?_|refine zX ?_|refine zT ?_|refine zK ?_|refine gq_n ?_|refine gq_r ?_|refine gq_e ?_|refine lq_n ?_|refine lq_r ?_|refine lq_e ?_|refine bq_e (by decide) ?_)|((with_reducible refine zC (b:=?b_) ?hb_ ?_ ?_);case hb_=>rfl)|((conv=>whnf);first|(with_reducible refine hK_ _ _ ?_;try clear hK_ K_)|(with_reducible refine fun (g_:Sl) (o_:Ow)=>?_)|(with_reducible first|exact True.intro|refine And.intro trivial ?_|refine And.intro ?_ ?_)|exact Nat.le_of_ble_eq_true rfl|exact Or.inl rfl|(intro h_;cases h_)|(intro h_;(try simp only [vS1] at h_))|rfl))) <;> (try (conv=>whnf)) <;> (try first|change (_:Int)≤_|change (_:Nat)≤_) <;> (try ((fail_if_success (with_reducible apply Exists.intro));(try dsimp only);(try simp only [vS1]))) <;> (try simp (disch:=omega) only [vS3,Int.add_sub_cancel,tn1,tnp,tnc,vS2] at *)
 all_goals (try (fail_if_success (with_reducible apply Exists.intro));first|with_reducible assumption|omega|exact mdl (by omega)|exact ilo1 (by omega)|exact ilo2 (by omega)|exact ihi1 (by omega) (by omega)|exact ihi2 (by omega) (by omega))
 ·
  refine awp'_loopG (α:=Nat) (fun i ver_=>[(30,vInt i),(6,vInt (-1))]) (fun i ver_=>[]) (fun i ver_=>[]) (fun i=>i≤l.length∧∀ j,j < i→cutM xs l j=false) (fun i=>l.length - i) [1,3,4,29] [12,13] (0) ?_
  conv=>whnf
  refine ⟨⟨?inv3_,?vals3_,?own3_,?fix3_⟩,?body3_⟩
  case' vals3_=>(repeat' (first|(with_reducible first|exact True.intro|refine And.intro ?_ ?_|refine Head.mk ?_ ?_ ?_ ?_)|((conv=>lhs;whnf);first|(with_reducible first|rfl|exact vInt_s (by omega))|exact rfl)|((conv=>whnf);first|(with_reducible first|exact True.intro|refine And.intro ?_ ?_)))) <;> (try (conv=>lhs;whnf))
  case' own3_=>(repeat' (first|(with_reducible first|exact True.intro|refine And.intro ?_ ?_|refine Head.mk ?_ ?_ ?_ ?_)|((conv=>lhs;whnf);first|(with_reducible first|rfl|exact vInt_s (by omega))|exact rfl)|((conv=>whnf);first|(with_reducible first|exact True.intro|refine And.intro ?_ ?_)))) <;> (try (conv=>lhs;whnf))
  case' fix3_=>(repeat' (first|(with_reducible first|exact True.intro|refine And.intro ?_ ?_|refine Head.mk ?_ ?_ ?_ ?_)|((conv=>lhs;whnf);first|(with_reducible first|rfl|exact vInt_s (by omega))|exact rfl)|((conv=>whnf);first|(with_reducible first|exact True.intro|refine And.intro ?_ ?_)))) <;> (try (conv=>lhs;whnf))
  ·exact ⟨Nat.zero_le _,fun j hj=>absurd hj (by omega)⟩
  rintro i g_ o_ v_ ⟨hi,hall⟩
  have hdel:∀ i:Nat,i < l.length→(delC.out (l,(i:Int),IntKind.i64.wrap ((i:Int) + 1),())).ys=l.eraseIdx i:=fun i hi=>by
   rw [W_nat (by omega),erase_eq];rfl
  have hPi:i < l.length→0≤prvN l.length i∧prvN l.length i < l.length:=fun h=>⟨Nat.zero_le _,prv_lt (by omega)⟩
  (repeat' (first|(with_reducible first|exact True.intro|refine zQ ?_|(refine zG hG_ ?_;intro K_ hK_)|(refine zR ?_;intro K_ hK_)|(refine hK_ _ _ ?_;try clear hK_ K_)|refine sq_n ?_|refine sq_r ?_|refine sq_e ?_|refine bq_n ?_|refine bq_r ?_|refine bq_q ?_|refine zB ?_|refine zX ?_|refine zT ?_|refine zK ?_|refine gq_n ?_|refine gq_r ?_|refine gq_e ?_|refine lq_n ?_|refine lq_r ?_|refine lq_e ?_|refine bq_e (by decide) ?_)|((with_reducible refine zC (b:=?b_) ?hb_ ?_ ?_);case hb_=>rfl)|((conv=>whnf);first|(with_reducible refine hK_ _ _ ?_;try clear hK_ K_)|(with_reducible refine fun (g_:Sl) (o_:Ow)=>?_)|(with_reducible first|exact True.intro|refine And.intro trivial ?_|refine And.intro ?_ ?_)|exact Nat.le_of_ble_eq_true rfl|exact Or.inl rfl|(intro h_;cases h_)|(intro h_;(try simp only [vS1] at h_))|rfl))) <;> (try (conv=>whnf)) <;> (try first|change (_:Int)≤_|change (_:Nat)≤_) <;> (try ((fail_if_success (with_reducible apply Exists.intro));(try dsimp only);(try simp only [vS1]))) <;> (try simp (disch:=omega) only [vS3,Int.add_sub_cancel,tn1,tnp,tnc,vS2] at *) <;> (try simp (disch:=omega) only [prv_int,Int.toNat_natCast] at *)
  all_goals (try (fail_if_success (with_reducible apply Exists.intro));first|with_reducible assumption|omega|exact mdl (by omega)|exact ilo1 (by omega)|exact ilo2 (by omega)|exact ihi1 (by omega) (by omega)|exact ihi2 (by omega) (by omega))
  all_goals (try (have hPq:=hP i (by assumption);have hXq:=hX i (by assumption);have hNq:=hN i (by assumption)))
  all_goals first
   | omega
   | exact Nat.mod_lt _ (by omega)
   | exact ⟨i + 1,by omega,⟨by omega,lt_succ_all hall (by assumption)⟩,by (repeat' (first|(with_reducible first|exact True.intro|refine And.intro ?_ ?_|refine Head.mk ?_ ?_ ?_ ?_)|((conv=>lhs;whnf);first|(with_reducible first|rfl|exact vInt_s (by omega))|exact rfl)|((conv=>whnf);first|(with_reducible first|exact True.intro|refine And.intro ?_ ?_)))) <;> (try (conv=>lhs;whnf))⟩
   | skip
  ·refine ⟨(l.eraseIdx i,out ++ [triAt l i]),?_,hS.step (by omega:3 < l.length) (firstCut_some (by assumption) (by assumption) hall),?_⟩
   ·show (l.eraseIdx i).length < l.length
    rw [List.length_eraseIdx_of_lt (by assumption)]
    omega
   ·(repeat' (first|(with_reducible first|exact True.intro|refine And.intro ?_ ?_|refine Head.mk ?_ ?_ ?_ ?_)|((conv=>lhs;whnf);first|(with_reducible first|rfl|exact vInt_s (by omega))|exact rfl)|((conv=>whnf);first|(with_reducible first|exact True.intro|refine And.intro ?_ ?_)))) <;> (try (conv=>lhs;whnf))
    all_goals first
     | rfl
     | exact congrArg (Own.row _ _) (hdel i (by assumption))
  ·exact hS.none (by omega:3 < l.length) (firstCut_none fun j (hj:j < l.length)=>hall j (by omega))
  ·have he:trisM xs=[]:=hS.none (by omega:3 < l.length) (firstCut_none fun j (hj:j < l.length)=>hall j (by omega))
   exact .inr (by rw [he];rfl)
 ·exact congrArg some (hlast (by omega)).symm
 ·exact .inr ⟨by rw [hlast (by omega)];simp,by rw [hlast (by omega)];simp⟩
theorem sTrianglesOf_ok:Good1 Tryz.prog n_spec_TrianglesOf sTrisC:=by
 refine good_ofG (tys:=tyL) (env:=[(n_spec_RoomOk,roomOkC),(n_spec_l11Ear,l11C),(n_spec_l11Sorted,tri3C)]) (envw:=[]) (envd:=[]) [9,14,44,71] [55,56,59,60,66,67,68,74,79,83,84,86,87,89,90,91] [] [] [] mixed tys ⟨sRoomOk_ok,l11Ear_ok,l11Sorted_ok,trivial⟩ trivial trivial Tryz.func21 rfl (by kernel_rfl) (by decide) (by kernel_rfl) ?_
 have hG_:=kpz [(0,[1]),(1,[1,3]),(2,[1,3,12]),(3,[2]),(4,[1,3,4]),(5,[1,3,4,5]),(6,[1,3,4,5,19]),(7,[1,3,4,5]),(8,[1,3,4,5]),(9,[1,3,4,28]),(10,[1,3,4,6]),(11,[1,3,4,6,7]),(12,[1,3,4,6,7,33]),(13,[1,3,4,6,7]),(14,[1,3,4,6,7,40]),(15,[1,3,4,6,7]),(16,[1,3,4,6,43]),(17,[2]),(18,[1,3,4,6,8]),(19,[1,3,4,6]),(20,[1,3,4]),(21,[2])] [(1,[9]),(2,[9]),(3,[9]),(4,[9,14]),(5,[9,14]),(6,[9,14]),(7,[9,14]),(8,[9,14]),(9,[9,14]),(10,[9,14]),(11,[9,14]),(12,[9,14]),(13,[9,14]),(14,[9,14]),(15,[9,14]),(16,[9,14]),(17,[9,14,44]),(18,[9,14]),(19,[9,14]),(20,[9,14,71]),(21,[9,14])] [(20,[71])] []
 rintro ⟨(xs:List Pt),⟨⟩⟩ (h1:xs.length≤_)
 (repeat' (first|(with_reducible first|exact True.intro|refine zQ ?_|(refine zG hG_ ?_;intro K_ hK_)|(refine zR ?_;intro K_ hK_)|(refine hK_ _ _ ?_;try clear hK_ K_)|refine sq_n ?_|refine sq_r ?_|refine sq_e ?_|refine bq_n ?_|refine bq_r ?_|refine bq_q ?_|refine zB ?_|refine zX ?_|refine zT ?_|refine zK ?_|refine gq_n ?_|refine gq_r ?_|refine gq_e ?_|refine lq_n ?_|refine lq_r ?_|refine lq_e ?_|refine bq_e (by decide) ?_)|((with_reducible refine zC (b:=?b_) ?hb_ ?_ ?_);case hb_=>rfl)|((conv=>whnf);first|(with_reducible refine hK_ _ _ ?_;try clear hK_ K_)|(with_reducible refine fun (g_:Sl) (o_:Ow)=>?_)|(with_reducible first|exact True.intro|refine And.intro trivial ?_|refine And.intro ?_ ?_)|exact Nat.le_of_ble_eq_true rfl|exact Or.inl rfl|(intro h_;cases h_)|(intro h_;(try simp only [vS1] at h_))|rfl))) <;> (try (conv=>whnf)) <;> (try first|change (_:Int)≤_|change (_:Nat)≤_) <;> (try ((fail_if_success (with_reducible apply Exists.intro));(try dsimp only);(try simp only [vS1]))) <;> (try simp (disch:=omega) only [vS3,Int.add_sub_cancel,tn1,tnp,tnc,vS2] at *)
 all_goals (try (fail_if_success (with_reducible apply Exists.intro));first|with_reducible assumption|omega|exact mdl (by omega)|exact ilo1 (by omega)|exact ilo2 (by omega)|exact ihi1 (by omega) (by omega)|exact ihi2 (by omega) (by omega))
 ·exact congrArg some (tris_bad h_).symm
 have hr:roomOk xs=true:=by assumption
 have hlr:=room_len hr
 refine awp'_loopG (α:=Nat) (fun k ver_=>[(5,vInt k)]) (fun k ver_=>[(4,14,false,.row t_int (.b .int) (allC k))]) (fun k ver_=>[]) (fun k=>k≤xs.length) (fun k=>xs.length - k) [1,3] [9] (0) ?_
 conv=>whnf
 refine ⟨⟨?inv4_,?vals4_,?own4_,?fix4_⟩,?body4_⟩
 case' vals4_=>(repeat' (first|(with_reducible first|exact True.intro|refine And.intro ?_ ?_|refine Head.mk ?_ ?_ ?_ ?_)|((conv=>lhs;whnf);first|(with_reducible first|rfl|exact vInt_s (by omega))|exact rfl)|((conv=>whnf);first|(with_reducible first|exact True.intro|refine And.intro ?_ ?_)))) <;> (try (conv=>lhs;whnf))
 case' own4_=>(repeat' (first|(with_reducible first|exact True.intro|refine And.intro ?_ ?_|refine Head.mk ?_ ?_ ?_ ?_)|((conv=>lhs;whnf);first|(with_reducible first|rfl|exact vInt_s (by omega))|exact rfl)|((conv=>whnf);first|(with_reducible first|exact True.intro|refine And.intro ?_ ?_)))) <;> (try (conv=>lhs;whnf))
 case' fix4_=>(repeat' (first|(with_reducible first|exact True.intro|refine And.intro ?_ ?_|refine Head.mk ?_ ?_ ?_ ?_)|((conv=>lhs;whnf);first|(with_reducible first|rfl|exact vInt_s (by omega))|exact rfl)|((conv=>whnf);first|(with_reducible first|exact True.intro|refine And.intro ?_ ?_)))) <;> (try (conv=>lhs;whnf))
 ·exact Nat.zero_le _
 rintro k g_ o_ v_ hk
 have hal:=allC_len k
 (repeat' (first|(with_reducible first|exact True.intro|refine zQ ?_|(refine zG hG_ ?_;intro K_ hK_)|(refine zR ?_;intro K_ hK_)|(refine hK_ _ _ ?_;try clear hK_ K_)|refine sq_n ?_|refine sq_r ?_|refine sq_e ?_|refine bq_n ?_|refine bq_r ?_|refine bq_q ?_|refine zB ?_|refine zX ?_|refine zT ?_|refine zK ?_|refine gq_n ?_|refine gq_r ?_|refine gq_e ?_|refine lq_n ?_|refine lq_r ?_|refine lq_e ?_|refine bq_e (by decide) ?_)|((with_reducible refine zC (b:=?b_) ?hb_ ?_ ?_);case hb_=>rfl)|((conv=>whnf);first|(with_reducible refine hK_ _ _ ?_;try clear hK_ K_)|(with_reducible refine fun (g_:Sl) (o_:Ow)=>?_)|(with_reducible first|exact True.intro|refine And.intro trivial ?_|refine And.intro ?_ ?_)|exact Nat.le_of_ble_eq_true rfl|exact Or.inl rfl|(intro h_;cases h_)|(intro h_;(try simp only [vS1] at h_))|rfl))) <;> (try (conv=>whnf)) <;> (try first|change (_:Int)≤_|change (_:Nat)≤_) <;> (try ((fail_if_success (with_reducible apply Exists.intro));(try dsimp only);(try simp only [vS1]))) <;> (try simp (disch:=omega) only [vS3,Int.add_sub_cancel,tn1,tnp,tnc,vS2] at *)
 all_goals (try (fail_if_success (with_reducible apply Exists.intro));first|with_reducible assumption|omega|exact mdl (by omega)|exact ilo1 (by omega)|exact ilo2 (by omega)|exact ihi1 (by omega) (by omega)|exact ihi2 (by omega) (by omega))
 ·refine ⟨k + 1,by omega,by omega,?_⟩
  (repeat' (first|(with_reducible first|exact True.intro|refine And.intro ?_ ?_|refine Head.mk ?_ ?_ ?_ ?_)|((conv=>lhs;whnf);first|(with_reducible first|rfl|exact vInt_s (by omega))|exact rfl)|((conv=>whnf);first|(with_reducible first|exact True.intro|refine And.intro ?_ ?_)))) <;> (try (conv=>lhs;whnf))
  exact congrArg (Own.row _ _) (allC_succ k).symm
 have hkn:k=xs.length:=by omega
 subst hkn
 refine st_frz (pl:=[14]) (ts:=[1,3,4]) (ps:=[9]) ?_
 conv=>whnf
 refine ⟨rfl,?_⟩
 refine awp'_loopG (α:=List Int × List Tri) (fun s ver_=>[(4,vInts s.1)]) (fun s ver_=>[(3,9,false,.row t_impl_Triangle (.b .tri) s.2)]) (fun s ver_=>[]) (fun s=>TriSt xs s) (fun s=>s.1.length) [1] [14] ((allC xs.length,[])) ?_
 conv=>whnf
 refine ⟨⟨?inv5_,?vals5_,?own5_,?fix5_⟩,?body5_⟩
 case' vals5_=>(repeat' (first|(with_reducible first|exact True.intro|refine And.intro ?_ ?_|refine Head.mk ?_ ?_ ?_ ?_)|((conv=>lhs;whnf);first|(with_reducible first|rfl|exact vInt_s (by omega))|exact rfl)|((conv=>whnf);first|(with_reducible first|exact True.intro|refine And.intro ?_ ?_)))) <;> (try (conv=>lhs;whnf))
 case' own5_=>(repeat' (first|(with_reducible first|exact True.intro|refine And.intro ?_ ?_|refine Head.mk ?_ ?_ ?_ ?_)|((conv=>lhs;whnf);first|(with_reducible first|rfl|exact vInt_s (by omega))|exact rfl)|((conv=>whnf);first|(with_reducible first|exact True.intro|refine And.intro ?_ ?_)))) <;> (try (conv=>lhs;whnf))
 case' fix5_=>(repeat' (first|(with_reducible first|exact True.intro|refine And.intro ?_ ?_|refine Head.mk ?_ ?_ ?_ ?_)|((conv=>lhs;whnf);first|(with_reducible first|rfl|exact vInt_s (by omega))|exact rfl)|((conv=>whnf);first|(with_reducible first|exact True.intro|refine And.intro ?_ ?_)))) <;> (try (conv=>lhs;whnf))
 ·exact triSt_start hr hlr.1
 rintro ⟨l,out⟩ g_ o_ v_ (hS:TriSt xs (l,out))
 have hL:Left xs.length l:=hS.left
 have hle:=hL.le
 have h3:=hL.len
 have hol:out.length + l.length=xs.length:=hS.len
 have hX:∀ m,m < l.length→0≤l.getD m (ElK.b ElB.int).dflt∧l.getD m (ElK.b ElB.int).dflt < xs.length:=fun m hm=>hL.at hm
 have hX0:=hX 0 (by omega)
 have hX1:0≤l.getD (Int.toNat 1) (ElK.b ElB.int).dflt∧l.getD (Int.toNat 1) (ElK.b ElB.int).dflt < xs.length:=hX 1 (by omega)
 have hX2:0≤l.getD (Int.toNat 2) (ElK.b ElB.int).dflt∧l.getD (Int.toNat 2) (ElK.b ElB.int).dflt < xs.length:=hX 2 (by omega)
 have hlast:l.length≤3→trisM xs=out ++ [triS (gI l 0) (gI l 1) (gI l 2)]:=hS.last
 (repeat' (first|(with_reducible first|exact True.intro|refine zQ ?_|(refine zG hG_ ?_;intro K_ hK_)|(refine zR ?_;intro K_ hK_)|(refine hK_ _ _ ?_;try clear hK_ K_)|refine sq_n ?_|refine sq_r ?_|refine sq_e ?_|refine bq_n ?_|refine bq_r ?_|refine bq_q ?_|refine zB ?_|refine zX ?_|refine zT ?_|refine zK ?_|refine gq_n ?_|refine gq_r ?_|refine gq_e ?_|refine lq_n ?_|refine lq_r ?_|refine lq_e ?_|refine bq_e (by decide) ?_)|((with_reducible refine zC (b:=?b_) ?hb_ ?_ ?_);case hb_=>rfl)|((conv=>whnf);first|(with_reducible refine hK_ _ _ ?_;try clear hK_ K_)|(with_reducible refine fun (g_:Sl) (o_:Ow)=>?_)|(with_reducible first|exact True.intro|refine And.intro trivial ?_|refine And.intro ?_ ?_)|exact Nat.le_of_ble_eq_true rfl|exact Or.inl rfl|(intro h_;cases h_)|(intro h_;(try simp only [vS1] at h_))|rfl))) <;> (try (conv=>whnf)) <;> (try first|change (_:Int)≤_|change (_:Nat)≤_) <;> (try ((fail_if_success (with_reducible apply Exists.intro));(try dsimp only);(try simp only [vS1]))) <;> (try simp (disch:=omega) only [vS3,Int.add_sub_cancel,tn1,tnp,tnc,vS2] at *)
 all_goals (try (fail_if_success (with_reducible apply Exists.intro));first|with_reducible assumption|omega|exact mdl (by omega)|exact ilo1 (by omega)|exact ilo2 (by omega)|exact ihi1 (by omega) (by omega)|exact ihi2 (by omega) (by omega))
 ·
  refine awp'_loopG (α:=Nat × Int) (fun k ver_=>[(6,vInt k.2),(7,dnV k.1)]) (fun k ver_=>[]) (fun k ver_=>[]) (fun k=>k.1≤l.length∧FirstFrom (cutM xs l) l.length k.1 k.2) (fun k=>k.1) [1,3,4] [9,14] ((l.length,-1)) ?_
  conv=>whnf
  refine ⟨⟨?inv6_,?vals6_,?own6_,?fix6_⟩,?body6_⟩
  case' vals6_=>(repeat' (first|(with_reducible first|exact True.intro|refine And.intro ?_ ?_|refine Head.mk ?_ ?_ ?_ ?_)|((conv=>lhs;whnf);first|(with_reducible first|rfl|exact vInt_s (by omega))|exact rfl)|((conv=>whnf);first|(with_reducible first|exact True.intro|refine And.intro ?_ ?_)))) <;> (try (conv=>lhs;whnf))
  case' own6_=>(repeat' (first|(with_reducible first|exact True.intro|refine And.intro ?_ ?_|refine Head.mk ?_ ?_ ?_ ?_)|((conv=>lhs;whnf);first|(with_reducible first|rfl|exact vInt_s (by omega))|exact rfl)|((conv=>whnf);first|(with_reducible first|exact True.intro|refine And.intro ?_ ?_)))) <;> (try (conv=>lhs;whnf))
  case' fix6_=>(repeat' (first|(with_reducible first|exact True.intro|refine And.intro ?_ ?_|refine Head.mk ?_ ?_ ?_ ?_)|((conv=>lhs;whnf);first|(with_reducible first|rfl|exact vInt_s (by omega))|exact rfl)|((conv=>whnf);first|(with_reducible first|exact True.intro|refine And.intro ?_ ?_)))) <;> (try (conv=>lhs;whnf))
  ·exact dnV_eq _
  ·exact ⟨Nat.le_refl _,ff_start _ _⟩
  rintro ⟨_|i,a⟩ g_ o_ v_ ⟨(hk:_≤l.length),(hff:FirstFrom (cutM xs l) l.length _ a)⟩
  ·rcases ff_find hff with ⟨rfl,hc⟩|⟨ha0,ha1,hc⟩
   ·(repeat' (first|(with_reducible first|exact True.intro|refine zQ ?_|(refine zG hG_ ?_;intro K_ hK_)|(refine zR ?_;intro K_ hK_)|(refine hK_ _ _ ?_;try clear hK_ K_)|refine sq_n ?_|refine sq_r ?_|refine sq_e ?_|refine bq_n ?_|refine bq_r ?_|refine bq_q ?_|refine zB ?_|refine zX ?_|refine zT ?_|refine zK ?_|refine gq_n ?_|refine gq_r ?_|refine gq_e ?_|refine lq_n ?_|refine lq_r ?_|refine lq_e ?_|refine bq_e (by decide) ?_)|((with_reducible refine zC (b:=?b_) ?hb_ ?_ ?_);case hb_=>rfl)|((conv=>whnf);first|(with_reducible refine hK_ _ _ ?_;try clear hK_ K_)|(with_reducible refine fun (g_:Sl) (o_:Ow)=>?_)|(with_reducible first|exact True.intro|refine And.intro trivial ?_|refine And.intro ?_ ?_)|exact Nat.le_of_ble_eq_true rfl|exact Or.inl rfl|(intro h_;cases h_)|(intro h_;(try simp only [vS1] at h_))|rfl))) <;> (try (conv=>whnf)) <;> (try first|change (_:Int)≤_|change (_:Nat)≤_) <;> (try ((fail_if_success (with_reducible apply Exists.intro));(try dsimp only);(try simp only [vS1]))) <;> (try simp (disch:=omega) only [vS3,Int.add_sub_cancel,tn1,tnp,tnc,vS2] at *)
    all_goals (try (fail_if_success (with_reducible apply Exists.intro));first|with_reducible assumption|omega|exact mdl (by omega)|exact ilo1 (by omega)|exact ilo2 (by omega)|exact ihi1 (by omega) (by omega)|exact ihi2 (by omega) (by omega))
    ·exact congrArg some (hS.none (by omega:3 < l.length) hc).symm
   ·obtain ⟨b,rfl⟩:=Int.eq_ofNat_of_zero_le ha0
    have hbl:b < l.length:=by omega
    have hPb:0≤l.getD (prvN l.length b) (ElK.b ElB.int).dflt∧l.getD (prvN l.length b) (ElK.b ElB.int).dflt < xs.length:=hL.at (prv_lt (by omega))
    have hXb:=hX b hbl
    have hNb:0≤l.getD ((b + 1) % l.length) (ElK.b ElB.int).dflt∧l.getD ((b + 1) % l.length) (ElK.b ElB.int).dflt < xs.length:=hL.at (nxt_lt (by omega))
    have hpl:prvN l.length b < l.length:=prv_lt (by omega)
    (repeat' (first|(with_reducible first|exact True.intro|refine zQ ?_|(refine zG hG_ ?_;intro K_ hK_)|(refine zR ?_;intro K_ hK_)|(refine hK_ _ _ ?_;try clear hK_ K_)|refine sq_n ?_|refine sq_r ?_|refine sq_e ?_|refine bq_n ?_|refine bq_r ?_|refine bq_q ?_|refine zB ?_|refine zX ?_|refine zT ?_|refine zK ?_|refine gq_n ?_|refine gq_r ?_|refine gq_e ?_|refine lq_n ?_|refine lq_r ?_|refine lq_e ?_|refine bq_e (by decide) ?_)|((with_reducible refine zC (b:=?b_) ?hb_ ?_ ?_);case hb_=>rfl)|((conv=>whnf);first|(with_reducible refine hK_ _ _ ?_;try clear hK_ K_)|(with_reducible refine fun (g_:Sl) (o_:Ow)=>?_)|(with_reducible first|exact True.intro|refine And.intro trivial ?_|refine And.intro ?_ ?_)|exact Nat.le_of_ble_eq_true rfl|exact Or.inl rfl|(intro h_;cases h_)|(intro h_;(try simp only [vS1] at h_))|rfl))) <;> (try (conv=>whnf)) <;> (try first|change (_:Int)≤_|change (_:Nat)≤_) <;> (try ((fail_if_success (with_reducible apply Exists.intro));(try dsimp only);(try simp only [vS1]))) <;> (try simp (disch:=omega) only [vS3,Int.add_sub_cancel,tn1,tnp,tnc,vS2] at *) <;> (try simp (disch:=omega) only [prv_int,Int.toNat_natCast] at *)
    all_goals (try (fail_if_success (with_reducible apply Exists.intro));first|with_reducible assumption|omega|exact mdl (by omega)|exact ilo1 (by omega)|exact ilo2 (by omega)|exact ihi1 (by omega) (by omega)|exact ihi2 (by omega) (by omega))
    all_goals first
     | omega
     | exact Nat.mod_lt _ (by omega)
     | skip
    ·refine ⟨(l.eraseIdx b,out ++ [triAt l b]),?_,hS.step (by omega:3 < l.length) hc,?_⟩
     ·show (l.eraseIdx b).length < l.length
      rw [List.length_eraseIdx_of_lt hbl]
      omega
     ·(repeat' (first|(with_reducible first|exact True.intro|refine And.intro ?_ ?_|refine Head.mk ?_ ?_ ?_ ?_)|((conv=>lhs;whnf);first|(with_reducible first|rfl|exact vInt_s (by omega))|exact rfl)|((conv=>whnf);first|(with_reducible first|exact True.intro|refine And.intro ?_ ?_)))) <;> (try (conv=>lhs;whnf))
      all_goals first
       | rfl
       | exact congrArg vInts (erase_eq _ _).symm
  ·have hbd:=ff_bd hff
   (repeat' (first|(with_reducible first|exact True.intro|refine zQ ?_|(refine zG hG_ ?_;intro K_ hK_)|(refine zR ?_;intro K_ hK_)|(refine hK_ _ _ ?_;try clear hK_ K_)|refine sq_n ?_|refine sq_r ?_|refine sq_e ?_|refine bq_n ?_|refine bq_r ?_|refine bq_q ?_|refine zB ?_|refine zX ?_|refine zT ?_|refine zK ?_|refine gq_n ?_|refine gq_r ?_|refine gq_e ?_|refine lq_n ?_|refine lq_r ?_|refine lq_e ?_|refine bq_e (by decide) ?_)|((with_reducible refine zC (b:=?b_) ?hb_ ?_ ?_);case hb_=>rfl)|((conv=>whnf);first|(with_reducible refine hK_ _ _ ?_;try clear hK_ K_)|(with_reducible refine fun (g_:Sl) (o_:Ow)=>?_)|(with_reducible first|exact True.intro|refine And.intro trivial ?_|refine And.intro ?_ ?_)|exact Nat.le_of_ble_eq_true rfl|exact Or.inl rfl|(intro h_;cases h_)|(intro h_;(try simp only [vS1] at h_))|rfl))) <;> (try (conv=>whnf)) <;> (try first|change (_:Int)≤_|change (_:Nat)≤_) <;> (try ((fail_if_success (with_reducible apply Exists.intro));(try dsimp only);(try simp only [vS1]))) <;> (try simp (disch:=omega) only [vS3,Int.add_sub_cancel,tn1,tnp,tnc,vS2] at *)
   all_goals (try (fail_if_success (with_reducible apply Exists.intro));first|with_reducible assumption|omega|exact mdl (by omega)|exact ilo1 (by omega)|exact ilo2 (by omega)|exact ihi1 (by omega) (by omega)|exact ihi2 (by omega) (by omega))
   ·refine ⟨(i,i),by simp,⟨by simp only;omega,ff_yes (a:=a) (by omega) (by assumption)⟩,?_⟩
    (repeat' (first|(with_reducible first|exact True.intro|refine And.intro ?_ ?_|refine Head.mk ?_ ?_ ?_ ?_)|((conv=>lhs;whnf);first|(with_reducible first|rfl|exact vInt_s (by omega))|exact rfl)|((conv=>whnf);first|(with_reducible first|exact True.intro|refine And.intro ?_ ?_)))) <;> (try (conv=>lhs;whnf))
    exact dnV_eq _
   ·refine ⟨(i,a),by simp,⟨by simp only;omega,ff_no (by assumption) hff⟩,?_⟩
    (repeat' (first|(with_reducible first|exact True.intro|refine And.intro ?_ ?_|refine Head.mk ?_ ?_ ?_ ?_)|((conv=>lhs;whnf);first|(with_reducible first|rfl|exact vInt_s (by omega))|exact rfl)|((conv=>whnf);first|(with_reducible first|exact True.intro|refine And.intro ?_ ?_)))) <;> (try (conv=>lhs;whnf))
    exact dnV_eq _
 ·exact congrArg some (hlast (by omega)).symm
def triOfM (xs:List Pt) (p:Pt):Int:=match (List.range (trisM xs).length).find? (fun i=>inTriangle xs ((trisM xs).getD i (0,0,0)) p) with
 | some i=>i
 | none=>-1
theorem triOf_some {xs:List Pt} {p:Pt} {i:Nat} (hi:i < (trisM xs).length) (h:inTriangle xs ((trisM xs).getD i (0,0,0)) p=true) (hall:∀ j,j < i→inTriangle xs ((trisM xs).getD j (0,0,0)) p=false):triOfM xs p=i:=by
 unfold triOfM
 rw [List.find?_range_eq_some.2 ⟨h,List.mem_range.2 hi,fun j hj=>by rw [hall j hj];rfl⟩]
theorem triOf_none {xs:List Pt} {p:Pt} (hall:∀ j,j < (trisM xs).length→inTriangle xs ((trisM xs).getD j (0,0,0)) p=false):triOfM xs p=-1:=by
 unfold triOfM
 rw [List.find?_eq_none.2 fun j hj=>by rw [hall j (List.mem_range.1 hj)];decide]
def triOfC:Con:=mkCon [.room,.pt] (fun x=>x.1.length≤1048576) fun x=>vI (triOfM x.1 x.2.1)
theorem iTriangleOf_ok:Good1 Tryz.prog n_impl_TriangleOf triOfC:=by
 refine good_ofG (tys:=tyL) (env:=[(n_impl_TrianglesOf,trisC),(n_impl_InTriangle,inTriangleC)]) (envw:=[]) (envd:=[]) [] [6] [] [] [] mixed tys ⟨iTrianglesOf_ok,iInTriangle_ok,trivial⟩ trivial trivial Tryz.func63 rfl (by kernel_rfl) (by decide) (by kernel_rfl) ?_
 have hG_:=kpz [(0,[2,3]),(1,[2,3,8,9,10]),(2,[2,3,8,9,10,11]),(3,[2,3,5,6,8,9,10]),(4,[2,3,5,8,9,10,18]),(5,[4]),(6,[2,3,8,9,10]),(7,[4])] [(3,[6])] [] []
 rintro ⟨(xs:List Pt),⟨(p:Int),(q:Int)⟩,⟨⟩⟩ (h1:xs.length≤_)
 have htl:=tris_len xs
 (repeat' (first|(with_reducible first|exact True.intro|refine zQ ?_|(refine zG hG_ ?_;intro K_ hK_)|(refine zR ?_;intro K_ hK_)|(refine hK_ _ _ ?_;try clear hK_ K_)|refine sq_n ?_|refine sq_r ?_|refine sq_e ?_|refine bq_n ?_|refine bq_r ?_|refine bq_q ?_|refine zB ?_|refine zX ?_|refine zT ?_|refine zK ?_|refine gq_n ?_|refine gq_r ?_|refine gq_e ?_|refine lq_n ?_|refine lq_r ?_|refine lq_e ?_|refine bq_e (by decide) ?_)|((with_reducible refine zC (b:=?b_) ?hb_ ?_ ?_);case hb_=>rfl)|((conv=>whnf);first|(with_reducible refine hK_ _ _ ?_;try clear hK_ K_)|(with_reducible refine fun (g_:Sl) (o_:Ow)=>?_)|(with_reducible first|exact True.intro|refine And.intro trivial ?_|refine And.intro ?_ ?_)|exact Nat.le_of_ble_eq_true rfl|exact Or.inl rfl|(intro h_;cases h_)|(intro h_;(try simp only [vS1] at h_))|rfl))) <;> (try (conv=>whnf)) <;> (try first|change (_:Int)≤_|change (_:Nat)≤_) <;> (try ((fail_if_success (with_reducible apply Exists.intro));(try dsimp only);(try simp only [vS1]))) <;> (try simp (disch:=omega) only [vS3,Int.add_sub_cancel,tn1,tnp,tnc,vS2] at *)
 all_goals (try (fail_if_success (with_reducible apply Exists.intro));first|with_reducible assumption|omega|exact mdl (by omega)|exact ilo1 (by omega)|exact ilo2 (by omega)|exact ihi1 (by omega) (by omega)|exact ihi2 (by omega) (by omega))
 refine awp'_loopG (α:=Nat) (fun i ver_=>[(10,vInt i)]) (fun i ver_=>[]) (fun i ver_=>[(6,⟨ver_ 6,.dead⟩)]) (fun i=>i≤(trisM xs).length∧∀ j,j < i→inTriangle xs ((trisM xs).getD j (0,0,0)) (p,q)=false) (fun i=>(trisM xs).length - i) [2,3,8,9] [] (0) ?_
 conv=>whnf
 refine ⟨⟨?inv1_,?vals1_,?own1_,?fix1_⟩,?body1_⟩
 case' vals1_=>(repeat' (first|(with_reducible first|exact True.intro|refine And.intro ?_ ?_|refine Head.mk ?_ ?_ ?_ ?_)|((conv=>lhs;whnf);first|(with_reducible first|rfl|exact vInt_s (by omega))|exact rfl)|((conv=>whnf);first|(with_reducible first|exact True.intro|refine And.intro ?_ ?_)))) <;> (try (conv=>lhs;whnf))
 case' own1_=>(repeat' (first|(with_reducible first|exact True.intro|refine And.intro ?_ ?_|refine Head.mk ?_ ?_ ?_ ?_)|((conv=>lhs;whnf);first|(with_reducible first|rfl|exact vInt_s (by omega))|exact rfl)|((conv=>whnf);first|(with_reducible first|exact True.intro|refine And.intro ?_ ?_)))) <;> (try (conv=>lhs;whnf))
 case' fix1_=>(repeat' (first|(with_reducible first|exact True.intro|refine And.intro ?_ ?_|refine Head.mk ?_ ?_ ?_ ?_)|((conv=>lhs;whnf);first|(with_reducible first|rfl|exact vInt_s (by omega))|exact rfl)|((conv=>whnf);first|(with_reducible first|exact True.intro|refine And.intro ?_ ?_)))) <;> (try (conv=>lhs;whnf))
 ·exact ⟨Nat.zero_le _,fun j hj=>absurd hj (by omega)⟩
 rintro i g_ o_ v_ ⟨hi,hall⟩
 (repeat' (first|(with_reducible first|exact True.intro|refine zQ ?_|(refine zG hG_ ?_;intro K_ hK_)|(refine zR ?_;intro K_ hK_)|(refine hK_ _ _ ?_;try clear hK_ K_)|refine sq_n ?_|refine sq_r ?_|refine sq_e ?_|refine bq_n ?_|refine bq_r ?_|refine bq_q ?_|refine zB ?_|refine zX ?_|refine zT ?_|refine zK ?_|refine gq_n ?_|refine gq_r ?_|refine gq_e ?_|refine lq_n ?_|refine lq_r ?_|refine lq_e ?_|refine bq_e (by decide) ?_)|((with_reducible refine zC (b:=?b_) ?hb_ ?_ ?_);case hb_=>rfl)|((conv=>whnf);first|(with_reducible refine hK_ _ _ ?_;try clear hK_ K_)|(with_reducible refine fun (g_:Sl) (o_:Ow)=>?_)|(with_reducible first|exact True.intro|refine And.intro trivial ?_|refine And.intro ?_ ?_)|exact Nat.le_of_ble_eq_true rfl|exact Or.inl rfl|(intro h_;cases h_)|(intro h_;(try simp only [vS1] at h_))|rfl))) <;> (try (conv=>whnf)) <;> (try first|change (_:Int)≤_|change (_:Nat)≤_) <;> (try ((fail_if_success (with_reducible apply Exists.intro));(try dsimp only);(try simp only [vS1]))) <;> (try simp (disch:=omega) only [vS3,Int.add_sub_cancel,tn1,tnp,tnc,vS2] at *)
 all_goals (try (fail_if_success (with_reducible apply Exists.intro));first|with_reducible assumption|omega|exact mdl (by omega)|exact ilo1 (by omega)|exact ilo2 (by omega)|exact ihi1 (by omega) (by omega)|exact ihi2 (by omega) (by omega))
 all_goals first
  | exact (triOf_some (by assumption) (by assumption) hall).symm
  | exact ⟨i + 1,by omega,⟨by omega,lt_succ_all hall (by assumption)⟩,by (repeat' (first|(with_reducible first|exact True.intro|refine And.intro ?_ ?_|refine Head.mk ?_ ?_ ?_ ?_)|((conv=>lhs;whnf);first|(with_reducible first|rfl|exact vInt_s (by omega))|exact rfl)|((conv=>whnf);first|(with_reducible first|exact True.intro|refine And.intro ?_ ?_)))) <;> (try (conv=>lhs;whnf))⟩
  | exact (triOf_none fun j hj=>hall j (by omega)).symm
  | skip
def AcAt (cs:List Int) (t:Tri):Prop:=cs.getD t.1.toNat 0≠cs.getD t.2.1.toNat 0∧cs.getD t.2.1.toNat 0≠cs.getD t.2.2.toNat 0∧cs.getD t.1.toNat 0≠cs.getD t.2.2.toNat 0
instance (cs:List Int) (t:Tri):Decidable (AcAt cs t):=by unfold AcAt;infer_instance
theorem tri_in {xs:List Pt} {k:Nat} (hk:k < (trisM xs).length):TriIn xs.length ((trisM xs).getD k (0,0,0)):=tris_in (by rw [getD_lt _ hk];exact List.getElem_mem _)
def inT (x:Int) (t:Tri):Bool:=decide (x=t.1) || (decide (x=t.2.1) || decide (x=t.2.2))
def cmTo (s t:Tri):Nat→Int
 | 0=>0
 | k + 1=>if inT ([s.1,s.2.1,s.2.2].getD k 0) t then cmTo s t k + 1 else cmTo s t k
theorem cmTo_bd (s t:Tri):∀ k,0≤cmTo s t k∧cmTo s t k≤k
 | 0=>by simp [cmTo]
 | k + 1=>by
  have:=cmTo_bd s t k
  unfold cmTo
  split <;> omega
def commonM (s t:Tri):Int:=cmTo s t 3
theorem inT_iff {x:Int} {t:Tri}:inT x t=true↔x=t.1∨x=t.2.1∨x=t.2.2:=by unfold inT;simp only [Bool.or_eq_true,decide_eq_true_eq]
theorem cm_yes {s t:Tri} {k:Nat} (h:[s.1,s.2.1,s.2.2].getD k 0=t.1∨[s.1,s.2.1,s.2.2].getD k 0=t.2.1∨[s.1,s.2.1,s.2.2].getD k 0=t.2.2):cmTo s t k + 1=cmTo s t (k + 1):=by
 rw [cmTo,if_pos (inT_iff.2 h)]
theorem cm_no {s t:Tri} {k:Nat} (h1:¬ [s.1,s.2.1,s.2.2].getD k 0=t.1) (h2:¬ [s.1,s.2.1,s.2.2].getD k 0=t.2.1) (h3:¬ [s.1,s.2.1,s.2.2].getD k 0=t.2.2):cmTo s t k=cmTo s t (k + 1):=by
 rw [cmTo,if_neg fun h=>by rcases inT_iff.1 h with e|e|e <;> contradiction]
def commonC:Con:=mkCon [.tri,.tri] (fun _=>True) fun x=>vI (commonM x.1 x.2.1)
theorem common_ok:Good1 Tryz.prog n_impl_common commonC:=by
 refine good_ofG (tys:=tyL) (env:=[]) (envw:=[]) (envd:=[]) [] [] [] [] [] mixed tys trivial trivial trivial Tryz.func99 rfl (by kernel_rfl) (by decide) (by kernel_rfl) ?_
 have hG_:=kpz [(0,[2,3]),(1,[2,3,5]),(2,[3,5,14,15,16]),(3,[3,5,14,15,16,17]),(4,[3,5,7,14,15,16]),(5,[3,5,14,15,16,35]),(6,[3,5,14,15,16]),(7,[3,5,14,15,16]),(8,[4])] [] [] []
 rintro ⟨⟨(a:Int),(b:Int),(c:Int)⟩,⟨(d:Int),(e:Int),(f:Int)⟩,⟨⟩⟩ -
 (repeat' (first|(with_reducible first|exact True.intro|refine zQ ?_|(refine zG hG_ ?_;intro K_ hK_)|(refine zR ?_;intro K_ hK_)|(refine hK_ _ _ ?_;try clear hK_ K_)|refine sq_n ?_|refine sq_r ?_|refine sq_e ?_|refine bq_n ?_|refine bq_r ?_|refine bq_q ?_|refine zB ?_|refine zX ?_|refine zT ?_|refine zK ?_|refine gq_n ?_|refine gq_r ?_|refine gq_e ?_|refine lq_n ?_|refine lq_r ?_|refine lq_e ?_|refine bq_e (by decide) ?_)|((with_reducible refine zC (b:=?b_) ?hb_ ?_ ?_);case hb_=>rfl)|((conv=>whnf);first|(with_reducible refine hK_ _ _ ?_;try clear hK_ K_)|(with_reducible refine fun (g_:Sl) (o_:Ow)=>?_)|(with_reducible first|exact True.intro|refine And.intro trivial ?_|refine And.intro ?_ ?_)|exact Nat.le_of_ble_eq_true rfl|exact Or.inl rfl|(intro h_;cases h_)|(intro h_;(try simp only [vS1] at h_))|rfl))) <;> (try (conv=>whnf)) <;> (try first|change (_:Int)≤_|change (_:Nat)≤_) <;> (try ((fail_if_success (with_reducible apply Exists.intro));(try dsimp only);(try simp only [vS1]))) <;> (try simp (disch:=omega) only [vS3,Int.add_sub_cancel,tn1,tnp,tnc,vS2] at *)
 all_goals (try (fail_if_success (with_reducible apply Exists.intro));first|with_reducible assumption|omega|exact mdl (by omega)|exact ilo1 (by omega)|exact ilo2 (by omega)|exact ihi1 (by omega) (by omega)|exact ihi2 (by omega) (by omega))
 refine awp'_loopG (α:=Nat) (fun k ver_=>[(16,vInt k),(5,vInt (cmTo (a,b,c) (d,e,f) k))]) (fun k ver_=>[]) (fun k ver_=>[]) (fun k=>k≤3) (fun k=>3 - k) [3,14,15] [] (0) ?_
 conv=>whnf
 refine ⟨⟨?inv2_,?vals2_,?own2_,?fix2_⟩,?body2_⟩
 case' vals2_=>(repeat' (first|(with_reducible first|exact True.intro|refine And.intro ?_ ?_|refine Head.mk ?_ ?_ ?_ ?_)|((conv=>lhs;whnf);first|(with_reducible first|rfl|exact vInt_s (by omega))|exact rfl)|((conv=>whnf);first|(with_reducible first|exact True.intro|refine And.intro ?_ ?_)))) <;> (try (conv=>lhs;whnf))
 case' own2_=>(repeat' (first|(with_reducible first|exact True.intro|refine And.intro ?_ ?_|refine Head.mk ?_ ?_ ?_ ?_)|((conv=>lhs;whnf);first|(with_reducible first|rfl|exact vInt_s (by omega))|exact rfl)|((conv=>whnf);first|(with_reducible first|exact True.intro|refine And.intro ?_ ?_)))) <;> (try (conv=>lhs;whnf))
 case' fix2_=>(repeat' (first|(with_reducible first|exact True.intro|refine And.intro ?_ ?_|refine Head.mk ?_ ?_ ?_ ?_)|((conv=>lhs;whnf);first|(with_reducible first|rfl|exact vInt_s (by omega))|exact rfl)|((conv=>whnf);first|(with_reducible first|exact True.intro|refine And.intro ?_ ?_)))) <;> (try (conv=>lhs;whnf))
 ·exact Nat.zero_le _
 rintro k g_ o_ v_ hk
 have hb:=cmTo_bd (a,b,c) (d,e,f) k
 (repeat' (first|(with_reducible first|exact True.intro|refine zQ ?_|(refine zG hG_ ?_;intro K_ hK_)|(refine zR ?_;intro K_ hK_)|(refine hK_ _ _ ?_;try clear hK_ K_)|refine sq_n ?_|refine sq_r ?_|refine sq_e ?_|refine bq_n ?_|refine bq_r ?_|refine bq_q ?_|refine zB ?_|refine zX ?_|refine zT ?_|refine zK ?_|refine gq_n ?_|refine gq_r ?_|refine gq_e ?_|refine lq_n ?_|refine lq_r ?_|refine lq_e ?_|refine bq_e (by decide) ?_)|((with_reducible refine zC (b:=?b_) ?hb_ ?_ ?_);case hb_=>rfl)|((conv=>whnf);first|(with_reducible refine hK_ _ _ ?_;try clear hK_ K_)|(with_reducible refine fun (g_:Sl) (o_:Ow)=>?_)|(with_reducible first|exact True.intro|refine And.intro trivial ?_|refine And.intro ?_ ?_)|exact Nat.le_of_ble_eq_true rfl|exact Or.inl rfl|(intro h_;cases h_)|(intro h_;(try simp only [vS1] at h_))|rfl))) <;> (try (conv=>whnf)) <;> (try first|change (_:Int)≤_|change (_:Nat)≤_) <;> (try ((fail_if_success (with_reducible apply Exists.intro));(try dsimp only);(try simp only [vS1]))) <;> (try simp (disch:=omega) only [vS3,Int.add_sub_cancel,tn1,tnp,tnc,vS2] at *)
 all_goals (try (fail_if_success (with_reducible apply Exists.intro));first|with_reducible assumption|omega|exact mdl (by omega)|exact ilo1 (by omega)|exact ilo2 (by omega)|exact ihi1 (by omega) (by omega)|exact ihi2 (by omega) (by omega))
 ·refine ⟨k + 1,by omega,by omega,?_⟩
  (repeat' (first|(with_reducible first|exact True.intro|refine And.intro ?_ ?_|refine Head.mk ?_ ?_ ?_ ?_)|((conv=>lhs;whnf);first|(with_reducible first|rfl|exact vInt_s (by omega))|exact rfl)|((conv=>whnf);first|(with_reducible first|exact True.intro|refine And.intro ?_ ?_)))) <;> (try (conv=>lhs;whnf))
  exact congrArg vInt (cm_yes (s:=(a,b,c)) (t:=(d,e,f)) (.inl (by assumption)))
 ·refine ⟨k + 1,by omega,by omega,?_⟩
  (repeat' (first|(with_reducible first|exact True.intro|refine And.intro ?_ ?_|refine Head.mk ?_ ?_ ?_ ?_)|((conv=>lhs;whnf);first|(with_reducible first|rfl|exact vInt_s (by omega))|exact rfl)|((conv=>whnf);first|(with_reducible first|exact True.intro|refine And.intro ?_ ?_)))) <;> (try (conv=>lhs;whnf))
  exact congrArg vInt (cm_yes (s:=(a,b,c)) (t:=(d,e,f)) (.inr (.inl (by assumption))))
 ·refine ⟨k + 1,by omega,by omega,?_⟩
  (repeat' (first|(with_reducible first|exact True.intro|refine And.intro ?_ ?_|refine Head.mk ?_ ?_ ?_ ?_)|((conv=>lhs;whnf);first|(with_reducible first|rfl|exact vInt_s (by omega))|exact rfl)|((conv=>whnf);first|(with_reducible first|exact True.intro|refine And.intro ?_ ?_)))) <;> (try (conv=>lhs;whnf))
  exact congrArg vInt (cm_yes (s:=(a,b,c)) (t:=(d,e,f)) (.inr (.inr (by assumption))))
 ·refine ⟨k + 1,by omega,by omega,?_⟩
  (repeat' (first|(with_reducible first|exact True.intro|refine And.intro ?_ ?_|refine Head.mk ?_ ?_ ?_ ?_)|((conv=>lhs;whnf);first|(with_reducible first|rfl|exact vInt_s (by omega))|exact rfl)|((conv=>whnf);first|(with_reducible first|exact True.intro|refine And.intro ?_ ?_)))) <;> (try (conv=>lhs;whnf))
  exact congrArg vInt (cm_no (s:=(a,b,c)) (t:=(d,e,f)) (by assumption) (by assumption) (by assumption))
 ·rw [show k=3 by omega];rfl
theorem tris_or (xs:List Pt):(trisM xs).length=0∨(3≤xs.length∧xs.length≤10):=by
 rcases tris_cutd xs with e|⟨hr,-⟩
 ·exact .inl (by rw [e];rfl)
 ·exact .inr (room_len hr)
theorem common_eq (s t:Tri):commonM s t=(if inT s.1 t then 1 else 0) + ((if inT s.2.1 t then 1 else 0) + (if inT s.2.2 t then 1 else 0)):=by
 have e0:[s.1,s.2.1,s.2.2].getD 0 0=s.1:=rfl
 have e1:[s.1,s.2.1,s.2.2].getD 1 0=s.2.1:=rfl
 have e2:[s.1,s.2.1,s.2.2].getD 2 0=s.2.2:=rfl
 unfold commonM
 simp only [cmTo,e0,e1,e2]
 repeat' split
 all_goals rfl
theorem common_comm {n:Nat} {s t:Tri} (hs:TriIn n s) (ht:TriIn n t):commonM s t=commonM t s:=by
 obtain ⟨a,b,c⟩:=s
 obtain ⟨d,e,f⟩:=t
 obtain ⟨-,h1,h2,-⟩:=hs
 obtain ⟨-,h3,h4,-⟩:=ht
 simp only at h1 h2 h3 h4
 rw [common_eq,common_eq]
 simp only [inT,Bool.or_eq_true,decide_eq_true_eq]
 repeat' split
 all_goals omega
theorem tri_at_in {xs:List Pt} {k:Nat} (hk:k < (trisM xs).length):TriIn xs.length ((trisM xs).getD k (0,0,0)):=by
 rw [getD_lt _ hk];exact tris_in (List.getElem_mem _)
def besAt (l:List Tri) (k:Int) (j:Nat):Bool:=decide ((j:Int)≠k) && decide (commonM (l.getD j (0,0,0)) (l.getD k.toNat (0,0,0))=2)
def besTo (l:List Tri) (k:Int) (i:Nat):List Int:=((List.range i).filter (besAt l k)).map fun j:Nat=>(j:Int)
theorem besTo_succ (l:List Tri) (k:Int) (i:Nat):besTo l k (i + 1)=besTo l k i ++ (if besAt l k i then [(i:Int)] else []):=by
 unfold besTo
 rw [List.range_succ,List.filter_append,List.map_append]
 congr 1
 rw [List.filter_cons]
 by_cases h:besAt l k i=true
 ·rw [if_pos h,if_pos h];rfl
 ·rw [if_neg h,if_neg h];rfl
theorem besTo_len (l:List Tri) (k:Int) (i:Nat):(besTo l k i).length≤i:=by
 unfold besTo
 rw [List.length_map]
 exact Nat.le_trans (List.length_filter_le _ _) (by simp)
theorem besTo_yes {l:List Tri} {k:Int} {i:Nat} (h1:¬ (i:Int)=k) (h2:commonM (l.getD i (0,0,0)) (l.getD k.toNat (0,0,0))=2):besTo l k i ++ [(i:Int)]=besTo l k (i + 1):=by
 rw [besTo_succ,if_pos (by unfold besAt;rw [Bool.and_eq_true];exact ⟨decide_eq_true h1,decide_eq_true h2⟩)]
theorem besTo_no1 {l:List Tri} {k:Int} {i:Nat} (h1:(i:Int)=k):besTo l k i=besTo l k (i + 1):=by
 rw [besTo_succ,if_neg (by unfold besAt;simp [h1]),List.append_nil]
theorem besTo_no2 {l:List Tri} {k:Int} {i:Nat} (h2:¬ commonM (l.getD i (0,0,0)) (l.getD k.toNat (0,0,0))=2):besTo l k i=besTo l k (i + 1):=by
 rw [besTo_succ,if_neg (by unfold besAt;rw [decide_eq_false h2,Bool.and_false];decide),List.append_nil]
def besideC:Con:=mkCon [.sl (.b .tri),.int] (fun x=>x.1.length≤1048577∧0≤x.2.1∧x.2.1 < x.1.length) fun x=>rowI (besTo x.1 x.2.1 x.1.length)
theorem beside_ok:Good1 Tryz.prog n_impl_beside besideC:=by
 refine good_ofG (tys:=tyL) (env:=[(n_impl_common,commonC)]) (envw:=[]) (envd:=[]) [8] [7] [] [] [] mixed tys ⟨common_ok,trivial⟩ trivial trivial Tryz.func60 rfl (by kernel_rfl) (by decide) (by kernel_rfl) ?_
 have hG_:=kpz [(0,[0,1]),(1,[0,1,5]),(2,[0,1,5,9,10,11]),(3,[0,1,5,9,10,11,12]),(4,[0,1,5,6,7,9,10,11]),(5,[0,1,5,6,9,10,11,27]),(6,[0,1,5,9,10,11]),(7,[0,1,5,9,10,11]),(8,[4])] [(1,[8]),(2,[8]),(3,[8]),(4,[7,8]),(5,[8]),(6,[8]),(7,[8]),(8,[8])] [] []
 rintro ⟨(l:List Tri),(k:Int),⟨⟩⟩ ⟨(h1:l.length≤_),(h2:0≤k),(h3:k < l.length)⟩
 (repeat' (first|(with_reducible first|exact True.intro|refine zQ ?_|(refine zG hG_ ?_;intro K_ hK_)|(refine zR ?_;intro K_ hK_)|(refine hK_ _ _ ?_;try clear hK_ K_)|refine sq_n ?_|refine sq_r ?_|refine sq_e ?_|refine bq_n ?_|refine bq_r ?_|refine bq_q ?_|refine zB ?_|refine zX ?_|refine zT ?_|refine zK ?_|refine gq_n ?_|refine gq_r ?_|refine gq_e ?_|refine lq_n ?_|refine lq_r ?_|refine lq_e ?_|refine bq_e (by decide) ?_)|((with_reducible refine zC (b:=?b_) ?hb_ ?_ ?_);case hb_=>rfl)|((conv=>whnf);first|(with_reducible refine hK_ _ _ ?_;try clear hK_ K_)|(with_reducible refine fun (g_:Sl) (o_:Ow)=>?_)|(with_reducible first|exact True.intro|refine And.intro trivial ?_|refine And.intro ?_ ?_)|exact Nat.le_of_ble_eq_true rfl|exact Or.inl rfl|(intro h_;cases h_)|(intro h_;(try simp only [vS1] at h_))|rfl))) <;> (try (conv=>whnf)) <;> (try first|change (_:Int)≤_|change (_:Nat)≤_) <;> (try ((fail_if_success (with_reducible apply Exists.intro));(try dsimp only);(try simp only [vS1]))) <;> (try simp (disch:=omega) only [vS3,Int.add_sub_cancel,tn1,tnp,tnc,vS2] at *)
 all_goals (try (fail_if_success (with_reducible apply Exists.intro));first|with_reducible assumption|omega|exact mdl (by omega)|exact ilo1 (by omega)|exact ilo2 (by omega)|exact ihi1 (by omega) (by omega)|exact ihi2 (by omega) (by omega))
 refine awp'_loopG (α:=Nat) (fun i ver_=>[(11,vInt i)]) (fun i ver_=>[(5,8,false,.row t_int (.b .int) (besTo l k i))]) (fun i ver_=>[(7,⟨ver_ 7,.dead⟩)]) (fun i=>i≤l.length) (fun i=>l.length - i) [0,1,9,10] [] (0) ?_
 conv=>whnf
 refine ⟨⟨?inv3_,?vals3_,?own3_,?fix3_⟩,?body3_⟩
 case' vals3_=>(repeat' (first|(with_reducible first|exact True.intro|refine And.intro ?_ ?_|refine Head.mk ?_ ?_ ?_ ?_)|((conv=>lhs;whnf);first|(with_reducible first|rfl|exact vInt_s (by omega))|exact rfl)|((conv=>whnf);first|(with_reducible first|exact True.intro|refine And.intro ?_ ?_)))) <;> (try (conv=>lhs;whnf))
 case' own3_=>(repeat' (first|(with_reducible first|exact True.intro|refine And.intro ?_ ?_|refine Head.mk ?_ ?_ ?_ ?_)|((conv=>lhs;whnf);first|(with_reducible first|rfl|exact vInt_s (by omega))|exact rfl)|((conv=>whnf);first|(with_reducible first|exact True.intro|refine And.intro ?_ ?_)))) <;> (try (conv=>lhs;whnf))
 case' fix3_=>(repeat' (first|(with_reducible first|exact True.intro|refine And.intro ?_ ?_|refine Head.mk ?_ ?_ ?_ ?_)|((conv=>lhs;whnf);first|(with_reducible first|rfl|exact vInt_s (by omega))|exact rfl)|((conv=>whnf);first|(with_reducible first|exact True.intro|refine And.intro ?_ ?_)))) <;> (try (conv=>lhs;whnf))
 ·exact Nat.zero_le _
 rintro i g_ o_ v_ hi
 have hbl:=besTo_len l k i
 (repeat' (first|(with_reducible first|exact True.intro|refine zQ ?_|(refine zG hG_ ?_;intro K_ hK_)|(refine zR ?_;intro K_ hK_)|(refine hK_ _ _ ?_;try clear hK_ K_)|refine sq_n ?_|refine sq_r ?_|refine sq_e ?_|refine bq_n ?_|refine bq_r ?_|refine bq_q ?_|refine zB ?_|refine zX ?_|refine zT ?_|refine zK ?_|refine gq_n ?_|refine gq_r ?_|refine gq_e ?_|refine lq_n ?_|refine lq_r ?_|refine lq_e ?_|refine bq_e (by decide) ?_)|((with_reducible refine zC (b:=?b_) ?hb_ ?_ ?_);case hb_=>rfl)|((conv=>whnf);first|(with_reducible refine hK_ _ _ ?_;try clear hK_ K_)|(with_reducible refine fun (g_:Sl) (o_:Ow)=>?_)|(with_reducible first|exact True.intro|refine And.intro trivial ?_|refine And.intro ?_ ?_)|exact Nat.le_of_ble_eq_true rfl|exact Or.inl rfl|(intro h_;cases h_)|(intro h_;(try simp only [vS1] at h_))|rfl))) <;> (try (conv=>whnf)) <;> (try first|change (_:Int)≤_|change (_:Nat)≤_) <;> (try ((fail_if_success (with_reducible apply Exists.intro));(try dsimp only);(try simp only [vS1]))) <;> (try simp (disch:=omega) only [vS3,Int.add_sub_cancel,tn1,tnp,tnc,vS2] at *)
 all_goals (try (fail_if_success (with_reducible apply Exists.intro));first|with_reducible assumption|omega|exact mdl (by omega)|exact ilo1 (by omega)|exact ilo2 (by omega)|exact ihi1 (by omega) (by omega)|exact ihi2 (by omega) (by omega))
 ·refine ⟨i + 1,by omega,by omega,?_⟩
  (repeat' (first|(with_reducible first|exact True.intro|refine And.intro ?_ ?_|refine Head.mk ?_ ?_ ?_ ?_)|((conv=>lhs;whnf);first|(with_reducible first|rfl|exact vInt_s (by omega))|exact rfl)|((conv=>whnf);first|(with_reducible first|exact True.intro|refine And.intro ?_ ?_)))) <;> (try (conv=>lhs;whnf))
  exact congrArg (Own.row _ _) (besTo_yes (by assumption) (by assumption))
 ·refine ⟨i + 1,by omega,by omega,?_⟩
  (repeat' (first|(with_reducible first|exact True.intro|refine And.intro ?_ ?_|refine Head.mk ?_ ?_ ?_ ?_)|((conv=>lhs;whnf);first|(with_reducible first|rfl|exact vInt_s (by omega))|exact rfl)|((conv=>whnf);first|(with_reducible first|exact True.intro|refine And.intro ?_ ?_)))) <;> (try (conv=>lhs;whnf))
  exact congrArg (Own.row _ _) (besTo_no2 (by assumption))
 ·refine ⟨i + 1,by omega,by omega,?_⟩
  (repeat' (first|(with_reducible first|exact True.intro|refine And.intro ?_ ?_|refine Head.mk ?_ ?_ ?_ ?_)|((conv=>lhs;whnf);first|(with_reducible first|rfl|exact vInt_s (by omega))|exact rfl)|((conv=>whnf);first|(with_reducible first|exact True.intro|refine And.intro ?_ ?_)))) <;> (try (conv=>lhs;whnf))
  exact congrArg (Own.row _ _) (besTo_no1 (by assumption))
 ·exact congrArg some (by rw [show i=l.length by omega])
def neighM2 (xs:List Pt) (k:Int):List Int:=if btw k 0 ((trisM xs).length - 1) then besTo (trisM xs) k (trisM xs).length else []
def neigh2C:Con:=mkCon [.room,.int] (fun x=>x.1.length≤1048576) fun x=>rowI (neighM2 x.1 x.2.1)
theorem iNeighborsOf_ok:Good1 Tryz.prog n_impl_NeighborsOf neigh2C:=by
 refine good_ofG (tys:=tyL) (env:=[(n_impl_TrianglesOf,trisC),(n_impl_between,btwC),(n_impl_beside,besideC)]) (envw:=[]) (envd:=[]) [16] [] [] [] [] mixed tys ⟨iTrianglesOf_ok,between_ok,beside_ok,trivial⟩ trivial trivial Tryz.func26 rfl (by kernel_rfl) (by decide) (by kernel_rfl) ?_
 have hG_:=kpz [(0,[1,2]),(1,[1,5]),(2,[1,5,13]),(3,[4]),(4,[4])] [(4,[16])] [] []
 rintro ⟨(xs:List Pt),(k:Int),⟨⟩⟩ (h1:xs.length≤_)
 have htl:=tris_len xs
 have hw:IntKind.i64.wrap ((trisM xs).length - 1:Int)=(trisM xs).length - 1:=W_in (by omega) (by omega)
 (repeat' (first|(with_reducible first|exact True.intro|refine zQ ?_|(refine zG hG_ ?_;intro K_ hK_)|(refine zR ?_;intro K_ hK_)|(refine hK_ _ _ ?_;try clear hK_ K_)|refine sq_n ?_|refine sq_r ?_|refine sq_e ?_|refine bq_n ?_|refine bq_r ?_|refine bq_q ?_|refine zB ?_|refine zX ?_|refine zT ?_|refine zK ?_|refine gq_n ?_|refine gq_r ?_|refine gq_e ?_|refine lq_n ?_|refine lq_r ?_|refine lq_e ?_|refine bq_e (by decide) ?_)|((with_reducible refine zC (b:=?b_) ?hb_ ?_ ?_);case hb_=>rfl)|((conv=>whnf);first|(with_reducible refine hK_ _ _ ?_;try clear hK_ K_)|(with_reducible refine fun (g_:Sl) (o_:Ow)=>?_)|(with_reducible first|exact True.intro|refine And.intro trivial ?_|refine And.intro ?_ ?_)|exact Nat.le_of_ble_eq_true rfl|exact Or.inl rfl|(intro h_;cases h_)|(intro h_;(try simp only [vS1] at h_))|rfl))) <;> (try (conv=>whnf)) <;> (try first|change (_:Int)≤_|change (_:Nat)≤_) <;> (try ((fail_if_success (with_reducible apply Exists.intro));(try dsimp only);(try simp only [vS1]))) <;> (try simp (disch:=omega) only [vS3,Int.add_sub_cancel,tn1,tnp,tnc,vS2] at *) <;> (try rw [hw] at *)
 all_goals (try (fail_if_success (with_reducible apply Exists.intro));first|with_reducible assumption|omega|exact mdl (by omega)|exact ilo1 (by omega)|exact ilo2 (by omega)|exact ihi1 (by omega) (by omega)|exact ihi2 (by omega) (by omega))
 ·unfold neighM2;rw [if_neg (by rw [h_];decide)]
 ·have:=btw_iff.1 h_;omega
 ·have:=btw_iff.1 h_;omega
 ·exact congrArg some (by unfold neighM2;rw [if_pos h_])
end Go.Proofs.YtnepfcnlngpchaaGreat
namespace Go.Proofs.YtnepfcnlngpchaaGreat
open Go.Shelf Go.RowKit Go.Lib Go.Proofs.YtnepfcnlngpchaaGreat.Nm
set_option maxRecDepth 10000
set_option maxHeartbeats 2000000
def mul_ren:Go.Shelf.Ren:=⟨fun|212=>124|263=>141|264=>142|n=>n,fun|46=>94|51=>124|53=>126|146=>145|148=>147|n=>n,fun n=>n⟩
theorem mul_lay:Lays.n212 Tryz.prog mul_ren:={
 mixed:=by kernel_rfl
 f212:=Tryz.func124.trans (congrArg some (by kernel_rfl))
 f263:=Tryz.func141.trans (congrArg some (by kernel_rfl))
 f264:=Tryz.func142.trans (congrArg some (by kernel_rfl))
 t46:=Tryz.underlying94
 a46:=Tryz.isAgg94
 z46:=Tryz.sizeOf94
 v46:=Tryz.zeroValue94
 t51:=Tryz.underlying124
 a51:=Tryz.isAgg124
 z51:=Tryz.sizeOf124
 v51:=Tryz.zeroValue124
 t53:=Tryz.underlying126
 a53:=Tryz.isAgg126
 z53:=Tryz.sizeOf126
 v53:=Tryz.zeroValue126
 t146:=Tryz.underlying145
 a146:=Tryz.isAgg145
 z146:=Tryz.sizeOf145
 v146:=Tryz.zeroValue145
 t148:=Tryz.underlying147
 a148:=Tryz.isAgg147
 z148:=Tryz.sizeOf147
 v148:=Tryz.zeroValue147
}
def mulC:Con:=⟨Int × Int,fun|[.one (.d (.int .u64 a)),.one (.d (.int .u64 b))]=>some (a,b)|_=>none,fun x=>(0≤x.1∧x.1 < 18446744073709551616)∧0≤x.2∧x.2 < 18446744073709551616,
 fun x=>.val (.tup [.inl (.d (.int .u64 (x.1 * x.2 / 18446744073709551616))),.inl (.d (.int .u64 (x.1 * x.2 % 18446744073709551616)))]),none⟩
theorem mul_snd:Sound Tryz.prog n_math_bits_Mul mulC:=by
 intro w F args vs x hp hpre hF hlen hargs
 obtain ⟨a,b⟩:=x
 obtain ⟨⟨ha0,ha1⟩,hb0,hb1⟩:=hpre
 have hp2:∃ a' b',args=[.one (.d (.int .u64 a')),.one (.d (.int .u64 b'))]∧some (a',b')=some (a,b):=by
  have hp:mulC.pat args=some (a,b):=hp
  unfold mulC at hp
  simp only at hp
  split at hp
  ·exact ⟨_,_,rfl,hp⟩
  ·cases hp
 clear hp
 obtain ⟨a',b',rfl,hp⟩:=hp2
 obtain ⟨rfl,rfl⟩:=Prod.mk.inj (Option.some.inj hp)
 ·skip
  match vs,hlen with
  | [v0,v1],_=>
   have h0:v0=.int .u64 a':=intD (hargs 0 _ v0 rfl rfl)
   have h1:v1=.int .u64 b':=intD (hargs 1 _ v1 rfl rfl)
   subst h0;subst h1
   have ha0:0≤a':=ha0
   have ha1:a' < 18446744073709551616:=ha1
   have hb0:0≤b':=hb0
   have hb1:b' < 18446744073709551616:=hb1
   obtain ⟨a,rfl⟩:=Int.eq_ofNat_of_zero_le ha0
   obtain ⟨b,rfl⟩:=Int.eq_ofNat_of_zero_le hb0
   have hmain:Calls Tryz.prog n_math_bits_Mul #[.int .u64 a,.int .u64 b] w fun e w'=>e=.returned (.tuple #[.int .u64 ((a * b / 18446744073709551616:Nat):Int),.int .u64 ((a * b % 18446744073709551616:Nat):Int)])∧w'=w:=
    Any.bits_Mul mul_lay a b (by omega) (by omega) w
   refine hmain.mono ?_
   rintro e w' ⟨rfl,rfl⟩
   refine ⟨_,rfl,Below.refl _ _,?_⟩
   refine (show RetC _ _ F (mulC.res ((a:Int),(b:Int))) _ from ?_)
   refine ⟨[.int .u64 ((a * b / 18446744073709551616:Nat):Int),.int .u64 ((a * b % 18446744073709551616:Nat):Int)],rfl,rfl,fun j x u hx hu=>?_⟩
   match j with
   | 0=>simp at hx hu;subst hx;subst hu;exact DC.int _ _
   | 1=>simp at hx hu;subst hx;subst hu;exact DC.int _ _
   | j + 2=>simp at hx
theorem mul_ok:Good1 Tryz.prog n_math_bits_Mul mulC:=by
 exact ⟨mul_snd,_,Tryz.func124,by decide,rfl⟩
theorem wrapU {n:Int} (h1:0≤n) (h2:n < 18446744073709551616):IntKind.u64.wrap n=n:=by rw [IntKind.wrap_u64];omega
abbrev repR (v:Int) (n k:Nat):List Int:=List.replicate k v ++ List.replicate (n - k) 0
theorem rep_len (v:Int) {n k:Nat} (h:k≤n):(repR v n k).length=n:=by simp [repR];omega
theorem rep_put (v:Int) {n k m:Nat} (hk:k≤n) (hm:m≤k) (hmn:m≤n - k):putL (repR v n k) k (List.replicate m v)=repR v n (k + m):=by
 unfold putL repR
 refine List.ext_getElem? fun i=>?_
 simp only [List.getElem?_append,List.getElem?_replicate,List.getElem?_take,List.getElem?_drop,List.length_replicate,List.length_take,List.length_append]
 repeat' split
 all_goals first|rfl|omega|(congr 1;omega)|skip
theorem rep_take (v:Int) {n k:Nat} (hk:k≤n) (m:Nat):((repR v n k).take k).take m=List.replicate (min m k) v:=by
 unfold repR
 rw [List.take_left' (by simp),List.take_replicate]
theorem rep_step (v:Int) {n k:Nat} (hk:k≤n):putL (repR v n k) k (List.take (k + (n - k) - k) (List.take (k - 0) (repR v n k)))=repR v n (k + min k (n - k)):=by
 rw [Nat.sub_zero,show k + (n - k) - k=n - k by omega,rep_take v hk,show min (n - k) k=min k (n - k) by omega]
 exact rep_put v hk (by omega) (by omega)
theorem rep_start {xs:List Int} {n:Nat} (h1:xs.length=1) (hn:1≤n):putL (List.replicate n (0:Int)) 0 (xs.take n)=repR (xs.getD 0 0) n 1:=by
 obtain ⟨v,rfl⟩:=List.length_eq_one_iff.1 h1
 rw [List.take_of_length_le (by simpa using hn)]
 unfold putL repR
 simp only [List.take_zero,List.nil_append,List.drop_replicate,List.length_cons,List.length_nil,Nat.zero_add]
 rfl
def repC:Con:=mkCon [.sl (.b .int),.int] (fun x=>x.1.length=1∧1≤x.2.1∧x.2.1≤1048576) fun x=>rowI (List.replicate x.2.1.toNat (x.1.getD 0 0))
theorem repeat_ok:Good1 Tryz.prog n_slices_Repeat_int repC:=by
 refine good_ofG (tys:=tyL) (env:=[(n_math_bits_Mul,mulC)]) (envw:=[]) (envd:=[]) [30] [] [] [] [] mixed tys ⟨mul_ok,trivial⟩ trivial trivial Tryz.func86 rfl (by kernel_rfl) (by decide) (by kernel_rfl) ?_
 have hG_:=kpz [(0,[0,1]),(1,[0,1,10]),(2,[0,1]),(3,[0,5,6]),(4,[0,6,26]),(5,[0,6]),(6,[0,7]),(7,[7,8]),(8,[7,8,37]),(9,[7,8]),(10,[4])] [(6,[30]),(7,[30]),(8,[30]),(9,[30]),(10,[30])] [] []
 rintro ⟨(xs:List Int),(c:Int),⟨⟩⟩ ⟨(h1:xs.length=1),(h2:1≤c),(h3:c≤_)⟩
 obtain ⟨n,rfl⟩:=Int.eq_ofNat_of_zero_le (Int.le_trans (by decide) h2)
 have hw1:IntKind.u64.wrap (xs.length:Int)=1:=by rw [h1];exact wrapU (n:=1) (by omega) (by omega)
 have hwi:IntKind.i64.wrap (n:Int)=n:=W_in (by omega) (by omega)
 have hmin:min xs.length n=1:=by omega
 generalize hv:xs.getD 0 0=v
 have hwn:IntKind.u64.wrap (n:Int)=n:=wrapU (by omega) (by omega)
 have hq:(n:Int) / 18446744073709551616=0:=by omega
 have hm:(n:Int) % 18446744073709551616=n:=by omega
 (repeat' (first|(with_reducible first|exact True.intro|refine zQ ?_|(refine zG hG_ ?_;intro K_ hK_)|(refine zR ?_;intro K_ hK_)|(refine hK_ _ _ ?_;try clear hK_ K_)|refine sq_n ?_|refine sq_r ?_|refine sq_e ?_|refine bq_n ?_|refine bq_r ?_|refine bq_q ?_|refine zB ?_|refine zX ?_|refine zT ?_|refine zK ?_|refine gq_n ?_|refine gq_r ?_|refine gq_e ?_|refine lq_n ?_|refine lq_r ?_|refine lq_e ?_|refine bq_e (by decide) ?_)|((with_reducible refine zC (b:=?b_) ?hb_ ?_ ?_);case hb_=>rfl)|((conv=>whnf);first|(with_reducible refine hK_ _ _ ?_;try clear hK_ K_)|(with_reducible refine fun (g_:Sl) (o_:Ow)=>?_)|(with_reducible first|exact True.intro|refine And.intro trivial ?_|refine And.intro ?_ ?_)|exact Nat.le_of_ble_eq_true rfl|exact Or.inl rfl|(intro h_;cases h_)|(intro h_;(try simp only [vS1] at h_))|rfl))) <;> (try (conv=>whnf)) <;> (try first|change (_:Int)≤_|change (_:Nat)≤_) <;> (try simp only [hw1,hwn,hwi,hq,hm,hmin,Int.one_mul,Int.toNat_natCast] at *) <;> (try ((fail_if_success (with_reducible apply Exists.intro));(try dsimp only);(try simp only [vS1]))) <;> (try simp (disch:=omega) only [vS3,Int.add_sub_cancel,tn1,tnp,tnc,vS2] at *)
 all_goals (try (fail_if_success (with_reducible apply Exists.intro));first|with_reducible assumption|omega|exact mdl (by omega)|exact ilo1 (by omega)|exact ilo2 (by omega)|exact ihi1 (by omega) (by omega)|exact ihi2 (by omega) (by omega))
 refine awp'_loopG (α:=Nat) (fun k ver_=>[(8,vInt k)]) (fun k ver_=>[(7,30,false,.row t_int (.b .int) (repR v n k))]) (fun k ver_=>[]) (fun k=>1≤k∧k≤n) (fun k=>n - k) [] [] (1) ?_
 conv=>whnf
 refine ⟨⟨?inv1_,?vals1_,?own1_,?fix1_⟩,?body1_⟩
 case' vals1_=>(repeat' (first|(with_reducible first|exact True.intro|refine And.intro ?_ ?_|refine Head.mk ?_ ?_ ?_ ?_)|((conv=>lhs;whnf);first|(with_reducible first|rfl|exact vInt_s (by omega))|exact rfl)|((conv=>whnf);first|(with_reducible first|exact True.intro|refine And.intro ?_ ?_)))) <;> (try (conv=>lhs;whnf))
 case' own1_=>(repeat' (first|(with_reducible first|exact True.intro|refine And.intro ?_ ?_|refine Head.mk ?_ ?_ ?_ ?_)|((conv=>lhs;whnf);first|(with_reducible first|rfl|exact vInt_s (by omega))|exact rfl)|((conv=>whnf);first|(with_reducible first|exact True.intro|refine And.intro ?_ ?_)))) <;> (try (conv=>lhs;whnf))
 case' fix1_=>(repeat' (first|(with_reducible first|exact True.intro|refine And.intro ?_ ?_|refine Head.mk ?_ ?_ ?_ ?_)|((conv=>lhs;whnf);first|(with_reducible first|rfl|exact vInt_s (by omega))|exact rfl)|((conv=>whnf);first|(with_reducible first|exact True.intro|refine And.intro ?_ ?_)))) <;> (try (conv=>lhs;whnf))
 ·exact congrArg (Own.row _ _) (by rw [← hv];exact rep_start h1 (by omega))
 ·exact congrArg vInt (by omega)
 ·omega
 rintro k g_ o_ v_ ⟨hk1,hkn⟩
 have hl:=rep_len v hkn
 (repeat' (first|(with_reducible first|exact True.intro|refine zQ ?_|(refine zG hG_ ?_;intro K_ hK_)|(refine zR ?_;intro K_ hK_)|(refine hK_ _ _ ?_;try clear hK_ K_)|refine sq_n ?_|refine sq_r ?_|refine sq_e ?_|refine bq_n ?_|refine bq_r ?_|refine bq_q ?_|refine zB ?_|refine zX ?_|refine zT ?_|refine zK ?_|refine gq_n ?_|refine gq_r ?_|refine gq_e ?_|refine lq_n ?_|refine lq_r ?_|refine lq_e ?_|refine bq_e (by decide) ?_)|((with_reducible refine zC (b:=?b_) ?hb_ ?_ ?_);case hb_=>rfl)|((conv=>whnf);first|(with_reducible refine hK_ _ _ ?_;try clear hK_ K_)|(with_reducible refine fun (g_:Sl) (o_:Ow)=>?_)|(with_reducible first|exact True.intro|refine And.intro trivial ?_|refine And.intro ?_ ?_)|exact Nat.le_of_ble_eq_true rfl|exact Or.inl rfl|(intro h_;cases h_)|(intro h_;(try simp only [vS1] at h_))|rfl))) <;> (try (conv=>whnf)) <;> (try first|change (_:Int)≤_|change (_:Nat)≤_) <;> (try ((fail_if_success (with_reducible apply Exists.intro));(try dsimp only);(try simp only [vS1]))) <;> (try simp (disch:=omega) only [vS3,Int.add_sub_cancel,tn1,tnp,tnc,vS2] at *)
 all_goals (try (fail_if_success (with_reducible apply Exists.intro));first|with_reducible assumption|omega|exact mdl (by omega)|exact ilo1 (by omega)|exact ilo2 (by omega)|exact ihi1 (by omega) (by omega)|exact ihi2 (by omega) (by omega))
 ·refine ⟨k + min k (n - k),by omega,by omega,?_⟩
  (repeat' (first|(with_reducible first|exact True.intro|refine And.intro ?_ ?_|refine Head.mk ?_ ?_ ?_ ?_)|((conv=>lhs;whnf);first|(with_reducible first|rfl|exact vInt_s (by omega))|exact rfl)|((conv=>whnf);first|(with_reducible first|exact True.intro|refine And.intro ?_ ?_)))) <;> (try (conv=>lhs;whnf))
  all_goals first
   | exact congrArg vInt (by omega)
   | exact congrArg (Own.row _ _) (rep_step v hkn)
   | skip
 ·rw [show k=n by omega];unfold repR;rw [Nat.sub_self,List.replicate_zero,List.append_nil];rfl
end Go.Proofs.YtnepfcnlngpchaaGreat
namespace Go.Proofs.YtnepfcnlngpchaaGreat
open Go.RowKit Go.Proofs.YtnepfcnlngpchaaGreat.Nm
set_option maxRecDepth 10000
set_option maxHeartbeats 4000000
abbrev t3 (t:Tri) (k:Nat):Int:=[t.1,t.2.1,t.2.2].getD k 0
theorem z1:Int.toNat 1=1:=rfl
theorem z2:Int.toNat 2=2:=rfl
theorem w2 {A B:Int} (hA:-1≤A∧A≤2) (hB:-1≤B∧B≤2):IntKind.i64.wrap (IntKind.i64.wrap (3 - A) - B)=3 - A - B:=by
 have e:IntKind.i64.wrap (3 - A)=3 - A:=W_in (by omega) (by omega)
 rw [e]
 exact W_in (by omega) (by omega)
theorem w1 {A B:Int} (hA:-3≤A∧A≤3) (hB:-1≤B∧B≤2):IntKind.i64.wrap (A - B)=A - B:=W_in (by omega) (by omega)
def selTo (f:Nat→Bool) (k:Nat):List Int:=((List.range k).filter f).map fun j:Nat=>(j:Int)
theorem selTo_succ (f:Nat→Bool) (k:Nat):selTo f (k + 1)=selTo f k ++ (if f k then [(k:Int)] else []):=by
 unfold selTo
 rw [List.range_succ,List.filter_append,List.map_append]
 congr 1
 rw [List.filter_cons]
 by_cases h:f k=true
 ·rw [if_pos h,if_pos h];rfl
 ·rw [if_neg h,if_neg h];rfl
theorem selTo_yes {f:Nat→Bool} {k:Nat} (h:f k=true):selTo f k ++ [(k:Int)]=selTo f (k + 1):=by rw [selTo_succ,if_pos h]
theorem selTo_no {f:Nat→Bool} {k:Nat} (h:f k=false):selTo f k=selTo f (k + 1):=by rw [selTo_succ,h];simp
theorem selTo_len (f:Nat→Bool) (k:Nat):(selTo f k).length≤k:=by
 unfold selTo
 rw [List.length_map]
 exact Nat.le_trans (List.length_filter_le _ _) (by simp)
def leafAt (l:List Tri) (j:Nat):Bool:=decide ((besTo l j l.length).length=1)
def leafM (xs:List Pt):List Int:=selTo (leafAt (trisM xs)) (trisM xs).length
def leafC:Con:=mkCon [.room] (fun x=>x.1.length≤1048576) fun x=>rowI (leafM x.1)
theorem iLeafTriangles_ok:Good1 Tryz.prog n_impl_LeafTriangles leafC:=by
 refine good_ofG (tys:=tyL) (env:=[(n_impl_TrianglesOf,trisC),(n_impl_beside,besideC)]) (envw:=[]) (envd:=[]) [10] [] [] [] [] mixed tys ⟨iTrianglesOf_ok,beside_ok,trivial⟩ trivial trivial Tryz.func28 rfl (by kernel_rfl) (by decide) (by kernel_rfl) ?_
 have hG_:=kpz [(0,[1]),(1,[3]),(2,[3,9]),(3,[2]),(4,[3,4]),(5,[3,4,12,13]),(6,[3,4,12,13,14]),(7,[3,4,5,12,13]),(8,[3,4,5,12,13,20]),(9,[3,4,12,13]),(10,[3,4,12,13]),(11,[2])] [(4,[10]),(5,[10]),(6,[10]),(7,[10]),(8,[10]),(9,[10]),(10,[10]),(11,[10])] [] []
 rintro ⟨(xs:List Pt),⟨⟩⟩ (h1:xs.length≤_)
 have htl:=tris_len xs
 (repeat' (first|(with_reducible first|exact True.intro|refine zQ ?_|(refine zG hG_ ?_;intro K_ hK_)|(refine zR ?_;intro K_ hK_)|(refine hK_ _ _ ?_;try clear hK_ K_)|refine sq_n ?_|refine sq_r ?_|refine sq_e ?_|refine bq_n ?_|refine bq_r ?_|refine bq_q ?_|refine zB ?_|refine zX ?_|refine zT ?_|refine zK ?_|refine gq_n ?_|refine gq_r ?_|refine gq_e ?_|refine lq_n ?_|refine lq_r ?_|refine lq_e ?_|refine bq_e (by decide) ?_)|((with_reducible refine zC (b:=?b_) ?hb_ ?_ ?_);case hb_=>rfl)|((conv=>whnf);first|(with_reducible refine hK_ _ _ ?_;try clear hK_ K_)|(with_reducible refine fun (g_:Sl) (o_:Ow)=>?_)|(with_reducible first|exact True.intro|refine And.intro trivial ?_|refine And.intro ?_ ?_)|exact Nat.le_of_ble_eq_true rfl|exact Or.inl rfl|(intro h_;cases h_)|(intro h_;(try simp only [vS1] at h_))|rfl))) <;> (try (conv=>whnf)) <;> (try first|change (_:Int)≤_|change (_:Nat)≤_) <;> (try ((fail_if_success (with_reducible apply Exists.intro));(try dsimp only);(try simp only [vS1]))) <;> (try simp (disch:=omega) only [vS3,Int.add_sub_cancel,tn1,tnp,tnc,vS2] at *)
 all_goals (try (fail_if_success (with_reducible apply Exists.intro));first|with_reducible assumption|omega|exact mdl (by omega)|exact ilo1 (by omega)|exact ilo2 (by omega)|exact ihi1 (by omega) (by omega)|exact ihi2 (by omega) (by omega))
 ·unfold leafM;rw [h_];rfl
 refine awp'_loopG (α:=Nat) (fun k ver_=>[(13,vInt k)]) (fun k ver_=>[(4,10,false,.row t_int (.b .int) (selTo (leafAt (trisM xs)) k))]) (fun k ver_=>[]) (fun k=>k≤(trisM xs).length) (fun k=>(trisM xs).length - k) [3,12] [] (0) ?_
 conv=>whnf
 refine ⟨⟨?inv5_,?vals5_,?own5_,?fix5_⟩,?body5_⟩
 case' vals5_=>(repeat' (first|(with_reducible first|exact True.intro|refine And.intro ?_ ?_|refine Head.mk ?_ ?_ ?_ ?_)|((conv=>lhs;whnf);first|(with_reducible first|rfl|exact vInt_s (by omega))|exact rfl)|((conv=>whnf);first|(with_reducible first|exact True.intro|refine And.intro ?_ ?_)))) <;> (try (conv=>lhs;whnf))
 case' own5_=>(repeat' (first|(with_reducible first|exact True.intro|refine And.intro ?_ ?_|refine Head.mk ?_ ?_ ?_ ?_)|((conv=>lhs;whnf);first|(with_reducible first|rfl|exact vInt_s (by omega))|exact rfl)|((conv=>whnf);first|(with_reducible first|exact True.intro|refine And.intro ?_ ?_)))) <;> (try (conv=>lhs;whnf))
 case' fix5_=>(repeat' (first|(with_reducible first|exact True.intro|refine And.intro ?_ ?_|refine Head.mk ?_ ?_ ?_ ?_)|((conv=>lhs;whnf);first|(with_reducible first|rfl|exact vInt_s (by omega))|exact rfl)|((conv=>whnf);first|(with_reducible first|exact True.intro|refine And.intro ?_ ?_)))) <;> (try (conv=>lhs;whnf))
 ·exact Nat.zero_le _
 rintro k g_ o_ v_ hk
 have hsl:=selTo_len (leafAt (trisM xs)) k
 have hnk:k < (trisM xs).length→neighM2 xs k=besTo (trisM xs) k (trisM xs).length:=fun h=>by unfold neighM2;rw [if_pos (btw_iff.2 ⟨by omega,by omega⟩)]
 (repeat' (first|(with_reducible first|exact True.intro|refine zQ ?_|(refine zG hG_ ?_;intro K_ hK_)|(refine zR ?_;intro K_ hK_)|(refine hK_ _ _ ?_;try clear hK_ K_)|refine sq_n ?_|refine sq_r ?_|refine sq_e ?_|refine bq_n ?_|refine bq_r ?_|refine bq_q ?_|refine zB ?_|refine zX ?_|refine zT ?_|refine zK ?_|refine gq_n ?_|refine gq_r ?_|refine gq_e ?_|refine lq_n ?_|refine lq_r ?_|refine lq_e ?_|refine bq_e (by decide) ?_)|((with_reducible refine zC (b:=?b_) ?hb_ ?_ ?_);case hb_=>rfl)|((conv=>whnf);first|(with_reducible refine hK_ _ _ ?_;try clear hK_ K_)|(with_reducible refine fun (g_:Sl) (o_:Ow)=>?_)|(with_reducible first|exact True.intro|refine And.intro trivial ?_|refine And.intro ?_ ?_)|exact Nat.le_of_ble_eq_true rfl|exact Or.inl rfl|(intro h_;cases h_)|(intro h_;(try simp only [vS1] at h_))|rfl))) <;> (try (conv=>whnf)) <;> (try first|change (_:Int)≤_|change (_:Nat)≤_) <;> (try ((fail_if_success (with_reducible apply Exists.intro));(try dsimp only);(try simp only [vS1]))) <;> (try simp (disch:=omega) only [vS3,Int.add_sub_cancel,tn1,tnp,tnc,vS2] at *)
 all_goals (try (fail_if_success (with_reducible apply Exists.intro));first|with_reducible assumption|omega|exact mdl (by omega)|exact ilo1 (by omega)|exact ilo2 (by omega)|exact ihi1 (by omega) (by omega)|exact ihi2 (by omega) (by omega))
 ·refine ⟨k + 1,by omega,by omega,?_⟩
  (repeat' (first|(with_reducible first|exact True.intro|refine And.intro ?_ ?_|refine Head.mk ?_ ?_ ?_ ?_)|((conv=>lhs;whnf);first|(with_reducible first|rfl|exact vInt_s (by omega))|exact rfl)|((conv=>whnf);first|(with_reducible first|exact True.intro|refine And.intro ?_ ?_)))) <;> (try (conv=>lhs;whnf))
  exact congrArg (Own.row t_int (.b .int)) (selTo_yes (decide_eq_true (by omega)))
 ·refine ⟨k + 1,by omega,by omega,?_⟩
  (repeat' (first|(with_reducible first|exact True.intro|refine And.intro ?_ ?_|refine Head.mk ?_ ?_ ?_ ?_)|((conv=>lhs;whnf);first|(with_reducible first|rfl|exact vInt_s (by omega))|exact rfl)|((conv=>whnf);first|(with_reducible first|exact True.intro|refine And.intro ?_ ?_)))) <;> (try (conv=>lhs;whnf))
  exact congrArg (Own.row t_int (.b .int)) (selTo_no (decide_eq_false (by omega)))
 ·exact congrArg some (show selTo _ _=selTo _ _ by rw [show k=(trisM xs).length by omega])
def IsPar (m:Nat) (par:Nat→Nat):Prop:=∀ i,i + 1 < m→i < par i∧par i < m
def pthF (par:Nat→Nat):Nat→Nat→Nat→List Nat
 | 0,v,a=>[a]
 | f + 1,v,a=>if v=a then [a] else if v < a then v :: pthF par f (par v) a else pthF par f v (par a) ++ [a]
theorem pthF_succ {m:Nat} {par:Nat→Nat} (h:IsPar m par):∀ (f v a:Nat),v < m→a < m→(m - v) + (m - a)≤f→pthF par f v a=pthF par (f + 1) v a
 | 0,v,a,hv,ha,hf=>absurd hf (by omega)
 | f + 1,v,a,hv,ha,hf=>by
  rw [pthF,pthF]
  split
  ·rfl
  ·split
   ·have:=h v (by omega)
    rw [pthF_succ h f (par v) a this.2 ha (by omega)]
   ·have:=h a (by omega)
    rw [pthF_succ h f v (par a) hv this.2 (by omega)]
def pth (m:Nat) (par:Nat→Nat) (v a:Nat):List Nat:=pthF par (2 * m) v a
theorem pth_self {m:Nat} {par:Nat→Nat} {v:Nat} (hv:v < m):pth m par v v=[v]:=by
 unfold pth
 rw [show 2 * m=(2 * m - 1) + 1 by omega,pthF,if_pos rfl]
theorem pth_lt {m:Nat} {par:Nat→Nat} (h:IsPar m par) {v a:Nat} (hva:v < a) (ha:a < m):pth m par v a=v :: pth m par (par v) a:=by
 unfold pth
 rw [pthF_succ h (2 * m) v a (by omega) ha (by omega),pthF,if_neg (by omega),if_pos hva]
theorem pth_gt {m:Nat} {par:Nat→Nat} (h:IsPar m par) {v a:Nat} (hva:a < v) (hv:v < m):pth m par v a=pth m par v (par a) ++ [a]:=by
 unfold pth
 rw [pthF_succ h (2 * m) v a hv (by omega) (by omega),pthF,if_neg (by omega),if_neg (by omega)]
theorem pth_ind {m:Nat} {par:Nat→Nat} (h:IsPar m par) {Q:Nat→Nat→Prop} (h0:∀ v,v < m→Q v v) (h1:∀ v a,v < a→a < m→Q (par v) a→Q v a) (h2:∀ v a,a < v→v < m→Q v (par a)→Q v a):∀ v a,v < m→a < m→Q v a:=by
 have:∀ n v a,v < m→a < m→(m - v) + (m - a)≤n→Q v a:=by
  intro n
  induction n with
  | zero=>intro v a hv ha hn;omega
  | succ n ih=>
   intro v a hv ha hn
   rcases Nat.lt_trichotomy v a with e|e|e
   ·have:=h v (by omega)
    exact h1 v a e ha (ih _ _ this.2 ha (by omega))
   ·subst e;exact h0 v hv
   ·have:=h a (by omega)
    exact h2 v a e hv (ih _ _ hv this.2 (by omega))
 exact fun v a hv ha=>this _ v a hv ha (Nat.le_refl _)
theorem pth_rev {m:Nat} {par:Nat→Nat} (h:IsPar m par):∀ v a,v < m→a < m→(pth m par v a).reverse=pth m par a v:=by
 refine pth_ind h (fun v hv=>by rw [pth_self hv];rfl) (fun v a hva ha ih=>?_) (fun v a hva hv ih=>?_)
 ·rw [pth_lt h hva ha,pth_gt h hva ha,List.reverse_cons,ih]
 ·rw [pth_gt h hva hv,pth_lt h hva hv,List.reverse_append,ih];rfl
theorem pth_hd {m:Nat} {par:Nat→Nat} (h:IsPar m par):∀ v a,v < m→a < m→∃ r,pth m par v a=v :: r:=by
 refine pth_ind h (fun v hv=>⟨[],pth_self hv⟩) (fun v a hva ha ih=>⟨_,pth_lt h hva ha⟩) (fun v a hva hv ⟨r,ih⟩=>⟨r ++ [a],by rw [pth_gt h hva hv,ih];rfl⟩)
theorem pth_ge {m:Nat} {par:Nat→Nat} (h:IsPar m par):∀ v a,v < m→a < m→∀ x∈pth m par v a,min v a≤x∧x < m:=by
 refine pth_ind h (fun v hv x hx=>?_) (fun v a hva ha ih x hx=>?_) (fun v a hva hv ih x hx=>?_)
 ·rw [pth_self hv,List.mem_singleton] at hx;omega
 ·have:=h v (by omega)
  rw [pth_lt h hva ha] at hx
  rcases List.mem_cons.1 hx with rfl|hx
  ·omega
  ·have:=ih x hx;omega
 ·have:=h a (by omega)
  rw [pth_gt h hva hv] at hx
  rcases List.mem_append.1 hx with hx|hx
  ·have:=ih x hx;omega
  ·rw [List.mem_singleton] at hx;omega
theorem pth_len {m:Nat} {par:Nat→Nat} (h:IsPar m par) {v a:Nat} (hv:v < m) (ha:a < m):0 < (pth m par v a).length:=by
 obtain ⟨r,e⟩:=pth_hd h v a hv ha
 rw [e];simp
def TAdj (m:Nat) (par:Nat→Nat) (u k:Nat):Prop:=(u + 1 < m∧k=par u)∨(k + 1 < m∧u=par k)
theorem pth_tail {m:Nat} {par:Nat→Nat} (h:IsPar m par):∀ v a,v < m→a < m→v≠a→∃ y r,y < m∧pth m par v a=v :: y :: r∧pth m par y a=y :: r∧TAdj m par v y:=by
 refine pth_ind h (fun v hv hne=>absurd rfl hne) (fun v a hva ha ih hne=>?_) (fun v a hva hv ih hne=>?_)
 ·have hp:=h v (by omega)
  obtain ⟨r,e⟩:=pth_hd h (par v) a hp.2 ha
  exact ⟨par v,r,hp.2,by rw [pth_lt h hva ha,e],e,.inl ⟨by omega,rfl⟩⟩
 ·have hp:=h a (by omega)
  by_cases e:v=par a
  ·refine ⟨a,[],by omega,by rw [pth_gt h hva hv,← e,pth_self hv];rfl,pth_self (by omega),.inr ⟨by omega,e⟩⟩
  ·obtain ⟨y,r,y1,y2,y3,y4⟩:=ih e
   have hy:y∈pth m par v (par a):=by rw [y2];simp
   have hge:=(pth_ge h v (par a) hv hp.2 y hy).1
   refine ⟨y,r ++ [a],y1,by rw [pth_gt h hva hv,y2];rfl,by rw [pth_gt h (by omega) y1,y3];rfl,y4⟩
theorem pth_edge {m:Nat} {par:Nat→Nat} (h:IsPar m par) {u:Nat} (hu:u + 1 < m):∀ n a,a < m→m - a≤n→pth m par u a=u :: pth m par (par u) a∨pth m par (par u) a=par u :: pth m par u a
 | 0,a,ha,hn=>absurd hn (by omega)
 | n + 1,a,ha,hn=>by
  have hp:=h u hu
  rcases Nat.lt_trichotomy u a with e|e|e
  ·exact .inl (pth_lt h e ha)
  ·subst e
   exact .inr (by rw [pth_gt h hp.1 hp.2,pth_self hp.2,pth_self ha];rfl)
  ·have ha':=h a (by omega)
   rcases pth_edge h hu n (par a) ha'.2 (by omega) with i|i
   ·exact .inl (by rw [pth_gt h e (by omega),pth_gt h (show a < par u by omega) hp.2,i];rfl)
   ·exact .inr (by rw [pth_gt h e (by omega),pth_gt h (show a < par u by omega) hp.2,i];rfl)
theorem TAdj.lt {m:Nat} {par:Nat→Nat} (h:IsPar m par) {u k:Nat} (e:TAdj m par u k):u < m∧k < m:=by
 rcases e with ⟨e1,e2⟩|⟨e1,e2⟩
 ·have:=h u e1;omega
 ·have:=h k e1;omega
theorem TAdj.symm {m:Nat} {par:Nat→Nat} {u k:Nat} (e:TAdj m par u k):TAdj m par k u:=e.elim .inr .inl
theorem TAdj.way {m:Nat} {par:Nat→Nat} (h:IsPar m par) {u k a:Nat} (ha:a < m) (e:TAdj m par u k):pth m par u a=u :: pth m par k a∨pth m par k a=k :: pth m par u a:=by
 rcases e with ⟨e1,rfl⟩|⟨e1,rfl⟩
 ·exact pth_edge h e1 _ a ha (Nat.le_refl _)
 ·exact (pth_edge h e1 _ a ha (Nat.le_refl _)).symm
abbrev gV (fr:List Int) (v:Nat):Int:=fr.getD v 0
structure Bfs (m:Nat) (par:Nat→Nat) (a:Nat) (fr:List Int) (W:Nat→Prop):Prop where
 len:fr.length=m
 root:gV fr a=a
 up:∀ v,v < m→v≠a→0≤gV fr v→∃ w,w < m∧gV fr v=(w:Int)∧0≤gV fr w∧pth m par v a=v :: pth m par w a
 cl:∀ v,v < m→0≤gV fr v→W v∨∀ k,TAdj m par v k→0≤gV fr k
theorem Bfs.imp {m:Nat} {par:Nat→Nat} {a:Nat} {fr:List Int} {W W':Nat→Prop} (h:Bfs m par a fr W) (hW:∀ v,v < m→W v→W' v∨∀ k,TAdj m par v k→0≤gV fr k):Bfs m par a fr W':=
 ⟨h.len,h.root,h.up,fun v hv h0=>(h.cl v hv h0).elim (fun w=>hW v hv w) .inr⟩
theorem gV_set {fr:List Int} {k v:Nat} {x:Int} (hk:k < fr.length):gV (fr.set k x) v=if v=k then x else gV fr v:=by
 unfold gV
 by_cases h:v=k
 ·subst h;rw [if_pos rfl,List.getD_eq_getElem?_getD,List.getElem?_set_self hk];rfl
 ·rw [if_neg h,List.getD_eq_getElem?_getD,List.getElem?_set_ne (fun e=>h e.symm),← List.getD_eq_getElem?_getD]
theorem bfs_start {m:Nat} {par:Nat→Nat} {a:Nat} (ha:a < m) {W:Nat→Prop} (hW:W a):Bfs m par a ((List.replicate m (-1:Int)).set a a) W:=by
 have hg:∀ v,v < m→gV ((List.replicate m (-1:Int)).set a a) v=if v=a then (a:Int) else -1:=fun v hv=>by
  rw [gV_set (by simpa using ha)]
  congr 1
  unfold gV
  rw [getD_lt _ (by simpa using hv),List.getElem_replicate]
 refine ⟨by simp,by rw [hg a ha,if_pos rfl],fun v hv hne h0=>?_,fun v hv h0=>?_⟩
 ·rw [hg v hv,if_neg hne] at h0;omega
 ·by_cases e:v=a
  ·subst e;exact .inl hW
  ·rw [hg v hv,if_neg e] at h0;omega
theorem Bfs.step {m:Nat} {par:Nat→Nat} {a:Nat} {fr:List Int} {W W':Nat→Prop} (h:Bfs m par a fr W) (hp:IsPar m par) (ha:a < m) {u k:Nat} (hu:0≤gV fr u) (e:TAdj m par u k) (hk:gV fr k < 0) (hW:∀ v,W v→W' v) (hWk:W' k):Bfs m par a (fr.set k u) W':=by
 obtain ⟨hum,hkm⟩:=e.lt hp
 have hkl:k < fr.length:=by rw [h.len];exact hkm
 have hka:k≠a:=fun e=>by rw [e,h.root] at hk;omega
 have hmono:∀ v,0≤gV fr v→0≤gV (fr.set k u) v:=fun v hv=>by rw [gV_set hkl];split <;> omega
 have huk:u≠k:=fun e=>by rw [e] at hu;omega
 refine ⟨by rw [List.length_set,h.len],by rw [gV_set hkl,if_neg (Ne.symm hka),h.root],fun v hv hne h0=>?_,fun v hv h0=>?_⟩
 ·by_cases hvk:v=k
  ·subst hvk
   refine ⟨u,hum,by rw [gV_set hkl,if_pos rfl],hmono u hu,?_⟩
   rcases e.way hp ha with i|i
   ·exfalso
    obtain ⟨r,hr⟩:=pth_hd hp v a hkm ha
    by_cases hua:u=a
    ·subst hua
     rw [pth_self hum,hr] at i
     cases i
    ·obtain ⟨w,w1,w2,w3,w4⟩:=h.up u hum hua hu
     obtain ⟨r',hr'⟩:=pth_hd hp w a w1 ha
     rw [w4,hr,hr'] at i
     injection i with _ i
     injection i with i _
     rw [i] at w3
     omega
   ·exact i
  ·rw [gV_set hkl,if_neg hvk] at h0
   obtain ⟨w,w1,w2,w3,w4⟩:=h.up v hv hne h0
   exact ⟨w,w1,by rw [gV_set hkl,if_neg hvk,w2],hmono w w3,w4⟩
 ·by_cases hvk:v=k
  ·subst hvk;exact .inl hWk
  ·rw [gV_set hkl,if_neg hvk] at h0
   rcases h.cl v hv h0 with i|i
   ·exact .inl (hW v i)
   ·exact .inr fun j hj=>hmono j (i j hj)
theorem Bfs.all {m:Nat} {par:Nat→Nat} {a:Nat} {fr:List Int} {W:Nat→Prop} (h:Bfs m par a fr W) (hp:IsPar m par) (ha:a < m) (hW:∀ v,v < m→¬ W v):∀ v,v < m→0≤gV fr v:=by
 have:∀ n v,v < m→(pth m par v a).length≤n→0≤gV fr v:=by
  intro n
  induction n with
  | zero=>intro v hv hn;have:=pth_len hp hv ha;omega
  | succ n ih=>
   intro v hv hn
   by_cases e:v=a
   ·subst e;rw [h.root];omega
   ·obtain ⟨y,r,y1,y2,y3,y4⟩:=pth_tail hp v a hv ha e
    have hy:=ih y y1 (by rw [y3];rw [y2] at hn;simpa using hn)
    rcases h.cl y y1 hy with i|i
    ·exact absurd i (hW y y1)
    ·exact i v y4.symm
 exact fun v hv=>this _ v hv (Nat.le_refl _)
def unf (fr:List Int):Nat:=fr.countP fun x=>decide (x < 0)
theorem unf_set {u:Int} (hu:0≤u):∀ {fr:List Int} {k:Nat},k < fr.length→gV fr k < 0→unf (fr.set k u) + 1=unf fr
 | [],k,hk,h0=>absurd hk (by simp)
 | x :: fr,0,hk,h0=>by
  have h0:x < 0:=h0
  unfold unf
  rw [List.set_cons_zero,List.countP_cons,List.countP_cons,if_neg (by simpa using hu),if_pos (by simpa using h0)]
 | x :: fr,k + 1,hk,h0=>by
  have:=unf_set hu (fr:=fr) (k:=k) (by simpa using hk) h0
  unfold unf at this ⊢
  rw [List.set_cons_succ,List.countP_cons,List.countP_cons]
  omega
theorem unf_start {m a:Nat} (ha:a < m):unf ((List.replicate m (-1:Int)).set a a) + 1=m:=by
 rw [unf_set (by omega) (by simpa using ha) (by unfold gV;rw [getD_lt _ (by simpa using ha),List.getElem_replicate];omega)]
 unfold unf
 rw [List.countP_replicate]
 rfl
theorem inT_triS {x p c q:Int}:inT x (triS p c q)=true↔x=p∨x=c∨x=q:=by
 rw [inT_iff]
 rcases triS_six p c q with e|e|e|e|e|e <;> rw [e] <;> simp only <;> omega
theorem nxt_erase {l:List Int} {i k:Nat} (h4:3 < l.length) (hi:i < l.length) (hk:k < l.length) (hki:k≠i) (hni:nxtN l.length k≠i) :
  ∃ j,j < (l.eraseIdx i).length∧gI (l.eraseIdx i) j=gI l k∧gI (l.eraseIdx i) (nxtN (l.eraseIdx i).length j)=gI l (nxtN l.length k):=by
 have hlen:=List.length_eraseIdx_of_lt hi
 rcases Nat.lt_or_ge k i with h1|h1
 ·refine ⟨k,by omega,by rw [gI_erase (by omega),if_pos h1],?_⟩
  rcases nxt_eq hk with ⟨g1,g2⟩|⟨g1,g2⟩
  ·omega
  ·rcases nxt_eq (n:=(l.eraseIdx i).length) (i:=k) (by omega) with ⟨g3,g4⟩|⟨g3,g4⟩
   ·omega
   ·rw [g2,g4,gI_erase (by omega),if_pos (by omega)]
 ·refine ⟨k - 1,by omega,by rw [gI_erase (by omega),if_neg (by omega),show k - 1 + 1=k by omega],?_⟩
  rcases nxt_eq hk with ⟨g1,g2⟩|⟨g1,g2⟩
  ·rcases nxt_eq (n:=(l.eraseIdx i).length) (i:=k - 1) (by omega) with ⟨g3,g4⟩|⟨g3,g4⟩
   ·rw [g2,g4,gI_erase (by omega),if_pos (by omega)]
   ·omega
  ·rcases nxt_eq (n:=(l.eraseIdx i).length) (i:=k - 1) (by omega) with ⟨g3,g4⟩|⟨g3,g4⟩
   ·omega
   ·rw [g2,g4,gI_erase (by omega),if_neg (by omega)];congr 1;omega
theorem cut_erase {l:List Int} {i:Nat} (h4:3 < l.length) (hi:i < l.length) :
  ∃ k,k < (l.eraseIdx i).length∧gI (l.eraseIdx i) k=gI l (prvN l.length i)∧gI (l.eraseIdx i) (nxtN (l.eraseIdx i).length k)=gI l (nxtN l.length i):=by
 have hlen:=List.length_eraseIdx_of_lt hi
 rcases prv_eq hi with ⟨h1,h2⟩|⟨h1,h2⟩
 ·refine ⟨l.length - 2,by omega,by rw [gI_erase (by omega),if_neg (by omega),h2];congr 1;omega,?_⟩
  rcases nxt_eq (n:=(l.eraseIdx i).length) (i:=l.length - 2) (by omega) with ⟨g1,g2⟩|⟨g1,g2⟩
  ·rcases nxt_eq hi with ⟨g3,g4⟩|⟨g3,g4⟩
   ·omega
   ·rw [g2,g4,gI_erase (by omega),if_neg (by omega)];congr 1;omega
  ·omega
 ·refine ⟨i - 1,by omega,by rw [gI_erase (by omega),if_pos (by omega),h2],?_⟩
  rcases nxt_eq hi with ⟨g3,g4⟩|⟨g3,g4⟩
  ·rcases nxt_eq (n:=(l.eraseIdx i).length) (i:=i - 1) (by omega) with ⟨g1,g2⟩|⟨g1,g2⟩
   ·rw [g2,g4,gI_erase (by omega),if_pos (by omega)]
   ·omega
  ·rcases nxt_eq (n:=(l.eraseIdx i).length) (i:=i - 1) (by omega) with ⟨g1,g2⟩|⟨g1,g2⟩
   ·omega
   ·rw [g2,g4,gI_erase (by omega),if_neg (by omega)];congr 1;omega
theorem Cutd.corner {n:Nat} {l:List Int} {ts:List Tri} (h:Cutd l ts) (hl:Left n l):∀ t∈ts,∀ x,inT x t=true→x∈l:=by
 induction h with
 | last h3=>
  intro t ht x hx
  rw [List.mem_singleton.1 ht,inT_triS] at hx
  rcases hx with rfl|rfl|rfl <;> exact gI_mem (by omega)
 | step h4 hi hr ih=>
  rename_i l ts i
  intro t ht x hx
  rcases List.mem_cons.1 ht with rfl|ht
  ·unfold triAt at hx
   rw [inT_triS] at hx
   rcases hx with rfl|rfl|rfl
   ·exact gI_mem (prv_lt (by omega))
   ·exact gI_mem hi
   ·exact gI_mem (nxt_lt (by omega))
  ·exact ((hl.mem_erase hi).1 (ih (hl.erase h4 hi) t ht x hx)).1
theorem Cutd.one {n:Nat} {l:List Int} {ts:List Tri} (h:Cutd l ts) (hl:Left n l):∀ k,k < l.length→∃ j,j < ts.length∧(∀ j',j' < ts.length→((inT (gI l k) (ts.getD j' (0,0,0))=true∧inT (gI l (nxtN l.length k)) (ts.getD j' (0,0,0))=true)↔j'=j)):=by
 induction h with
 | last h3=>
  rename_i l
  intro k hk
  refine ⟨0,by simp,fun j' hj'=>⟨fun _=>by simpa using hj',fun e=>?_⟩⟩
  subst e
  show inT _ (triS _ _ _)=true∧inT _ (triS _ _ _)=true
  rw [inT_triS,inT_triS]
  have:k=0∨k=1∨k=2:=by omega
  rw [h3]
  rcases this with rfl|rfl|rfl
  ·exact ⟨.inl rfl,.inr (.inl rfl)⟩
  ·exact ⟨.inr (.inl rfl),.inr (.inr rfl)⟩
  ·exact ⟨.inr (.inr rfl),.inl rfl⟩
 | step h4 hi hr ih=>
  rename_i l ts i
  intro k hk
  have hnk:=nxt_lt (n:=l.length) (i:=k) (by omega)
  have hlen:=List.length_eraseIdx_of_lt hi
  have hno:∀ j',j' < ts.length→inT (gI l i) (ts.getD j' (0,0,0))=true→False:=fun j' hj' hx=>by
   rw [getD_lt _ hj'] at hx
   exact ((hl.mem_erase hi).1 (hr.corner (hl.erase h4 hi) _ (List.getElem_mem _) _ hx)).2 rfl
  by_cases hki:k=i
  ·subst hki
   refine ⟨0,by simp,fun j' hj'=>⟨fun hx=>?_,fun e=>?_⟩⟩
   ·cases j' with
    | zero=>rfl
    | succ j'=>exact (hno j' (by simpa using hj') hx.1).elim
   ·subst e
    show inT _ (triS _ _ _)=true∧inT _ (triS _ _ _)=true
    rw [inT_triS,inT_triS]
    exact ⟨.inr (.inl rfl),.inr (.inr rfl)⟩
  ·by_cases hni:nxtN l.length k=i
   ·refine ⟨0,by simp,fun j' hj'=>⟨fun hx=>?_,fun e=>?_⟩⟩
    ·cases j' with
     | zero=>rfl
     | succ j'=>exact (hno j' (by simpa using hj') (by rw [← hni];exact hx.2)).elim
    ·subst e
     have hkp:k=prvN l.length i:=by
      rcases nxt_eq hk with ⟨g1,g2⟩|⟨g1,g2⟩ <;> rcases prv_eq hi with ⟨g3,g4⟩|⟨g3,g4⟩ <;> omega
     show inT _ (triS _ _ _)=true∧inT _ (triS _ _ _)=true
     rw [inT_triS,inT_triS,hni,hkp]
     exact ⟨.inl rfl,.inr (.inl rfl)⟩
   ·obtain ⟨j0,j1,j2,j3⟩:=nxt_erase h4 hi hk hki hni
    obtain ⟨j,hj,hu⟩:=ih (hl.erase h4 hi) j0 j1
    rw [j2,j3] at hu
    refine ⟨j + 1,by simpa using hj,fun j' hj'=>?_⟩
    cases j' with
    | zero=>
     refine ⟨fun hx=>?_,fun e=>by omega⟩
     exfalso
     have hx:inT _ (triS _ _ _)=true∧inT _ (triS _ _ _)=true:=hx
     rw [inT_triS,inT_triS] at hx
     have hp:=prv_lt (n:=l.length) (i:=i) (by omega)
     have hq:=nxt_lt (n:=l.length) (i:=i) (by omega)
     have e1:k=prvN l.length i∨k=nxtN l.length i:=by
      rcases hx.1 with e|e|e
      ·exact .inl (hl.inj hk hp e)
      ·exact absurd (hl.inj hk hi e) hki
      ·exact .inr (hl.inj hk hq e)
     have e2:nxtN l.length k=prvN l.length i∨nxtN l.length k=nxtN l.length i:=by
      rcases hx.2 with e|e|e
      ·exact .inl (hl.inj hnk hp e)
      ·exact absurd (hl.inj hnk hi e) hni
      ·exact .inr (hl.inj hnk hq e)
     rcases nxt_eq hk with ⟨g1,g2⟩|⟨g1,g2⟩ <;> rcases prv_eq hi with ⟨g3,g4⟩|⟨g3,g4⟩ <;> rcases nxt_eq hi with ⟨g5,g6⟩|⟨g5,g6⟩ <;> omega
    | succ j'=>exact (hu j' (by simpa using hj')).trans ⟨fun e=>by omega,fun e=>by omega⟩
theorem tris_later {xs:List Pt} {i:Nat} (hi:i + 1 < (trisM xs).length):∃ j,i < j∧j < (trisM xs).length∧∀ j',i < j'→j' < (trisM xs).length→(commonM ((trisM xs).getD i (0,0,0)) ((trisM xs).getD j' (0,0,0))=2↔j'=j):=by
 rcases tris_cutd xs with e|⟨hr,hd⟩
 ·rw [e] at hi;simp at hi
 ·have hL:=left_all (room_len hr).1
  obtain ⟨l,hl,hc⟩:=hd.drop hL i (by omega)
  have he:(trisM xs).drop i=(trisM xs).getD i (0,0,0) :: (trisM xs).drop (i + 1):=by
   rw [List.drop_eq_getElem_cons (by omega:i < (trisM xs).length),getD_lt _ (by omega)]
  rw [he] at hc
  generalize hts:(trisM xs).drop (i + 1)=ts at hc
  have htl:ts.length=(trisM xs).length - (i + 1):=by rw [← hts,List.length_drop]
  have hgd:∀ j,ts.getD j (0,0,0)=(trisM xs).getD (i + 1 + j) (0,0,0):=fun j=>by
   rw [← hts,List.getD_eq_getElem?_getD,List.getElem?_drop,← List.getD_eq_getElem?_getD]
  generalize (trisM xs).getD i (0,0,0)=t0 at *
  cases hc with
  | last h3=>simp only [List.length_nil] at htl;omega
  | step h4 hi' hr'=>
   rename_i c
   obtain ⟨k,k1,k2,k3⟩:=cut_erase h4 hi'
   obtain ⟨j,hj,hu⟩:=hr'.one (hl.erase h4 hi') k k1
   rw [k2,k3] at hu
   refine ⟨i + 1 + j,by omega,by omega,fun j' h1 h2=>?_⟩
   have hjj:=hu (j' - (i + 1)) (by omega)
   have hno:inT (gI l c) (ts.getD (j' - (i + 1)) (0,0,0))=true→False:=fun hx=>by
    rw [getD_lt _ (show j' - (i + 1) < ts.length by omega)] at hx
    exact ((hl.mem_erase hi').1 (hr'.corner (hl.erase h4 hi') _ (List.getElem_mem _) _ hx)).2 rfl
   rw [hgd,show i + 1 + (j' - (i + 1))=j' by omega] at hjj hno
   generalize (trisM xs).getD j' (0,0,0)=t1 at *
   have hcm:commonM (triAt l c) t1=2↔(inT (gI l (prvN l.length c)) t1=true∧inT (gI l (nxtN l.length c)) t1=true):=by
    rw [common_eq]
    unfold triAt
    rcases triS_six (gI l (prvN l.length c)) (gI l c) (gI l (nxtN l.length c)) with e|e|e|e|e|e <;> rw [e] <;> simp only [show inT (gI l c) t1=false from Bool.eq_false_iff.2 fun h=>hno h] <;>
     cases inT (gI l (prvN l.length c)) t1 <;> cases inT (gI l (nxtN l.length c)) t1 <;> decide
   rw [hcm,hjj]
   omega
def parL (l:List Tri) (i:Nat):Nat:=((List.range l.length).find? fun j=>decide (i < j) && decide (commonM (l.getD i (0,0,0)) (l.getD j (0,0,0))=2)).getD 0
abbrev parT (xs:List Pt):Nat→Nat:=parL (trisM xs)
theorem parT_spec {xs:List Pt} {i:Nat} (hi:i + 1 < (trisM xs).length):i < parT xs i∧parT xs i < (trisM xs).length∧∀ j',i < j'→j' < (trisM xs).length→(commonM ((trisM xs).getD i (0,0,0)) ((trisM xs).getD j' (0,0,0))=2↔j'=parT xs i):=by
 obtain ⟨j,h1,h2,h3⟩:=tris_later hi
 have:parT xs i=j:=by
  unfold parT parL
  have hf:((List.range (trisM xs).length).find? fun j=>decide (i < j) && decide (commonM ((trisM xs).getD i (0,0,0)) ((trisM xs).getD j (0,0,0))=2))=some j:=by
   refine List.find?_range_eq_some.2 ⟨by rw [Bool.and_eq_true];exact ⟨decide_eq_true h1,decide_eq_true ((h3 j h1 h2).2 rfl)⟩,List.mem_range.2 h2,fun j' hj'=>?_⟩
   by_cases h4:i < j'
   ·have:¬ commonM ((trisM xs).getD i (0,0,0)) ((trisM xs).getD j' (0,0,0))=2:=fun e=>by have:=(h3 j' h4 (by omega)).1 e;omega
    rw [decide_eq_false this,Bool.and_false];rfl
   ·rw [decide_eq_false h4];rfl
  rw [hf];rfl
 rw [this]
 exact ⟨h1,h2,h3⟩
theorem parT_is (xs:List Pt):IsPar (trisM xs).length (parT xs):=fun i hi=>⟨(parT_spec hi).1,(parT_spec hi).2.1⟩
theorem adj_iff {xs:List Pt} {u k:Nat} (hu:u < (trisM xs).length) (hk:k < (trisM xs).length):besAt (trisM xs) (u:Int) k=true↔TAdj (trisM xs).length (parT xs) u k:=by
 have hcc:commonM ((trisM xs).getD k (0,0,0)) ((trisM xs).getD u (0,0,0))=commonM ((trisM xs).getD u (0,0,0)) ((trisM xs).getD k (0,0,0)):=common_comm (tri_at_in hk) (tri_at_in hu)
 unfold besAt TAdj
 rw [Bool.and_eq_true,decide_eq_true_eq,decide_eq_true_eq,Int.toNat_natCast]
 rcases Nat.lt_trichotomy u k with h|h|h
 ·have:=(parT_spec (xs:=xs) (i:=u) (by omega)).2.2 k h hk
  rw [hcc,this]
  constructor
  ·rintro ⟨-,e⟩;exact .inl ⟨by omega,e⟩
  ·rintro (⟨-,e⟩|⟨e1,e2⟩)
   ·exact ⟨by omega,e⟩
   ·have:=(parT_spec (xs:=xs) (i:=k) e1).1;omega
 ·subst h
  constructor
  ·rintro ⟨e,-⟩;exact absurd rfl e
  ·rintro (⟨e1,e2⟩|⟨e1,e2⟩) <;> (have:=(parT_spec (xs:=xs) (i:=u) e1).1;omega)
 ·have:=(parT_spec (xs:=xs) (i:=k) (by omega)).2.2 u h hu
  rw [this]
  constructor
  ·rintro ⟨-,e⟩;exact .inr ⟨by omega,e⟩
  ·rintro (⟨e1,e2⟩|⟨-,e⟩)
   ·have:=(parT_spec (xs:=xs) (i:=u) e1).1;omega
   ·exact ⟨by omega,e⟩
def wayL (l:List Tri) (a b:Nat):List Int:=(pth l.length (parL l) a b).map fun j:Nat=>(j:Int)
theorem pthF_len (par:Nat→Nat):∀ (f v a:Nat),(pthF par f v a).length≤f + 1
 | 0,v,a=>by simp [pthF]
 | f + 1,v,a=>by
  rw [pthF]
  split
  ·simp
  ·split
   ·have:=pthF_len par f (par v) a
    rw [List.length_cons];omega
   ·have:=pthF_len par f v (par a)
    rw [List.length_append,List.length_singleton];omega
theorem bes_mem {l:List Tri} {u:Int} {n:Nat} {x:Int}:x∈besTo l u n↔∃ j:Nat,j < n∧x=j∧besAt l u j=true:=by
 unfold besTo
 rw [List.mem_map]
 constructor
 ·rintro ⟨j,hj,rfl⟩
  obtain ⟨h1,h2⟩:=List.mem_filter.1 hj
  exact ⟨j,List.mem_range.1 h1,rfl,h2⟩
 ·rintro ⟨j,h1,rfl,h2⟩
  exact ⟨j,List.mem_filter.2 ⟨List.mem_range.2 h1,h2⟩,rfl⟩
theorem wayL_rev {xs:List Pt} {a b:Nat} (ha:a < (trisM xs).length) (hb:b < (trisM xs).length):((pth (trisM xs).length (parT xs) b a).map fun j:Nat=>(j:Int)).reverse=wayL (trisM xs) a b:=by
 rw [← List.map_reverse,pth_rev (parT_is xs) b a hb ha]
 rfl
def revIC:ConW:=mkConW [.sl (.b .int)] 0 t_int (fun x=>x.1.length≤1048576) (fun _=>.tup []) fun x=>⟨.b .int,x.1.reverse,false⟩
theorem revI_ok:GoodW Tryz.prog n_slices_Reverse_int revIC:=by
 refine good_ofW (tys:=tyL) (env:=[]) (envw:=[]) (envd:=[]) [] [] [] [] [] mixed tys trivial trivial trivial Tryz.func100 rfl (by kernel_rfl) (by decide) (by kernel_rfl) ?_
 have hG_:=kpz [(0,[0,2,3]),(1,[0,2,3,9]),(2,[0,2,3]),(3,[0,2,3])] [(0,[1000]),(1,[1000]),(2,[1000]),(3,[1000])] [] []
 rintro ⟨(xs:List Int),⟨⟩⟩ (h1:xs.length≤_)
 (repeat' (first|(with_reducible first|exact True.intro|refine zQ ?_|(refine zG hG_ ?_;intro K_ hK_)|(refine zR ?_;intro K_ hK_)|(refine hK_ _ _ ?_;try clear hK_ K_)|refine sq_n ?_|refine sq_r ?_|refine sq_e ?_|refine bq_n ?_|refine bq_r ?_|refine bq_q ?_|refine zB ?_|refine zX ?_|refine zT ?_|refine zK ?_|refine gq_n ?_|refine gq_r ?_|refine gq_e ?_|refine lq_n ?_|refine lq_r ?_|refine lq_e ?_|refine bq_e (by decide) ?_)|((with_reducible refine zC (b:=?b_) ?hb_ ?_ ?_);case hb_=>rfl)|((conv=>whnf);first|(with_reducible refine hK_ _ _ ?_;try clear hK_ K_)|(with_reducible refine fun (g_:Sl) (o_:Ow)=>?_)|(with_reducible first|exact True.intro|refine And.intro trivial ?_|refine And.intro ?_ ?_)|exact Nat.le_of_ble_eq_true rfl|exact Or.inl rfl|(intro h_;cases h_)|(intro h_;(try simp only [vS1] at h_))|rfl))) <;> (try (conv=>whnf)) <;> (try first|change (_:Int)≤_|change (_:Nat)≤_) <;> (try ((fail_if_success (with_reducible apply Exists.intro));(try dsimp only);(try simp only [vS1]))) <;> (try simp (disch:=omega) only [vS3,vS2] at *)
 refine awp'_loopG (α:=Nat) (fun i ver_=>[(2,vInt i),(3,vInt ((xs.length:Int) - 1 - i))]) (fun i ver_=>[]) (fun i ver_=>[(1000,⟨0,.row t_int (.b .int) (revTo 0 xs i)⟩)]) (fun i=>2 * i≤xs.length + 1) (fun i=>xs.length - i) [0] [] (0) ?_
 conv=>whnf
 refine ⟨⟨?inv1_,?vals1_,?own1_,?fix1_⟩,?body1_⟩
 case' vals1_=>(repeat' (first|(with_reducible first|exact True.intro|refine And.intro ?_ ?_|refine Head.mk ?_ ?_ ?_ ?_)|((conv=>lhs;whnf);first|(with_reducible first|rfl|exact vInt_s (by omega))|exact rfl)|((conv=>whnf);first|(with_reducible first|exact True.intro|refine And.intro ?_ ?_)))) <;> (try (conv=>lhs;whnf))
 case' own1_=>(repeat' (first|(with_reducible first|exact True.intro|refine And.intro ?_ ?_|refine Head.mk ?_ ?_ ?_ ?_)|((conv=>lhs;whnf);first|(with_reducible first|rfl|exact vInt_s (by omega))|exact rfl)|((conv=>whnf);first|(with_reducible first|exact True.intro|refine And.intro ?_ ?_)))) <;> (try (conv=>lhs;whnf))
 case' fix1_=>(repeat' (first|(with_reducible first|exact True.intro|refine And.intro ?_ ?_|refine Head.mk ?_ ?_ ?_ ?_)|((conv=>lhs;whnf);first|(with_reducible first|rfl|exact vInt_s (by omega))|exact rfl)|((conv=>whnf);first|(with_reducible first|exact True.intro|refine And.intro ?_ ?_)))) <;> (try (conv=>lhs;whnf))
 all_goals (try exact congrArg vInt (by omega))
 ·exact locRow_eq (revTo_zero _ xs).symm
 ·omega
 rintro i g_ o_ v_ hi
 have hl:=revTo_len 0 xs i
 (repeat' (first|(with_reducible first|exact True.intro|refine zQ ?_|(refine zG hG_ ?_;intro K_ hK_)|(refine zR ?_;intro K_ hK_)|(refine hK_ _ _ ?_;try clear hK_ K_)|refine sq_n ?_|refine sq_r ?_|refine sq_e ?_|refine bq_n ?_|refine bq_r ?_|refine bq_q ?_|refine zB ?_|refine zX ?_|refine zT ?_|refine zK ?_|refine gq_n ?_|refine gq_r ?_|refine gq_e ?_|refine lq_n ?_|refine lq_r ?_|refine lq_e ?_|refine bq_e (by decide) ?_)|((with_reducible refine zC (b:=?b_) ?hb_ ?_ ?_);case hb_=>rfl)|((conv=>whnf);first|(with_reducible refine hK_ _ _ ?_;try clear hK_ K_)|(with_reducible refine fun (g_:Sl) (o_:Ow)=>?_)|(with_reducible first|exact True.intro|refine And.intro trivial ?_|refine And.intro ?_ ?_)|exact Nat.le_of_ble_eq_true rfl|exact Or.inl rfl|(intro h_;cases h_)|(intro h_;(try simp only [vS1] at h_))|rfl))) <;> (try (conv=>whnf)) <;> (try first|change (_:Int)≤_|change (_:Nat)≤_) <;> (try ((fail_if_success (with_reducible apply Exists.intro));(try dsimp only);(try simp only [vS1]))) <;> (try simp (disch:=omega) only [vS3,vS2] at *)
 all_goals (try (fail_if_success (with_reducible apply Exists.intro));first|with_reducible assumption|omega|exact mdl (by omega)|exact ilo1 (by omega)|exact ilo2 (by omega)|exact ihi1 (by omega) (by omega)|exact ihi2 (by omega) (by omega))
 ·refine ⟨i + 1,by omega,by omega,?_⟩
  (repeat' (first|(with_reducible first|exact True.intro|refine And.intro ?_ ?_|refine Head.mk ?_ ?_ ?_ ?_)|((conv=>lhs;whnf);first|(with_reducible first|rfl|exact vInt_s (by omega))|exact rfl)|((conv=>whnf);first|(with_reducible first|exact True.intro|refine And.intro ?_ ?_)))) <;> (try (conv=>lhs;whnf))
  ·exact congrArg vInt (by omega)
  ·rw [show ((xs.length:Int) - 1 - i).toNat=xs.length - 1 - i by omega]
   exact locRow_eq (revTo_step 0 (by omega))
 ·exact congrArg some (revTo_end 0 (by omega))
theorem tri_len11 (xs:List Pt):(trisM xs).length≤11:=by
 rcases tris_or xs with e|e
 ·omega
 ·have:=tris_len xs;omega
def InQ (m:Nat) (fr:List Int) (Q:List Int):Prop:=∀ x∈Q,∃ v:Nat,x=v∧v < m∧0≤gV fr v
theorem InQ.tail {m:Nat} {fr:List Int} {q:Int} {Q:List Int} (h:InQ m fr (q :: Q)):InQ m fr Q:=fun x hx=>h x (List.mem_cons_of_mem _ hx)
theorem InQ.step {m:Nat} {fr:List Int} {Q:List Int} {k:Nat} {u:Int} (h:InQ m fr Q) (hu:0≤u) (hk:k < m) (hl:fr.length=m):InQ m (fr.set k u) (Q ++ [(k:Int)]):=fun x hx=>by
 rcases List.mem_append.1 hx with hx|hx
 ·obtain ⟨v,e,h1,h2⟩:=h x hx
  refine ⟨v,e,h1,?_⟩
  rw [gV_set (by omega)]
  split
  ·exact hu
  ·exact h2
 ·refine ⟨k,List.mem_singleton.1 hx,hk,?_⟩
  rw [gV_set (by omega),if_pos rfl]
  exact hu
def triL (f:FuncId × List D):List Tri:=match f.2 with
 | [.ptr [.sl _ (.b .tri) l]]=>l
 | _=>[]
def twcC:Con:=mkCon [.int,.rsl (.b .tri)] (fun x=>x.2.1.length≤1048577∧0≤x.1∧x.1 < x.2.1.length) fun x=>rowI (besTo x.2.1 x.1 x.2.1.length)
theorem twc_ok:Good1 Tryz.prog n_impl_TreeWay_1 twcC:=by
 refine good_ofG (tys:=tyL) (env:=[(n_impl_beside,besideC)]) (envw:=[]) (envd:=[]) [6] [] [] [] [] mixed tys ⟨beside_ok,trivial⟩ trivial trivial Tryz.func62 rfl (by kernel_rfl) (by decide) (by kernel_rfl) ?_
 have hG_:=kpz [(0,[0,1]),(1,[3])] [(1,[6])] [] []
 rintro ⟨(k:Int),(l:List Tri),⟨⟩⟩ ⟨(h1:l.length≤_),(h2:0≤k),(h3:k < _)⟩
 (repeat' (first|(with_reducible first|exact True.intro|refine zQ ?_|(refine zG hG_ ?_;intro K_ hK_)|(refine zR ?_;intro K_ hK_)|(refine hK_ _ _ ?_;try clear hK_ K_)|refine sq_n ?_|refine sq_r ?_|refine sq_e ?_|refine bq_n ?_|refine bq_r ?_|refine bq_q ?_|refine zB ?_|refine zX ?_|refine zT ?_|refine zK ?_|refine gq_n ?_|refine gq_r ?_|refine gq_e ?_|refine lq_n ?_|refine lq_r ?_|refine lq_e ?_|refine bq_e (by decide) ?_)|((with_reducible refine zC (b:=?b_) ?hb_ ?_ ?_);case hb_=>rfl)|((conv=>whnf);first|(with_reducible refine hK_ _ _ ?_;try clear hK_ K_)|(with_reducible refine fun (g_:Sl) (o_:Ow)=>?_)|(with_reducible first|exact True.intro|refine And.intro trivial ?_|refine And.intro ?_ ?_)|exact Nat.le_of_ble_eq_true rfl|exact Or.inl rfl|(intro h_;cases h_)|(intro h_;(try simp only [vS1] at h_))|rfl))) <;> (try (conv=>whnf)) <;> (try first|change (_:Int)≤_|change (_:Nat)≤_) <;> (try ((fail_if_success (with_reducible apply Exists.intro));(try dsimp only);(try simp only [vS1]))) <;> (try simp (disch:=omega) only [vS3,Int.add_sub_cancel,tn1,tnp,tnc,vS2] at *)
 all_goals (try (fail_if_success (with_reducible apply Exists.intro));first|with_reducible assumption|omega|exact mdl (by omega)|exact ilo1 (by omega)|exact ilo2 (by omega)|exact ihi1 (by omega) (by omega)|exact ihi2 (by omega) (by omega))
def ShOk (n a b:Int) (f:FuncId × List D):Prop:=∃ xs,f=(n_impl_TreeWay_1,[.ptr [.sl none (.b .tri) (trisM xs)]])∧n=(trisM xs).length∧(0≤a∧a < n)∧0≤b∧b < n
def shC:Con:=mkCon [.int,.int,.int,.clo] (fun x=>ShOk x.1 x.2.1 x.2.2.1 x.2.2.2.1) fun x=>rowI (wayL (triL x.2.2.2.1) x.2.1.toNat x.2.2.1.toNat)
theorem shortest_ok:Good1 Tryz.prog n_impl_shortest shC:=by
  refine good_ofG (tys:=tyL) (env:=[(n_slices_Repeat_int,repC),(n_impl_TreeWay_1,twcC)]) (envw:=[(n_slices_Reverse_int,revIC)]) (envd:=[]) [16,22,27,52,60,71,73] [1027670] [] [32] [] mixed tys ⟨repeat_ok,twc_ok,trivial⟩ ⟨revI_ok,trivial⟩ trivial Tryz.func61 rfl (by kernel_rfl) (by decide) (by kernel_rfl) ?_
  have hG_:=kpz [(0,[0,1,2,3]),(1,[1,2,3,9]),(2,[1,2,3,9]),(3,[1,2,3,9,10]),(4,[1,2,3,9,10,25]),(5,[1,2,3,9,10]),(6,[1,2,3,9,10,32,33,34]),(7,[1,2,3,9,10,32,33,34,35]),(8,[1,2,3,9,10,12,32,33,34]),(9,[1,2,3,9,10,12,32,33,34,42]),(10,[1,2,3,9,10,12,32,33,34]),(11,[1,2,3,9,10,32,33,34]),(12,[1,2,3,9,10,32,33,34]),(13,[1,2,9,58]),(14,[8]),(15,[1,2,9,13]),(16,[1,2,9,13,63]),(17,[1,2,9,13]),(18,[1,2,9,13]),(19,[13]),(20,[8])] [(1,[16]),(2,[16]),(3,[16,22]),(4,[16,22]),(5,[16,22]),(6,[16,22]),(7,[16,22]),(8,[16,22]),(9,[16,22]),(10,[16,22]),(11,[16,22]),(12,[16,22]),(13,[16,22]),(14,[16,22]),(15,[16,22,60]),(16,[16,22,60]),(17,[16,22,60]),(18,[16,22,60]),(19,[16,22,60]),(20,[16,22,60])] [] []
  rintro ⟨(n:Int),(a:Int),(b:Int),(f:FuncId × List D),⟨⟩⟩ ⟨xs,rfl,rfl,⟨ha0,ha1⟩,hb0,hb1⟩
  obtain ⟨a,rfl⟩:=Int.eq_ofNat_of_zero_le ha0
  obtain ⟨b,rfl⟩:=Int.eq_ofNat_of_zero_le hb0
  have htl:=tri_len11 xs
  have hpar:=parT_is xs
  have ha:a < (trisM xs).length:=by have h:(a:Int) < ((trisM xs).length:Int):=ha1;omega
  have hb:b < (trisM xs).length:=by have h:(b:Int) < ((trisM xs).length:Int):=hb1;omega
  have hadj:∀ u k,u < (trisM xs).length→k < (trisM xs).length→(besAt (trisM xs) (u:Int) k=true↔TAdj (trisM xs).length (parT xs) u k):=fun u k=>adj_iff
  have hrev:=wayL_rev (a:=a) (b:=b) ha hb
  show awp' _ _ (Fin' _ _ (rowI (wayL (trisM xs) a b))) _ _
  generalize wayL (trisM xs) a b=way at hrev ⊢
  generalize parT xs=par at *
  generalize trisM xs=ts at *
  (repeat' (first|(with_reducible first|exact True.intro|refine zQ ?_|(refine zG hG_ ?_;intro K_ hK_)|(refine zR ?_;intro K_ hK_)|(refine hK_ _ _ ?_;try clear hK_ K_)|refine sq_n ?_|refine sq_r ?_|refine sq_e ?_|refine bq_n ?_|refine bq_r ?_|refine bq_q ?_|refine zB ?_|refine zX ?_|refine zT ?_|refine zK ?_|refine gq_n ?_|refine gq_r ?_|refine gq_e ?_|refine lq_n ?_|refine lq_r ?_|refine lq_e ?_|refine bq_e (by decide) ?_)|((with_reducible refine zC (b:=?b_) ?hb_ ?_ ?_);case hb_=>rfl)|((conv=>whnf);first|(with_reducible refine hK_ _ _ ?_;try clear hK_ K_)|(with_reducible refine fun (g_:Sl) (o_:Ow)=>?_)|(with_reducible first|exact True.intro|refine And.intro trivial ?_|refine And.intro ?_ ?_)|exact Nat.le_of_ble_eq_true rfl|exact Or.inl rfl|(intro h_;cases h_)|(intro h_;(try simp only [vS1] at h_))|rfl))) <;> (try (conv=>whnf)) <;> (try first|change (_:Int)≤_|change (_:Nat)≤_) <;> (try ((fail_if_success (with_reducible apply Exists.intro));(try dsimp only);(try simp only [vS1]))) <;> (try simp (disch:=omega) only [vS3,Int.add_sub_cancel,tn1,tnp,tnc,vS2] at *)
  all_goals (try (fail_if_success (with_reducible apply Exists.intro));first|with_reducible assumption|omega|exact mdl (by omega)|exact ilo1 (by omega)|exact ilo2 (by omega)|exact ihi1 (by omega) (by omega)|exact ihi2 (by omega) (by omega))
  refine st_tl 22 ?_
  conv=>whnf
  refine ⟨by simp,?_⟩
  refine awp'_loopG (α:=List Int × List Int) (fun s ver_=>[]) (fun s ver_=>[(9,16,false,.row t_int (.b .int) s.1),(10,22,false,.tail t_int (.b .int) s.2)]) (fun s ver_=>[]) (fun s=>Bfs ts.length par a s.1 (fun v=>(v:Int)∈s.2)∧InQ ts.length s.1 s.2∧s.2.length + unf s.1≤ts.length) (fun s=>s.2.length + unf s.1) [1,2,3] [] (((List.replicate ts.length (-1)).set a a,[(a:Int)])) ?_
  conv=>whnf
  refine ⟨⟨?inv2_,?vals2_,?own2_,?fix2_⟩,?body2_⟩
  case' vals2_=>(repeat' (first|(with_reducible first|exact True.intro|refine And.intro ?_ ?_|refine Head.mk ?_ ?_ ?_ ?_)|((conv=>lhs;whnf);first|(with_reducible first|rfl|exact vInt_s (by omega))|exact rfl)|((conv=>whnf);first|(with_reducible first|exact True.intro|refine And.intro ?_ ?_)))) <;> (try (conv=>lhs;whnf))
  case' own2_=>(repeat' (first|(with_reducible first|exact True.intro|refine And.intro ?_ ?_|refine Head.mk ?_ ?_ ?_ ?_)|((conv=>lhs;whnf);first|(with_reducible first|rfl|exact vInt_s (by omega))|exact rfl)|((conv=>whnf);first|(with_reducible first|exact True.intro|refine And.intro ?_ ?_)))) <;> (try (conv=>lhs;whnf))
  case' fix2_=>(repeat' (first|(with_reducible first|exact True.intro|refine And.intro ?_ ?_|refine Head.mk ?_ ?_ ?_ ?_)|((conv=>lhs;whnf);first|(with_reducible first|rfl|exact vInt_s (by omega))|exact rfl)|((conv=>whnf);first|(with_reducible first|exact True.intro|refine And.intro ?_ ?_)))) <;> (try (conv=>lhs;whnf))
  · exact ⟨bfs_start ha (List.mem_singleton.2 rfl),fun x hx=>⟨a,List.mem_singleton.1 hx,ha,by show 0≤gV _ a;rw [gV_set (by simpa using ha),if_pos rfl];omega⟩,by have:=unf_start ha;show 1 + unf ((List.replicate ts.length (-1)).set a a)≤_;omega⟩
  rintro ⟨fr,Q⟩ g_ o_ v_ ⟨(hB:Bfs _ _ _ fr _),(hQ:InQ _ fr Q),(hlen:Q.length + unf fr≤_)⟩
  have hfl:=hB.len
  rcases Q with _|⟨q,Q⟩
  · have hall:=hB.all hpar ha (fun v _ hv=>by cases hv)
    have hbv:0≤fr.getD b 0:=hall b hb
    (repeat' (first|(with_reducible first|exact True.intro|refine zQ ?_|(refine zG hG_ ?_;intro K_ hK_)|(refine zR ?_;intro K_ hK_)|(refine hK_ _ _ ?_;try clear hK_ K_)|refine sq_n ?_|refine sq_r ?_|refine sq_e ?_|refine bq_n ?_|refine bq_r ?_|refine bq_q ?_|refine zB ?_|refine zX ?_|refine zT ?_|refine zK ?_|refine gq_n ?_|refine gq_r ?_|refine gq_e ?_|refine lq_n ?_|refine lq_r ?_|refine lq_e ?_|refine bq_e (by decide) ?_)|((with_reducible refine zC (b:=?b_) ?hb_ ?_ ?_);case hb_=>rfl)|((conv=>whnf);first|(with_reducible refine hK_ _ _ ?_;try clear hK_ K_)|(with_reducible refine fun (g_:Sl) (o_:Ow)=>?_)|(with_reducible first|exact True.intro|refine And.intro trivial ?_|refine And.intro ?_ ?_)|exact Nat.le_of_ble_eq_true rfl|exact Or.inl rfl|(intro h_;cases h_)|(intro h_;(try simp only [vS1] at h_))|rfl))) <;> (try (conv=>whnf)) <;> (try first|change (_:Int)≤_|change (_:Nat)≤_) <;> (try ((fail_if_success (with_reducible apply Exists.intro));(try dsimp only);(try simp only [vS1]))) <;> (try simp (disch:=omega) only [vS3,Int.add_sub_cancel,tn1,tnp,tnc,vS2] at *)
    all_goals (try (fail_if_success (with_reducible apply Exists.intro));first|with_reducible assumption|omega|exact mdl (by omega)|exact ilo1 (by omega)|exact ilo2 (by omega)|exact ihi1 (by omega) (by omega)|exact ihi2 (by omega) (by omega))
    · exact absurd hbv (Int.not_le.2 ‹_›)
    refine awp'_loopG (α:=Nat × List Int) (fun s ver_=>[(2,vInt s.1)]) (fun s ver_=>[(13,60,false,.row t_int (.b .int) s.2)]) (fun s ver_=>[]) (fun s=>s.1 < ts.length∧∃ pre:List Nat,s.2=(pre ++ [s.1]).map (fun j:Nat=>(j:Int))∧pre ++ pth ts.length par s.1 a=pth ts.length par b a) (fun s=>(pth ts.length par s.1 a).length) [1,9] [16,22] ((b,[(b:Int)])) ?_
    conv=>whnf
    refine ⟨⟨?inv3_,?vals3_,?own3_,?fix3_⟩,?body3_⟩
    case' vals3_=>(repeat' (first|(with_reducible first|exact True.intro|refine And.intro ?_ ?_|refine Head.mk ?_ ?_ ?_ ?_)|((conv=>lhs;whnf);first|(with_reducible first|rfl|exact vInt_s (by omega))|exact rfl)|((conv=>whnf);first|(with_reducible first|exact True.intro|refine And.intro ?_ ?_)))) <;> (try (conv=>lhs;whnf))
    case' own3_=>(repeat' (first|(with_reducible first|exact True.intro|refine And.intro ?_ ?_|refine Head.mk ?_ ?_ ?_ ?_)|((conv=>lhs;whnf);first|(with_reducible first|rfl|exact vInt_s (by omega))|exact rfl)|((conv=>whnf);first|(with_reducible first|exact True.intro|refine And.intro ?_ ?_)))) <;> (try (conv=>lhs;whnf))
    case' fix3_=>(repeat' (first|(with_reducible first|exact True.intro|refine And.intro ?_ ?_|refine Head.mk ?_ ?_ ?_ ?_)|((conv=>lhs;whnf);first|(with_reducible first|rfl|exact vInt_s (by omega))|exact rfl)|((conv=>whnf);first|(with_reducible first|exact True.intro|refine And.intro ?_ ?_)))) <;> (try (conv=>lhs;whnf))
    · exact ⟨hb,[],rfl,rfl⟩
    rintro ⟨c,w⟩ g_ o_ v_ ⟨(hc:c < _),pre,(hw:w=_),hpre⟩
    have hcv:0≤fr.getD c 0:=hall c hc
    have hpl:(pth ts.length par b a).length≤2 * ts.length + 1:=pthF_len _ _ _ _
    have hwl:w.length≤2 * ts.length + 1:=by
      have h9:(pre ++ pth ts.length par c a).length=(pth ts.length par b a).length:=congrArg List.length hpre
      have h0:=pth_len hpar hc ha
      rw [List.length_append] at h9
      rw [hw,List.length_map,List.length_append,List.length_singleton]
      omega
    (repeat' (first|(with_reducible first|exact True.intro|refine zQ ?_|(refine zG hG_ ?_;intro K_ hK_)|(refine zR ?_;intro K_ hK_)|(refine hK_ _ _ ?_;try clear hK_ K_)|refine sq_n ?_|refine sq_r ?_|refine sq_e ?_|refine bq_n ?_|refine bq_r ?_|refine bq_q ?_|refine zB ?_|refine zX ?_|refine zT ?_|refine zK ?_|refine gq_n ?_|refine gq_r ?_|refine gq_e ?_|refine lq_n ?_|refine lq_r ?_|refine lq_e ?_|refine bq_e (by decide) ?_)|((with_reducible refine zC (b:=?b_) ?hb_ ?_ ?_);case hb_=>rfl)|((conv=>whnf);first|(with_reducible refine hK_ _ _ ?_;try clear hK_ K_)|(with_reducible refine fun (g_:Sl) (o_:Ow)=>?_)|(with_reducible first|exact True.intro|refine And.intro trivial ?_|refine And.intro ?_ ?_)|exact Nat.le_of_ble_eq_true rfl|exact Or.inl rfl|(intro h_;cases h_)|(intro h_;(try simp only [vS1] at h_))|rfl))) <;> (try (conv=>whnf)) <;> (try first|change (_:Int)≤_|change (_:Nat)≤_) <;> (try ((fail_if_success (with_reducible apply Exists.intro));(try dsimp only);(try simp only [vS1]))) <;> (try simp (disch:=omega) only [vS3,Int.add_sub_cancel,tn1,tnp,tnc,vS2] at *)
    all_goals (try (fail_if_success (with_reducible apply Exists.intro));first|with_reducible assumption|omega|exact mdl (by omega)|exact ilo1 (by omega)|exact ilo2 (by omega)|exact ihi1 (by omega) (by omega)|exact ihi2 (by omega) (by omega))
    · obtain ⟨d,hd,hde,-,hdp⟩:=hB.up c hc h_ hcv
      refine ⟨(d,w ++ [(d:Int)]),by show (pth _ _ d a).length < _;rw [hdp,List.length_cons];omega,⟨hd,pre ++ [c],by rw [hw];simp,by rw [← hpre,hdp];simp⟩,?_⟩
      (repeat' (first|(with_reducible first|exact True.intro|refine And.intro ?_ ?_|refine Head.mk ?_ ?_ ?_ ?_)|((conv=>lhs;whnf);first|(with_reducible first|rfl|exact vInt_s (by omega))|exact rfl)|((conv=>whnf);first|(with_reducible first|exact True.intro|refine And.intro ?_ ?_)))) <;> (try (conv=>lhs;whnf))
      all_goals first
        | exact congrArg vInt hde
        | exact congrArg (Own.row t_int (.b .int)) (by show _ ++ [fr.getD c 0]=_;rw [show fr.getD c 0=(d:Int) from hde])
    · obtain rfl:c=a:=by omega
      refine congrArg some ?_
      show w.reverse=way
      rw [← hrev,← hpre,pth_self hc,hw]
  · obtain ⟨u,rfl,hu,huv⟩:=hQ q List.mem_cons_self
    have hbl:=besTo_len ts (u:Int) ts.length
    have hq0:((u:Int) :: Q).getD 0 (ElK.b ElB.int).dflt=u:=rfl
    (repeat' (first|(with_reducible first|exact True.intro|refine zQ ?_|(refine zG hG_ ?_;intro K_ hK_)|(refine zR ?_;intro K_ hK_)|(refine hK_ _ _ ?_;try clear hK_ K_)|refine sq_n ?_|refine sq_r ?_|refine sq_e ?_|refine bq_n ?_|refine bq_r ?_|refine bq_q ?_|refine zB ?_|refine zX ?_|refine zT ?_|refine zK ?_|refine gq_n ?_|refine gq_r ?_|refine gq_e ?_|refine lq_n ?_|refine lq_r ?_|refine lq_e ?_|refine bq_e (by decide) ?_)|((with_reducible refine zC (b:=?b_) ?hb_ ?_ ?_);case hb_=>rfl)|((conv=>whnf);first|(with_reducible refine hK_ _ _ ?_;try clear hK_ K_)|(with_reducible refine fun (g_:Sl) (o_:Ow)=>?_)|(with_reducible first|exact True.intro|refine And.intro trivial ?_|refine And.intro ?_ ?_)|exact Nat.le_of_ble_eq_true rfl|exact Or.inl rfl|(intro h_;cases h_)|(intro h_;(try simp only [vS1] at h_))|rfl))) <;> (try (conv=>whnf)) <;> (try first|change (_:Int)≤_|change (_:Nat)≤_) <;> (try ((fail_if_success (with_reducible apply Exists.intro));(try dsimp only);(try simp only [vS1]))) <;> (try simp (disch:=omega) only [vS3,Int.add_sub_cancel,tn1,tnp,tnc,vS2] at *) <;> (try simp only [hq0,Int.toNat_natCast] at *)
    all_goals (try (fail_if_success (with_reducible apply Exists.intro));first|with_reducible assumption|omega|exact mdl (by omega)|exact ilo1 (by omega)|exact ilo2 (by omega)|exact ihi1 (by omega) (by omega)|exact ihi2 (by omega) (by omega))
    ·
     refine awp'_loopG (α:=Nat × List Int × List Int) (fun s ver_=>[(34,vInt s.1)]) (fun s ver_=>[(9,16,false,.row t_int (.b .int) s.2.1),(10,22,false,.tail t_int (.b .int) ((u:Int) :: s.2.2))]) (fun s ver_=>[]) (fun s=>s.1≤(besTo ts u ts.length).length∧Bfs ts.length par a s.2.1 (fun v=>v=u∨(v:Int)∈s.2.2)∧InQ ts.length s.2.1 s.2.2∧0≤gV s.2.1 u∧(∀ j,j < s.1→0≤gV s.2.1 ((besTo ts u ts.length).getD j 0).toNat)∧s.2.2.length + unf s.2.1=Q.length + unf fr) (fun s=>(besTo ts u ts.length).length - s.1) [1,2,3,32,33] [] ((0,fr,Q)) ?_
     conv=>whnf
     refine ⟨⟨?inv4_,?vals4_,?own4_,?fix4_⟩,?body4_⟩
     case' vals4_=>(repeat' (first|(with_reducible first|exact True.intro|refine And.intro ?_ ?_|refine Head.mk ?_ ?_ ?_ ?_)|((conv=>lhs;whnf);first|(with_reducible first|rfl|exact vInt_s (by omega))|exact rfl)|((conv=>whnf);first|(with_reducible first|exact True.intro|refine And.intro ?_ ?_)))) <;> (try (conv=>lhs;whnf))
     case' own4_=>(repeat' (first|(with_reducible first|exact True.intro|refine And.intro ?_ ?_|refine Head.mk ?_ ?_ ?_ ?_)|((conv=>lhs;whnf);first|(with_reducible first|rfl|exact vInt_s (by omega))|exact rfl)|((conv=>whnf);first|(with_reducible first|exact True.intro|refine And.intro ?_ ?_)))) <;> (try (conv=>lhs;whnf))
     case' fix4_=>(repeat' (first|(with_reducible first|exact True.intro|refine And.intro ?_ ?_|refine Head.mk ?_ ?_ ?_ ?_)|((conv=>lhs;whnf);first|(with_reducible first|rfl|exact vInt_s (by omega))|exact rfl)|((conv=>whnf);first|(with_reducible first|exact True.intro|refine And.intro ?_ ?_)))) <;> (try (conv=>lhs;whnf))
     · exact ⟨Nat.zero_le _,hB.imp fun v _ hv=>.inl ((List.mem_cons.1 hv).imp (fun e=>by exact_mod_cast e) id),hQ.tail,huv,fun j hj=>absurd hj (by omega),rfl⟩
     rintro ⟨j,fr',Q'⟩ g_ o_ v_ ⟨(hj:j≤_),(hB':Bfs _ _ _ fr' _),(hQ':InQ _ fr' Q'),(huv':0≤gV fr' u),hdone,(hlen':Q'.length + unf fr'=_)⟩
     have hfl':=hB'.len
     have hq0':((u:Int) :: Q').getD 0 (ElK.b ElB.int).dflt=u:=rfl
     have hkk:j < (besTo ts u ts.length).length→∃ k:Nat,(besTo ts u ts.length).getD j (ElK.b ElB.int).dflt=k∧k < ts.length∧TAdj ts.length par u k:=fun hjl=>by
       have hm:(besTo ts u ts.length).getD j 0∈besTo ts u ts.length:=by rw [getD_lt _ hjl];exact List.getElem_mem _
       obtain ⟨k,hk1,hk2,hk3⟩:=bes_mem.1 hm
       exact ⟨k,hk2,hk1,(hadj u k hu hk1).1 hk3⟩
     rcases Nat.lt_or_ge j (besTo ts u ts.length).length with hjl|hjl
     · obtain ⟨k,hk2,hk1,hkt⟩:=hkk hjl
       have hk2p:PLift ((besTo ts u ts.length).getD j 0=(k:Int)):=⟨hk2⟩
       clear hkk
       (repeat' (first|(with_reducible first|exact True.intro|refine zQ ?_|(refine zG hG_ ?_;intro K_ hK_)|(refine zR ?_;intro K_ hK_)|(refine hK_ _ _ ?_;try clear hK_ K_)|refine sq_n ?_|refine sq_r ?_|refine sq_e ?_|refine bq_n ?_|refine bq_r ?_|refine bq_q ?_|refine zB ?_|refine zX ?_|refine zT ?_|refine zK ?_|refine gq_n ?_|refine gq_r ?_|refine gq_e ?_|refine lq_n ?_|refine lq_r ?_|refine lq_e ?_|refine bq_e (by decide) ?_)|((with_reducible refine zC (b:=?b_) ?hb_ ?_ ?_);case hb_=>rfl)|((conv=>whnf);first|(with_reducible refine hK_ _ _ ?_;try clear hK_ K_)|(with_reducible refine fun (g_:Sl) (o_:Ow)=>?_)|(with_reducible first|exact True.intro|refine And.intro trivial ?_|refine And.intro ?_ ?_)|exact Nat.le_of_ble_eq_true rfl|exact Or.inl rfl|(intro h_;cases h_)|(intro h_;(try simp only [vS1] at h_))|rfl))) <;> (try (conv=>whnf)) <;> (try first|change (_:Int)≤_|change (_:Nat)≤_) <;> (try ((fail_if_success (with_reducible apply Exists.intro));(try dsimp only);(try simp only [vS1]))) <;> (try simp (disch:=omega) only [vS3,Int.add_sub_cancel,tn1,tnp,tnc,vS2] at *) <;> (try simp only [hq0',hk2,Int.toNat_natCast] at *)
       all_goals (try (fail_if_success (with_reducible apply Exists.intro));first|with_reducible assumption|omega|exact mdl (by omega)|exact ilo1 (by omega)|exact ilo2 (by omega)|exact ihi1 (by omega) (by omega)|exact ihi2 (by omega) (by omega))
       · have hfk:gV fr' k < 0:=h_
         have hk2':=hk2p.down
         have hcnt:=unf_set (u:=(u:Int)) (by omega) (fr:=fr') (k:=k) (by omega) hfk
         refine ⟨(j + 1,fr'.set k u,Q' ++ [(k:Int)]),by show _ - (j + 1) < _;omega,⟨by show j + 1≤_;omega,?_,hQ'.step (by omega) hk1 hfl',?_,fun i hi=>?_,?_⟩,?_⟩
         · exact hB'.step hpar ha huv' hkt hfk (fun v hv=>hv.imp id fun hv=>List.mem_append_left _ hv) (.inr (List.mem_append_right _ (List.mem_singleton.2 rfl)))
         · show 0≤gV (fr'.set k u) u
           rw [gV_set (by omega)]
           split <;> omega
         · show 0≤gV (fr'.set k u) ((besTo ts u ts.length).getD i 0).toNat
           have hi:i < j + 1:=hi
           rw [gV_set (by omega)]
           split
           · omega
           · rename_i hne
             rcases Nat.lt_or_ge i j with h5|h5
             · exact hdone i h5
             · obtain rfl:i=j:=by omega
               exact absurd (by rw [hk2'];rfl) hne
         · show (Q' ++ [(k:Int)]).length + unf (fr'.set k u)=_
           rw [List.length_append,List.length_singleton]
           omega
         · (repeat' (first|(with_reducible first|exact True.intro|refine And.intro ?_ ?_|refine Head.mk ?_ ?_ ?_ ?_)|((conv=>lhs;whnf);first|(with_reducible first|rfl|exact vInt_s (by omega))|exact rfl)|((conv=>whnf);first|(with_reducible first|exact True.intro|refine And.intro ?_ ?_)))) <;> (try (conv=>lhs;whnf))
       · have hfk:¬ gV fr' k < 0:=h_
         have hk2':=hk2p.down
         refine ⟨(j + 1,fr',Q'),by show _ - (j + 1) < _;omega,⟨by show j + 1≤_;omega,hB',hQ',huv',fun i hi=>?_,hlen'⟩,by (repeat' (first|(with_reducible first|exact True.intro|refine And.intro ?_ ?_|refine Head.mk ?_ ?_ ?_ ?_)|((conv=>lhs;whnf);first|(with_reducible first|rfl|exact vInt_s (by omega))|exact rfl)|((conv=>whnf);first|(with_reducible first|exact True.intro|refine And.intro ?_ ?_)))) <;> (try (conv=>lhs;whnf))⟩
         have hi:i < j + 1:=hi
         rcases Nat.lt_or_ge i j with h5|h5
         · exact hdone i h5
         · obtain rfl:i=j:=by omega
           show 0≤gV fr' ((besTo ts u ts.length).getD i 0).toNat
           rw [hk2']
           exact Int.not_lt.1 hfk
       · exfalso;omega
     · clear hkk
       (repeat' (first|(with_reducible first|exact True.intro|refine zQ ?_|(refine zG hG_ ?_;intro K_ hK_)|(refine zR ?_;intro K_ hK_)|(refine hK_ _ _ ?_;try clear hK_ K_)|refine sq_n ?_|refine sq_r ?_|refine sq_e ?_|refine bq_n ?_|refine bq_r ?_|refine bq_q ?_|refine zB ?_|refine zX ?_|refine zT ?_|refine zK ?_|refine gq_n ?_|refine gq_r ?_|refine gq_e ?_|refine lq_n ?_|refine lq_r ?_|refine lq_e ?_|refine bq_e (by decide) ?_)|((with_reducible refine zC (b:=?b_) ?hb_ ?_ ?_);case hb_=>rfl)|((conv=>whnf);first|(with_reducible refine hK_ _ _ ?_;try clear hK_ K_)|(with_reducible refine fun (g_:Sl) (o_:Ow)=>?_)|(with_reducible first|exact True.intro|refine And.intro trivial ?_|refine And.intro ?_ ?_)|exact Nat.le_of_ble_eq_true rfl|exact Or.inl rfl|(intro h_;cases h_)|(intro h_;(try simp only [vS1] at h_))|rfl))) <;> (try (conv=>whnf)) <;> (try first|change (_:Int)≤_|change (_:Nat)≤_) <;> (try ((fail_if_success (with_reducible apply Exists.intro));(try dsimp only);(try simp only [vS1]))) <;> (try simp (disch:=omega) only [vS3,Int.add_sub_cancel,tn1,tnp,tnc,vS2] at *)
       all_goals (try (fail_if_success (with_reducible apply Exists.intro));first|with_reducible assumption|omega|exact mdl (by omega)|exact ilo1 (by omega)|exact ilo2 (by omega)|exact ihi1 (by omega) (by omega)|exact ihi2 (by omega) (by omega))
       · exfalso;omega
       · exfalso;omega
       · refine ⟨(fr',Q'),by show Q'.length + unf fr' < _;omega,⟨hB'.imp fun v hv hW=>?_,hQ',by show Q'.length + unf fr'≤_;omega⟩,by (repeat' (first|(with_reducible first|exact True.intro|refine And.intro ?_ ?_|refine Head.mk ?_ ?_ ?_ ?_)|((conv=>lhs;whnf);first|(with_reducible first|rfl|exact vInt_s (by omega))|exact rfl)|((conv=>whnf);first|(with_reducible first|exact True.intro|refine And.intro ?_ ?_)))) <;> (try (conv=>lhs;whnf))⟩
         rcases hW with rfl|hW
         · refine .inr fun k hk=>?_
           have hkm:=(hk.lt hpar).2
           obtain ⟨i,hi,hie⟩:=List.getElem_of_mem (bes_mem.2 ⟨k,hkm,rfl,(hadj v k hv hkm).2 hk⟩:(k:Int)∈besTo ts v ts.length)
           have:=hdone i (by show i < j;omega)
           rw [getD_lt _ hi,hie] at this
           exact this
         · exact .inl hW
    · exfalso;omega
def wayM (xs:List Pt) (a b:Int):List Int:=if btw a 0 ((trisM xs).length - 1) && btw b 0 ((trisM xs).length - 1) then wayL (trisM xs) a.toNat b.toNat else []
theorem wayM_no {xs:List Pt} {a b:Int} (h:btw a 0 ((trisM xs).length - 1)=false∨btw b 0 ((trisM xs).length - 1)=false):wayM xs a b=[]:=by
 unfold wayM
 rcases h with h|h <;> rw [h] <;> simp
theorem wayM_yes {xs:List Pt} {a b:Int} (h1:btw a 0 ((trisM xs).length - 1)=true) (h2:btw b 0 ((trisM xs).length - 1)=true):wayM xs a b=wayL (trisM xs) a.toNat b.toNat:=by
 unfold wayM
 rw [h1,h2];rfl
def treeWayC:Con:=mkCon [.room,.int,.int] (fun x=>x.1.length≤1048576) fun x=>rowI (wayM x.1 x.2.1 x.2.2.1)
theorem iTreeWay_ok:Good1 Tryz.prog n_impl_TreeWay treeWayC:=by
 refine good_ofG (tys:=tyL) (env:=[(n_impl_TrianglesOf,trisC),(n_impl_between,btwC),(n_impl_TreeWay_1,twcC),(n_impl_shortest,shC)]) (envw:=[]) (envd:=[]) [9,29] [7] [] [9] [] mixed tys ⟨iTrianglesOf_ok,between_ok,twc_ok,shortest_ok,trivial⟩ trivial trivial Tryz.func24 rfl (by kernel_rfl) (by decide) (by kernel_rfl) ?_
 have hG_:=kpz [(0,[1,2,3]),(1,[1,2,7]),(2,[1,2,7,23]),(3,[6]),(4,[6])] [(1,[7,9]),(2,[7,9]),(3,[9]),(4,[9,29])] [(1,[7])] []
 rintro ⟨(xs:List Pt),(a:Int),(b:Int),⟨⟩⟩ (h1:xs.length≤_)
 have htl:=tri_len11 xs
 (repeat' (first|(with_reducible first|exact True.intro|refine zQ ?_|(refine zG hG_ ?_;intro K_ hK_)|(refine zR ?_;intro K_ hK_)|(refine hK_ _ _ ?_;try clear hK_ K_)|refine sq_n ?_|refine sq_r ?_|refine sq_e ?_|refine bq_n ?_|refine bq_r ?_|refine bq_q ?_|refine zB ?_|refine zX ?_|refine zT ?_|refine zK ?_|refine gq_n ?_|refine gq_r ?_|refine gq_e ?_|refine lq_n ?_|refine lq_r ?_|refine lq_e ?_|refine bq_e (by decide) ?_)|((with_reducible refine zC (b:=?b_) ?hb_ ?_ ?_);case hb_=>rfl)|((conv=>whnf);first|(with_reducible refine hK_ _ _ ?_;try clear hK_ K_)|(with_reducible refine fun (g_:Sl) (o_:Ow)=>?_)|(with_reducible first|exact True.intro|refine And.intro trivial ?_|refine And.intro ?_ ?_)|exact Nat.le_of_ble_eq_true rfl|exact Or.inl rfl|(intro h_;cases h_)|(intro h_;(try simp only [vS1] at h_))|rfl))) <;> (try (conv=>whnf)) <;> (try first|change (_:Int)≤_|change (_:Nat)≤_) <;> (try ((fail_if_success (with_reducible apply Exists.intro));(try dsimp only);(try simp only [vS1]))) <;> (try simp (disch:=omega) only [vS3,Int.add_sub_cancel,tn1,tnp,tnc,vS2] at *)
 all_goals (try (fail_if_success (with_reducible apply Exists.intro));first|with_reducible assumption|omega|exact mdl (by omega)|exact ilo1 (by omega)|exact ilo2 (by omega)|exact ihi1 (by omega) (by omega)|exact ihi2 (by omega) (by omega))
 ·exact wayM_no (.inl h_)
 ·exact wayM_no (.inr h_)
 ·have h2:=btw_iff.1 ‹btw a 0 _=true›
  have h3:=btw_iff.1 h_
  exact ⟨xs,rfl,rfl,⟨h2.1,by omega⟩,h3.1,by omega⟩
 ·exact congrArg some (wayM_yes ‹btw a 0 _=true› h_).symm
def wbM (xs:List Pt) (p q:Pt):List Int:=wayM xs (triOfM xs p) (triOfM xs q)
def wbC:Con:=mkCon [.room,.pt,.pt] (fun x=>x.1.length≤1048576) fun x=>rowI (wbM x.1 x.2.1 x.2.2.1)
theorem wb_no {xs:List Pt} {p q:Pt} (h:triOfM xs p < 0∨triOfM xs q < 0):wbM xs p q=[]:=by
 refine wayM_no (h.imp (fun h=>?_) fun h=>?_) <;> rw [← Bool.not_eq_true,btw_iff] <;> omega
theorem iWalkBetween_ok:Good1 Tryz.prog n_impl_WalkBetween wbC:=by
 refine good_ofG (tys:=tyL) (env:=[(n_impl_TriangleOf,triOfC),(n_impl_TreeWay,treeWayC)]) (envw:=[]) (envd:=[]) [24] [] [] [] [] mixed tys ⟨iTriangleOf_ok,iTreeWay_ok,trivial⟩ trivial trivial Tryz.func27 rfl (by kernel_rfl) (by decide) (by kernel_rfl) ?_
 have hG_:=kpz [(0,[3,4,5]),(1,[3,7,8]),(2,[3,7,8,20]),(3,[6]),(4,[6])] [(4,[24])] [] []
 rintro ⟨(xs:List Pt),⟨(px:Int),(py:Int)⟩,⟨(qx:Int),(qy:Int)⟩,⟨⟩⟩ (h1:xs.length≤_)
 (repeat' (first|(with_reducible first|exact True.intro|refine zQ ?_|(refine zG hG_ ?_;intro K_ hK_)|(refine zR ?_;intro K_ hK_)|(refine hK_ _ _ ?_;try clear hK_ K_)|refine sq_n ?_|refine sq_r ?_|refine sq_e ?_|refine bq_n ?_|refine bq_r ?_|refine bq_q ?_|refine zB ?_|refine zX ?_|refine zT ?_|refine zK ?_|refine gq_n ?_|refine gq_r ?_|refine gq_e ?_|refine lq_n ?_|refine lq_r ?_|refine lq_e ?_|refine bq_e (by decide) ?_)|((with_reducible refine zC (b:=?b_) ?hb_ ?_ ?_);case hb_=>rfl)|((conv=>whnf);first|(with_reducible refine hK_ _ _ ?_;try clear hK_ K_)|(with_reducible refine fun (g_:Sl) (o_:Ow)=>?_)|(with_reducible first|exact True.intro|refine And.intro trivial ?_|refine And.intro ?_ ?_)|exact Nat.le_of_ble_eq_true rfl|exact Or.inl rfl|(intro h_;cases h_)|(intro h_;(try simp only [vS1] at h_))|rfl))) <;> (try (conv=>whnf)) <;> (try first|change (_:Int)≤_|change (_:Nat)≤_) <;> (try ((fail_if_success (with_reducible apply Exists.intro));(try dsimp only);(try simp only [vS1]))) <;> (try simp (disch:=omega) only [vS3,Int.add_sub_cancel,tn1,tnp,tnc,vS2] at *)
 all_goals (try (fail_if_success (with_reducible apply Exists.intro));first|with_reducible assumption|omega|exact mdl (by omega)|exact ilo1 (by omega)|exact ilo2 (by omega)|exact ihi1 (by omega) (by omega)|exact ihi2 (by omega) (by omega))
 all_goals first
  | exact wb_no (.inl (by assumption))
  | exact wb_no (.inr (by assumption))
  | skip
end Go.Proofs.YtnepfcnlngpchaaGreat
namespace Go.Proofs.YtnepfcnlngpchaaGreat
open Go.RowKit Go.Proofs.YtnepfcnlngpchaaGreat.Nm
set_option maxRecDepth 10000
set_option maxHeartbeats 2000000
def edgL (i:Nat) (ks:List Int):List (List Int):=(ks.filter fun k=>decide ((i:Int) < k)).map fun k=>[(i:Int),k]
theorem edgL_snoc (i:Nat) (ks:List Int) (k:Int):edgL i (ks ++ [k])=edgL i ks ++ (if (i:Int) < k then [[(i:Int),k]] else []):=by
 unfold edgL
 rw [List.filter_append,List.map_append,List.filter_cons]
 congr 1
 by_cases h:(i:Int) < k
 ·rw [if_pos (decide_eq_true h),if_pos h];rfl
 ·rw [if_neg (by simpa using h),if_neg h];rfl
theorem edgL_yes {i:Nat} {ks:List Int} {k:Int} (h:(i:Int) < k):edgL i ks ++ [[(i:Int),k]]=edgL i (ks ++ [k]):=by rw [edgL_snoc,if_pos h]
theorem edgL_no {i:Nat} {ks:List Int} {k:Int} (h:¬ (i:Int) < k):edgL i ks=edgL i (ks ++ [k]):=by rw [edgL_snoc,if_neg h,List.append_nil]
def edgTo (l:List Tri) (i:Nat):List (List Int):=(List.range i).flatMap fun j=>edgL j (besTo l j l.length)
theorem edgTo_succ (l:List Tri) (i:Nat):edgTo l (i + 1)=edgTo l i ++ edgL i (besTo l i l.length):=by unfold edgTo;rw [List.range_succ,List.flatMap_append];simp
def treeEM (xs:List Pt):List (List Int):=edgTo (trisM xs) (trisM xs).length
theorem edgL_len (i:Nat) (ks:List Int):(edgL i ks).length≤ks.length:=by unfold edgL;rw [List.length_map];exact List.length_filter_le _ _
theorem edgTo_len (l:List Tri):∀ i,(edgTo l i).length≤i * l.length
 | 0=>by simp [edgTo]
 | i + 1=>by
  rw [edgTo_succ,List.length_append,Nat.add_mul]
  have h1:=edgTo_len l i
  have h2:=edgL_len i (besTo l i l.length)
  have h3:=besTo_len l i l.length
  omega
theorem tris_len12 (xs:List Pt):(trisM xs).length≤12:=by
 rcases tris_or xs with e|e
 ·omega
 ·have:=tris_len xs;omega
def treeEC:Con:=mkConD [.room] (fun x=>x.1.length≤1048576) (fun x=>⟨.one (.own 0 0),some ⟨t_sl_int,none,.s .int,treeEM x.1⟩⟩) t_int
theorem iTreeEdges_ok:Good1 Tryz.prog n_impl_TreeEdges treeEC:=by
 refine good_ofD (tys:=tyL) (env:=[(n_impl_TrianglesOf,trisC),(n_impl_beside,besideC)]) (envw:=[]) (envd:=[]) [12,32,33,34] [] [] [] [12,33,34] mixed tys ⟨iTrianglesOf_ok,beside_ok,trivial⟩ trivial trivial Tryz.func22 rfl (by kernel_rfl) (by decide) (by kernel_rfl) ?_
 have hG_:=kpz [(0,[1]),(1,[3]),(2,[3,11]),(3,[2]),(4,[3,4]),(5,[3,4,14,15]),(6,[3,4,14,15,16]),(7,[3,4,5,14,15]),(8,[3,4,5,14,15,20,21,22]),(9,[3,4,5,14,15,20,21,22,23]),(10,[3,4,5,7,14,15,20,21,22]),(11,[3,4,5,7,14,15,20,21,22,28]),(12,[3,4,5,14,15,20,21,22]),(13,[3,4,5,14,15,20,21,22]),(14,[3,4,14,15]),(15,[2])] [(4,[12]),(5,[12]),(6,[12]),(7,[12]),(8,[12]),(9,[12]),(10,[12]),(11,[12]),(12,[12,32,33,34]),(13,[12]),(14,[12]),(15,[12])] [] []
 rintro ⟨(xs:List Pt),⟨⟩⟩ (h1:xs.length≤_)
 have htl:=tris_len12 xs
 (repeat' (first|(with_reducible first|exact True.intro|refine zQ ?_|(refine zG hG_ ?_;intro K_ hK_)|(refine zR ?_;intro K_ hK_)|(refine hK_ _ _ ?_;try clear hK_ K_)|refine sq_n ?_|refine sq_r ?_|refine sq_e ?_|refine bq_n ?_|refine bq_r ?_|refine bq_q ?_|refine zB ?_|refine zX ?_|refine zT ?_|refine zK ?_|refine gq_n ?_|refine gq_r ?_|refine gq_e ?_|refine lq_n ?_|refine lq_r ?_|refine lq_e ?_|refine bq_e (by decide) ?_)|((with_reducible refine zC (b:=?b_) ?hb_ ?_ ?_);case hb_=>rfl)|((conv=>whnf);first|(with_reducible refine hK_ _ _ ?_;try clear hK_ K_)|(with_reducible refine fun (g_:Sl) (o_:Ow)=>?_)|(with_reducible first|exact True.intro|refine And.intro trivial ?_|refine And.intro ?_ ?_)|exact Nat.le_of_ble_eq_true rfl|exact Or.inl rfl|(intro h_;cases h_)|(intro h_;(try simp only [vS1] at h_))|rfl))) <;> (try (conv=>whnf)) <;> (try first|change (_:Int)≤_|change (_:Nat)≤_) <;> (try ((fail_if_success (with_reducible apply Exists.intro));(try dsimp only);(try simp only [vS1]))) <;> (try simp (disch:=omega) only [vS3,Int.add_sub_cancel,tn1,tnp,tnc,vS2] at *)
 all_goals (try (fail_if_success (with_reducible apply Exists.intro));first|with_reducible assumption|omega|exact mdl (by omega)|exact ilo1 (by omega)|exact ilo2 (by omega)|exact ihi1 (by omega) (by omega)|exact ihi2 (by omega) (by omega))
 ·unfold treeEM;rw [h_];rfl
 have hne:trisM xs≠[]:=h_
 refine awp'_loopG (α:=Nat) (fun i ver_=>[(15,vInt i)]) (fun i ver_=>[(4,12,false,.deep t_sl_int t_int .int (edgTo (trisM xs) i) noG)]) (fun i ver_=>[]) (fun i=>i≤(trisM xs).length) (fun i=>(trisM xs).length - i) [3,14] [] (0) ?_
 conv=>whnf
 refine ⟨⟨?inv1_,?vals1_,?own1_,?fix1_⟩,?body1_⟩
 case' vals1_=>(repeat' (first|(with_reducible first|exact True.intro|refine And.intro ?_ ?_|refine Head.mk ?_ ?_ ?_ ?_)|((conv=>lhs;whnf);first|(with_reducible first|rfl|exact vInt_s (by omega))|exact rfl)|((conv=>whnf);first|(with_reducible first|exact True.intro|refine And.intro ?_ ?_)))) <;> (try (conv=>lhs;whnf))
 case' own1_=>(repeat' (first|(with_reducible first|exact True.intro|refine And.intro ?_ ?_|refine Head.mk ?_ ?_ ?_ ?_)|((conv=>lhs;whnf);first|(with_reducible first|rfl|exact vInt_s (by omega))|exact rfl)|((conv=>whnf);first|(with_reducible first|exact True.intro|refine And.intro ?_ ?_)))) <;> (try (conv=>lhs;whnf))
 case' fix1_=>(repeat' (first|(with_reducible first|exact True.intro|refine And.intro ?_ ?_|refine Head.mk ?_ ?_ ?_ ?_)|((conv=>lhs;whnf);first|(with_reducible first|rfl|exact vInt_s (by omega))|exact rfl)|((conv=>whnf);first|(with_reducible first|exact True.intro|refine And.intro ?_ ?_)))) <;> (try (conv=>lhs;whnf))
 ·exact Nat.zero_le _
 rintro i g_ o_ v_ hi
 have htn:(trisM xs).length≤12:=htl
 (repeat' (first|(with_reducible first|exact True.intro|refine zQ ?_|(refine zG hG_ ?_;intro K_ hK_)|(refine zR ?_;intro K_ hK_)|(refine hK_ _ _ ?_;try clear hK_ K_)|refine sq_n ?_|refine sq_r ?_|refine sq_e ?_|refine bq_n ?_|refine bq_r ?_|refine bq_q ?_|refine zB ?_|refine zX ?_|refine zT ?_|refine zK ?_|refine gq_n ?_|refine gq_r ?_|refine gq_e ?_|refine lq_n ?_|refine lq_r ?_|refine lq_e ?_|refine bq_e (by decide) ?_)|((with_reducible refine zC (b:=?b_) ?hb_ ?_ ?_);case hb_=>rfl)|((conv=>whnf);first|(with_reducible refine hK_ _ _ ?_;try clear hK_ K_)|(with_reducible refine fun (g_:Sl) (o_:Ow)=>?_)|(with_reducible first|exact True.intro|refine And.intro trivial ?_|refine And.intro ?_ ?_)|exact Nat.le_of_ble_eq_true rfl|exact Or.inl rfl|(intro h_;cases h_)|(intro h_;(try simp only [vS1] at h_))|rfl))) <;> (try (conv=>whnf)) <;> (try first|change (_:Int)≤_|change (_:Nat)≤_) <;> (try ((fail_if_success (with_reducible apply Exists.intro));(try dsimp only);(try simp only [vS1]))) <;> (try simp (disch:=omega) only [vS3,Int.add_sub_cancel,tn1,tnp,tnc,vS2] at *)
 all_goals (try (fail_if_success (with_reducible apply Exists.intro));first|with_reducible assumption|omega|exact mdl (by omega)|exact ilo1 (by omega)|exact ilo2 (by omega)|exact ihi1 (by omega) (by omega)|exact ihi2 (by omega) (by omega))
 have hbl:=besTo_len (trisM xs) i (trisM xs).length
 have hel:=edgTo_len (trisM xs) i
 have hmul:i * (trisM xs).length≤12 * 12:=Nat.mul_le_mul (by omega) htn
 ·have hb:∃ b,besTo (trisM xs) i (trisM xs).length=b:=⟨_,rfl⟩
  obtain ⟨b,hb⟩:=hb
  have hbl':b.length≤(trisM xs).length:=hb ▸ hbl
  simp only [hb]
  refine awp'_loopG (α:=Nat) (fun j ver_=>[(22,vInt j)]) (fun j ver_=>[(4,12,false,.deep t_sl_int t_int .int (edgTo (trisM xs) i ++ edgL i (b.take j)) noG)]) (fun j ver_=>[]) (fun j=>j≤b.length) (fun j=>b.length - j) [3,5,14,15,20,21] [] (0) ?_
  conv=>whnf
  refine ⟨⟨?inv2_,?vals2_,?own2_,?fix2_⟩,?body2_⟩
  case' vals2_=>(repeat' (first|(with_reducible first|exact True.intro|refine And.intro ?_ ?_|refine Head.mk ?_ ?_ ?_ ?_)|((conv=>lhs;whnf);first|(with_reducible first|rfl|exact vInt_s (by omega))|exact rfl)|((conv=>whnf);first|(with_reducible first|exact True.intro|refine And.intro ?_ ?_)))) <;> (try (conv=>lhs;whnf))
  case' own2_=>(repeat' (first|(with_reducible first|exact True.intro|refine And.intro ?_ ?_|refine Head.mk ?_ ?_ ?_ ?_)|((conv=>lhs;whnf);first|(with_reducible first|rfl|exact vInt_s (by omega))|exact rfl)|((conv=>whnf);first|(with_reducible first|exact True.intro|refine And.intro ?_ ?_)))) <;> (try (conv=>lhs;whnf))
  case' fix2_=>(repeat' (first|(with_reducible first|exact True.intro|refine And.intro ?_ ?_|refine Head.mk ?_ ?_ ?_ ?_)|((conv=>lhs;whnf);first|(with_reducible first|rfl|exact vInt_s (by omega))|exact rfl)|((conv=>whnf);first|(with_reducible first|exact True.intro|refine And.intro ?_ ?_)))) <;> (try (conv=>lhs;whnf))
  ·exact congrArg (fun l=>Own.deep t_sl_int t_int .int l noG) (by simp [edgL])
  ·exact Nat.zero_le _
  rintro j g_ o_ v_ hj
  have hl2:=edgL_len i (b.take j)
  have hl3:(edgTo (trisM xs) i ++ edgL i (b.take j)).length≤200:=by rw [List.length_append];rw [List.length_take] at hl2;omega
  (repeat' (first|(with_reducible first|exact True.intro|refine zQ ?_|(refine zG hG_ ?_;intro K_ hK_)|(refine zR ?_;intro K_ hK_)|(refine hK_ _ _ ?_;try clear hK_ K_)|refine sq_n ?_|refine sq_r ?_|refine sq_e ?_|refine bq_n ?_|refine bq_r ?_|refine bq_q ?_|refine zB ?_|refine zX ?_|refine zT ?_|refine zK ?_|refine gq_n ?_|refine gq_r ?_|refine gq_e ?_|refine lq_n ?_|refine lq_r ?_|refine lq_e ?_|refine bq_e (by decide) ?_)|((with_reducible refine zC (b:=?b_) ?hb_ ?_ ?_);case hb_=>rfl)|((conv=>whnf);first|(with_reducible refine hK_ _ _ ?_;try clear hK_ K_)|(with_reducible refine fun (g_:Sl) (o_:Ow)=>?_)|(with_reducible first|exact True.intro|refine And.intro trivial ?_|refine And.intro ?_ ?_)|exact Nat.le_of_ble_eq_true rfl|exact Or.inl rfl|(intro h_;cases h_)|(intro h_;(try simp only [vS1] at h_))|rfl))) <;> (try (conv=>whnf)) <;> (try first|change (_:Int)≤_|change (_:Nat)≤_) <;> (try ((fail_if_success (with_reducible apply Exists.intro));(try dsimp only);(try simp only [vS1]))) <;> (try simp (disch:=omega) only [vS3,Int.add_sub_cancel,tn1,tnp,tnc,vS2] at *)
  all_goals (try (fail_if_success (with_reducible apply Exists.intro));first|with_reducible assumption|omega|exact mdl (by omega)|exact ilo1 (by omega)|exact ilo2 (by omega)|exact ihi1 (by omega) (by omega)|exact ihi2 (by omega) (by omega))
  ·have hlt:(i:Int) < b.getD j 0:=by assumption
   refine ⟨j + 1,by omega,by omega,?_⟩
   (repeat' (first|(with_reducible first|exact True.intro|refine And.intro ?_ ?_|refine Head.mk ?_ ?_ ?_ ?_)|((conv=>lhs;whnf);first|(with_reducible first|rfl|exact vInt_s (by omega))|exact rfl)|((conv=>whnf);first|(with_reducible first|exact True.intro|refine And.intro ?_ ?_)))) <;> (try (conv=>lhs;whnf))
   refine congrArg (fun l=>Own.deep t_sl_int t_int .int l noG) ?_
   rw [take_snoc 0 (by omega),← edgL_yes hlt,List.append_assoc]
  ·have hlt:¬ (i:Int) < b.getD j 0:=by assumption
   refine ⟨j + 1,by omega,by omega,?_⟩
   (repeat' (first|(with_reducible first|exact True.intro|refine And.intro ?_ ?_|refine Head.mk ?_ ?_ ?_ ?_)|((conv=>lhs;whnf);first|(with_reducible first|rfl|exact vInt_s (by omega))|exact rfl)|((conv=>whnf);first|(with_reducible first|exact True.intro|refine And.intro ?_ ?_)))) <;> (try (conv=>lhs;whnf))
   refine congrArg (fun l=>Own.deep t_sl_int t_int .int l noG) ?_
   rw [take_snoc 0 (by omega),← edgL_no hlt]
  ·refine ⟨i + 1,by omega,by omega,?_⟩
   (repeat' (first|(with_reducible first|exact True.intro|refine And.intro ?_ ?_|refine Head.mk ?_ ?_ ?_ ?_)|((conv=>lhs;whnf);first|(with_reducible first|rfl|exact vInt_s (by omega))|exact rfl)|((conv=>whnf);first|(with_reducible first|exact True.intro|refine And.intro ?_ ?_)))) <;> (try (conv=>lhs;whnf))
   refine congrArg (fun l=>Own.deep t_sl_int t_int .int l noG) ?_
   rw [edgTo_succ,List.take_of_length_le (by omega),hb]
 ·exact congrArg some (by unfold treeEM;rw [show i=(trisM xs).length by omega])
end Go.Proofs.YtnepfcnlngpchaaGreat
namespace Go.Proofs.YtnepfcnlngpchaaGreat
open Go.RowKit Go.Proofs.YtnepfcnlngpchaaGreat.Nm
theorem cnt_none {p:Nat→Bool}:∀ {n:Nat},(∀ j,j < n→p j=false)→(List.range n).countP p=0
 | 0,_=>rfl
 | n + 1,h=>by
  rw [List.range_succ,List.countP_append,cnt_none fun j hj=>h j (by omega)]
  simp [List.countP_cons,h n (by omega)]
theorem cnt_one {p:Nat→Bool} {c:Nat}:∀ {n:Nat},c < n→(∀ j,j < n→(p j=true↔j=c))→(List.range n).countP p=1
 | 0,h,_=>by omega
 | n + 1,h,hp=>by
  rw [List.range_succ,List.countP_append]
  rcases (show c=n∨c < n by omega) with e|e
  ·subst e
   rw [cnt_none fun j hj=>Bool.eq_false_iff.2 fun g=>by have:=(hp j (by omega)).1 g;omega]
   simp [List.countP_cons,(hp c (by omega)).2 rfl]
  ·rw [cnt_one e fun j hj=>hp j (by omega)]
   have:p n=false:=Bool.eq_false_iff.2 fun g=>by have:=(hp n (by omega)).1 g;omega
   simp [List.countP_cons,this]
theorem cnt_two {p:Nat→Bool} {i j n:Nat} (hi:i < n) (hj:j < n) (hij:i≠j) (pi:p i=true) (pj:p j=true):2≤((List.range n).filter p).length:=by
 have mi:i∈(List.range n).filter p:=List.mem_filter.2 ⟨List.mem_range.2 hi,pi⟩
 have mj:j∈(List.range n).filter p:=List.mem_filter.2 ⟨List.mem_range.2 hj,pj⟩
 generalize (List.range n).filter p=L at *
 match L,mi,mj with
 | [x],mi,mj=>exact absurd ((List.mem_singleton.1 mi).trans (List.mem_singleton.1 mj).symm) hij
 | x :: y :: r,_,_=>simp
theorem nat_nodup:∀ (l m:List Nat),l.Nodup→(∀ q∈l,q∈m)→l.length≤m.length
 | [],_,_,_=>Nat.zero_le _
 | a :: l,m,hd,hs=>by
  have hd':=List.nodup_cons.1 hd
  have ha:=hs a List.mem_cons_self
  have ih:=nat_nodup l (m.erase a) hd'.2 fun q hq=>by
   refine (List.mem_erase_of_ne fun e=>?_).2 (hs q (List.mem_cons_of_mem _ hq))
   subst e
   exact hd'.1 hq
  rw [List.length_erase_of_mem ha] at ih
  have:=List.length_pos_of_mem ha
  simp only [List.length_cons]
  omega
theorem pth_nodup {m:Nat} {par:Nat→Nat} (h:IsPar m par):∀ v a,v < m→a < m→(pth m par v a).Nodup:=by
 refine pth_ind h (fun v hv=>?_) (fun v a hva ha ih=>?_) (fun v a hva hv ih=>?_)
 ·rw [pth_self hv];simp
 ·have hp:=h v (by omega)
  rw [pth_lt h hva ha]
  refine List.nodup_cons.2 ⟨fun hm=>?_,ih⟩
  have:=(pth_ge h (par v) a hp.2 ha v hm).1
  omega
 ·have hp:=h a (by omega)
  rw [pth_gt h hva hv]
  refine List.nodup_append.2 ⟨ih,by simp,fun x hx y hy e=>?_⟩
  rw [List.mem_singleton.1 hy] at e
  subst e
  have:=(pth_ge h v (par x) hv hp.2 x hx).1
  omega
theorem pth_short {m:Nat} {par:Nat→Nat} (h:IsPar m par) {v a:Nat} (hv:v < m) (ha:a < m):(pth m par v a).length≤m:=by
 have:=nat_nodup _ (List.range m) (pth_nodup h v a hv ha) fun q hq=>List.mem_range.2 (pth_ge h v a hv ha q hq).2
 rwa [List.length_range] at this
theorem pth_step {m:Nat} {par:Nat→Nat} (h:IsPar m par) {a:Nat} (ha:a < m):∀ (k v:Nat),v < m→k + 1 < (pth m par v a).length→TAdj m par ((pth m par v a).getD k 0) ((pth m par v a).getD (k + 1) 0)
 | k,v,hv,hk=>by
  by_cases e:v=a
  ·subst e;rw [pth_self hv] at hk;simp at hk
  ·obtain ⟨y,r,hy,e1,e2,ht⟩:=pth_tail h v a hv ha e
   match k with
   | 0=>rw [e1];exact ht
   | k + 1=>
    have ih:=pth_step h ha k y hy (by rw [e1] at hk;rw [e2];simpa using hk)
    rw [e2] at ih
    rw [e1]
    exact ih
theorem pth_at {m:Nat} {par:Nat→Nat} (h:IsPar m par) {v a:Nat} (hv:v < m) (ha:a < m):(pth m par v a).getD 0 0=v∧(pth m par v a).getD ((pth m par v a).length - 1) 0=a:=by
 have hp:=pth_len h hv ha
 refine ⟨?_,?_⟩
 ·obtain ⟨r,e⟩:=pth_hd h v a hv ha
  rw [e];rfl
 ·obtain ⟨r,e⟩:=pth_hd h a v ha hv
  have hr:=pth_rev h a v ha hv
  have hl:(pth m par v a).length=(pth m par a v).length:=by rw [← hr,List.length_reverse]
  rw [← hr,List.getD_eq_getElem?_getD,List.getElem?_reverse (by rw [List.length_reverse];omega),List.length_reverse,show (pth m par a v).length - 1 - ((pth m par a v).length - 1)=0 by omega,e];rfl
theorem pth_lt_all {m:Nat} {par:Nat→Nat} (h:IsPar m par) {v a:Nat} (hv:v < m) (ha:a < m) {k:Nat} (hk:k < (pth m par v a).length):(pth m par v a).getD k 0 < m:=by
 rw [getD_lt _ hk]
 exact (pth_ge h v a hv ha _ (List.getElem_mem hk)).2
theorem leaf_of {xs:List Pt} {v c:Nat} (hv:v < (trisM xs).length) (hc:c < (trisM xs).length) (h:∀ j,j < (trisM xs).length→(TAdj (trisM xs).length (parT xs) v j↔j=c)):leafAt (trisM xs) v=true:=by
 unfold leafAt besTo
 rw [decide_eq_true_eq,List.length_map,← List.countP_eq_length_filter]
 exact cnt_one hc fun j hj=>(adj_iff hv hj).trans (h j hj)
theorem two_leaves {xs:List Pt} (h2:2≤(trisM xs).length):2≤(leafM xs).length:=by
 have hp:=parT_is xs
 unfold leafM selTo
 rw [List.length_map]
 have l0:leafAt (trisM xs) 0=true:=by
  refine leaf_of (by omega) (hp 0 (by omega)).2 fun j hj=>?_
  unfold TAdj
  constructor
  ·rintro (⟨-,e⟩|⟨e1,e2⟩)
   ·exact e
   ·have:=(hp j e1).1;omega
  ·intro e;exact .inl ⟨by omega,e⟩
 by_cases hex:∃ i,0 < i∧i + 1 < (trisM xs).length∧∀ j,j + 1 < (trisM xs).length→parT xs j≠i
 ·obtain ⟨i,i0,im,hno⟩:=hex
  refine cnt_two (i:=0) (j:=i) (by omega) (by omega) (by omega) l0 ?_
  refine leaf_of (by omega) (hp i im).2 fun j hj=>?_
  unfold TAdj
  constructor
  ·rintro (⟨-,e⟩|⟨e1,e2⟩)
   ·exact e
   ·exact absurd e2.symm (hno j e1)
  ·intro e;exact .inl ⟨im,e⟩
 ·have hsur:∀ i,0 < i→i + 1 < (trisM xs).length→∃ j,j + 1 < (trisM xs).length∧parT xs j=i:=fun i i0 im=>by
   by_cases g:∃ j,j + 1 < (trisM xs).length∧parT xs j=i
   ·exact g
   ·exact absurd ⟨i,i0,im,fun j hj e=>g ⟨j,hj,e⟩⟩ hex
  have line:∀ i,i + 1 < (trisM xs).length→parT xs i=i + 1:=fun i=>by
   induction i using Nat.strongRecOn with
   | _ i ih=>
    intro hi
    rcases (show i + 2 < (trisM xs).length∨i + 2=(trisM xs).length by omega) with g|g
    ·obtain ⟨j,hj,e⟩:=hsur (i + 1) (by omega) (by omega)
     have:=(hp j hj).1
     rcases (show j < i∨j=i by omega) with q|q
     ·have:=ih j q hj;omega
     ·subst q;exact e
    ·have:=hp i hi;omega
  refine cnt_two (i:=0) (j:=(trisM xs).length - 1) (by omega) (by omega) (by omega) l0 ?_
  refine leaf_of (c:=(trisM xs).length - 2) (by omega) (by omega) fun j hj=>?_
  unfold TAdj
  constructor
  ·rintro (⟨e1,-⟩|⟨e1,e2⟩)
   ·omega
   ·rw [line j e1] at e2;omega
  ·intro e
   refine .inr ⟨by omega,?_⟩
   rw [line j (by omega)];omega
theorem edg_cnt {xs:List Pt} {i:Nat} (hi:i < (trisM xs).length):(edgL i (besTo (trisM xs) i (trisM xs).length)).length=if i + 1 < (trisM xs).length then 1 else 0:=by
 have hp:=parT_is xs
 unfold edgL besTo
 rw [List.length_map,← List.countP_eq_length_filter,List.countP_map,List.countP_filter]
 have key:∀ j,j < (trisM xs).length→((((fun k=>decide ((i:Int) < k)) ∘ fun j:Nat=>(j:Int)) j && besAt (trisM xs) (i:Int) j)=true↔i < j∧TAdj (trisM xs).length (parT xs) i j):=fun j hj=>by
  rw [Bool.and_eq_true,adj_iff hi hj]
  refine and_congr_left fun _=>?_
  show decide ((i:Int) < (j:Int))=true↔_
  rw [decide_eq_true_eq]
  omega
 split
 ·rename_i h1
  refine cnt_one (hp i h1).2 fun j hj=>(key j hj).trans ?_
  unfold TAdj
  constructor
  ·rintro ⟨e0,⟨-,e⟩|⟨e1,e2⟩⟩
   ·exact e
   ·have:=(hp j e1).1;omega
  ·intro e
   have:=(hp i h1).1
   exact ⟨by omega,.inl ⟨h1,e⟩⟩
 ·rename_i h1
  refine cnt_none fun j hj=>Bool.eq_false_iff.2 fun g=>?_
  obtain ⟨e0,-⟩:=(key j hj).1 g
  omega
theorem edges_cnt {xs:List Pt}:∀ {i:Nat},i≤(trisM xs).length→(edgTo (trisM xs) i).length=min i ((trisM xs).length - 1)
 | 0,_=>by simp [edgTo]
 | i + 1,h=>by
  rw [edgTo_succ,List.length_append,edges_cnt (i:=i) (by omega),edg_cnt (by omega)]
  split <;> omega
theorem treeE_cnt {xs:List Pt} (h:trisM xs≠[]):(treeEM xs).length + 1=(trisM xs).length:=by
 have:=List.length_pos_iff.2 h
 unfold treeEM
 rw [edges_cnt (Nat.le_refl _)]
 omega
end Go.Proofs.YtnepfcnlngpchaaGreat
