/- What the proof of 'FnExactPartsOf' needs, part 1: conditions and steps of the functions that it reaches, and the mathematics. -/
import Derived.Test.YtpafacebfogkmaaGreatRows
import Derived.WalkKit
import Derived.WalkSpells
import Derived.Below
import Derived.Orders
import Derived.Maps.AppendAt
set_option linter.unusedSimpArgs false
set_option linter.unusedVariables false
namespace Go.Proofs.YtpafacebfogkmaaGreat.Nm
abbrev n_laws_FnExactPartsOf:Nat:=4
abbrev n_impl_PartsOf:Nat:=7
abbrev n_impl_ArePlans:Nat:=10
abbrev n_laws_szRoom:Nat:=12
abbrev n_laws_szIntSS:Nat:=13
abbrev n_spec_PartsOf:Nat:=14
abbrev n_laws_toRoom:Nat:=15
abbrev n_laws_toIntSS:Nat:=16
abbrev n_laws_eqIntSS:Nat:=17
abbrev n_laws_eqRoom:Nat:=18
abbrev n_laws_markRoom:Nat:=19
abbrev n_laws_markIntSS:Nat:=20
abbrev n_laws_heldIntSS:Nat:=21
abbrev n_slices_IndexFunc___int:Nat:=25
abbrev n_impl_PartsOf_1:Nat:=26
abbrev n_slices_Contains_int:Nat:=27
abbrev n_impl_between:Nat:=28
abbrev n_slices_SortFunc___int:Nat:=29
abbrev n_impl_PartsOf_2:Nat:=30
abbrev n_slices_Compare_int:Nat:=31
abbrev n_impl_RoomOk:Nat:=32
abbrev n_impl_crosses:Nat:=34
abbrev n_impl_area:Nat:=35
abbrev n_impl_diagonal:Nat:=37
abbrev n_slices_Equal_int:Nat:=38
abbrev n_impl_DoDiagonalsCross:Nat:=39
abbrev n_impl_pointsOk:Nat:=40
abbrev n_laws_szPointS:Nat:=41
abbrev n_laws_szIntS:Nat:=42
abbrev n_spec_ArePlans:Nat:=43
abbrev n_spec_l19Has:Nat:=44
abbrev n_spec_l19Less:Nat:=45
abbrev n_laws_toPointS:Nat:=46
abbrev n_laws_toIntS:Nat:=47
abbrev n_laws_eqIntS:Nat:=48
abbrev n_laws_eqPointS:Nat:=49
abbrev n_laws_markPointS:Nat:=50
abbrev n_laws_markIntS:Nat:=51
abbrev n_laws_heldIntS:Nat:=52
abbrev n_spec_RoomOk:Nat:=56
abbrev n_slices_Index_int:Nat:=59
abbrev n_math_bits_Len:Nat:=61
abbrev n_impl_wallsOf:Nat:=63
abbrev n_impl_turn:Nat:=64
abbrev n_impl_DoMeet:Nat:=65
abbrev n_impl_sign:Nat:=66
abbrev n_impl_neighbors:Nat:=67
abbrev n_impl_cornersBetween:Nat:=68
abbrev n_impl_sees:Nat:=69
abbrev n_impl_middle:Nat:=70
abbrev n_impl_IsDiagonal:Nat:=71
abbrev n_impl_PointOk:Nat:=72
abbrev n_spec_IsDiagonal:Nat:=73
abbrev n_spec_DoDiagonalsCross:Nat:=74
abbrev n_laws_toPoint:Nat:=75
abbrev n_laws_eqPoint:Nat:=76
abbrev n_spec_l01In:Nat:=78
abbrev n_spec_PointOk:Nat:=79
abbrev n_spec_l02Turn:Nat:=80
abbrev n_spec_DoMeet:Nat:=81
abbrev n_spec_l04Double:Nat:=82
abbrev n_spec_l03Cross:Nat:=84
abbrev n_impl_WallOk:Nat:=96
abbrev n_impl_on:Nat:=97
abbrev n_slices_SortFunc_impl_Point:Nat:=98
abbrev n_impl_cornersBetween_1:Nat:=99
abbrev n_impl_twice:Nat:=101
abbrev n_impl_place:Nat:=102
abbrev n_spec_l09Diagonal:Nat:=103
abbrev n_spec_WallOk:Nat:=104
abbrev n_spec_DoCross:Nat:=105
abbrev n_spec_IsOnWall:Nat:=106
abbrev n_spec_l03Sign:Nat:=107
abbrev n_spec_l08Sees:Nat:=114
abbrev n_spec_l02Between:Nat:=115
abbrev n_spec_l08Doubled:Nat:=116
abbrev n_spec_l05Holds:Nat:=117
abbrev n_spec_IsBetween:Nat:=118
abbrev t_int:Nat:=3
abbrev t_bool:Nat:=4
abbrev t_uint8:Nat:=5
abbrev t_sl_uint8:Nat:=22
abbrev t_sl_impl_Point:Nat:=24
abbrev t_impl_Room:Nat:=26
abbrev t_sl_sl_int:Nat:=27
abbrev t_sl_int:Nat:=33
abbrev t_sl_laws_Point:Nat:=36
abbrev t_laws_Room:Nat:=38
abbrev t_impl_Point:Nat:=60
abbrev t_impl_Wall:Nat:=62
abbrev t_spec_l01Cur:Nat:=75
abbrev t_uint:Nat:=82
abbrev t_sl_impl_Wall:Nat:=84
abbrev t_laws_Point:Nat:=93
end Go.Proofs.YtpafacebfogkmaaGreat.Nm
namespace Go.Proofs.YtpafacebfogkmaaGreat
open Go.RowKit
inductive ElB where
 | int|bool|pt|wall|tri|u8
 deriving DecidableEq
@[reducible] def ElB.T:ElB→Type
 | .int=>Int
 | .bool=>Bool
 | .pt=>Int × Int
 | .wall=>(Int × Int) × (Int × Int)
 | .tri=>Int × Int × Int
 | .u8=>Int
@[reducible] def ElB.dflt:(k:ElB)→k.T
 | .int=>(0:Int)
 | .bool=>false
 | .pt=>((0,0):Int × Int)
 | .wall=>(((0,0),(0,0)):(Int × Int) × (Int × Int))
 | .tri=>((0,0,0):Int × Int × Int)
 | .u8=>(0:Int)
@[reducible] def ElB.size:ElB→Nat
 | .int|.bool|.u8=>1
 | .pt=>2
 | .wall=>4
 | .tri=>3
inductive ElK where
 | b (e:ElB)
 | s (e:ElB)
 deriving DecidableEq
@[reducible] def ElK.T:ElK→Type
 | .b e=>e.T
 | .s e=>List e.T
@[reducible] def ElK.dflt:(k:ElK)→k.T
 | .b e=>e.dflt
 | .s e=>([]:List e.T)
@[reducible] def ElK.size:ElK→Nat
 | .b e=>e.size
 | .s _=>1
inductive D where
 | int (k:IntKind) (n:Int)
 | bool (b:Bool)
 | nil
 | sl (nl:Option Bool) (k:ElK) (xs:List k.T)
 | full (k:ElK) (xs:List k.T)
 | ptr (cs:List D)
 | clo (f:FuncId) (caps:List D)
inductive Cell where
 | d (x:D)
 | own (l ver:Nat)
 | ptr (l ver i j:Nat)
 | sub (l ver off n:Nat)
inductive AV where
 | one (c:Cell)
 | agg (cs:List Cell)
 | tup (xs:List (Cell ⊕ List Cell))
 | junk
def ElB.enc:(k:ElB)→k.T→List D
 | .int,x=>[.int .i64 x]
 | .bool,x=>[.bool x]
 | .pt,x=>[.int .i64 x.1,.int .i64 x.2]
 | .wall,x=>[.int .i64 x.1.1,.int .i64 x.1.2,.int .i64 x.2.1,.int .i64 x.2.2]
 | .tri,x=>[.int .i64 x.1,.int .i64 x.2.1,.int .i64 x.2.2]
 | .u8,x=>[.int .u8 x]
def ElB.encV:(k:ElB)→k.T→List Value
 | .int,x=>[.int .i64 x]
 | .bool,x=>[.bool x]
 | .pt,x=>[.int .i64 x.1,.int .i64 x.2]
 | .wall,x=>[.int .i64 x.1.1,.int .i64 x.1.2,.int .i64 x.2.1,.int .i64 x.2.2]
 | .tri,x=>[.int .i64 x.1,.int .i64 x.2.1,.int .i64 x.2.2]
 | .u8,x=>[.int .u8 x]
def ElK.enc:(k:ElK)→k.T→List D
 | .b e,x=>e.enc x
 | .s e,x=>[.sl none (.b e) x]
def ElK.dec:(k:ElK)→List Cell→Option k.T
 | .b .int,[.d (.int .i64 x)]=>some x
 | .b .bool,[.d (.bool x)]=>some x
 | .b .pt,[.d (.int .i64 x),.d (.int .i64 y)]=>some (x,y)
 | .b .wall,[.d (.int .i64 x),.d (.int .i64 y),.d (.int .i64 z),.d (.int .i64 u)]=>some ((x,y),(z,u))
 | .b .tri,[.d (.int .i64 x),.d (.int .i64 y),.d (.int .i64 z)]=>some (x,y,z)
 | .b .u8,[.d (.int .u8 x)]=>some x
 | .s .int,[.d (.sl _ (.b .int) xs)]=>some xs
 | .s .bool,[.d (.sl _ (.b .bool) xs)]=>some xs
 | .s .int,[.d .nil]=>some []
 | .s .bool,[.d .nil]=>some []
 | _,_=>none
def SLg (w:World) (F:Nat→Prop) (size:Nat) {α:Type} (E:α→List Value→Prop) (xs:List α) (v:Value):Prop:=
 (v=.slice none 0 0∧xs=[]) ∨
 ∃ ad c,v=.slice (some ad) xs.length c∧xs.length≤c∧(xs=[]∨F ad.block) ∧
  ∀ i x,xs[i]?=some x→∃ us:List Value,us.length=size∧E x us∧∀ j u,us[j]?=some u→w.cell? (ad.add (i * size + j))=some u
def Elem (w:World) (F:Nat→Prop):(k:ElK)→k.T→List Value→Prop
 | .b e,x,us=>us=e.encV x
 | .s e,x,us=>∃ u,us=[u]∧SLg w F e.size (fun y vs=>vs=e.encV y) x u
def SLK (w:World) (F:Nat→Prop) (k:ElK) (xs:List k.T) (v:Value):Prop:=SLg w F k.size (Elem w F k) xs v
def nilOk (nl:Option Bool) (v:Value):Prop:=∀ b,nl=some b→(b=true↔v=.slice none 0 0)
inductive DC (w:World) (F:Nat→Prop):D→Value→Prop
 | int (k:IntKind) (n:Int):DC w F (.int k n) (.int k n)
 | bool (b:Bool):DC w F (.bool b) (.bool b)
 | nil:DC w F .nil (.slice none 0 0)
 | sl {nl:Option Bool} {k:ElK} {xs:List k.T} {v:Value} (hn:nilOk nl v) (h:SLK w F k xs v):DC w F (.sl nl k xs) v
 | full {k:ElK} {xs:List k.T} {v:Value} (h:SLK w F k xs v) (hc:∃ pa n,v=.slice pa n n):DC w F (.full k xs) v
 | ptr {cs:List D} (ad:Addr) (us:List Value) (hl:us.length=cs.length) (hF:F ad.block) (h1:∀ (j:Nat) u,us[j]?=some u→w.cell? (ad.add j)=some u)
   (h2:∀ (j:Nat) x u,cs[j]?=some x→us[j]?=some u→DC w F x u):DC w F (.ptr cs) (.pointer (some ad))
 | clo {f:FuncId} {caps:List D} (us:List Value) (hl:us.length=caps.length)
   (h:∀ (j:Nat) x u,caps[j]?=some x→us[j]?=some u→DC w F x u):DC w F (.clo f caps) (.func (.func f) #[] us.toArray)
inductive Own where
 | dead
 | box (ty:TypeId) (cs:List Cell)
 | row (ty:TypeId) (k:ElK) (xs:List k.T)
 | tail (ty:TypeId) (k:ElK) (xs:List k.T)
 | deep (ty ety:TypeId) (e:ElB) (xs:List (List e.T)) (g:Nat→Bool)
def Own.rowy:Own→Prop
 | .row ..=>True
 | .tail ..=>True
 | .deep ..=>True
 | _=>False
structure Loc where
 ver:Nat
 obj:Own
structure St where
 slots:Nat→AV
 own:Nat→Loc
def upd {α:Type} (f:Nat→α) (t:Nat) (x:α):Nat→α:=fun n=>bif Nat.beq n t then x else f n
theorem upd_eq {α:Type} (f:Nat→α) (t:Nat) (x:α):upd f t x t=x:=by simp [upd]
theorem upd_ne {α:Type} (f:Nat→α) {t n:Nat} (x:α) (h:n≠t):upd f t x n=f n:=by
 have:Nat.beq n t=false:=by
  cases hb:Nat.beq n t
  ·rfl
  ·exact absurd (Nat.eq_of_beq_eq_true hb) h
 simp [upd,this]
theorem upd_self {α:Type} {f:Nat→α} {t:Nat} {x:α} (h:f t=x):upd f t x=f:=by
 funext n
 by_cases e:n=t
 ·subst e;rw [upd_eq,h]
 ·rw [upd_ne _ _ e]
def pl (l:Nat):Nat:=2 * l
def inn (l i:Nat):Nat:=2 * (2 ^ l * (2 * i + 1)) + 1
theorem inn_pl (l i m:Nat):inn l i≠pl m:=fun e=>by unfold inn pl at e;omega
theorem pow_odd:∀ {l m i j:Nat},2 ^ l * (2 * i + 1)=2 ^ m * (2 * j + 1)→l=m∧i=j
 | 0,0,i,j,h=>⟨rfl,by simp at h;omega⟩
 | 0,m + 1,i,j,h=>by
  rw [Nat.pow_succ,Nat.mul_right_comm] at h
  generalize 2 ^ m * (2 * j + 1)=q at h
  simp at h
  omega
 | l + 1,0,i,j,h=>by
  rw [Nat.pow_succ,Nat.mul_right_comm] at h
  generalize 2 ^ l * (2 * i + 1)=q at h
  simp at h
  omega
 | l + 1,m + 1,i,j,h=>by
  rw [Nat.pow_succ,Nat.pow_succ,Nat.mul_right_comm,Nat.mul_right_comm (2 ^ m)] at h
  obtain ⟨h1,h2⟩:=pow_odd (Nat.eq_of_mul_eq_mul_right (show 0 < 2 by decide) h)
  exact ⟨by rw [h1],h2⟩
theorem inn_inj {l i m j:Nat} (h:inn l i=inn m j):l=m∧i=j:=by
 unfold inn at h
 exact pow_odd (by omega)
theorem pl_ne {l m:Nat} (h:l≠m):pl l≠pl m:=fun e=>h (by unfold pl at e;omega)
def srt:Nat:=4611686018427387904
def sees (g:Nat→Bool) (i:Nat):Prop:=g i=false∧g srt=false
def blk:Value→Option Nat
 | .pointer (some ⟨b,0,none⟩)=>some b
 | .slice (some ⟨b,_,none⟩) _ _=>some b
 | _=>none
def CellC (w:World) (F:Nat→Prop) (ρ:Nat→Value) (own:Nat→Loc):Cell→Value→Prop
 | .d x,v=>DC w F x v
 | .own l ver,v=>v.oneCell'=true∧ver≤(own l).ver∧((own l).ver=ver∧(own l).obj.rowy→v=ρ (pl l))
 | .ptr l ver i j,v=>v.oneCell'=true∧ver≤(own l).ver∧((own l).ver=ver→match (own l).obj with
  | .dead=>True
  | .deep _ _ _ xs g=>match j with
   | 0=>∃ b,blk (ρ (pl l))=some b∧v=.pointer (some ⟨b,i,none⟩)
   | m + 1=>∀ x,xs[i]?=some x→sees g i→∃ b,blk (ρ (inn l i))=some b∧v=.pointer (some ⟨b,m,none⟩)
  | .box _ _=>∃ b,blk (ρ (pl l))=some b∧v=.pointer (some ⟨b,j,none⟩)∧i=0
  | .row _ k _=>∃ b,blk (ρ (pl l))=some b∧v=.pointer (some ⟨b,i * k.size + j,none⟩)
  | .tail _ k _=>∃ b off n c,ρ (pl l)=.slice (some ⟨b,off,none⟩) n c∧v=.pointer (some ⟨b,off + (i * k.size + j),none⟩))
 | .sub l ver off n,v=>v.oneCell'=true∧ver≤(own l).ver∧((own l).ver=ver→(∀ ty k xs,(own l).obj=.row ty k xs→∃ b c,blk (ρ (pl l))=some b∧n≤c∧v=.slice (some ⟨b,off * k.size,none⟩) n c) ∧
   ∀ ty ety e xs g x,(own l).obj=.deep ty ety e xs g→xs[off]?=some x→sees g off→v=ρ (inn l off))
def CellsG (C:Cell→Value→Prop) (cs:List Cell) (vs:List Value):Prop:=
 vs.length=cs.length∧∀ (j:Nat) c v,cs[j]?=some c→vs[j]?=some v→C c v
def SumG (C:Cell→Value→Prop):Cell ⊕ List Cell→Value→Prop
 | .inl c,v=>C c v
 | .inr cs,v=>∃ vs:List Value,v=.agg vs.toArray∧CellsG C cs vs
def AVG (C:Cell→Value→Prop):AV→Value→Prop
 | .one c,v=>C c v
 | .agg cs,v=>∃ vs:List Value,v=.agg vs.toArray∧CellsG C cs vs
 | .tup xs,v=>∃ vs:List Value,v=.tuple vs.toArray∧vs.length=xs.length∧∀ (j:Nat) x u,xs[j]?=some x→vs[j]?=some u→SumG C x u
 | .junk,_=>True
abbrev CellsC (w:World) (F:Nat→Prop) (ρ:Nat→Value) (own:Nat→Loc):=CellsG (CellC w F ρ own)
abbrev SumC (w:World) (F:Nat→Prop) (ρ:Nat→Value) (own:Nat→Loc):=SumG (CellC w F ρ own)
abbrev AVC (w:World) (F:Nat→Prop) (ρ:Nat→Value) (own:Nat→Loc):=AVG (CellC w F ρ own)
theorem CellsG.imp {C C':Cell→Value→Prop} {cs:List Cell} {vs:List Value} (h:∀ c v,c∈cs→C c v→C' c v) (s:CellsG C cs vs):CellsG C' cs vs:=
 ⟨s.1,fun j c v hc hv=>h c v (List.mem_of_getElem? hc) (s.2 j c v hc hv)⟩
def RowC (w:World) (F:Nat→Prop) (k:ElK) (xs:List k.T) (vs:List Value):Prop:=
 (∀ v∈vs,v.oneCell'=true)∧∀ i x,xs[i]?=some x→∃ us:List Value,us.length=k.size∧Elem w F k x us∧∀ j u,us[j]?=some u→vs[i * k.size + j]?=some u
def TailOk (w:World) (ty:TypeId) (size:Nat) (v:Value) (n:Nat) (vs:List Value):Prop:=
 ∃ g off cap cur,v=.slice (some ⟨g,off,none⟩) n cap∧w.heap[g]?=some (.cells cur ty (0,0))∧n≤cap∧cap≤maxLen∧(0 < cap→cur.size=off + cap * size)∧vs=(cur.toList.drop off).take (n * size)∧vs.length=n * size
theorem TailOk.of {w w':World} {ty:TypeId} {size:Nat} {v:Value} {n:Nat} {vs:List Value} (h:TailOk w ty size v n vs) (hb:∀ b,blk v=some b→w'.heap[b]?=w.heap[b]?):TailOk w' ty size v n vs:=by
 obtain ⟨g,off,cap,cur,hv,hh,r⟩:=h
 exact ⟨g,off,cap,cur,hv,(hb g (by rw [hv];rfl)).trans hh,r⟩
def OwnOk (w:World) (N F:Nat→Prop) (ρ:Nat→Value) (own:Nat→Loc) (l:Nat):Own→Prop
 | .dead=>True
 | .box ty cs=>∃ b vs,ρ (pl l)=.pointer (some ⟨b,0,none⟩)∧w.heap[b]?=some (.cells vs ty (0,0))∧CellsC w F ρ own cs vs.toList∧(∀ v∈vs.toList,v.oneCell'=true)∧N b∧¬ F b
 | .row ty k xs=>∃ vs,w.ownsRow 0 ty k.size (ρ (pl l)) xs.length vs∧RowC w F k xs vs∧∀ b,blk (ρ (pl l))=some b→N b∧¬ F b
 | .tail ty k xs=>∃ vs,TailOk w ty k.size (ρ (pl l)) xs.length vs∧RowC w F k xs vs∧∀ b,blk (ρ (pl l))=some b→N b∧¬ F b
 | .deep ty ety e xs g=>∃ vs,w.ownsRow 0 ty 1 (ρ (pl l)) xs.length vs∧(∀ v∈vs,v.oneCell'=true)∧(∀ b,blk (ρ (pl l))=some b→N b∧¬ F b) ∧
   ∀ i x,xs[i]?=some x→g i=false→vs[i]?=some (ρ (inn l i))∧(∃ us,w.ownsRow 0 ety (ElK.b e).size (ρ (inn l i)) x.length us∧RowC w F (.b e) x us) ∧
    ∀ b,blk (ρ (inn l i))=some b→N b∧¬ F b∧blk (ρ (pl l))≠some b∧∀ j y,j≠i→xs[j]?=some y→g j=false→blk (ρ (inn l j))≠some b
def holds (ρ:Nat→Value) (l:Nat):Own→Nat→Prop
 | .deep _ _ _ xs g,b=>blk (ρ (pl l))=some b∨∃ i x,xs[i]?=some x∧g i=false∧blk (ρ (inn l i))=some b
 | _,b=>blk (ρ (pl l))=some b
theorem holds_step {ρ ρ':Nat→Value} {l b:Nat} {o:Own} (h1:ρ' (pl l)=ρ (pl l)) (h2:∀ i,ρ' (inn l i)=ρ (inn l i)) (h:holds ρ' l o b):holds ρ l o b:=by
 cases o <;> simp only [holds,h1,h2] at h ⊢ <;> exact h
theorem holds_of {ρ:Nat→Value} {l b:Nat}:∀ {o:Own},blk (ρ (pl l))=some b→holds ρ l o b
 | .deep ..,h=>.inl h
 | .dead,h=>h
 | .box ..,h=>h
 | .row ..,h=>h
 | .tail ..,h=>h
def Own.live:Own→Bool
 | .dead=>false
 | _=>true
structure Mem (w:World) (N F:Nat→Prop) (ρ:Nat→Value) (own:Nat→Loc):Prop where
 ok:∀ l,OwnOk w N F ρ own l (own l).obj
 apart:∀ l l' b,l≠l'→(own l).obj.live=true→(own l').obj.live=true→holds ρ l (own l).obj b→holds ρ l' (own l').obj b→False
 fin:∀ b,F b→b < w.heap.size
structure Ext (w:World) (F:Nat→Prop) (w':World) (F':Nat→Prop):Prop where
 os:w'.os=w.os
 tape:w'.tape=w.tape
 output:w'.output=w.output
 size:w.heap.size≤w'.heap.size
 block:∀ b,F b→w'.heap[b]?=w.heap[b]?
 sub:∀ b,F b→F' b
theorem Ext.refl (w:World) (F:Nat→Prop):Ext w F w F:=⟨rfl,rfl,rfl,Nat.le_refl _,fun _ _=>rfl,fun _ h=>h⟩
theorem Ext.trans {w w' w'':World} {F F' F'':Nat→Prop} (h:Ext w F w' F') (k:Ext w' F' w'' F''):Ext w F w'' F'':=
 ⟨k.os.trans h.os,k.tape.trans h.tape,k.output.trans h.output,Nat.le_trans h.size k.size,fun b hb=>(k.block b (h.sub b hb)).trans (h.block b hb),fun b hb=>k.sub b (h.sub b hb)⟩
theorem block_add (a:Addr) (n:Nat):(a.add n).block=a.block:=by unfold Addr.add;split <;> rfl
theorem Ext.cell {w w':World} {F F':Nat→Prop} (h:Ext w F w' F') {a:Addr} (ha:F a.block):w'.cell? a=w.cell? a:=
 World.cell?_of_block (w:=w) (h.block a.block ha)
theorem SLg.mono {w w':World} {F F':Nat→Prop} {size:Nat} {α:Type} {E E':α→List Value→Prop} {xs:List α} {v:Value}
  (h:Ext w F w' F') (hE:∀ x us,E x us→E' x us) (s:SLg w F size E xs v):SLg w' F' size E' xs v:=by
 rcases s with s|⟨ad,c,hv,hc,hF,hx⟩
 ·exact .inl s
 ·refine .inr ⟨ad,c,hv,hc,hF.imp id (h.sub _),fun i x hi=>?_⟩
  obtain ⟨us,hl,he,hu⟩:=hx i x hi
  exact ⟨us,hl,hE x us he,fun j u hj=>(h.cell (by rw [block_add];exact hF.resolve_left (fun e=>by rw [e] at hi;simp at hi))).trans (hu j u hj)⟩
theorem Elem.mono {w w':World} {F F':Nat→Prop} (h:Ext w F w' F'):∀ (k:ElK) (x:k.T) (us:List Value),Elem w F k x us→Elem w' F' k x us
 | .b _,_,_,e=>e
 | .s _,_,_,⟨u,hu,hs⟩=>⟨u,hu,SLg.mono h (fun _ _ e=>e) hs⟩
theorem SLK.mono {w w':World} {F F':Nat→Prop} (h:Ext w F w' F') {k:ElK} {xs:List k.T} {v:Value} (s:SLK w F k xs v):SLK w' F' k xs v:=
 SLg.mono h (fun x us=>Elem.mono h k x us) s
theorem DC.mono {w w':World} {F F':Nat→Prop} (h:Ext w F w' F') {x:D} {v:Value} (s:DC w F x v):DC w' F' x v:=by
 induction s with
 | int k n=>exact .int k n
 | bool b=>exact .bool b
 | nil=>exact .nil
 | sl hn hs=>exact .sl hn (SLK.mono h hs)
 | full hs hc=>exact .full (SLK.mono h hs) hc
 | ptr ad us hl hF h1 _ ih=>exact .ptr ad us hl (h.sub _ hF) (fun j u hj=>(h.cell (by rw [block_add];exact hF)).trans (h1 j u hj)) ih
 | clo us hl _ ih=>exact .clo us hl ih
theorem DC.oneCell {w:World} {F:Nat→Prop} {x:D} {v:Value} (s:DC w F x v):v.oneCell'=true:=by
 cases s with
 | sl _ hs=>rcases hs with ⟨rfl,_⟩|⟨ad,c,rfl,_⟩ <;> rfl
 | full hs _=>rcases hs with ⟨rfl,_⟩|⟨ad,c,rfl,_⟩ <;> rfl
 | _=>rfl
theorem CellC.oneCell {w:World} {F:Nat→Prop} {ρ:Nat→Value} {own:Nat→Loc} {c:Cell} {v:Value} (h:CellC w F ρ own c v):v.oneCell'=true:=by
 cases c with
 | d x=>exact DC.oneCell h
 | own l ver=>exact h.1
 | ptr l ver i j=>exact h.1
 | sub l ver off n=>exact h.1
theorem cells_one {v:Value} (h:v.oneCell'=true):v.cells=#[v]:=by cases v <;> first|rfl|cases h
theorem CellC.mono {w w':World} {F F':Nat→Prop} {ρ:Nat→Value} {own:Nat→Loc} (h:Ext w F w' F') {c:Cell} {v:Value} (s:CellC w F ρ own c v):CellC w' F' ρ own c v:=by
 cases c with
 | d x=>exact DC.mono h s
 | own l ver=>exact s
 | ptr l ver i j=>exact s
 | sub l ver off n=>exact s
theorem CellsC.mono {w w':World} {F F':Nat→Prop} {ρ:Nat→Value} {own:Nat→Loc} (h:Ext w F w' F') {c:List Cell} {v:List Value} (s:CellsC w F ρ own c v):CellsC w' F' ρ own c v:=
 ⟨s.1,fun j c v hc hv=>(s.2 j c v hc hv).mono h⟩
theorem SumC.mono {w w':World} {F F':Nat→Prop} {ρ:Nat→Value} {own:Nat→Loc} (h:Ext w F w' F') {c:Cell ⊕ List Cell} {v:Value} (s:SumC w F ρ own c v):SumC w' F' ρ own c v:=by
 cases c with
 | inl c=>exact CellC.mono h s
 | inr cs=>obtain ⟨vs,hv,hs⟩:=s;exact ⟨vs,hv,CellsC.mono h hs⟩
theorem AVC.mono {w w':World} {F F':Nat→Prop} {ρ:Nat→Value} {own:Nat→Loc} (h:Ext w F w' F') {c:AV} {v:Value} (s:AVC w F ρ own c v):AVC w' F' ρ own c v:=by
 cases c with
 | one c=>exact CellC.mono h s
 | agg cs=>obtain ⟨vs,hv,hs⟩:=s;exact ⟨vs,hv,CellsC.mono h hs⟩
 | tup xs=>obtain ⟨vs,hv,hl,hs⟩:=s;exact ⟨vs,hv,hl,fun j x u hx hu=>SumC.mono h (hs j x u hx hu)⟩
 | junk=>trivial
theorem RowC.mono {w w':World} {F F':Nat→Prop} (h:Ext w F w' F') {k:ElK} {xs:List k.T} {vs:List Value} (s:RowC w F k xs vs):RowC w' F' k xs vs:=
 ⟨s.1,fun i x hi=>let ⟨us,hl,he,hu⟩:=s.2 i x hi;⟨us,hl,Elem.mono h k x us he,hu⟩⟩
theorem blk_own {w:World} {base:Nat} {e:TypeId} {size:Nat} {v:Value} {n:Nat} {vs:List Value} (h:w.ownsRow base e size v n vs) {b:Nat} (hb:blk v=some b):v.ownBlock=some b:=by
 rcases h.2 with ⟨rfl,_⟩|⟨g,cap,cur,rfl,_⟩
 ·simp [blk] at hb
 ·simpa [blk,Value.ownBlock] using hb
theorem own_blk {w:World} {base:Nat} {e:TypeId} {size:Nat} {v:Value} {n:Nat} {vs:List Value} (h:w.ownsRow base e size v n vs) {b:Nat} (hb:v.ownBlock=some b):blk v=some b:=by
 rcases h.2 with ⟨rfl,_⟩|⟨g,cap,cur,rfl,_⟩
 ·simp [Value.ownBlock] at hb
 ·simpa [blk,Value.ownBlock] using hb
theorem lt_of_block {w:World} {b:Nat} {o:Obj} (h:w.heap[b]?=some o):b < w.heap.size:=by
 rcases Nat.lt_or_ge b w.heap.size with h'|h'
 ·exact h'
 ·rw [Array.getElem?_eq_none h'] at h;cases h
theorem OwnOk.mono {w w':World} {N F F':Nat→Prop} {ρ:Nat→Value} {own:Nat→Loc} {l:Nat} {o:Own} (hext:Ext w F w' F')
  (hb:∀ b,holds ρ l o b→b < w.heap.size→N b→¬ F b→w'.heap[b]?=w.heap[b]?∧¬ F' b) (h:OwnOk w N F ρ own l o):OwnOk w' N F' ρ own l o:=by
 cases o with
 | dead=>trivial
 | box ty cs=>
  obtain ⟨b,vs,hρ,hh,hc,h1,hN,hn⟩:=h
  obtain ⟨k1,k2⟩:=hb b (show blk (ρ (pl l))=some b by rw [hρ];rfl) (lt_of_block hh) hN hn
  exact ⟨b,vs,hρ,k1.trans hh,hc.mono hext,h1,hN,k2⟩
 | row ty k xs=>
  obtain ⟨vs,hw,hc,hn⟩:=h
  refine ⟨vs,⟨hw.1,?_⟩,hc.mono hext,fun b hbl=>?_⟩
  ·rcases hw.2 with h|⟨g,cap,cur,hv,hg,hh,r⟩
   ·exact .inl h
   ·have hbl:blk (ρ (pl l))=some g:=by rw [hv];rfl
    exact .inr ⟨g,cap,cur,hv,hg,(hb g hbl (lt_of_block hh) (hn g hbl).1 (hn g hbl).2).1.trans hh,r⟩
  ·have hlt:=(hw.lt b (blk_own hw hbl)).2
   exact ⟨(hn b hbl).1,(hb b hbl hlt (hn b hbl).1 (hn b hbl).2).2⟩
 | tail ty k xs=>
  obtain ⟨vs,hw,hc,hn⟩:=h
  have hlt:∀ b,blk (ρ (pl l))=some b→b < w.heap.size:=fun b hbl=>by
   obtain ⟨g,off,cap,cur,hv,hh,-⟩:=hw
   rw [hv] at hbl
   simp only [blk,Option.some.injEq] at hbl
   subst hbl
   exact lt_of_block hh
  exact ⟨vs,hw.of fun b hbl=>(hb b hbl (hlt b hbl) (hn b hbl).1 (hn b hbl).2).1,hc.mono hext,fun b hbl=>⟨(hn b hbl).1,(hb b hbl (hlt b hbl) (hn b hbl).1 (hn b hbl).2).2⟩⟩
 | deep ty ety e xs gn=>
  obtain ⟨vs,hw,h1,hn,hin⟩:=h
  have hlt:∀ b,blk (ρ (pl l))=some b→b < w.heap.size:=fun b hbl=>(hw.lt b (blk_own hw hbl)).2
  refine ⟨vs,⟨hw.1,?_⟩,h1,fun b hbl=>⟨(hn b hbl).1,(hb b (.inl hbl) (hlt b hbl) (hn b hbl).1 (hn b hbl).2).2⟩,fun i x hx hgi=>?_⟩
  ·rcases hw.2 with h|⟨g,cap,cur,hv,hg,hh,r⟩
   ·exact .inl h
   ·have hbl:blk (ρ (pl l))=some g:=by rw [hv];rfl
    exact .inr ⟨g,cap,cur,hv,hg,(hb g (.inl hbl) (lt_of_block hh) (hn g hbl).1 (hn g hbl).2).1.trans hh,r⟩
  ·obtain ⟨q1,⟨us,hu,hr⟩,q3⟩:=hin i x hx hgi
   refine ⟨q1,⟨us,⟨hu.1,?_⟩,hr.mono hext⟩,fun b hbl=>⟨(q3 b hbl).1,(hb b (.inr ⟨i,x,hx,hgi,hbl⟩) (hu.lt b (blk_own hu hbl)).2 (q3 b hbl).1 (q3 b hbl).2.1).2,(q3 b hbl).2.2⟩⟩
   rcases hu.2 with h|⟨g,cap,cur,hv,hg,hh,r⟩
   ·exact .inl h
   ·have hbl:blk (ρ (inn l i))=some g:=by rw [hv];rfl
    exact .inr ⟨g,cap,cur,hv,hg,(hb g (.inr ⟨i,x,hx,hgi,hbl⟩) (lt_of_block hh) (q3 g hbl).1 (q3 g hbl).2.1).1.trans hh,r⟩
theorem TailOk.cell {w:World} {ty:TypeId} {size:Nat} {v:Value} {n m c g off:Nat} {vs:List Value} (h:TailOk w ty size v n vs) (hv:v=.slice (some ⟨g,off,none⟩) m c) (j:Nat) (u:Value) (hj:vs[j]?=some u):w.cell? ⟨g,off + j,none⟩=some u:=by
 obtain ⟨g',off',cap,cur,hv',hh,-,-,-,hvs,-⟩:=h
 rw [hv] at hv'
 injection hv' with e1 e2 e3
 injection e1 with e1
 injection e1 with e1 e4
 subst e1;subst e4
 rw [hvs,List.getElem?_take] at hj
 split at hj
 ·rw [List.getElem?_drop] at hj
  simp only [World.cell?,hh]
  simpa using hj
 ·cases hj
theorem TailOk.lt {w:World} {ty:TypeId} {size:Nat} {v:Value} {n:Nat} {vs:List Value} (h:TailOk w ty size v n vs) {b:Nat} (hb:blk v=some b):b < w.heap.size:=by
 obtain ⟨g,off,cap,cur,hv,hh,-⟩:=h
 rw [hv] at hb
 simp only [blk,Option.some.injEq] at hb
 subst hb
 exact lt_of_block hh
theorem Mem.grow {w w':World} {N F F':Nat→Prop} {ρ:Nat→Value} {own:Nat→Loc} (m:Mem w N F ρ own) (hb:Below w.heap.size w w')
  (hF:∀ b,F' b→F b∨(w.heap.size≤b∧b < w'.heap.size)) (hs:∀ b,F b→F' b):Mem w' N F' ρ own:=by
 have hext:Ext w F w' F':=⟨hb.os,hb.tape,hb.output,hb.size,fun b h=>hb.block b (m.fin b h),hs⟩
 refine ⟨fun l=>(m.ok l).mono hext fun b _ hlt _ hn=>⟨hb.block b hlt,fun hf=>?_⟩,m.apart,fun b h=>?_⟩
 ·rcases hF b hf with h|h
  ·exact hn h
  ·omega
 ·rcases hF b h with h|h
  ·exact Nat.lt_of_lt_of_le (m.fin b h) hb.size
  ·exact h.2
inductive ZK where
 | int (k:IntKind)
 | bool
 | nil
def ZK.v:ZK→Value
 | .int k=>.int k 0
 | .bool=>.bool false
 | .nil=>.slice none 0 0
def ZK.c:ZK→Cell
 | .int k=>.d (.int k 0)
 | .bool=>.d (.bool false)
 | .nil=>.d .nil
inductive TK where
 | int (k:IntKind)
 | bool
 | slice (e:TypeId) (k:ElK) (bytes:Nat) (zero:List ZK)
 | struct (fs:List (Nat × Nat × Bool)) (eqp:Bool)
 | other
structure TI where
 size:Nat
 zero:List ZK
 kind:TK
def TI.agg (i:TI):Bool:=match i.kind with|.struct _ _=>true|_=>false
structure RowR where
 ty:TypeId
 nl:Option Bool
 k:ElK
 xs:List k.T
structure RV where
 av:AV
 row:Option RowR
structure Con where
 X:Type
 pat:List AV→Option X
 pre:X→Prop
 res:X→RV
 /-- Where the result is a row of rows,each of them new: the type of the elements of the inner rows. -/
 dp:Option TypeId
def RV.val (x:AV):RV:=⟨x,none⟩
structure WR where
 k:ElK
 ys:List k.T
 trunc:Bool
structure ConW where
 X:Type
 pat:List AV→Option X
 pre:X→Prop
 wi:Nat
 ty:TypeId
 av:X→AV
 out:X→WR
inductive BK where
 | deep
 | box
 | mk
structure ConD where
 X:Type
 pat:List AV→Option X
 pre:X→Prop
 wi:Nat
 ty:TypeId
 ety:TypeId
 av:X→AV
 out:X→List (List Int)
 kind:BK
 outB:X→List D
structure Cfg where
 ty:TypeId→Option TI
 con:FuncId→Option Con
 wr:Nat→Bool
 fr:Nat→Bool
 conw:FuncId→Option ConW
 sp:Nat→Bool
 pure:Bool
 sw:Nat→Bool
 dp:Nat→Bool
 cond:FuncId→Option ConD
def absCell:Value→Option Cell
 | .int k n=>some (.d (.int k n))
 | .bool b=>some (.d (.bool b))
 | .slice none 0 0=>some (.d .nil)
 | _=>none
def absCells:List Value→Option (List Cell)
 | []=>some []
 | v :: r=>match absCell v,absCells r with
  | some c,some cs=>some (c :: cs)
  | _,_=>none
def absV:Value→AV
 | .agg cs=>match absCells cs.toList with
  | some l=>.agg l
  | none=>.junk
 | v=>match absCell v with
  | some c=>.one c
  | none=>.junk
def evA (slots:Nat→AV):Operand→AV
 | .tmp t=>slots t
 | .const v=>absV v
 | .func f=>.one (.d (.clo f []))
 | .global _=>.junk
inductive VR (α:Type) where
 | no
 | ok (p:Prop) (x:α)
def VR.run {α:Type} (r:VR α) (K:α→Prop):Prop:=match r with|.no=>False|.ok p x=>p∧K x
def VR.bind {α β:Type} (r:VR α) (f:α→VR β):VR β:=match r with
 | .no=>.no
 | .ok p x=>match f x with
  | .no=>.no
  | .ok q y=>.ok (p∧q) y
def takeC:Nat→List Cell→Option (List Cell)
 | 0,_=>some []
 | _ + 1,[]=>none
 | n + 1,c :: cs=>match takeC n cs with
  | some l=>some (c :: l)
  | none=>none
def loadC (i:TI) (cs:List Cell) (p:Prop):VR AV:=
 match i.agg with
 | true=>match takeC i.size cs with
  | some l=>.ok p (.agg l)
  | none=>.no
 | false=>match cs with
  | c :: _=>.ok p (.one c)
  | []=>.no
def cells:AV→Option (List Cell)
 | .one c=>some [c]
 | .agg cs=>some cs
 | _=>none
def dOf:List Cell→Option (List D)
 | []=>some []
 | .d x :: cs=>match dOf cs with
  | some l=>some (x :: l)
  | none=>none
 | _ :: _=>none
def putCells:List Cell→Nat→List Cell→List Cell
 | cs,0,[]=>cs
 | _ :: cs,0,x :: xs=>x :: putCells cs 0 xs
 | [],_,_=>[]
 | c :: cs,n + 1,xs=>c :: putCells cs n xs
def ElB.beq:ElB→ElB→Bool
 | .int,.int|.bool,.bool|.pt,.pt|.wall,.wall|.tri,.tri|.u8,.u8=>true
 | _,_=>false
def ElK.beq:ElK→ElK→Bool
 | .b e,.b e'=>ElB.beq e e'
 | .s e,.s e'=>ElB.beq e e'
 | _,_=>false
theorem ElB.beq_eq {a b:ElB} (h:ElB.beq a b=true):a=b:=by cases a <;> cases b <;> first|rfl|cases h
theorem ElK.beq_eq {a b:ElK} (h:ElK.beq a b=true):a=b:=by
 cases a <;> cases b <;> first|(cases h;done)|(rw [ElB.beq_eq h])
def kbeq:IntKind→IntKind→Bool
 | .i8,.i8|.i16,.i16|.i32,.i32|.i64,.i64|.u8,.u8|.u16,.u16|.u32,.u32|.u64,.u64=>true
 | _,_=>false
theorem kbeq_eq {a b:IntKind} (h:kbeq a b=true):a=b:=by cases a <;> cases b <;> first|rfl|cases h
def AV.int (k:IntKind) (n:Int):AV:=.one (.d (.int k n))
def AV.bool (b:Bool):AV:=.one (.d (.bool b))
def bitI (op:BinOp) (k:IntKind) (a b:Int):Int:=match op with
 | .and=>k.wrap (((BitVec.ofInt k.bits a &&& BitVec.ofInt k.bits b).toNat:Nat):Int)
 | .or=>k.wrap (((BitVec.ofInt k.bits a ||| BitVec.ofInt k.bits b).toNat:Nat):Int)
 | .xor=>k.wrap (((BitVec.ofInt k.bits a ^^^ BitVec.ofInt k.bits b).toNat:Nat):Int)
 | .shl=>k.wrap (a * 2 ^ min b.toNat k.bits)
 | .shr=>a.fdiv (2 ^ min b.toNat k.bits)
 | _=>0
def arith (op:BinOp) (k:IntKind) (a b:Int):VR AV:=
 match op with
 | .add=>.ok True (.one (.d (.int k (k.wrap (a + b)))))
 | .sub=>.ok True (.one (.d (.int k (k.wrap (a - b)))))
 | .mul=>.ok True (.one (.d (.int k (k.wrap (a * b)))))
 | .quo=>.ok (b≠0) (.one (.d (.int k (k.wrap (a.tdiv b)))))
 | .rem=>.ok (b≠0) (.one (.d (.int k (a.tmod b))))
 | .eql=>.ok True (.one (.d (.bool (a == b))))
 | .neq=>.ok True (.one (.d (.bool (a != b))))
 | .lss=>.ok True (.one (.d (.bool (decide (a < b)))))
 | .leq=>.ok True (.one (.d (.bool (decide (a≤b)))))
 | .gtr=>.ok True (.one (.d (.bool (decide (a > b)))))
 | .geq=>.ok True (.one (.d (.bool (decide (a ≥ b)))))
 | .and|.or|.xor=>.ok True (.one (.d (.int k (bitI op k a b))))
 | _=>.no
def shB:BinOp→Bool
 | .shl|.shr=>true
 | _=>false
def abin (ti:Option TI) (op:BinOp) (x y:AV):VR AV:=
 match x,y with
 | .one (.d (.int k a)),.one (.d (.int k' b))=>match shB op with
  | true=>.ok (0≤b) (.one (.d (.int k (bitI op k a b))))
  | false=>match kbeq k k' with
   | true=>arith op k a b
   | false=>.no
 | .one (.d (.bool a)),.one (.d (.bool b))=>match ti with
  | some ⟨_,_,.bool⟩=>match op with
   | .eql=>.ok True (.one (.d (.bool (a == b))))
   | .neq=>.ok True (.one (.d (.bool (!(a == b)))))
   | _=>.no
  | _=>.no
 | .one (.d (.sl (some nl) _ _)),.one (.d .nil)=>match ti with
  | some ⟨_,_,.slice ..⟩=>match op with
   | .eql=>.ok True (.one (.d (.bool nl)))
   | .neq=>.ok True (.one (.d (.bool (!nl))))
   | _=>.no
  | _=>.no
 | .one (.d .nil),.one (.d .nil)=>match ti with
  | some ⟨_,_,.slice ..⟩=>match op with
   | .eql=>.ok True (.one (.d (.bool true)))
   | .neq=>.ok True (.one (.d (.bool false)))
   | _=>.no
  | _=>.no
 | .agg [.d (.int .i64 a1),.d (.int .i64 a2)],.agg [.d (.int .i64 b1),.d (.int .i64 b2)]=>match ti with
  | some ⟨_,_,.struct _ true⟩=>match op with
   | .eql=>.ok True (.one (.d (.bool (a1 == b1 && a2 == b2))))
   | .neq=>.ok True (.one (.d (.bool (!(a1 == b1 && a2 == b2)))))
   | _=>.no
  | _=>.no
 | _,_=>.no
def nilOp:Operand→Bool
 | .const (.slice none _ _)=>true
 | _=>false
def ownNil:AV→AV→Option (Nat × Nat)
 | .one (.own l ver),.one (.d .nil)=>some (l,ver)
 | _,_=>none
theorem ownNil_some {x y:AV} {q:Nat × Nat} (h:ownNil x y=some q):x=.one (.own q.1 q.2)∧y=.one (.d .nil):=by
 unfold ownNil at h
 split at h
 ·injection h with h
  subst h
  exact ⟨rfl,rfl⟩
 ·cases h
def nilAt (ti:Option TI) (op:BinOp) (ver:Nat):Loc→VR AV
 | ⟨ver',.row _ _ xs⟩=>match ti with
  | some ⟨_,_,.slice ..⟩=>match op with
   | .eql=>.ok (ver=ver'∧0 < xs.length) (.one (.d (.bool false)))
   | .neq=>.ok (ver=ver'∧0 < xs.length) (.one (.d (.bool true)))
   | _=>.no
  | _=>.no
 | _=>.no
def setParts (size:Nat):List (Nat × AV)→List (List Cell)→Option (List (List Cell))
 | [],l=>some l
 | (i,x) :: r,l=>match cells x with
  | some cs=>match Nat.beq cs.length size && Nat.ble (i + 1) l.length with
   | true=>setParts size r (l.set i cs)
   | false=>none
  | none=>none
def decAll (k:ElK):List (List Cell)→Option (List k.T)
 | []=>some []
 | cs :: r=>match k.dec cs,decAll k r with
  | some x,some xs=>some (x :: xs)
  | _,_=>none
def elems (k:ElK) (zero:List Cell) (parts:List (Nat × AV)) (len:Nat):Option (List k.T):=
 match setParts k.size parts (List.replicate len zero) with
 | some l=>decAll k l
 | none=>none
def fillA (fs:List (Nat × Nat × Bool)):List (Nat × AV)→List Cell→Option (List Cell)
 | [],cs=>some cs
 | (i,x) :: r,cs=>match fs[i]?,cells x with
  | some (off,sz,_),some xs=>match Nat.beq xs.length sz && Nat.ble (off + sz) cs.length with
   | true=>fillA fs r (putCells cs off xs)
   | false=>none
  | _,_=>none
def noG:Nat→Bool:=fun _=>false
def allG (g:Nat→Bool) (n:Nat):Prop:=∀ i,i < n→g i=false
theorem srtG_lt {g:Nat→Bool} {i:Nat} (h:i < srt) (hg:g i=false):upd g srt true i=false:=by rw [upd_ne _ _ (by omega)];exact hg
def viewL (ver:Nat):Loc→VR (Cell × Bool)
 | ⟨ver',.row _ k xs⟩=>.ok (ver=ver') (.d (.sl none k xs),true)
 | ⟨ver',.deep _ _ e xs g⟩=>.ok (ver=ver'∧allG g xs.length) (.d (.sl none (.s e) xs),true)
 | _=>.no
def viewI (ver off:Nat):Loc→VR (Cell × Bool)
 | ⟨ver',.deep _ _ e xs g⟩=>.ok (ver=ver'∧off < xs.length∧g off=false∧g srt=false) (.d (.sl none (.b e) (xs.getD off [])),true)
 | _=>.no
def viewC (own:Nat→Loc) (c:Cell):VR (Cell × Bool):=
 match c with
 | .d x=>.ok True (.d x,false)
 | .own l ver=>viewL ver (own l)
 | .ptr ..=>.no
 | .sub l ver off _=>viewI ver off (own l)
def viewCs (own:Nat→Loc):List Cell→VR (List Cell × Bool)
 | []=>.ok True ([],false)
 | c :: cs=>match viewC own c,viewCs own cs with
  | .ok p (c',b),.ok q (cs',b')=>.ok (p∧q) (c' :: cs',b || b')
  | _,_=>.no
def view (own:Nat→Loc) (x:AV):VR (AV × Bool):=
 match x with
 | .one c=>match viewC own c with
  | .ok p (c',b)=>.ok p (.one c',b)
  | .no=>.no
 | .agg cs=>match viewCs own cs with
  | .ok p (cs',b)=>.ok p (.agg cs',b)
  | .no=>.no
 | _=>.no
def views (own:Nat→Loc):List AV→VR (List AV × Bool)
 | []=>.ok True ([],false)
 | x :: xs=>match view own x,views own xs with
  | .ok p (x',b),.ok q (xs',b')=>.ok (p∧q) (x' :: xs',b || b')
  | _,_=>.no
def flatC:Cell→Bool
 | .d (.int ..)|.d (.bool _)|.d .nil=>true
 | .own ..=>true
 | _=>false
def flatCs:List Cell→Bool
 | []=>true
 | c :: cs=>flatC c && flatCs cs
def flatS:Cell ⊕ List Cell→Bool
 | .inl c=>flatC c
 | .inr cs=>flatCs cs
def flatT:List (Cell ⊕ List Cell)→Bool
 | []=>true
 | c :: cs=>flatS c && flatT cs
def flat:AV→Bool
 | .one c=>flatC c
 | .agg cs=>flatCs cs
 | .tup xs=>flatT xs
 | .junk=>true
def renC (g:Cell):Cell→Cell
 | .own _ _=>g
 | c=>c
def renS (g:Cell):Cell ⊕ List Cell→Cell ⊕ List Cell
 | .inl c=>.inl (renC g c)
 | .inr cs=>.inr (cs.map (renC g))
def ren (g:Cell):AV→AV
 | .one c=>.one (renC g c)
 | .agg cs=>.agg (cs.map (renC g))
 | .tup xs=>.tup (xs.map (renS g))
 | .junk=>.junk
def RV.data (r:RV):AV:=
 match r.row with
 | none=>r.av
 | some R=>ren (.d (.sl R.nl R.k R.xs)) r.av
def ElK.base:ElK→Bool
 | .b _=>true
 | .s _=>false
def flatR (dp:Option TypeId) (r:RV):Bool:=flat r.av && match r.row with|none=>true|some R=>R.k.base || dp.isSome
def acall (c:Cfg) (own:Nat→Loc) (f:FuncId) (args:List AV):VR RV:=
 match c.con f with
 | none=>.no
 | some con=>match views own args with
  | .no=>.no
  | .ok p (args',b)=>match con.pat args' with
   | none=>.no
   | some x=>match b with
    | true=>.ok (p∧con.pre x∧flatR con.dp (con.res x)=true) (con.res x)
    | false=>.ok (p∧con.pre x) (con.res x)
def capsOf:List D→List AV
 | []=>[]
 | x :: xs=>.one (.d x) :: capsOf xs
def dsOf:List AV→Option (List D)
 | []=>some []
 | .one (.d x) :: r=>match dsOf r with
  | some l=>some (x :: l)
  | none=>none
 | _ :: _=>none
def evL (ev:Operand→AV) (xs:List Operand):List AV:=xs.map ev
def asSl:AV→Option (Option Bool × Σ k:ElK,List k.T)
 | .one (.d (.sl nl k xs))=>some (nl,⟨k,xs⟩)
 | _=>none
def boundI (x:Option AV) (d:Int):Option Int:=
 match x with
 | none=>some d
 | some (.one (.d (.int _ n)))=>some n
 | _=>none
def castBB:(e e':ElB)→List (List e'.T)→Option (List (List e.T))
 | .int,.int,xs=>some xs
 | .bool,.bool,xs=>some xs
 | .pt,.pt,xs=>some xs
 | .wall,.wall,xs=>some xs
 | .tri,.tri,xs=>some xs
 | .u8,.u8,xs=>some xs
 | _,_,_=>none
theorem castBB_ok {k k':ElB} {xs:List (List k'.T)} {ys:List (List k.T)} (h:castBB k k' xs=some ys):∃ e:k'=k,e ▸ xs=ys:=by
 unfold castBB at h
 split at h <;> first|(injection h with h;subst h;exact ⟨rfl,rfl⟩)|cases h
def aval (c:Cfg) (ev:Operand→AV) (own:Nat→Loc) (op:Op):VR AV:=
 match op with
 | .move x|.assign x=>.ok (True) (ev x)
 | .pick p a b=>match ev p,ev a,ev b with
  | .one (.d (.bool p)),.one (.d (.bool x)),.one (.d (.bool y))=>.ok (True) (.one (.d (.bool (bif p then x else y))))
  | .one (.d (.bool p)),.junk,y=>.ok (p=false) y
  | .one (.d (.bool p)),.tup _,y=>.ok (p=false) y
  | .one (.d (.bool p)),x,.junk=>.ok (p=true) x
  | .one (.d (.bool p)),x,.tup _=>.ok (p=true) x
  | _,_,_=>.no
 | .box _ x=>match cells (ev x) with
  | some cs=>match dOf cs with
   | some ds=>.ok (True) (.one (.d (.ptr ds)))
   | none=>.no
  | none=>.no
 | .load t x=>match c.ty t,ev x with
  | some i,.one (.d (.ptr ds))=>loadC i (ds.map .d) True
  | some i,.one (.ptr l ver ix j)=>match own l with
   | ⟨ver',.box _ cs⟩=>loadC i (cs.drop j) (ver=ver')
   | ⟨ver',.row _ k xs⟩=>loadC i (((k.enc (xs.getD ix k.dflt)).map .d).drop j) (ver=ver'∧ix < xs.length)
   | ⟨ver',.tail _ k xs⟩=>loadC i (((k.enc (xs.getD ix k.dflt)).map .d).drop j) (ver=ver'∧ix < xs.length)
   | ⟨ver',.deep _ _ e xs g⟩=>match j with
    | 0=>loadC i [.sub l ver ix 0] (ver=ver'∧ix < xs.length∧g ix=false)
    | m + 1=>match castBB .int e xs with
     | some ys=>loadC i [.d (.int .i64 ((ys.getD ix []).getD m 0))] (ver=ver'∧ix < ys.length∧(g ix=false∧g srt=false)∧m < (ys.getD ix []).length)
     | none=>.no
   | _=>.no
  | _,_=>.no
 | .nilCheck x=>match ev x with
  | .one (.d (.ptr ds))=>.ok True (.one (.d (.ptr ds)))
  | .one (.ptr l ver ix j)=>match own l with
   | ⟨_,.dead⟩=>.no
   | ⟨_,.deep ..⟩=>.no
   | ⟨ver',_⟩=>.ok (ver=ver') (.one (.ptr l ver ix j))
  | _=>.no
 | .fieldAddr s x f=>match c.ty s with
  | some ⟨_,_,.struct fs _⟩=>match fs[f]? with
   | some (off,sz,_)=>match Nat.beq sz 0 with
    | true=>.no
    | false=>match ev x with
     | .one (.d (.ptr ds))=>match Nat.ble off ds.length with
      | true=>.ok True (.one (.d (.ptr (ds.drop off))))
      | false=>.no
     | .one (.ptr l ver ix j)=>match own l with
      | ⟨_,.dead⟩=>.no
      | ⟨_,.deep ..⟩=>.no
      | ⟨ver',_⟩=>.ok (ver=ver') (.one (.ptr l ver ix (j + off)))
     | _=>.no
   | none=>.no
  | _=>.no
 | .field s x f=>match c.ty s with
  | some ⟨_,_,.struct fs _⟩=>match fs[f]?,ev x with
   | some (off,sz,ag),.agg cs=>match ag with
    | true=>match Nat.beq sz 0,takeC sz (cs.drop off) with
     | false,some l=>.ok (True) (.agg l)
     | _,_=>.no
    | false=>match cs.drop off with
     | y :: _=>.ok (True) (.one y)
     | []=>.no
   | _,_=>.no
  | _=>.no
 | .indexAddr t x i=>match c.ty t with
  | some ⟨_,_,.slice _ k _ _⟩=>match ev x,ev i with
   | .one (.d (.sl _ k' xs)),.one (.d (.int _ n))=>match ElK.beq k k' with
    | true=>.ok ((0≤n∧n < (xs.length:Int))) (.one (.d (.ptr (k'.enc (xs.getD n.toNat k'.dflt)))))
    | false=>.no
   | .one (.own l ver),.one (.d (.int _ n))=>match own l with
    | ⟨ver',.row _ k' xs⟩=>match ElK.beq k k' with
     | true=>.ok (ver=ver'∧(0≤n∧n < (xs.length:Int))) (.one (.ptr l ver n.toNat 0))
     | false=>.no
    | ⟨ver',.tail _ k' xs⟩=>match ElK.beq k k' with
     | true=>.ok (ver=ver'∧(0≤n∧n < (xs.length:Int))) (.one (.ptr l ver n.toNat 0))
     | false=>.no
    | ⟨ver',.deep _ _ e xs _⟩=>match ElK.beq k (.s e) with
     | true=>.ok (ver=ver'∧(0≤n∧n < (xs.length:Int))) (.one (.ptr l ver n.toNat 0))
     | false=>.no
    | _=>.no
   | .one (.sub l ver off m),.one (.d (.int _ n))=>match own l with
    | ⟨ver',.row _ k' xs⟩=>match ElK.beq k k' with
     | true=>.ok (ver=ver'∧(0≤n∧n < (m:Int))∧off + m≤xs.length) (.one (.ptr l ver (off + n.toNat) 0))
     | false=>.no
    | ⟨ver',.deep _ _ e xs g⟩=>match ElK.beq k (.b .int),ElB.beq e .int with
     | true,true=>.ok (ver=ver'∧(off < xs.length∧g off=false∧g srt=false)∧(0≤n∧n < ((xs.getD off []).length:Int))) (.one (.ptr l ver off (n.toNat + 1)))
     | _,_=>.no
    | _=>.no
   | _,_=>.no
  | _=>.no
 | .binOp op t x y _=>match nilOp y with
  | true=>match ownNil (ev x) (ev y) with
   | some q=>nilAt (c.ty t) op q.2 (own q.1)
   | none=>abin (c.ty t) op (ev x) (ev y)
  | false=>abin (c.ty t) op (ev x) (ev y)
 | .unOp op _ x=>match op,ev x with
  | .neg,.one (.d (.int k n))=>.ok (True) (.one (.d (.int k (k.wrap (0 - n)))))
  | .not,.one (.d (.bool b))=>.ok (True) (.one (.d (.bool (!b))))
  | _,_=>.no
 | .convert src dst x=>match c.ty src,c.ty dst,ev x with
  | some _,some ⟨_,_,.int k⟩,.one (.d (.int _ n))=>.ok (True) (.one (.d (.int k (k.wrap n))))
  | _,_,_=>.no
 | .extract x i=>match ev x with
  | .tup xs=>match xs[i]? with
   | some (.inl y)=>.ok (True) (.one y)
   | some (.inr ys)=>.ok (True) (.agg ys)
   | none=>.no
  | _=>.no
 | .makeFunc fn first caps=>match fn,first.toList,dsOf (evL ev caps.toList) with
  | .func f,[],some ds=>.ok (True) (.one (.d (.clo f ds)))
  | _,_,_=>.no
 | .build t parts=>match c.ty t with
  | some ⟨_,z,.struct fs _⟩=>match fillA fs (parts.toList.map fun p=>(p.1,ev p.2)) (z.map ZK.c) with
   | some cs=>.ok (True) (.agg cs)
   | none=>.no
  | _=>.no
 | .buildSlice t len parts=>match c.ty t with
  | some ⟨_,_,.slice _ k _ z⟩=>match Nat.ble len 1024,elems k (z.map ZK.c) (parts.toList.map fun p=>(p.1,ev p.2)) len with
   | true,some xs=>.ok (True) (.one (.d (.sl (some false) k xs)))
   | _,_=>.no
  | _=>.no
 | .slice t x lo hi none=>match c.ty t,asSl (ev x) with
  | some ⟨_,_,.slice _ k' _ _⟩,some (nl,⟨k,xs⟩)=>match ElK.beq k' k,boundI (lo.map ev) 0,boundI (hi.map ev) xs.length with
   | true,some l,some h=>.ok ((0≤l∧l≤h∧h≤(xs.length:Int))) (.one (.d (.sl nl k ((xs.take h.toNat).drop l.toNat))))
   | _,_,_=>.no
  | some ⟨_,_,.slice _ k' _ _⟩,none=>match ev x with
   | .one (.own l ver)=>match own l with
    | ⟨ver',.row _ k xs⟩=>match ElK.beq k' k,boundI (lo.map ev) 0,boundI (hi.map ev) xs.length with
     | true,some a,some b=>.ok (ver=ver'∧(0≤a∧a < b∧b≤(xs.length:Int))) (.one (.sub l ver a.toNat (b.toNat - a.toNat)))
     | _,_,_=>.no
    | _=>.no
   | _=>.no
  | _,_=>.no
 | .slice t x none (some hi) (some mx)=>match c.ty t,asSl (ev x),ev hi,ev mx with
  | some ⟨_,_,.slice _ k' _ _⟩,some (_,⟨k,xs⟩),.one (.d (.int _ h)),.one (.d (.int _ m))=>match ElK.beq k' k with
   | true=>.ok ((0≤h∧h≤(xs.length:Int))∧m=h) (.one (.d (.full k (xs.take h.toNat))))
   | false=>.no
  | _,_,_,_=>.no
 | .call cl=>match cl.callee with
  | .builtin .len=>match cl.argTypes.toList with
   | t :: _=>match c.ty t with
    | some ⟨_,_,.slice ..⟩=>match evL ev cl.args.toList with
     | [.one (.d (.sl _ _ xs))]=>.ok (True) (.one (.d (.int .i64 xs.length)))
     | [.one (.d .nil)]=>.ok (True) (.one (.d (.int .i64 0)))
     | [.one (.own l ver)]=>match own l with
      | ⟨ver',.row _ _ xs⟩=>.ok (ver=ver') (.one (.d (.int .i64 xs.length)))
      | ⟨ver',.tail _ _ xs⟩=>.ok (ver=ver') (.one (.d (.int .i64 xs.length)))
      | ⟨ver',.deep _ _ _ xs _⟩=>.ok (ver=ver') (.one (.d (.int .i64 xs.length)))
      | _=>.no
     | [.one (.sub l ver off n)]=>match own l with
      | ⟨ver',.row _ _ _⟩=>.ok (ver=ver') (.one (.d (.int .i64 n)))
      | ⟨ver',.deep _ _ _ xs g⟩=>.ok (ver=ver'∧off < xs.length∧g off=false∧g srt=false) (.one (.d (.int .i64 (xs.getD off []).length)))
      | _=>.no
     | _=>.no
    | _=>.no
   | []=>.no
  | .builtin .min=>match evL ev cl.args.toList with
   | [.one (.d (.int .i64 a)),.one (.d (.int .i64 b))]=>.ok (True) (.one (.d (.int .i64 (min a b))))
   | [.one (.d (.int .i64 a)),.one (.d (.int .i64 b)),.one (.d (.int .i64 e))]=>.ok (True) (.one (.d (.int .i64 (min (min a b) e))))
   | _=>.no
  | .builtin .max=>match evL ev cl.args.toList with
   | [.one (.d (.int .i64 a)),.one (.d (.int .i64 b))]=>.ok (True) (.one (.d (.int .i64 (max a b))))
   | [.one (.d (.int .i64 a)),.one (.d (.int .i64 b)),.one (.d (.int .i64 e))]=>.ok (True) (.one (.d (.int .i64 (max (max a b) e))))
   | _=>.no
  | .value g=>match ev g with
   | .one (.d (.clo f caps))=>(acall c own f (evL ev cl.args.toList ++ capsOf caps)).bind fun r=>.ok True r.data
   | _=>.no
  | _=>.no
 | _=>.no
def St.put (σ:St) (dst:Option Tmp) (x:AV):St:=
 match dst with
 | some d=>{ σ with slots:=upd σ.slots d x }
 | none=>σ
def isEff (c:Cfg) (o:Oper):Bool:=
 match o.op,o.dst with
 | .alloc _,_=>true
 | .store ..,_=>true
 | .makeSlice ..,_=>true
 | .box ..,some d=>c.wr d
 | .buildSlice ..,some d=>c.wr d
 | .slice ..,some d=>c.wr d
 | .call { callee:=.builtin .append,.. },_=>true
 | .call { callee:=.builtin .copy,.. },_=>true
 | .call { callee:=.builtin .clear,.. },_=>true
 | .call _,some d=>c.wr d
 | _,_=>false
def setElem (k:ElK) (xs:List k.T) (i j:Nat) (cs:List Cell):Option (List k.T):=
 match k.dec (putCells ((k.enc (xs.getD i k.dflt)).map .d) j cs) with
  | some x=>some (xs.set i x)
  | none=>none
def castL:(k k':ElK)→List k'.T→Option (List k.T)
 | .b .int,.b .int,xs=>some xs
 | .b .bool,.b .bool,xs=>some xs
 | .b .pt,.b .pt,xs=>some xs
 | .b .wall,.b .wall,xs=>some xs
 | .b .tri,.b .tri,xs=>some xs
 | .b .u8,.b .u8,xs=>some xs
 | .s .int,.s .int,xs=>some xs
 | .s .bool,.s .bool,xs=>some xs
 | .s .pt,.s .pt,xs=>some xs
 | .s .wall,.s .wall,xs=>some xs
 | .s .tri,.s .tri,xs=>some xs
 | .s .u8,.s .u8,xs=>some xs
 | _,_,_=>none
theorem castL_ok {k k':ElK} {xs:List k'.T} {ys:List k.T} (h:castL k k' xs=some ys):∃ e:k'=k,e ▸ xs=ys:=by
 unfold castL at h
 split at h <;> first|(injection h with h;subst h;exact ⟨rfl,rfl⟩)|cases h
def castB:(e e':ElB)→List e'.T→Option (List e.T)
 | .int,.int,xs=>some xs
 | .bool,.bool,xs=>some xs
 | .pt,.pt,xs=>some xs
 | .wall,.wall,xs=>some xs
 | .tri,.tri,xs=>some xs
 | .u8,.u8,xs=>some xs
 | _,_,_=>none
theorem castB_ok {k k':ElB} {xs:List k'.T} {ys:List k.T} (h:castB k k' xs=some ys):∃ e:k'=k,e ▸ xs=ys:=by
 unfold castB at h
 split at h <;> first|(injection h with h;subst h;exact ⟨rfl,rfl⟩)|cases h
def ownCell:AV→Option (Nat × Nat)
 | .one (.own l v)=>some (l,v)
 | .agg [.own l v]=>some (l,v)
 | _=>none
def ownAs (x:AV) (c:Cell):AV:=match x with
 | .one _=>.one c
 | .agg _=>.agg [c]
 | y=>y
def strictD:AV→Bool
 | .one (.d _)=>true
 | .agg cs=>cs.all fun c=>match c with|.d _=>true|_=>false
 | _=>false
def othersD:Nat→List AV→Bool
 | _,[]=>true
 | 0,_ :: r=>r.all strictD
 | n + 1,x :: r=>strictD x && othersD n r
def nthA:List AV→Nat→Option AV
 | [],_=>none
 | x :: _,0=>some x
 | _ :: r,n + 1=>nthA r n
def setA:List AV→Nat→AV→List AV
 | [],_,_=>[]
 | _ :: r,0,y=>y :: r
 | x :: r,n + 1,y=>x :: setA r n y
inductive WV where
 | no
 | ok (p:Prop) (l ver:Nat) (ty:TypeId) (k:ElK) (ys:List k.T) (trunc:Bool) (av:AV)
def acallW (c:Cfg) (own:Nat→Loc) (f:FuncId) (args:List AV):WV:=
 match c.conw f with
 | none=>.no
 | some con=>match nthA args con.wi with
  | none=>.no
  | some a=>match ownCell a with
   | none=>.no
   | some (l,ver)=>match own l with
    | ⟨ver',.row ty k xs⟩=>match othersD con.wi args,con.pat (setA args con.wi (ownAs a (.d (.sl none k xs)))) with
     | true,some x=>match castL k (con.out x).k (con.out x).ys with
      | some ys=>.ok (ver=ver'∧ty=con.ty∧con.pre x) l ver ty k ys (con.out x).trunc (con.av x)
      | none=>.no
     | _,_=>.no
    | _=>.no
def asYs (k:ElK) (x:AV):Option (List k.T):=
 match x with
 | .one (.d (.sl _ k' ys))=>castL k k' ys
 | .one (.d .nil)=>some []
 | _=>none
def deadIf:Bool→Loc→Prop
 | false,_=>True
 | true,⟨_,.dead⟩=>True
 | true,_=>False
theorem deadIf_true {x:Loc} (h:deadIf true x):x.obj=.dead:=by
 rcases x with ⟨v,ob⟩
 cases ob <;> first|rfl|exact h.elim
theorem deadIf_of {b:Bool} {x:Loc} (h:x.obj=.dead):deadIf b x:=by
 rcases x with ⟨v,ob⟩
 simp only at h
 subst h
 cases b <;> exact trivial
inductive RdV where
 | no
 | ok (p:Prop) (k:ElK) (ys:List k.T)
def readOf (own:Nat→Loc):AV→RdV
 | .one (.d (.sl _ k ys))=>.ok True k ys
 | .one (.own l ver)=>match own l with
  | ⟨ver',.row _ k ys⟩=>.ok (ver=ver') k ys
  | _=>.no
 | .one (.sub l ver off n)=>match own l with
  | ⟨ver',.row _ k ys⟩=>.ok (ver=ver'∧off + n≤ys.length) k ((ys.drop off).take n)
  | _=>.no
 | _=>.no
def putL {α:Type} (xs:List α) (off:Nat) (ys:List α):List α:=xs.take off ++ (ys ++ xs.drop (off + ys.length))
def tailF (c:Cfg) (d l:Nat):Bool:=Nat.blt l 1024 && c.fr (1000000 + d * 1024 + l)
def aeff (c:Cfg) (o:Oper) (ev:Operand→AV) (own:Nat→Loc):VR (AV × (Nat→Loc)):=
 match o.op,o.dst with
 | .alloc t,some d=>match c.ty t with
  | some i=>.ok (deadIf (c.fr d) (own d)) (.one (.ptr d ((own d).ver + 1) 0 0),upd own d ⟨(own d).ver + 1,.box t (i.zero.map ZK.c)⟩)
  | none=>.no
 | .box t x,some d=>match cells (ev x) with
  | some cs=>.ok True (.one (.ptr d ((own d).ver + 1) 0 0),upd own d ⟨(own d).ver + 1,.box t cs⟩)
  | none=>.no
 | .buildSlice t len parts,some d=>match c.ty t with
  | some ⟨_,_,.slice e k _ z⟩=>match Nat.ble len 1024,elems k (z.map ZK.c) (parts.toList.map fun p=>(p.1,ev p.2)) len with
   | true,some xs=>.ok True (.one (.own d ((own d).ver + 1)),upd own d ⟨(own d).ver + 1,.row e k xs⟩)
   | _,_=>.no
  | _=>.no
 | .makeSlice t len cap,some d=>match c.ty t,ev len,ev cap with
  | some ⟨_,_,.slice e k b z⟩,.one (.d (.int .i64 n)),.one (.d (.int .i64 n'))=>match k.dec (z.map ZK.c) with
   | some z=>.ok (n'=n∧0≤n∧n≤1073741824∧b≤4096) (.one (.own d ((own d).ver + 1)),upd own d ⟨(own d).ver + 1,.row e k (List.replicate n.toNat z)⟩)
   | none=>.no
  | _,_,_=>.no
 | .store t a x,none=>match ev a,cells (ev x),c.ty t with
  | .one (.ptr l ver i j),some cs,some ti=>match Nat.beq cs.length ti.size,own l with
   | true,⟨ver',.box ty cs'⟩=>.ok (ver=ver'∧j + cs.length≤cs'.length) (.junk,upd own l ⟨ver,.box ty (putCells cs' j cs)⟩)
   | true,⟨ver',.row ty k xs⟩=>match setElem k xs i j cs with
    | some xs'=>.ok (ver=ver'∧j + cs.length≤k.size∧i < xs.length) (.junk,upd own l ⟨ver,.row ty k xs'⟩)
    | none=>.no
   | _,_=>.no
  | _,_,_=>.no
 | .slice t x none (some hi) none,some _=>match c.ty t,ev x,ev hi with
  | some ⟨_,_,.slice _ k' _ _⟩,.one (.own l ver),.one (.d (.int _ h))=>match own l with
   | ⟨ver',.row ty k xs⟩=>match ElK.beq k' k with
    | true=>.ok (ver=ver'∧(0≤h∧h≤(xs.length:Int))) (.one (.own l (ver + 1)),upd own l ⟨ver + 1,.row ty k (xs.take h.toNat)⟩)
    | false=>.no
   | _=>.no
  | _,_,_=>.no
 | .slice t x (some lo) none none,some d=>match c.ty t,ev x,ev lo with
  | some ⟨_,_,.slice _ k' _ _⟩,.one (.own l ver),.one (.d (.int _ h))=>match own l with
   | ⟨ver',.row ty k xs⟩=>match ElK.beq k' k with
    | true=>.ok (ver=ver'∧tailF c d l=true∧0 < xs.length∧(0≤h∧h≤(xs.length:Int))) (.one (.own l (ver + 1)),upd own l ⟨ver + 1,.tail ty k (xs.drop h.toNat)⟩)
    | false=>.no
   | ⟨ver',.tail ty k xs⟩=>match ElK.beq k' k with
    | true=>.ok (ver=ver'∧tailF c d l=true∧(0≤h∧h≤(xs.length:Int))) (.one (.own l (ver + 1)),upd own l ⟨ver + 1,.tail ty k (xs.drop h.toNat)⟩)
    | false=>.no
   | _=>.no
  | _,_,_=>.no
 | .call cl,some d=>match cl.callee with
  | .builtin .append=>match evL ev cl.args.toList,cl.argTypes.toList with
   | [s,x],[t,t']=>match Nat.beq t t',c.ty t with
    | true,some ⟨_,_,.slice e k b _⟩=>match view own x with
     | .no=>.no
     | .ok p (x',bv)=>match asYs k x' with
      | none=>.no
      | some ys=>match s with
       | .one (.own l ver)=>match own l with
        | ⟨ver',.row ty k' xs⟩=>match castL k k' xs with
         | some xs=>.ok (p∧(bv && !k.base)=false∧ver=ver'∧ty=e∧xs.length + ys.length≤1073741824∧b≤4096) (.one (.own l (ver' + 1)),upd own l ⟨ver' + 1,.row e k (xs ++ ys)⟩)
         | none=>.no
        | ⟨ver',.tail ty k' xs⟩=>match castL k k' xs with
         | some xs=>.ok (p∧(bv && !k.base)=false∧ver=ver'∧ty=e∧0 < ys.length∧xs.length + ys.length≤1073741824∧b≤4096) (.one (.own l (ver' + 1)),upd own l ⟨ver' + 1,.tail e k (xs ++ ys)⟩)
         | none=>.no
        | _=>.no
       | .one (.d (.full k' xs))=>match castL k k' xs with
        | some xs=>.ok (p∧(bv && !k.base)=false∧0 < ys.length∧xs.length + ys.length≤1073741824∧b≤4096) (.one (.own d ((own d).ver + 1)),upd own d ⟨(own d).ver + 1,.row e k (xs ++ ys)⟩)
        | none=>.no
       | .one (.d .nil)=>.ok (p∧(bv && !k.base)=false∧ys.length≤1073741824∧b≤4096) (.one (.own d ((own d).ver + 1)),upd own d ⟨(own d).ver + 1,.row e k ys⟩)
       | _=>.no
    | _,_=>.no
   | _,_=>.no
  | .value g=>match ev g with
   | .one (.d (.clo f caps))=>match acallW c own f (evL ev cl.args.toList ++ capsOf caps) with
    | .ok p l ver ty k ys true _=>.ok p (.one (.own l (ver + 1)),upd own l ⟨ver + 1,.row ty k ys⟩)
    | .ok p l ver ty k ys false av=>.ok p (av,upd own l ⟨ver,.row ty k ys⟩)
    | .no=>match acall c own f (evL ev cl.args.toList ++ capsOf caps) with
     | .no=>.no
     | .ok p r=>match r.row with
      | some R=>.ok p (ren (.own d ((own d).ver + 1)) r.av,upd own d ⟨(own d).ver + 1,.row R.ty R.k R.xs⟩)
      | none=>.ok p (r.data,upd own d (own d))
   | _=>.no
  | .builtin .copy=>match evL ev cl.args.toList,cl.argTypes.toList with
   | [x,s],[t,_]=>match c.ty t,x with
    | some ⟨_,_,.slice _ k _ _⟩,.one (.sub l ver off n)=>match own l with
     | ⟨ver',.row ty k' xs⟩=>match readOf own s with
      | .ok q k'' ys=>match castL k' k'' ys with
       | some ys=>.ok (q∧0 < ys.length∧ver=ver'∧k'=.b .int∧k=.b .int∧off + n≤xs.length) (.one (.d (.int .i64 ((min ys.length n:Nat):Int))),upd own l ⟨ver,.row ty k' (putL xs off (ys.take n))⟩)
       | none=>.no
      | .no=>.no
     | _=>.no
    | some ⟨_,_,.slice _ k _ _⟩,.one (.own l ver)=>match own l with
     | ⟨ver',.row ty k' xs⟩=>match readOf own s with
      | .ok q k'' ys=>match castL k' k'' ys with
       | some ys=>.ok (q∧0 < ys.length∧ver=ver'∧k'=.b .int∧k=.b .int∧0 < xs.length) (.one (.d (.int .i64 ((min ys.length xs.length:Nat):Int))),upd own l ⟨ver,.row ty k' (putL xs 0 (ys.take xs.length))⟩)
       | none=>.no
      | .no=>.no
     | _=>.no
    | _,_=>.no
   | _,_=>.no
  | _=>.no
 | .call cl,none=>match cl.callee with
  | .builtin .clear=>match evL ev cl.args.toList,cl.argTypes.toList with
   | [x],[t]=>match c.ty t,x with
    | some ⟨_,_,.slice _ k _ z⟩,.one (.sub l ver off n)=>match own l with
     | ⟨ver',.row ty k' xs⟩=>match k'.dec (z.map ZK.c) with
      | some zv=>.ok (ver=ver'∧k'=k∧off + n≤xs.length) (.junk,upd own l ⟨ver,.row ty k' (putL xs off (List.replicate n zv))⟩)
      | none=>.no
     | _=>.no
    | _,_=>.no
   | _,_=>.no
  | _=>.no
 | _,_=>.no
def isDp (c:Cfg) (o:Oper):Bool:=match o.op,o.dst with
 | .call _,some d=>c.dp d
 | .buildSlice ..,some d=>c.dp d
 | .makeSlice ..,some d=>c.dp d
 | .store _ (.tmp s) _,none=>c.dp s
 | _,_=>false
def subCell:AV→Option (Nat × Nat × Nat)
 | .one (.sub l v off _)=>some (l,v,off)
 | _=>none
def acallI (c:Cfg) (own:Nat→Loc) (f:FuncId) (args:List AV):VR (AV × (Nat→Loc)):=
 match c.conw f with
 | none=>.no
 | some con=>match nthA args con.wi with
  | none=>.no
  | some a=>match subCell a with
   | none=>.no
   | some (l,ver,off)=>match own l with
    | ⟨ver',.deep ty ety e xs g⟩=>match othersD con.wi args,con.pat (setA args con.wi (.one (.d (.sl none (.b e) (xs.getD off []))))) with
     | true,some x=>match castL (.b e) (con.out x).k (con.out x).ys with
      | some ys=>.ok (ver=ver'∧ety=con.ty∧off < xs.length∧(g off=false∧g srt=false)∧con.pre x∧(con.out x).trunc=false) (con.av x,upd own l ⟨ver',.deep ty ety e (xs.set off ys) g⟩)
      | none=>.no
     | _,_=>.no
    | _=>.no
def acallD (c:Cfg) (own:Nat→Loc) (f:FuncId) (args:List AV):VR (AV × (Nat→Loc)):=
  match c.cond f with
  | none=>.no
  | some con=>match con.kind with
   | .box|.mk=>.no
   | .deep=>match nthA args con.wi with
    | none=>.no
    | some a=>match ownCell a with
      | none=>.no
      | some (l,ver)=>match own l with
        | ⟨ver',.deep ty ety .int xs g⟩=>match othersD con.wi args,con.pat (setA args con.wi (ownAs a (.d (.sl none (.s .int) xs)))) with
          | true,some x=>.ok (ver=ver'∧ty=con.ty∧ety=con.ety∧allG g xs.length∧con.pre x∧(con.out x).length=xs.length) (con.av x,upd own l ⟨ver',.deep ty ety .int (con.out x) (upd g srt true)⟩)
          | _,_=>.no
        | _=>.no
def boxCell:AV→Option (Nat × Nat)
 | .one (.ptr l ver 0 0)=>some (l,ver)
 | _=>none
def acallB (c:Cfg) (own:Nat→Loc) (f:FuncId) (args:List AV):VR (AV × (Nat→Loc)):=
 match c.cond f with
 | none=>.no
 | some con=>match con.kind with
  | .deep|.mk=>.no
  | .box=>match nthA args con.wi with
   | none=>.no
   | some a=>match boxCell a with
    | none=>.no
    | some (l,ver)=>match own l with
     | ⟨ver',.box ty cs⟩=>match dOf cs with
      | none=>.no
      | some ds=>match othersD con.wi args,con.pat (setA args con.wi (.one (.d (.ptr ds)))) with
       | true,some x=>.ok (ver=ver'∧ty=con.ty∧(c.fr l && c.wr l)=true∧con.pre x) (con.av x,upd own l ⟨ver',.box ty ((con.outB x).map .d)⟩)
       | _,_=>.no
     | _=>.no
def acallN (c:Cfg) (own:Nat→Loc) (f:FuncId) (args:List AV) (d:Nat):VR (AV × (Nat→Loc)):=
 match c.cond f with
 | none=>.no
 | some con=>match con.kind with
  | .deep|.box=>.no
  | .mk=>match args.all strictD,con.pat args with
   | true,some x=>.ok (con.pre x) (.one (.ptr d ((own d).ver + 1) 0 0),upd own d ⟨(own d).ver + 1,.box con.ty ((con.outB x).map .d)⟩)
   | _,_=>.no
def dpOf (c:Cfg) (f:FuncId):Option TypeId:=match c.con f with
 | some con=>con.dp
 | none=>none
def aeffD (c:Cfg) (o:Oper) (ev:Operand→AV) (own:Nat→Loc):VR (AV × (Nat→Loc)):=
 match o.op,o.dst with
 | .buildSlice t len parts,some d=>match c.ty t,len,parts.toList with
  | some ⟨_,_,.slice ty (.s e) _ _⟩,0,[]=>match c.ty ty with
   | some ⟨_,_,.slice ety (.b e') _ _⟩=>match ElB.beq e e' with
    | true=>.ok True (.one (.own d ((own d).ver + 1)),upd own d ⟨(own d).ver + 1,.deep ty ety e [] noG⟩)
    | false=>.no
   | _=>.no
  | some ⟨_,_,.slice ty (.s e) _ _⟩,1,[(0,x)]=>match ev x with
   | .one (.own l ver)=>match own l with
    | ⟨ver',.row ety (.b e') xs⟩=>match castB e e' xs with
     | some xs=>.ok (ver=ver'∧d≠l) (.one (.own d ((own d).ver + 1)),upd (upd own l ⟨ver',.dead⟩) d ⟨(own d).ver + 1,.deep ty ety e [xs] noG⟩)
     | none=>.no
    | _=>.no
   | .one (.sub l ver off _)=>match own l with
    | ⟨ver',.deep ty' ety e' xs g⟩=>match castB e e' (xs.getD off []) with
     | some x=>.ok (ver=ver'∧d≠l∧off < xs.length∧g off=false∧g srt=false) (.one (.own d ((own d).ver + 1)),upd (upd own l ⟨ver',.deep ty' ety e' xs (upd g off true)⟩) d ⟨(own d).ver + 1,.deep ty ety e [x] noG⟩)
     | none=>.no
    | _=>.no
   | _=>.no
  | _,_,_=>.no
 | .store t a x,none=>match ev a,cells (ev x),c.ty t with
  | .one (.ptr l ver i 0),some [.own q verq],some ti=>match Nat.beq 1 ti.size,own l,own q with
   | true,⟨ver',.deep ty ety e xs g⟩,⟨verq',.row ety' (.b e') ys⟩=>match castB e e' ys with
    | some y=>.ok (l≠q∧ver=ver'∧verq=verq'∧ety'=ety∧i < xs.length) (.junk,upd (upd own q ⟨verq',.dead⟩) l ⟨ver',.deep ty ety e (xs.set i y) (upd (upd g i false) srt true)⟩)
    | none=>.no
   | _,_,_=>.no
  | _,_,_=>.no
 | .makeSlice t len cap,some d=>match c.ty t,ev len,ev cap with
  | some ⟨_,_,.slice ty (.s e) b [.nil]⟩,.one (.d (.int .i64 n)),.one (.d (.int .i64 n'))=>match c.ty ty with
   | some ⟨_,_,.slice ety (.b e') _ _⟩=>match ElB.beq e e' with
    | true=>.ok (n'=n∧0≤n∧n≤1073741824∧b≤4096) (.one (.own d ((own d).ver + 1)),upd own d ⟨(own d).ver + 1,.deep ty ety e (List.replicate n.toNat []) noG⟩)
    | false=>.no
   | _=>.no
  | _,_,_=>.no
 | .call cl,some _=>match cl.callee with
  | .builtin .append=>match evL ev cl.args.toList,cl.argTypes.toList with
   | [.one (.own l ver),.one (.own q verq)],[t,t']=>match Nat.beq t t',c.ty t with
    | true,some ⟨_,_,.slice te (.s e) b _⟩=>match own l,own q with
     | ⟨ver',.deep ty ety e1 xs g⟩,⟨verq',.deep _ ety' e2 ys g'⟩=>match castBB e e1 xs,castBB e e2 ys with
      | some xs,some ys=>.ok (l≠q∧ver=ver'∧verq=verq'∧ty=te∧ety'=ety∧allG g xs.length∧allG g' ys.length∧xs.length + ys.length≤1073741824∧b≤4096) (.one (.own l (ver' + 1)),upd (upd own q ⟨verq',.dead⟩) l ⟨ver' + 1,.deep te ety e (xs ++ ys) noG⟩)
      | _,_=>.no
     | _,_=>.no
    | _,_=>.no
   | _,_=>.no
  | .value gf=>match ev gf,o.dst with
   | .one (.d (.clo f caps)),some d=>match acallI c own f (evL ev cl.args.toList ++ capsOf caps) with
    | .ok p r=>.ok p r
    | .no=>match acallD c own f (evL ev cl.args.toList ++ capsOf caps) with
     | .ok p r=>.ok p r
     | .no=>match acallB c own f (evL ev cl.args.toList ++ capsOf caps) with
      | .ok p r=>.ok p r
      | .no=>match acallN c own f (evL ev cl.args.toList ++ capsOf caps) d with
       | .ok p r=>.ok p r
       | .no=>match dpOf c f,acall c own f (evL ev cl.args.toList ++ capsOf caps) with
        | some ety,.ok p r=>match r.row with
         | some ⟨ty,_,.s e,xs⟩=>.ok p (ren (.own d ((own d).ver + 1)) r.av,upd own d ⟨(own d).ver + 1,.deep ty ety e xs noG⟩)
         | _=>.no
        | _,_=>.no
   | _,_=>.no
  | _=>.no
 | _,_=>.no
def isSw (c:Cfg) (o:Oper):Bool:=match o.op,o.dst with
 | .call _,some d=>c.sw d
 | .makeSlice ..,some d=>c.sw d
 | _,_=>false
def frzR (c:Cfg) (r:AV × (Nat→Loc)):VR (AV × (Nat→Loc)):=match r with
 | (.one (.own l ver),own)=>match own l with
  | ⟨ver',.row _ k xs⟩=>.ok (ver=ver'∧c.fr l=false) (.one (.d (.sl none k xs)),upd own l ⟨ver',.dead⟩)
  | _=>.no
 | _=>.no
def isSt (c:Cfg) (o:Oper):Bool:=match o.op,o.dst with
 | .store _ (.tmp s) _,none=>(c.fr s && c.wr s) && !c.dp s
 | _,_=>false
def stP (c:Cfg) (o:Oper) (ev:Operand→AV):Prop:=match o.op with
 | .store _ x _=>match ev x with
  | .one (.ptr l _ _ _)=>(c.fr l && c.wr l)=true
  | _=>False
 | _=>True
def aeffS (c:Cfg) (o:Oper) (ev:Operand→AV) (own:Nat→Loc):VR (AV × (Nat→Loc)):=match isDp c o with
 | true=>aeffD c o ev own
 | false=>match isSw c o with
  | true=>(aeff c o ev own).bind (frzR c)
  | false=>match isSt c o with
   | true=>(aeff c o ev own).bind fun r=>.ok (stP c o ev) r
   | false=>aeff c o ev own
def dOnlyC (f:Nat→Bool):Cell→Bool
 | .d _=>true
 | .own l _=>f l
 | .ptr l _ _ _=>f l
 | .sub l _ _ _=>f l
def dOnlyCs (f:Nat→Bool):List Cell→Bool
 | []=>true
 | c :: cs=>dOnlyC f c && dOnlyCs f cs
def dOnly (f:Nat→Bool):AV→Bool
 | .one c=>dOnlyC f c
 | .agg cs=>dOnlyCs f cs
 | _=>true
def dOnlyL (f:Nat→Bool):List AV→Bool
 | []=>true
 | x :: xs=>dOnly f x && dOnlyL f xs
def noPl:Nat→Bool:=fun _=>false
def freeOp:Op→Bool
 | .load ..|.nilCheck _|.fieldAddr ..|.indexAddr ..|.call _|.slice ..=>false
 | .binOp _ _ _ y _=>!nilOp y
 | _=>true
def isFr (c:Cfg) (o:Oper):Bool:=match o.dst with|some d=>c.fr d|none=>false
def isSp (c:Cfg) (o:Oper):Bool:=match o.dst with|some d=>c.sp d|none=>false
def fixPl (c:Cfg):Nat→Bool:=fun l=>!(c.fr l && c.wr l)
def aop (c:Cfg) (o:Oper) (σ:St) (K:St→Prop):Prop:=
 match isEff c o with
 | true=>(aeffS c o (evA σ.slots) σ.own).run fun r=>K ⟨(σ.put o.dst r.1).slots,r.2⟩
 | false=>match isFr c o with
  | true=>dOnlyL noPl (evL (evA σ.slots) o.op.operands.toList)=true∧(aval c (evA σ.slots) σ.own o.op).run fun x=>K (σ.put o.dst x)
  | false=>match isSp c o with
   | true=>dOnlyL (fixPl c) (evL (evA σ.slots) o.op.operands.toList)=true∧(aval c (evA σ.slots) σ.own o.op).run fun x=>K (σ.put o.dst x)
   | false=>(aval c (evA σ.slots) σ.own o.op).run fun x=>K (σ.put o.dst x)
def aguard (ops:List Oper) (o:Oper) (σ:St) (K:Bool→St→Prop):Prop:=
 match o.guard with
 | none=>K true σ
 | some (j,want)=>match ops[j]? with
  | some oj=>match oj.dst with
   | some d=>match σ.slots d with
    | .one (.d (.bool b))=>
     (b=true→K (true == want) ⟨upd σ.slots d (.one (.d (.bool true))),σ.own⟩) ∧
     (b=false→K (false == want) ⟨upd σ.slots d (.one (.d (.bool false))),σ.own⟩)
    | .tup []=>K false σ
    | _=>False
   | none=>False
  | none=>False
def arun (c:Cfg) (ops:List Oper):List Oper→St→(St→Prop)→Prop
 | [],σ,K=>K σ
 | o :: rest,σ,K=>aguard ops o σ fun wd σ'=>match wd with
  | true=>aop c o σ' fun σ''=>arun c ops rest σ'' K
  | false=>arun c ops rest (σ'.put o.dst (.tup [])) K
def killW (D:Nat→Bool) (own:Nat→Loc):Nat→Loc:=fun n=>bif D n then ⟨(own n).ver,.dead⟩ else own n
theorem killW_ver (D:Nat→Bool) (own:Nat→Loc) (n:Nat):(killW D own n).ver=(own n).ver:=by unfold killW;cases D n <;> rfl
theorem killW_obj (D:Nat→Bool) (own:Nat→Loc) (n:Nat):(killW D own n).obj=.dead∨killW D own n=own n:=by unfold killW;cases D n <;> simp
def FrzC (Z:Nat→Bool) (own:Nat→Loc) (x y:Cell):Prop:=
 y=x∨(∃ l ver ty k xs,x=.own l ver∧Z l=true∧own l=⟨ver,.row ty k xs⟩∧y=.d (.sl none k xs)) ∨
  ∃ l ver ty cs ds,x=.ptr l ver 0 0∧Z l=true∧own l=⟨ver,.box ty cs⟩∧dOf cs=some ds∧y=.d (.ptr ds)
def RelL (R:Cell→Cell→Prop):List Cell→List Cell→Prop
 | [],[]=>True
 | x :: xs,y :: ys=>R x y∧RelL R xs ys
 | _,_=>False
def RelA (R:Cell→Cell→Prop):AV→AV→Prop
 | .one x,.one y=>R x y
 | .agg xs,.agg ys=>RelL R xs ys
 | x,y=>x=y
def RelO (R:Cell→Cell→Prop):Own→Own→Prop
 | .box ty xs,.box ty' ys=>ty=ty'∧RelL R xs ys
 | x,y=>x=y
def MvC (l ver l' ver':Nat) (x y:Cell):Prop:=y=x∨(x=.own l ver∧y=.own l' ver')
def Mv (σ σ':St):Prop:=σ'=σ∨∃ l l' ty k xs,l≠l'∧(σ.own l).obj=.row ty k xs ∧
 (∀ t,RelA (MvC l (σ.own l).ver l' ((σ.own l').ver + 1)) (σ.slots t) (σ'.slots t))∧σ'.own l'=⟨(σ.own l').ver + 1,.row ty k xs⟩∧σ'.own l=⟨(σ.own l).ver,.dead⟩ ∧
 ∀ n,n≠l→n≠l'→(σ'.own n).ver=(σ.own n).ver∧RelO (MvC l (σ.own l).ver l' ((σ.own l').ver + 1)) (σ.own n).obj (σ'.own n).obj
def Wk (_c:Cfg) (σ σ':St):Prop:=∃ Z:Nat→Bool,(∀ t,RelA (FrzC Z σ.own) (σ.slots t) (σ'.slots t)) ∧
 ∀ n,(σ'.own n).ver=(σ.own n).ver∧((σ'.own n).obj=.dead∨(Z n=false∧RelO (FrzC Z σ.own) (σ.own n).obj (σ'.own n).obj))
def Tl (σ σ':St):Prop:=∃ l ty k xs,xs≠[]∧(σ.own l).obj=.row ty k xs∧σ'=⟨σ.slots,upd σ.own l ⟨(σ.own l).ver,.tail ty k xs⟩⟩
inductive Wks (c:Cfg):St→St→Prop
 | refl (σ:St):Wks c σ σ
 | step {σ σ1 σ2:St} (h:Wk c σ σ1) (k:Wks c σ1 σ2):Wks c σ σ2
 | tail {σ σ1 σ2:St} (h:Tl σ σ1) (k:Wks c σ1 σ2):Wks c σ σ2
def awp (c:Cfg):Code→(Exit→St→Prop)→St→Prop
 | .skip,Q,σ=>Q .normal σ
 | .label _,Q,σ=>Q .normal σ
 | .region _ ops _,Q,σ=>∃ σ0,Wks c σ σ0∧arun c ops.toList ops.toList σ0 fun σ'=>∃ σ1 σ'',Wk c σ' σ1∧Mv σ1 σ''∧Q .normal σ''
 | .seq x y,Q,σ=>awp c x (fun e σ'=>match e with|.normal=>awp c y Q σ'|e=>Q e σ') σ
 | .cond p x y,Q,σ=>match evA σ.slots p with
  | .one (.d (.bool b))=>(b=true→awp c x Q σ)∧(b=false→awp c y Q σ)
  | _=>False
 | .block id x,Q,σ=>awp c x (fun e σ'=>match e with|.exit id'=>(match Nat.beq id' id with|true=>Q .normal σ'|false=>Q (.exit id') σ')|e=>Q e σ') σ
 | .loop x,Q,σ=>∃ (σ0:St) (I:St→Prop) (μ:St→Nat),Wks c σ σ0∧I σ0∧∀ σ',I σ'→awp c x (fun e σ''=>match e with|.normal=>I σ''∧μ σ'' < μ σ'|e=>Q e σ'') σ'
 | .exit id,Q,σ=>Q (.exit id) σ
 | .ret,Q,σ=>Q .ret σ
 | _,_,_=>False
def aggB (P:Program) (t:TypeId):Bool:=match P.underlying t with|some (.struct _)|some (.array _ _)=>true|_=>false
def fieldsB (P:Program) (t:TypeId):Option (List (Nat × Nat × Bool)):=
 match P.underlying t with
 | some (.struct fs)=>if fs.toList.all (fun f=>(P.underlying f.type).isSome) then some (fs.toList.map fun f=>(f.offset,P.cellsOf f.type,aggB P f.type)) else none
 | _=>none
def zeroB (P:Program) (t:TypeId):Option (List Value):=((P.info? t).bind (·.zero)).map (·.cells.toList)
def EqOk (P:Program) (t:TypeId):Prop:=∀ (w:World) (x y:Operand) (a1 a2 b1 b2:Int),
 (eqGuard .eql t x y (.agg #[.int .i64 a1,.int .i64 a2]) (.agg #[.int .i64 b1,.int .i64 b2])).run P w=.ok () w ∧
 (eqGuard .neq t x y (.agg #[.int .i64 a1,.int .i64 a2]) (.agg #[.int .i64 b1,.int .i64 b2])).run P w=.ok () w ∧
 (Op.equal t (.agg #[.int .i64 a1,.int .i64 a2]) (.agg #[.int .i64 b1,.int .i64 b2])).run P w=.ok (a1 == b1 && a2 == b2) w
def TIok (P:Program) (t:TypeId) (i:TI):Prop:=
 (P.info? t).map (·.size)=some i.size∧zeroB P t=some (i.zero.map ZK.v)∧aggB P t=i.agg∧(P.underlying t).isSome=true ∧
 match i.kind with
 | .int k=>P.underlying t=some (.int k)
 | .bool=>P.underlying t=some .bool
 | .slice e k b z=>P.underlying t=some (.slice e)∧(P.info? e).map (fun i=>(i.size,i.bytes))=some (k.size,b)∧zeroB P e=some (z.map ZK.v)∧z.length=k.size
 | .struct fs eqp=>fieldsB P t=some fs∧(eqp=true→EqOk P t)
 | .other=>True
def noRho:Nat→Value:=fun _=>.bool false
def deadOwn:Nat→Loc:=fun _=>⟨0,.dead⟩
def newB (w w':World) (F:Nat→Prop) (s:Value):Nat→Prop:=fun b=>(F b∨(w.heap.size≤b∧b < w'.heap.size))∧blk s≠some b
def RetCell (w':World) (G:Nat→Prop) (s:Option Value):Cell→Value→Prop
 | .d x,v=>DC w' G x v
 | .own _ _,v=>s=some v
 | .ptr ..,_=>False
 | .sub ..,_=>False
def RetC (w w':World) (F:Nat→Prop) (r:RV) (v:Value):Prop:=
 match r.row with
 | none=>AVG (RetCell w' (fun b=>F b∨(w.heap.size≤b∧b < w'.heap.size)) none) r.av v
 | some R=>∃ s vs,w'.ownsRow w.heap.size R.ty R.k.size s R.xs.length vs∧RowC w' (newB w w' F s) R.k R.xs vs∧nilOk R.nl s∧AVG (RetCell w' (newB w w' F s) (some s)) r.av v
def DeepAt (w:World) (G F:Nat→Prop) (ty ety:TypeId) (e:ElB) (xs:List (List e.T)) (s:Value) (inner:Nat→Value):Prop:=
 ∃ vs,w.ownsRow 0 ty 1 s xs.length vs∧(∀ v∈vs,v.oneCell'=true)∧(∀ b,blk s=some b→G b) ∧
  ∀ i x,xs[i]?=some x→vs[i]?=some (inner i)∧(∃ us,w.ownsRow 0 ety (ElK.b e).size (inner i) x.length us∧RowC w F (.b e) x us) ∧
   ∀ b,blk (inner i)=some b→G b∧blk s≠some b∧∀ j y,j≠i→xs[j]?=some y→blk (inner j)≠some b
def newD (w w':World) (F:Nat→Prop) (s:Value) (inner:Nat→Value) (n:Nat):Nat→Prop:=fun b=>(F b∨(w.heap.size≤b∧b < w'.heap.size))∧blk s≠some b∧∀ i,i < n→blk (inner i)≠some b
def RetD (w w':World) (F:Nat→Prop) (ety:TypeId) (r:RV) (v:Value):Prop:=
 match r.row with
 | none=>RetC w w' F r v
 | some ⟨ty,nl,.s e,xs⟩=>∃ s inner,DeepAt w' (fun b=>w.heap.size≤b) (fun _=>False) ty ety e xs s inner∧nilOk nl s∧AVG (RetCell w' (newD w w' F s inner xs.length) (some s)) r.av v
 | some _=>RetC w w' F r v
def RetX (w w':World) (F:Nat→Prop) (dp:Option TypeId) (r:RV) (v:Value):Prop:=
 match dp with
 | none=>RetC w w' F r v
 | some ety=>RetD w w' F ety r v
def Sound (P:Program) (f:FuncId) (con:Con):Prop:=
 ∀ (w:World) (F:Nat→Prop) (args:List AV) (vs:List Value) (x:con.X),con.pat args=some x→con.pre x→(∀ b,F b→b < w.heap.size) →
  vs.length=args.length→(∀ (j:Nat) y v,args[j]?=some y→vs[j]?=some v→AVC w F noRho deadOwn y v) →
  Calls P f vs.toArray w fun e w'=>∃ v,e=.returned v∧Below w.heap.size w w'∧RetX w w' F con.dp (con.res x) v
def ArgCell (w:World) (F:Nat→Prop) (s:Value):Cell→Value→Prop
 | .d x,v=>DC w F x v
 | .own _ _,v=>v=s
 | .ptr ..,_=>False
 | .sub ..,_=>False
def SoundW (P:Program) (f:FuncId) (con:ConW):Prop:=
 ∀ (w:World) (F:Nat→Prop) (args:List AV) (vs:List Value) (a:AV) (l ver:Nat) (x:con.X) (s:Value) (k:ElK) (xs ys:List k.T) (cells:List Value),
  nthA args con.wi=some a→ownCell a=some (l,ver)→othersD con.wi args=true→con.pat (setA args con.wi (ownAs a (.d (.sl none k xs))))=some x→con.pre x→castL k (con.out x).k (con.out x).ys=some ys →
  (∀ b,F b→b < w.heap.size)→vs.length=args.length→(∀ (j:Nat) y v,args[j]?=some y→vs[j]?=some v→AVG (ArgCell w F s) y v) →
  w.ownsRow 0 con.ty k.size s xs.length cells→RowC w F k xs cells→(∀ b,blk s=some b→b < w.heap.size∧¬ F b)→s.oneCell'=true →
  Calls P f vs.toArray w fun e w'=>∃ v s' cells',∃ F':Nat→Prop,e=.returned v∧w.grownBy w' (blk s)∧((∀ b,F b→F' b)∧(∀ b,F' b→F b∨w.heap.size≤b∨blk s=some b)∧∀ b,F' b→b < w'.heap.size) ∧
   (∀ b,blk s'=some b→(blk s=some b∨w.heap.size≤b)∧¬ F' b)∧w'.ownsRow 0 con.ty k.size s' ys.length cells'∧RowC w' F' k ys cells'∧s'.oneCell'=true ∧
   match (con.out x).trunc with
   | true=>v=s'
   | false=>s'=s∧AVG (RetCell w' (fun _=>False) none) (con.av x) v
def SoundW0 (P:Program) (f:FuncId) (con:ConW):Prop:=
 ∀ (w:World) (F:Nat→Prop) (args:List AV) (vs:List Value) (a:AV) (l ver:Nat) (x:con.X) (s:Value) (k:ElK) (xs ys:List k.T) (cells:List Value),
  nthA args con.wi=some a→ownCell a=some (l,ver)→othersD con.wi args=true→con.pat (setA args con.wi (ownAs a (.d (.sl none k xs))))=some x→con.pre x→castL k (con.out x).k (con.out x).ys=some ys→k.base=true →
  (∀ b,F b→b < w.heap.size)→vs.length=args.length→(∀ (j:Nat) y v,args[j]?=some y→vs[j]?=some v→AVG (ArgCell w F s) y v) →
  w.ownsRow 0 con.ty k.size s xs.length cells→RowC w F k xs cells→(∀ b,blk s=some b→b < w.heap.size∧¬ F b)→s.oneCell'=true →
  Calls P f vs.toArray w fun e w'=>∃ v s' cells',e=.returned v∧w.grownBy w' (blk s)∧(∀ b,blk s'=some b→blk s=some b∨w.heap.size≤b)∧w'.ownsRow 0 con.ty k.size s' ys.length cells'∧RowC w' F k ys cells'∧s'.oneCell'=true ∧
   match (con.out x).trunc with
   | true=>v=s'
   | false=>s'=s∧AVG (RetCell w' (fun _=>False) none) (con.av x) v
theorem SoundW0.to {P:Program} {f:FuncId} {con:ConW} (h:SoundW0 P f con) (hb:∀ x,(con.out x).k.base=true):SoundW P f con:=by
 intro w F args vs a l ver x s k xs ys cells h1 h2 h3 h4 h5 hcast hF hlen hargs hw hrow hs hone
 have hk:k.base=true:=by
  obtain ⟨e,-⟩:=castL_ok hcast
  have:=hb x
  rw [e] at this;exact this
 refine (h w F args vs a l ver x s k xs ys cells h1 h2 h3 h4 h5 hcast hk hF hlen hargs hw hrow hs hone).mono fun e w' he=>?_
 obtain ⟨v,s',cells',q1,q2,q3,q4,q5,q6,q7⟩:=he
 refine ⟨v,s',cells',F,q1,q2,⟨fun _ h=>h,fun _ h=>.inl h,fun b hb=>Nat.lt_of_lt_of_le (hF b hb) q2.size⟩,fun b hb=>⟨q3 b hb,fun hf=>?_⟩,q4,q5,q6,q7⟩
 rcases q3 b hb with g|g
 ·exact (hs b g).2 hf
 ·have:=hF b hf;omega
def SoundDD (P:Program) (f:FuncId) (con:ConD):Prop:=
 ∀ (w:World) (F:Nat→Prop) (args:List AV) (vs:List Value) (a:AV) (l ver:Nat) (x:con.X) (s:Value) (xs:List (List Int)) (inner:Nat→Value),
  nthA args con.wi=some a→ownCell a=some (l,ver)→othersD con.wi args=true→con.pat (setA args con.wi (ownAs a (.d (.sl none (.s .int) xs))))=some x→con.pre x→(con.out x).length=xs.length →
  (∀ b,F b→b < w.heap.size)→vs.length=args.length→(∀ (j:Nat) y v,args[j]?=some y→vs[j]?=some v→AVG (ArgCell w F s) y v) →
  DeepAt w (fun b=>b < w.heap.size∧¬ F b) (fun _=>False) con.ty con.ety .int xs s inner→s.oneCell'=true →
  Calls P f vs.toArray w fun e w'=>∃ v inner',e=.returned v∧w'.os=w.os∧w'.tape=w.tape∧w'.output=w.output∧w.heap.size≤w'.heap.size ∧
   (∀ b,b < w.heap.size→blk s≠some b→(∀ i,i < xs.length→blk (inner i)≠some b)→w'.heap[b]?=w.heap[b]?) ∧
   DeepAt w' (fun _=>True) (fun _=>False) con.ty con.ety .int (con.out x) s inner' ∧
   (∀ i b,i < xs.length→blk (inner' i)=some b→w.heap.size≤b∨∃ j,j < xs.length∧blk (inner j)=some b)∧AVG (RetCell w' (fun _=>False) none) (con.av x) v
def BoxAt (w:World) (F:Nat→Prop) (ty:TypeId) (ds:List D) (b:Nat):Prop:=
 ∃ us:Array Value,w.heap[b]?=some (.cells us ty (0,0))∧(∀ v∈us.toList,v.oneCell'=true)∧us.toList.length=ds.length∧∀ (j:Nat) x u,ds[j]?=some x→us.toList[j]?=some u→DC w F x u
def ArgCellB (w:World) (F:Nat→Prop) (s:Value):Cell→Value→Prop
 | .d x,v=>DC w F x v
 | .ptr ..,v=>v=s
 | .own ..,_=>False
 | .sub ..,_=>False
def newF (w w':World) (F:Nat→Prop):Nat→Prop:=fun b=>F b∨(w.heap.size≤b∧b < w'.heap.size)
def SoundB (P:Program) (f:FuncId) (con:ConD):Prop:=
 ∀ (w:World) (F:Nat→Prop) (args:List AV) (vs:List Value) (a:AV) (l ver:Nat) (x:con.X) (b:Nat) (ds:List D),
  nthA args con.wi=some a→boxCell a=some (l,ver)→othersD con.wi args=true→con.pat (setA args con.wi (.one (.d (.ptr ds))))=some x→con.pre x →
  (∀ b,F b→b < w.heap.size)→vs.length=args.length→(∀ (j:Nat) y v,args[j]?=some y→vs[j]?=some v→AVG (ArgCellB w F (.pointer (some ⟨b,0,none⟩))) y v) →
  BoxAt w F con.ty ds b→b < w.heap.size→¬ F b →
  Calls P f vs.toArray w fun e w'=>∃ v,e=.returned v∧w.grownBy w' (some b)∧BoxAt w' (newF w w' F) con.ty (con.outB x) b∧AVG (RetCell w' (newF w w' F) none) (con.av x) v
def SoundN (P:Program) (f:FuncId) (con:ConD):Prop:=
 ∀ (w:World) (F:Nat→Prop) (args:List AV) (vs:List Value) (x:con.X),con.pat args=some x→con.pre x→(∀ b,F b→b < w.heap.size) →
  vs.length=args.length→(∀ (j:Nat) y v,args[j]?=some y→vs[j]?=some v→AVC w F noRho deadOwn y v) →
  Calls P f vs.toArray w fun e w'=>∃ b,e=.returned (.pointer (some ⟨b,0,none⟩))∧Below w.heap.size w w'∧w.heap.size≤b∧b < w'.heap.size∧BoxAt w' (fun g=>newF w w' F g∧g≠b) con.ty (con.outB x) b
def SoundD (P:Program) (f:FuncId) (con:ConD):Prop:=match con.kind with
 | .deep=>SoundDD P f con
 | .box=>SoundB P f con
 | .mk=>SoundN P f con
structure CfgOk (P:Program) (c:Cfg):Prop where
 ty:∀ t i,c.ty t=some i→TIok P t i
 con : ∀ f k, c.con f = some k → Sound P f k ∧ (∃ fn, P.funcs[f]? = some fn ∧ (fn.name == "runtime.NumGoroutine") = false ∧ fn.body.isNone = false)
 conw : ∀ f k, c.conw f = some k → SoundW P f k ∧ (∃ fn, P.funcs[f]? = some fn ∧ (fn.name == "runtime.NumGoroutine") = false ∧ fn.body.isNone = false)
 cond : ∀ f k, c.cond f = some k → SoundD P f k ∧ (∃ fn, P.funcs[f]? = some fn ∧ (fn.name == "runtime.NumGoroutine") = false ∧ fn.body.isNone = false)
section
variable {P : Program} {w : World} {F : Nat → Prop} {ρ : Nat → Value} {own : Nat → Loc}
theorem absCell_ok:∀ {v:Value} {c:Cell},absCell v=some c→CellC w F ρ own c v:=by
 intro v c h
 unfold absCell at h
 split at h <;> first|(injection h with h;subst h;first|exact DC.int _ _|exact DC.bool _|exact DC.nil)|cases h
theorem absCells_ok:∀ {vs:List Value} {cs:List Cell},absCells vs=some cs→CellsC w F ρ own cs vs
 | [],cs,h=>by
  simp only [absCells,Option.some.injEq] at h
  subst h
  exact ⟨rfl,fun j c v hc=>by simp at hc⟩
 | v :: r,cs,h=>by
  unfold absCells at h
  split at h
  ·rename_i c cs' h1 h2
   injection h with h
   subst h
   obtain ⟨hl,hx⟩:=absCells_ok h2
   refine ⟨by simp [hl],fun j c' v' hc hv=>?_⟩
   cases j with
   | zero=>
    simp at hc hv
    subst hc;subst hv
    exact absCell_ok h1
   | succ j=>
    simp at hc hv
    exact hx j c' v' hc hv
  ·cases h
theorem absV_ok (v:Value):AVC w F ρ own (absV v) v:=by
 unfold absV
 split
 ·rename_i cs
  split
  ·rename_i l h
   exact ⟨cs.toList,by simp,absCells_ok h⟩
  ·trivial
 ·split
  ·rename_i c h
   exact absCell_ok h
  ·trivial
theorem ev_ok {slots:Nat→AV} {a:Act} (hs:∀ t,AVC w F ρ own (slots t) (a.tmps.getD t undef)) (x:Operand):AVC w F ρ own (evA slots x) (a.eval x):=by
 cases x with
 | tmp t=>exact hs t
 | const v=>exact absV_ok v
 | global g=>trivial
 | func f=>
  show DC w F (.clo f []) (.func (.func f) #[] #[])
  exact DC.clo (us:=[]) rfl (fun j x u hx=>by simp at hx)
def Yield (P:Program) (o:Oper) (a:Act) (w:World) (F:Nat→Prop) (ρ:Nat→Value) (own:Nat→Loc) (x:AV) (Q:Exit→Act→World→Prop):Prop:=
 o.wp P a w (fun a' w'=>∃ u F',a'=a.put o.dst u∧Below w.heap.size w w'∧(∀ b,F b→F' b)∧(∀ b,F' b→F b∨(w.heap.size≤b∧b < w'.heap.size))∧AVC w' F' ρ own x u) Q
theorem Yield.pure {o:Oper} {a:Act} {x:AV} {Q:Exit→Act→World→Prop} {u:Value} (h:(execOp a.eval o).run P w=.ok (.value u) w) (hx:AVC w F ρ own x u):Yield P o a w F ρ own x Q:=by
 unfold Yield Oper.wp
 rw [h]
 exact ⟨u,F,rfl,Below.refl _ _,fun _ h=>h,fun _ h=>.inl h,hx⟩
theorem Yield.new {o:Oper} {a:Act} {x:AV} {Q:Exit→Act→World→Prop} {u:Value} {ob:Obj} (h:(execOp a.eval o).run P w=.ok (.value u) (w.alloc ob))
  (hx:AVC (w.alloc ob) (fun b=>F b∨b=w.heap.size) ρ own x u):Yield P o a w F ρ own x Q:=by
 unfold Yield Oper.wp
 rw [h]
 exact ⟨u,_,rfl,(Below.refl _ _).alloc (Nat.le_refl _) _,fun _ h=>.inl h,fun b h=>h.imp id (fun e=>by subst e;simp),hx⟩
theorem cells_ok {x:AV} {cs:List Cell} {v:Value} (hc:cells x=some cs) (h:AVC w F ρ own x v):CellsC w F ρ own cs v.cells.toList:=by
 cases x with
 | one c=>
  simp only [cells,Option.some.injEq] at hc
  subst hc
  rw [cells_one (CellC.oneCell h)]
  refine ⟨rfl,fun j c' v' hc hv=>?_⟩
  cases j with
  | zero=>simp at hc hv;subst hc;subst hv;exact h
  | succ j=>simp at hc
 | agg l=>
  simp only [cells,Option.some.injEq] at hc
  subst hc
  obtain ⟨vs,rfl,hvs⟩:=h
  simpa [Value.cells] using hvs
 | tup _=>cases hc
 | junk=>cases hc
theorem dOf_ok:∀ {cs:List Cell} {ds:List D},dOf cs=some ds→cs=ds.map .d
 | [],ds,h=>by simp only [dOf,Option.some.injEq] at h;subst h;rfl
 | .d x :: cs,ds,h=>by
  unfold dOf at h
  split at h
  ·rename_i l hl
   injection h with h
   subst h
   rw [dOf_ok hl];rfl
  ·cases h
 | .own .. :: _,ds,h=>by simp [dOf] at h
 | .ptr .. :: _,ds,h=>by simp [dOf] at h
 | .sub .. :: _,ds,h=>by simp [dOf] at h
theorem add_add' (a:Addr) (i j:Nat):(a.add i).add j=a.add (i + j):=by
 unfold Addr.add
 by_cases hi:i=0 <;> by_cases hj:j=0 <;> simp [hi,hj,Nat.add_assoc]
theorem add_zero' (a:Addr):a.add 0=a:=rfl
theorem add_lit' (b i j:Nat):(⟨b,i,none⟩:Addr).add j=⟨b,i + j,none⟩:=by
 unfold Addr.add
 by_cases hj:j=0 <;> simp [hj]
theorem run_size {t:TypeId} {n:Nat} (h:(P.info? t).map (·.size)=some n) (w:World):(sizeOf t).run P w=.ok n w:=by
 cases hi:P.info? t with
 | none=>rw [hi] at h;cases h
 | some i=>
  rw [hi] at h
  simp only [Option.map_some,Option.some.injEq] at h
  simp [sizeOf,typeInfo,hi,h]
theorem run_und {t:TypeId} {d:TypeDesc} (h:P.underlying t=some d) (w:World):(underlying t).run P w=.ok d w:=run_underlying h w
theorem run_isAgg {t:TypeId} (h:(P.underlying t).isSome=true) (w:World):(isAgg t).run P w=.ok (aggB P t) w:=by
 cases hu:P.underlying t with
 | none=>rw [hu] at h;cases h
 | some d=>
  unfold isAgg aggB
  simp only [Sem.run_bind,run_und hu,Result.andThen_ok,hu]
  split <;> split <;> simp_all
theorem takeC_ok:∀ {n:Nat} {cs l:List Cell},takeC n cs=some l→l=cs.take n∧n≤cs.length
 | 0,cs,l,h=>by simp only [takeC,Option.some.injEq] at h;subst h;simp
 | n + 1,[],l,h=>by simp [takeC] at h
 | n + 1,c :: cs,l,h=>by
  unfold takeC at h
  split at h
  ·rename_i l' hl
   injection h with h
   subst h
   obtain ⟨h1,h2⟩:=takeC_ok hl
   exact ⟨by rw [h1];rfl,by simp;omega⟩
  ·cases h
theorem CellsC.take {cs:List Cell} {vs:List Value} (h:CellsC w F ρ own cs vs) (n:Nat):CellsC w F ρ own (cs.take n) (vs.take n):=by
 refine ⟨by simp [h.1],fun j c v hc hv=>?_⟩
 rw [List.getElem?_take] at hc hv
 split at hc
 ·rename_i hj
  rw [if_pos hj] at hv
  exact h.2 j c v hc hv
 ·cases hc
theorem CellsC.drop {cs:List Cell} {vs:List Value} (h:CellsC w F ρ own cs vs) (n:Nat):CellsC w F ρ own (cs.drop n) (vs.drop n):=by
 refine ⟨by simp [h.1],fun j c v hc hv=>?_⟩
 rw [List.getElem?_drop] at hc hv
 exact h.2 _ c v hc hv
theorem CellsC.cons {c:Cell} {v:Value} {cs:List Cell} {vs:List Value} (h0:CellC w F ρ own c v) (h:CellsC w F ρ own cs vs):CellsC w F ρ own (c :: cs) (v :: vs):=by
 refine ⟨by simp [h.1],fun j c' v' hc hv=>?_⟩
 cases j with
 | zero=>simp at hc hv;subst hc;subst hv;exact h0
 | succ j=>simp at hc hv;exact h.2 j c' v' hc hv
theorem CellsC.nil:CellsC w F ρ own [] []:=⟨rfl,fun j c v hc=>by simp at hc⟩
theorem CellsC.uncons {c:Cell} {cs:List Cell} {vs:List Value} (h:CellsC w F ρ own (c :: cs) vs):∃ v vs',vs=v :: vs'∧CellC w F ρ own c v∧CellsC w F ρ own cs vs':=by
 cases vs with
 | nil=>have:=h.1;simp at this
 | cons v vs'=>
  refine ⟨v,vs',rfl,h.2 0 c v rfl rfl,by have:=h.1;simpa using this,fun j c' v' hc hv=>h.2 (j + 1) c' v' (by simpa using hc) (by simpa using hv)⟩
theorem load_ok {t:TypeId} {ti:TI} (hti:TIok P t ti) {cs:List Cell} {vs:List Value} (hcs:CellsC w F ρ own cs vs) {ad:Addr}
  (hcell:∀ (j:Nat) u,vs[j]?=some u→w.cell? (ad.add j)=some u) {p q:Prop} {y:AV} (h:loadC ti cs p=.ok q y) (hq:q) :
  p∧∃ u,(Instr.loadAt t (.pointer (some ad))).run P w=.ok u w∧AVC w F ρ own y u:=by
 obtain ⟨hsz,_,hag,hun,_⟩:=hti
 unfold loadC at h
 have hl:(Instr.loadAt t (.pointer (some ad))).run P w=((if aggB P t=true then (do pure (Value.agg (← loadCells ad (← sizeOf t)))) else load ad:Sem Value)).run P w:=by
  simp only [Instr.loadAt,Instr.sureAddr,loadVar,Sem.run_bind,Sem.run_pure,Result.andThen_ok,run_isAgg hun]
 rw [hag] at hl
 split at h
 ·rename_i hagg
  split at h
  ·rename_i l htk
   injection h with hp hy
   subst hp;subst hy
   refine ⟨hq,?_⟩
   obtain ⟨h1,h2⟩:=takeC_ok htk
   subst h1
   have hlen:(vs.take ti.size).length=ti.size:=by rw [List.length_take,hcs.1];omega
   have hr:=run_loadCells_list (P:=P) w ad (vs.take ti.size) (fun j v hv=>by
    rw [List.getElem?_take] at hv
    split at hv
    ·exact hcell j v hv
    ·cases hv)
   rw [hlen] at hr
   refine ⟨.agg (vs.take ti.size).toArray,?_,vs.take ti.size,rfl,hcs.take _⟩
   rw [hl,if_pos hagg]
   simp only [Sem.run_bind,run_size hsz,Result.andThen_ok,hr,Sem.run_pure]
  ·cases h
 ·rename_i hagg
  split at h
  ·rename_i c cs'
   injection h with hp hy
   subst hp;subst hy
   refine ⟨hq,?_⟩
   obtain ⟨v,vs',rfl,h0,_⟩:=hcs.uncons
   have:=hcell 0 v rfl
   refine ⟨v,?_,h0⟩
   rw [hl,if_neg (by simp [hagg])]
   rw [add_zero'] at this
   simp [run_load,this]
  ·cases h
theorem enc_len (k:ElK) (x:k.T):(k.enc x).length=k.size:=by
 cases k with
 | b e=>cases e <;> rfl
 | s e=>rfl
theorem encV_c (e:ElB) (x:e.T):CellsC w F ρ own ((e.enc x).map .d) (e.encV x):=by
 cases e <;> simp only [ElB.enc,ElB.encV,List.map_cons,List.map_nil] <;>
  repeat' first|exact CellsC.nil|(refine CellsC.cons ?_ ?_)|exact DC.int _ _|exact DC.bool _
theorem elem_enc {k:ElK} {x:k.T} {us:List Value} (h:Elem w F k x us):CellsC w F ρ own ((k.enc x).map .d) us:=by
 cases k with
 | b e=>simp only [Elem] at h;subst h;exact encV_c e x
 | s e=>
  obtain ⟨u,rfl,hs⟩:=h
  exact CellsC.cons (DC.sl (fun b hb=>by cases hb) hs) CellsC.nil
theorem getD_some {α:Type} {xs:List α} {i:Nat} {d:α} (h:i < xs.length):xs[i]?=some (xs.getD i d):=by
 simp [List.getD,List.getElem?_eq_getElem h]
end
structure Here (P:Program) (c:Cfg) (N F:Nat→Prop) (ρ:Nat→Value) (own:Nat→Loc) (slots:Nat→AV) (a:Act) (w:World):Prop where
 cfg:CfgOk P c
 sl:∀ t,AVC w F ρ own (slots t) (a.tmps.getD t undef)
 mem:Mem w N F ρ own
section
variable {P : Program} {c : Cfg} {w : World} {N F : Nat → Prop} {ρ : Nat → Value} {own : Nat → Loc} {slots : Nat → AV} {a : Act} {Q : Exit → Act → World → Prop} {o : Oper} {p : Prop} {y : AV}
theorem Here.ev (H:Here P c N F ρ own slots a w) (x:Operand):AVC w F ρ own (evA slots x) (a.eval x):=ev_ok H.sl x
theorem Here.ev' (H:Here P c N F ρ own slots a w) {x:Operand} {y:AV} (h:evA slots x=y):AVC w F ρ own y (a.eval x):=h ▸ H.ev x
theorem s_move (H:Here P c N F ρ own slots a w) {x:Operand} (ho:o.op=.move x∨o.op=.assign x):Yield P o a w F ρ own (evA slots x) Q:=by
 refine Yield.pure (u:=a.eval x) ?_ (H.ev x)
 rcases ho with ho|ho <;> simp [execOp,ho]
theorem boolD {b:Bool} {v:Value} (h:DC w F (.bool b) v):v=.bool b:=by cases h;rfl
theorem intD {k:IntKind} {n:Int} {v:Value} (h:DC w F (.int k n) v):v=.int k n:=by cases h;rfl
theorem nilD {v:Value} (h:DC w F .nil v):v=.slice none 0 0:=by cases h;rfl
theorem Here.bool (H:Here P c N F ρ own slots a w) {x:Operand} {b:Bool} (h:evA slots x=.one (.d (.bool b))):a.eval x=.bool b:=boolD (H.ev' h)
theorem Here.int (H:Here P c N F ρ own slots a w) {x:Operand} {k:IntKind} {n:Int} (h:evA slots x=.one (.d (.int k n))):a.eval x=.int k n:=intD (H.ev' h)
theorem Here.nil (H:Here P c N F ρ own slots a w) {x:Operand} (h:evA slots x=.one (.d .nil)):a.eval x=.slice none 0 0:=nilD (H.ev' h)
theorem s_pick (H:Here P c N F ρ own slots a w) {q x z:Operand} (ho:o.op=.pick q x z) (h:aval c (evA slots) own (.pick q x z)=.ok p y) (hp:p):Yield P o a w F ρ own y Q:=by
 dsimp only [aval] at h
 split at h
 ·rename_i b b1 b2 h1 h2 h3
  injection h with e1 e2
  subst e1;subst e2
  have k1:=boolD (H.ev' h1)
  have k2:=boolD (H.ev' h2)
  have k3:=boolD (H.ev' h3)
  refine Yield.pure (u:=.bool (bif b then b1 else b2)) ?_ (DC.bool _)
  cases b <;> simp [execOp,ho,k1,k2,k3,asBool]
 ·injection h with e1 e2
  subst e1;subst e2;subst hp
  have k1:a.eval q=.bool false:=H.bool (by assumption)
  refine Yield.pure (u:=a.eval z) ?_ (H.ev z)
  simp [execOp,ho,k1,asBool]
 ·injection h with e1 e2
  subst e1;subst e2;subst hp
  have k1:a.eval q=.bool false:=H.bool (by assumption)
  refine Yield.pure (u:=a.eval z) ?_ (H.ev z)
  simp [execOp,ho,k1,asBool]
 ·injection h with e1 e2
  subst e1;subst e2;subst hp
  have k1:a.eval q=.bool true:=H.bool (by assumption)
  refine Yield.pure (u:=a.eval x) ?_ (H.ev x)
  simp [execOp,ho,k1,asBool]
 ·injection h with e1 e2
  subst e1;subst e2;subst hp
  have k1:a.eval q=.bool true:=H.bool (by assumption)
  refine Yield.pure (u:=a.eval x) ?_ (H.ev x)
  simp [execOp,ho,k1,asBool]
 ·cases h
theorem fin_new (m:Mem w N F ρ own) (ob:Obj):Ext w F (w.alloc ob) (fun b=>F b∨b=w.heap.size):=
 ⟨rfl,rfl,rfl,by simp,fun b hb=>Below.heap_alloc w ob b (m.fin b hb),fun _ h=>.inl h⟩
theorem heap_new (w:World) (ob:Obj):(w.alloc ob).heap[w.heap.size]?=some ob:=heap_alloc_new w ob
theorem cell_new (w:World) (cs:Array Value) (t:TypeId) (j:Nat):(w.alloc (.cells cs t)).cell? ⟨w.heap.size,j,none⟩=cs[j]?:=by
 have h:=heap_new w (.cells cs t)
 unfold World.cell?
 rw [h]
 rfl
theorem DC.ofCells {ds:List D} {us:List Value} (h:CellsC w F ρ own (ds.map .d) us):us.length=ds.length∧∀ (j:Nat) x u,ds[j]?=some x→us[j]?=some u→DC w F x u:=
 ⟨by simpa using h.1,fun j x u hx hu=>h.2 j (.d x) u (by simp [hx]) hu⟩
theorem CellsC.ofDC {ds:List D} {us:List Value} (hl:us.length=ds.length) (h:∀ (j:Nat) x u,ds[j]?=some x→us[j]?=some u→DC w F x u):CellsC w F ρ own (ds.map .d) us:=by
 refine ⟨by simpa using hl,fun j c v hc hv=>?_⟩
 simp only [List.getElem?_map] at hc
 cases hd:ds[j]? with
 | none=>rw [hd] at hc;cases hc
 | some x=>
  rw [hd] at hc
  simp only [Option.map_some,Option.some.injEq] at hc
  subst hc
  exact h j x v hd hv
theorem s_box (H:Here P c N F ρ own slots a w) {t:TypeId} {x:Operand} (ho:o.op=.box t x) (h:aval c (evA slots) own (.box t x)=.ok p y):Yield P o a w F ρ own y Q:=by
 dsimp only [aval] at h
 split at h
 ·rename_i cs hcs
  split at h
  ·rename_i ds hds
   injection h with e1 e2
   subst e2
   have hcd:=dOf_ok hds
   subst hcd
   have hc:=cells_ok hcs (H.ev x)
   refine Yield.new (u:=.pointer (some ⟨w.heap.size,0,none⟩)) (ob:=.cells (a.eval x).cells t) (by simp [execOp,ho,Instr.box,newVar,newRow]) ?_
   have hx:=hc.mono (fin_new H.mem (.cells (a.eval x).cells t))
   obtain ⟨hl,hd⟩:=DC.ofCells hx
   refine DC.ptr _ _ hl (.inr rfl) (fun j u hu=>?_) hd
   rw [add_lit',Nat.zero_add,cell_new]
   simpa using hu
  ·cases h
 ·cases h
theorem load_val (H:Here P c N F ρ own slots a w) {t:TypeId} {x:Operand} (h:aval c (evA slots) own (.load t x)=.ok p y) (hp:p) :
  ∃ u ad,a.eval x=.pointer (some ad)∧(Instr.loadAt t (.pointer (some ad))).run P w=.ok u w∧AVC w F ρ own y u:=by
 generalize hev:a.eval x=vx
 have fin:∀ {ad:Addr},vx=.pointer (some ad)→(∃ u,(Instr.loadAt t (.pointer (some ad))).run P w=.ok u w∧AVC w F ρ own y u)→∃ u ad,vx=.pointer (some ad)∧(Instr.loadAt t (.pointer (some ad))).run P w=.ok u w∧AVC w F ρ own y u:=by
  rintro ad he ⟨u,hr,hy⟩
  exact ⟨u,ad,he,hr,hy⟩
 dsimp only [aval] at h
 split at h
 ·rename_i i ds hi hx
  have hd:DC w F (.ptr ds) (a.eval x):=H.ev' hx
  rw [hev] at hd
  cases hd with
  | ptr ad us hl hF h1 h2=>
    exact fin rfl (load_ok (H.cfg.ty _ _ hi) (CellsC.ofDC hl h2) h1 h hp).2
 ·rename_i i l ver ix j hi hx
  have hd:CellC w F ρ own (.ptr l ver ix j) (a.eval x):=H.ev' hx
  rw [hev] at hd
  have hok:=H.mem.ok l
  split at h
  ·rename_i ver' ty cs hl
   rw [hl] at hok
   obtain ⟨b,vs,hρ,hh,hcs,_⟩:=hok
   have key:=load_ok (ad:=⟨b,j,none⟩) (H.cfg.ty _ _ hi) (hcs.drop j) (fun j' u hu=>by
    rw [List.getElem?_drop] at hu
    rw [add_lit',World.cell?,hh]
    simpa using hu) h hp
   have hv:=hd.2.2 (by rw [hl];exact key.1.symm)
   simp only [hl,hρ,blk] at hv
   obtain ⟨b',hb',he,_⟩:=hv
   injection hb' with hb'
   subst hb'
   exact fin he key.2
  ·rename_i ver' ty k xs hl
   rw [hl] at hok
   obtain ⟨vs,hw,hrow,_⟩:=hok
   have key0:(ver=ver'∧ix < xs.length):=by
    unfold loadC at h
    split at h <;> split at h <;> first|(injection h with e1 e2;rw [← e1] at hp;exact hp)|cases h
   obtain ⟨us,hul,hel,hus⟩:=hrow.2 ix _ (getD_some (d:=k.dflt) key0.2)
   have hv:=hd.2.2 (by rw [hl];exact key0.1.symm)
   simp only [hl] at hv
   obtain ⟨b,hb,he⟩:=hv
   have hcells:=hw.cells (g:=b) (blk_own hw hb)
   have key:=load_ok (ad:=⟨b,ix * k.size + j,none⟩) (H.cfg.ty _ _ hi) ((elem_enc (ρ:=ρ) (own:=own) hel).drop j) (fun j' u hu=>by
    rw [List.getElem?_drop] at hu
    have h3:=hcells _ _ (hus _ u hu)
    rw [add_lit',Nat.zero_add] at h3
    rw [add_lit',Nat.add_assoc]
    exact h3) h hp
   exact fin he key.2
  ·rename_i ver' ty k xs hl
   rw [hl] at hok
   obtain ⟨vs,hw,hrow,_⟩:=hok
   have key0:(ver=ver'∧ix < xs.length):=by
    unfold loadC at h
    split at h <;> split at h <;> first|(injection h with e1 e2;rw [← e1] at hp;exact hp)|cases h
   obtain ⟨us,hul,hel,hus⟩:=hrow.2 ix _ (getD_some (d:=k.dflt) key0.2)
   have hv:=hd.2.2 (by rw [hl];exact key0.1.symm)
   simp only [hl] at hv
   obtain ⟨b,off,m,cp,hb,he⟩:=hv
   have hcells:=hw.cell hb
   have key:=load_ok (ad:=⟨b,off + (ix * k.size + j),none⟩) (H.cfg.ty _ _ hi) ((elem_enc (ρ:=ρ) (own:=own) hel).drop j) (fun j' u hu=>by
    rw [List.getElem?_drop] at hu
    have h3:=hcells _ _ (hus _ u hu)
    rw [add_lit',Nat.add_assoc,Nat.add_assoc]
    exact h3) h hp
   exact fin he key.2
  ·rename_i ver' ty ety e xs g hl
   rw [hl] at hok
   obtain ⟨vs,hw,h1,hn,hin⟩:=hok
   split at h
   ·have key0:(ver=ver'∧ix < xs.length∧g ix=false):=by
     unfold loadC at h
     split at h <;> split at h <;> first|(injection h with e1 e2;rw [← e1] at hp;exact hp)|cases h
    have hv:=hd.2.2 (by rw [hl];exact key0.1.symm)
    simp only [hl] at hv
    obtain ⟨b,hb,he⟩:=hv
    have hx:=List.getElem?_eq_getElem key0.2.1
    obtain ⟨q1,⟨us,hu,hr⟩,q3⟩:=hin ix _ hx key0.2.2
    have hcells:=hw.cells (g:=b) (blk_own hw hb)
    have hone:(ρ (inn l ix)).oneCell'=true:=by rcases hu.2 with ⟨h,_⟩|⟨g,cap,cur,h,_⟩ <;> (rw [h];rfl)
    have key:=load_ok (F:=F) (ρ:=ρ) (own:=own) (ad:=⟨b,ix,none⟩) (H.cfg.ty _ _ hi) (cs:=[.sub l ver ix 0]) (vs:=[ρ (inn l ix)]) (CellsC.cons (⟨hone,hd.2.1,fun _=>⟨fun ty k xs hob=>(by rw [hl] at hob;cases hob),fun ty0 ety0 e0 xs0 g0 x0 hob hx0 hg0=>rfl⟩⟩:CellC w F ρ own (.sub l ver ix 0) _) CellsC.nil) (fun j' u hu'=>by
     cases j' with
     | zero=>
      simp only [List.getElem?_cons_zero,Option.some.injEq] at hu'
      subst hu'
      have h3:=hcells _ _ q1
      rw [add_lit',Nat.zero_add] at h3
      exact h3
     | succ j'=>simp at hu') h hp
    exact fin he key.2
   ·rename_i m
    split at h
    ·rename_i xs' hcast
     obtain ⟨e',he'⟩:=castBB_ok hcast
     subst e'
     subst he'
     have key0:(ver=ver'∧ix < xs.length∧(g ix=false∧g srt=false)∧m < (xs.getD ix []).length):=by
      unfold loadC at h
      split at h <;> split at h <;> first|(injection h with e1 e2;rw [← e1] at hp;exact hp)|cases h
     have hv:=hd.2.2 (by rw [hl];exact key0.1.symm)
     simp only [hl] at hv
     obtain ⟨b,hb,he⟩:=hv _ (getD_some (d:=[]) key0.2.1) key0.2.2.1
     obtain ⟨q1,⟨us,hu,hr⟩,q3⟩:=hin ix _ (getD_some (d:=[]) key0.2.1) key0.2.2.1.1
     have hcells:=hu.cells (g:=b) (blk_own hu hb)
     obtain ⟨es,e1,e2,e3⟩:=hr.2 m _ (getD_some (d:=(0:Int)) key0.2.2.2)
     have key:=load_ok (ad:=⟨b,m,none⟩) (H.cfg.ty _ _ hi) (cs:=[.d (.int .i64 ((xs.getD ix []).getD m 0))]) (vs:=es) (elem_enc (ρ:=ρ) (own:=own) e2) (fun j' u hu'=>by
      have h3:=hcells _ _ (e3 j' u hu')
      rw [add_lit',Nat.zero_add,show m * ElK.size (.b .int)=m from Nat.mul_one _] at h3
      rw [add_lit']
      exact h3) h hp
     exact fin he key.2
    ·cases h
  ·cases h
 ·cases h
theorem s_load (H:Here P c N F ρ own slots a w) {t:TypeId} {x:Operand} (ho:o.op=.load t x) (h:aval c (evA slots) own (.load t x)=.ok p y) (hp:p):Yield P o a w F ρ own y Q:=by
 obtain ⟨u,ad,he,hr,hy⟩:=load_val H h hp
 refine Yield.pure (u:=u) ?_ hy
 simp [execOp,ho,he,hr]
theorem fields_run {s:TypeId} {fs:List (Nat × Nat × Bool)} (h:fieldsB P s=some fs):∃ fields,P.underlying s=some (.struct fields)∧(fs=fields.toList.map fun f=>(f.offset,P.cellsOf f.type,aggB P f.type))∧∀ f∈fields.toList,(P.underlying f.type).isSome=true:=by
 unfold fieldsB at h
 split at h
 ·rename_i fields hu
  split at h
  ·rename_i hall
   injection h with h
   exact ⟨fields,hu,h.symm,fun f hf=>List.all_eq_true.1 hall f hf⟩
  ·cases h
 ·cases h
theorem field_at {s:TypeId} {fs:List (Nat × Nat × Bool)} {f off sz:Nat} {ag:Bool} (h:fieldsB P s=some fs) (hf:fs[f]?=some (off,sz,ag)) :
  ∃ (fields:Array Field) (fld:Field),P.underlying s=some (.struct fields)∧fields[f]?=some fld∧fld.offset=off∧P.cellsOf fld.type=sz∧aggB P fld.type=ag∧(P.underlying fld.type).isSome=true:=by
 obtain ⟨fields,hu,rfl,hall⟩:=fields_run h
 rw [List.getElem?_map] at hf
 cases hl:fields.toList[f]? with
 | none=>rw [hl] at hf;cases hf
 | some fld=>
  rw [hl] at hf
  simp only [Option.map_some,Option.some.injEq,Prod.mk.injEq] at hf
  exact ⟨fields,fld,hu,by simpa using hl,hf.1,hf.2.1,hf.2.2,hall _ (List.mem_of_getElem? hl)⟩
theorem size_of_cellsOf {t:TypeId} {n:Nat} (h:P.cellsOf t=n) (hn:n≠0):(P.info? t).map (·.size)=some n:=by
 unfold Program.cellsOf at h
 cases hi:P.info? t with
 | none=>rw [hi] at h;simp at h;omega
 | some i=>rw [hi] at h;simpa using h
theorem run_fieldAt {s:TypeId} {fs:List (Nat × Nat × Bool)} {f off sz:Nat} {ag:Bool} (h:fieldsB P s=some fs) (hf:fs[f]?=some (off,sz,ag)) (hn:sz≠0) (ad:Addr) (w:World) :
  (Instr.fieldAt s (.pointer (some ad)) f).run P w=.ok (.pointer (some (ad.add off))) w:=by
 obtain ⟨fields,fld,hu,hfl,rfl,hsz,_⟩:=field_at h hf
 simp only [Instr.fieldAt,Sem.run_bind,run_und hu,Result.andThen_ok,hfl,Instr.sureAddr,Sem.run_pure,fieldPlace,run_size (size_of_cellsOf hsz hn),if_neg hn]
theorem s_nilCheck (H:Here P c N F ρ own slots a w) {x:Operand} (ho:o.op=.nilCheck x) (h:aval c (evA slots) own (.nilCheck x)=.ok p y) (hp:p):Yield P o a w F ρ own y Q:=by
 dsimp only [aval] at h
 split at h
 ·rename_i ds hx
  injection h with e1 e2
  subst e1;subst e2
  have hd:DC w F (.ptr ds) (a.eval x):=H.ev' hx
  have:∃ ad,a.eval x=.pointer (some ad):=by
   generalize a.eval x=vx at hd
   cases hd with
   | ptr ad us hl hF h1 h2=>exact ⟨ad,rfl⟩
  obtain ⟨ad,he⟩:=this
  refine Yield.pure (u:=a.eval x) ?_ hd
  simp [execOp,ho,he]
 ·rename_i l ver ix j hx
  have hd:CellC w F ρ own (.ptr l ver ix j) (a.eval x):=H.ev' hx
  split at h
  ·cases h
  ·cases h
  ·rename_i ver' ob hnd hnd2 hl
   injection h with e1 e2
   subst e1;subst e2
   have hv:=hd.2.2 (by rw [hl];exact hp.symm)
   simp only [hl] at hv
   refine Yield.pure (u:=a.eval x) ?_ hd
   have:∃ ad,a.eval x=.pointer (some ad):=by
    cases ob with
    | dead=>exact absurd rfl hnd
    | deep ty ety e xs g=>exact absurd rfl (hnd2 ty ety e xs g)
    | box ty cs=>obtain ⟨b,hb,he,h0⟩:=hv;exact ⟨_,he⟩
    | row ty k xs=>obtain ⟨b,hb,he⟩:=hv;exact ⟨_,he⟩
    | tail ty k xs=>obtain ⟨b,off,n,c,hb,he⟩:=hv;exact ⟨_,he⟩
   obtain ⟨ad,he⟩:=this
   simp [execOp,ho,he]
 ·cases h
theorem s_fieldAddr (H:Here P c N F ρ own slots a w) {s:TypeId} {x:Operand} {f:Nat} (ho:o.op=.fieldAddr s x f) (h:aval c (evA slots) own (.fieldAddr s x f)=.ok p y) (hp:p):Yield P o a w F ρ own y Q:=by
 dsimp only [aval] at h
 split at h
 ·rename_i sz0 z0 fs e0 hty
  have hti:=H.cfg.ty _ _ hty
  have hfs:=hti.2.2.2.2.1
  split at h
  ·rename_i off sz ag hf
   split at h
   ·cases h
   ·rename_i hz
    have hn:sz≠0:=by rintro rfl;cases hz
    split at h
    ·rename_i ds hx
     split at h
     ·injection h with e1 e2
      subst e1;subst e2
      have hd:DC w F (.ptr ds) (a.eval x):=H.ev' hx
      generalize he:a.eval x=vx at hd
      cases hd with
      | ptr ad us hl hF h1 h2=>
       refine Yield.pure (u:=.pointer (some (ad.add off))) (by simp [execOp,ho,he,run_fieldAt hfs hf hn ad w]) ?_
       refine DC.ptr _ (us.drop off) (by simp [hl]) (by rw [block_add];exact hF) (fun j u hu=>?_) (fun j x u hx hu=>?_)
       ·rw [List.getElem?_drop] at hu
        rw [add_add']
        exact h1 _ u hu
       ·rw [List.getElem?_drop] at hu hx
        exact h2 _ x u hx hu
     ·cases h
    ·rename_i l ver ix j hx
     have hd:CellC w F ρ own (.ptr l ver ix j) (a.eval x):=H.ev' hx
     split at h
     ·cases h
     ·cases h
     ·rename_i ver' ob hnd hnd2 hl
      injection h with e1 e2
      subst e1;subst e2
      have hv:=hd.2.2 (by rw [hl];exact hp.symm)
      simp only [hl] at hv
      cases ob with
      | dead=>exact absurd rfl hnd
      | deep ty ety e xs g=>exact absurd rfl (hnd2 ty ety e xs g)
      | box ty cs=>
       obtain ⟨b,hb,he,h0⟩:=hv
       refine Yield.pure (u:=.pointer (some ⟨b,j + off,none⟩)) (by rw [← add_lit'];simp [execOp,ho,he,run_fieldAt hfs hf hn]) ?_
       refine ⟨rfl,hd.2.1,fun _=>?_⟩
       simp only [hl]
       exact ⟨b,hb,rfl,h0⟩
      | row ty k xs=>
       obtain ⟨b,hb,he⟩:=hv
       refine Yield.pure (u:=.pointer (some ⟨b,ix * k.size + (j + off),none⟩)) (by rw [← Nat.add_assoc,← add_lit'];simp [execOp,ho,he,run_fieldAt hfs hf hn]) ?_
       refine ⟨rfl,hd.2.1,fun _=>?_⟩
       simp only [hl]
       exact ⟨b,hb,rfl⟩
      | tail ty k xs=>
       obtain ⟨b,of,m,cp,hb,he⟩:=hv
       refine Yield.pure (u:=.pointer (some ⟨b,of + (ix * k.size + (j + off)),none⟩)) (by rw [← Nat.add_assoc (ix * k.size),← Nat.add_assoc of,← add_lit'];simp [execOp,ho,he,run_fieldAt hfs hf hn]) ?_
       refine ⟨rfl,hd.2.1,fun _=>?_⟩
       simp only [hl]
       exact ⟨b,of,m,cp,hb,rfl⟩
    ·cases h
  ·cases h
 ·cases h
theorem s_unOp (H:Here P c N F ρ own slots a w) {op:UnOp} {t:TypeId} {x:Operand} (ho:o.op=.unOp op t x) (h:aval c (evA slots) own (.unOp op t x)=.ok p y):Yield P o a w F ρ own y Q:=by
 dsimp only [aval] at h
 split at h
 ·rename_i k n hx
  injection h with e1 e2
  subst e2
  refine Yield.pure (u:=.int k (k.wrap (0 - n))) ?_ (DC.int _ _)
  simp [execOp,ho,H.int hx,Op.unary,Op.intArith]
 ·rename_i b hx
  injection h with e1 e2
  subst e2
  refine Yield.pure (u:=.bool (!b)) ?_ (DC.bool _)
  simp [execOp,ho,H.bool hx,Op.unary]
 ·cases h
theorem s_convert (H:Here P c N F ρ own slots a w) {src dst:TypeId} {x:Operand} (ho:o.op=.convert src dst x) (h:aval c (evA slots) own (.convert src dst x)=.ok p y):Yield P o a w F ρ own y Q:=by
 dsimp only [aval] at h
 split at h
 ·rename_i ts sz z k k' n hsrc hty hx
  injection h with e1 e2
  subst e2
  have hti:=H.cfg.ty _ _ hty
  have hu:P.underlying dst=some (.int k):=hti.2.2.2.2
  refine Yield.pure (u:=.int k (k.wrap n)) ?_ (DC.int _ _)
  obtain ⟨d,hd⟩:=Option.isSome_iff_exists.1 (H.cfg.ty _ _ hsrc).2.2.2.1
  simp [execOp,ho,H.int hx,convert,run_und hu,run_und hd,Conv.intToInt]
 ·cases h
theorem s_extract (H:Here P c N F ρ own slots a w) {x:Operand} {i:Nat} (ho:o.op=.extract x i) (h:aval c (evA slots) own (.extract x i)=.ok p y):Yield P o a w F ρ own y Q:=by
 dsimp only [aval] at h
 split at h
 ·rename_i xs hx
  obtain ⟨vs,he,hl,hc⟩:=H.ev' hx
  split at h
  ·rename_i z hz
   injection h with e1 e2
   subst e2
   obtain ⟨hlt,_⟩:=List.getElem?_eq_some_iff.1 hz
   have hv:vs[i]?=some (vs[i]'(by omega)):=List.getElem?_eq_getElem (by omega)
   exact Yield.pure (u:=vs[i]'(by omega)) (by simp [execOp,ho,he,Instr.extract,hv]) (hc i _ _ hz hv)
  ·rename_i z hz
   injection h with e1 e2
   subst e2
   obtain ⟨hlt,_⟩:=List.getElem?_eq_some_iff.1 hz
   have hv:vs[i]?=some (vs[i]'(by omega)):=List.getElem?_eq_getElem (by omega)
   exact Yield.pure (u:=vs[i]'(by omega)) (by simp [execOp,ho,he,Instr.extract,hv]) (hc i _ _ hz hv)
  ·cases h
 ·cases h
theorem dsOf_ok:∀ {xs:List Operand} {ds:List D},(H:Here P c N F ρ own slots a w)→dsOf (evL (evA slots) xs)=some ds→CellsC w F ρ own (ds.map .d) (xs.map a.eval)
 | [],ds,H,h=>by
  simp only [evL,List.map_nil,dsOf,Option.some.injEq] at h
  subst h;exact CellsC.nil
 | x :: xs,ds,H,h=>by
  simp only [evL,List.map_cons] at h
  unfold dsOf at h
  split at h
  ·rename_i hd
   cases hd
  ·rename_i d r hd
   simp only [List.cons.injEq] at hd
   obtain ⟨hd1,hd2⟩:=hd
   subst hd2
   split at h
   ·rename_i l hl
    injection h with h
    subst h
    exact CellsC.cons (H.ev' hd1) (dsOf_ok H hl)
   ·cases h
  ·cases h
theorem s_makeFunc (H:Here P c N F ρ own slots a w) {fn:Fn} {first caps:Array Operand} (ho:o.op=.makeFunc fn first caps) (h:aval c (evA slots) own (.makeFunc fn first caps)=.ok p y):Yield P o a w F ρ own y Q:=by
 dsimp only [aval] at h
 split at h
 ·rename_i f ds hf hds
  injection h with e1 e2
  subst e2
  have hf':first=#[]:=by
   cases first;simpa using hf
  obtain ⟨hl,hc⟩:=DC.ofCells (dsOf_ok H hds)
  refine Yield.pure (u:=.func (.func f) #[] (caps.toList.map a.eval).toArray) ?_ (DC.clo _ hl hc)
  subst hf'
  cases caps
  simp [execOp,ho,Instr.makeFunc]
 ·cases h
theorem s_arith {op:BinOp} {k:IntKind} {m n:Int} {t:TypeId} (h:arith op k m n=.ok p y) (hp:p) (w:World):∃ u,(binOp op t (.int k m) (.int k n)).run P w=.ok u w∧AVC w F ρ own y u:=by
 cases op <;> simp only [arith] at h
 case add=>
  injection h with e1 e2
  subst e1;subst e2
  exact ⟨.int k (k.wrap (m + n)),by simp [binOp,Op.intArith],DC.int _ _⟩
 case sub=>
  injection h with e1 e2
  subst e1;subst e2
  exact ⟨.int k (k.wrap (m - n)),by simp [binOp,Op.intArith],DC.int _ _⟩
 case mul=>
  injection h with e1 e2
  subst e1;subst e2
  exact ⟨.int k (k.wrap (m * n)),by simp [binOp,Op.intArith],DC.int _ _⟩
 case quo=>
  injection h with e1 e2
  subst e1;subst e2
  have hp':n≠0:=hp
  exact ⟨.int k (k.wrap (m.tdiv n)),by simp [binOp,Op.intDiv,hp'],DC.int _ _⟩
 case rem=>
  injection h with e1 e2
  subst e1;subst e2
  have hp':n≠0:=hp
  exact ⟨.int k (m.tmod n),by simp [binOp,Op.intDiv,hp'],DC.int _ _⟩
 case eql=>
  injection h with e1 e2
  subst e1;subst e2
  exact ⟨.bool (m == n),by simp [binOp,Op.intCmp],DC.bool _⟩
 case neq=>
  injection h with e1 e2
  subst e1;subst e2
  exact ⟨.bool (m != n),by simp [binOp,Op.intCmp],DC.bool _⟩
 case lss=>
  injection h with e1 e2
  subst e1;subst e2
  exact ⟨.bool (decide (m < n)),by simp [binOp,Op.intCmp],DC.bool _⟩
 case leq=>
  injection h with e1 e2
  subst e1;subst e2
  exact ⟨.bool (decide (m≤n)),by simp [binOp,Op.intCmp],DC.bool _⟩
 case gtr=>
  injection h with e1 e2
  subst e1;subst e2
  exact ⟨.bool (decide (m > n)),by simp [binOp,Op.intCmp],DC.bool _⟩
 case geq=>
  injection h with e1 e2
  subst e1;subst e2
  exact ⟨.bool (decide (m ≥ n)),by simp [binOp,Op.intCmp],DC.bool _⟩
 case and=>
  injection h with e1 e2
  subst e1;subst e2
  exact ⟨.int k (bitI .and k m n),by simp [binOp,Op.intBits,bitI],DC.int _ _⟩
 case or=>
  injection h with e1 e2
  subst e1;subst e2
  exact ⟨.int k (bitI .or k m n),by simp [binOp,Op.intBits,bitI],DC.int _ _⟩
 case xor=>
  injection h with e1 e2
  subst e1;subst e2
  exact ⟨.int k (bitI .xor k m n),by simp [binOp,Op.intBits,bitI],DC.int _ _⟩
 all_goals cases h
theorem s_shift {op:BinOp} {k k':IntKind} {m n:Int} {t:TypeId} (hs:shB op=true) (hn:0≤n) (w:World):(binOp op t (.int k m) (.int k' n)).run P w=.ok (.int k (bitI op k m n)) w:=by
 have h0:¬ n < 0:=by omega
 cases op <;> first|(cases hs;done)|simp [binOp,Op.shift,bitI,h0]
theorem s_abin (H:Here P c N F ρ own slots a w) {op:BinOp} {t t':TypeId} {x z:Operand} (ho:o.op=.binOp op t x z t') (h:abin (c.ty t) op (evA slots x) (evA slots z)=.ok p y) (hp:p):Yield P o a w F ρ own y Q:=by
 have fin:(∃ u,(eqGuard op t x z (a.eval x) (a.eval z)).run P w=.ok () w∧(binOp op t (a.eval x) (a.eval z)).run P w=.ok u w∧AVC w F ρ own y u)→Yield P o a w F ρ own y Q:=by
  rintro ⟨u,hg,hr,hy⟩
  refine Yield.pure (u:=u) ?_ hy
  simp [execOp,ho,hg,hr]
 unfold abin at h
 split at h
 ·rename_i k m k' n hx hz
  split at h
  ·rename_i hsh
   injection h with e1 e2
   subst e1;subst e2
   refine fin ⟨_,?_,by rw [H.int hx,H.int hz];exact s_shift hsh hp w,DC.int _ _⟩
   rw [H.int hx,H.int hz]
   unfold eqGuard
   simp
  split at h
  ·rename_i hk
   have:=kbeq_eq hk
   subst this
   obtain ⟨u,hr,hy⟩:=s_arith (P:=P) (F:=F) (ρ:=ρ) (own:=own) (t:=t) h hp w
   refine fin ⟨u,?_,by rw [H.int hx,H.int hz];exact hr,hy⟩
   rw [H.int hx,H.int hz]
   unfold eqGuard
   simp
  ·cases h
 ·rename_i b1 b2 hx hz
  split at h
  ·rename_i sz z0 hty
   have hu:P.underlying t=some .bool:=(H.cfg.ty _ _ hty).2.2.2.2
   have key:∀ d:Nat,(Op.equalIn (d + 1) t (.bool b1) (.bool b2)).run P w=.ok (b1 == b2) w:=fun d=>by simp [Op.equalIn,run_und hu]
   split at h
   ·injection h with e1 e2
    subst e2
    refine fin ⟨.bool (b1 == b2),?_,?_,DC.bool _⟩
    ·rw [H.bool hx,H.bool hz];unfold eqGuard;simp
    ·rw [H.bool hx,H.bool hz]
     simp [binOp,Op.equal,Op.maxDepth,key 9999]
   ·injection h with e1 e2
    subst e2
    refine fin ⟨.bool (!(b1 == b2)),?_,?_,DC.bool _⟩
    ·rw [H.bool hx,H.bool hz];unfold eqGuard;simp
    ·rw [H.bool hx,H.bool hz]
     simp [binOp,Op.equal,Op.maxDepth,key 9999]
   ·cases h
  ·cases h
 ·rename_i nl k xs hx hz
  split at h
  ·rename_i sz z0 e k0 b0 zz hty
   have hu:P.underlying t=some (.slice e):=(H.cfg.ty _ _ hty).2.2.2.2.1
   have hd:DC w F (.sl (some nl) k xs) (a.eval x):=H.ev' hx
   generalize he:a.eval x=v at hd
   cases hd with
   | sl hn hs=>
    have hnl:=hn nl rfl
    have hv:∃ pa n cap,v=.slice pa n cap∧pa.isNone=nl:=by
     rcases hs with ⟨rfl,_⟩|⟨ad,cap,rfl,_⟩
     ·exact ⟨none,0,0,rfl,by simp [hnl.2 rfl]⟩
     ·refine ⟨some ad,_,cap,rfl,?_⟩
      cases nl
      ·rfl
      ·exact absurd (hnl.1 rfl) (by simp)
    obtain ⟨pa,n,cap,rfl,hpa⟩:=hv
    split at h
    ·injection h with e1 e2
     subst e2
     refine fin ⟨.bool nl,?_,?_,DC.bool _⟩
     ·rw [he,H.nil hz];unfold eqGuard;simp
     ·rw [he,H.nil hz,Lib.run_eql_slice_nil w t e pa n cap 0 0 hu,hpa]
    ·injection h with e1 e2
     subst e2
     refine fin ⟨.bool (!nl),?_,?_,DC.bool _⟩
     ·rw [he,H.nil hz];unfold eqGuard;simp
     ·rw [he,H.nil hz,run_neq_slice_nil_any w t e pa n cap 0 0 hu,hpa]
    ·cases h
  ·cases h
 ·rename_i hx hz
  split at h
  ·rename_i sz z0 e k0 b0 zz hty
   have hu:P.underlying t=some (.slice e):=(H.cfg.ty _ _ hty).2.2.2.2.1
   split at h
   ·injection h with e1 e2
    subst e2
    refine fin ⟨.bool true,?_,?_,DC.bool _⟩
    ·rw [H.nil hx,H.nil hz];unfold eqGuard;simp
    ·rw [H.nil hx,H.nil hz,Lib.run_eql_slice_nil w t e none 0 0 0 0 hu];rfl
   ·injection h with e1 e2
    subst e2
    refine fin ⟨.bool false,?_,?_,DC.bool _⟩
    ·rw [H.nil hx,H.nil hz];unfold eqGuard;simp
    ·rw [H.nil hx,H.nil hz,run_neq_slice_nil_any w t e none 0 0 0 0 hu];rfl
   ·cases h
  ·cases h
 ·rename_i a1 a2 b1 b2 hx hz
  split at h
  ·rename_i sz z0 fs hty
   have heq:=(H.cfg.ty _ _ hty).2.2.2.2.2 rfl
   have two:∀ {q:Operand} {m n:Int},evA slots q=.agg [.d (.int .i64 m),.d (.int .i64 n)]→a.eval q=.agg #[.int .i64 m,.int .i64 n]:=by
    intro q m n hq
    obtain ⟨vs,he,hc⟩:=H.ev' hq
    obtain ⟨v1,r1,rfl,h1,hc1⟩:=CellsC.uncons hc
    obtain ⟨v2,r2,rfl,h2,hc2⟩:=hc1.uncons
    have:r2=[]:=List.eq_nil_of_length_eq_zero (by simpa using hc2.1)
    subst this
    rw [he,intD h1,intD h2]
   obtain ⟨g1,g2,g3⟩:=heq w x z a1 a2 b1 b2
   split at h
   ·injection h with e1 e2
    subst e2
    refine fin ⟨.bool (a1 == b1 && a2 == b2),by rw [two hx,two hz];exact g1,?_,DC.bool _⟩
    rw [two hx,two hz]
    simp [binOp,g3]
   ·injection h with e1 e2
    subst e2
    refine fin ⟨.bool (!(a1 == b1 && a2 == b2)),by rw [two hx,two hz];exact g2,?_,DC.bool _⟩
    rw [two hx,two hz]
    simp [binOp,g3]
   ·cases h
  ·cases h
 ·cases h
theorem s_binOp (H:Here P c N F ρ own slots a w) {op:BinOp} {t t':TypeId} {x z:Operand} (ho:o.op=.binOp op t x z t') (h:aval c (evA slots) own (.binOp op t x z t')=.ok p y) (hp:p):Yield P o a w F ρ own y Q:=by
 dsimp only [aval] at h
 cases hn:nilOp z with
 | false=>rw [hn] at h;exact s_abin H ho h hp
 | true=>
  rw [hn] at h
  simp only at h
  cases hq:ownNil (evA slots x) (evA slots z) with
  | none=>rw [hq] at h;exact s_abin H ho h hp
  | some q=>
   rw [hq] at h
   simp only at h
   obtain ⟨hx,hz⟩:=ownNil_some hq
   have hd:CellC w F ρ own (.own q.1 q.2) (a.eval x):=H.ev' hx
   have hok:=H.mem.ok q.1
   have fin:(∃ u,(eqGuard op t x z (a.eval x) (a.eval z)).run P w=.ok () w∧(binOp op t (a.eval x) (a.eval z)).run P w=.ok u w∧AVC w F ρ own y u)→Yield P o a w F ρ own y Q:=by
    rintro ⟨u,hg,hr,hy⟩
    refine Yield.pure (u:=u) ?_ hy
    simp [execOp,ho,hg,hr]
   unfold nilAt at h
   split at h
   ·rename_i ver' ty k xs hl
    rw [hl] at hok
    obtain ⟨vs,hw,hrow,_⟩:=hok
    have key:q.2=ver'∧0 < xs.length→∃ g n cap,a.eval x=.slice (some g) n cap:=fun ⟨hv,h0⟩=>by
     have he:=hd.2.2 ⟨by rw [hl];exact hv.symm,by rw [hl];trivial⟩
     rcases hw.2 with ⟨_,hn0⟩|⟨g,cap,cur,hρ,_⟩
     ·omega
     ·exact ⟨_,_,_,he.trans hρ⟩
    split at h
    ·rename_i sz z0 e k0 b0 zz hty
     have hu:P.underlying t=some (.slice e):=(H.cfg.ty _ _ hty).2.2.2.2.1
     split at h
     ·injection h with e1 e2
      subst e1;subst e2
      obtain ⟨g,n,cap,he⟩:=key hp
      refine fin ⟨.bool false,?_,?_,DC.bool _⟩
      ·rw [he,H.nil hz];unfold eqGuard;simp
      ·rw [he,H.nil hz,Lib.run_eql_slice_nil w t e (some g) n cap 0 0 hu];rfl
     ·injection h with e1 e2
      subst e1;subst e2
      obtain ⟨g,n,cap,he⟩:=key hp
      refine fin ⟨.bool true,?_,?_,DC.bool _⟩
      ·rw [he,H.nil hz];unfold eqGuard;simp
      ·rw [he,H.nil hz,run_neq_slice_nil_any w t e (some g) n cap 0 0 hu];rfl
     ·cases h
    ·cases h
   ·cases h
end
section
variable {P : Program} {c : Cfg} {w : World} {N F : Nat → Prop} {ρ : Nat → Value} {own : Nat → Loc} {slots : Nat → AV} {a : Act} {Q : Exit → Act → World → Prop} {o : Oper} {p : Prop} {y : AV}
theorem s_field (H:Here P c N F ρ own slots a w) {s:TypeId} {x:Operand} {f:Nat} (ho:o.op=.field s x f) (h:aval c (evA slots) own (.field s x f)=.ok p y):Yield P o a w F ρ own y Q:=by
 dsimp only [aval] at h
 split at h
 ·rename_i sz0 z0 fs e0 hty
  have hfs:=(H.cfg.ty _ _ hty).2.2.2.2.1
  split at h
  ·rename_i off sz ag cs hf hx
   obtain ⟨fields,fld,hu,hfl,hoff,hsz,hag,hisS⟩:=field_at hfs hf
   obtain ⟨vs,he,hc⟩:=H.ev' hx
   have hun:∀ w,(Instr.field s (.agg vs.toArray) f).run P w=(part fld.type vs.toArray off).run P w:=fun w=>by
    simp only [Instr.field,Sem.run_bind,run_und hu,Result.andThen_ok,hfl,asAgg,Sem.run_pure,hoff]
   split at h
   ·split at h
    ·rename_i l hz htk
     injection h with e1 e2
     subst e2
     obtain ⟨h1,h2⟩:=takeC_ok htk
     subst h1
     have hz:sz≠0:=by rintro rfl;cases hz
     refine Yield.pure (u:=.agg ((vs.drop off).take sz).toArray) ?_ ⟨_,rfl,CellsC.take (CellsC.drop hc off) sz⟩
     have hex:vs.toArray.extract off (off + sz)=((vs.drop off).take sz).toArray:=by
      apply Array.ext'
      simp only [Array.toList_extract,List.extract_eq_take_drop,Nat.add_sub_cancel_left]
     have:(part fld.type vs.toArray off).run P w=.ok (.agg ((vs.drop off).take sz).toArray) w:=by
      unfold part
      simp only [Sem.run_bind,run_isAgg hisS,Result.andThen_ok,hag,if_true,run_size (size_of_cellsOf hsz hz),Sem.run_pure,hex]
     simp [execOp,ho,he,hun,this]
    ·cases h
   ·split at h
    ·rename_i z zs hd
     injection h with e1 e2
     subst e2
     have hc':=CellsC.drop hc off
     rw [hd] at hc'
     obtain ⟨v,vs',hv,h0,_⟩:=hc'.uncons
     have hv0:vs.toArray[off]?=some v:=by
      have:(vs.drop off)[0]?=some v:=by rw [hv];rfl
      rw [List.getElem?_drop] at this
      simpa using this
     refine Yield.pure (u:=v) ?_ h0
     have:(part fld.type vs.toArray off).run P w=.ok v w:=by
      unfold part
      simp only [Sem.run_bind,run_isAgg hisS,Result.andThen_ok,hag,hv0]
      rfl
     simp [execOp,ho,he,hun,this]
    ·cases h
  ·cases h
 ·cases h
theorem s_indexAddr (H:Here P c N F ρ own slots a w) {t:TypeId} {x i:Operand} (ho:o.op=.indexAddr t x i) (h:aval c (evA slots) own (.indexAddr t x i)=.ok p y) (hp:p):Yield P o a w F ρ own y Q:=by
 dsimp only [aval] at h
 split at h
 ·rename_i sz0 z0 e k b0 zz hty
  obtain ⟨hu,hel,_⟩:=(H.cfg.ty _ _ hty).2.2.2.2
  have hes:(P.info? e).map (·.size)=some k.size:=by
   cases hi:P.info? e with
   | none=>rw [hi] at hel;cases hel
   | some ie=>rw [hi] at hel;simp only [Option.map_some,Option.some.injEq,Prod.mk.injEq] at hel ⊢;exact hel.1
  have run:∀ (ad:Addr) (len cap:Nat) (ki:IntKind) (n:Int),0≤n→n < (len:Int) →
    (Instr.indexAt t (.slice (some ad) len cap) (.int ki n)).run P w=.ok (.pointer (some (ad.add (n.toNat * k.size)))) w:=fun ad len cap ki n h0 h1=>by
   simp [Instr.indexAt,asIntOf,run_und hu,run_size hes,h0,h1]
  split at h
  ·rename_i nl k' xs ki n hx hn
   split at h
   ·rename_i hk
    have:=ElK.beq_eq hk
    subst this
    injection h with e1 e2
    subst e1;subst e2
    obtain ⟨h0,h1⟩:=hp
    have hd:DC w F (.sl nl k xs) (a.eval x):=H.ev' hx
    generalize he:a.eval x=v at hd
    cases hd with
    | sl _ hs=>
     rcases hs with ⟨_,rfl⟩|⟨ad,cap,rfl,hc,hF,hcell⟩
     ·simp at h1;omega
     ·have hlt:n.toNat < xs.length:=by omega
      obtain ⟨us,hul,hel',hus⟩:=hcell _ _ (getD_some (d:=k.dflt) hlt)
      refine Yield.pure (u:=.pointer (some (ad.add (n.toNat * k.size)))) (by simp [execOp,ho,he,H.int hn,run ad _ cap ki n h0 h1]) ?_
      obtain ⟨hl,hc'⟩:=DC.ofCells (elem_enc (ρ:=ρ) (own:=own) hel')
      refine DC.ptr _ us hl (by rw [block_add];exact hF.resolve_left (fun e=>by rw [e] at hlt;simp at hlt)) (fun j u hj=>?_) hc'
      rw [add_add']
      exact hus j u hj
   ·cases h
  ·rename_i l ver ki n hx hn
   have hd:CellC w F ρ own (.own l ver) (a.eval x):=H.ev' hx
   have hok:=H.mem.ok l
   split at h
   ·rename_i ver' ty k' xs hl
    split at h
    ·rename_i hk
     have:=ElK.beq_eq hk
     subst this
     injection h with e1 e2
     subst e1;subst e2
     obtain ⟨hv,h0,h1⟩:=hp
     have he:=hd.2.2 ⟨by rw [hl];exact hv.symm,by rw [hl];trivial⟩
     rw [hl] at hok
     obtain ⟨vs,hw,hrow,_⟩:=hok
     rcases hw.2 with ⟨_,hn0⟩|⟨g,cap,cur,hρ,_⟩
     ·rw [hn0] at h1;simp at h1;omega
     ·rw [hρ] at he
      have:=run ⟨g,0,none⟩ xs.length cap ki n h0 h1
      rw [add_lit',Nat.zero_add] at this
      refine Yield.pure (u:=.pointer (some ⟨g,n.toNat * k.size,none⟩)) (by simp [execOp,ho,he,H.int hn,this]) ?_
      refine ⟨rfl,hd.2.1,fun _=>?_⟩
      simp only [hl]
      exact ⟨g,by rw [hρ];rfl,by rw [Nat.add_zero]⟩
    ·cases h
   ·rename_i ver' ty k' xs hl
    split at h
    ·rename_i hk
     have:=ElK.beq_eq hk
     subst this
     injection h with e1 e2
     subst e1;subst e2
     obtain ⟨hv,h0,h1⟩:=hp
     have he:=hd.2.2 ⟨by rw [hl];exact hv.symm,by rw [hl];trivial⟩
     rw [hl] at hok
     obtain ⟨vs,⟨g,off,cap,cur,hρ,_⟩,_⟩:=hok
     rw [hρ] at he
     have:=run ⟨g,off,none⟩ xs.length cap ki n h0 h1
     rw [add_lit'] at this
     refine Yield.pure (u:=.pointer (some ⟨g,off + n.toNat * k.size,none⟩)) (by simp [execOp,ho,he,H.int hn,this]) ?_
     refine ⟨rfl,hd.2.1,fun _=>?_⟩
     simp only [hl]
     exact ⟨g,off,_,_,hρ,by rw [Nat.add_zero]⟩
    ·cases h
   ·rename_i ver' ty ety ee xs gg hl
    split at h
    ·rename_i hk
     have hk:=ElK.beq_eq hk
     subst hk
     injection h with e1 e2
     subst e1;subst e2
     obtain ⟨hv,h0,h1⟩:=hp
     have he:=hd.2.2 ⟨by rw [hl];exact hv.symm,by rw [hl];trivial⟩
     rw [hl] at hok
     obtain ⟨vs,hw,_⟩:=hok
     rcases hw.2 with ⟨_,hn0⟩|⟨g,cap,cur,hρ,_⟩
     ·rw [hn0] at h1;simp at h1;omega
     ·rw [hρ] at he
      have:=run ⟨g,0,none⟩ xs.length cap ki n h0 h1
      rw [add_lit',Nat.zero_add] at this
      refine Yield.pure (u:=.pointer (some ⟨g,n.toNat * 1,none⟩)) (by simp [execOp,ho,he,H.int hn,this]) ?_
      refine ⟨rfl,hd.2.1,fun _=>?_⟩
      simp only [hl]
      exact ⟨g,by rw [hρ];rfl,by rw [Nat.mul_one]⟩
    ·cases h
   ·cases h
  ·rename_i l ver off m ki n hx hn
   have hd:CellC w F ρ own (.sub l ver off m) (a.eval x):=H.ev' hx
   split at h
   ·rename_i ver' ty k' xs hl
    split at h
    ·rename_i hk
     have:=ElK.beq_eq hk
     subst this
     injection h with e1 e2
     subst e1;subst e2
     obtain ⟨hv,⟨h0,h1⟩,hle⟩:=hp
     obtain ⟨b,cp,hb,_,he⟩:=(hd.2.2 (by rw [hl];exact hv.symm)).1 ty k xs (by rw [hl])
     have:=run ⟨b,off * k.size,none⟩ m cp ki n h0 h1
     rw [add_lit'] at this
     refine Yield.pure (u:=.pointer (some ⟨b,off * k.size + n.toNat * k.size,none⟩)) (by simp [execOp,ho,he,H.int hn,this]) ?_
     refine ⟨rfl,hd.2.1,fun _=>?_⟩
     simp only [hl]
     exact ⟨b,hb,by rw [Nat.add_zero,Nat.add_mul]⟩
    ·cases h
   ·rename_i ver' ty ety ee xs gg hl
    split at h
    ·rename_i hk hee
     have hk:=ElK.beq_eq hk
     have hee:=ElB.beq_eq hee
     subst hk;subst hee
     injection h with e1 e2
     subst e1;subst e2
     obtain ⟨hv,⟨hoff,hg⟩,h0,h1⟩:=hp
     have hx:=getD_some (d:=[]) hoff
     have he:=(hd.2.2 (by rw [hl];exact hv.symm)).2 ty ety _ xs gg _ (by rw [hl]) hx hg
     have hok:=H.mem.ok l
     rw [hl] at hok
     obtain ⟨vs,hw,_,_,hin⟩:=hok
     obtain ⟨q1,⟨us,hu,hr⟩,q3⟩:=hin off _ hx hg.1
     rcases hu.2 with ⟨_,hn0⟩|⟨g,cap,cur,hρ,_⟩
     ·rw [hn0] at h1;simp at h1;omega
     ·rw [hρ] at he
      have:=run ⟨g,0,none⟩ _ cap ki n h0 h1
      rw [add_lit',Nat.zero_add] at this
      generalize (xs.getD off []).length=L at he this
      refine Yield.pure (u:=.pointer (some ⟨g,n.toNat * 1,none⟩)) (by simp [execOp,ho,he,H.int hn,this]) ?_
      refine ⟨rfl,hd.2.1,fun _=>?_⟩
      simp only [hl]
      exact fun x _ _=>⟨g,by rw [hρ];rfl,by rw [Nat.mul_one]⟩
    ·cases h
   ·cases h
  ·cases h
 ·cases h
theorem run_sliceB (t e:TypeId) (hu:P.underlying t=some (.slice e)) (sz:Nat) (hes:(P.info? e).map (·.size)=some sz) (pa:Option Addr) (len cap:Nat) (hlc:len≤cap) (lo hi:Option Value) (l h:Int)
  (hlo:(lo=none∧l=0)∨∃ k,lo=some (.int k l)) (hhi:(hi=none∧h=len)∨∃ k,hi=some (.int k h)) (h0:0≤l) (h1:l≤h) (h2:h≤len) (w:World) :
  (Instr.sliceAt t (.slice pa len cap) lo hi none).run P w=.ok (.slice (if cap=l.toNat then pa else pa.map (·.add (l.toNat * sz))) (h.toNat - l.toNat) (cap - l.toNat)) w:=by
 have hb:∀ (x:Int) (k:IntKind) (y:Nat) (cd:BoundsCode) (w:World),0≤x→x≤y→(Instr.sliceBound (.int k x) y cd).run P w=.ok x.toNat w:=fun x k y cd w a b=>by
  simp [Instr.sliceBound,asIntOf,a,b]
 have hh:h≤(cap:Int):=by omega
 have hl2:l≤(h.toNat:Int):=by omega
 rcases hlo with ⟨rfl,rfl⟩|⟨k1,rfl⟩ <;> rcases hhi with ⟨rfl,rfl⟩|⟨k2,rfl⟩
 ·simp [Instr.sliceAt,run_und hu,Instr.slice,Instr.sliceBounds,run_size hes]
 ·simp [Instr.sliceAt,run_und hu,Instr.slice,Instr.sliceBounds,run_size hes,hb h k2 _ _ _ (by omega) hh]
 ·simp [Instr.sliceAt,run_und hu,Instr.slice,Instr.sliceBounds,run_size hes,hb l k1 _ _ _ h0 h1]
 ·simp [Instr.sliceAt,run_und hu,Instr.slice,Instr.sliceBounds,run_size hes,hb h k2 _ _ _ (by omega) hh,hb l k1 _ _ _ h0 hl2]
theorem asSl_ok {x:AV} {nl:Option Bool} {k:ElK} {xs:List k.T} (h:asSl x=some (nl,⟨k,xs⟩)):x=.one (.d (.sl nl k xs)):=by
 unfold asSl at h
 split at h
 ·injection h with h
  simp only [Prod.mk.injEq,Sigma.mk.injEq] at h
  obtain ⟨rfl,rfl,h⟩:=h
  rw [eq_of_heq h]
 ·cases h
theorem boundI_ok (H:Here P c N F ρ own slots a w) {lo:Option Operand} {d l:Int} (h:boundI (lo.map (evA slots)) d=some l):(lo.map a.eval=none∧l=d)∨∃ k,lo.map a.eval=some (.int k l):=by
 cases lo with
 | none=>simp only [Option.map_none,boundI,Option.some.injEq] at h;exact .inl ⟨rfl,h.symm⟩
 | some x=>
  simp only [Option.map_some] at h ⊢
  unfold boundI at h
  split at h
  ·cases ‹some _=none›
  ·rename_i k n hx
   injection h with h;injection hx with hx
   subst h
   exact .inr ⟨k,by rw [H.int hx]⟩
  ·cases h
theorem s_slice (H:Here P c N F ρ own slots a w) {t:TypeId} {x:Operand} {lo hi:Option Operand} (ho:o.op=.slice t x lo hi none) (h:aval c (evA slots) own (.slice t x lo hi none)=.ok p y) (hp:p):Yield P o a w F ρ own y Q:=by
 dsimp only [aval] at h
 split at h
 ·rename_i sz0 z0 e k' b0 zz nl k xs hty hx
  have hx:=asSl_ok hx
  obtain ⟨hu,hel,_⟩:=(H.cfg.ty _ _ hty).2.2.2.2
  have hes:(P.info? e).map (·.size)=some k'.size:=by
   cases hi:P.info? e with
   | none=>rw [hi] at hel;cases hel
   | some ie=>rw [hi] at hel;simp only [Option.map_some,Option.some.injEq,Prod.mk.injEq] at hel ⊢;exact hel.1
  split at h
  ·rename_i l hh hk hlo hhi
   have:=ElK.beq_eq hk
   subst this
   injection h with e1 e2
   subst e1;subst e2
   obtain ⟨h0,h1,h2⟩:=hp
   have hd:DC w F (.sl nl k' xs) (a.eval x):=H.ev' hx
   have hlo:=boundI_ok H hlo
   have hhi:=boundI_ok H hhi
   generalize he:a.eval x=v at hd
   cases hd with
   | sl hn hs=>
    rcases hs with ⟨rfl,rfl⟩|⟨ad,cap,rfl,hc,hF,hcell⟩
    ·have hr:=run_sliceB t e hu _ hes none 0 0 (Nat.le_refl _) _ _ l hh hlo hhi h0 h1 h2 w
     have hh0:hh=0:=by simp at h2;omega
     have hl0:l=0:=by omega
     subst hh0;subst hl0
     refine Yield.pure (u:=.slice none 0 0) (by simp [execOp,ho,he,hr]) (DC.sl hn (.inl ⟨rfl,by simp⟩))
    ·have hr:=run_sliceB t e hu _ hes (some ad) xs.length cap hc _ _ l hh hlo hhi h0 h1 h2 w
     refine Yield.pure (u:=.slice (if cap=l.toNat then some ad else (some ad).map (·.add (l.toNat * k'.size))) (hh.toNat - l.toNat) (cap - l.toNat)) (by simp [execOp,ho,he,hr]) (DC.sl (fun b hb=>?_) ?_)
     ·have:=hn b hb
      constructor
      ·intro hb';exact absurd (this.1 hb') (by simp)
      ·intro hb'
       exfalso
       revert hb'
       split <;> simp
     ·have hlen:((xs.take hh.toNat).drop l.toNat).length=hh.toNat - l.toNat:=by
       rw [List.length_drop,List.length_take];omega
      refine .inr ⟨if cap=l.toNat then ad else ad.add (l.toNat * k'.size),cap - l.toNat,?_,by rw [hlen];omega,?_,fun i z hz=>?_⟩
      ·rw [hlen]
       split <;> rfl
      ·rcases hF with e|hF
       ·exact .inl (by rw [e];simp)
       ·refine .inr ?_
        split
        ·exact hF
        ·rw [block_add];exact hF
      ·rw [List.getElem?_drop,List.getElem?_take] at hz
       split at hz
       ·rename_i hi
        obtain ⟨us,hul,hel',hus⟩:=hcell _ _ hz
        refine ⟨us,hul,hel',fun j u hj=>?_⟩
        have hlt:=(List.getElem?_eq_some_iff.1 hz).1
        rw [if_neg (by omega),add_add']
        have:=hus j u hj
        rw [show l.toNat * k'.size + (i * k'.size + j)=(l.toNat + i) * k'.size + j by rw [Nat.add_mul];omega]
        exact this
       ·cases hz
  ·cases h
 ·rename_i sz0 z0 e k' b0 zz hty hno
  obtain ⟨hu,hel,_⟩:=(H.cfg.ty _ _ hty).2.2.2.2
  have hes:(P.info? e).map (·.size)=some k'.size:=by
   cases hi:P.info? e with
   | none=>rw [hi] at hel;cases hel
   | some ie=>rw [hi] at hel;simp only [Option.map_some,Option.some.injEq,Prod.mk.injEq] at hel ⊢;exact hel.1
  split at h
  ·rename_i l ver hx
   have hd:CellC w F ρ own (.own l ver) (a.eval x):=H.ev' hx
   have hok:=H.mem.ok l
   split at h
   ·rename_i ver' ty k xs hl
    split at h
    ·rename_i lo' hi' hk hlo hhi
     have:=ElK.beq_eq hk
     subst this
     injection h with e1 e2
     subst e1;subst e2
     obtain ⟨hv,h0,h1,h2⟩:=hp
     have he:=hd.2.2 ⟨by rw [hl];exact hv.symm,by rw [hl];trivial⟩
     have hlo:=boundI_ok H hlo
     have hhi:=boundI_ok H hhi
     rw [hl] at hok
     obtain ⟨vs,hw,hrow,_⟩:=hok
     rcases hw.2 with ⟨_,hn0⟩|⟨g,cap,cur,hρ,hbase,hh,hcap,_⟩
     ·rw [hn0] at h2;simp at h2;omega
     ·rw [hρ] at he
      have hr:=run_sliceB t e hu _ hes (some ⟨g,0,none⟩) xs.length cap hcap _ _ lo' hi' hlo hhi h0 (by omega) h2 w
      have e3:(if cap=lo'.toNat then some (⟨g,0,none⟩:Addr) else (some (⟨g,0,none⟩:Addr)).map (·.add (lo'.toNat * k'.size)))=some ⟨g,lo'.toNat * k'.size,none⟩:=by
       rw [if_neg (by omega)]
       simp [add_lit']
      rw [e3] at hr
      refine Yield.pure (u:=.slice (some ⟨g,lo'.toNat * k'.size,none⟩) (hi'.toNat - lo'.toNat) (cap - lo'.toNat)) (by simp [execOp,ho,he,hr]) ?_
      refine ⟨rfl,hd.2.1,fun _=>⟨fun ty' k xs' hob=>?_,fun _ _ _ _ _ _ hob=>by rw [hl] at hob;cases hob⟩⟩
      rw [hl] at hob
      cases hob
      exact ⟨g,_,by rw [hρ];rfl,by omega,rfl⟩
    ·cases h
   ·cases h
  ·cases h
 ·cases h
theorem run_sliceF (t e:TypeId) (hu:P.underlying t=some (.slice e)) (sz:Nat) (hes:(P.info? e).map (·.size)=some sz) (pa:Option Addr) (len cap:Nat) (hlc:len≤cap) (kh km:IntKind) (h:Int) (h0:0≤h) (h2:h≤len) (w:World) :
  (Instr.sliceAt t (.slice pa len cap) none (some (.int kh h)) (some (.int km h))).run P w=.ok (.slice (if h.toNat=0 then pa else pa.map (·.add (0 * sz))) h.toNat h.toNat) w:=by
 have hb:∀ (x:Int) (k:IntKind) (y:Nat) (cd:BoundsCode) (w:World),0≤x→x≤y→(Instr.sliceBound (.int k x) y cd).run P w=.ok x.toNat w:=fun x k y cd w a b=>by
  simp [Instr.sliceBound,asIntOf,a,b]
 have hh:h≤(cap:Int):=by omega
 have hh2:h≤(h.toNat:Int):=by omega
 simp [Instr.sliceAt,run_und hu,Instr.slice,Instr.sliceBounds,run_size hes,hb h km _ _ _ h0 hh,hb h kh _ _ _ h0 hh2]
theorem s_sliceF (H:Here P c N F ρ own slots a w) {t:TypeId} {x hi mx:Operand} (ho:o.op=.slice t x none (some hi) (some mx)) (h:aval c (evA slots) own (.slice t x none (some hi) (some mx))=.ok p y) (hp:p):Yield P o a w F ρ own y Q:=by
 dsimp only [aval] at h
 split at h
 ·rename_i sz0 z0 e k' b0 zz nl k xs kh hh km m hty hx hhi hmx
  have hx:=asSl_ok hx
  obtain ⟨hu,hel,_⟩:=(H.cfg.ty _ _ hty).2.2.2.2
  have hes:(P.info? e).map (·.size)=some k'.size:=by
   cases hi:P.info? e with
   | none=>rw [hi] at hel;cases hel
   | some ie=>rw [hi] at hel;simp only [Option.map_some,Option.some.injEq,Prod.mk.injEq] at hel ⊢;exact hel.1
  split at h
  ·rename_i hk
   have:=ElK.beq_eq hk
   subst this
   injection h with e1 e2
   subst e1;subst e2
   obtain ⟨⟨h0,h1⟩,rfl⟩:=hp
   have hd:DC w F (.sl nl k' xs) (a.eval x):=H.ev' hx
   generalize he:a.eval x=v at hd
   cases hd with
   | sl hn hs=>
    rcases hs with ⟨rfl,rfl⟩|⟨ad,cap,rfl,hc,hF,hcell⟩
    ·have hh0:m=0:=by simp at h1;omega
     subst hh0
     have hr:=run_sliceF t e hu _ hes none 0 0 (Nat.le_refl _) kh km 0 (by omega) (by omega) w
     refine Yield.pure (u:=.slice none 0 0) (by simp [execOp,ho,he,H.int hhi,H.int hmx,hr]) (DC.full (.inl ⟨rfl,by simp⟩) ⟨none,0,rfl⟩)
    ·have hr:=run_sliceF t e hu _ hes (some ad) xs.length cap hc kh km m h0 h1 w
     have e3:(if m.toNat=0 then some ad else (some ad).map (·.add (0 * k'.size)))=some ad:=by
      split
      ·rfl
      ·simp [Addr.add]
     rw [e3] at hr
     have hlen:(xs.take m.toNat).length=m.toNat:=by rw [List.length_take];omega
     refine Yield.pure (u:=.slice (some ad) m.toNat m.toNat) (by simp [execOp,ho,he,H.int hhi,H.int hmx,hr]) (DC.full (.inr ⟨ad,m.toNat,by rw [hlen],by omega,?_,fun i z hz=>?_⟩) ⟨_,_,rfl⟩)
     ·rcases hF with e|hF
      ·exact .inl (by rw [e];simp)
      ·exact .inr hF
     ·rw [List.getElem?_take] at hz
      split at hz
      ·exact hcell _ _ hz
      ·cases hz
  ·cases h
 ·cases h
def putV:List Value→Nat→List Value→List Value
 | vs,0,[]=>vs
 | _ :: vs,0,x :: xs=>x :: putV vs 0 xs
 | [],_,_=>[]
 | v :: vs,n + 1,xs=>v :: putV vs n xs
theorem putV_get:∀ (vs:List Value) (n:Nat) (xs:List Value),n + xs.length≤vs.length→(putV vs n xs).length=vs.length ∧
  ∀ j,(putV vs n xs)[j]?=if n≤j∧j < n + xs.length then xs[j - n]? else vs[j]?
 | vs,0,[],_=>by
  refine ⟨by cases vs <;> simp [putV],fun j=>?_⟩
  rw [if_neg (by simp)]
  cases vs <;> simp [putV]
 | v :: vs,0,x :: xs,h=>by
  obtain ⟨h1,h2⟩:=putV_get vs 0 xs (by simpa using h)
  refine ⟨by simp [putV,h1],fun j=>?_⟩
  cases j with
  | zero=>simp [putV]
  | succ j=>
   simp only [putV,List.getElem?_cons_succ,h2]
   by_cases hj:j < xs.length
   ·rw [if_pos (by omega),if_pos (by simp;omega)];simp
   ·rw [if_neg (by omega),if_neg (by simp;omega)]
 | [],0,_ :: _,h=>by simp at h
 | [],n + 1,xs,h=>by simp at h
 | v :: vs,n + 1,xs,h=>by
  obtain ⟨h1,h2⟩:=putV_get vs n xs (by simp at h;omega)
  refine ⟨by cases xs <;> simp [putV,h1],fun j=>?_⟩
  cases j with
  | zero=>cases xs <;> simp [putV]
  | succ j=>
   have:putV (v :: vs) (n + 1) xs=v :: putV vs n xs:=by cases xs <;> rfl
   rw [this]
   simp only [List.getElem?_cons_succ,h2]
   by_cases hj:n≤j∧j < n + xs.length
   ·rw [if_pos hj,if_pos (by omega)];congr 1;omega
   ·rw [if_neg hj,if_neg (by omega)]
theorem putC_get:∀ (vs:List Cell) (n:Nat) (xs:List Cell),n + xs.length≤vs.length→(putCells vs n xs).length=vs.length ∧
  ∀ j,(putCells vs n xs)[j]?=if n≤j∧j < n + xs.length then xs[j - n]? else vs[j]?
 | vs,0,[],_=>by
  refine ⟨by cases vs <;> simp [putCells],fun j=>?_⟩
  rw [if_neg (by simp)]
  cases vs <;> simp [putCells]
 | v :: vs,0,x :: xs,h=>by
  obtain ⟨h1,h2⟩:=putC_get vs 0 xs (by simpa using h)
  refine ⟨by simp [putCells,h1],fun j=>?_⟩
  cases j with
  | zero=>simp [putCells]
  | succ j=>
   simp only [putCells,List.getElem?_cons_succ,h2]
   by_cases hj:j < xs.length
   ·rw [if_pos (by omega),if_pos (by simp;omega)];simp
   ·rw [if_neg (by omega),if_neg (by simp;omega)]
 | [],0,_ :: _,h=>by simp at h
 | [],n + 1,xs,h=>by simp at h
 | v :: vs,n + 1,xs,h=>by
  obtain ⟨h1,h2⟩:=putC_get vs n xs (by simp at h;omega)
  refine ⟨by cases xs <;> simp [putCells,h1],fun j=>?_⟩
  cases j with
  | zero=>cases xs <;> simp [putCells]
  | succ j=>
   have:putCells (v :: vs) (n + 1) xs=v :: putCells vs n xs:=by cases xs <;> rfl
   rw [this]
   simp only [List.getElem?_cons_succ,h2]
   by_cases hj:n≤j∧j < n + xs.length
   ·rw [if_pos hj,if_pos (by omega)];congr 1;omega
   ·rw [if_neg hj,if_neg (by omega)]
theorem CellsC.put {cs xs:List Cell} {vs us:List Value} {n:Nat} (h:CellsC w F ρ own cs vs) (hx:CellsC w F ρ own xs us) (hn:n + xs.length≤cs.length) :
  CellsC w F ρ own (putCells cs n xs) (putV vs n us):=by
 have hl:=h.1
 have hl':=hx.1
 obtain ⟨c1,c2⟩:=putC_get cs n xs hn
 obtain ⟨v1,v2⟩:=putV_get vs n us (by omega)
 refine ⟨by rw [c1,v1,hl],fun j c v hc hv=>?_⟩
 rw [c2] at hc
 rw [v2] at hv
 by_cases hj:n≤j∧j < n + xs.length
 ·rw [if_pos hj] at hc
  rw [if_pos (by omega)] at hv
  exact hx.2 _ c v hc hv
 ·rw [if_neg hj] at hc
  rw [if_neg (by omega)] at hv
  exact h.2 j c v hc hv
theorem foldl_set (xs:List Value):∀ (n k:Nat) (cells:Array Value),((xs.zipIdx k).foldl (fun cs (p:Value × Nat)=>cs.setIfInBounds (n + p.2) p.1) cells).size=cells.size ∧
  ∀ j,((xs.zipIdx k).foldl (fun cs (p:Value × Nat)=>cs.setIfInBounds (n + p.2) p.1) cells)[j]?=if n + k≤j∧j < n + k + xs.length∧j < cells.size then xs[j - (n + k)]? else cells[j]?:=by
 induction xs with
 | nil=>intro n k cells;simp;intros;omega
 | cons x xs ih=>
  intro n k cells
  simp only [List.zipIdx_cons,List.foldl_cons]
  obtain ⟨h1,h2⟩:=ih n (k + 1) (cells.setIfInBounds (n + k) x)
  refine ⟨by rw [h1];simp,fun j=>?_⟩
  rw [h2]
  simp only [Array.size_setIfInBounds,List.length_cons]
  by_cases hj:n + (k + 1)≤j∧j < n + (k + 1) + xs.length∧j < cells.size
  ·rw [if_pos hj,if_pos (by omega)]
   rw [show j - (n + k)=(j - (n + (k + 1))) + 1 by omega]
   simp
  ·rw [if_neg hj]
   by_cases he:j=n + k
   ·subst he
    by_cases hs:n + k < cells.size
    ·rw [if_pos (by omega)]
     simp [hs]
    ·rw [if_neg (by omega)]
     rw [Array.getElem?_eq_none (by simpa using hs),Array.getElem?_eq_none (by simpa using hs)]
   ·rw [if_neg (by omega),Array.getElem?_setIfInBounds_ne (by omega)]
theorem fold_put (u:Value) (n:Nat) (cells:Array Value) (h:n + u.cells.size≤cells.size) :
  (u.cells.zipIdx.foldl (fun cs (p:Value × Nat)=>cs.setIfInBounds (n + p.2) p.1) cells).toList=putV cells.toList n u.cells.toList:=by
 have e:u.cells.zipIdx=(u.cells.toList.zipIdx 0).toArray:=by
  apply Array.ext';simp
 rw [e,List.foldl_toArray]
 obtain ⟨h1,h2⟩:=foldl_set u.cells.toList n 0 cells
 obtain ⟨v1,v2⟩:=putV_get cells.toList n u.cells.toList (by simpa using h)
 apply List.ext_getElem?
 intro j
 rw [v2,Array.getElem?_toList,h2]
 simp only [Nat.add_zero,Array.length_toList]
 by_cases hj:n≤j∧j < n + u.cells.size
 ·rw [if_pos (by omega),if_pos hj]
 ·rw [if_neg (by omega),if_neg hj];simp
theorem fill_ok (H:Here P c N F ρ own slots a w) {place:Nat→Option (Nat × Nat)} {fs:List (Nat × Nat × Bool)} (hpl:∀ i:Nat,place i=fs[i]?.map fun x=>(x.1,x.2.1)) :
  ∀ (parts:List (Nat × Operand)) (cs cs':List Cell) (vs:Array Value),CellsC w F ρ own cs vs.toList→fillA fs (parts.map fun p=>(p.1,evA slots p.2)) cs=some cs' →
   ∃ vs':Array Value,Instr.fill place vs (parts.map fun p=>(p.1,a.eval p.2))=some vs'∧CellsC w F ρ own cs' vs'.toList
 | [],cs,cs',vs,hc,h=>by
  simp only [List.map_nil,fillA,Option.some.injEq] at h
  subst h
  exact ⟨vs,rfl,hc⟩
 | (i,x) :: r,cs,cs',vs,hc,h=>by
  simp only [List.map_cons] at h ⊢
  unfold fillA at h
  split at h
  ·rename_i off sz ag xs hf hxs
   split at h
   ·rename_i hb
    simp only [Bool.and_eq_true] at hb
    have hsz:xs.length=sz:=Nat.eq_of_beq_eq_true hb.1
    have hle:off + sz≤cs.length:=Nat.le_of_ble_eq_true hb.2
    have hx:=cells_ok hxs (H.ev x)
    have hxl:(a.eval x).cells.size=sz:=by have:=hx.1;rw [Array.length_toList] at this;omega
    have hvl:vs.size=cs.length:=by have:=hc.1;rwa [Array.length_toList] at this
    have hp:=CellsC.put hc hx (n:=off) (by omega)
    rw [← fold_put (a.eval x) off vs (by omega)] at hp
    obtain ⟨vs',h1,h2⟩:=fill_ok H hpl r _ cs' _ hp h
    refine ⟨vs',?_,h2⟩
    have hpi:place i=some (off,sz):=by rw [hpl,hf];rfl
    unfold Instr.fill
    simp only [hpi,hxl]
    rw [if_neg (by simp;omega)]
    exact h1
   ·cases h
  ·cases h
theorem zero_ok {t:TypeId} {z:List ZK} (h:zeroB P t=some (z.map ZK.v)):∃ zv,(∀ w,(zeroValue t).run P w=.ok zv w)∧zv.cells.toList=z.map ZK.v:=by
 unfold zeroB at h
 cases hi:P.info? t with
 | none=>rw [hi] at h;cases h
 | some i=>
  rw [hi] at h
  simp only [Option.bind_some] at h
  cases hz:i.zero with
  | none=>rw [hz] at h;cases h
  | some zv=>
   rw [hz] at h
   simp only [Option.map_some,Option.some.injEq] at h
   refine ⟨zv,fun w=>?_,h⟩
   simp [zeroValue,typeInfo,hi,hz]
theorem zk_ok (z:List ZK):CellsC w F ρ own (z.map ZK.c) (z.map ZK.v):=by
 induction z with
 | nil=>exact CellsC.nil
 | cons k z ih=>exact CellsC.cons (by cases k <;> first|exact DC.int _ _|exact DC.bool _|exact DC.nil) ih
theorem run_places (w:World):∀ (l:List Field),(∀ f∈l,(P.underlying f.type).isSome=true)→(l.mapM fun f=>(do pure (f.offset,← sizeOf f.type):Sem (Nat × Nat))).run P w=.ok (l.map fun f=>(f.offset,P.cellsOf f.type)) w
 | [],_=>by simp
 | f :: l,h=>by
  have hs:(sizeOf f.type).run P w=.ok (P.cellsOf f.type) w:=by
   have:=h f (by simp)
   unfold Program.underlying at this
   unfold Program.cellsOf
   cases hi:P.info? f.type with
   | none=>rw [hi] at this;cases this
   | some i=>simp [sizeOf,typeInfo,hi]
  have ih:=run_places w l (fun g hg=>h g (by simp [hg]))
  simp only [List.mapM_cons,Sem.run_bind,hs,Result.andThen_ok,Sem.run_pure,ih,List.map_cons]
theorem s_build (H:Here P c N F ρ own slots a w) {t:TypeId} {parts:Array (Nat × Operand)} (ho:o.op=.build t parts) (h:aval c (evA slots) own (.build t parts)=.ok p y):Yield P o a w F ρ own y Q:=by
 dsimp only [aval] at h
 split at h
 ·rename_i sz z fs eqp hty
  have hti:=H.cfg.ty _ _ hty
  obtain ⟨fields,hu,hfs,hall⟩:=fields_run hti.2.2.2.2.1
  obtain ⟨zv,hz,hzc⟩:=zero_ok hti.2.1
  split at h
  ·rename_i cs hfill
   injection h with e1 e2
   subst e2
   have h0:CellsC w F ρ own (z.map ZK.c) zv.cells.toList:=by rw [hzc];exact zk_ok z
   have hpl:∀ i:Nat,((fields.toList.map fun f=>(f.offset,P.cellsOf f.type)).toArray[i]?)=fs[i]?.map fun x=>(x.1,x.2.1):=fun i=>by
    rw [hfs];simp;rfl
   obtain ⟨vs',h1,h2⟩:=fill_ok H (place:=fun i=>(fields.toList.map fun f=>(f.offset,P.cellsOf f.type)).toArray[i]?) hpl parts.toList _ cs zv.cells h0 hfill
   refine Yield.pure (u:=.agg vs') ?_ ⟨vs'.toList,by simp,h2⟩
   have hr:(Instr.build t (parts.map fun (i,x)=>(i,a.eval x))).run P w=.ok (.agg vs') w:=by
    unfold Instr.build
    simp only [Sem.run_bind,hz,Result.andThen_ok,run_und hu,Array.mapM_eq_mapM_toList,Sem.run_map,run_places w fields.toList hall]
    have:(parts.map fun (x:Nat × Operand)=>(x.1,a.eval x.2)).toList=parts.toList.map fun p=>(p.1,a.eval p.2):=by simp
    simp only [this,h1]
    rfl
   simp only [execOp,ho,Sem.run_bind,hr,Result.andThen_ok,Sem.run_pure]
  ·cases h
 ·cases h
theorem flat_get {size:Nat}:∀ (ls:List (List Value)) (i j:Nat),(∀ l∈ls,l.length=size)→j < size→ls.flatten[i * size + j]?=(ls[i]?).bind (·[j]?)
 | [],i,j,_,_=>by simp
 | l :: ls,0,j,h,hj=>by
  have:=h l (by simp)
  rw [List.flatten_cons,List.getElem?_append_left (by omega)]
  simp
 | l :: ls,i + 1,j,h,hj=>by
  have hl:=h l (by simp)
  have ih:=flat_get ls i j (fun l hl=>h l (by simp [hl])) hj
  rw [List.flatten_cons,List.getElem?_append_right (by rw [hl,Nat.succ_mul];omega)]
  rw [show (i + 1) * size + j - l.length=i * size + j by rw [hl,Nat.succ_mul];omega,ih]
  simp
theorem flat_len {size:Nat}:∀ (ls:List (List Value)),(∀ l∈ls,l.length=size)→ls.flatten.length=ls.length * size
 | [],_=>by simp
 | l :: ls,h=>by
  rw [List.flatten_cons,List.length_append,h l (by simp),flat_len ls (fun l hl=>h l (by simp [hl])),List.length_cons,Nat.succ_mul];omega
theorem putV_flat {size:Nat} (ls:List (List Value)) (i:Nat) (us:List Value) (h:∀ l∈ls,l.length=size) (hi:i < ls.length) (hu:us.length=size) :
  putV ls.flatten (i * size) us=(ls.set i us).flatten:=by
 have hfl:=flat_len ls h
 have hb:i * size + size≤ls.length * size:=by rw [← Nat.succ_mul];exact Nat.mul_le_mul_right _ hi
 have h':∀ l∈ls.set i us,l.length=size:=fun l hl=>by
  rcases List.mem_or_eq_of_mem_set hl with hl|hl
  ·exact h l hl
  ·rw [hl,hu]
 have hfl':=flat_len _ h'
 rw [List.length_set] at hfl'
 obtain ⟨v1,v2⟩:=putV_get ls.flatten (i * size) us (by rw [hfl,hu];omega)
 rcases Nat.eq_zero_or_pos size with hz|hz
 ·subst hz
  have e1:(putV ls.flatten (i * 0) us)=[]:=List.eq_nil_of_length_eq_zero (by rw [v1,hfl];simp)
  have e2:(ls.set i us).flatten=[]:=List.eq_nil_of_length_eq_zero (by rw [hfl'];simp)
  rw [e1,e2]
 apply List.ext_getElem?
 intro j
 rw [v2]
 have hj:j=j / size * size + j % size:=by rw [Nat.mul_comm];exact (Nat.div_add_mod j size).symm
 have hm:=Nat.mod_lt j hz
 generalize hq:j / size=q at hj
 generalize hr:j % size=r at hj hm
 subst hj
 rw [flat_get _ q r h' hm,hu]
 by_cases he:q=i
 ·subst he
  rw [if_pos (by omega),List.getElem?_set_self hi,show q * size + r - q * size=r by omega]
  rfl
 ·rw [if_neg,flat_get _ q r h hm,List.getElem?_set_ne (Ne.symm he)]
  intro ⟨h1,h2⟩
  rcases Nat.lt_or_gt_of_ne he with hlt|hgt
  ·have:=Nat.mul_le_mul_right size hlt
   rw [Nat.succ_mul] at this;omega
  ·have:=Nat.mul_le_mul_right size hgt
   rw [Nat.succ_mul] at this;omega
def ListsC (w:World) (F:Nat→Prop) (ρ:Nat→Value) (own:Nat→Loc) (size:Nat) (cs:List (List Cell)) (vs:List (List Value)):Prop:=
 vs.length=cs.length∧(∀ l∈vs,l.length=size)∧∀ (i:Nat) c v,cs[i]?=some c→vs[i]?=some v→CellsC w F ρ own c v
theorem ListsC.set {size:Nat} {cs:List (List Cell)} {vs:List (List Value)} (h:ListsC w F ρ own size cs vs) {i:Nat} {x:List Cell} {u:List Value} (hx:CellsC w F ρ own x u) (hl:u.length=size) :
  ListsC w F ρ own size (cs.set i x) (vs.set i u):=by
 refine ⟨by simp [h.1],fun l hl'=>?_,fun j c v hc hv=>?_⟩
 ·rcases List.mem_or_eq_of_mem_set hl' with h1|h1
  ·exact h.2.1 l h1
  ·rw [h1,hl]
 ·by_cases e:i=j
  ·subst e
   have hlt:i < cs.length:=by
    have:=(List.getElem?_eq_some_iff.1 hc).1;simpa using this
   rw [List.getElem?_set_self hlt] at hc
   rw [List.getElem?_set_self (by rw [h.1];exact hlt)] at hv
   injection hc with hc;injection hv with hv
   subst hc;subst hv
   exact hx
  ·rw [List.getElem?_set_ne e] at hc hv
   exact h.2.2 j c v hc hv
theorem parts_ok (H:Here P c N F ρ own slots a w) {size:Nat}:∀ (parts:List (Nat × Operand)) (cs cs':List (List Cell)) (vs:List (List Value)) (row:Array Value),ListsC w F ρ own size cs vs→row.toList=vs.flatten →
  setParts size (parts.map fun p=>(p.1,evA slots p.2)) cs=some cs' →
   ∃ vs' row',Instr.fill (fun i=>some (i * size,size)) row (parts.map fun p=>(p.1,a.eval p.2))=some row'∧row'.toList=vs'.flatten∧ListsC w F ρ own size cs' vs'
 | [],cs,cs',vs,row,hc,hr,h=>by
  simp only [List.map_nil,setParts,Option.some.injEq] at h
  subst h
  exact ⟨vs,row,rfl,hr,hc⟩
 | (i,x) :: r,cs,cs',vs,row,hc,hr,h=>by
  simp only [List.map_cons] at h ⊢
  unfold setParts at h
  split at h
  ·rename_i xs hxs
   split at h
   ·rename_i hb
    simp only [Bool.and_eq_true] at hb
    have hsz:xs.length=size:=Nat.eq_of_beq_eq_true hb.1
    have hle:i + 1≤cs.length:=Nat.le_of_ble_eq_true hb.2
    have hx:=cells_ok hxs (H.ev x)
    have hxl:(a.eval x).cells.size=size:=by have:=hx.1;rw [Array.length_toList] at this;omega
    have hfl:=flat_len vs hc.2.1
    have hrs:row.size=vs.length * size:=by rw [← Array.length_toList,hr,hfl]
    have hb2:i * size + size≤row.size:=by rw [hrs,← Nat.succ_mul,hc.1];exact Nat.mul_le_mul_right _ hle
    have hput:=fold_put (a.eval x) (i * size) row (by omega)
    rw [hr,putV_flat vs i _ hc.2.1 (by rw [hc.1];omega) (by simpa using hxl)] at hput
    obtain ⟨vs',row',h1,h2,h3⟩:=parts_ok H r _ cs' _ _ (hc.set (i:=i) hx (by simpa using hxl)) hput h
    refine ⟨vs',row',?_,h2,h3⟩
    unfold Instr.fill
    simp only [hxl]
    rw [if_neg (by simp;omega)]
    exact h1
   ·cases h
  ·cases h
theorem dec_ok {k:ElK} {cs:List Cell} {x:k.T} {us:List Value} (h:k.dec cs=some x) (hc:CellsC w F ρ own cs us):us.length=k.size∧Elem w F k x us:=by
 unfold ElK.dec at h
 have one:∀ {z:Cell},CellsC w F ρ own [z] us→∃ u,us=[u]∧CellC w F ρ own z u:=fun hc=>by
  obtain ⟨u,us',rfl,h1,h2⟩:=hc.uncons
  have:us'=[]:=List.eq_nil_of_length_eq_zero (by simpa using h2.1)
  subst this
  exact ⟨u,rfl,h1⟩
 split at h
 ·injection h with h;subst h
  obtain ⟨u,rfl,h1⟩:=one hc
  rw [intD h1];exact ⟨rfl,rfl⟩
 ·injection h with h;subst h
  obtain ⟨u,rfl,h1⟩:=one hc
  rw [boolD h1];exact ⟨rfl,rfl⟩
 ·injection h with h;subst h
  obtain ⟨u1,r1,rfl,h1,hc⟩:=hc.uncons
  obtain ⟨u2,r2,rfl,h2,hc⟩:=hc.uncons
  have:r2=[]:=List.eq_nil_of_length_eq_zero (by simpa using hc.1)
  subst this
  rw [intD h1,intD h2];exact ⟨rfl,rfl⟩
 ·injection h with h;subst h
  obtain ⟨u1,r1,rfl,h1,hc⟩:=hc.uncons
  obtain ⟨u2,r2,rfl,h2,hc⟩:=hc.uncons
  obtain ⟨u3,r3,rfl,h3,hc⟩:=hc.uncons
  obtain ⟨u4,r4,rfl,h4,hc⟩:=hc.uncons
  have:r4=[]:=List.eq_nil_of_length_eq_zero (by simpa using hc.1)
  subst this
  rw [intD h1,intD h2,intD h3,intD h4];exact ⟨rfl,rfl⟩
 ·injection h with h;subst h
  obtain ⟨u1,r1,rfl,h1,hc⟩:=hc.uncons
  obtain ⟨u2,r2,rfl,h2,hc⟩:=hc.uncons
  obtain ⟨u3,r3,rfl,h3,hc⟩:=hc.uncons
  have:r3=[]:=List.eq_nil_of_length_eq_zero (by simpa using hc.1)
  subst this
  rw [intD h1,intD h2,intD h3];exact ⟨rfl,rfl⟩
 ·injection h with h;subst h
  obtain ⟨u,rfl,h1⟩:=one hc
  rw [intD h1];exact ⟨rfl,rfl⟩
 ·injection h with h;subst h
  obtain ⟨u,rfl,h1⟩:=one hc
  refine ⟨rfl,u,rfl,?_⟩
  cases h1 with|sl _ hs=>exact hs
 ·injection h with h;subst h
  obtain ⟨u,rfl,h1⟩:=one hc
  refine ⟨rfl,u,rfl,?_⟩
  cases h1 with|sl _ hs=>exact hs
 ·injection h with h;subst h
  obtain ⟨u,rfl,h1⟩:=one hc
  exact ⟨rfl,u,rfl,.inl ⟨nilD h1,rfl⟩⟩
 ·injection h with h;subst h
  obtain ⟨u,rfl,h1⟩:=one hc
  exact ⟨rfl,u,rfl,.inl ⟨nilD h1,rfl⟩⟩
 ·cases h
theorem decAll_ok {k:ElK}:∀ {cs:List (List Cell)} {xs:List k.T},decAll k cs=some xs→xs.length=cs.length∧∀ (i:Nat) x,xs[i]?=some x→∃ l,cs[i]?=some l∧k.dec l=some x
 | [],xs,h=>by
  simp only [decAll,Option.some.injEq] at h
  subst h
  exact ⟨rfl,fun i x hx=>by simp at hx⟩
 | l :: cs,xs,h=>by
  unfold decAll at h
  split at h
  ·rename_i x r h1 h2
   injection h with h
   subst h
   obtain ⟨g1,g2⟩:=decAll_ok h2
   refine ⟨by simp [g1],fun i z hz=>?_⟩
   cases i with
   | zero=>simp at hz;subst hz;exact ⟨l,rfl,h1⟩
   | succ i=>simp at hz;obtain ⟨l',h3,h4⟩:=g2 i z hz;exact ⟨l',by simpa using h3,h4⟩
  ·cases h
theorem one_of_cells {cs:List Cell} {vs:List Value} (h:CellsC w F ρ own cs vs):∀ v∈vs,v.oneCell'=true:=by
 intro v hv
 obtain ⟨j,hj⟩:=List.getElem?_of_mem hv
 have hlt:=(List.getElem?_eq_some_iff.1 hj).1
 exact (h.2 j _ v (List.getElem?_eq_getElem (by rw [← h.1];exact hlt)) hj).oneCell
theorem zeros_row (zs:Array Value) (n:Nat) (hz:0 < zs.size):((Array.range (n * zs.size)).map (zs[· % zs.size]!)).toList=(List.replicate n zs.toList).flatten:=by
 apply List.ext_getElem?
 intro j
 have hj:j=j / zs.size * zs.size + j % zs.size:=by rw [Nat.mul_comm];exact (Nat.div_add_mod j zs.size).symm
 have hm:=Nat.mod_lt j hz
 have hlen:∀ l∈List.replicate n zs.toList,l.length=zs.size:=fun l hl=>by rw [List.eq_of_mem_replicate hl];simp
 have h2:=flat_get (List.replicate n zs.toList) (j / zs.size) (j % zs.size) hlen hm
 rw [← hj] at h2
 rw [h2]
 by_cases hlt:j < n * zs.size
 ·have hq:j / zs.size < n:=(Nat.div_lt_iff_lt_mul hz).2 hlt
  simp [hlt,hq,hm]
 ·have hq:¬ j / zs.size < n:=fun h=>hlt ((Nat.div_lt_iff_lt_mul hz).1 h)
  simp [hlt,hq]
theorem replicate_ok (z:List ZK) (vs:List Value) (h:CellsC w F ρ own (z.map ZK.c) vs) (size n:Nat) (hs:vs.length=size) :
  ListsC w F ρ own size (List.replicate n (z.map ZK.c)) (List.replicate n vs):=by
 refine ⟨by simp,fun l hl=>by rw [List.eq_of_mem_replicate hl,hs],fun i c v hc hv=>?_⟩
 rw [List.eq_of_mem_replicate (List.mem_of_getElem? hc),List.eq_of_mem_replicate (List.mem_of_getElem? hv)]
 exact h
theorem row_of_lists {k:ElK} {l:List (List Cell)} {vs:List (List Value)} {xs:List k.T} (h:decAll k l=some xs) (hv:ListsC w F ρ own k.size l vs):RowC w F k xs vs.flatten:=by
 obtain ⟨d1,d2⟩:=decAll_ok h
 refine ⟨fun v hmem=>?_,fun i x hx=>?_⟩
 ·obtain ⟨us,hus,hv'⟩:=List.mem_flatten.1 hmem
  obtain ⟨j,hj⟩:=List.getElem?_of_mem hus
  have hlt:=(List.getElem?_eq_some_iff.1 hj).1
  exact one_of_cells (hv.2.2 j _ us (List.getElem?_eq_getElem (by rw [← hv.1];exact hlt)) hj) v hv'
 ·obtain ⟨cs,hcs,hdec⟩:=d2 i x hx
  have hlt:=(List.getElem?_eq_some_iff.1 hcs).1
  have hus:vs[i]?=some (vs[i]'(by rw [hv.1];exact hlt)):=List.getElem?_eq_getElem (by rw [hv.1];exact hlt)
  obtain ⟨e1,e2⟩:=dec_ok hdec (hv.2.2 i cs _ hcs hus)
  refine ⟨_,e1,e2,fun j u hj=>?_⟩
  have hjl:=(List.getElem?_eq_some_iff.1 hj).1
  rw [flat_get vs i j hv.2.1 (by omega),hus]
  exact hj
theorem elk_size (k:ElK):k.size≤4∧0 < k.size:=by
 cases k with
 | b e=>cases e <;> simp [ElK.size,ElB.size]
 | s e=>simp [ElK.size]
theorem elem_size {t e:TypeId} {sz:Nat} {z0:List ZK} {k:ElK} {b:Nat} {z:List ZK} (h:TIok P t ⟨sz,z0,.slice e k b z⟩) :
  P.underlying t=some (.slice e)∧(P.info? e).map (·.size)=some k.size∧(P.info? e).map (fun i=>(i.size,i.bytes))=some (k.size,b)∧∃ zv,(∀ w,(zeroValue e).run P w=.ok zv w)∧zv.cells.toList=z.map ZK.v∧zv.cells.size=k.size∧∃ ie,P.info? e=some ie∧ie.zero=some zv∧ie.size=k.size∧ie.bytes=b:=by
 obtain ⟨hu,hel,hzero,hzl⟩:=h.2.2.2.2
 cases hi:P.info? e with
 | none=>rw [hi] at hel;cases hel
 | some ie=>
  rw [hi] at hel
  simp only [Option.map_some,Option.some.injEq,Prod.mk.injEq] at hel
  unfold zeroB at hzero
  rw [hi] at hzero
  simp only [Option.bind_some] at hzero
  cases hz:ie.zero with
  | none=>rw [hz] at hzero;cases hzero
  | some zv=>
   rw [hz] at hzero
   simp only [Option.map_some,Option.some.injEq] at hzero
   have hsz:zv.cells.size=k.size:=by rw [← Array.length_toList,hzero,List.length_map,hzl]
   exact ⟨hu,by simp [hel.1],by simp [hel.1,hel.2],zv,fun w=>by simp [zeroValue,typeInfo,hi,hz],hzero,hsz,ie,rfl,hz,hel.1,hel.2⟩
theorem buildSlice_ok (H : Here P c N F ρ own slots a w) {t : TypeId} {len : Nat} {parts : Array (Nat × Operand)} {sz : Nat} {z0 : List ZK} {e : TypeId} {k : ElK} {b : Nat} {z : List ZK} {xs : List k.T}
    (hty : c.ty t = some ⟨sz, z0, .slice e k b z⟩) (hlen : len ≤ 1024) (h : elems k (z.map ZK.c) (parts.toList.map fun p => (p.1, evA slots p.2)) len = some xs) :
    xs.length = len ∧ ∃ row : Array Value, row.size = len * k.size ∧
      (Instr.buildSlice t len (parts.map fun (i, x) => (i, a.eval x))).run P w = .ok (.slice (some ⟨w.heap.size, 0, none⟩) len len) (w.alloc (.cells row e)) ∧ RowC w F k xs row.toList := by
  obtain ⟨hu, hes, _, zv, hz, hzc, hzs, _⟩ := elem_size (H.cfg.ty _ _ hty)
  have hk4 := elk_size k
  unfold elems at h
  split at h
  · rename_i l hset
    obtain ⟨d1, d2⟩ := decAll_ok h
    have hmul : len * k.size ≤ 4096 := Nat.mul_le_mul hlen hk4.1
    have hz0 : CellsC w F ρ own (z.map ZK.c) zv.cells.toList := by rw [hzc]; exact zk_ok z
    have hr0 := replicate_ok (w := w) (F := F) (ρ := ρ) (own := own) z zv.cells.toList hz0 k.size len (by simpa using hzs)
    have hrow : ∃ row0 : Array Value, row0.toList = (List.replicate len zv.cells.toList).flatten ∧
        ((len * k.size = 0 ∧ (Array.range (len * k.size)).map ((#[] : Array Value)[· % (#[] : Array Value).size]!) = row0) ∨ (len * k.size ≠ 0 ∧ (Array.range (len * k.size)).map (zv.cells[· % zv.cells.size]!) = row0)) := by
      by_cases hl0 : len * k.size = 0
      · have : len = 0 := by
          rcases Nat.mul_eq_zero.1 hl0 with h | h
          · exact h
          · omega
        subst this
        exact ⟨#[], by simp, .inl ⟨hl0, by simp⟩⟩
      · refine ⟨(Array.range (len * k.size)).map (zv.cells[· % zv.cells.size]!), ?_, .inr ⟨hl0, rfl⟩⟩
        rw [← hzs]
        exact zeros_row zv.cells len (by omega)
    obtain ⟨row0, hrow0, hrun0⟩ := hrow
    obtain ⟨vs', row', h1, h2, h3⟩ := parts_ok H parts.toList _ l _ row0 hr0 hrow0 hset
    have hlsize : l.length = len := by
      have hset' : ∀ (ps : List (Nat × AV)) (a b : List (List Cell)), setParts k.size ps a = some b → b.length = a.length := by
        intro ps
        induction ps with
        | nil => intro a b hab; simp only [setParts, Option.some.injEq] at hab; rw [hab]
        | cons p ps ih =>
          intro a b hab
          unfold setParts at hab
          split at hab
          · split at hab
            · have := ih _ _ hab; simpa using this
            · cases hab
          · cases hab
      simpa using hset' _ _ _ hset
    refine ⟨by omega, row', ?_, ?_, by rw [h2]; exact row_of_lists h h3⟩
    · rw [← Array.length_toList, h2, flat_len vs' h3.2.1, h3.1, hlsize]
    · unfold Instr.buildSlice
      have hgt : ¬ (len * k.size > 2 ^ 24) := by have : (4096 : Nat) < 2 ^ 24 := by decide
                                                 omega
      have hpl : (parts.map fun (x : Nat × Operand) => (x.1, a.eval x.2)).toList = parts.toList.map fun p => (p.1, a.eval p.2) := by simp
      simp only [Sem.run_bind, run_und hu, Result.andThen_ok, run_size hes, if_neg hgt]
      rcases hrun0 with ⟨hl0, hrow⟩ | ⟨hl0, hrow⟩
      · simp only [if_pos hl0, Sem.run_bind, Sem.run_pure, Result.andThen_ok, hrow, hpl, h1, newRow, run_newObj]
        rfl
      · simp only [if_neg hl0, Sem.run_bind, Sem.run_pure, hz, Result.andThen_ok, hrow, hpl, h1, newRow, run_newObj]
        rfl
  · cases h
theorem s_buildSlice (H:Here P c N F ρ own slots a w) {t:TypeId} {len:Nat} {parts:Array (Nat × Operand)} (ho:o.op=.buildSlice t len parts) (h:aval c (evA slots) own (.buildSlice t len parts)=.ok p y):Yield P o a w F ρ own y Q:=by
 dsimp only [aval] at h
 split at h
 ·rename_i sz z0 e k b z hty
  split at h
  ·rename_i xs hlen hel
   injection h with e1 e2
   subst e2
   obtain ⟨hl,row,hrs,hrun,hrow⟩:=buildSlice_ok H hty (Nat.le_of_ble_eq_true hlen) hel
   refine Yield.new (u:=.slice (some ⟨w.heap.size,0,none⟩) len len) (ob:=.cells row e) (by simp only [execOp,ho,Sem.run_bind,hrun,Result.andThen_ok,Sem.run_pure]) ?_
   refine DC.sl (fun b hb=>?_) (.inr ⟨⟨w.heap.size,0,none⟩,len,by rw [hl],by omega,.inr (.inr rfl),fun i x hx=>?_⟩)
   ·injection hb with hb;subst hb;simp
   ·obtain ⟨us,hul,hel',hus⟩:=(hrow.mono (fin_new H.mem (.cells row e))).2 i x hx
    refine ⟨us,hul,hel',fun j u hj=>?_⟩
    rw [add_lit',Nat.zero_add,cell_new]
    simpa using hus j u hj
  ·cases h
 ·cases h
end
section
variable {P : Program} {c : Cfg} {w : World} {N F : Nat → Prop} {ρ : Nat → Value} {own : Nat → Loc} {slots : Nat → AV} {a : Act} {Q : Exit → Act → World → Prop} {o : Oper} {p : Prop} {y : AV}
theorem ext_sub {w:World} {F F':Nat→Prop} (h:∀ b,F b→F' b):Ext w F w F':=⟨rfl,rfl,rfl,Nat.le_refl _,fun _ _=>rfl,h⟩
def viewF (w:World) (F:Nat→Prop) (b:Bool):Nat→Prop:=fun n=>F n∨(b=true∧n < w.heap.size)
theorem viewF_le {w:World} {F:Nat→Prop} {b b':Bool} (h:b=true→b'=true) (n:Nat) (hn:viewF w F b n):viewF w F b' n:=hn.imp id fun ⟨h1,h2⟩=>⟨h h1,h2⟩
theorem row_data {k:ElK} {xs:List k.T} {vs:List Value} {s:Value} {e base:Nat} {G:Nat→Prop} (h:w.ownsRow base e k.size s xs.length vs) (hr:RowC w F k xs vs) (hF:∀ b,F b→G b) (hG:∀ b,blk s=some b→G b):SLK w G k xs s:=by
 rcases h.2 with ⟨hs,hn⟩|⟨g,cap,cur,hs,_,_,hc,_⟩
 ·exact .inl ⟨hs,List.eq_nil_of_length_eq_zero hn⟩
 ·refine .inr ⟨⟨g,0,none⟩,cap,hs,hc,.inr (hG g (by rw [hs];rfl)),fun i x hx=>?_⟩
  obtain ⟨us,hl,he,hu⟩:=hr.2 i x hx
  exact ⟨us,hl,Elem.mono (ext_sub hF) k x us he,fun j u hj=>h.cells (g:=g) (by rw [hs];rfl) _ _ (hu j u hj)⟩
theorem inner_data {l i:Nat} {ty ety:TypeId} {e:ElB} {xs:List (List e.T)} {g:Nat→Bool} (h:OwnOk w N F ρ own l (.deep ty ety e xs g)) {x:List e.T} (hx:xs[i]?=some x) (hg:g i=false):SLK w (viewF w F true) (.b e) x (ρ (inn l i)):=by
 obtain ⟨vs,hw,h1,hn,hin⟩:=h
 obtain ⟨q1,⟨us,hu,hr⟩,q3⟩:=hin i x hx hg
 exact row_data (k:=.b e) hu hr (fun _ h=>.inl h) fun b hb=>.inr ⟨rfl,(hu.lt b (blk_own hu hb)).2⟩
theorem deep_data {l:Nat} {ty ety:TypeId} {e:ElB} {xs:List (List e.T)} {g:Nat→Bool} (h:OwnOk w N F ρ own l (.deep ty ety e xs g)) (hy:allG g xs.length):SLK w (viewF w F true) (.s e) xs (ρ (pl l)):=by
 have h':=h
 obtain ⟨vs,hw,h1,hn,hin⟩:=h
 rcases hw.2 with ⟨hs,hn0⟩|⟨gg,cap,cur,hs,_,_,hc,_⟩
 ·exact .inl ⟨hs,List.eq_nil_of_length_eq_zero hn0⟩
 ·refine .inr ⟨⟨gg,0,none⟩,cap,hs,hc,.inr (.inr ⟨rfl,(hw.lt gg (blk_own hw (by rw [hs];rfl))).2⟩),fun i x hx=>?_⟩
  have hgi:=hy i (List.getElem?_eq_some_iff.1 hx).1
  obtain ⟨q1,_,_⟩:=hin i x hx hgi
  refine ⟨[ρ (inn l i)],rfl,⟨_,rfl,inner_data h' hx hgi⟩,fun j u hj=>?_⟩
  cases j with
  | zero=>
   simp only [List.getElem?_cons_zero,Option.some.injEq] at hj
   subst hj
   exact hw.cells (g:=gg) (by rw [hs];rfl) _ _ (by simpa using q1)
  | succ j=>simp at hj
theorem viewC_ok (m:Mem w N F ρ own) {c c':Cell} {b:Bool} {v:Value} (h:viewC own c=.ok p (c',b)) (hp:p) (hc:CellC w F ρ own c v):∃ x,c'=.d x∧DC w (viewF w F b) x v:=by
 unfold viewC at h
 split at h
 ·rename_i x
  injection h with h1 h2
  injection h2 with h2 h3
  subst h2;subst h3
  exact ⟨x,rfl,DC.mono (ext_sub fun _ h=>.inl h) hc⟩
 ·rename_i l ver
  unfold viewL at h
  split at h
  ·rename_i ver' ty k xs hl
   injection h with h1 h2
   injection h2 with h2 h3
   subst h1;subst h2;subst h3
   have hok:=m.ok l
   rw [hl] at hok
   obtain ⟨vs,hw,hr,hn⟩:=hok
   have hv:=hc.2.2 ⟨by rw [hl];exact hp.symm,by rw [hl];trivial⟩
   subst hv
   refine ⟨_,rfl,DC.sl (fun b hb=>by cases hb) (row_data hw hr (fun _ h=>.inl h) fun b hb=>.inr ⟨rfl,(hw.lt b (blk_own hw hb)).2⟩)⟩
  ·rename_i ver' ty ety e xs g hl
   injection h with h1 h2
   injection h2 with h2 h3
   subst h1;subst h2;subst h3
   have hok:=m.ok l
   rw [hl] at hok
   have hv:=hc.2.2 ⟨by rw [hl];exact hp.1.symm,by rw [hl];trivial⟩
   subst hv
   exact ⟨_,rfl,DC.sl (fun b hb=>by cases hb) (deep_data hok hp.2)⟩
  ·cases h
 ·cases h
 ·rename_i l ver off n
  unfold viewI at h
  split at h
  ·rename_i ver' ty ety e xs g hl
   injection h with h1 h2
   injection h2 with h2 h3
   subst h1;subst h2;subst h3
   have hok:=m.ok l
   rw [hl] at hok
   have hx:=getD_some (d:=[]) hp.2.1
   have hv:=(hc.2.2 (by rw [hl];exact hp.1.symm)).2 ty ety e xs g _ (by rw [hl]) hx hp.2.2
   subst hv
   exact ⟨_,rfl,DC.sl (fun b hb=>by cases hb) (inner_data hok hx hp.2.2.1)⟩
  ·cases h
theorem viewCs_ok (m:Mem w N F ρ own):∀ {p:Prop} {cs cs':List Cell} {b:Bool} {vs:List Value},viewCs own cs=.ok p (cs',b)→p→CellsC w F ρ own cs vs→∀ ρ' own',CellsC w (viewF w F b) ρ' own' cs' vs
 | p,[],cs',b,vs,h,hp,hc=>by
  simp only [viewCs] at h
  injection h with h1 h2
  injection h2 with h2 h3
  subst h2
  intro ρ' own'
  have:vs=[]:=List.eq_nil_of_length_eq_zero (by simpa using hc.1)
  subst this
  exact CellsC.nil
 | p,c :: cs,cs',b,vs,h,hp,hc=>by
  obtain ⟨v,vs',rfl,h0,hc'⟩:=hc.uncons
  unfold viewCs at h
  split at h
  ·rename_i q c1 b1 q' cs1 b2 e1 e2
   injection h with h1 h2
   injection h2 with h2 h3
   subst h1;subst h2;subst h3
   intro ρ' own'
   obtain ⟨x,rfl,hx⟩:=viewC_ok m e1 hp.1 h0
   have ih:=viewCs_ok m e2 hp.2 hc' ρ' own'
   exact CellsC.cons (DC.mono (ext_sub (viewF_le (by simp;intro h;exact .inl h))) hx) (ih.mono (ext_sub (viewF_le (by simp;intro h;exact .inr h))))
  ·cases h
theorem view_ok (m:Mem w N F ρ own) {x x':AV} {b:Bool} {v:Value} (h:view own x=.ok p (x',b)) (hp:p) (hc:AVC w F ρ own x v):∀ ρ' own',AVC w (viewF w F b) ρ' own' x' v:=by
 intro ρ' own'
 unfold view at h
 split at h
 ·rename_i cc
  split at h
  ·rename_i q c' b' e1
   injection h with h1 h2
   injection h2 with h2 h3
   subst h1;subst h2;subst h3
   obtain ⟨x,rfl,hx⟩:=viewC_ok m e1 hp hc
   exact hx
  ·cases h
 ·rename_i cs
  split at h
  ·rename_i q c' b' e1
   injection h with h1 h2
   injection h2 with h2 h3
   subst h1;subst h2;subst h3
   obtain ⟨vs,hv,hvs⟩:=hc
   exact ⟨vs,hv,viewCs_ok m e1 hp hvs ρ' own'⟩
  ·cases h
 ·cases h
theorem views_ok (m:Mem w N F ρ own):∀ {p:Prop} {xs xs':List AV} {b:Bool} {vs:List Value},views own xs=.ok p (xs',b)→p→vs.length=xs.length→(∀ (j:Nat) x v,xs[j]?=some x→vs[j]?=some v→AVC w F ρ own x v) →
  xs'.length=xs.length∧∀ ρ' own' (j:Nat) x v,xs'[j]?=some x→vs[j]?=some v→AVC w (viewF w F b) ρ' own' x v
 | p,[],xs',b,vs,h,hp,hl,hc=>by
  simp only [views] at h
  injection h with h1 h2
  injection h2 with h2 h3
  subst h2
  exact ⟨rfl,fun ρ' own' j x v hx=>by simp at hx⟩
 | p,x :: xs,xs',b,vs,h,hp,hl,hc=>by
  match vs,hl with
  | v :: vs,hl=>
   unfold views at h
   split at h
   ·rename_i q x1 b1 q' xs1 b2 e1 e2
    injection h with h1 h2
    injection h2 with h2 h3
    subst h1;subst h2;subst h3
    have h0:=view_ok m e1 hp.1 (hc 0 x v rfl rfl)
    obtain ⟨ih1,ih2⟩:=views_ok (vs:=vs) m e2 hp.2 (by simpa using hl) (fun j y u hy hu=>hc (j + 1) y u (by simpa using hy) (by simpa using hu))
    refine ⟨by simp [ih1],fun ρ' own' j y u hy hu=>?_⟩
    cases j with
    | zero=>
     simp at hy hu
     subst hy;subst hu
     exact (h0 ρ' own').mono (ext_sub (viewF_le (by simp;intro h;exact .inl h)))
    | succ j=>
     simp at hy hu
     exact (ih2 ρ' own' j y u hy hu).mono (ext_sub (viewF_le (by simp;intro h;exact .inr h)))
   ·cases h
theorem evL_ok (H:Here P c N F ρ own slots a w) (xs:List Operand) (j:Nat) (x:AV) (v:Value) (hx:(evL (evA slots) xs)[j]?=some x) (hv:(xs.map a.eval)[j]?=some v):AVC w F ρ own x v:=by
 unfold evL at hx
 rw [List.getElem?_map] at hx hv
 cases ho:xs[j]? with
 | none=>rw [ho] at hx;cases hx
 | some z=>
  rw [ho] at hx hv
  simp only [Option.map_some,Option.some.injEq] at hx hv
  subst hx;subst hv
  exact H.ev z
theorem capsOf_get:∀ (ds:List D) (j:Nat),(capsOf ds)[j]?=(ds[j]?).map fun x=>AV.one (.d x)
 | [],j=>by simp [capsOf]
 | d :: ds,0=>by simp [capsOf]
 | d :: ds,j + 1=>by simp [capsOf,capsOf_get ds j]
theorem capsOf_len:∀ (ds:List D),(capsOf ds).length=ds.length
 | []=>rfl
 | d :: ds=>by simp [capsOf,capsOf_len ds]
theorem AVG.ren {C C':Cell→Value→Prop} {g:Cell} (h:∀ z v,C z v→C' (renC g z) v) {x:AV} {v:Value} (hx:AVG C x v):AVG C' (ren g x) v:=by
 have hl:∀ {cs:List Cell} {vs:List Value},CellsG C cs vs→CellsG C' (cs.map (renC g)) vs:=fun hc=>
  ⟨by simp [hc.1],fun j z u hz hu=>by
   rw [List.getElem?_map] at hz
   cases hcj:(‹List Cell›)[j]? with
   | none=>rw [hcj] at hz;cases hz
   | some z'=>
    rw [hcj] at hz
    simp only [Option.map_some,Option.some.injEq] at hz
    subst hz
    exact h _ _ (hc.2 j z' u hcj hu)⟩
 cases x with
 | one c=>exact h _ _ hx
 | agg cs=>obtain ⟨vs,hv,hvs⟩:=hx;exact ⟨vs,hv,hl hvs⟩
 | tup xs=>
  obtain ⟨vs,hv,hlen,hvs⟩:=hx
  refine ⟨vs,hv,by simp [hlen],fun j z u hz hu=>?_⟩
  rw [List.getElem?_map] at hz
  cases hcj:xs[j]? with
  | none=>rw [hcj] at hz;cases hz
  | some z'=>
   rw [hcj] at hz
   simp only [Option.map_some,Option.some.injEq] at hz
   subst hz
   have:=hvs j z' u hcj hu
   cases z' with
   | inl c=>exact h _ _ this
   | inr cs=>obtain ⟨us,e1,e2⟩:=this;exact ⟨us,e1,hl e2⟩
 | junk=>trivial
theorem AVG.imp {C C':Cell→Value→Prop} (h:∀ z v,C z v→C' z v) {x:AV} {v:Value} (hx:AVG C x v):AVG C' x v:=by
 cases x with
 | one c=>exact h _ _ hx
 | agg cs=>obtain ⟨vs,hv,hvs⟩:=hx;exact ⟨vs,hv,hvs.imp fun c v _=>h c v⟩
 | tup xs=>
  obtain ⟨vs,hv,hlen,hvs⟩:=hx
  refine ⟨vs,hv,hlen,fun j z u hz hu=>?_⟩
  have:=hvs j z u hz hu
  cases z with
  | inl c=>exact h _ _ this
  | inr cs=>obtain ⟨us,e1,e2⟩:=this;exact ⟨us,e1,e2.imp fun c v _=>h c v⟩
 | junk=>trivial
theorem flatCs_all:∀ {xs:List Cell},flatCs xs=true→∀ x∈xs,flatC x=true
 | [],_,x,hx=>by simp at hx
 | y :: ys,h,x,hx=>by
  unfold flatCs at h
  simp only [Bool.and_eq_true] at h
  rcases List.mem_cons.1 hx with rfl|hx
  ·exact h.1
  ·exact flatCs_all h.2 x hx
theorem flatT_all:∀ {xs:List (Cell ⊕ List Cell)},flatT xs=true→∀ x∈xs,flatS x=true
 | [],_,x,hx=>by simp at hx
 | y :: ys,h,x,hx=>by
  unfold flatT at h
  simp only [Bool.and_eq_true] at h
  rcases List.mem_cons.1 hx with rfl|hx
  ·exact h.1
  ·exact flatT_all h.2 x hx
theorem flat_any {C C':Cell→Value→Prop} (h:∀ z v,flatC z=true→C z v→C' z v) {x:AV} {v:Value} (hf:flat x=true) (hx:AVG C x v):AVG C' x v:=by
 cases x with
 | one c=>exact h _ _ hf hx
 | agg cs=>obtain ⟨vs,hv,hvs⟩:=hx;exact ⟨vs,hv,hvs.imp fun c v hc=>h c v (flatCs_all hf c hc)⟩
 | tup xs=>
  obtain ⟨vs,hv,hlen,hvs⟩:=hx
  refine ⟨vs,hv,hlen,fun j z u hz hu=>?_⟩
  have h1:=hvs j z u hz hu
  have h2:=flatT_all (xs:=xs) hf z (List.mem_of_getElem? hz)
  cases z with
  | inl c=>exact h _ _ h2 h1
  | inr cs=>obtain ⟨us,e1,e2⟩:=h1;exact ⟨us,e1,e2.imp fun c v hc=>h c v (flatCs_all h2 c hc)⟩
 | junk=>trivial
theorem retCell_flat {w':World} {G G':Nat→Prop} {s:Option Value} {z:Cell} {v:Value} (hf:flatC z=true) (h:RetCell w' G s z v):RetCell w' G' s z v:=by
 cases z with
 | d x=>
  cases x with
  | int k n=>have h:DC w' G (.int k n) v:=h;cases h;exact DC.int _ _
  | bool b=>have h:DC w' G (.bool b) v:=h;cases h;exact DC.bool _
  | nil=>have h:DC w' G .nil v:=h;cases h;exact DC.nil
  | sl _ _ _=>cases hf
  | full _ _=>cases hf
  | ptr _=>cases hf
  | clo _ _=>cases hf
 | own l ver=>exact h
 | ptr l ver i j=>cases hf
 | sub l ver off n=>cases hf
theorem retX_plain {w w':World} {F:Nat→Prop} {dp:Option TypeId} {r:RV} {v:Value} (h:RetX w w' F dp r v):RetC w w' F r v:=by
 unfold RetX at h
 split at h
 ·exact h
 ·unfold RetD at h
  split at h
  ·exact h
  ·rename_i ety ty nl e xs hrow
   obtain ⟨s,inner,⟨vs,hw,h1,hn,hin⟩,h3,h4⟩:=h
   unfold RetC
   rw [hrow]
   refine ⟨s,vs,⟨hw.1,?_⟩,⟨h1,fun i x hx=>?_⟩,h3,AVG.imp (fun z v hz=>?_) h4⟩
   ·rcases hw.2 with h|⟨g,cap,cur,hv,hg,r⟩
    ·exact .inl h
    ·exact .inr ⟨g,cap,cur,hv,hn g (by rw [hv];rfl),r⟩
   ·obtain ⟨q1,⟨us,hu,hr⟩,q3⟩:=hin i x hx
    refine ⟨[inner i],rfl,⟨_,rfl,row_data (k:=.b e) (F:=fun _=>False) hu hr (fun _ h=>h.elim) fun b hb=>?_⟩,fun j u hj=>?_⟩
    ·exact ⟨.inr ⟨(q3 b hb).1,(hu.lt b (blk_own hu hb)).2⟩,(q3 b hb).2.1⟩
    ·cases j with
     | zero=>simp only [List.getElem?_cons_zero,Option.some.injEq] at hj;subst hj;simpa using q1
     | succ j=>simp at hj
   ·cases z with
    | d x=>exact DC.mono (ext_sub fun b hb=>⟨hb.1,hb.2.1⟩) hz
    | own l ver=>exact hz
    | ptr l ver i j=>exact hz
    | sub l ver off n=>exact hz
  ·exact h
theorem call_okX (H:Here P c N F ρ own slots a w) {cl:Call} {g:Operand} (hcl:cl.callee=.value g) {f:FuncId} {caps:List D} (hg:evA slots g=.one (.d (.clo f caps))) {r:RV}
  (h:acall c own f (evL (evA slots) cl.args.toList ++ capsOf caps)=.ok p r) (hp:p) (ho:o.op=.call cl) {K:Act→World→Prop}
  (hK:∀ v w',Below w.heap.size w w'→RetX w w' F (dpOf c f) r v→K (a.put o.dst v) w'):o.wp P a w K Q:=by
 unfold acall at h
 split at h
 ·cases h
 ·rename_i con hcon
  obtain ⟨hs,fn,hfn,hname,hbody⟩:=H.cfg.con f con hcon
  split at h
  ·cases h
  ·rename_i pv args' b hv
   split at h
   ·cases h
   ·rename_i x hx
    have hclo:DC w F (.clo f caps) (a.eval g):=H.ev' hg
    generalize hge:a.eval g=vg at hclo
    cases hclo with
    | clo us hul hus=>
     have hpv:pv∧con.pre x∧(b=true→flatR con.dp (con.res x)=true)∧con.res x=r:=by
      split at h
      ·injection h with h1 h2
       subst h1
       exact ⟨hp.1,hp.2.1,fun _=>hp.2.2,h2⟩
      ·injection h with h1 h2
       subst h1
       exact ⟨hp.1,hp.2,fun hb=>by simp_all,h2⟩
     obtain ⟨hpv,hpre,hflat,rfl⟩:=hpv
     have hargs:∀ (j:Nat) x v,(evL (evA slots) cl.args.toList ++ capsOf caps)[j]?=some x→(cl.args.toList.map a.eval ++ us)[j]?=some v→AVC w F ρ own x v:=by
      intro j x v hx hv
      have hlen:(evL (evA slots) cl.args.toList).length=(cl.args.toList.map a.eval).length:=by simp [evL]
      by_cases hj:j < (cl.args.toList.map a.eval).length
      ·rw [List.getElem?_append_left (by omega)] at hx
       rw [List.getElem?_append_left hj] at hv
       exact evL_ok H _ j x v hx hv
      ·rw [List.getElem?_append_right (by omega),capsOf_get,hlen] at hx
       rw [List.getElem?_append_right (by omega)] at hv
       cases hc:caps[j - (cl.args.toList.map a.eval).length]? with
       | none=>rw [hc] at hx;cases hx
       | some d=>
        rw [hc] at hx
        simp only [Option.map_some,Option.some.injEq] at hx
        subst hx
        exact hus _ d v hc hv
     obtain ⟨hl',hvs⟩:=views_ok H.mem hv hpv (vs:=cl.args.toList.map a.eval ++ us) (by simp [evL,capsOf_len,hul]) hargs
     have hcall:=hs w (viewF w F b) args' (cl.args.toList.map a.eval ++ us) x hx hpre (fun n hn=>hn.elim (H.mem.fin n) (fun h=>h.2))
      (by rw [hl'];simp [evL,capsOf_len,hul]) (fun j y v hy hv=>hvs noRho deadOwn j y v hy hv)
     unfold Oper.wp
     have hrun:(execOp a.eval o).run P w=.ok (.enter f (cl.args.toList.map a.eval ++ us).toArray) w:=by
      have hargs':(cl.args.map a.eval) ++ us.toArray=(cl.args.toList.map a.eval ++ us).toArray:=by
       apply Array.ext';simp
      have hname' : ¬ fn.name = "runtime.NumGoroutine" := by simpa using hname
      have hbody':¬ fn.body=none:=by intro h;rw [h] at hbody;cases hbody
      simp [execOp,ho,resolve,hcl,hge,Deferred.ofValue,invoke,callFunc,hfn,hargs']
      rw [if_neg hname',if_neg hbody']
     rw [hrun]
     refine hcall.mono fun e w' he=>?_
     obtain ⟨v,rfl,hbel,hret⟩:=he
     refine hK v w' hbel ?_
     have hdp:dpOf c f=con.dp:=by unfold dpOf;rw [hcon]
     rw [hdp]
     cases b with
     | false=>
      have e:viewF w F false=F:=by funext n;simp [viewF]
      rw [e] at hret
      exact hret
     | true=>
      have hf:=hflat rfl
      unfold flatR at hf
      simp only [Bool.and_eq_true] at hf
      have plain:∀ {r:RV},(flat r.av && match r.row with|none=>true|some R=>R.k.base)=true→RetC w w' (viewF w F true) r v→RetC w w' F r v:=by
       intro r hf hret
       simp only [Bool.and_eq_true] at hf
       unfold RetC at hret ⊢
       split at hret
       ·rename_i hrow
        exact flat_any (fun z v h1 h2=>retCell_flat h1 h2) hf.1 hret
       ·rename_i R hrow
        obtain ⟨s,vs,h1,h2,h3,h4⟩:=hret
        rw [hrow] at hf
        refine ⟨s,vs,h1,⟨h2.1,fun i x hx=>?_⟩,h3,flat_any (fun z v h1 h2=>retCell_flat h1 h2) hf.1 h4⟩
        obtain ⟨us,u1,u2,u3⟩:=h2.2 i x hx
        refine ⟨us,u1,?_,u3⟩
        obtain ⟨ty,nl,k,xs⟩:=R
        cases k with
        | b e=>exact u2
        | s e=>cases hf.2
      unfold RetX at hret ⊢
      generalize con.dp=dp at hf hret
      generalize con.res x=r at hf hret
      obtain ⟨av,row⟩:=r
      cases dp with
      | none=>
       refine plain ?_ hret
       simp only [hf.1,Bool.true_and]
       cases row with
       | none=>rfl
       | some R=>simpa using hf.2
      | some ety=>
       simp only at hret ⊢
       unfold RetD at hret ⊢
       cases row with
       | none=>exact plain (by simp only [hf.1,Bool.true_and]) hret
       | some R=>
        obtain ⟨ty,nl,k,xs⟩:=R
        cases k with
        | b e=>exact plain (by simp only [hf.1,Bool.true_and];rfl) hret
        | s e=>
         obtain ⟨s,inner,h1,h2,h3⟩:=hret
         exact ⟨s,inner,h1,h2,flat_any (fun z v h1 h2=>retCell_flat h1 h2) hf.1 h3⟩
theorem call_ok (H:Here P c N F ρ own slots a w) {cl:Call} {g:Operand} (hcl:cl.callee=.value g) {f:FuncId} {caps:List D} (hg:evA slots g=.one (.d (.clo f caps))) {r:RV}
  (h:acall c own f (evL (evA slots) cl.args.toList ++ capsOf caps)=.ok p r) (hp:p) (ho:o.op=.call cl) {K:Act→World→Prop}
  (hK:∀ v w',Below w.heap.size w w'→RetC w w' F r v→K (a.put o.dst v) w'):o.wp P a w K Q:=
 call_okX H hcl hg h hp ho fun v w' hb hr=>hK v w' hb (retX_plain hr)
theorem ret_data {w w':World} {F:Nat→Prop} {r:RV} {v:Value} (h:RetC w w' F r v) (ρ:Nat→Value) (own:Nat→Loc):AVC w' (fun b=>F b∨(w.heap.size≤b∧b < w'.heap.size)) ρ own r.data v:=by
 unfold RetC at h
 unfold RV.data
 split at h
 ·rename_i hrow
  try rw [hrow]
  refine AVG.imp (fun z v hz=>?_) h
  cases z with
  | d x=>exact hz
  | own l ver=>cases hz
  | ptr l ver i j=>exact hz.elim
  | sub l ver off n=>exact hz.elim
 ·rename_i R hrow
  try rw [hrow]
  obtain ⟨s,vs,h1,h2,h3,h4⟩:=h
  refine AVG.ren (fun z v hz=>?_) h4
  cases z with
  | d x=>exact DC.mono (ext_sub fun b hb=>hb.1) hz
  | own l ver=>
   injection hz with hz
   subst hz
   have hlt:=fun b hb=>h1.lt b (blk_own h1 hb)
   exact DC.sl h3 (row_data h1 h2 (fun b hb=>hb.1) fun b hb=>.inr (hlt b hb))
  | ptr l ver i j=>exact hz.elim
  | sub l ver off n=>exact hz.elim
theorem evL_cons {ev:Operand→AV} {l:List Operand} {y:AV} {ys:List AV} (h:evL ev l=y :: ys):∃ x xs,l=x :: xs∧ev x=y∧evL ev xs=ys:=by
 cases l with
 | nil=>simp [evL] at h
 | cons x xs=>
  simp only [evL,List.map_cons,List.cons.injEq] at h
  exact ⟨x,xs,rfl,h.1,h.2⟩
theorem evL_nil {ev:Operand→AV} {l:List Operand} (h:evL ev l=[]):l=[]:=by
 cases l with
 | nil=>rfl
 | cons x xs=>simp [evL] at h
theorem arr_of_list {α:Type} {xs:Array α} {l:List α} (h:xs.toList=l):xs=l.toArray:=by cases xs;simpa using h
theorem s_call (H:Here P c N F ρ own slots a w) {cl:Call} (ho:o.op=.call cl) (h:aval c (evA slots) own (.call cl)=.ok p y) (hp:p):Yield P o a w F ρ own y Q:=by
 dsimp only [aval] at h
 split at h
 ·rename_i hcl
  split at h
  ·rename_i t ts hat
   split at h
   ·rename_i sz z e k b zz hty
    have hu:P.underlying t=some (.slice e):=(H.cfg.ty _ _ hty).2.2.2.2.1
    have hat':cl.argTypes[0]?=some t:=by rw [arr_of_list hat];rfl
    have fin:∀ {x:Operand} {pa:Option Addr} {n cap:Nat},cl.args.toList=[x]→a.eval x=.slice pa n cap→Yield P o a w F ρ own (.one (.d (.int .i64 n))) Q:=by
     intro x pa n cap hx he
     refine Yield.pure (u:=.int .i64 n) ?_ (DC.int _ _)
     simp [execOp,ho,resolve,hcl,invoke,builtin,Builtin.len_,hat',arr_of_list hx,run_und hu,he,goInt]
    split at h
    ·rename_i nl k' xs hev
     injection h with e1 e2
     subst e2
     obtain ⟨x,r,hx,hxe,hr⟩:=evL_cons hev
     rw [evL_nil hr] at hx
     have hd:DC w F (.sl nl k' xs) (a.eval x):=H.ev' hxe
     generalize he:a.eval x=v at hd
     cases hd with
     | sl _ hs=>
      rcases hs with ⟨rfl,rfl⟩|⟨ad,cap,rfl,_⟩
      ·exact fin hx he
      ·exact fin hx he
    ·rename_i hev
     injection h with e1 e2
     subst e2
     obtain ⟨x,r,hx,hxe,hr⟩:=evL_cons hev
     rw [evL_nil hr] at hx
     exact fin hx (H.nil hxe)
    ·rename_i l ver hev
     split at h
     ·rename_i ver' ty k' xs hl
      injection h with e1 e2
      subst e1;subst e2
      obtain ⟨x,r,hx,hxe,hr⟩:=evL_cons hev
      rw [evL_nil hr] at hx
      have hd:CellC w F ρ own (.own l ver) (a.eval x):=H.ev' hxe
      have he:=hd.2.2 ⟨by rw [hl];exact hp.symm,by rw [hl];trivial⟩
      have hok:=H.mem.ok l
      rw [hl] at hok
      obtain ⟨vs,hw,_⟩:=hok
      rcases hw.2 with ⟨hs,hn⟩|⟨g,cap,cur,hs,_⟩
      ·rw [hs] at he
       rw [hn]
       exact fin hx he
      ·rw [hs] at he
       exact fin hx he
     ·rename_i ver' ty k' xs hl
      injection h with e1 e2
      subst e1;subst e2
      obtain ⟨x,r,hx,hxe,hr⟩:=evL_cons hev
      rw [evL_nil hr] at hx
      have hd:CellC w F ρ own (.own l ver) (a.eval x):=H.ev' hxe
      have he:=hd.2.2 ⟨by rw [hl];exact hp.symm,by rw [hl];trivial⟩
      have hok:=H.mem.ok l
      rw [hl] at hok
      obtain ⟨vs,⟨g,off,cap,cur,hs,_⟩,_⟩:=hok
      rw [hs] at he
      exact fin hx he
     ·rename_i ver' ty ety ee xs gg hl
      injection h with e1 e2
      subst e1;subst e2
      obtain ⟨x,r,hx,hxe,hr⟩:=evL_cons hev
      rw [evL_nil hr] at hx
      have hd:CellC w F ρ own (.own l ver) (a.eval x):=H.ev' hxe
      have he:=hd.2.2 ⟨by rw [hl];exact hp.symm,by rw [hl];trivial⟩
      have hok:=H.mem.ok l
      rw [hl] at hok
      obtain ⟨vs,hw,_⟩:=hok
      rcases hw.2 with ⟨hs,hn⟩|⟨g,cap,cur,hs,_⟩
      ·rw [hs] at he
       rw [hn]
       exact fin hx he
      ·rw [hs] at he
       exact fin hx he
     ·cases h
    ·rename_i l ver off m hev
     split at h
     ·rename_i ver' ty k' xs hl
      injection h with e1 e2
      subst e1;subst e2
      obtain ⟨x,r,hx,hxe,hr⟩:=evL_cons hev
      rw [evL_nil hr] at hx
      have hd:CellC w F ρ own (.sub l ver off m) (a.eval x):=H.ev' hxe
      obtain ⟨b,cp,_,_,he⟩:=(hd.2.2 (by rw [hl];exact hp.symm)).1 ty k' xs (by rw [hl])
      exact fin hx he
     ·rename_i ver' ty ety ee xs gg hl
      injection h with e1 e2
      subst e1;subst e2
      obtain ⟨x,r,hx,hxe,hr⟩:=evL_cons hev
      rw [evL_nil hr] at hx
      have hd:CellC w F ρ own (.sub l ver off m) (a.eval x):=H.ev' hxe
      have hxx:=getD_some (d:=[]) hp.2.1
      have he:=(hd.2.2 (by rw [hl];exact hp.1.symm)).2 ty ety ee xs gg _ (by rw [hl]) hxx hp.2.2
      have hok:=H.mem.ok l
      rw [hl] at hok
      obtain ⟨vs,_,_,_,hin⟩:=hok
      obtain ⟨q1,⟨us,hw,_⟩,q3⟩:=hin off _ hxx hp.2.2.1
      rcases hw.2 with ⟨hs,hn⟩|⟨g,cap,cur,hs,_⟩
      ·rw [hs] at he
       rw [hn]
       exact fin hx he
      ·rw [hs] at he
       exact fin hx he
     ·cases h
    ·cases h
   ·cases h
  ·cases h
 ·rename_i hcl
  split at h
  ·rename_i m n hev
   injection h with e1 e2
   subst e2
   obtain ⟨x1,r,hx,h1,hr⟩:=evL_cons hev
   obtain ⟨x2,r,rfl,h2,hr⟩:=evL_cons hr
   rw [evL_nil hr] at hx
   refine Yield.pure (u:=.int .i64 (min m n)) ?_ (DC.int _ _)
   simp [execOp,ho,resolve,hcl,invoke,builtin,Builtin.min_,Builtin.min2,arr_of_list hx,H.int h1,H.int h2]
   omega
  ·rename_i m n q hev
   injection h with e1 e2
   subst e2
   obtain ⟨x1,r,hx,h1,hr⟩:=evL_cons hev
   obtain ⟨x2,r,rfl,h2,hr⟩:=evL_cons hr
   obtain ⟨x3,r,rfl,h3,hr⟩:=evL_cons hr
   rw [evL_nil hr] at hx
   refine Yield.pure (u:=.int .i64 (min (min m n) q)) ?_ (DC.int _ _)
   simp [execOp,ho,resolve,hcl,invoke,builtin,Builtin.min_,Builtin.min2,arr_of_list hx,H.int h1,H.int h2,H.int h3]
   split <;> split <;> omega
  ·cases h
 ·rename_i hcl
  split at h
  ·rename_i m n hev
   injection h with e1 e2
   subst e2
   obtain ⟨x1,r,hx,h1,hr⟩:=evL_cons hev
   obtain ⟨x2,r,rfl,h2,hr⟩:=evL_cons hr
   rw [evL_nil hr] at hx
   refine Yield.pure (u:=.int .i64 (max m n)) ?_ (DC.int _ _)
   simp [execOp,ho,resolve,hcl,invoke,builtin,Builtin.max_,Builtin.max2,arr_of_list hx,H.int h1,H.int h2]
   omega
  ·rename_i m n q hev
   injection h with e1 e2
   subst e2
   obtain ⟨x1,r,hx,h1,hr⟩:=evL_cons hev
   obtain ⟨x2,r,rfl,h2,hr⟩:=evL_cons hr
   obtain ⟨x3,r,rfl,h3,hr⟩:=evL_cons hr
   rw [evL_nil hr] at hx
   refine Yield.pure (u:=.int .i64 (max (max m n) q)) ?_ (DC.int _ _)
   simp [execOp,ho,resolve,hcl,invoke,builtin,Builtin.max_,Builtin.max2,arr_of_list hx,H.int h1,H.int h2,H.int h3]
   split <;> split <;> omega
  ·cases h
 ·rename_i g hcl
  split at h
  ·rename_i f caps hg
   unfold VR.bind at h
   split at h
   ·cases h
   ·rename_i p' r hac
    injection h with e1 e2
    subst e1;subst e2
    refine call_ok H hcl hg hac hp.1 ho fun v w' hb hret=>⟨v,_,rfl,hb,fun b hb=>.inl hb,fun b hb=>hb,ret_data hret ρ own⟩
  ·cases h
 ·cases h
theorem s_val (H:Here P c N F ρ own slots a w) (h:aval c (evA slots) own o.op=.ok p y) (hp:p):Yield P o a w F ρ own y Q:=by
 generalize ho:o.op=op at h
 cases op with
 | move x=>injection h with e1 e2;subst e2;exact s_move H (.inl ho)
 | assign x=>injection h with e1 e2;subst e2;exact s_move H (.inr ho)
 | pick q x z=>exact s_pick H ho h hp
 | box t x=>exact s_box H ho h
 | load t x=>exact s_load H ho h hp
 | nilCheck x=>exact s_nilCheck H ho h hp
 | fieldAddr s x f=>exact s_fieldAddr H ho h hp
 | field s x f=>exact s_field H ho h
 | indexAddr t x i=>exact s_indexAddr H ho h hp
 | binOp op t x z t'=>exact s_binOp H ho h hp
 | unOp op t x=>exact s_unOp H ho h
 | convert s d x=>exact s_convert H ho h
 | extract x i=>exact s_extract H ho h
 | makeFunc fn f cs=>exact s_makeFunc H ho h
 | build t ps=>exact s_build H ho h
 | buildSlice t n ps=>exact s_buildSlice H ho h
 | slice t x lo hi mx=>
  cases mx with
  | none=>exact s_slice H ho h hp
  | some m=>cases lo with
   | some l=>cases hi <;> cases h
   | none=>cases hi with
    | none=>cases h
    | some i=>exact s_sliceF H ho h hp
 | call cl=>exact s_call H ho h hp
 | _=>cases h
end
end Go.Proofs.YtpafacebfogkmaaGreat
