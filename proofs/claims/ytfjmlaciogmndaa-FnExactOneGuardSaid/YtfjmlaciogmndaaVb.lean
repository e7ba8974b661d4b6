/- The abstract run: operations, regions and code over abstract states. -/
import Derived.Test.YtfjmlaciogmndaaVa
namespace Go.Proofs.Ytfjmlaciogmndaa
open Go.RowKit

/-! ### Types -/
inductive ZK where
  | int (k : IntKind)
  | bool
  | nil
def ZK.v : ZK → Value
  | .int k => .int k 0
  | .bool => .bool false
  | .nil => .slice none 0 0
def ZK.c : ZK → Cell
  | .int k => .d (.int k 0)
  | .bool => .d (.bool false)
  | .nil => .d .nil

inductive TK where
  | int (k : IntKind)
  | bool
  | slice (e : TypeId) (k : ElK) (bytes : Nat) (zero : List ZK)
  | struct (fs : List (Nat × Nat × Bool)) (eqp : Bool)
  | other

structure TI where
  size : Nat
  zero : List ZK
  kind : TK

def TI.agg (i : TI) : Bool := match i.kind with | .struct _ _ => true | _ => false

/-! ### Contracts of callees -/
structure RowR where
  ty : TypeId
  nl : Option Bool
  k : ElK
  xs : List k.T

structure RV where
  av : AV
  row : Option RowR

structure Con where
  X : Type
  pat : List AV → Option X
  pre : X → Prop
  res : X → RV
  /-- Where the result is a row of rows, each of them new: the type of the elements of the inner rows. -/
  dp : Option TypeId

def RV.val (x : AV) : RV := ⟨x, none⟩

/-- What a callee does to the row of one of its arguments: its elements then; whether the result is the row's new (shorter) value. -/
structure WR where
  k : ElK
  ys : List k.T
  trunc : Bool

/-- A contract of a callee that writes the row of its argument 'wi'. -/
structure ConW where
  X : Type
  pat : List AV → Option X
  pre : X → Prop
  wi : Nat
  ty : TypeId
  av : X → AV
  out : X → WR

/-- A contract of a callee that writes the inner rows of its argument 'wi', a row of rows of whole numbers. -/
structure ConD where
  X : Type
  pat : List AV → Option X
  pre : X → Prop
  wi : Nat
  ty : TypeId
  ety : TypeId
  av : X → AV
  out : X → List (List Int)

/-- How a body is run: types, contracts, the slots whose memory is written or grown; contracts of callees that write; the slots of loads that look at no movable place; whether all own places are new. -/
structure Cfg where
  ty : TypeId → Option TI
  con : FuncId → Option Con
  wr : Nat → Bool
  fr : Nat → Bool
  conw : FuncId → Option ConW
  sp : Nat → Bool
  pure : Bool
  sw : Nat → Bool
  dp : Nat → Bool
  cond : FuncId → Option ConD

/-! ### Operands -/
def absCell : Value → Option Cell
  | .int k n => some (.d (.int k n))
  | .bool b => some (.d (.bool b))
  | .slice none 0 0 => some (.d .nil)
  | _ => none
def absCells : List Value → Option (List Cell)
  | [] => some []
  | v :: r => match absCell v, absCells r with
    | some c, some cs => some (c :: cs)
    | _, _ => none
def absV : Value → AV
  | .agg cs => match absCells cs.toList with
    | some l => .agg l
    | none => .junk
  | v => match absCell v with
    | some c => .one c
    | none => .junk

def evA (slots : Nat → AV) : Operand → AV
  | .tmp t => slots t
  | .const v => absV v
  | .func f => .one (.d (.clo f []))
  | .global _ => .junk

/-! ### What a step yields, and under what condition -/
inductive VR (α : Type) where
  | no
  | ok (p : Prop) (x : α)
def VR.run {α : Type} (r : VR α) (K : α → Prop) : Prop := match r with | .no => False | .ok p x => p ∧ K x
def VR.bind {α β : Type} (r : VR α) (f : α → VR β) : VR β := match r with
  | .no => .no
  | .ok p x => match f x with
    | .no => .no
    | .ok q y => .ok (p ∧ q) y

/-! ### Small steps on cells -/
def takeC : Nat → List Cell → Option (List Cell)
  | 0, _ => some []
  | _ + 1, [] => none
  | n + 1, c :: cs => match takeC n cs with
    | some l => some (c :: l)
    | none => none

def loadC (i : TI) (cs : List Cell) (p : Prop) : VR AV :=
  match i.agg with
  | true => match takeC i.size cs with
    | some l => .ok p (.agg l)
    | none => .no
  | false => match cs with
    | c :: _ => .ok p (.one c)
    | [] => .no

def cells : AV → Option (List Cell)
  | .one c => some [c]
  | .agg cs => some cs
  | _ => none

def dOf : List Cell → Option (List D)
  | [] => some []
  | .d x :: cs => match dOf cs with
    | some l => some (x :: l)
    | none => none
  | _ :: _ => none

def putCells : List Cell → Nat → List Cell → List Cell
  | cs, 0, [] => cs
  | _ :: cs, 0, x :: xs => x :: putCells cs 0 xs
  | [], _, _ => []
  | c :: cs, n + 1, xs => c :: putCells cs n xs

def ElB.beq : ElB → ElB → Bool
  | .int, .int | .bool, .bool | .pt, .pt | .wall, .wall | .tri, .tri => true
  | _, _ => false
def ElK.beq : ElK → ElK → Bool
  | .b e, .b e' => ElB.beq e e'
  | .s e, .s e' => ElB.beq e e'
  | _, _ => false
theorem ElB.beq_eq {a b : ElB} (h : ElB.beq a b = true) : a = b := by cases a <;> cases b <;> first | rfl | cases h
theorem ElK.beq_eq {a b : ElK} (h : ElK.beq a b = true) : a = b := by
  cases a <;> cases b <;> first | (cases h; done) | (rw [ElB.beq_eq h])
theorem ElB.beq_self (a : ElB) : ElB.beq a a = true := by cases a <;> rfl

def kbeq : IntKind → IntKind → Bool
  | .i8, .i8 | .i16, .i16 | .i32, .i32 | .i64, .i64 | .u8, .u8 | .u16, .u16 | .u32, .u32 | .u64, .u64 => true
  | _, _ => false
theorem kbeq_eq {a b : IntKind} (h : kbeq a b = true) : a = b := by cases a <;> cases b <;> first | rfl | cases h

def AV.int (k : IntKind) (n : Int) : AV := .one (.d (.int k n))
def AV.bool (b : Bool) : AV := .one (.d (.bool b))

def arith (op : BinOp) (k : IntKind) (a b : Int) : VR AV :=
  match op with
  | .add => .ok True (.one (.d (.int k (k.wrap (a + b)))))
  | .sub => .ok True (.one (.d (.int k (k.wrap (a - b)))))
  | .mul => .ok True (.one (.d (.int k (k.wrap (a * b)))))
  | .quo => .ok (b ≠ 0) (.one (.d (.int k (k.wrap (a.tdiv b)))))
  | .rem => .ok (b ≠ 0) (.one (.d (.int k (a.tmod b))))
  | .eql => .ok True (.one (.d (.bool (a == b))))
  | .neq => .ok True (.one (.d (.bool (a != b))))
  | .lss => .ok True (.one (.d (.bool (decide (a < b)))))
  | .leq => .ok True (.one (.d (.bool (decide (a ≤ b)))))
  | .gtr => .ok True (.one (.d (.bool (decide (a > b)))))
  | .geq => .ok True (.one (.d (.bool (decide (a ≥ b)))))
  | _ => .no

def abin (ti : Option TI) (op : BinOp) (x y : AV) : VR AV :=
  match x, y with
  | .one (.d (.int k a)), .one (.d (.int k' b)) => match kbeq k k' with
    | true => arith op k a b
    | false => .no
  | .one (.d (.bool a)), .one (.d (.bool b)) => match ti with
    | some ⟨_, _, .bool⟩ => match op with
      | .eql => .ok True (.one (.d (.bool (a == b))))
      | .neq => .ok True (.one (.d (.bool (!(a == b)))))
      | _ => .no
    | _ => .no
  | .one (.d (.sl (some nl) _ _)), .one (.d .nil) => match ti with
    | some ⟨_, _, .slice ..⟩ => match op with
      | .eql => .ok True (.one (.d (.bool nl)))
      | .neq => .ok True (.one (.d (.bool (!nl))))
      | _ => .no
    | _ => .no
  | .one (.d .nil), .one (.d .nil) => match ti with
    | some ⟨_, _, .slice ..⟩ => match op with
      | .eql => .ok True (.one (.d (.bool true)))
      | .neq => .ok True (.one (.d (.bool false)))
      | _ => .no
    | _ => .no
  | .agg [.d (.int .i64 a1), .d (.int .i64 a2)], .agg [.d (.int .i64 b1), .d (.int .i64 b2)] => match ti with
    | some ⟨_, _, .struct _ true⟩ => match op with
      | .eql => .ok True (.one (.d (.bool (a1 == b1 && a2 == b2))))
      | .neq => .ok True (.one (.d (.bool (!(a1 == b1 && a2 == b2)))))
      | _ => .no
    | _ => .no
  | _, _ => .no

/-- An own row beside nil. -/
def nilOp : Operand → Bool
  | .const (.slice none _ _) => true
  | _ => false
def ownNil : AV → AV → Option (Nat × Nat)
  | .one (.own l ver), .one (.d .nil) => some (l, ver)
  | _, _ => none
theorem ownNil_some {x y : AV} {q : Nat × Nat} (h : ownNil x y = some q) : x = .one (.own q.1 q.2) ∧ y = .one (.d .nil) := by
  unfold ownNil at h
  split at h
  · injection h with h
    subst h
    exact ⟨rfl, rfl⟩
  · cases h
def nilAt (ti : Option TI) (op : BinOp) (ver : Nat) : Loc → VR AV
  | ⟨ver', .row _ _ xs⟩ => match ti with
    | some ⟨_, _, .slice ..⟩ => match op with
      | .eql => .ok (ver = ver' ∧ 0 < xs.length) (.one (.d (.bool false)))
      | .neq => .ok (ver = ver' ∧ 0 < xs.length) (.one (.d (.bool true)))
      | _ => .no
    | _ => .no
  | _ => .no

/-- Elements of a slice literal. -/
def setParts (size : Nat) : List (Nat × AV) → List (List Cell) → Option (List (List Cell))
  | [], l => some l
  | (i, x) :: r, l => match cells x with
    | some cs => match Nat.beq cs.length size && Nat.ble (i + 1) l.length with
      | true => setParts size r (l.set i cs)
      | false => none
    | none => none
def decAll (k : ElK) : List (List Cell) → Option (List k.T)
  | [] => some []
  | cs :: r => match k.dec cs, decAll k r with
    | some x, some xs => some (x :: xs)
    | _, _ => none
def elems (k : ElK) (zero : List Cell) (parts : List (Nat × AV)) (len : Nat) : Option (List k.T) :=
  match setParts k.size parts (List.replicate len zero) with
  | some l => decAll k l
  | none => none

def fillA (fs : List (Nat × Nat × Bool)) : List (Nat × AV) → List Cell → Option (List Cell)
  | [], cs => some cs
  | (i, x) :: r, cs => match fs[i]?, cells x with
    | some (off, sz, _), some xs => match Nat.beq xs.length sz && Nat.ble (off + sz) cs.length with
      | true => fillA fs r (putCells cs off xs)
      | false => none
    | _, _ => none

/-- No row was moved away. -/
def noG : Nat → Bool := fun _ => false
def allG (g : Nat → Bool) (n : Nat) : Prop := ∀ i, i < n → g i = false
theorem allG_no (n : Nat) : allG noG n := fun _ _ => rfl
def viewL (ver : Nat) : Loc → VR (Cell × Bool)
  | ⟨ver', .row _ k xs⟩ => .ok (ver = ver') (.d (.sl none k xs), true)
  | ⟨ver', .deep _ _ e xs g⟩ => .ok (ver = ver' ∧ allG g xs.length) (.d (.sl none (.s e) xs), true)
  | _ => .no
def viewI (ver off : Nat) : Loc → VR (Cell × Bool)
  | ⟨ver', .deep _ _ e xs g⟩ => .ok (ver = ver' ∧ off < xs.length ∧ g off = false) (.d (.sl none (.b e) (xs.getD off [])), true)
  | _ => .no
/-- What a callee is handed: own rows are looked at as data. -/
def viewC (own : Nat → Loc) (c : Cell) : VR (Cell × Bool) :=
  match c with
  | .d x => .ok True (.d x, false)
  | .own l ver => viewL ver (own l)
  | .ptr .. => .no
  | .sub l ver off _ => viewI ver off (own l)
def viewCs (own : Nat → Loc) : List Cell → VR (List Cell × Bool)
  | [] => .ok True ([], false)
  | c :: cs => match viewC own c, viewCs own cs with
    | .ok p (c', b), .ok q (cs', b') => .ok (p ∧ q) (c' :: cs', b || b')
    | _, _ => .no
def view (own : Nat → Loc) (x : AV) : VR (AV × Bool) :=
  match x with
  | .one c => match viewC own c with
    | .ok p (c', b) => .ok p (.one c', b)
    | .no => .no
  | .agg cs => match viewCs own cs with
    | .ok p (cs', b) => .ok p (.agg cs', b)
    | .no => .no
  | _ => .no
def views (own : Nat → Loc) : List AV → VR (List AV × Bool)
  | [] => .ok True ([], false)
  | x :: xs => match view own x, views own xs with
    | .ok p (x', b), .ok q (xs', b') => .ok (p ∧ q) (x' :: xs', b || b')
    | _, _ => .no

/-- No address in it. -/
def flatC : Cell → Bool
  | .d (.int ..) | .d (.bool _) | .d .nil => true
  | .own .. => true
  | _ => false
def flatCs : List Cell → Bool
  | [] => true
  | c :: cs => flatC c && flatCs cs
def flatS : Cell ⊕ List Cell → Bool
  | .inl c => flatC c
  | .inr cs => flatCs cs
def flatT : List (Cell ⊕ List Cell) → Bool
  | [] => true
  | c :: cs => flatS c && flatT cs
def flat : AV → Bool
  | .one c => flatC c
  | .agg cs => flatCs cs
  | .tup xs => flatT xs
  | .junk => true

/-- The callee's new row gets its place (or is looked at as data). -/
def renC (g : Cell) : Cell → Cell
  | .own _ _ => g
  | c => c
def renS (g : Cell) : Cell ⊕ List Cell → Cell ⊕ List Cell
  | .inl c => .inl (renC g c)
  | .inr cs => .inr (cs.map (renC g))
def ren (g : Cell) : AV → AV
  | .one c => .one (renC g c)
  | .agg cs => .agg (cs.map (renC g))
  | .tup xs => .tup (xs.map (renS g))
  | .junk => .junk

/-- The result where the new row is looked at as data. -/
def RV.data (r : RV) : AV :=
  match r.row with
  | none => r.av
  | some R => ren (.d (.sl R.nl R.k R.xs)) r.av

def ElK.base : ElK → Bool
  | .b _ => true
  | .s _ => false
def flatR (dp : Option TypeId) (r : RV) : Bool := flat r.av && match r.row with | none => true | some R => R.k.base || dp.isSome

def acall (c : Cfg) (own : Nat → Loc) (f : FuncId) (args : List AV) : VR RV :=
  match c.con f with
  | none => .no
  | some con => match views own args with
    | .no => .no
    | .ok p (args', b) => match con.pat args' with
      | none => .no
      | some x => match b with
        | true => .ok (p ∧ con.pre x ∧ flatR con.dp (con.res x) = true) (con.res x)
        | false => .ok (p ∧ con.pre x) (con.res x)

def capsOf : List D → List AV
  | [] => []
  | x :: xs => .one (.d x) :: capsOf xs

def dsOf : List AV → Option (List D)
  | [] => some []
  | .one (.d x) :: r => match dsOf r with
    | some l => some (x :: l)
    | none => none
  | _ :: _ => none

def evL (ev : Operand → AV) (xs : List Operand) : List AV := xs.map ev

def asSl : AV → Option (Option Bool × Σ k : ElK, List k.T)
  | .one (.d (.sl nl k xs)) => some (nl, ⟨k, xs⟩)
  | _ => none

def boundI (x : Option AV) (d : Int) : Option Int :=
  match x with
  | none => some d
  | some (.one (.d (.int _ n))) => some n
  | _ => none

def castBB : (e e' : ElB) → List (List e'.T) → Option (List (List e.T))
  | .int, .int, xs => some xs
  | .bool, .bool, xs => some xs
  | .pt, .pt, xs => some xs
  | .wall, .wall, xs => some xs
  | .tri, .tri, xs => some xs
  | _, _, _ => none
theorem castBB_ok {k k' : ElB} {xs : List (List k'.T)} {ys : List (List k.T)} (h : castBB k k' xs = some ys) : ∃ e : k' = k, e ▸ xs = ys := by
  unfold castBB at h
  split at h <;> first | (injection h with h; subst h; exact ⟨rfl, rfl⟩) | cases h

/-- Operations that write no memory of the call's own: what they yield. -/
def aval (c : Cfg) (ev : Operand → AV) (own : Nat → Loc) (op : Op) : VR AV :=
  match op with
  | .move x | .assign x => .ok (True) (ev x)
  | .pick p a b => match ev p, ev a, ev b with
    | .one (.d (.bool p)), .one (.d (.bool x)), .one (.d (.bool y)) => .ok (True) (.one (.d (.bool (bif p then x else y))))
    | .one (.d (.bool p)), .junk, y => .ok (p = false) y
    | .one (.d (.bool p)), .tup _, y => .ok (p = false) y
    | .one (.d (.bool p)), x, .junk => .ok (p = true) x
    | .one (.d (.bool p)), x, .tup _ => .ok (p = true) x
    | _, _, _ => .no
  | .box _ x => match cells (ev x) with
    | some cs => match dOf cs with
      | some ds => .ok (True) (.one (.d (.ptr ds)))
      | none => .no
    | none => .no
  | .load t x => match c.ty t, ev x with
    | some i, .one (.d (.ptr ds)) => loadC i (ds.map .d) True
    | some i, .one (.ptr l ver ix j) => match own l with
      | ⟨ver', .box _ cs⟩ => loadC i (cs.drop j) (ver = ver')
      | ⟨ver', .row _ k xs⟩ => loadC i (((k.enc (xs.getD ix k.dflt)).map .d).drop j) (ver = ver' ∧ ix < xs.length)
      | ⟨ver', .tail _ k xs⟩ => loadC i (((k.enc (xs.getD ix k.dflt)).map .d).drop j) (ver = ver' ∧ ix < xs.length)
      | ⟨ver', .deep _ _ e xs g⟩ => match j with
        | 0 => loadC i [.sub l ver ix 0] (ver = ver' ∧ ix < xs.length ∧ g ix = false)
        | m + 1 => match castBB .int e xs with
          | some ys => loadC i [.d (.int .i64 ((ys.getD ix []).getD m 0))] (ver = ver' ∧ ix < ys.length ∧ g ix = false ∧ m < (ys.getD ix []).length)
          | none => .no
      | _ => .no
    | _, _ => .no
  | .fieldAddr s x f => match c.ty s with
    | some ⟨_, _, .struct fs _⟩ => match fs[f]? with
      | some (off, sz, _) => match Nat.beq sz 0 with
        | true => .no
        | false => match ev x with
          | .one (.d (.ptr ds)) => match Nat.ble off ds.length with
            | true => .ok True (.one (.d (.ptr (ds.drop off))))
            | false => .no
          | .one (.ptr l ver ix j) => match own l with
            | ⟨_, .dead⟩ => .no
            | ⟨_, .deep ..⟩ => .no
            | ⟨ver', _⟩ => .ok (ver = ver') (.one (.ptr l ver ix (j + off)))
          | _ => .no
      | none => .no
    | _ => .no
  | .field s x f => match c.ty s with
    | some ⟨_, _, .struct fs _⟩ => match fs[f]?, ev x with
      | some (off, sz, ag), .agg cs => match ag with
        | true => match Nat.beq sz 0, takeC sz (cs.drop off) with
          | false, some l => .ok (True) (.agg l)
          | _, _ => .no
        | false => match cs.drop off with
          | y :: _ => .ok (True) (.one y)
          | [] => .no
      | _, _ => .no
    | _ => .no
  | .indexAddr t x i => match c.ty t with
    | some ⟨_, _, .slice _ k _ _⟩ => match ev x, ev i with
      | .one (.d (.sl _ k' xs)), .one (.d (.int _ n)) => match ElK.beq k k' with
        | true => .ok ((0 ≤ n ∧ n < (xs.length : Int))) (.one (.d (.ptr (k'.enc (xs.getD n.toNat k'.dflt)))))
        | false => .no
      | .one (.own l ver), .one (.d (.int _ n)) => match own l with
        | ⟨ver', .row _ k' xs⟩ => match ElK.beq k k' with
          | true => .ok (ver = ver' ∧ (0 ≤ n ∧ n < (xs.length : Int))) (.one (.ptr l ver n.toNat 0))
          | false => .no
        | ⟨ver', .tail _ k' xs⟩ => match ElK.beq k k' with
          | true => .ok (ver = ver' ∧ (0 ≤ n ∧ n < (xs.length : Int))) (.one (.ptr l ver n.toNat 0))
          | false => .no
        | ⟨ver', .deep _ _ e xs _⟩ => match ElK.beq k (.s e) with
          | true => .ok (ver = ver' ∧ (0 ≤ n ∧ n < (xs.length : Int))) (.one (.ptr l ver n.toNat 0))
          | false => .no
        | _ => .no
      | .one (.sub l ver off m), .one (.d (.int _ n)) => match own l with
        | ⟨ver', .row _ k' xs⟩ => match ElK.beq k k' with
          | true => .ok (ver = ver' ∧ (0 ≤ n ∧ n < (m : Int)) ∧ off + m ≤ xs.length) (.one (.ptr l ver (off + n.toNat) 0))
          | false => .no
        | ⟨ver', .deep _ _ e xs g⟩ => match ElK.beq k (.b .int), ElB.beq e .int with
          | true, true => .ok (ver = ver' ∧ (off < xs.length ∧ g off = false) ∧ (0 ≤ n ∧ n < ((xs.getD off []).length : Int))) (.one (.ptr l ver off (n.toNat + 1)))
          | _, _ => .no
        | _ => .no
      | _, _ => .no
    | _ => .no
  | .binOp op t x y _ => match nilOp y with
    | true => match ownNil (ev x) (ev y) with
      | some q => nilAt (c.ty t) op q.2 (own q.1)
      | none => abin (c.ty t) op (ev x) (ev y)
    | false => abin (c.ty t) op (ev x) (ev y)
  | .unOp op _ x => match op, ev x with
    | .neg, .one (.d (.int k n)) => .ok (True) (.one (.d (.int k (k.wrap (0 - n)))))
    | .not, .one (.d (.bool b)) => .ok (True) (.one (.d (.bool (!b))))
    | _, _ => .no
  | .convert src dst x => match c.ty src, c.ty dst, ev x with
    | some _, some ⟨_, _, .int k⟩, .one (.d (.int _ n)) => .ok (True) (.one (.d (.int k (k.wrap n))))
    | _, _, _ => .no
  | .extract x i => match ev x with
    | .tup xs => match xs[i]? with
      | some (.inl y) => .ok (True) (.one y)
      | some (.inr ys) => .ok (True) (.agg ys)
      | none => .no
    | _ => .no
  | .makeFunc fn first caps => match fn, first.toList, dsOf (evL ev caps.toList) with
    | .func f, [], some ds => .ok (True) (.one (.d (.clo f ds)))
    | _, _, _ => .no
  | .build t parts => match c.ty t with
    | some ⟨_, z, .struct fs _⟩ => match fillA fs (parts.toList.map fun p => (p.1, ev p.2)) (z.map ZK.c) with
      | some cs => .ok (True) (.agg cs)
      | none => .no
    | _ => .no
  | .buildSlice t len parts => match c.ty t with
    | some ⟨_, _, .slice _ k _ z⟩ => match Nat.ble len 1024, elems k (z.map ZK.c) (parts.toList.map fun p => (p.1, ev p.2)) len with
      | true, some xs => .ok (True) (.one (.d (.sl (some false) k xs)))
      | _, _ => .no
    | _ => .no
  | .slice t x lo hi none => match c.ty t, asSl (ev x) with
    | some ⟨_, _, .slice _ k' _ _⟩, some (nl, ⟨k, xs⟩) => match ElK.beq k' k, boundI (lo.map ev) 0, boundI (hi.map ev) xs.length with
      | true, some l, some h => .ok ((0 ≤ l ∧ l ≤ h ∧ h ≤ (xs.length : Int))) (.one (.d (.sl nl k ((xs.take h.toNat).drop l.toNat))))
      | _, _, _ => .no
    | some ⟨_, _, .slice _ k' _ _⟩, none => match ev x with
      | .one (.own l ver) => match own l with
        | ⟨ver', .row _ k xs⟩ => match ElK.beq k' k, boundI (lo.map ev) 0, boundI (hi.map ev) xs.length with
          | true, some a, some b => .ok (ver = ver' ∧ (0 ≤ a ∧ a < b ∧ b ≤ (xs.length : Int))) (.one (.sub l ver a.toNat (b.toNat - a.toNat)))
          | _, _, _ => .no
        | _ => .no
      | _ => .no
    | _, _ => .no
  | .slice t x none (some hi) (some mx) => match c.ty t, asSl (ev x), ev hi, ev mx with
    | some ⟨_, _, .slice _ k' _ _⟩, some (_, ⟨k, xs⟩), .one (.d (.int _ h)), .one (.d (.int _ m)) => match ElK.beq k' k with
      | true => .ok ((0 ≤ h ∧ h ≤ (xs.length : Int)) ∧ m = h) (.one (.d (.full k (xs.take h.toNat))))
      | false => .no
    | _, _, _, _ => .no
  | .call cl => match cl.callee with
    | .builtin .len => match cl.argTypes.toList with
      | t :: _ => match c.ty t with
        | some ⟨_, _, .slice ..⟩ => match evL ev cl.args.toList with
          | [.one (.d (.sl _ _ xs))] => .ok (True) (.one (.d (.int .i64 xs.length)))
          | [.one (.d .nil)] => .ok (True) (.one (.d (.int .i64 0)))
          | [.one (.own l ver)] => match own l with
            | ⟨ver', .row _ _ xs⟩ => .ok (ver = ver') (.one (.d (.int .i64 xs.length)))
            | ⟨ver', .tail _ _ xs⟩ => .ok (ver = ver') (.one (.d (.int .i64 xs.length)))
            | ⟨ver', .deep _ _ _ xs _⟩ => .ok (ver = ver') (.one (.d (.int .i64 xs.length)))
            | _ => .no
          | [.one (.sub l ver off n)] => match own l with
            | ⟨ver', .row _ _ _⟩ => .ok (ver = ver') (.one (.d (.int .i64 n)))
            | ⟨ver', .deep _ _ _ xs g⟩ => .ok (ver = ver' ∧ off < xs.length ∧ g off = false) (.one (.d (.int .i64 (xs.getD off []).length)))
            | _ => .no
          | _ => .no
        | _ => .no
      | [] => .no
    | .builtin .min => match evL ev cl.args.toList with
      | [.one (.d (.int .i64 a)), .one (.d (.int .i64 b))] => .ok (True) (.one (.d (.int .i64 (min a b))))
      | [.one (.d (.int .i64 a)), .one (.d (.int .i64 b)), .one (.d (.int .i64 e))] => .ok (True) (.one (.d (.int .i64 (min (min a b) e))))
      | _ => .no
    | .builtin .max => match evL ev cl.args.toList with
      | [.one (.d (.int .i64 a)), .one (.d (.int .i64 b))] => .ok (True) (.one (.d (.int .i64 (max a b))))
      | [.one (.d (.int .i64 a)), .one (.d (.int .i64 b)), .one (.d (.int .i64 e))] => .ok (True) (.one (.d (.int .i64 (max (max a b) e))))
      | _ => .no
    | .value g => match ev g with
      | .one (.d (.clo f caps)) => (acall c own f (evL ev cl.args.toList ++ capsOf caps)).bind fun r => .ok True r.data
      | _ => .no
    | _ => .no
  | _ => .no

/-! ### Operations that write -/
def St.put (σ : St) (dst : Option Tmp) (x : AV) : St :=
  match dst with
  | some d => { σ with slots := upd σ.slots d x }
  | none => σ

def St.setOwn (σ : St) (l : Nat) (o : Own) : St := { σ with own := upd σ.own l ⟨(σ.own l).ver + 1, o⟩ }

def isEff (c : Cfg) (o : Oper) : Bool :=
  match o.op, o.dst with
  | .alloc _, _ => true
  | .store .., _ => true
  | .makeSlice .., _ => true
  | .box .., some d => c.wr d
  | .buildSlice .., some d => c.wr d
  | .slice .., some d => c.wr d
  | .call { callee := .builtin .append, .. }, _ => true
  | .call { callee := .builtin .copy, .. }, _ => true
  | .call { callee := .builtin .clear, .. }, _ => true
  | .call _, some d => c.wr d
  | _, _ => false

def setElem (k : ElK) (xs : List k.T) (i j : Nat) (cs : List Cell) : Option (List k.T) :=
  match k.dec (putCells ((k.enc (xs.getD i k.dflt)).map .d) j cs) with
    | some x => some (xs.set i x)
    | none => none

def castL : (k k' : ElK) → List k'.T → Option (List k.T)
  | .b .int, .b .int, xs => some xs
  | .b .bool, .b .bool, xs => some xs
  | .b .pt, .b .pt, xs => some xs
  | .b .wall, .b .wall, xs => some xs
  | .b .tri, .b .tri, xs => some xs
  | .s .int, .s .int, xs => some xs
  | .s .bool, .s .bool, xs => some xs
  | .s .pt, .s .pt, xs => some xs
  | .s .wall, .s .wall, xs => some xs
  | .s .tri, .s .tri, xs => some xs
  | _, _, _ => none

theorem castL_ok {k k' : ElK} {xs : List k'.T} {ys : List k.T} (h : castL k k' xs = some ys) : ∃ e : k' = k, e ▸ xs = ys := by
  unfold castL at h
  split at h <;> first | (injection h with h; subst h; exact ⟨rfl, rfl⟩) | cases h

/-! ### Callees that write -/
def ownCell : AV → Option (Nat × Nat)
  | .one (.own l v) => some (l, v)
  | .agg [.own l v] => some (l, v)
  | _ => none
def ownAs (x : AV) (c : Cell) : AV := match x with
  | .one _ => .one c
  | .agg _ => .agg [c]
  | y => y
def strictD : AV → Bool
  | .one (.d _) => true
  | .agg cs => cs.all fun c => match c with | .d _ => true | _ => false
  | _ => false
def othersD : Nat → List AV → Bool
  | _, [] => true
  | 0, _ :: r => r.all strictD
  | n + 1, x :: r => strictD x && othersD n r
def nthA : List AV → Nat → Option AV
  | [], _ => none
  | x :: _, 0 => some x
  | _ :: r, n + 1 => nthA r n
def setA : List AV → Nat → AV → List AV
  | [], _, _ => []
  | _ :: r, 0, y => y :: r
  | x :: r, n + 1, y => x :: setA r n y
inductive WV where
  | no
  | ok (p : Prop) (l ver : Nat) (ty : TypeId) (k : ElK) (ys : List k.T) (trunc : Bool) (av : AV)
def acallW (c : Cfg) (own : Nat → Loc) (f : FuncId) (args : List AV) : WV :=
  match c.conw f with
  | none => .no
  | some con => match nthA args con.wi with
    | none => .no
    | some a => match ownCell a with
      | none => .no
      | some (l, ver) => match own l with
        | ⟨ver', .row ty k xs⟩ => match othersD con.wi args, con.pat (setA args con.wi (ownAs a (.d (.sl none k xs)))) with
          | true, some x => match castL k (con.out x).k (con.out x).ys with
            | some ys => .ok (ver = ver' ∧ ty = con.ty ∧ k.base = true ∧ con.pre x) l ver ty k ys (con.out x).trunc (con.av x)
            | none => .no
          | _, _ => .no
        | _ => .no

def asYs (k : ElK) (x : AV) : Option (List k.T) :=
  match x with
  | .one (.d (.sl _ k' ys)) => castL k k' ys
  | .one (.d .nil) => some []
  | _ => none

/-- Where an allocation is to be movable, its place must be dead. -/
def deadIf : Bool → Loc → Prop
  | false, _ => True
  | true, ⟨_, .dead⟩ => True
  | true, _ => False
theorem deadIf_true {x : Loc} (h : deadIf true x) : x.obj = .dead := by
  rcases x with ⟨v, ob⟩
  cases ob <;> first | rfl | exact h.elim
theorem deadIf_of {b : Bool} {x : Loc} (h : x.obj = .dead) : deadIf b x := by
  rcases x with ⟨v, ob⟩
  simp only at h
  subst h
  cases b <;> exact trivial

/-- What copy reads. -/
inductive RdV where
  | no
  | ok (p : Prop) (k : ElK) (ys : List k.T)
def readOf (own : Nat → Loc) : AV → RdV
  | .one (.d (.sl _ k ys)) => .ok True k ys
  | .one (.own l ver) => match own l with
    | ⟨ver', .row _ k ys⟩ => .ok (ver = ver') k ys
    | _ => .no
  | .one (.sub l ver off n) => match own l with
    | ⟨ver', .row _ k ys⟩ => .ok (ver = ver' ∧ off + n ≤ ys.length) k ((ys.drop off).take n)
    | _ => .no
  | _ => .no
def putL {α : Type} (xs : List α) (off : Nat) (ys : List α) : List α := xs.take off ++ (ys ++ xs.drop (off + ys.length))

/-- Whether the slice at slot d may be the tail of the row at place l. -/
def tailF (c : Cfg) (d l : Nat) : Bool := Nat.blt l 1024 && c.fr (1000000 + d * 1024 + l)
def aeff (c : Cfg) (o : Oper) (ev : Operand → AV) (own : Nat → Loc) : VR (AV × (Nat → Loc)) :=
  match o.op, o.dst with
  | .alloc t, some d => match c.ty t with
    | some i => .ok (deadIf (c.fr d) (own d)) (.one (.ptr d ((own d).ver + 1) 0 0), upd own d ⟨(own d).ver + 1, .box t (i.zero.map ZK.c)⟩)
    | none => .no
  | .box t x, some d => match cells (ev x) with
    | some cs => .ok True (.one (.ptr d ((own d).ver + 1) 0 0), upd own d ⟨(own d).ver + 1, .box t cs⟩)
    | none => .no
  | .buildSlice t len parts, some d => match c.ty t with
    | some ⟨_, _, .slice e k _ z⟩ => match Nat.ble len 1024, elems k (z.map ZK.c) (parts.toList.map fun p => (p.1, ev p.2)) len with
      | true, some xs => .ok True (.one (.own d ((own d).ver + 1)), upd own d ⟨(own d).ver + 1, .row e k xs⟩)
      | _, _ => .no
    | _ => .no
  | .makeSlice t len cap, some d => match c.ty t, ev len, ev cap with
    | some ⟨_, _, .slice e k b z⟩, .one (.d (.int .i64 n)), .one (.d (.int .i64 n')) => match k.dec (z.map ZK.c) with
      | some z => .ok (n' = n ∧ 0 ≤ n ∧ n ≤ 1073741824 ∧ b ≤ 4096) (.one (.own d ((own d).ver + 1)), upd own d ⟨(own d).ver + 1, .row e k (List.replicate n.toNat z)⟩)
      | none => .no
    | _, _, _ => .no
  | .store t a x, none => match ev a, cells (ev x), c.ty t with
    | .one (.ptr l ver i j), some cs, some ti => match Nat.beq cs.length ti.size, own l with
      | true, ⟨ver', .box ty cs'⟩ => .ok (ver = ver' ∧ j + cs.length ≤ cs'.length) (.junk, upd own l ⟨ver, .box ty (putCells cs' j cs)⟩)
      | true, ⟨ver', .row ty k xs⟩ => match setElem k xs i j cs with
        | some xs' => .ok (ver = ver' ∧ j + cs.length ≤ k.size ∧ i < xs.length) (.junk, upd own l ⟨ver, .row ty k xs'⟩)
        | none => .no
      | _, _ => .no
    | _, _, _ => .no
  | .slice t x none (some hi) none, some _ => match c.ty t, ev x, ev hi with
    | some ⟨_, _, .slice _ k' _ _⟩, .one (.own l ver), .one (.d (.int _ h)) => match own l with
      | ⟨ver', .row ty k xs⟩ => match ElK.beq k' k with
        | true => .ok (ver = ver' ∧ (0 ≤ h ∧ h ≤ (xs.length : Int))) (.one (.own l (ver + 1)), upd own l ⟨ver + 1, .row ty k (xs.take h.toNat)⟩)
        | false => .no
      | _ => .no
    | _, _, _ => .no
  | .slice t x (some lo) none none, some d => match c.ty t, ev x, ev lo with
    | some ⟨_, _, .slice _ k' _ _⟩, .one (.own l ver), .one (.d (.int _ h)) => match own l with
      | ⟨ver', .row ty k xs⟩ => match ElK.beq k' k with
        | true => .ok (ver = ver' ∧ tailF c d l = true ∧ 0 < xs.length ∧ (0 ≤ h ∧ h ≤ (xs.length : Int))) (.one (.own l (ver + 1)), upd own l ⟨ver + 1, .tail ty k (xs.drop h.toNat)⟩)
        | false => .no
      | ⟨ver', .tail ty k xs⟩ => match ElK.beq k' k with
        | true => .ok (ver = ver' ∧ tailF c d l = true ∧ (0 ≤ h ∧ h ≤ (xs.length : Int))) (.one (.own l (ver + 1)), upd own l ⟨ver + 1, .tail ty k (xs.drop h.toNat)⟩)
        | false => .no
      | _ => .no
    | _, _, _ => .no
  | .call cl, some d => match cl.callee with
    | .builtin .append => match evL ev cl.args.toList, cl.argTypes.toList with
      | [s, x], [t, t'] => match Nat.beq t t', c.ty t with
        | true, some ⟨_, _, .slice e k b _⟩ => match view own x with
          | .no => .no
          | .ok p (x', bv) => match asYs k x' with
            | none => .no
            | some ys => match s with
              | .one (.own l ver) => match own l with
                | ⟨ver', .row ty k' xs⟩ => match castL k k' xs with
                  | some xs => .ok (p ∧ (bv && !k.base) = false ∧ ver = ver' ∧ ty = e ∧ xs.length + ys.length ≤ 1073741824 ∧ b ≤ 4096) (.one (.own l (ver' + 1)), upd own l ⟨ver' + 1, .row e k (xs ++ ys)⟩)
                  | none => .no
                | ⟨ver', .tail ty k' xs⟩ => match castL k k' xs with
                  | some xs => .ok (p ∧ (bv && !k.base) = false ∧ ver = ver' ∧ ty = e ∧ 0 < ys.length ∧ xs.length + ys.length ≤ 1073741824 ∧ b ≤ 4096) (.one (.own l (ver' + 1)), upd own l ⟨ver' + 1, .tail e k (xs ++ ys)⟩)
                  | none => .no
                | _ => .no
              | .one (.d (.full k' xs)) => match castL k k' xs with
                | some xs => .ok (p ∧ (bv && !k.base) = false ∧ 0 < ys.length ∧ xs.length + ys.length ≤ 1073741824 ∧ b ≤ 4096) (.one (.own d ((own d).ver + 1)), upd own d ⟨(own d).ver + 1, .row e k (xs ++ ys)⟩)
                | none => .no
              | .one (.d .nil) => .ok (p ∧ (bv && !k.base) = false ∧ ys.length ≤ 1073741824 ∧ b ≤ 4096) (.one (.own d ((own d).ver + 1)), upd own d ⟨(own d).ver + 1, .row e k ys⟩)
              | _ => .no
        | _, _ => .no
      | _, _ => .no
    | .value g => match ev g with
      | .one (.d (.clo f caps)) => match acallW c own f (evL ev cl.args.toList ++ capsOf caps) with
        | .ok p l ver ty k ys true _ => .ok p (.one (.own l (ver + 1)), upd own l ⟨ver + 1, .row ty k ys⟩)
        | .ok p l ver ty k ys false av => .ok p (av, upd own l ⟨ver, .row ty k ys⟩)
        | .no => match acall c own f (evL ev cl.args.toList ++ capsOf caps) with
          | .no => .no
          | .ok p r => match r.row with
            | some R => .ok p (ren (.own d ((own d).ver + 1)) r.av, upd own d ⟨(own d).ver + 1, .row R.ty R.k R.xs⟩)
            | none => .ok p (r.data, upd own d (own d))
      | _ => .no
    | .builtin .copy => match evL ev cl.args.toList, cl.argTypes.toList with
      | [x, s], [t, _] => match c.ty t, x with
        | some ⟨_, _, .slice _ k _ _⟩, .one (.sub l ver off n) => match own l with
          | ⟨ver', .row ty k' xs⟩ => match readOf own s with
            | .ok q k'' ys => match castL k' k'' ys with
              | some ys => .ok (q ∧ 0 < ys.length ∧ ver = ver' ∧ k' = .b .int ∧ k = .b .int ∧ off + n ≤ xs.length) (.one (.d (.int .i64 ((min ys.length n : Nat) : Int))), upd own l ⟨ver, .row ty k' (putL xs off (ys.take n))⟩)
              | none => .no
            | .no => .no
          | _ => .no
        | some ⟨_, _, .slice _ k _ _⟩, .one (.own l ver) => match own l with
          | ⟨ver', .row ty k' xs⟩ => match readOf own s with
            | .ok q k'' ys => match castL k' k'' ys with
              | some ys => .ok (q ∧ 0 < ys.length ∧ ver = ver' ∧ k' = .b .int ∧ k = .b .int ∧ 0 < xs.length) (.one (.d (.int .i64 ((min ys.length xs.length : Nat) : Int))), upd own l ⟨ver, .row ty k' (putL xs 0 (ys.take xs.length))⟩)
              | none => .no
            | .no => .no
          | _ => .no
        | _, _ => .no
      | _, _ => .no
    | _ => .no
  | .call cl, none => match cl.callee with
    | .builtin .clear => match evL ev cl.args.toList, cl.argTypes.toList with
      | [x], [t] => match c.ty t, x with
        | some ⟨_, _, .slice _ k _ z⟩, .one (.sub l ver off n) => match own l with
          | ⟨ver', .row ty k' xs⟩ => match k'.dec (z.map ZK.c) with
            | some zv => .ok (ver = ver' ∧ k' = k ∧ off + n ≤ xs.length) (.junk, upd own l ⟨ver, .row ty k' (putL xs off (List.replicate n zv))⟩)
            | none => .no
          | _ => .no
        | _, _ => .no
      | _, _ => .no
    | _ => .no
  | _, _ => .no

/-! ### Rows of rows whose inner rows are the call's own -/
def isDp (c : Cfg) (o : Oper) : Bool := match o.op, o.dst with
  | .call _, some d => c.dp d
  | .buildSlice .., some d => c.dp d
  | _, _ => false
def castB : (e e' : ElB) → List e'.T → Option (List e.T)
  | .int, .int, xs => some xs
  | .bool, .bool, xs => some xs
  | .pt, .pt, xs => some xs
  | .wall, .wall, xs => some xs
  | .tri, .tri, xs => some xs
  | _, _, _ => none
theorem castB_ok {k k' : ElB} {xs : List k'.T} {ys : List k.T} (h : castB k k' xs = some ys) : ∃ e : k' = k, e ▸ xs = ys := by
  unfold castB at h
  split at h <;> first | (injection h with h; subst h; exact ⟨rfl, rfl⟩) | cases h
/-- The inner row at index off is handed to a callee that writes it. -/
def subCell : AV → Option (Nat × Nat × Nat)
  | .one (.sub l v off _) => some (l, v, off)
  | _ => none
def acallI (c : Cfg) (own : Nat → Loc) (f : FuncId) (args : List AV) : VR (AV × (Nat → Loc)) :=
  match c.conw f with
  | none => .no
  | some con => match nthA args con.wi with
    | none => .no
    | some a => match subCell a with
      | none => .no
      | some (l, ver, off) => match own l with
        | ⟨ver', .deep ty ety e xs g⟩ => match othersD con.wi args, con.pat (setA args con.wi (.one (.d (.sl none (.b e) (xs.getD off []))))) with
          | true, some x => match castL (.b e) (con.out x).k (con.out x).ys with
            | some ys => .ok (ver = ver' ∧ ety = con.ty ∧ off < xs.length ∧ g off = false ∧ con.pre x ∧ (con.out x).trunc = false) (con.av x, upd own l ⟨ver', .deep ty ety e (xs.set off ys) g⟩)
            | none => .no
          | _, _ => .no
        | _ => .no
/-- All inner rows are handed to a callee that writes them. -/
def acallD (c : Cfg) (own : Nat → Loc) (f : FuncId) (args : List AV) : VR (AV × (Nat → Loc)) :=
  match c.cond f with
  | none => .no
  | some con => match nthA args con.wi with
    | none => .no
    | some a => match ownCell a with
      | none => .no
      | some (l, ver) => match own l with
        | ⟨ver', .deep ty ety .int xs g⟩ => match othersD con.wi args, con.pat (setA args con.wi (ownAs a (.d (.sl none (.s .int) xs)))) with
          | true, some x => .ok (ver = ver' ∧ ty = con.ty ∧ ety = con.ety ∧ allG g xs.length ∧ con.pre x ∧ (con.out x).length = xs.length) (con.av x, upd own l ⟨ver', .deep ty ety .int (con.out x) g⟩)
          | _, _ => .no
        | _ => .no
def dpOf (c : Cfg) (f : FuncId) : Option TypeId := match c.con f with
  | some con => con.dp
  | none => none
def aeffD (c : Cfg) (o : Oper) (ev : Operand → AV) (own : Nat → Loc) : VR (AV × (Nat → Loc)) :=
  match o.op, o.dst with
  | .buildSlice t len parts, some d => match c.ty t, len, parts.toList with
    | some ⟨_, _, .slice ty (.s e) _ _⟩, 0, [] => match c.ty ty with
      | some ⟨_, _, .slice ety (.b e') _ _⟩ => match ElB.beq e e' with
        | true => .ok True (.one (.own d ((own d).ver + 1)), upd own d ⟨(own d).ver + 1, .deep ty ety e [] noG⟩)
        | false => .no
      | _ => .no
    | some ⟨_, _, .slice ty (.s e) _ _⟩, 1, [(0, x)] => match ev x with
      | .one (.own l ver) => match own l with
        | ⟨ver', .row ety (.b e') xs⟩ => match castB e e' xs with
          | some xs => .ok (ver = ver' ∧ d ≠ l) (.one (.own d ((own d).ver + 1)), upd (upd own l ⟨ver', .dead⟩) d ⟨(own d).ver + 1, .deep ty ety e [xs] noG⟩)
          | none => .no
        | _ => .no
      | .one (.sub l ver off _) => match own l with
        | ⟨ver', .deep ty' ety e' xs g⟩ => match castB e e' (xs.getD off []) with
          | some x => .ok (ver = ver' ∧ d ≠ l ∧ off < xs.length ∧ g off = false) (.one (.own d ((own d).ver + 1)), upd (upd own l ⟨ver', .deep ty' ety e' xs (upd g off true)⟩) d ⟨(own d).ver + 1, .deep ty ety e [x] noG⟩)
          | none => .no
        | _ => .no
      | _ => .no
    | _, _, _ => .no
  | .call cl, some _ => match cl.callee with
    | .builtin .append => match evL ev cl.args.toList, cl.argTypes.toList with
      | [.one (.own l ver), .one (.own q verq)], [t, t'] => match Nat.beq t t', c.ty t with
        | true, some ⟨_, _, .slice te (.s e) b _⟩ => match own l, own q with
          | ⟨ver', .deep ty ety e1 xs g⟩, ⟨verq', .deep _ ety' e2 ys g'⟩ => match castBB e e1 xs, castBB e e2 ys with
            | some xs, some ys => .ok (l ≠ q ∧ ver = ver' ∧ verq = verq' ∧ ty = te ∧ ety' = ety ∧ allG g xs.length ∧ allG g' ys.length ∧ xs.length + ys.length ≤ 1073741824 ∧ b ≤ 4096) (.one (.own l (ver' + 1)), upd (upd own q ⟨verq', .dead⟩) l ⟨ver' + 1, .deep te ety e (xs ++ ys) noG⟩)
            | _, _ => .no
          | _, _ => .no
        | _, _ => .no
      | _, _ => .no
    | .value gf => match ev gf, o.dst with
      | .one (.d (.clo f caps)), some d => match acallI c own f (evL ev cl.args.toList ++ capsOf caps) with
        | .ok p r => .ok p r
        | .no => match acallD c own f (evL ev cl.args.toList ++ capsOf caps) with
          | .ok p r => .ok p r
          | .no => match dpOf c f, acall c own f (evL ev cl.args.toList ++ capsOf caps) with
            | some ety, .ok p r => match r.row with
              | some ⟨ty, _, .s e, xs⟩ => .ok p (ren (.own d ((own d).ver + 1)) r.av, upd own d ⟨(own d).ver + 1, .deep ty ety e xs noG⟩)
              | _ => .no
            | _, _ => .no
      | _, _ => .no
    | _ => .no
  | _, _ => .no

/-- Where the new row that a call yields is data at once. -/
def isSw (c : Cfg) (o : Oper) : Bool := match o.op, o.dst with
  | .call _, some d => c.sw d
  | .makeSlice .., some d => c.sw d
  | _, _ => false
def frzR (c : Cfg) (r : AV × (Nat → Loc)) : VR (AV × (Nat → Loc)) := match r with
  | (.one (.own l ver), own) => match own l with
    | ⟨ver', .row _ k xs⟩ => .ok (ver = ver' ∧ c.fr l = false) (.one (.d (.sl none k xs)), upd own l ⟨ver', .dead⟩)
    | _ => .no
  | _ => .no
def aeffS (c : Cfg) (o : Oper) (ev : Operand → AV) (own : Nat → Loc) : VR (AV × (Nat → Loc)) := match isDp c o with
  | true => aeffD c o ev own
  | false => match isSw c o with
    | true => (aeff c o ev own).bind (frzR c)
    | false => aeff c o ev own

/-- Only data, or addresses in places of f. -/
def dOnlyC (f : Nat → Bool) : Cell → Bool
  | .d _ => true
  | .own l _ => f l
  | .ptr l _ _ _ => f l
  | .sub l _ _ _ => f l
def dOnlyCs (f : Nat → Bool) : List Cell → Bool
  | [] => true
  | c :: cs => dOnlyC f c && dOnlyCs f cs
def dOnly (f : Nat → Bool) : AV → Bool
  | .one c => dOnlyC f c
  | .agg cs => dOnlyCs f cs
  | _ => true
def dOnlyL (f : Nat → Bool) : List AV → Bool
  | [] => true
  | x :: xs => dOnly f x && dOnlyL f xs
def noPl : Nat → Bool := fun _ => false

/-- Operations whose value does not hang on the own memory at all. -/
def freeOp : Op → Bool
  | .load .. | .fieldAddr .. | .indexAddr .. | .call _ | .slice .. => false
  | .binOp _ _ _ y _ => !nilOp y
  | _ => true

def isFr (c : Cfg) (o : Oper) : Bool := match o.dst with | some d => c.fr d | none => false
def isSp (c : Cfg) (o : Oper) : Bool := match o.dst with | some d => c.sp d | none => false
def fixPl (c : Cfg) : Nat → Bool := fun l => !(c.fr l && c.wr l)

def aop (c : Cfg) (o : Oper) (σ : St) (K : St → Prop) : Prop :=
  match isEff c o with
  | true => (aeffS c o (evA σ.slots) σ.own).run fun r => K ⟨(σ.put o.dst r.1).slots, r.2⟩
  | false => match isFr c o with
    | true => dOnlyL noPl (evL (evA σ.slots) o.op.operands.toList) = true ∧ (aval c (evA σ.slots) σ.own o.op).run fun x => K (σ.put o.dst x)
    | false => match isSp c o with
      | true => dOnlyL (fixPl c) (evL (evA σ.slots) o.op.operands.toList) = true ∧ (aval c (evA σ.slots) σ.own o.op).run fun x => K (σ.put o.dst x)
      | false => (aval c (evA σ.slots) σ.own o.op).run fun x => K (σ.put o.dst x)

/-! ### Regions -/
/-- Whether an operation is wanted. -/
def aguard (ops : List Oper) (o : Oper) (σ : St) (K : Bool → St → Prop) : Prop :=
  match o.guard with
  | none => K true σ
  | some (j, want) => match ops[j]? with
    | some oj => match oj.dst with
      | some d => match σ.slots d with
        | .one (.d (.bool b)) =>
          (b = true → K (true == want) ⟨upd σ.slots d (.one (.d (.bool true))), σ.own⟩) ∧
          (b = false → K (false == want) ⟨upd σ.slots d (.one (.d (.bool false))), σ.own⟩)
        | .tup [] => K false σ
        | _ => False
      | none => False
    | none => False

def arun (c : Cfg) (ops : List Oper) : List Oper → St → (St → Prop) → Prop
  | [], σ, K => K σ
  | o :: rest, σ, K => aguard ops o σ fun wd σ' => match wd with
    | true => aop c o σ' fun σ'' => arun c ops rest σ'' K
    | false => arun c ops rest (σ'.put o.dst (.tup [])) K

/-! ### Code -/
/-- Own places that are no longer looked at. -/
def killW (D : Nat → Bool) (own : Nat → Loc) : Nat → Loc := fun n => bif D n then ⟨(own n).ver, .dead⟩ else own n
theorem killW_none (own : Nat → Loc) : killW (fun _ => false) own = own := rfl
theorem killW_ver (D : Nat → Bool) (own : Nat → Loc) (n : Nat) : (killW D own n).ver = (own n).ver := by unfold killW; cases D n <;> rfl
theorem killW_obj (D : Nat → Bool) (own : Nat → Loc) (n : Nat) : (killW D own n).obj = .dead ∨ killW D own n = own n := by unfold killW; cases D n <;> simp

/-- Rows that are no longer written may be looked at as data. -/
def FrzC (Z : Nat → Bool) (own : Nat → Loc) (x y : Cell) : Prop :=
  y = x ∨ (∃ l ver ty k xs, x = .own l ver ∧ Z l = true ∧ own l = ⟨ver, .row ty k xs⟩ ∧ y = .d (.sl none k xs)) ∨
    ∃ l ver ty cs ds, x = .ptr l ver 0 0 ∧ Z l = true ∧ own l = ⟨ver, .box ty cs⟩ ∧ dOf cs = some ds ∧ y = .d (.ptr ds)
def RelL (R : Cell → Cell → Prop) : List Cell → List Cell → Prop
  | [], [] => True
  | x :: xs, y :: ys => R x y ∧ RelL R xs ys
  | _, _ => False
def RelA (R : Cell → Cell → Prop) : AV → AV → Prop
  | .one x, .one y => R x y
  | .agg xs, .agg ys => RelL R xs ys
  | x, y => x = y
def RelO (R : Cell → Cell → Prop) : Own → Own → Prop
  | .box ty xs, .box ty' ys => ty = ty' ∧ RelL R xs ys
  | x, y => x = y
/-- A row may go to another place. -/
def MvC (l ver l' ver' : Nat) (x y : Cell) : Prop := y = x ∨ (x = .own l ver ∧ y = .own l' ver')
def Mv (σ σ' : St) : Prop := σ' = σ ∨ ∃ l l' ty k xs, l ≠ l' ∧ (σ.own l).obj = .row ty k xs ∧
  (∀ t, RelA (MvC l (σ.own l).ver l' ((σ.own l').ver + 1)) (σ.slots t) (σ'.slots t)) ∧ σ'.own l' = ⟨(σ.own l').ver + 1, .row ty k xs⟩ ∧ σ'.own l = ⟨(σ.own l).ver, .dead⟩ ∧
  ∀ n, n ≠ l → n ≠ l' → (σ'.own n).ver = (σ.own n).ver ∧ RelO (MvC l (σ.own l).ver l' ((σ.own l').ver + 1)) (σ.own n).obj (σ'.own n).obj
def Wk (_c : Cfg) (σ σ' : St) : Prop := ∃ Z : Nat → Bool, (∀ t, RelA (FrzC Z σ.own) (σ.slots t) (σ'.slots t)) ∧
  ∀ n, (σ'.own n).ver = (σ.own n).ver ∧ ((σ'.own n).obj = .dead ∨ (Z n = false ∧ RelO (FrzC Z σ.own) (σ.own n).obj (σ'.own n).obj))

/-- A row may be looked at as the tail of one. -/
def Tl (σ σ' : St) : Prop := ∃ l ty k xs, xs ≠ [] ∧ (σ.own l).obj = .row ty k xs ∧ σ' = ⟨σ.slots, upd σ.own l ⟨(σ.own l).ver, .tail ty k xs⟩⟩
inductive Wks (c : Cfg) : St → St → Prop
  | refl (σ : St) : Wks c σ σ
  | step {σ σ1 σ2 : St} (h : Wk c σ σ1) (k : Wks c σ1 σ2) : Wks c σ σ2
  | tail {σ σ1 σ2 : St} (h : Tl σ σ1) (k : Wks c σ1 σ2) : Wks c σ σ2

def awp (c : Cfg) : Code → (Exit → St → Prop) → St → Prop
  | .skip, Q, σ => Q .normal σ
  | .label _, Q, σ => Q .normal σ
  | .region _ ops _, Q, σ => ∃ σ0, Wks c σ σ0 ∧ arun c ops.toList ops.toList σ0 fun σ' => ∃ σ1 σ'', Wk c σ' σ1 ∧ Mv σ1 σ'' ∧ Q .normal σ''
  | .seq x y, Q, σ => awp c x (fun e σ' => match e with | .normal => awp c y Q σ' | e => Q e σ') σ
  | .cond p x y, Q, σ => match evA σ.slots p with
    | .one (.d (.bool b)) => (b = true → awp c x Q σ) ∧ (b = false → awp c y Q σ)
    | _ => False
  | .block id x, Q, σ => awp c x (fun e σ' => match e with | .exit id' => (match Nat.beq id' id with | true => Q .normal σ' | false => Q (.exit id') σ') | e => Q e σ') σ
  | .loop x, Q, σ => ∃ (σ0 : St) (I : St → Prop) (μ : St → Nat), Wks c σ σ0 ∧ I σ0 ∧ ∀ σ', I σ' → awp c x (fun e σ'' => match e with | .normal => I σ'' ∧ μ σ'' < μ σ' | e => Q e σ'') σ'
  | .exit id, Q, σ => Q (.exit id) σ
  | .ret, Q, σ => Q .ret σ
  | _, _, _ => False
end Go.Proofs.Ytfjmlaciogmndaa
