/- Abstract values, abstract states and what they say of the model's values and memory. -/
import Derived.WalkKit
import Derived.WalkSpells
import Derived.Below
import Derived.Orders
namespace Go.Proofs.Ytfjmlaciogmndaa
open Go.RowKit

/-! ### Kinds of elements of slices -/
inductive ElB where
  | int | bool | pt | wall | tri
  deriving DecidableEq

@[reducible] def ElB.T : ElB → Type
  | .int => Int
  | .bool => Bool
  | .pt => Int × Int
  | .wall => (Int × Int) × (Int × Int)
  | .tri => Int × Int × Int

@[reducible] def ElB.dflt : (k : ElB) → k.T
  | .int => (0 : Int)
  | .bool => false
  | .pt => ((0, 0) : Int × Int)
  | .wall => (((0, 0), (0, 0)) : (Int × Int) × (Int × Int))
  | .tri => ((0, 0, 0) : Int × Int × Int)

@[reducible] def ElB.size : ElB → Nat
  | .int | .bool => 1
  | .pt => 2
  | .wall => 4
  | .tri => 3

inductive ElK where
  | b (e : ElB)
  | s (e : ElB)
  deriving DecidableEq

@[reducible] def ElK.T : ElK → Type
  | .b e => e.T
  | .s e => List e.T

@[reducible] def ElK.dflt : (k : ElK) → k.T
  | .b e => e.dflt
  | .s e => ([] : List e.T)

@[reducible] def ElK.size : ElK → Nat
  | .b e => e.size
  | .s _ => 1

/-! ### Abstract data (one cell), abstract cells, abstract values -/
inductive D where
  | int (k : IntKind) (n : Int)
  | bool (b : Bool)
  | nil
  | sl (nl : Option Bool) (k : ElK) (xs : List k.T)
  | full (k : ElK) (xs : List k.T)
  | ptr (cs : List D)
  | clo (f : FuncId) (caps : List D)

inductive Cell where
  | d (x : D)
  | own (l ver : Nat)
  | ptr (l ver i j : Nat)
  | sub (l ver off n : Nat)

inductive AV where
  | one (c : Cell)
  | agg (cs : List Cell)
  | tup (xs : List (Cell ⊕ List Cell))
  | junk

def ElB.enc : (k : ElB) → k.T → List D
  | .int, x => [.int .i64 x]
  | .bool, x => [.bool x]
  | .pt, x => [.int .i64 x.1, .int .i64 x.2]
  | .wall, x => [.int .i64 x.1.1, .int .i64 x.1.2, .int .i64 x.2.1, .int .i64 x.2.2]
  | .tri, x => [.int .i64 x.1, .int .i64 x.2.1, .int .i64 x.2.2]

def ElB.encV : (k : ElB) → k.T → List Value
  | .int, x => [.int .i64 x]
  | .bool, x => [.bool x]
  | .pt, x => [.int .i64 x.1, .int .i64 x.2]
  | .wall, x => [.int .i64 x.1.1, .int .i64 x.1.2, .int .i64 x.2.1, .int .i64 x.2.2]
  | .tri, x => [.int .i64 x.1, .int .i64 x.2.1, .int .i64 x.2.2]

def ElK.enc : (k : ElK) → k.T → List D
  | .b e, x => e.enc x
  | .s e, x => [.sl none (.b e) x]

/-- An element out of its cells. -/
def ElK.dec : (k : ElK) → List Cell → Option k.T
  | .b .int, [.d (.int .i64 x)] => some x
  | .b .bool, [.d (.bool x)] => some x
  | .b .pt, [.d (.int .i64 x), .d (.int .i64 y)] => some (x, y)
  | .b .wall, [.d (.int .i64 x), .d (.int .i64 y), .d (.int .i64 z), .d (.int .i64 u)] => some ((x, y), (z, u))
  | .b .tri, [.d (.int .i64 x), .d (.int .i64 y), .d (.int .i64 z)] => some (x, y, z)
  | .s .int, [.d (.sl _ (.b .int) xs)] => some xs
  | .s .bool, [.d (.sl _ (.b .bool) xs)] => some xs
  | .s .int, [.d .nil] => some []
  | .s .bool, [.d .nil] => some []
  | _, _ => none

/-! ### What abstract data say of values -/
def SLg (w : World) (F : Nat → Prop) (size : Nat) {α : Type} (E : α → List Value → Prop) (xs : List α) (v : Value) : Prop :=
  (v = .slice none 0 0 ∧ xs = []) ∨
  ∃ ad c, v = .slice (some ad) xs.length c ∧ xs.length ≤ c ∧ (xs = [] ∨ F ad.block) ∧
    ∀ i x, xs[i]? = some x → ∃ us : List Value, us.length = size ∧ E x us ∧ ∀ j u, us[j]? = some u → w.cell? (ad.add (i * size + j)) = some u

def Elem (w : World) (F : Nat → Prop) : (k : ElK) → k.T → List Value → Prop
  | .b e, x, us => us = e.encV x
  | .s e, x, us => ∃ u, us = [u] ∧ SLg w F e.size (fun y vs => vs = e.encV y) x u

def SLK (w : World) (F : Nat → Prop) (k : ElK) (xs : List k.T) (v : Value) : Prop := SLg w F k.size (Elem w F k) xs v

def nilOk (nl : Option Bool) (v : Value) : Prop := ∀ b, nl = some b → (b = true ↔ v = .slice none 0 0)

inductive DC (w : World) (F : Nat → Prop) : D → Value → Prop
  | int (k : IntKind) (n : Int) : DC w F (.int k n) (.int k n)
  | bool (b : Bool) : DC w F (.bool b) (.bool b)
  | nil : DC w F .nil (.slice none 0 0)
  | sl {nl : Option Bool} {k : ElK} {xs : List k.T} {v : Value} (hn : nilOk nl v) (h : SLK w F k xs v) : DC w F (.sl nl k xs) v
  | full {k : ElK} {xs : List k.T} {v : Value} (h : SLK w F k xs v) (hc : ∃ pa n, v = .slice pa n n) : DC w F (.full k xs) v
  | ptr {cs : List D} (ad : Addr) (us : List Value) (hl : us.length = cs.length) (hF : F ad.block) (h1 : ∀ (j : Nat) u, us[j]? = some u → w.cell? (ad.add j) = some u)
      (h2 : ∀ (j : Nat) x u, cs[j]? = some x → us[j]? = some u → DC w F x u) : DC w F (.ptr cs) (.pointer (some ad))
  | clo {f : FuncId} {caps : List D} (us : List Value) (hl : us.length = caps.length)
      (h : ∀ (j : Nat) x u, caps[j]? = some x → us[j]? = some u → DC w F x u) : DC w F (.clo f caps) (.func (.func f) #[] us.toArray)

/-! ### The call's own memory -/
inductive Own where
  | dead
  | box (ty : TypeId) (cs : List Cell)
  | row (ty : TypeId) (k : ElK) (xs : List k.T)
  | tail (ty : TypeId) (k : ElK) (xs : List k.T)
  | deep (ty ety : TypeId) (e : ElB) (xs : List (List e.T)) (g : Nat → Bool)
/-- Whether the place holds a row, whole or the tail of one. -/
def Own.rowy : Own → Prop
  | .row .. => True
  | .tail .. => True
  | .deep .. => True
  | _ => False

structure Loc where
  ver : Nat
  obj : Own

structure St where
  slots : Nat → AV
  own : Nat → Loc

def upd {α : Type} (f : Nat → α) (t : Nat) (x : α) : Nat → α := fun n => bif Nat.beq n t then x else f n

theorem upd_eq {α : Type} (f : Nat → α) (t : Nat) (x : α) : upd f t x t = x := by simp [upd]
theorem upd_ne {α : Type} (f : Nat → α) {t n : Nat} (x : α) (h : n ≠ t) : upd f t x n = f n := by
  have : Nat.beq n t = false := by
    cases hb : Nat.beq n t
    · rfl
    · exact absurd (Nat.eq_of_beq_eq_true hb) h
  simp [upd, this]
theorem upd_self {α : Type} {f : Nat → α} {t : Nat} {x : α} (h : f t = x) : upd f t x = f := by
  funext n
  by_cases e : n = t
  · subst e; rw [upd_eq, h]
  · rw [upd_ne _ _ e]

/-- Where the value of a place stands, and those of its inner rows. -/
def pl (l : Nat) : Nat := 2 * l
def inn (l i : Nat) : Nat := 2 * (2 ^ l * (2 * i + 1)) + 1
theorem inn_pl (l i m : Nat) : inn l i ≠ pl m := fun e => by unfold inn pl at e; omega
theorem pow_odd : ∀ {l m i j : Nat}, 2 ^ l * (2 * i + 1) = 2 ^ m * (2 * j + 1) → l = m ∧ i = j
  | 0, 0, i, j, h => ⟨rfl, by simp at h; omega⟩
  | 0, m + 1, i, j, h => by
    rw [Nat.pow_succ, Nat.mul_right_comm] at h
    generalize 2 ^ m * (2 * j + 1) = q at h
    simp at h
    omega
  | l + 1, 0, i, j, h => by
    rw [Nat.pow_succ, Nat.mul_right_comm] at h
    generalize 2 ^ l * (2 * i + 1) = q at h
    simp at h
    omega
  | l + 1, m + 1, i, j, h => by
    rw [Nat.pow_succ, Nat.pow_succ, Nat.mul_right_comm, Nat.mul_right_comm (2 ^ m)] at h
    obtain ⟨h1, h2⟩ := pow_odd (Nat.eq_of_mul_eq_mul_right (show 0 < 2 by decide) h)
    exact ⟨by rw [h1], h2⟩
theorem inn_inj {l i m j : Nat} (h : inn l i = inn m j) : l = m ∧ i = j := by
  unfold inn at h
  exact pow_odd (by omega)
theorem pl_ne {l m : Nat} (h : l ≠ m) : pl l ≠ pl m := fun e => h (by unfold pl at e; omega)

/-- The block behind an address that is written out. -/
def blk : Value → Option Nat
  | .pointer (some ⟨b, 0, none⟩) => some b
  | .slice (some ⟨b, _, none⟩) _ _ => some b
  | _ => none

def CellC (w : World) (F : Nat → Prop) (ρ : Nat → Value) (own : Nat → Loc) : Cell → Value → Prop
  | .d x, v => DC w F x v
  | .own l ver, v => v.oneCell' = true ∧ ver ≤ (own l).ver ∧ ((own l).ver = ver ∧ (own l).obj.rowy → v = ρ (pl l))
  | .ptr l ver i j, v => v.oneCell' = true ∧ ver ≤ (own l).ver ∧ ((own l).ver = ver → match (own l).obj with
    | .dead => True
    | .deep _ _ _ xs g => match j with
      | 0 => ∃ b, blk (ρ (pl l)) = some b ∧ v = .pointer (some ⟨b, i, none⟩)
      | m + 1 => ∀ x, xs[i]? = some x → g i = false → ∃ b, blk (ρ (inn l i)) = some b ∧ v = .pointer (some ⟨b, m, none⟩)
    | .box _ _ => ∃ b, blk (ρ (pl l)) = some b ∧ v = .pointer (some ⟨b, j, none⟩) ∧ i = 0
    | .row _ k _ => ∃ b, blk (ρ (pl l)) = some b ∧ v = .pointer (some ⟨b, i * k.size + j, none⟩)
    | .tail _ k _ => ∃ b off n c, ρ (pl l) = .slice (some ⟨b, off, none⟩) n c ∧ v = .pointer (some ⟨b, off + (i * k.size + j), none⟩))
  | .sub l ver off n, v => v.oneCell' = true ∧ ver ≤ (own l).ver ∧ ((own l).ver = ver → (∀ ty k xs, (own l).obj = .row ty k xs → ∃ b c, blk (ρ (pl l)) = some b ∧ n ≤ c ∧ v = .slice (some ⟨b, off * k.size, none⟩) n c) ∧
      ∀ ty ety e xs g x, (own l).obj = .deep ty ety e xs g → xs[off]? = some x → g off = false → v = ρ (inn l off))

def CellsG (C : Cell → Value → Prop) (cs : List Cell) (vs : List Value) : Prop :=
  vs.length = cs.length ∧ ∀ (j : Nat) c v, cs[j]? = some c → vs[j]? = some v → C c v

def SumG (C : Cell → Value → Prop) : Cell ⊕ List Cell → Value → Prop
  | .inl c, v => C c v
  | .inr cs, v => ∃ vs : List Value, v = .agg vs.toArray ∧ CellsG C cs vs

def AVG (C : Cell → Value → Prop) : AV → Value → Prop
  | .one c, v => C c v
  | .agg cs, v => ∃ vs : List Value, v = .agg vs.toArray ∧ CellsG C cs vs
  | .tup xs, v => ∃ vs : List Value, v = .tuple vs.toArray ∧ vs.length = xs.length ∧ ∀ (j : Nat) x u, xs[j]? = some x → vs[j]? = some u → SumG C x u
  | .junk, _ => True

abbrev CellsC (w : World) (F : Nat → Prop) (ρ : Nat → Value) (own : Nat → Loc) := CellsG (CellC w F ρ own)
abbrev SumC (w : World) (F : Nat → Prop) (ρ : Nat → Value) (own : Nat → Loc) := SumG (CellC w F ρ own)
abbrev AVC (w : World) (F : Nat → Prop) (ρ : Nat → Value) (own : Nat → Loc) := AVG (CellC w F ρ own)

theorem CellsG.imp {C C' : Cell → Value → Prop} {cs : List Cell} {vs : List Value} (h : ∀ c v, c ∈ cs → C c v → C' c v) (s : CellsG C cs vs) : CellsG C' cs vs :=
  ⟨s.1, fun j c v hc hv => h c v (List.mem_of_getElem? hc) (s.2 j c v hc hv)⟩

/-- The cells 'vs' hold the elements xs, one behind the other. -/
def RowC (w : World) (F : Nat → Prop) (k : ElK) (xs : List k.T) (vs : List Value) : Prop :=
  (∀ v ∈ vs, v.oneCell' = true) ∧ ∀ i x, xs[i]? = some x → ∃ us : List Value, us.length = k.size ∧ Elem w F k x us ∧ ∀ j u, us[j]? = some u → vs[i * k.size + j]? = some u

/-- The tail of a row: from somewhere inside its block on. -/
def TailOk (w : World) (ty : TypeId) (size : Nat) (v : Value) (n : Nat) (vs : List Value) : Prop :=
  ∃ g off cap cur, v = .slice (some ⟨g, off, none⟩) n cap ∧ w.heap[g]? = some (.cells cur ty (0, 0)) ∧ n ≤ cap ∧ cap ≤ maxLen ∧ (0 < cap → cur.size = off + cap * size) ∧ vs = (cur.toList.drop off).take (n * size) ∧ vs.length = n * size
theorem TailOk.of {w w' : World} {ty : TypeId} {size : Nat} {v : Value} {n : Nat} {vs : List Value} (h : TailOk w ty size v n vs) (hb : ∀ b, blk v = some b → w'.heap[b]? = w.heap[b]?) : TailOk w' ty size v n vs := by
  obtain ⟨g, off, cap, cur, hv, hh, r⟩ := h
  exact ⟨g, off, cap, cur, hv, (hb g (by rw [hv]; rfl)).trans hh, r⟩
def OwnOk (w : World) (N F : Nat → Prop) (ρ : Nat → Value) (own : Nat → Loc) (l : Nat) : Own → Prop
  | .dead => True
  | .box ty cs => ∃ b vs, ρ (pl l) = .pointer (some ⟨b, 0, none⟩) ∧ w.heap[b]? = some (.cells vs ty (0, 0)) ∧ CellsC w F ρ own cs vs.toList ∧ (∀ v ∈ vs.toList, v.oneCell' = true) ∧ N b ∧ ¬ F b
  | .row ty k xs => ∃ vs, w.ownsRow 0 ty k.size (ρ (pl l)) xs.length vs ∧ RowC w F k xs vs ∧ ∀ b, blk (ρ (pl l)) = some b → N b ∧ ¬ F b
  | .tail ty k xs => ∃ vs, TailOk w ty k.size (ρ (pl l)) xs.length vs ∧ RowC w F k xs vs ∧ ∀ b, blk (ρ (pl l)) = some b → N b ∧ ¬ F b
  | .deep ty ety e xs g => ∃ vs, w.ownsRow 0 ty 1 (ρ (pl l)) xs.length vs ∧ (∀ v ∈ vs, v.oneCell' = true) ∧ (∀ b, blk (ρ (pl l)) = some b → N b ∧ ¬ F b) ∧
      ∀ i x, xs[i]? = some x → g i = false → vs[i]? = some (ρ (inn l i)) ∧ (∃ us, w.ownsRow 0 ety (ElK.b e).size (ρ (inn l i)) x.length us ∧ RowC w F (.b e) x us) ∧
        ∀ b, blk (ρ (inn l i)) = some b → N b ∧ ¬ F b ∧ blk (ρ (pl l)) ≠ some b ∧ ∀ j y, j ≠ i → xs[j]? = some y → g j = false → blk (ρ (inn l j)) ≠ some b
/-- The blocks of a place. -/
def holds (ρ : Nat → Value) (l : Nat) : Own → Nat → Prop
  | .deep _ _ _ xs g, b => blk (ρ (pl l)) = some b ∨ ∃ i x, xs[i]? = some x ∧ g i = false ∧ blk (ρ (inn l i)) = some b
  | _, b => blk (ρ (pl l)) = some b
theorem holds_step {ρ ρ' : Nat → Value} {l b : Nat} {o : Own} (h1 : ρ' (pl l) = ρ (pl l)) (h2 : ∀ i, ρ' (inn l i) = ρ (inn l i)) (h : holds ρ' l o b) : holds ρ l o b := by
  cases o <;> simp only [holds, h1, h2] at h ⊢ <;> exact h
theorem holds_of {ρ : Nat → Value} {l b : Nat} : ∀ {o : Own}, blk (ρ (pl l)) = some b → holds ρ l o b
  | .deep .., h => .inl h
  | .dead, h => h
  | .box .., h => h
  | .row .., h => h
  | .tail .., h => h

def Own.live : Own → Bool
  | .dead => false
  | _ => true

structure Mem (w : World) (N F : Nat → Prop) (ρ : Nat → Value) (own : Nat → Loc) : Prop where
  ok : ∀ l, OwnOk w N F ρ own l (own l).obj
  apart : ∀ l l' b, l ≠ l' → (own l).obj.live = true → (own l').obj.live = true → holds ρ l (own l).obj b → holds ρ l' (own l').obj b → False
  fin : ∀ b, F b → b < w.heap.size

/-- What a call may have done to what was there: of the blocks in F nothing has turned. -/
structure Ext (w : World) (F : Nat → Prop) (w' : World) (F' : Nat → Prop) : Prop where
  os : w'.os = w.os
  tape : w'.tape = w.tape
  output : w'.output = w.output
  size : w.heap.size ≤ w'.heap.size
  block : ∀ b, F b → w'.heap[b]? = w.heap[b]?
  sub : ∀ b, F b → F' b

theorem Ext.refl (w : World) (F : Nat → Prop) : Ext w F w F := ⟨rfl, rfl, rfl, Nat.le_refl _, fun _ _ => rfl, fun _ h => h⟩
theorem Ext.trans {w w' w'' : World} {F F' F'' : Nat → Prop} (h : Ext w F w' F') (k : Ext w' F' w'' F'') : Ext w F w'' F'' :=
  ⟨k.os.trans h.os, k.tape.trans h.tape, k.output.trans h.output, Nat.le_trans h.size k.size, fun b hb => (k.block b (h.sub b hb)).trans (h.block b hb), fun b hb => k.sub b (h.sub b hb)⟩

theorem block_add (a : Addr) (n : Nat) : (a.add n).block = a.block := by unfold Addr.add; split <;> rfl

theorem Ext.cell {w w' : World} {F F' : Nat → Prop} (h : Ext w F w' F') {a : Addr} (ha : F a.block) : w'.cell? a = w.cell? a :=
  World.cell?_of_block (w := w) (h.block a.block ha)

theorem SLg.mono {w w' : World} {F F' : Nat → Prop} {size : Nat} {α : Type} {E E' : α → List Value → Prop} {xs : List α} {v : Value}
    (h : Ext w F w' F') (hE : ∀ x us, E x us → E' x us) (s : SLg w F size E xs v) : SLg w' F' size E' xs v := by
  rcases s with s | ⟨ad, c, hv, hc, hF, hx⟩
  · exact .inl s
  · refine .inr ⟨ad, c, hv, hc, hF.imp id (h.sub _), fun i x hi => ?_⟩
    obtain ⟨us, hl, he, hu⟩ := hx i x hi
    exact ⟨us, hl, hE x us he, fun j u hj => (h.cell (by rw [block_add]; exact hF.resolve_left (fun e => by rw [e] at hi; simp at hi))).trans (hu j u hj)⟩

theorem Elem.mono {w w' : World} {F F' : Nat → Prop} (h : Ext w F w' F') : ∀ (k : ElK) (x : k.T) (us : List Value), Elem w F k x us → Elem w' F' k x us
  | .b _, _, _, e => e
  | .s _, _, _, ⟨u, hu, hs⟩ => ⟨u, hu, SLg.mono h (fun _ _ e => e) hs⟩

theorem SLK.mono {w w' : World} {F F' : Nat → Prop} (h : Ext w F w' F') {k : ElK} {xs : List k.T} {v : Value} (s : SLK w F k xs v) : SLK w' F' k xs v :=
  SLg.mono h (fun x us => Elem.mono h k x us) s

theorem DC.mono {w w' : World} {F F' : Nat → Prop} (h : Ext w F w' F') {x : D} {v : Value} (s : DC w F x v) : DC w' F' x v := by
  induction s with
  | int k n => exact .int k n
  | bool b => exact .bool b
  | nil => exact .nil
  | sl hn hs => exact .sl hn (SLK.mono h hs)
  | full hs hc => exact .full (SLK.mono h hs) hc
  | ptr ad us hl hF h1 _ ih => exact .ptr ad us hl (h.sub _ hF) (fun j u hj => (h.cell (by rw [block_add]; exact hF)).trans (h1 j u hj)) ih
  | clo us hl _ ih => exact .clo us hl ih

theorem DC.oneCell {w : World} {F : Nat → Prop} {x : D} {v : Value} (s : DC w F x v) : v.oneCell' = true := by
  cases s with
  | sl _ hs => rcases hs with ⟨rfl, _⟩ | ⟨ad, c, rfl, _⟩ <;> rfl
  | full hs _ => rcases hs with ⟨rfl, _⟩ | ⟨ad, c, rfl, _⟩ <;> rfl
  | _ => rfl

theorem CellC.oneCell {w : World} {F : Nat → Prop} {ρ : Nat → Value} {own : Nat → Loc} {c : Cell} {v : Value} (h : CellC w F ρ own c v) : v.oneCell' = true := by
  cases c with
  | d x => exact DC.oneCell h
  | own l ver => exact h.1
  | ptr l ver i j => exact h.1
  | sub l ver off n => exact h.1

theorem cells_one {v : Value} (h : v.oneCell' = true) : v.cells = #[v] := by cases v <;> first | rfl | cases h

theorem CellC.mono {w w' : World} {F F' : Nat → Prop} {ρ : Nat → Value} {own : Nat → Loc} (h : Ext w F w' F') {c : Cell} {v : Value} (s : CellC w F ρ own c v) : CellC w' F' ρ own c v := by
  cases c with
  | d x => exact DC.mono h s
  | own l ver => exact s
  | ptr l ver i j => exact s
  | sub l ver off n => exact s

theorem CellsC.mono {w w' : World} {F F' : Nat → Prop} {ρ : Nat → Value} {own : Nat → Loc} (h : Ext w F w' F') {c : List Cell} {v : List Value} (s : CellsC w F ρ own c v) : CellsC w' F' ρ own c v :=
  ⟨s.1, fun j c v hc hv => (s.2 j c v hc hv).mono h⟩

theorem SumC.mono {w w' : World} {F F' : Nat → Prop} {ρ : Nat → Value} {own : Nat → Loc} (h : Ext w F w' F') {c : Cell ⊕ List Cell} {v : Value} (s : SumC w F ρ own c v) : SumC w' F' ρ own c v := by
  cases c with
  | inl c => exact CellC.mono h s
  | inr cs => obtain ⟨vs, hv, hs⟩ := s; exact ⟨vs, hv, CellsC.mono h hs⟩

theorem AVC.mono {w w' : World} {F F' : Nat → Prop} {ρ : Nat → Value} {own : Nat → Loc} (h : Ext w F w' F') {c : AV} {v : Value} (s : AVC w F ρ own c v) : AVC w' F' ρ own c v := by
  cases c with
  | one c => exact CellC.mono h s
  | agg cs => obtain ⟨vs, hv, hs⟩ := s; exact ⟨vs, hv, CellsC.mono h hs⟩
  | tup xs => obtain ⟨vs, hv, hl, hs⟩ := s; exact ⟨vs, hv, hl, fun j x u hx hu => SumC.mono h (hs j x u hx hu)⟩
  | junk => trivial

theorem RowC.mono {w w' : World} {F F' : Nat → Prop} (h : Ext w F w' F') {k : ElK} {xs : List k.T} {vs : List Value} (s : RowC w F k xs vs) : RowC w' F' k xs vs :=
  ⟨s.1, fun i x hi => let ⟨us, hl, he, hu⟩ := s.2 i x hi; ⟨us, hl, Elem.mono h k x us he, hu⟩⟩

theorem blk_own {w : World} {base : Nat} {e : TypeId} {size : Nat} {v : Value} {n : Nat} {vs : List Value} (h : w.ownsRow base e size v n vs) {b : Nat} (hb : blk v = some b) : v.ownBlock = some b := by
  rcases h.2 with ⟨rfl, _⟩ | ⟨g, cap, cur, rfl, _⟩
  · simp [blk] at hb
  · simpa [blk, Value.ownBlock] using hb

theorem own_blk {w : World} {base : Nat} {e : TypeId} {size : Nat} {v : Value} {n : Nat} {vs : List Value} (h : w.ownsRow base e size v n vs) {b : Nat} (hb : v.ownBlock = some b) : blk v = some b := by
  rcases h.2 with ⟨rfl, _⟩ | ⟨g, cap, cur, rfl, _⟩
  · simp [Value.ownBlock] at hb
  · simpa [blk, Value.ownBlock] using hb

theorem lt_of_block {w : World} {b : Nat} {o : Obj} (h : w.heap[b]? = some o) : b < w.heap.size := by
  rcases Nat.lt_or_ge b w.heap.size with h' | h'
  · exact h'
  · rw [Array.getElem?_eq_none h'] at h; cases h

/-- One own place is kept where its block is kept. -/
theorem OwnOk.mono {w w' : World} {N F F' : Nat → Prop} {ρ : Nat → Value} {own : Nat → Loc} {l : Nat} {o : Own} (hext : Ext w F w' F')
    (hb : ∀ b, holds ρ l o b → b < w.heap.size → N b → ¬ F b → w'.heap[b]? = w.heap[b]? ∧ ¬ F' b) (h : OwnOk w N F ρ own l o) : OwnOk w' N F' ρ own l o := by
  cases o with
  | dead => trivial
  | box ty cs =>
    obtain ⟨b, vs, hρ, hh, hc, h1, hN, hn⟩ := h
    obtain ⟨k1, k2⟩ := hb b (show blk (ρ (pl l)) = some b by rw [hρ]; rfl) (lt_of_block hh) hN hn
    exact ⟨b, vs, hρ, k1.trans hh, hc.mono hext, h1, hN, k2⟩
  | row ty k xs =>
    obtain ⟨vs, hw, hc, hn⟩ := h
    refine ⟨vs, ⟨hw.1, ?_⟩, hc.mono hext, fun b hbl => ?_⟩
    · rcases hw.2 with h | ⟨g, cap, cur, hv, hg, hh, r⟩
      · exact .inl h
      · have hbl : blk (ρ (pl l)) = some g := by rw [hv]; rfl
        exact .inr ⟨g, cap, cur, hv, hg, (hb g hbl (lt_of_block hh) (hn g hbl).1 (hn g hbl).2).1.trans hh, r⟩
    · have hlt := (hw.lt b (blk_own hw hbl)).2
      exact ⟨(hn b hbl).1, (hb b hbl hlt (hn b hbl).1 (hn b hbl).2).2⟩
  | tail ty k xs =>
    obtain ⟨vs, hw, hc, hn⟩ := h
    have hlt : ∀ b, blk (ρ (pl l)) = some b → b < w.heap.size := fun b hbl => by
      obtain ⟨g, off, cap, cur, hv, hh, -⟩ := hw
      rw [hv] at hbl
      simp only [blk, Option.some.injEq] at hbl
      subst hbl
      exact lt_of_block hh
    exact ⟨vs, hw.of fun b hbl => (hb b hbl (hlt b hbl) (hn b hbl).1 (hn b hbl).2).1, hc.mono hext, fun b hbl => ⟨(hn b hbl).1, (hb b hbl (hlt b hbl) (hn b hbl).1 (hn b hbl).2).2⟩⟩
  | deep ty ety e xs gn =>
    obtain ⟨vs, hw, h1, hn, hin⟩ := h
    have hlt : ∀ b, blk (ρ (pl l)) = some b → b < w.heap.size := fun b hbl => (hw.lt b (blk_own hw hbl)).2
    refine ⟨vs, ⟨hw.1, ?_⟩, h1, fun b hbl => ⟨(hn b hbl).1, (hb b (.inl hbl) (hlt b hbl) (hn b hbl).1 (hn b hbl).2).2⟩, fun i x hx hgi => ?_⟩
    · rcases hw.2 with h | ⟨g, cap, cur, hv, hg, hh, r⟩
      · exact .inl h
      · have hbl : blk (ρ (pl l)) = some g := by rw [hv]; rfl
        exact .inr ⟨g, cap, cur, hv, hg, (hb g (.inl hbl) (lt_of_block hh) (hn g hbl).1 (hn g hbl).2).1.trans hh, r⟩
    · obtain ⟨q1, ⟨us, hu, hr⟩, q3⟩ := hin i x hx hgi
      refine ⟨q1, ⟨us, ⟨hu.1, ?_⟩, hr.mono hext⟩, fun b hbl => ⟨(q3 b hbl).1, (hb b (.inr ⟨i, x, hx, hgi, hbl⟩) (hu.lt b (blk_own hu hbl)).2 (q3 b hbl).1 (q3 b hbl).2.1).2, (q3 b hbl).2.2⟩⟩
      rcases hu.2 with h | ⟨g, cap, cur, hv, hg, hh, r⟩
      · exact .inl h
      · have hbl : blk (ρ (inn l i)) = some g := by rw [hv]; rfl
        exact .inr ⟨g, cap, cur, hv, hg, (hb g (.inr ⟨i, x, hx, hgi, hbl⟩) (lt_of_block hh) (q3 g hbl).1 (q3 g hbl).2.1).1.trans hh, r⟩

theorem TailOk.cell {w : World} {ty : TypeId} {size : Nat} {v : Value} {n m c g off : Nat} {vs : List Value} (h : TailOk w ty size v n vs) (hv : v = .slice (some ⟨g, off, none⟩) m c) (j : Nat) (u : Value) (hj : vs[j]? = some u) : w.cell? ⟨g, off + j, none⟩ = some u := by
  obtain ⟨g', off', cap, cur, hv', hh, -, -, -, hvs, -⟩ := h
  rw [hv] at hv'
  injection hv' with e1 e2 e3
  injection e1 with e1
  injection e1 with e1 e4
  subst e1; subst e4
  rw [hvs, List.getElem?_take] at hj
  split at hj
  · rw [List.getElem?_drop] at hj
    simp only [World.cell?, hh]
    simpa using hj
  · cases hj
theorem TailOk.lt {w : World} {ty : TypeId} {size : Nat} {v : Value} {n : Nat} {vs : List Value} (h : TailOk w ty size v n vs) {b : Nat} (hb : blk v = some b) : b < w.heap.size := by
  obtain ⟨g, off, cap, cur, hv, hh, -⟩ := h
  rw [hv] at hb
  simp only [blk, Option.some.injEq] at hb
  subst hb
  exact lt_of_block hh

/-- The own memory is kept where nothing but new blocks has come. -/
theorem Mem.grow {w w' : World} {N F F' : Nat → Prop} {ρ : Nat → Value} {own : Nat → Loc} (m : Mem w N F ρ own) (hb : Below w.heap.size w w')
    (hF : ∀ b, F' b → F b ∨ (w.heap.size ≤ b ∧ b < w'.heap.size)) (hs : ∀ b, F b → F' b) : Mem w' N F' ρ own := by
  have hext : Ext w F w' F' := ⟨hb.os, hb.tape, hb.output, hb.size, fun b h => hb.block b (m.fin b h), hs⟩
  refine ⟨fun l => (m.ok l).mono hext fun b _ hlt _ hn => ⟨hb.block b hlt, fun hf => ?_⟩, m.apart, fun b h => ?_⟩
  · rcases hF b hf with h | h
    · exact hn h
    · omega
  · rcases hF b h with h | h
    · exact Nat.lt_of_lt_of_le (m.fin b h) hb.size
    · exact h.2
end Go.Proofs.Ytfjmlaciogmndaa
