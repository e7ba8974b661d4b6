/- The quiet operations are sound. -/
import Derived.Test.YtfjmlaciogmndaaVb
import Derived.Maps.AppendAt
namespace Go.Proofs.Ytfjmlaciogmndaa
open Go.RowKit

def aggB (P : Program) (t : TypeId) : Bool := match P.underlying t with | some (.struct _) | some (.array _ _) => true | _ => false
def fieldsB (P : Program) (t : TypeId) : Option (List (Nat × Nat × Bool)) :=
  match P.underlying t with
  | some (.struct fs) => if fs.toList.all (fun f => (P.underlying f.type).isSome) then some (fs.toList.map fun f => (f.offset, P.cellsOf f.type, aggB P f.type)) else none
  | _ => none
def zeroB (P : Program) (t : TypeId) : Option (List Value) := ((P.info? t).bind (·.zero)).map (·.cells.toList)

/-- Two structs of two ints each are compared as their ints are. -/
def EqOk (P : Program) (t : TypeId) : Prop := ∀ (w : World) (x y : Operand) (a1 a2 b1 b2 : Int),
  (eqGuard .eql t x y (.agg #[.int .i64 a1, .int .i64 a2]) (.agg #[.int .i64 b1, .int .i64 b2])).run P w = .ok () w ∧
  (eqGuard .neq t x y (.agg #[.int .i64 a1, .int .i64 a2]) (.agg #[.int .i64 b1, .int .i64 b2])).run P w = .ok () w ∧
  (Op.equal t (.agg #[.int .i64 a1, .int .i64 a2]) (.agg #[.int .i64 b1, .int .i64 b2])).run P w = .ok (a1 == b1 && a2 == b2) w

def TIok (P : Program) (t : TypeId) (i : TI) : Prop :=
  (P.info? t).map (·.size) = some i.size ∧ zeroB P t = some (i.zero.map ZK.v) ∧ aggB P t = i.agg ∧ (P.underlying t).isSome = true ∧
  match i.kind with
  | .int k => P.underlying t = some (.int k)
  | .bool => P.underlying t = some .bool
  | .slice e k b z => P.underlying t = some (.slice e) ∧ (P.info? e).map (fun i => (i.size, i.bytes)) = some (k.size, b) ∧ zeroB P e = some (z.map ZK.v) ∧ z.length = k.size
  | .struct fs eqp => fieldsB P t = some fs ∧ (eqp = true → EqOk P t)
  | .other => True

def noRho : Nat → Value := fun _ => .bool false
def deadOwn : Nat → Loc := fun _ => ⟨0, .dead⟩

/-- What a call hands back. -/
def newB (w w' : World) (F : Nat → Prop) (s : Value) : Nat → Prop := fun b => (F b ∨ (w.heap.size ≤ b ∧ b < w'.heap.size)) ∧ blk s ≠ some b
/-- A cell of a result: data in blocks of G, or the new row s. -/
def RetCell (w' : World) (G : Nat → Prop) (s : Option Value) : Cell → Value → Prop
  | .d x, v => DC w' G x v
  | .own _ _, v => s = some v
  | .ptr .., _ => False
  | .sub .., _ => False
def RetC (w w' : World) (F : Nat → Prop) (r : RV) (v : Value) : Prop :=
  match r.row with
  | none => AVG (RetCell w' (fun b => F b ∨ (w.heap.size ≤ b ∧ b < w'.heap.size)) none) r.av v
  | some R => ∃ s vs, w'.ownsRow w.heap.size R.ty R.k.size s R.xs.length vs ∧ RowC w' (newB w w' F s) R.k R.xs vs ∧ nilOk R.nl s ∧ AVG (RetCell w' (newB w w' F s) (some s)) r.av v

/-- A row of rows at s, each inner row with a block of its own; all these blocks are in G. -/
def DeepAt (w : World) (G F : Nat → Prop) (ty ety : TypeId) (e : ElB) (xs : List (List e.T)) (s : Value) (inner : Nat → Value) : Prop :=
  ∃ vs, w.ownsRow 0 ty 1 s xs.length vs ∧ (∀ v ∈ vs, v.oneCell' = true) ∧ (∀ b, blk s = some b → G b) ∧
    ∀ i x, xs[i]? = some x → vs[i]? = some (inner i) ∧ (∃ us, w.ownsRow 0 ety (ElK.b e).size (inner i) x.length us ∧ RowC w F (.b e) x us) ∧
      ∀ b, blk (inner i) = some b → G b ∧ blk s ≠ some b ∧ ∀ j y, j ≠ i → xs[j]? = some y → blk (inner j) ≠ some b
def newD (w w' : World) (F : Nat → Prop) (s : Value) (inner : Nat → Value) (n : Nat) : Nat → Prop := fun b => (F b ∨ (w.heap.size ≤ b ∧ b < w'.heap.size)) ∧ blk s ≠ some b ∧ ∀ i, i < n → blk (inner i) ≠ some b
/-- What a call hands back where the result is a row of new rows. -/
def RetD (w w' : World) (F : Nat → Prop) (ety : TypeId) (r : RV) (v : Value) : Prop :=
  match r.row with
  | none => RetC w w' F r v
  | some ⟨ty, nl, .s e, xs⟩ => ∃ s inner, DeepAt w' (fun b => w.heap.size ≤ b) (fun _ => False) ty ety e xs s inner ∧ nilOk nl s ∧ AVG (RetCell w' (newD w w' F s inner xs.length) (some s)) r.av v
  | some _ => RetC w w' F r v
def RetX (w w' : World) (F : Nat → Prop) (dp : Option TypeId) (r : RV) (v : Value) : Prop :=
  match dp with
  | none => RetC w w' F r v
  | some ety => RetD w w' F ety r v

/-- A contract holds of a function. -/
def Sound (P : Program) (f : FuncId) (con : Con) : Prop :=
  ∀ (w : World) (F : Nat → Prop) (args : List AV) (vs : List Value) (x : con.X), con.pat args = some x → con.pre x → (∀ b, F b → b < w.heap.size) →
    vs.length = args.length → (∀ (j : Nat) y v, args[j]? = some y → vs[j]? = some v → AVC w F noRho deadOwn y v) →
    Calls P f vs.toArray w fun e w' => ∃ v, e = .returned v ∧ Below w.heap.size w w' ∧ RetX w w' F con.dp (con.res x) v

/-- A cell of an argument of a callee that writes: data, or the value s of the row. -/
def ArgCell (w : World) (F : Nat → Prop) (s : Value) : Cell → Value → Prop
  | .d x, v => DC w F x v
  | .own _ _, v => v = s
  | .ptr .., _ => False
  | .sub .., _ => False
/-- A contract of a callee that writes the row of one argument. -/
def SoundW (P : Program) (f : FuncId) (con : ConW) : Prop :=
  ∀ (w : World) (F : Nat → Prop) (args : List AV) (vs : List Value) (a : AV) (l ver : Nat) (x : con.X) (s : Value) (k : ElK) (xs ys : List k.T) (cells : List Value),
    nthA args con.wi = some a → ownCell a = some (l, ver) → othersD con.wi args = true → con.pat (setA args con.wi (ownAs a (.d (.sl none k xs)))) = some x → con.pre x → castL k (con.out x).k (con.out x).ys = some ys → k.base = true →
    (∀ b, F b → b < w.heap.size) → vs.length = args.length → (∀ (j : Nat) y v, args[j]? = some y → vs[j]? = some v → AVG (ArgCell w F s) y v) →
    w.ownsRow 0 con.ty k.size s xs.length cells → RowC w F k xs cells → (∀ b, blk s = some b → b < w.heap.size ∧ ¬ F b) → s.oneCell' = true →
    Calls P f vs.toArray w fun e w' => ∃ v s' cells', e = .returned v ∧ w.grownBy w' (blk s) ∧ (∀ b, blk s' = some b → blk s = some b ∨ w.heap.size ≤ b) ∧ w'.ownsRow 0 con.ty k.size s' ys.length cells' ∧ RowC w' F k ys cells' ∧ s'.oneCell' = true ∧
      match (con.out x).trunc with
      | true => v = s'
      | false => s' = s ∧ AVG (RetCell w' (fun _ => False) none) (con.av x) v

/-- A contract of a callee that writes the inner rows of one argument. -/
def SoundD (P : Program) (f : FuncId) (con : ConD) : Prop :=
  ∀ (w : World) (F : Nat → Prop) (args : List AV) (vs : List Value) (a : AV) (l ver : Nat) (x : con.X) (s : Value) (xs : List (List Int)) (inner : Nat → Value),
    nthA args con.wi = some a → ownCell a = some (l, ver) → othersD con.wi args = true → con.pat (setA args con.wi (ownAs a (.d (.sl none (.s .int) xs)))) = some x → con.pre x → (con.out x).length = xs.length →
    (∀ b, F b → b < w.heap.size) → vs.length = args.length → (∀ (j : Nat) y v, args[j]? = some y → vs[j]? = some v → AVG (ArgCell w F s) y v) →
    DeepAt w (fun b => b < w.heap.size ∧ ¬ F b) (fun _ => False) con.ty con.ety .int xs s inner → s.oneCell' = true →
    Calls P f vs.toArray w fun e w' => ∃ v, e = .returned v ∧ w'.os = w.os ∧ w'.tape = w.tape ∧ w'.output = w.output ∧ w.heap.size ≤ w'.heap.size ∧
      (∀ b, b < w.heap.size → blk s ≠ some b → (∀ i, i < xs.length → blk (inner i) ≠ some b) → w'.heap[b]? = w.heap[b]?) ∧
      DeepAt w' (fun b => b < w.heap.size ∧ ¬ F b) (fun _ => False) con.ty con.ety .int (con.out x) s inner ∧ AVG (RetCell w' (fun _ => False) none) (con.av x) v

structure CfgOk (P : Program) (c : Cfg) : Prop where
  ty : ∀ t i, c.ty t = some i → TIok P t i
  con : ∀ f k, c.con f = some k → Sound P f k ∧ (∃ fn, P.funcs[f]? = some fn ∧ (fn.name == "runtime.NumGoroutine") = false ∧ fn.body.isNone = false)
  conw : ∀ f k, c.conw f = some k → SoundW P f k ∧ (∃ fn, P.funcs[f]? = some fn ∧ (fn.name == "runtime.NumGoroutine") = false ∧ fn.body.isNone = false)
  cond : ∀ f k, c.cond f = some k → SoundD P f k ∧ (∃ fn, P.funcs[f]? = some fn ∧ (fn.name == "runtime.NumGoroutine") = false ∧ fn.body.isNone = false)

section
variable {P : Program} {w : World} {F : Nat → Prop} {ρ : Nat → Value} {own : Nat → Loc}

theorem absCell_ok : ∀ {v : Value} {c : Cell}, absCell v = some c → CellC w F ρ own c v := by
  intro v c h
  unfold absCell at h
  split at h <;> first | (injection h with h; subst h; first | exact DC.int _ _ | exact DC.bool _ | exact DC.nil) | cases h

theorem absCells_ok : ∀ {vs : List Value} {cs : List Cell}, absCells vs = some cs → CellsC w F ρ own cs vs
  | [], cs, h => by
    simp only [absCells, Option.some.injEq] at h
    subst h
    exact ⟨rfl, fun j c v hc => by simp at hc⟩
  | v :: r, cs, h => by
    unfold absCells at h
    split at h
    · rename_i c cs' h1 h2
      injection h with h
      subst h
      obtain ⟨hl, hx⟩ := absCells_ok h2
      refine ⟨by simp [hl], fun j c' v' hc hv => ?_⟩
      cases j with
      | zero =>
        simp at hc hv
        subst hc; subst hv
        exact absCell_ok h1
      | succ j =>
        simp at hc hv
        exact hx j c' v' hc hv
    · cases h

theorem absV_ok (v : Value) : AVC w F ρ own (absV v) v := by
  unfold absV
  split
  · rename_i cs
    split
    · rename_i l h
      exact ⟨cs.toList, by simp, absCells_ok h⟩
    · trivial
  · split
    · rename_i c h
      exact absCell_ok h
    · trivial

theorem ev_ok {slots : Nat → AV} {a : Act} (hs : ∀ t, AVC w F ρ own (slots t) (a.tmps.getD t undef)) (x : Operand) : AVC w F ρ own (evA slots x) (a.eval x) := by
  cases x with
  | tmp t => exact hs t
  | const v => exact absV_ok v
  | global g => trivial
  | func f =>
    show DC w F (.clo f []) (.func (.func f) #[] #[])
    exact DC.clo (us := []) rfl (fun j x u hx => by simp at hx)

/-- What is asked of an operation that writes nothing: it yields what the abstract value says; new blocks may have come. -/
def Yield (P : Program) (o : Oper) (a : Act) (w : World) (F : Nat → Prop) (ρ : Nat → Value) (own : Nat → Loc) (x : AV) (Q : Exit → Act → World → Prop) : Prop :=
  o.wp P a w (fun a' w' => ∃ u F', a' = a.put o.dst u ∧ Below w.heap.size w w' ∧ (∀ b, F b → F' b) ∧ (∀ b, F' b → F b ∨ (w.heap.size ≤ b ∧ b < w'.heap.size)) ∧ AVC w' F' ρ own x u) Q

theorem Yield.pure {o : Oper} {a : Act} {x : AV} {Q : Exit → Act → World → Prop} {u : Value} (h : (execOp a.eval o).run P w = .ok (.value u) w) (hx : AVC w F ρ own x u) : Yield P o a w F ρ own x Q := by
  unfold Yield Oper.wp
  rw [h]
  exact ⟨u, F, rfl, Below.refl _ _, fun _ h => h, fun _ h => .inl h, hx⟩

/-- One new block, that is looked at from now on. -/
theorem Yield.new {o : Oper} {a : Act} {x : AV} {Q : Exit → Act → World → Prop} {u : Value} {ob : Obj} (h : (execOp a.eval o).run P w = .ok (.value u) (w.alloc ob))
    (hx : AVC (w.alloc ob) (fun b => F b ∨ b = w.heap.size) ρ own x u) : Yield P o a w F ρ own x Q := by
  unfold Yield Oper.wp
  rw [h]
  exact ⟨u, _, rfl, (Below.refl _ _).alloc (Nat.le_refl _) _, fun _ h => .inl h, fun b h => h.imp id (fun e => by subst e; simp), hx⟩

theorem cells_ok {x : AV} {cs : List Cell} {v : Value} (hc : cells x = some cs) (h : AVC w F ρ own x v) : CellsC w F ρ own cs v.cells.toList := by
  cases x with
  | one c =>
    simp only [cells, Option.some.injEq] at hc
    subst hc
    rw [cells_one (CellC.oneCell h)]
    refine ⟨rfl, fun j c' v' hc hv => ?_⟩
    cases j with
    | zero => simp at hc hv; subst hc; subst hv; exact h
    | succ j => simp at hc
  | agg l =>
    simp only [cells, Option.some.injEq] at hc
    subst hc
    obtain ⟨vs, rfl, hvs⟩ := h
    simpa [Value.cells] using hvs
  | tup _ => cases hc
  | junk => cases hc

theorem dOf_ok : ∀ {cs : List Cell} {ds : List D}, dOf cs = some ds → cs = ds.map .d
  | [], ds, h => by simp only [dOf, Option.some.injEq] at h; subst h; rfl
  | .d x :: cs, ds, h => by
    unfold dOf at h
    split at h
    · rename_i l hl
      injection h with h
      subst h
      rw [dOf_ok hl]; rfl
    · cases h
  | .own .. :: _, ds, h => by simp [dOf] at h
  | .ptr .. :: _, ds, h => by simp [dOf] at h
  | .sub .. :: _, ds, h => by simp [dOf] at h


theorem add_add' (a : Addr) (i j : Nat) : (a.add i).add j = a.add (i + j) := by
  unfold Addr.add
  by_cases hi : i = 0 <;> by_cases hj : j = 0 <;> simp [hi, hj, Nat.add_assoc]
theorem add_zero' (a : Addr) : a.add 0 = a := rfl
theorem add_lit' (b i j : Nat) : (⟨b, i, none⟩ : Addr).add j = ⟨b, i + j, none⟩ := by
  unfold Addr.add
  by_cases hj : j = 0 <;> simp [hj]

theorem run_size {t : TypeId} {n : Nat} (h : (P.info? t).map (·.size) = some n) (w : World) : (sizeOf t).run P w = .ok n w := by
  cases hi : P.info? t with
  | none => rw [hi] at h; cases h
  | some i =>
    rw [hi] at h
    simp only [Option.map_some, Option.some.injEq] at h
    simp [sizeOf, typeInfo, hi, h]

theorem run_und {t : TypeId} {d : TypeDesc} (h : P.underlying t = some d) (w : World) : (underlying t).run P w = .ok d w := run_underlying h w

theorem run_isAgg {t : TypeId} (h : (P.underlying t).isSome = true) (w : World) : (isAgg t).run P w = .ok (aggB P t) w := by
  cases hu : P.underlying t with
  | none => rw [hu] at h; cases h
  | some d =>
    unfold isAgg aggB
    simp only [Sem.run_bind, run_und hu, Result.andThen_ok, hu]
    split <;> split <;> simp_all

theorem takeC_ok : ∀ {n : Nat} {cs l : List Cell}, takeC n cs = some l → l = cs.take n ∧ n ≤ cs.length
  | 0, cs, l, h => by simp only [takeC, Option.some.injEq] at h; subst h; simp
  | n + 1, [], l, h => by simp [takeC] at h
  | n + 1, c :: cs, l, h => by
    unfold takeC at h
    split at h
    · rename_i l' hl
      injection h with h
      subst h
      obtain ⟨h1, h2⟩ := takeC_ok hl
      exact ⟨by rw [h1]; rfl, by simp; omega⟩
    · cases h

theorem CellsC.take {cs : List Cell} {vs : List Value} (h : CellsC w F ρ own cs vs) (n : Nat) : CellsC w F ρ own (cs.take n) (vs.take n) := by
  refine ⟨by simp [h.1], fun j c v hc hv => ?_⟩
  rw [List.getElem?_take] at hc hv
  split at hc
  · rename_i hj
    rw [if_pos hj] at hv
    exact h.2 j c v hc hv
  · cases hc

theorem CellsC.drop {cs : List Cell} {vs : List Value} (h : CellsC w F ρ own cs vs) (n : Nat) : CellsC w F ρ own (cs.drop n) (vs.drop n) := by
  refine ⟨by simp [h.1], fun j c v hc hv => ?_⟩
  rw [List.getElem?_drop] at hc hv
  exact h.2 _ c v hc hv

theorem CellsC.cons {c : Cell} {v : Value} {cs : List Cell} {vs : List Value} (h0 : CellC w F ρ own c v) (h : CellsC w F ρ own cs vs) : CellsC w F ρ own (c :: cs) (v :: vs) := by
  refine ⟨by simp [h.1], fun j c' v' hc hv => ?_⟩
  cases j with
  | zero => simp at hc hv; subst hc; subst hv; exact h0
  | succ j => simp at hc hv; exact h.2 j c' v' hc hv

theorem CellsC.nil : CellsC w F ρ own [] [] := ⟨rfl, fun j c v hc => by simp at hc⟩

theorem CellsC.uncons {c : Cell} {cs : List Cell} {vs : List Value} (h : CellsC w F ρ own (c :: cs) vs) : ∃ v vs', vs = v :: vs' ∧ CellC w F ρ own c v ∧ CellsC w F ρ own cs vs' := by
  cases vs with
  | nil => have := h.1; simp at this
  | cons v vs' =>
    refine ⟨v, vs', rfl, h.2 0 c v rfl rfl, by have := h.1; simpa using this, fun j c' v' hc hv => h.2 (j + 1) c' v' (by simpa using hc) (by simpa using hv)⟩

theorem load_ok {t : TypeId} {ti : TI} (hti : TIok P t ti) {cs : List Cell} {vs : List Value} (hcs : CellsC w F ρ own cs vs) {ad : Addr}
    (hcell : ∀ (j : Nat) u, vs[j]? = some u → w.cell? (ad.add j) = some u) {p q : Prop} {y : AV} (h : loadC ti cs p = .ok q y) (hq : q) :
    p ∧ ∃ u, (Instr.loadAt t (.pointer (some ad))).run P w = .ok u w ∧ AVC w F ρ own y u := by
  obtain ⟨hsz, _, hag, hun, _⟩ := hti
  unfold loadC at h
  have hl : (Instr.loadAt t (.pointer (some ad))).run P w = ((if aggB P t = true then (do pure (Value.agg (← loadCells ad (← sizeOf t)))) else load ad : Sem Value)).run P w := by
    simp only [Instr.loadAt, Instr.sureAddr, loadVar, Sem.run_bind, Sem.run_pure, Result.andThen_ok, run_isAgg hun]
  rw [hag] at hl
  split at h
  · rename_i hagg
    split at h
    · rename_i l htk
      injection h with hp hy
      subst hp; subst hy
      refine ⟨hq, ?_⟩
      obtain ⟨h1, h2⟩ := takeC_ok htk
      subst h1
      have hlen : (vs.take ti.size).length = ti.size := by rw [List.length_take, hcs.1]; omega
      have hr := run_loadCells_list (P := P) w ad (vs.take ti.size) (fun j v hv => by
        rw [List.getElem?_take] at hv
        split at hv
        · exact hcell j v hv
        · cases hv)
      rw [hlen] at hr
      refine ⟨.agg (vs.take ti.size).toArray, ?_, vs.take ti.size, rfl, hcs.take _⟩
      rw [hl, if_pos hagg]
      simp only [Sem.run_bind, run_size hsz, Result.andThen_ok, hr, Sem.run_pure]
    · cases h
  · rename_i hagg
    split at h
    · rename_i c cs'
      injection h with hp hy
      subst hp; subst hy
      refine ⟨hq, ?_⟩
      obtain ⟨v, vs', rfl, h0, _⟩ := hcs.uncons
      have := hcell 0 v rfl
      refine ⟨v, ?_, h0⟩
      rw [hl, if_neg (by simp [hagg])]
      rw [add_zero'] at this
      simp [run_load, this]
    · cases h

theorem enc_len (k : ElK) (x : k.T) : (k.enc x).length = k.size := by
  cases k with
  | b e => cases e <;> rfl
  | s e => rfl

theorem encV_c (e : ElB) (x : e.T) : CellsC w F ρ own ((e.enc x).map .d) (e.encV x) := by
  cases e <;> simp only [ElB.enc, ElB.encV, List.map_cons, List.map_nil] <;>
    repeat' first | exact CellsC.nil | (refine CellsC.cons ?_ ?_) | exact DC.int _ _ | exact DC.bool _

theorem elem_enc {k : ElK} {x : k.T} {us : List Value} (h : Elem w F k x us) : CellsC w F ρ own ((k.enc x).map .d) us := by
  cases k with
  | b e => simp only [Elem] at h; subst h; exact encV_c e x
  | s e =>
    obtain ⟨u, rfl, hs⟩ := h
    exact CellsC.cons (DC.sl (fun b hb => by cases hb) hs) CellsC.nil

theorem getD_some {α : Type} {xs : List α} {i : Nat} {d : α} (h : i < xs.length) : xs[i]? = some (xs.getD i d) := by
  simp [List.getD, List.getElem?_eq_getElem h]

end

/-- The state in which an operation comes up. -/
structure Here (P : Program) (c : Cfg) (N F : Nat → Prop) (ρ : Nat → Value) (own : Nat → Loc) (slots : Nat → AV) (a : Act) (w : World) : Prop where
  cfg : CfgOk P c
  sl : ∀ t, AVC w F ρ own (slots t) (a.tmps.getD t undef)
  mem : Mem w N F ρ own

section
variable {P : Program} {c : Cfg} {w : World} {N F : Nat → Prop} {ρ : Nat → Value} {own : Nat → Loc} {slots : Nat → AV} {a : Act} {Q : Exit → Act → World → Prop} {o : Oper} {p : Prop} {y : AV}

theorem Here.ev (H : Here P c N F ρ own slots a w) (x : Operand) : AVC w F ρ own (evA slots x) (a.eval x) := ev_ok H.sl x

theorem Here.ev' (H : Here P c N F ρ own slots a w) {x : Operand} {y : AV} (h : evA slots x = y) : AVC w F ρ own y (a.eval x) := h ▸ H.ev x

theorem s_move (H : Here P c N F ρ own slots a w) {x : Operand} (ho : o.op = .move x ∨ o.op = .assign x) : Yield P o a w F ρ own (evA slots x) Q := by
  refine Yield.pure (u := a.eval x) ?_ (H.ev x)
  rcases ho with ho | ho <;> simp [execOp, ho]

theorem boolD {b : Bool} {v : Value} (h : DC w F (.bool b) v) : v = .bool b := by cases h; rfl
theorem intD {k : IntKind} {n : Int} {v : Value} (h : DC w F (.int k n) v) : v = .int k n := by cases h; rfl
theorem nilD {v : Value} (h : DC w F .nil v) : v = .slice none 0 0 := by cases h; rfl

theorem Here.bool (H : Here P c N F ρ own slots a w) {x : Operand} {b : Bool} (h : evA slots x = .one (.d (.bool b))) : a.eval x = .bool b := boolD (H.ev' h)
theorem Here.int (H : Here P c N F ρ own slots a w) {x : Operand} {k : IntKind} {n : Int} (h : evA slots x = .one (.d (.int k n))) : a.eval x = .int k n := intD (H.ev' h)
theorem Here.nil (H : Here P c N F ρ own slots a w) {x : Operand} (h : evA slots x = .one (.d .nil)) : a.eval x = .slice none 0 0 := nilD (H.ev' h)

theorem s_pick (H : Here P c N F ρ own slots a w) {q x z : Operand} (ho : o.op = .pick q x z) (h : aval c (evA slots) own (.pick q x z) = .ok p y) (hp : p) : Yield P o a w F ρ own y Q := by
  dsimp only [aval] at h
  split at h
  · rename_i b b1 b2 h1 h2 h3
    injection h with e1 e2
    subst e1; subst e2
    have k1 := boolD (H.ev' h1)
    have k2 := boolD (H.ev' h2)
    have k3 := boolD (H.ev' h3)
    refine Yield.pure (u := .bool (bif b then b1 else b2)) ?_ (DC.bool _)
    cases b <;> simp [execOp, ho, k1, k2, k3, asBool]
  · injection h with e1 e2
    subst e1; subst e2; subst hp
    have k1 : a.eval q = .bool false := H.bool (by assumption)
    refine Yield.pure (u := a.eval z) ?_ (H.ev z)
    simp [execOp, ho, k1, asBool]
  · injection h with e1 e2
    subst e1; subst e2; subst hp
    have k1 : a.eval q = .bool false := H.bool (by assumption)
    refine Yield.pure (u := a.eval z) ?_ (H.ev z)
    simp [execOp, ho, k1, asBool]
  · injection h with e1 e2
    subst e1; subst e2; subst hp
    have k1 : a.eval q = .bool true := H.bool (by assumption)
    refine Yield.pure (u := a.eval x) ?_ (H.ev x)
    simp [execOp, ho, k1, asBool]
  · injection h with e1 e2
    subst e1; subst e2; subst hp
    have k1 : a.eval q = .bool true := H.bool (by assumption)
    refine Yield.pure (u := a.eval x) ?_ (H.ev x)
    simp [execOp, ho, k1, asBool]
  · cases h

theorem fin_new (m : Mem w N F ρ own) (ob : Obj) : Ext w F (w.alloc ob) (fun b => F b ∨ b = w.heap.size) :=
  ⟨rfl, rfl, rfl, by simp, fun b hb => Below.heap_alloc w ob b (m.fin b hb), fun _ h => .inl h⟩

theorem heap_new (w : World) (ob : Obj) : (w.alloc ob).heap[w.heap.size]? = some ob := heap_alloc_new w ob

theorem cell_new (w : World) (cs : Array Value) (t : TypeId) (j : Nat) : (w.alloc (.cells cs t)).cell? ⟨w.heap.size, j, none⟩ = cs[j]? := by
  have h := heap_new w (.cells cs t)
  unfold World.cell?
  rw [h]
  rfl

theorem DC.ofCells {ds : List D} {us : List Value} (h : CellsC w F ρ own (ds.map .d) us) : us.length = ds.length ∧ ∀ (j : Nat) x u, ds[j]? = some x → us[j]? = some u → DC w F x u :=
  ⟨by simpa using h.1, fun j x u hx hu => h.2 j (.d x) u (by simp [hx]) hu⟩

theorem CellsC.ofDC {ds : List D} {us : List Value} (hl : us.length = ds.length) (h : ∀ (j : Nat) x u, ds[j]? = some x → us[j]? = some u → DC w F x u) : CellsC w F ρ own (ds.map .d) us := by
  refine ⟨by simpa using hl, fun j c v hc hv => ?_⟩
  simp only [List.getElem?_map] at hc
  cases hd : ds[j]? with
  | none => rw [hd] at hc; cases hc
  | some x =>
    rw [hd] at hc
    simp only [Option.map_some, Option.some.injEq] at hc
    subst hc
    exact h j x v hd hv

theorem s_box (H : Here P c N F ρ own slots a w) {t : TypeId} {x : Operand} (ho : o.op = .box t x) (h : aval c (evA slots) own (.box t x) = .ok p y) : Yield P o a w F ρ own y Q := by
  dsimp only [aval] at h
  split at h
  · rename_i cs hcs
    split at h
    · rename_i ds hds
      injection h with e1 e2
      subst e2
      have hcd := dOf_ok hds
      subst hcd
      have hc := cells_ok hcs (H.ev x)
      refine Yield.new (u := .pointer (some ⟨w.heap.size, 0, none⟩)) (ob := .cells (a.eval x).cells t) (by simp [execOp, ho, Instr.box, newVar, newRow]) ?_
      have hx := hc.mono (fin_new H.mem (.cells (a.eval x).cells t))
      obtain ⟨hl, hd⟩ := DC.ofCells hx
      refine DC.ptr _ _ hl (.inr rfl) (fun j u hu => ?_) hd
      rw [add_lit', Nat.zero_add, cell_new]
      simpa using hu
    · cases h
  · cases h

theorem load_val (H : Here P c N F ρ own slots a w) {t : TypeId} {x : Operand} (h : aval c (evA slots) own (.load t x) = .ok p y) (hp : p) :
    ∃ u ad, a.eval x = .pointer (some ad) ∧ (Instr.loadAt t (.pointer (some ad))).run P w = .ok u w ∧ AVC w F ρ own y u := by
  generalize hev : a.eval x = vx
  have fin : ∀ {ad : Addr}, vx = .pointer (some ad) → (∃ u, (Instr.loadAt t (.pointer (some ad))).run P w = .ok u w ∧ AVC w F ρ own y u) → ∃ u ad, vx = .pointer (some ad) ∧ (Instr.loadAt t (.pointer (some ad))).run P w = .ok u w ∧ AVC w F ρ own y u := by
    rintro ad he ⟨u, hr, hy⟩
    exact ⟨u, ad, he, hr, hy⟩
  dsimp only [aval] at h
  split at h
  · rename_i i ds hi hx
    have hd : DC w F (.ptr ds) (a.eval x) := H.ev' hx
    rw [hev] at hd
    cases hd with
    | ptr ad us hl hF h1 h2 =>
        exact fin rfl (load_ok (H.cfg.ty _ _ hi) (CellsC.ofDC hl h2) h1 h hp).2
  · rename_i i l ver ix j hi hx
    have hd : CellC w F ρ own (.ptr l ver ix j) (a.eval x) := H.ev' hx
    rw [hev] at hd
    have hok := H.mem.ok l
    split at h
    · rename_i ver' ty cs hl
      rw [hl] at hok
      obtain ⟨b, vs, hρ, hh, hcs, _⟩ := hok
      have key := load_ok (ad := ⟨b, j, none⟩) (H.cfg.ty _ _ hi) (hcs.drop j) (fun j' u hu => by
        rw [List.getElem?_drop] at hu
        rw [add_lit', World.cell?, hh]
        simpa using hu) h hp
      have hv := hd.2.2 (by rw [hl]; exact key.1.symm)
      simp only [hl, hρ, blk] at hv
      obtain ⟨b', hb', he, _⟩ := hv
      injection hb' with hb'
      subst hb'
      exact fin he key.2
    · rename_i ver' ty k xs hl
      rw [hl] at hok
      obtain ⟨vs, hw, hrow, _⟩ := hok
      have key0 : (ver = ver' ∧ ix < xs.length) := by
        unfold loadC at h
        split at h <;> split at h <;> first | (injection h with e1 e2; rw [← e1] at hp; exact hp) | cases h
      obtain ⟨us, hul, hel, hus⟩ := hrow.2 ix _ (getD_some (d := k.dflt) key0.2)
      have hv := hd.2.2 (by rw [hl]; exact key0.1.symm)
      simp only [hl] at hv
      obtain ⟨b, hb, he⟩ := hv
      have hcells := hw.cells (g := b) (blk_own hw hb)
      have key := load_ok (ad := ⟨b, ix * k.size + j, none⟩) (H.cfg.ty _ _ hi) ((elem_enc (ρ := ρ) (own := own) hel).drop j) (fun j' u hu => by
        rw [List.getElem?_drop] at hu
        have h3 := hcells _ _ (hus _ u hu)
        rw [add_lit', Nat.zero_add] at h3
        rw [add_lit', Nat.add_assoc]
        exact h3) h hp
      exact fin he key.2
    · rename_i ver' ty k xs hl
      rw [hl] at hok
      obtain ⟨vs, hw, hrow, _⟩ := hok
      have key0 : (ver = ver' ∧ ix < xs.length) := by
        unfold loadC at h
        split at h <;> split at h <;> first | (injection h with e1 e2; rw [← e1] at hp; exact hp) | cases h
      obtain ⟨us, hul, hel, hus⟩ := hrow.2 ix _ (getD_some (d := k.dflt) key0.2)
      have hv := hd.2.2 (by rw [hl]; exact key0.1.symm)
      simp only [hl] at hv
      obtain ⟨b, off, m, cp, hb, he⟩ := hv
      have hcells := hw.cell hb
      have key := load_ok (ad := ⟨b, off + (ix * k.size + j), none⟩) (H.cfg.ty _ _ hi) ((elem_enc (ρ := ρ) (own := own) hel).drop j) (fun j' u hu => by
        rw [List.getElem?_drop] at hu
        have h3 := hcells _ _ (hus _ u hu)
        rw [add_lit', Nat.add_assoc, Nat.add_assoc]
        exact h3) h hp
      exact fin he key.2
    · rename_i ver' ty ety e xs g hl
      rw [hl] at hok
      obtain ⟨vs, hw, h1, hn, hin⟩ := hok
      split at h
      · have key0 : (ver = ver' ∧ ix < xs.length ∧ g ix = false) := by
          unfold loadC at h
          split at h <;> split at h <;> first | (injection h with e1 e2; rw [← e1] at hp; exact hp) | cases h
        have hv := hd.2.2 (by rw [hl]; exact key0.1.symm)
        simp only [hl] at hv
        obtain ⟨b, hb, he⟩ := hv
        have hx := List.getElem?_eq_getElem key0.2.1
        obtain ⟨q1, ⟨us, hu, hr⟩, q3⟩ := hin ix _ hx key0.2.2
        have hcells := hw.cells (g := b) (blk_own hw hb)
        have hone : (ρ (inn l ix)).oneCell' = true := by rcases hu.2 with ⟨h, _⟩ | ⟨g, cap, cur, h, _⟩ <;> (rw [h]; rfl)
        have key := load_ok (F := F) (ρ := ρ) (own := own) (ad := ⟨b, ix, none⟩) (H.cfg.ty _ _ hi) (cs := [.sub l ver ix 0]) (vs := [ρ (inn l ix)]) (CellsC.cons (⟨hone, hd.2.1, fun _ => ⟨fun ty k xs hob => (by rw [hl] at hob; cases hob), fun ty0 ety0 e0 xs0 g0 x0 hob hx0 hg0 => rfl⟩⟩ : CellC w F ρ own (.sub l ver ix 0) _) CellsC.nil) (fun j' u hu' => by
          cases j' with
          | zero =>
            simp only [List.getElem?_cons_zero, Option.some.injEq] at hu'
            subst hu'
            have h3 := hcells _ _ q1
            rw [add_lit', Nat.zero_add] at h3
            exact h3
          | succ j' => simp at hu') h hp
        exact fin he key.2
      · rename_i m
        split at h
        · rename_i xs' hcast
          obtain ⟨e', he'⟩ := castBB_ok hcast
          subst e'
          subst he'
          have key0 : (ver = ver' ∧ ix < xs.length ∧ g ix = false ∧ m < (xs.getD ix []).length) := by
            unfold loadC at h
            split at h <;> split at h <;> first | (injection h with e1 e2; rw [← e1] at hp; exact hp) | cases h
          have hv := hd.2.2 (by rw [hl]; exact key0.1.symm)
          simp only [hl] at hv
          obtain ⟨b, hb, he⟩ := hv _ (getD_some (d := []) key0.2.1) key0.2.2.1
          obtain ⟨q1, ⟨us, hu, hr⟩, q3⟩ := hin ix _ (getD_some (d := []) key0.2.1) key0.2.2.1
          have hcells := hu.cells (g := b) (blk_own hu hb)
          obtain ⟨es, e1, e2, e3⟩ := hr.2 m _ (getD_some (d := (0 : Int)) key0.2.2.2)
          have key := load_ok (ad := ⟨b, m, none⟩) (H.cfg.ty _ _ hi) (cs := [.d (.int .i64 ((xs.getD ix []).getD m 0))]) (vs := es) (elem_enc (ρ := ρ) (own := own) e2) (fun j' u hu' => by
            have h3 := hcells _ _ (e3 j' u hu')
            rw [add_lit', Nat.zero_add, show m * ElK.size (.b .int) = m from Nat.mul_one _] at h3
            rw [add_lit']
            exact h3) h hp
          exact fin he key.2
        · cases h
    · cases h
  · cases h

theorem s_load (H : Here P c N F ρ own slots a w) {t : TypeId} {x : Operand} (ho : o.op = .load t x) (h : aval c (evA slots) own (.load t x) = .ok p y) (hp : p) : Yield P o a w F ρ own y Q := by
  obtain ⟨u, ad, he, hr, hy⟩ := load_val H h hp
  refine Yield.pure (u := u) ?_ hy
  simp [execOp, ho, he, hr]

theorem fields_run {s : TypeId} {fs : List (Nat × Nat × Bool)} (h : fieldsB P s = some fs) : ∃ fields, P.underlying s = some (.struct fields) ∧ (fs = fields.toList.map fun f => (f.offset, P.cellsOf f.type, aggB P f.type)) ∧ ∀ f ∈ fields.toList, (P.underlying f.type).isSome = true := by
  unfold fieldsB at h
  split at h
  · rename_i fields hu
    split at h
    · rename_i hall
      injection h with h
      exact ⟨fields, hu, h.symm, fun f hf => List.all_eq_true.1 hall f hf⟩
    · cases h
  · cases h

theorem field_at {s : TypeId} {fs : List (Nat × Nat × Bool)} {f off sz : Nat} {ag : Bool} (h : fieldsB P s = some fs) (hf : fs[f]? = some (off, sz, ag)) :
    ∃ (fields : Array Field) (fld : Field), P.underlying s = some (.struct fields) ∧ fields[f]? = some fld ∧ fld.offset = off ∧ P.cellsOf fld.type = sz ∧ aggB P fld.type = ag ∧ (P.underlying fld.type).isSome = true := by
  obtain ⟨fields, hu, rfl, hall⟩ := fields_run h
  rw [List.getElem?_map] at hf
  cases hl : fields.toList[f]? with
  | none => rw [hl] at hf; cases hf
  | some fld =>
    rw [hl] at hf
    simp only [Option.map_some, Option.some.injEq, Prod.mk.injEq] at hf
    exact ⟨fields, fld, hu, by simpa using hl, hf.1, hf.2.1, hf.2.2, hall _ (List.mem_of_getElem? hl)⟩

theorem size_of_cellsOf {t : TypeId} {n : Nat} (h : P.cellsOf t = n) (hn : n ≠ 0) : (P.info? t).map (·.size) = some n := by
  unfold Program.cellsOf at h
  cases hi : P.info? t with
  | none => rw [hi] at h; simp at h; omega
  | some i => rw [hi] at h; simpa using h

theorem run_fieldAt {s : TypeId} {fs : List (Nat × Nat × Bool)} {f off sz : Nat} {ag : Bool} (h : fieldsB P s = some fs) (hf : fs[f]? = some (off, sz, ag)) (hn : sz ≠ 0) (ad : Addr) (w : World) :
    (Instr.fieldAt s (.pointer (some ad)) f).run P w = .ok (.pointer (some (ad.add off))) w := by
  obtain ⟨fields, fld, hu, hfl, rfl, hsz, _⟩ := field_at h hf
  simp only [Instr.fieldAt, Sem.run_bind, run_und hu, Result.andThen_ok, hfl, Instr.sureAddr, Sem.run_pure, fieldPlace, run_size (size_of_cellsOf hsz hn), if_neg hn]

theorem s_fieldAddr (H : Here P c N F ρ own slots a w) {s : TypeId} {x : Operand} {f : Nat} (ho : o.op = .fieldAddr s x f) (h : aval c (evA slots) own (.fieldAddr s x f) = .ok p y) (hp : p) : Yield P o a w F ρ own y Q := by
  dsimp only [aval] at h
  split at h
  · rename_i sz0 z0 fs e0 hty
    have hti := H.cfg.ty _ _ hty
    have hfs := hti.2.2.2.2.1
    split at h
    · rename_i off sz ag hf
      split at h
      · cases h
      · rename_i hz
        have hn : sz ≠ 0 := by rintro rfl; cases hz
        split at h
        · rename_i ds hx
          split at h
          · injection h with e1 e2
            subst e1; subst e2
            have hd : DC w F (.ptr ds) (a.eval x) := H.ev' hx
            generalize he : a.eval x = vx at hd
            cases hd with
            | ptr ad us hl hF h1 h2 =>
              refine Yield.pure (u := .pointer (some (ad.add off))) (by simp [execOp, ho, he, run_fieldAt hfs hf hn ad w]) ?_
              refine DC.ptr _ (us.drop off) (by simp [hl]) (by rw [block_add]; exact hF) (fun j u hu => ?_) (fun j x u hx hu => ?_)
              · rw [List.getElem?_drop] at hu
                rw [add_add']
                exact h1 _ u hu
              · rw [List.getElem?_drop] at hu hx
                exact h2 _ x u hx hu
          · cases h
        · rename_i l ver ix j hx
          have hd : CellC w F ρ own (.ptr l ver ix j) (a.eval x) := H.ev' hx
          split at h
          · cases h
          · cases h
          · rename_i ver' ob hnd hnd2 hl
            injection h with e1 e2
            subst e1; subst e2
            have hv := hd.2.2 (by rw [hl]; exact hp.symm)
            simp only [hl] at hv
            cases ob with
            | dead => exact absurd rfl hnd
            | deep ty ety e xs g => exact absurd rfl (hnd2 ty ety e xs g)
            | box ty cs =>
              obtain ⟨b, hb, he, h0⟩ := hv
              refine Yield.pure (u := .pointer (some ⟨b, j + off, none⟩)) (by rw [← add_lit']; simp [execOp, ho, he, run_fieldAt hfs hf hn]) ?_
              refine ⟨rfl, hd.2.1, fun _ => ?_⟩
              simp only [hl]
              exact ⟨b, hb, rfl, h0⟩
            | row ty k xs =>
              obtain ⟨b, hb, he⟩ := hv
              refine Yield.pure (u := .pointer (some ⟨b, ix * k.size + (j + off), none⟩)) (by rw [← Nat.add_assoc, ← add_lit']; simp [execOp, ho, he, run_fieldAt hfs hf hn]) ?_
              refine ⟨rfl, hd.2.1, fun _ => ?_⟩
              simp only [hl]
              exact ⟨b, hb, rfl⟩
            | tail ty k xs =>
              obtain ⟨b, of, m, cp, hb, he⟩ := hv
              refine Yield.pure (u := .pointer (some ⟨b, of + (ix * k.size + (j + off)), none⟩)) (by rw [← Nat.add_assoc (ix * k.size), ← Nat.add_assoc of, ← add_lit']; simp [execOp, ho, he, run_fieldAt hfs hf hn]) ?_
              refine ⟨rfl, hd.2.1, fun _ => ?_⟩
              simp only [hl]
              exact ⟨b, of, m, cp, hb, rfl⟩
        · cases h
    · cases h
  · cases h

theorem s_unOp (H : Here P c N F ρ own slots a w) {op : UnOp} {t : TypeId} {x : Operand} (ho : o.op = .unOp op t x) (h : aval c (evA slots) own (.unOp op t x) = .ok p y) : Yield P o a w F ρ own y Q := by
  dsimp only [aval] at h
  split at h
  · rename_i k n hx
    injection h with e1 e2
    subst e2
    refine Yield.pure (u := .int k (k.wrap (0 - n))) ?_ (DC.int _ _)
    simp [execOp, ho, H.int hx, Op.unary, Op.intArith]
  · rename_i b hx
    injection h with e1 e2
    subst e2
    refine Yield.pure (u := .bool (!b)) ?_ (DC.bool _)
    simp [execOp, ho, H.bool hx, Op.unary]
  · cases h

theorem s_convert (H : Here P c N F ρ own slots a w) {src dst : TypeId} {x : Operand} (ho : o.op = .convert src dst x) (h : aval c (evA slots) own (.convert src dst x) = .ok p y) : Yield P o a w F ρ own y Q := by
  dsimp only [aval] at h
  split at h
  · rename_i ts sz z k k' n hsrc hty hx
    injection h with e1 e2
    subst e2
    have hti := H.cfg.ty _ _ hty
    have hu : P.underlying dst = some (.int k) := hti.2.2.2.2
    refine Yield.pure (u := .int k (k.wrap n)) ?_ (DC.int _ _)
    obtain ⟨d, hd⟩ := Option.isSome_iff_exists.1 (H.cfg.ty _ _ hsrc).2.2.2.1
    simp [execOp, ho, H.int hx, convert, run_und hu, run_und hd, Conv.intToInt]
  · cases h

theorem s_extract (H : Here P c N F ρ own slots a w) {x : Operand} {i : Nat} (ho : o.op = .extract x i) (h : aval c (evA slots) own (.extract x i) = .ok p y) : Yield P o a w F ρ own y Q := by
  dsimp only [aval] at h
  split at h
  · rename_i xs hx
    obtain ⟨vs, he, hl, hc⟩ := H.ev' hx
    split at h
    · rename_i z hz
      injection h with e1 e2
      subst e2
      obtain ⟨hlt, _⟩ := List.getElem?_eq_some_iff.1 hz
      have hv : vs[i]? = some (vs[i]'(by omega)) := List.getElem?_eq_getElem (by omega)
      exact Yield.pure (u := vs[i]'(by omega)) (by simp [execOp, ho, he, Instr.extract, hv]) (hc i _ _ hz hv)
    · rename_i z hz
      injection h with e1 e2
      subst e2
      obtain ⟨hlt, _⟩ := List.getElem?_eq_some_iff.1 hz
      have hv : vs[i]? = some (vs[i]'(by omega)) := List.getElem?_eq_getElem (by omega)
      exact Yield.pure (u := vs[i]'(by omega)) (by simp [execOp, ho, he, Instr.extract, hv]) (hc i _ _ hz hv)
    · cases h
  · cases h

theorem dsOf_ok : ∀ {xs : List Operand} {ds : List D}, (H : Here P c N F ρ own slots a w) → dsOf (evL (evA slots) xs) = some ds → CellsC w F ρ own (ds.map .d) (xs.map a.eval)
  | [], ds, H, h => by
    simp only [evL, List.map_nil, dsOf, Option.some.injEq] at h
    subst h; exact CellsC.nil
  | x :: xs, ds, H, h => by
    simp only [evL, List.map_cons] at h
    unfold dsOf at h
    split at h
    · rename_i hd
      cases hd
    · rename_i d r hd
      simp only [List.cons.injEq] at hd
      obtain ⟨hd1, hd2⟩ := hd
      subst hd2
      split at h
      · rename_i l hl
        injection h with h
        subst h
        exact CellsC.cons (H.ev' hd1) (dsOf_ok H hl)
      · cases h
    · cases h

theorem s_makeFunc (H : Here P c N F ρ own slots a w) {fn : Fn} {first caps : Array Operand} (ho : o.op = .makeFunc fn first caps) (h : aval c (evA slots) own (.makeFunc fn first caps) = .ok p y) : Yield P o a w F ρ own y Q := by
  dsimp only [aval] at h
  split at h
  · rename_i f ds hf hds
    injection h with e1 e2
    subst e2
    have hf' : first = #[] := by
      cases first; simpa using hf
    obtain ⟨hl, hc⟩ := DC.ofCells (dsOf_ok H hds)
    refine Yield.pure (u := .func (.func f) #[] (caps.toList.map a.eval).toArray) ?_ (DC.clo _ hl hc)
    subst hf'
    cases caps
    simp [execOp, ho, Instr.makeFunc]
  · cases h

theorem s_arith {op : BinOp} {k : IntKind} {m n : Int} {t : TypeId} (h : arith op k m n = .ok p y) (hp : p) (w : World) : ∃ u, (binOp op t (.int k m) (.int k n)).run P w = .ok u w ∧ AVC w F ρ own y u := by
  cases op <;> simp only [arith] at h
  case add =>
    injection h with e1 e2
    subst e1; subst e2
    exact ⟨.int k (k.wrap (m + n)), by simp [binOp, Op.intArith], DC.int _ _⟩
  case sub =>
    injection h with e1 e2
    subst e1; subst e2
    exact ⟨.int k (k.wrap (m - n)), by simp [binOp, Op.intArith], DC.int _ _⟩
  case mul =>
    injection h with e1 e2
    subst e1; subst e2
    exact ⟨.int k (k.wrap (m * n)), by simp [binOp, Op.intArith], DC.int _ _⟩
  case quo =>
    injection h with e1 e2
    subst e1; subst e2
    have hp' : n ≠ 0 := hp
    exact ⟨.int k (k.wrap (m.tdiv n)), by simp [binOp, Op.intDiv, hp'], DC.int _ _⟩
  case rem =>
    injection h with e1 e2
    subst e1; subst e2
    have hp' : n ≠ 0 := hp
    exact ⟨.int k (m.tmod n), by simp [binOp, Op.intDiv, hp'], DC.int _ _⟩
  case eql =>
    injection h with e1 e2
    subst e1; subst e2
    exact ⟨.bool (m == n), by simp [binOp, Op.intCmp], DC.bool _⟩
  case neq =>
    injection h with e1 e2
    subst e1; subst e2
    exact ⟨.bool (m != n), by simp [binOp, Op.intCmp], DC.bool _⟩
  case lss =>
    injection h with e1 e2
    subst e1; subst e2
    exact ⟨.bool (decide (m < n)), by simp [binOp, Op.intCmp], DC.bool _⟩
  case leq =>
    injection h with e1 e2
    subst e1; subst e2
    exact ⟨.bool (decide (m ≤ n)), by simp [binOp, Op.intCmp], DC.bool _⟩
  case gtr =>
    injection h with e1 e2
    subst e1; subst e2
    exact ⟨.bool (decide (m > n)), by simp [binOp, Op.intCmp], DC.bool _⟩
  case geq =>
    injection h with e1 e2
    subst e1; subst e2
    exact ⟨.bool (decide (m ≥ n)), by simp [binOp, Op.intCmp], DC.bool _⟩
  all_goals cases h

theorem s_abin (H : Here P c N F ρ own slots a w) {op : BinOp} {t t' : TypeId} {x z : Operand} (ho : o.op = .binOp op t x z t') (h : abin (c.ty t) op (evA slots x) (evA slots z) = .ok p y) (hp : p) : Yield P o a w F ρ own y Q := by
  have fin : (∃ u, (eqGuard op t x z (a.eval x) (a.eval z)).run P w = .ok () w ∧ (binOp op t (a.eval x) (a.eval z)).run P w = .ok u w ∧ AVC w F ρ own y u) → Yield P o a w F ρ own y Q := by
    rintro ⟨u, hg, hr, hy⟩
    refine Yield.pure (u := u) ?_ hy
    simp [execOp, ho, hg, hr]
  unfold abin at h
  split at h
  · rename_i k m k' n hx hz
    split at h
    · rename_i hk
      have := kbeq_eq hk
      subst this
      obtain ⟨u, hr, hy⟩ := s_arith (P := P) (F := F) (ρ := ρ) (own := own) (t := t) h hp w
      refine fin ⟨u, ?_, by rw [H.int hx, H.int hz]; exact hr, hy⟩
      rw [H.int hx, H.int hz]
      unfold eqGuard
      simp
    · cases h
  · rename_i b1 b2 hx hz
    split at h
    · rename_i sz z0 hty
      have hu : P.underlying t = some .bool := (H.cfg.ty _ _ hty).2.2.2.2
      have key : ∀ d : Nat, (Op.equalIn (d + 1) t (.bool b1) (.bool b2)).run P w = .ok (b1 == b2) w := fun d => by simp [Op.equalIn, run_und hu]
      split at h
      · injection h with e1 e2
        subst e2
        refine fin ⟨.bool (b1 == b2), ?_, ?_, DC.bool _⟩
        · rw [H.bool hx, H.bool hz]; unfold eqGuard; simp
        · rw [H.bool hx, H.bool hz]
          simp [binOp, Op.equal, Op.maxDepth, key 9999]
      · injection h with e1 e2
        subst e2
        refine fin ⟨.bool (!(b1 == b2)), ?_, ?_, DC.bool _⟩
        · rw [H.bool hx, H.bool hz]; unfold eqGuard; simp
        · rw [H.bool hx, H.bool hz]
          simp [binOp, Op.equal, Op.maxDepth, key 9999]
      · cases h
    · cases h
  · rename_i nl k xs hx hz
    split at h
    · rename_i sz z0 e k0 b0 zz hty
      have hu : P.underlying t = some (.slice e) := (H.cfg.ty _ _ hty).2.2.2.2.1
      have hd : DC w F (.sl (some nl) k xs) (a.eval x) := H.ev' hx
      generalize he : a.eval x = v at hd
      cases hd with
      | sl hn hs =>
        have hnl := hn nl rfl
        have hv : ∃ pa n cap, v = .slice pa n cap ∧ pa.isNone = nl := by
          rcases hs with ⟨rfl, _⟩ | ⟨ad, cap, rfl, _⟩
          · exact ⟨none, 0, 0, rfl, by simp [hnl.2 rfl]⟩
          · refine ⟨some ad, _, cap, rfl, ?_⟩
            cases nl
            · rfl
            · exact absurd (hnl.1 rfl) (by simp)
        obtain ⟨pa, n, cap, rfl, hpa⟩ := hv
        split at h
        · injection h with e1 e2
          subst e2
          refine fin ⟨.bool nl, ?_, ?_, DC.bool _⟩
          · rw [he, H.nil hz]; unfold eqGuard; simp
          · rw [he, H.nil hz, Lib.run_eql_slice_nil w t e pa n cap 0 0 hu, hpa]
        · injection h with e1 e2
          subst e2
          refine fin ⟨.bool (!nl), ?_, ?_, DC.bool _⟩
          · rw [he, H.nil hz]; unfold eqGuard; simp
          · rw [he, H.nil hz, run_neq_slice_nil_any w t e pa n cap 0 0 hu, hpa]
        · cases h
    · cases h
  · rename_i hx hz
    split at h
    · rename_i sz z0 e k0 b0 zz hty
      have hu : P.underlying t = some (.slice e) := (H.cfg.ty _ _ hty).2.2.2.2.1
      split at h
      · injection h with e1 e2
        subst e2
        refine fin ⟨.bool true, ?_, ?_, DC.bool _⟩
        · rw [H.nil hx, H.nil hz]; unfold eqGuard; simp
        · rw [H.nil hx, H.nil hz, Lib.run_eql_slice_nil w t e none 0 0 0 0 hu]; rfl
      · injection h with e1 e2
        subst e2
        refine fin ⟨.bool false, ?_, ?_, DC.bool _⟩
        · rw [H.nil hx, H.nil hz]; unfold eqGuard; simp
        · rw [H.nil hx, H.nil hz, run_neq_slice_nil_any w t e none 0 0 0 0 hu]; rfl
      · cases h
    · cases h
  · rename_i a1 a2 b1 b2 hx hz
    split at h
    · rename_i sz z0 fs hty
      have heq := (H.cfg.ty _ _ hty).2.2.2.2.2 rfl
      have two : ∀ {q : Operand} {m n : Int}, evA slots q = .agg [.d (.int .i64 m), .d (.int .i64 n)] → a.eval q = .agg #[.int .i64 m, .int .i64 n] := by
        intro q m n hq
        obtain ⟨vs, he, hc⟩ := H.ev' hq
        obtain ⟨v1, r1, rfl, h1, hc1⟩ := CellsC.uncons hc
        obtain ⟨v2, r2, rfl, h2, hc2⟩ := hc1.uncons
        have : r2 = [] := List.eq_nil_of_length_eq_zero (by simpa using hc2.1)
        subst this
        rw [he, intD h1, intD h2]
      obtain ⟨g1, g2, g3⟩ := heq w x z a1 a2 b1 b2
      split at h
      · injection h with e1 e2
        subst e2
        refine fin ⟨.bool (a1 == b1 && a2 == b2), by rw [two hx, two hz]; exact g1, ?_, DC.bool _⟩
        rw [two hx, two hz]
        simp [binOp, g3]
      · injection h with e1 e2
        subst e2
        refine fin ⟨.bool (!(a1 == b1 && a2 == b2)), by rw [two hx, two hz]; exact g2, ?_, DC.bool _⟩
        rw [two hx, two hz]
        simp [binOp, g3]
      · cases h
    · cases h
  · cases h
theorem s_binOp (H : Here P c N F ρ own slots a w) {op : BinOp} {t t' : TypeId} {x z : Operand} (ho : o.op = .binOp op t x z t') (h : aval c (evA slots) own (.binOp op t x z t') = .ok p y) (hp : p) : Yield P o a w F ρ own y Q := by
  dsimp only [aval] at h
  cases hn : nilOp z with
  | false => rw [hn] at h; exact s_abin H ho h hp
  | true =>
    rw [hn] at h
    simp only at h
    cases hq : ownNil (evA slots x) (evA slots z) with
    | none => rw [hq] at h; exact s_abin H ho h hp
    | some q =>
      rw [hq] at h
      simp only at h
      obtain ⟨hx, hz⟩ := ownNil_some hq
      have hd : CellC w F ρ own (.own q.1 q.2) (a.eval x) := H.ev' hx
      have hok := H.mem.ok q.1
      have fin : (∃ u, (eqGuard op t x z (a.eval x) (a.eval z)).run P w = .ok () w ∧ (binOp op t (a.eval x) (a.eval z)).run P w = .ok u w ∧ AVC w F ρ own y u) → Yield P o a w F ρ own y Q := by
        rintro ⟨u, hg, hr, hy⟩
        refine Yield.pure (u := u) ?_ hy
        simp [execOp, ho, hg, hr]
      unfold nilAt at h
      split at h
      · rename_i ver' ty k xs hl
        rw [hl] at hok
        obtain ⟨vs, hw, hrow, _⟩ := hok
        have key : q.2 = ver' ∧ 0 < xs.length → ∃ g n cap, a.eval x = .slice (some g) n cap := fun ⟨hv, h0⟩ => by
          have he := hd.2.2 ⟨by rw [hl]; exact hv.symm, by rw [hl]; trivial⟩
          rcases hw.2 with ⟨_, hn0⟩ | ⟨g, cap, cur, hρ, _⟩
          · omega
          · exact ⟨_, _, _, he.trans hρ⟩
        split at h
        · rename_i sz z0 e k0 b0 zz hty
          have hu : P.underlying t = some (.slice e) := (H.cfg.ty _ _ hty).2.2.2.2.1
          split at h
          · injection h with e1 e2
            subst e1; subst e2
            obtain ⟨g, n, cap, he⟩ := key hp
            refine fin ⟨.bool false, ?_, ?_, DC.bool _⟩
            · rw [he, H.nil hz]; unfold eqGuard; simp
            · rw [he, H.nil hz, Lib.run_eql_slice_nil w t e (some g) n cap 0 0 hu]; rfl
          · injection h with e1 e2
            subst e1; subst e2
            obtain ⟨g, n, cap, he⟩ := key hp
            refine fin ⟨.bool true, ?_, ?_, DC.bool _⟩
            · rw [he, H.nil hz]; unfold eqGuard; simp
            · rw [he, H.nil hz, run_neq_slice_nil_any w t e (some g) n cap 0 0 hu]; rfl
          · cases h
        · cases h
      · cases h
end
end Go.Proofs.Ytfjmlaciogmndaa
