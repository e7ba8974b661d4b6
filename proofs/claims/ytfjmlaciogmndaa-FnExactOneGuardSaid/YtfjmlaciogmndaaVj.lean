/- Functions: from a run of the body to a contract. -/
import Derived.Test.YtfjmlaciogmndaaVi
namespace Go.Proofs.Ytfjmlaciogmndaa
open Go.RowKit

/-! ### Shapes of parameters -/
inductive Ty where
  | int | bool | pt | wall | tri | room
  | sl (k : ElK)
  | rpt | rint
  | rsl (k : ElK)
  | clo

@[reducible] def Ty.T : Ty → Type
  | .int => Int
  | .bool => Bool
  | .pt => Int × Int
  | .wall => (Int × Int) × (Int × Int)
  | .tri => Int × Int × Int
  | .room => List (Int × Int)
  | .sl k => List k.T
  | .rpt => Int × Int
  | .rint => Int
  | .rsl k => List k.T
  | .clo => FuncId × List D

def Ty.enc : (t : Ty) → t.T → AV
  | .int, n => .one (.d (.int .i64 n))
  | .bool, b => .one (.d (.bool b))
  | .pt, p => .agg [.d (.int .i64 p.1), .d (.int .i64 p.2)]
  | .wall, p => .agg [.d (.int .i64 p.1.1), .d (.int .i64 p.1.2), .d (.int .i64 p.2.1), .d (.int .i64 p.2.2)]
  | .tri, p => .agg [.d (.int .i64 p.1), .d (.int .i64 p.2.1), .d (.int .i64 p.2.2)]
  | .room, ps => .agg [.d (.sl none (.b .pt) ps)]
  | .sl k, xs => .one (.d (.sl none k xs))
  | .rpt, p => .one (.d (.ptr [.int .i64 p.1, .int .i64 p.2]))
  | .rint, n => .one (.d (.ptr [.int .i64 n]))
  | .rsl k, xs => .one (.d (.ptr [.sl none k xs]))
  | .clo, x => .one (.d (.clo x.1 x.2))

def Ty.dec : (t : Ty) → AV → Option t.T
  | .int, .one (.d (.int .i64 n)) => some n
  | .bool, .one (.d (.bool b)) => some b
  | .pt, .agg [.d (.int .i64 x), .d (.int .i64 y)] => some (x, y)
  | .wall, .agg [.d (.int .i64 x), .d (.int .i64 y), .d (.int .i64 z), .d (.int .i64 u)] => some ((x, y), (z, u))
  | .tri, .agg [.d (.int .i64 x), .d (.int .i64 y), .d (.int .i64 z)] => some (x, y, z)
  | .room, .agg [.d (.sl _ (.b .pt) ps)] => some ps
  | .room, .agg [.d .nil] => some []
  | .sl k, .one (.d (.sl _ k' xs)) => castL k k' xs
  | .sl _, .one (.d .nil) => some []
  | .rpt, .one (.d (.ptr [.int .i64 x, .int .i64 y])) => some (x, y)
  | .rint, .one (.d (.ptr [.int .i64 x])) => some x
  | .rsl k, .one (.d (.ptr [.sl _ k' xs])) => castL k k' xs
  | .clo, .one (.d (.clo f caps)) => some (f, caps)
  | _, _ => none

@[reducible] def Args : List Ty → Type
  | [] => Unit
  | t :: ts => t.T × Args ts

def encs : (ts : List Ty) → Args ts → List AV
  | [], _ => []
  | t :: ts, x => t.enc x.1 :: encs ts x.2

def decs : (ts : List Ty) → List AV → Option (Args ts)
  | [], [] => some ()
  | t :: ts, x :: xs => match t.dec x, decs ts xs with
    | some a, some b => some (a, b)
    | _, _ => none
  | _, _ => none

def mkCon (ts : List Ty) (pre : Args ts → Prop) (res : Args ts → RV) : Con := ⟨Args ts, decs ts, pre, res, none⟩

theorem encs_len : ∀ (ts : List Ty) (x : Args ts), (encs ts x).length = ts.length
  | [], _ => rfl
  | _ :: ts, x => by simp [encs, encs_len ts x.2]

section
variable {w : World} {F : Nat → Prop} {ρ : Nat → Value} {own : Nat → Loc}

theorem dc_weak {k : ElK} {xs : List k.T} {v : Value} (h : SLK w F k xs v) : DC w F (.sl none k xs) v := DC.sl (fun b hb => by cases hb) h

theorem dec_weak {t : Ty} {x : AV} {v : t.T} {u : Value} (h : t.dec x = some v) (hx : AVC w F ρ own x u) : AVC w F ρ own (t.enc v) u := by
  unfold Ty.dec at h
  split at h
  · injection h with h; subst h; exact hx
  · injection h with h; subst h; exact hx
  · injection h with h; subst h; exact hx
  · injection h with h; subst h; exact hx
  · injection h with h; subst h; exact hx
  · injection h with h
    subst h
    obtain ⟨vs, hv, hc⟩ := hx
    obtain ⟨v, vs', rfl, h0, hc'⟩ := CellsC.uncons hc
    have h0 : DC w F _ v := h0
    cases h0 with | sl _ hs => exact ⟨_, hv, CellsC.cons (dc_weak hs) hc'⟩
  · injection h with h
    subst h
    obtain ⟨vs, hv, hc⟩ := hx
    obtain ⟨v, vs', rfl, h0, hc'⟩ := CellsC.uncons hc
    exact ⟨_, hv, CellsC.cons (dc_weak (.inl ⟨nilD h0, rfl⟩)) hc'⟩
  · rename_i k nl k' xs
    obtain ⟨e, he⟩ := castL_ok h
    subst e
    subst he
    have h0 : DC w F _ u := hx
    cases h0 with | sl _ hs => exact dc_weak hs
  · injection h with h
    subst h
    exact dc_weak (.inl ⟨nilD hx, rfl⟩)
  · injection h with h; subst h; exact hx
  · injection h with h; subst h; exact hx
  · rename_i k nl k' xs
    obtain ⟨e, he⟩ := castL_ok h
    subst e
    subst he
    have h0 : DC w F _ u := hx
    cases h0 with
    | ptr ad us hl hF h1 h2 =>
      refine DC.ptr ad us hl hF h1 (fun j x v hj hv => ?_)
      cases j with
      | zero =>
        simp at hj
        subst hj
        have := h2 0 _ v rfl hv
        cases this with | sl _ hs => exact dc_weak hs
      | succ j => simp at hj
  · injection h with h; subst h; exact hx
  · cases h

theorem decs_weak : ∀ {ts : List Ty} {xs : List AV} {v : Args ts} {us : List Value}, decs ts xs = some v → (∀ (j : Nat) x u, xs[j]? = some x → us[j]? = some u → AVC w F ρ own x u) →
    xs.length = ts.length ∧ ∀ (j : Nat) x u, (encs ts v)[j]? = some x → us[j]? = some u → AVC w F ρ own x u
  | [], [], v, us, _, h => ⟨rfl, fun j x u hx => by simp [encs] at hx⟩
  | [], _ :: _, v, us, hd, h => by cases hd
  | _ :: _, [], v, us, hd, h => by cases hd
  | t :: ts, x :: xs, v, us, hd, h => by
    unfold decs at hd
    split at hd
    · rename_i a b h1 h2
      injection hd with hd
      subst hd
      obtain ⟨g1, g2⟩ := decs_weak (us := us.drop 1) h2 (fun j x u hx hu => h (j + 1) x u (by simpa using hx) (by rw [List.getElem?_drop, Nat.add_comm] at hu; exact hu))
      refine ⟨by simp [g1], fun j z u hz hu => ?_⟩
      cases j with
      | zero =>
        simp [encs] at hz
        subst hz
        exact dec_weak h1 (h 0 x u rfl hu)
      | succ j =>
        simp [encs] at hz
        exact g2 j z u hz (by rw [List.getElem?_drop, Nat.add_comm]; exact hu)
    · cases hd
end

/-! ### Results -/
def resL (c : Cfg) (σ : St) : List ResultVar → VR (List AV)
  | [] => .ok True []
  | .tmp t :: r => match resL c σ r with
    | .ok p xs => .ok p (σ.slots t :: xs)
    | .no => .no
  | .cell s t :: r => match aval c (evA σ.slots) σ.own (.load t (.tmp s)), resL c σ r with
    | .ok p x, .ok q xs => .ok (p ∧ q) (x :: xs)
    | _, _ => .no

def sums : List AV → Option (List (Cell ⊕ List Cell))
  | [] => some []
  | .one c :: r => match sums r with | some l => some (.inl c :: l) | none => none
  | .agg cs :: r => match sums r with | some l => some (.inr cs :: l) | none => none
  | _ :: _ => none

def resV (c : Cfg) (σ : St) (rs : List ResultVar) : VR AV :=
  match resL c σ rs with
  | .no => .no
  | .ok p [x] => .ok p x
  | .ok p xs => match sums xs with
    | some l => .ok p (.tup l)
    | none => .no

/-! ### What is handed back, against the contract -/
def firstC : List Cell → Option (Nat × Nat)
  | [] => none
  | .own l ver :: _ => some (l, ver)
  | _ :: r => firstC r
def firstS : List (Cell ⊕ List Cell) → Option (Nat × Nat)
  | [] => none
  | .inl (.own l ver) :: _ => some (l, ver)
  | .inl _ :: r => firstS r
  | .inr cs :: r => match firstC cs with | some x => some x | none => firstS r
def firstOwn : AV → Option (Nat × Nat)
  | .one c => firstC [c]
  | .agg cs => firstC cs
  | .tup xs => firstS xs
  | .junk => none

def cellIs (own : Nat → Loc) (row : Bool) (src : Option (Nat × Nat)) : Cell → Cell → Prop
  | .d (.int k n), .d (.int k' n') => k = k' ∧ n = n'
  | .d (.bool b), .d (.bool b') => b = b'
  | .d (.sl nl k xs), .d (.sl nl' k' ys) => castL k' k xs = some ys ∧ (nl' = none ∨ nl' = nl)
  | .d .nil, .d (.sl nl' _ ys) => ys = [] ∧ (nl' = none ∨ nl' = some true)
  | .d .nil, .d .nil => True
  | .own l ver, .own _ _ => row = true ∧ src = some (l, ver)
  | .d .nil, .own _ _ => row = true ∧ src = none
  | .own l ver, .d (.sl nl' k' ys) => match own l with
    | ⟨ver', .row _ k xs⟩ => row = false ∧ ver = ver' ∧ castL k' k xs = some ys ∧ (nl' = none ∨ (nl' = some false ∧ ys ≠ []))
    | _ => False
  | _, _ => False

def cellsIs (own : Nat → Loc) (row : Bool) (src : Option (Nat × Nat)) : List Cell → List Cell → Prop
  | [], [] => True
  | x :: xs, y :: ys => cellIs own row src x y ∧ cellsIs own row src xs ys
  | _, _ => False

def sumsIs (own : Nat → Loc) (row : Bool) (src : Option (Nat × Nat)) : List (Cell ⊕ List Cell) → List (Cell ⊕ List Cell) → Prop
  | [], [] => True
  | .inl x :: xs, .inl y :: ys => cellIs own row src x y ∧ sumsIs own row src xs ys
  | .inr x :: xs, .inr y :: ys => cellsIs own row src x y ∧ sumsIs own row src xs ys
  | _, _ => False

def avIs (own : Nat → Loc) (row : Bool) (src : Option (Nat × Nat)) : AV → AV → Prop
  | .one x, .one y => cellIs own row src x y
  | .agg xs, .agg ys => cellsIs own row src xs ys
  | .tup xs, .tup ys => sumsIs own row src xs ys
  | _, _ => False

def srcIs (own : Nat → Loc) (R : RowR) : Option (Nat × Nat) → Prop
  | some (l, ver) => match own l with
    | ⟨ver', .row ty k xs⟩ => ver = ver' ∧ ty = R.ty ∧ castL R.k k xs = some R.xs ∧ (R.nl = none ∨ (R.nl = some false ∧ R.xs ≠ []))
    | _ => False
  | none => R.xs = [] ∧ (R.nl = none ∨ R.nl = some true)

def RetIs (own : Nat → Loc) (x : AV) (r : RV) : Prop :=
  match r.row with
  | none => avIs own false none x r.av
  | some R => srcIs own R (firstOwn x) ∧ avIs own true (firstOwn x) x r.av

/-- The post of a body. -/
def Fin (c : Cfg) (rs : List ResultVar) (r : RV) : Exit → St → Prop
  | .normal, σ | .ret, σ => (resV c σ rs).run fun x => RetIs σ.own x r
  | _, _ => False

def initS (args : List AV) : Nat → AV := fun t => (args[t]?).getD .junk

section
variable {P : Program} {c : Cfg} {w : World} {N F : Nat → Prop} {ρ : Nat → Value} {own : Nat → Loc} {slots : Nat → AV} {a : Act}

def rv1 (tmps : Array Value) : ResultVar → Sem Value
  | .tmp t => pure (tmps.getD t undef)
  | .cell s t => do loadVar t (← asAddr (tmps.getD s undef))

theorem results_eq (fn : Func) (tmps : Array Value) : results fn tmps = (do
    let vs ← fn.results.mapM (rv1 tmps)
    pure (if h : vs.size = 1 then vs[0] else .tuple vs)) := by
  unfold results
  have : (fun r : ResultVar => match r with | .tmp t => (pure (tmps.getD t undef) : Sem Value) | .cell a t => do loadVar t (← asAddr (tmps.getD a undef))) = rv1 tmps := by
    funext r
    cases r <;> rfl
  rw [← this]
  rfl

theorem res_ok (H : Here P c N F ρ own slots a w) : ∀ (rs : List ResultVar) {p : Prop} {xs : List AV}, resL c ⟨slots, own⟩ rs = .ok p xs → p →
    ∃ vs : List Value, (rs.mapM (rv1 a.tmps)).run P w = .ok vs w ∧ vs.length = xs.length ∧ ∀ (j : Nat) x v, xs[j]? = some x → vs[j]? = some v → AVC w F ρ own x v
  | [], p, xs, h, hp => by
    simp only [resL] at h
    injection h with h1 h2
    subst h2
    exact ⟨[], by simp, rfl, fun j x v hx => by simp at hx⟩
  | .tmp t :: rs, p, xs, h, hp => by
    unfold resL at h
    split at h
    · rename_i q ys hr
      injection h with h1 h2
      subst h1; subst h2
      obtain ⟨vs, r1, r2, r3⟩ := res_ok H rs hr hp
      refine ⟨a.tmps.getD t undef :: vs, ?_, by simp [r2], fun j x v hx hv => ?_⟩
      · simp only [List.mapM_cons, rv1, Sem.run_bind, Sem.run_pure, Result.andThen_ok, r1]
      · cases j with
        | zero => simp at hx hv; subst hx; subst hv; have := H.sl t; simpa using this
        | succ j => simp at hx hv; exact r3 j x v hx hv
    · cases h
  | .cell s t :: rs, p, xs, h, hp => by
    unfold resL at h
    split at h
    · rename_i p1 x1 q ys h1 hr
      injection h with e1 e2
      subst e1; subst e2
      obtain ⟨u, ad, he, hl, hy⟩ := load_val H h1 hp.1
      obtain ⟨vs, r1, r2, r3⟩ := res_ok H rs hr hp.2
      have he' : a.tmps.getD s undef = .pointer (some ad) := he
      have hl' : (loadVar t ad).run P w = .ok u w := by
        simpa [Instr.loadAt, Instr.sureAddr] using hl
      refine ⟨u :: vs, ?_, by simp [r2], fun j x v hx hv => ?_⟩
      · simp only [List.mapM_cons, rv1, Sem.run_bind, he', asAddr, Sem.run_pure, Result.andThen_ok, hl', r1]
      · cases j with
        | zero => simp at hx hv; subst hx; subst hv; exact hy
        | succ j => simp at hx hv; exact r3 j x v hx hv
    · cases h

theorem sums_ok : ∀ {xs : List AV} {l : List (Cell ⊕ List Cell)}, sums xs = some l → l.length = xs.length ∧ ∀ (j : Nat) s, l[j]? = some s → ∃ x, xs[j]? = some x ∧ ((∃ c, s = .inl c ∧ x = .one c) ∨ ∃ cs, s = .inr cs ∧ x = .agg cs)
  | [], l, h => by simp only [sums, Option.some.injEq] at h; subst h; exact ⟨rfl, fun j s hs => by simp at hs⟩
  | .one c :: r, l, h => by
    unfold sums at h
    split at h
    · rename_i l' hl
      injection h with h
      subst h
      obtain ⟨h1, h2⟩ := sums_ok hl
      refine ⟨by simp [h1], fun j s hs => ?_⟩
      cases j with
      | zero => simp at hs; subst hs; exact ⟨_, rfl, .inl ⟨c, rfl, rfl⟩⟩
      | succ j => simp at hs; simpa using h2 j s hs
    · cases h
  | .agg cs :: r, l, h => by
    unfold sums at h
    split at h
    · rename_i l' hl
      injection h with h
      subst h
      obtain ⟨h1, h2⟩ := sums_ok hl
      refine ⟨by simp [h1], fun j s hs => ?_⟩
      cases j with
      | zero => simp at hs; subst hs; exact ⟨_, rfl, .inr ⟨cs, rfl, rfl⟩⟩
      | succ j => simp at hs; simpa using h2 j s hs
    · cases h
  | .tup _ :: r, l, h => by simp [sums] at h
  | .junk :: r, l, h => by simp [sums] at h

theorem resV_ok (H : Here P c N F ρ own slots a w) {fn : Func} {p : Prop} {x : AV} (h : resV c ⟨slots, own⟩ fn.results.toList = .ok p x) (hp : p) :
    ∃ v, (results fn a.tmps).run P w = .ok v w ∧ AVC w F ρ own x v := by
  unfold resV at h
  have hres : ∀ vs : List Value, (fn.results.toList.mapM (rv1 a.tmps)).run P w = .ok vs w →
      (results fn a.tmps).run P w = .ok (if h : vs.toArray.size = 1 then vs.toArray[0] else .tuple vs.toArray) w := by
    intro vs hvs
    rw [results_eq]
    simp only [Array.mapM_eq_mapM_toList, Sem.run_bind, Sem.run_map, hvs, Result.andThen_ok, Sem.run_pure]
  split at h
  · cases h
  · rename_i q y hr
    injection h with h1 h2
    subst h1; subst h2
    obtain ⟨vs, r1, r2, r3⟩ := res_ok H _ hr hp
    match vs, r2 with
    | [v], _ => exact ⟨v, by rw [hres _ r1]; simp, r3 0 y v rfl rfl⟩
  · rename_i q ys hne hr
    split at h
    · rename_i l hl
      injection h with h1 h2
      subst h1; subst h2
      obtain ⟨vs, r1, r2, r3⟩ := res_ok H _ hr hp
      obtain ⟨s1, s2⟩ := sums_ok hl
      refine ⟨.tuple vs.toArray, ?_, vs, rfl, by rw [r2, s1], fun j s u hs hu => ?_⟩
      · rw [hres _ r1, dif_neg]
        intro he
        match ys, r2 with
        | [y], _ => exact hne y rfl
        | [], h0 => simp at h0; subst h0; simp at he
        | _ :: _ :: _, h0 => simp at h0 he; omega
      · obtain ⟨x, hx, hsx⟩ := s2 j s hs
        have := r3 j x u hx hu
        rcases hsx with ⟨c, rfl, rfl⟩ | ⟨cs, rfl, rfl⟩
        · exact this
        · exact this
    · cases h

theorem nil_or {w : World} {F : Nat → Prop} {k : ElK} {xs : List k.T} {v : Value} {nl : Option Bool} (h : SLK w F k xs v) (hn : nl = none ∨ (nl = some false ∧ xs ≠ [])) : nilOk nl v := by
  rintro b rfl
  rcases hn with hn | ⟨hn, hx⟩
  · cases hn
  · injection hn with hn
    subst hn
    rcases h with ⟨_, h⟩ | ⟨ad, cap, rfl, _⟩
    · exact absurd h hx
    · simp

/-- A cell that is handed back is what the contract says. -/
theorem cellIs_ok (m : Mem w N F ρ own) {row : Bool} {src : Option (Nat × Nat)} {s : Value} {G : Nat → Prop} (hFG : ∀ b, F b → G b) (hown : row = false → ∀ l b, (own l).obj.live = true → blk (ρ (pl l)) = some b → G b)
    (hs : row = true → match src with | some (l, ver) => (own l).ver = ver ∧ (own l).obj.rowy ∧ s = ρ (pl l) | none => s = .slice none 0 0)
    {x y : Cell} {v : Value} (h : cellIs own row src x y) (hx : CellC w F ρ own x v) : RetCell w G (if row then some s else none) y v := by
  unfold cellIs at h
  split at h
  · obtain ⟨rfl, rfl⟩ := h; exact DC.mono (ext_sub hFG) hx
  · subst h; exact DC.mono (ext_sub hFG) hx
  · rename_i nl k xs nl' k' ys
    obtain ⟨hc, hn⟩ := h
    obtain ⟨e, he⟩ := castL_ok hc
    subst e
    subst he
    have hd : DC w F (.sl nl k xs) v := hx
    cases hd with
    | sl hn' hs' =>
      refine DC.sl ?_ (SLK.mono (ext_sub hFG) hs')
      rcases hn with rfl | rfl
      · intro b hb; cases hb
      · exact hn'
  · rename_i nl' k' ys
    obtain ⟨rfl, hn⟩ := h
    have hv := nilD hx
    refine DC.sl ?_ (.inl ⟨hv, rfl⟩)
    rcases hn with rfl | rfl
    · intro b hb; cases hb
    · intro b hb; injection hb with hb; subst hb; simp [hv]
  · exact DC.mono (ext_sub hFG) hx
  · rename_i l ver _ _
    obtain ⟨rfl, rfl⟩ := h
    have := hs rfl
    simp only at this
    obtain ⟨h1, h2, h3⟩ := this
    show (some s : Option Value) = some v
    rw [h3, hx.2.2 ⟨h1, h2⟩]
  · obtain ⟨rfl, rfl⟩ := h
    have := hs rfl
    simp only at this
    show (some s : Option Value) = some v
    rw [this, nilD hx]
  · rename_i l ver nl' k' ys
    split at h
    · rename_i ver' ty k xs hl
      obtain ⟨hr, rfl, hc, hn⟩ := h
      obtain ⟨e, he⟩ := castL_ok hc
      subst e
      subst he
      have hv := hx.2.2 ⟨by rw [hl], by rw [hl]; trivial⟩
      subst hv
      have hok := m.ok l
      rw [hl] at hok
      obtain ⟨vs, hw, hrow, _⟩ := hok
      have hsl := row_data (G := G) hw hrow hFG (fun b hb => hown hr l b (by rw [hl]; rfl) hb)
      exact DC.sl (nil_or hsl hn) hsl
    · cases h
  · cases h

theorem cellsIs_ok (m : Mem w N F ρ own) {row : Bool} {src : Option (Nat × Nat)} {s : Value} {G : Nat → Prop} (hFG : ∀ b, F b → G b) (hown : row = false → ∀ l b, (own l).obj.live = true → blk (ρ (pl l)) = some b → G b)
    (hs : row = true → match src with | some (l, ver) => (own l).ver = ver ∧ (own l).obj.rowy ∧ s = ρ (pl l) | none => s = .slice none 0 0) :
    ∀ {xs ys : List Cell} {vs : List Value}, cellsIs own row src xs ys → CellsC w F ρ own xs vs → CellsG (RetCell w G (if row then some s else none)) ys vs
  | [], [], vs, _, hx => ⟨hx.1, fun j c v hc => by simp at hc⟩
  | [], _ :: _, _, h, _ => by cases h
  | _ :: _, [], _, h, _ => by cases h
  | x :: xs, y :: ys, vs, h, hx => by
    obtain ⟨v, vs', rfl, h0, hx'⟩ := hx.uncons
    have ih := cellsIs_ok m hFG hown hs h.2 hx'
    refine ⟨by simp [ih.1], fun j c u hc hu => ?_⟩
    cases j with
    | zero => simp at hc hu; subst hc; subst hu; exact cellIs_ok m hFG hown hs h.1 h0
    | succ j => simp at hc hu; exact ih.2 j c u hc hu

theorem avIs_ok (m : Mem w N F ρ own) {row : Bool} {src : Option (Nat × Nat)} {s : Value} {G : Nat → Prop} (hFG : ∀ b, F b → G b) (hown : row = false → ∀ l b, (own l).obj.live = true → blk (ρ (pl l)) = some b → G b)
    (hs : row = true → match src with | some (l, ver) => (own l).ver = ver ∧ (own l).obj.rowy ∧ s = ρ (pl l) | none => s = .slice none 0 0)
    {x y : AV} {v : Value} (h : avIs own row src x y) (hx : AVC w F ρ own x v) : AVG (RetCell w G (if row then some s else none)) y v := by
  unfold avIs at h
  split at h
  · exact cellIs_ok m hFG hown hs h hx
  · obtain ⟨vs, hv, hc⟩ := hx
    exact ⟨vs, hv, cellsIs_ok m hFG hown hs h hc⟩
  · rename_i xs ys
    obtain ⟨vs, hv, hl, hc⟩ := hx
    have key : ∀ (xs ys : List (Cell ⊕ List Cell)) (vs : List Value), sumsIs own row src xs ys → vs.length = xs.length → (∀ (j : Nat) x u, xs[j]? = some x → vs[j]? = some u → SumG (CellC w F ρ own) x u) →
        vs.length = ys.length ∧ ∀ (j : Nat) y u, ys[j]? = some y → vs[j]? = some u → SumG (RetCell w G (if row then some s else none)) y u := by
      intro xs
      induction xs with
      | nil =>
        intro ys vs h hl hc
        cases ys with
        | nil => exact ⟨hl, fun j y u hy => by simp at hy⟩
        | cons y ys => cases h
      | cons x xs ih =>
        intro ys vs h hl hc
        match vs, hl with
        | v :: vs, hl =>
          cases ys with
          | nil => cases x <;> cases h
          | cons y ys =>
            cases x with
            | inl x =>
              cases y with
              | inr y => cases h
              | inl y =>
                obtain ⟨h1, h2⟩ := h
                obtain ⟨g1, g2⟩ := ih ys vs h2 (by simpa using hl) (fun j x u hx hu => hc (j + 1) x u (by simpa using hx) (by simpa using hu))
                refine ⟨by simp [g1], fun j z u hz hu => ?_⟩
                cases j with
                | zero => simp at hz hu; subst hz; subst hu; exact cellIs_ok m hFG hown hs h1 (hc 0 _ v rfl rfl)
                | succ j => simp at hz hu; exact g2 j z u hz hu
            | inr x =>
              cases y with
              | inl y => cases h
              | inr y =>
                obtain ⟨h1, h2⟩ := h
                obtain ⟨g1, g2⟩ := ih ys vs h2 (by simpa using hl) (fun j x u hx hu => hc (j + 1) x u (by simpa using hx) (by simpa using hu))
                refine ⟨by simp [g1], fun j z u hz hu => ?_⟩
                cases j with
                | zero =>
                  simp at hz hu; subst hz; subst hu
                  obtain ⟨us, hus, hcs⟩ := hc 0 _ v rfl rfl
                  exact ⟨us, hus, cellsIs_ok m hFG hown hs h1 hcs⟩
                | succ j => simp at hz hu; exact g2 j z u hz hu
    obtain ⟨g1, g2⟩ := key xs ys vs h hl hc
    exact ⟨vs, hv, g1, g2⟩
  · cases h

/-- FROM A RUN OF THE BODY TO A CONTRACT. -/
theorem sound_of_run {f : FuncId} {fn : Func} {body : Code} {ts : List Ty} {pre : Args ts → Prop} {res : Args ts → RV} (hm : P.follows .mixedOrders = true) (hc : CfgOk P c) (hf : P.funcs[f]? = some fn) (hb : fn.body = some body)
    (hn : ts.length ≤ fn.ntmps) (hcode : codeB c fn.ntmps body = true) (hrun : ∀ x, pre x → awp c body (Fin c fn.results.toList (res x)) ⟨initS (encs ts x), deadOwn⟩) : Sound P f (mkCon ts pre res) := by
  intro w F args vs x hpat hpre hF hlen hargs
  obtain ⟨hl, henc⟩ := decs_weak hpat hargs
  refine calls_of_wp hf hb ?_
  have hinit : Good P c w (fun b => w.heap.size ≤ b) F noRho deadOwn fn.ntmps ⟨initS (encs ts x), deadOwn⟩ { tmps := vs.toArray ++ Array.replicate (fn.ntmps - vs.toArray.size) undef, defers := [] } w := by
    refine ⟨F, noRho, ⟨hc, fun t => ?_, ⟨fun l => trivial, (fun l l' b _ h => by cases h), hF⟩⟩, Ext.refl w F, fun _ _ _ => rfl, fun b h => .inl h, ?_, rfl, fun l => ⟨Nat.le_refl _, fun _ => ⟨rfl, fun _ => rfl⟩⟩⟩
    · show AVC w F noRho deadOwn (initS (encs ts x) t) _
      unfold initS
      cases ht : (encs ts x)[t]? with
      | none => trivial
      | some y =>
        have hlt : t < vs.length := by
          have := (List.getElem?_eq_some_iff.1 ht).1
          have he : (encs ts x).length = ts.length := encs_len ts x
          omega
        have hv : vs[t]? = some vs[t] := List.getElem?_eq_getElem hlt
        have := henc t y _ ht hv
        simp only [Option.getD_some]
        have hg : (vs.toArray ++ Array.replicate (fn.ntmps - vs.toArray.size) undef).getD t undef = vs[t] := by
          simp [hlt, Array.getElem?_append]
        rw [hg]
        exact this
    · simp; omega
  refine wp_code hm (w0 := w) (N := fun b => w.heap.size ≤ b) (fun b h => h) body _ _ _ _ _ hcode (fun e σ' a' w' h1 h2 => ?_) hinit (hrun x hpre)
  -- the end
  have hfin : ∀ {σ' : St} {a' : Act} {w' : World}, Good P c w (fun b => w.heap.size ≤ b) F noRho deadOwn fn.ntmps σ' a' w' → ((resV c σ' fn.results.toList).run fun y => RetIs σ'.own y (res x)) → a'.defers = [] ∧ ∃ v, (results fn a'.tmps).run P w' = .ok v w' ∧ (∃ v', (Ending.returned v) = .returned v' ∧ Below w.heap.size w w' ∧ RetC w w' F (res x) v') := by
    intro σ' a' w' hg h
    obtain ⟨F', ρ, H, hext, hfr, hnew, hsz, hdf⟩ := hg
    unfold VR.run at h
    split at h
    · cases h
    · rename_i p y hv
      obtain ⟨hp, h⟩ := h
      obtain ⟨v, r1, r2⟩ := resV_ok H hv hp
      refine ⟨hdf.1, v, r1, v, rfl, ⟨hext.os, hext.tape, hext.output, hext.size, fun b hb => hfr b hb (by omega)⟩, ?_⟩
      have hnb : ∀ l b, (σ'.own l).obj.live = true → blk (ρ (pl l)) = some b → w.heap.size ≤ b ∧ b < w'.heap.size := fun l b hl hb => by
        obtain ⟨g1, g2, _⟩ := blk_lt H.mem hl (holds_of hb)
        exact ⟨g2, g1⟩
      have hFn : ∀ b, F' b → F b ∨ (w.heap.size ≤ b ∧ b < w'.heap.size) := fun b hb => (hnew b hb).imp id (fun h => ⟨h, H.mem.fin b hb⟩)
      unfold RetIs at h
      unfold RetC
      split at h
      · rename_i hrow
        simp only [hrow]
        have := avIs_ok H.mem (row := false) (s := .bool false) (G := fun b => F b ∨ (w.heap.size ≤ b ∧ b < w'.heap.size)) hFn (fun _ l b h1 h2 => .inr (hnb l b h1 h2)) (fun h => by cases h) h r2
        exact this
      · rename_i R hrow
        simp only [hrow]
        obtain ⟨hsrc, hav⟩ := h
        have hfinal : ∀ s vs, w'.ownsRow w.heap.size R.ty R.k.size s R.xs.length vs → RowC w' (newB w w' F s) R.k R.xs vs → nilOk R.nl s → (∀ b, F' b → newB w w' F s b) →
            (match firstOwn y with | some (l, ver) => (σ'.own l).ver = ver ∧ (σ'.own l).obj.rowy ∧ s = ρ (pl l) | none => s = .slice none 0 0) →
            ∃ s vs, w'.ownsRow w.heap.size R.ty R.k.size s R.xs.length vs ∧ RowC w' (newB w w' F s) R.k R.xs vs ∧ nilOk R.nl s ∧ AVG (RetCell w' (newB w w' F s) (some s)) (res x).av v := by
          intro s vs g1 g2 g3 g4 g5
          exact ⟨s, vs, g1, g2, g3, avIs_ok H.mem (row := true) (s := s) g4 (fun h => by cases h) (fun _ => g5) hav r2⟩
        unfold srcIs at hsrc
        split at hsrc
        · rename_i l ver hfo
          split at hsrc
          · rename_i ver' ty k xs hl
            obtain ⟨rfl, rfl, hcast, hnl⟩ := hsrc
            obtain ⟨e, he⟩ := castL_ok hcast
            obtain ⟨Rty, Rnl, Rk, Rxs⟩ := R
            simp only at e he hcast hnl hfinal ⊢
            subst e
            simp only at he
            subst he
            have hok := H.mem.ok l
            rw [hl] at hok
            obtain ⟨vs, hw, hrow', hn'⟩ := hok
            have hge : ∀ b, blk (ρ (pl l)) = some b → w.heap.size ≤ b := fun b hb => (hn' b hb).1
            refine hfinal (ρ (pl l)) vs ⟨hw.1, hw.2.imp id ?_⟩ ?_ ?_ ?_ ?_
            · rintro ⟨g, cap, cur, e1, _, e2⟩
              exact ⟨g, cap, cur, e1, hge g (by rw [e1]; rfl), e2⟩
            · exact hrow'.mono (ext_sub fun b hb => ⟨hFn b hb, fun e => (hn' b e).2 hb⟩)
            · exact nil_or (row_data (G := fun _ => True) hw hrow' (fun _ _ => trivial) (fun _ _ => trivial)) hnl
            · exact fun b hb => ⟨hFn b hb, fun e => (hn' b e).2 hb⟩
            · rw [hfo]
              exact ⟨by rw [hl], by rw [hl]; trivial, rfl⟩
          · cases hsrc
        · rename_i hfo
          obtain ⟨hxs, hnl⟩ := hsrc
          obtain ⟨Rty, Rnl, Rk, Rxs⟩ := R
          simp only at hxs hnl hfinal ⊢
          subst hxs
          refine hfinal (.slice none 0 0) [] (World.ownsRow_nil _ _ _ _) ⟨fun v hv => by simp at hv, fun i x hx => by simp at hx⟩ ?_ (fun b hb => ⟨hFn b hb, by simp [blk]⟩) (by rw [hfo])
          rintro b rfl
          rcases hnl with h | h
          · cases h
          · injection h with h; subst h; simp
  cases e with
  | normal => exact hfin h2 h1
  | ret => exact hfin h2 h1
  | exit id => exact h1
  | goto l => exact h1
  | panic ch => exact h1.elim
  | outgrown => exact h1.elim

/-! ### Callees that write the row of an argument -/
theorem decs_at : ∀ {ts : List Ty} {zs : List AV} {v : Args ts}, decs ts zs = some v → zs.length = ts.length ∧ ∀ (j : Nat) y, zs[j]? = some y → ∃ (t : Ty) (u : t.T), (encs ts v)[j]? = some (t.enc u) ∧ t.dec y = some u
  | [], [], v, _ => ⟨rfl, fun j y h => by simp at h⟩
  | [], _ :: _, v, hd => by cases hd
  | _ :: _, [], v, hd => by cases hd
  | t :: ts, z :: zs, v, hd => by
    unfold decs at hd
    split at hd
    · rename_i a b h1 h2
      injection hd with hd
      subst hd
      obtain ⟨g1, g2⟩ := decs_at h2
      refine ⟨by simp [g1], fun j y hy => ?_⟩
      cases j with
      | zero => simp at hy; subst hy; exact ⟨t, a, rfl, h1⟩
      | succ j => simp at hy; simpa [encs] using g2 j y hy
    · cases hd

def toOwn : AV → AV
  | .one (.d (.sl _ _ _)) => .one (.own 1000 0)
  | .agg [.d (.sl _ _ _)] => .agg [.own 1000 0]
  | y => y
def rowOf (ty : TypeId) : AV → Own
  | .one (.d (.sl _ k xs)) => .row ty k xs
  | .agg [.d (.sl _ k xs)] => .row ty k xs
  | _ => .dead
theorem dec_own {a : AV} {l ver : Nat} (ho : ownCell a = some (l, ver)) {k : ElK} {xs : List k.T} {t : Ty} {u : t.T} (h : t.dec (ownAs a (.d (.sl none k xs))) = some u) (ty : TypeId) :
    toOwn (t.enc u) = ownAs a (.own 1000 0) ∧ rowOf ty (t.enc u) = .row ty k xs := by
  unfold ownCell at ho
  split at ho
  · simp only [ownAs] at h ⊢
    cases t <;> simp only [Ty.dec] at h <;> first | (cases h; done) | skip
    obtain ⟨e, he⟩ := castL_ok h
    subst e
    subst he
    exact ⟨rfl, rfl⟩
  · simp only [ownAs] at h ⊢
    cases t <;> unfold Ty.dec at h <;> simp only at h <;> first | (cases h; done) | skip
    rcases k with k | k <;> cases k <;> first | (cases h; done) | skip
    injection h with h
    subst h
    exact ⟨rfl, rfl⟩
  · cases ho
def encW (wi : Nat) (ts : List Ty) (x : Args ts) : List AV := match nthA (encs ts x) wi with
  | some y => setA (encs ts x) wi (toOwn y)
  | none => encs ts x
def ownW (wi : Nat) (ty : TypeId) (ts : List Ty) (x : Args ts) : Nat → Loc := match nthA (encs ts x) wi with
  | some y => upd deadOwn 1000 ⟨0, rowOf ty y⟩
  | none => deadOwn
def mkConW (ts : List Ty) (wi : Nat) (ty : TypeId) (pre : Args ts → Prop) (av : Args ts → AV) (out : Args ts → WR) : ConW := ⟨Args ts, decs ts, pre, wi, ty, av, out⟩
theorem setA_eq : ∀ (xs : List AV) (i : Nat) (y : AV), setA xs i y = xs.set i y
  | [], _, _ => rfl
  | _ :: _, 0, _ => rfl
  | x :: r, i + 1, y => by simp [setA, setA_eq r i y]

/-- The post of a body that writes the row of an argument. -/
def FinW (c : Cfg) (rs : List ResultVar) (ty : TypeId) (av : AV) (r : WR) : Exit → St → Prop
  | .normal, σ | .ret, σ => (resV c σ rs).run fun y => match σ.own 1000 with
    | ⟨ver, .row ty' k zs⟩ => ty' = ty ∧ castL r.k k zs = some r.ys ∧ match r.trunc with
      | true => y = .one (.own 1000 ver)
      | false => ver = 0 ∧ flat av = true ∧ avIs σ.own false none y av
    | _ => False
  | _, _ => False

theorem rowC_base {w : World} {F F' : Nat → Prop} {k : ElK} {xs : List k.T} {vs : List Value} (hk : k.base = true) (h : RowC w F k xs vs) : RowC w F' k xs vs := by
  refine ⟨h.1, fun i x hx => ?_⟩
  obtain ⟨us, h1, h2, h3⟩ := h.2 i x hx
  refine ⟨us, h1, ?_, h3⟩
  cases k with
  | b e => exact h2
  | s e => cases hk

theorem sound_of_runW {f : FuncId} {fn : Func} {body : Code} {ts : List Ty} {wi : Nat} {ty : TypeId} {pre : Args ts → Prop} {av : Args ts → AV} {out : Args ts → WR} (hm : P.follows .mixedOrders = true) (hc : CfgOk P c) (hf : P.funcs[f]? = some fn) (hb : fn.body = some body)
    (hn : ts.length ≤ fn.ntmps) (hcode : codeB c fn.ntmps body = true) (hrun : ∀ x, pre x → awp c body (FinW c fn.results.toList ty (av x) (out x)) ⟨initS (encW wi ts x), ownW wi ty ts x⟩) : SoundW P f (mkConW ts wi ty pre av out) := by
  intro w F args vs a l ver (x : Args ts) s k xs ys cells ha hoc hoth hpat hpre hcast hbase hF hlen hargs hw hrow hs hone
  have hpat : decs ts (setA args wi (ownAs a (.d (.sl none k xs)))) = some x := hpat
  have ha : nthA args wi = some a := ha
  rw [setA_eq] at hpat
  rw [nthA_eq] at ha
  obtain ⟨hl, hat⟩ := decs_at hpat
  have hwi : wi < args.length := (List.getElem?_eq_some_iff.1 ha).1
  obtain ⟨t0, u0, he0, hd0⟩ := hat wi (ownAs a (.d (.sl none k xs))) (by rw [List.getElem?_set_self hwi])
  obtain ⟨hto, hrw⟩ := dec_own hoc hd0 ty
  have hencW : encW wi ts x = (encs ts x).set wi (ownAs a (.own 1000 0)) := by unfold encW; rw [nthA_eq, he0]; simp only [setA_eq, hto]
  have hownW : ownW wi ty ts x = upd deadOwn 1000 ⟨0, .row ty k xs⟩ := by unfold ownW; rw [nthA_eq, he0]; simp only [hrw]
  have hrun := hrun x hpre
  rw [hencW, hownW] at hrun
  refine calls_of_wp hf hb ?_
  have hel : (encs ts x).length = args.length := by have h0 : (encs ts x).length = ts.length := encs_len ts x; rw [h0, ← hl]; simp
  have hinit : Good P c w (fun b => w.heap.size ≤ b ∨ blk s = some b) F (upd noRho (pl 1000) s) (upd deadOwn 1000 ⟨0, .row ty k xs⟩) fn.ntmps ⟨initS ((encs ts x).set wi (ownAs a (.own 1000 0))), upd deadOwn 1000 ⟨0, .row ty k xs⟩⟩
      { tmps := vs.toArray ++ Array.replicate (fn.ntmps - vs.toArray.size) undef, defers := [] } w := by
    refine ⟨F, upd noRho (pl 1000) s, ⟨hc, fun t => ?_, ⟨fun l => ?_, fun l l' b hne h1 h2 => ?_, hF⟩⟩, Ext.refl w F, fun _ _ _ => rfl, fun b h => .inl h, ?_, rfl, fun l => ⟨Nat.le_refl _, fun _ => ⟨rfl, fun _ => rfl⟩⟩⟩
    · show AVC w F _ _ (initS _ t) _
      unfold initS
      cases ht : ((encs ts x).set wi (ownAs a (.own 1000 0)))[t]? with
      | none => trivial
      | some y =>
        have hlt : t < vs.length := by
          have := (List.getElem?_eq_some_iff.1 ht).1
          rw [List.length_set] at this
          omega
        have hv : vs[t]? = some vs[t] := List.getElem?_eq_getElem hlt
        simp only [Option.getD_some]
        have hg : (vs.toArray ++ Array.replicate (fn.ntmps - vs.toArray.size) undef).getD t undef = vs[t] := by
          simp [hlt, Array.getElem?_append]
        rw [hg]
        by_cases htw : t = wi
        · subst htw
          rw [List.getElem?_set_self (by omega)] at ht
          injection ht with ht
          subst ht
          have h1 := hargs t a _ ha hv
          have hcell : ∀ v, v = s → CellC w F (upd noRho (pl 1000) s) (upd deadOwn 1000 ⟨0, .row ty k xs⟩) (.own 1000 0) v := fun v e => by
            subst e
            exact ⟨hone, by rw [upd_eq]; exact Nat.le_refl _, fun _ => (upd_eq _ _ _).symm⟩
          unfold ownCell at hoc
          split at hoc
          · exact hcell _ h1
          · obtain ⟨us, hus, hc1⟩ := h1
            refine ⟨us, hus, by rw [hc1.1]; rfl, fun j z v hz hv => ?_⟩
            cases j with
            | zero => simp at hz; subst hz; exact hcell v (hc1.2 0 _ v rfl hv)
            | succ j => simp at hz
          · cases hoc
        · rw [List.getElem?_set_ne (Ne.symm htw)] at ht
          have hta : t < args.length := by omega
          have hya : args[t]? = some args[t] := List.getElem?_eq_getElem hta
          obtain ⟨t1, u1, he1, hd1⟩ := hat t args[t] (by rw [List.getElem?_set_ne (Ne.symm htw), hya])
          rw [ht] at he1
          injection he1 with he1
          subst he1
          have hst := othersD_get hoth t _ htw hya
          refine dec_weak hd1 ?_
          have h1 := hargs t _ _ hya hv
          revert h1 hst
          generalize args[t] = y
          intro hst h1
          match y, hst with
          | .one (.d z), _ => exact h1
          | .agg cs, hst =>
            obtain ⟨us, hus, hc1⟩ := h1
            refine ⟨us, hus, hc1.imp fun z u hz hc => ?_⟩
            have := List.all_eq_true.1 hst z hz
            cases z with
            | d x => exact hc
            | own _ _ => cases this
            | ptr _ _ _ _ => cases this
            | sub _ _ _ _ => cases this
    · by_cases h : l = 1000
      · subst h
        show OwnOk _ _ _ _ _ _ (upd deadOwn 1000 _ 1000).obj
        rw [upd_eq]
        exact ⟨cells, by rw [upd_eq]; exact hw, hrow, fun b hb => by rw [upd_eq] at hb; exact ⟨.inr hb, (hs b hb).2⟩⟩
      · show OwnOk _ _ _ _ _ _ (upd deadOwn 1000 _ l).obj
        rw [upd_ne _ _ h]
        trivial
    · have key : ∀ l, (upd deadOwn 1000 ⟨0, .row ty k xs⟩ l).obj.live = true → l = 1000 := fun l h => by
        by_cases h' : l = 1000
        · exact h'
        · rw [upd_ne _ _ h'] at h; cases h
      exact fun _ _ => hne (by rw [key l h1, key l' h2])
    · have : args.length = ts.length := by rw [← hl]; simp
      simp; omega
  refine wp_code hm (w0 := w) (N := fun b => w.heap.size ≤ b ∨ blk s = some b) (fun b h => .inl h) body _ _ _ _ _ hcode (fun e σ' a' w' h1 h2 => ?_) hinit hrun
  have hfin : ∀ {σ' : St} {a' : Act} {w' : World}, Good P c w (fun b => w.heap.size ≤ b ∨ blk s = some b) F (upd noRho (pl 1000) s) (upd deadOwn 1000 ⟨0, .row ty k xs⟩) fn.ntmps σ' a' w' → FinW c fn.results.toList ty (av x) (out x) .ret σ' → a'.defers = [] ∧ ∃ v, (results fn a'.tmps).run P w' = .ok v w' ∧
      (∃ v' s' cells', (Ending.returned v) = .returned v' ∧ w.grownBy w' (blk s) ∧ (∀ b, blk s' = some b → blk s = some b ∨ w.heap.size ≤ b) ∧ w'.ownsRow 0 ty k.size s' ys.length cells' ∧ RowC w' F k ys cells' ∧ s'.oneCell' = true ∧
        match (out x).trunc with
        | true => v' = s'
        | false => s' = s ∧ AVG (RetCell w' (fun _ => False) none) (av x) v') := by
    intro σ' a' w' hg h
    obtain ⟨F', ρ, H, hext, hfr, hnew, hsz, hdf⟩ := hg
    have h : (resV c σ' fn.results.toList).run _ := h
    unfold VR.run at h
    split at h
    · cases h
    · rename_i p y hv
      obtain ⟨hp, h⟩ := h
      obtain ⟨v, r1, r2⟩ := resV_ok H hv hp
      refine ⟨hdf.1, v, r1, v, ρ (pl 1000), ?_⟩
      have hcast : castL k (out x).k (out x).ys = some ys := hcast
      generalize hr : out x = r at h hcast ⊢
      obtain ⟨rk, rys, tr⟩ := r
      simp only at h hcast ⊢
      split at h
      · rename_i ver' ty' k' zs hl1
        obtain ⟨rfl, hc1, h⟩ := h
        obtain ⟨e1, e2⟩ := castL_ok hc1
        subst e1
        subst e2
        obtain ⟨e1, e2⟩ := castL_ok hcast
        subst e1
        subst e2
        have hok := H.mem.ok 1000
        rw [hl1] at hok
        obtain ⟨cells', hw', hrow', hn'⟩ := hok
        have hone' : (ρ (pl 1000)).oneCell' = true := by rcases hw'.2 with ⟨e, _⟩ | ⟨g', cap, cur, e, _⟩ <;> rw [e] <;> rfl
        have hver : (σ'.own 1000).ver = ver' := by rw [hl1]
        refine ⟨cells', by trivial, ⟨hext.os, hext.tape, hext.output, hext.size, fun b hb hne => hfr b hb fun hN => ?_⟩, fun b hb => ((hn' b hb).1).elim .inr .inl, hw', rowC_base hbase hrow', hone', ?_⟩
        · rcases hN with h | h
          · omega
          · exact hne h.symm
        · cases tr with
          | true =>
            simp only at h ⊢
            subst h
            exact r2.2.2 ⟨hver, by rw [hl1]; trivial⟩
          | false =>
            simp only at h ⊢
            obtain ⟨hv0, hfl, hav⟩ := h
            subst hv0
            refine ⟨?_, ?_⟩
            · rw [((hdf.2 1000).2 (by rw [upd_eq, hver])).1, upd_eq]
            · have := avIs_ok H.mem (row := false) (s := .bool false) (G := fun _ => True) (fun _ _ => trivial) (fun _ _ _ _ _ => trivial) (fun h => by cases h) hav r2
              exact flat_any (fun z v h1 h2 => retCell_flat h1 h2) hfl this
      · cases h
  cases e with
  | normal => exact hfin h2 h1
  | ret => exact hfin h2 h1
  | exit id => exact h1
  | goto l => exact h1
  | panic ch => exact h1.elim
  | outgrown => exact h1.elim
end
end Go.Proofs.Ytfjmlaciogmndaa
