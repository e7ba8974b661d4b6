/- The abstract run in use: only live slots are kept at the end of a region; a rule for loops whose head is known. -/
import Derived.Test.YtpeaannkmokhpaaVl
namespace Go.Proofs.Ytpeaannkmokhpaa
open Go.RowKit

def lookL : List (Nat × List Nat) → Nat → List Nat
  | [], _ => []
  | (k, x) :: r, n => bif Nat.beq n k then x else lookL r n
/-- The slots and the own places that live on behind each region. -/
structure Kp (l p : List (Nat × List Nat)) : Prop where
  ok : True
theorem kp (l p : List (Nat × List Nat)) : Kp l p := ⟨trivial⟩
def keepF : List Nat → Sl → Sl → Sl
  | [], _, g => g
  | t :: ts, s, g => upd (keepF ts s g) t (s t)
def fcKeep : List Nat → Sl → Sl → (Sl → Prop) → Prop
  | [], _, g, k => k g
  | t :: ts, s, g, k => (s t).fc fun v => fcKeep ts s g fun f => k (upd f t v)
theorem fcKeep_eq : ∀ (ts : List Nat) (s g : Sl) (k : Sl → Prop), fcKeep ts s g k = k (keepF ts s g)
  | [], _, _, _ => rfl
  | t :: ts, s, g, k => by unfold fcKeep; rw [AV.fc_eq, fcKeep_eq ts]; rfl
theorem keep_self : ∀ (ts : List Nat) (s : Sl), keepF ts s s = s
  | [], _ => rfl
  | t :: ts, s => by unfold keepF; rw [keep_self ts s, upd_self rfl]

def keepW : List Nat → Ow → Ow → Ow
  | [], _, g => g
  | t :: ts, s, g => upd (keepW ts s g) t (s t)
def fcKeepW : List Nat → Ow → Ow → (Ow → Prop) → Prop
  | [], _, g, k => k g
  | p :: ps, w, g, k => match w p with | ⟨v, ob⟩ => ob.fc fun ob => fcKeepW ps w g fun f => k (upd f p ⟨v, ob⟩)
theorem fcKeepW_eq : ∀ (ts : List Nat) (s g : Ow) (k : Ow → Prop), fcKeepW ts s g k = k (keepW ts s g)
  | [], _, _, _ => rfl
  | t :: ts, s, g, k => by unfold fcKeepW; simp only [Own.fc_eq, fcKeepW_eq ts]; rfl
theorem keepW_self : ∀ (ts : List Nat) (s : Ow), keepW ts s s = s
  | [], _ => rfl
  | t :: ts, s => by unfold keepW; rw [keepW_self ts s, upd_self rfl]

section
variable {c : Cfg} {Q : Exit → Sl → Ow → Prop} {s : Sl} {w : Ow} {x y : Code}
theorem arun'_mono {ops l : List Oper} {K K' : Sl → Ow → Prop} (h : ∀ s w, K s w → K' s w) (hr : arun' c ops l s w K) : arun' c ops l s w K' :=
  (arun'_iff (K := fun σ => K' σ.slots σ.own)).2 (arun_mono (K := fun σ => K σ.slots σ.own) (fun _ => h _ _) ((arun'_iff (K := fun σ => K σ.slots σ.own)).1 hr))
/-- The places that do not live on are dead. -/
def deadW (g : Ow) : Ow := fun n => match g n with | ⟨v, _⟩ => ⟨v, .dead⟩
def memK : List Nat → Nat → Bool
  | [], _ => true
  | p :: ps, n => bif Nat.beq n p then false else memK ps n
theorem keepW_kill : ∀ (ts : List Nat) (w : Ow), keepW ts w (deadW w) = killW (memK ts) w
  | [], w => by
    funext n
    show deadW w n = _
    unfold deadW killW memK
    cases w n; rfl
  | t :: ts, w => by
    unfold keepW
    rw [keepW_kill ts w]
    funext n
    have e1 : memK (t :: ts) n = bif Nat.beq n t then false else memK ts n := rfl
    unfold killW
    rw [upd_get, e1]
    by_cases h : n = t
    · subst h; simp
    · rw [if_neg h]
      have : Nat.beq n t = false := by
        cases hb : Nat.beq n t
        · rfl
        · exact absurd (Nat.eq_of_beq_eq_true hb) h
      rw [this]; rfl
theorem st_regionG {l p : List (Nat × List Nat)} (_ : Kp l p) {i : Nat} {ops : Array Oper} {d : Bool}
    (h : ∀ K : Sl → Ow → Prop, (∀ s' w', Q .normal s' w' → K s' w') → arun' c ops.toList ops.toList s w fun s' w' => ∀ g : Sl, ∀ o : Ow, fcKeep (lookL l i) s' g fun s'' => fcKeepW (lookL p i) w' (deadW o) fun w'' => K s'' w'') : awp' c (.region i ops d) Q s w :=
  arun'_mono (fun s' w' h2 => by
    have := h2 s' w'
    rw [fcKeep_eq, keep_self, fcKeepW_eq, keepW_kill] at this
    exact ⟨_, this⟩) (h _ fun _ _ h => h)
end

/-! ### Loops -/
def HasW (w : Ow) : List (Nat × Loc) → Prop
  | [] => True
  | (p, x) :: r => w p = x ∧ HasW w r
def updW (f : Ow) : List (Nat × Loc) → Ow
  | [] => f
  | (p, x) :: r => upd (updW f r) p x
theorem hasW_eq {f : Ow} : ∀ {l : List (Nat × Loc)}, HasW f l → f = updW f l
  | [], _ => rfl
  | (t, v) :: r, h => by
    show f = upd (updW f r) t v
    rw [← hasW_eq h.2, upd_self h.1]
def fcR : List Nat → Sl → (List (Nat × AV) → Prop) → Prop
  | [], _, k => k []
  | t :: ts, s, k => (s t).fc fun v => fcR ts s fun r => k ((t, v) :: r)
theorem fcR_eq : ∀ (ts : List Nat) (s : Sl) (k : List (Nat × AV) → Prop), fcR ts s k = k (ts.map fun t => (t, s t))
  | [], _, _ => rfl
  | t :: ts, s, k => by unfold fcR; rw [AV.fc_eq, fcR_eq ts]; rfl
def fcW : List Nat → Ow → (List (Nat × Loc) → Prop) → Prop
  | [], _, k => k []
  | p :: ps, w, k => match w p with | ⟨v, ob⟩ => ob.fc fun ob => fcW ps w fun r => k ((p, ⟨v, ob⟩) :: r)
theorem fcW_eq : ∀ (ps : List Nat) (w : Ow) (k : List (Nat × Loc) → Prop), fcW ps w k = k (ps.map fun p => (p, w p))
  | [], _, _ => rfl
  | p :: ps, w, k => by unfold fcW; simp only [Own.fc_eq, fcW_eq ps]; rfl
theorem hasS_map (s : Sl) : ∀ ts : List Nat, HasS s (ts.map fun t => (t, s t))
  | [] => trivial
  | _ :: ts => ⟨rfl, hasS_map s ts⟩
theorem hasW_map (w : Ow) : ∀ ts : List Nat, HasW w (ts.map fun t => (t, w t))
  | [] => trivial
  | _ :: ts => ⟨rfl, hasW_map w ts⟩
theorem hasW_app {w : Ow} : ∀ {l r : List (Nat × Loc)}, HasW w l → HasW w r → HasW w (l ++ r)
  | [], _, _, h => h
  | _ :: _, _, h, k => ⟨h.1, hasW_app h.2 k⟩
theorem hasS_app {s : Sl} : ∀ {l r : List (Nat × AV)}, HasS s l → HasS s r → HasS s (l ++ r)
  | [], _, _, h => h
  | _ :: _, _, h, k => ⟨h.1, hasS_app h.2 k⟩

/-- What stands at a loop's head: the slots that turn, the own places that turn, the slots and own places that stay. -/
structure Head (s : Sl) (w : Ow) (L : List (Nat × AV)) (O : List (Nat × Nat × Bool × Own)) (R : List (Nat × AV)) (RW : List (Nat × Loc)) : Prop where
  l : HasS s L
  o : HasR ⟨s, w⟩ O
  r : HasS s R
  rw : HasW w RW
def verF (w : Ow) (p : Nat) : Nat := match w p with | ⟨v, _⟩ => v
def loopGQ {α : Type} (L : α → (Nat → Nat) → List (Nat × AV)) (O : α → (Nat → Nat) → List (Nat × Nat × Bool × Own)) (P : α → Prop) (m : α → Nat) (R : List (Nat × AV)) (V : α → (Nat → Nat) → List (Nat × Loc)) (RW : List (Nat × Loc)) (a : α) (Q : Exit → Sl → Ow → Prop) (e : Exit) (s : Sl) (w : Ow) : Prop := match e with
  | .normal => ∃ a', m a' < m a ∧ P a' ∧ Head s w (L a' (verF w)) (O a' (verF w)) R (V a' (verF w) ++ RW)
  | e => Q e s w
section
variable {c : Cfg} {Q : Exit → Sl → Ow → Prop} {s : Sl} {w : Ow} {x y : Code} {α : Type} {L : α → (Nat → Nat) → List (Nat × AV)} {O : α → (Nat → Nat) → List (Nat × Nat × Bool × Own)} {V : α → (Nat → Nat) → List (Nat × Loc)} {P : α → Prop} {m : α → Nat} {R : List (Nat × AV)} {RW : List (Nat × Loc)} {a : α}
theorem gq_n (h : ∃ a', m a' < m a ∧ P a' ∧ Head s w (L a' (verF w)) (O a' (verF w)) R (V a' (verF w) ++ RW)) : loopGQ L O P m R V RW a Q .normal s w := h
theorem gq_r (h : Q .ret s w) : loopGQ L O P m R V RW a Q .ret s w := h
theorem gq_e {i : Nat} (h : Q (.exit i) s w) : loopGQ L O P m R V RW a Q (.exit i) s w := h
theorem awp'_loopG (L : α → (Nat → Nat) → List (Nat × AV)) (O : α → (Nat → Nat) → List (Nat × Nat × Bool × Own)) (V : α → (Nat → Nat) → List (Nat × Loc)) (P : α → Prop) (m : α → Nat) (ts ps : List Nat) (a0 : α)
    (h : fcR ts s fun R => fcW ps w fun RW => (P a0 ∧ HasS s (L a0 (verF w)) ∧ HasR ⟨s, w⟩ (O a0 (verF w)) ∧ HasW w (V a0 (verF w))) ∧
      ∀ a g o v, P a → awp' c x (loopGQ L O P m R V RW a Q) (updR v (updS g (L a v ++ R)) (O a v)) (updO v (updW o (V a v ++ RW)) (O a v))) : awp' c (.loop x) Q s w := by
  rw [fcR_eq, fcW_eq] at h
  obtain ⟨⟨h1, h2, h3, h3'⟩, h⟩ := h
  refine awp'_loop (fun a σ => P a ∧ Head σ.slots σ.own (L a (verF σ.own)) (O a (verF σ.own)) (ts.map fun t => (t, s t)) (V a (verF σ.own) ++ ps.map fun p => (p, w p))) m a0 ⟨h1, h2, h3, hasS_map s ts, hasW_app h3' (hasW_map w ps)⟩ ?_
  rintro a s' w' ⟨hP, hl, ho, hr, hw⟩
  have h4 := h a s' w' (verF w') hP
  have e1 : updS s' (L a (verF w') ++ ts.map fun t => (t, s t)) = s' := (hasS_eq (hasS_app hl hr)).symm
  have e2 : updW w' (V a (verF w') ++ ps.map fun p => (p, w p)) = w' := (hasW_eq hw).symm
  have e3 : updR (verF w') s' (O a (verF w')) = s' := updR_self ho
  have e4 : updO (verF w') w' (O a (verF w')) = w' := updO_self ho
  rw [e1, e2, e3, e4] at h4
  refine cast (congrArg (fun q => awp' c x q s' w') ?_) h4
  funext e s'' w''
  cases e <;> rfl
end
theorem vInt_s {n : Nat} (h : n ≤ 4611686018427387904) : vInt (IntKind.i64.wrap ((n : Int) + 1)) = vInt ((n + 1 : Nat) : Int) := congrArg vInt (W_nat h)
end Go.Proofs.Ytpeaannkmokhpaa
