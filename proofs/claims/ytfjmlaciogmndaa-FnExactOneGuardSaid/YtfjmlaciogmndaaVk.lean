/- Types of a program, as the abstract run asks for them. -/
import Derived.Test.YtfjmlaciogmndaaVq
import Derived.Laws.StructEq
namespace Go.Proofs.Ytfjmlaciogmndaa
open Go.RowKit

theorem eqOk_of {P : Program} {t tf : TypeId} {f0 f1 : Field} (hg : P.eqGuardType P.depth t = false) (hs : P.stoodInHeld t = false) (hu : P.underlying t = some (.struct #[f0, f1]))
    (h0 : (f0.name, f0.type, f0.offset) = ("X", tf, 0)) (h1 : (f1.name, f1.type, f1.offset) = ("Y", tf, 1)) (hi : P.underlying tf = some (.int .i64)) : EqOk P t := by
  intro w x y a1 a2 b1 b2
  simp only [Prod.mk.injEq] at h0 h1
  obtain ⟨n0, t0, o0⟩ := h0
  obtain ⟨n1, t1, o1⟩ := h1
  have hag : aggB P tf = false := by simp [aggB, hi]
  have hisS : (P.underlying tf).isSome = true := by simp [hi]
  have hint : ∀ (d : Nat) (a b : Int) (w : World), (Op.equalIn (d + 1) tf (.int .i64 a) (.int .i64 b)).run P w = .ok (a == b) w := fun d a b w => by simp [Op.equalIn, run_und hi]
  have hpart0 : ∀ (a b : Int) (w : World), (part tf #[.int .i64 a, .int .i64 b] 0).run P w = .ok (.int .i64 a) w := fun a b w => by
    unfold part
    simp [run_isAgg hisS, hag]
  have hpart1 : ∀ (a b : Int) (w : World), (part tf #[.int .i64 a, .int .i64 b] 1).run P w = .ok (.int .i64 b) w := fun a b w => by
    unfold part
    simp [run_isAgg hisS, hag]
  have hfo : P.fieldsOf t = #[f0, f1] := by simp [Program.fieldsOf, hu]
  refine ⟨?_, ?_, ?_⟩
  · unfold eqGuard; simp [hg]
  · unfold eqGuard; simp [hg]
  · have hX : (("X" : String) = "_") = False := by simp
    have hY : (("Y" : String) = "_") = False := by simp
    unfold Op.equal Op.maxDepth
    rw [run_equalIn_struct w 9999 t _ _ (by rw [hu, hfo]) hs, hfo]
    simp only [Op.eqFields, n0, n1, t0, t1, o0, o1, ne_eq, hX, hY, not_false_eq_true, if_true, Sem.run_bind, hpart0, Result.andThen_ok, hint 9998]
    by_cases e1 : a1 = b1
    · subst e1
      by_cases e2 : a2 = b2
      · subst e2; simp [hpart1, hint 9998]
      · simp [hpart1, hint 9998, e2]
    · simp [e1]

theorem bif_some {α : Type _} {b : Bool} {x i : α} {y : Option α} (h : (bif b then some x else y) = some i) : (b = true ∧ x = i) ∨ (b = false ∧ y = some i) := by
  cases b with
  | true => injection h with h; exact .inl ⟨rfl, h⟩
  | false => exact .inr ⟨rfl, h⟩

def tInt : TI := ⟨1, [.int .i64], .int .i64⟩
def tBool : TI := ⟨1, [.bool], .bool⟩
def tPt : TI := ⟨2, [.int .i64, .int .i64], .struct [(0, 1, false), (1, 1, false)] true⟩
def tWall : TI := ⟨4, [.int .i64, .int .i64, .int .i64, .int .i64], .struct [(0, 2, true), (2, 2, true)] false⟩
def tTri : TI := ⟨3, [.int .i64, .int .i64, .int .i64], .struct [(0, 1, false), (1, 1, false), (2, 1, false)] false⟩
def tRoom : TI := ⟨1, [.nil], .struct [(0, 1, false)] false⟩
def tSlI (e : TypeId) : TI := ⟨1, [.nil], .slice e (.b .int) 8 [.int .i64]⟩
def tSlB (e : TypeId) : TI := ⟨1, [.nil], .slice e (.b .bool) 1 [.bool]⟩
def tSlP (e : TypeId) : TI := ⟨1, [.nil], .slice e (.b .pt) 16 [.int .i64, .int .i64]⟩
def tSlW (e : TypeId) : TI := ⟨1, [.nil], .slice e (.b .wall) 32 [.int .i64, .int .i64, .int .i64, .int .i64]⟩
def tSlT (e : TypeId) : TI := ⟨1, [.nil], .slice e (.b .tri) 24 [.int .i64, .int .i64, .int .i64]⟩
def tSlII (e : TypeId) : TI := ⟨1, [.nil], .slice e (.s .int) 24 [.nil]⟩
def tSlBB (e : TypeId) : TI := ⟨1, [.nil], .slice e (.s .bool) 24 [.nil]⟩

/-! ### Tables by lists -/
def look {α : Type _} : List (Nat × α) → Nat → Option α
  | [], _ => none
  | (k, x) :: r, n => bif Nat.beq n k then some x else look r n

def memB : List Nat → Nat → Bool
  | [], _ => false
  | k :: r, n => bif Nat.beq n k then true else memB r n

def TysOk (P : Program) : List (TypeId × TI) → Prop
  | [] => True
  | x :: r => TIok P x.1 x.2 ∧ TysOk P r

structure Good1 (P : Program) (f : FuncId) (c : Con) : Prop where
  snd : Sound P f c
  has : ∃ fn, P.funcs[f]? = some fn ∧ (fn.name == "runtime.NumGoroutine") = false ∧ fn.body.isNone = false

def EnvOk (P : Program) : List (FuncId × Con) → Prop
  | [] => True
  | x :: r => Good1 P x.1 x.2 ∧ EnvOk P r

structure GoodW (P : Program) (f : FuncId) (c : ConW) : Prop where
  snd : SoundW P f c
  has : ∃ fn, P.funcs[f]? = some fn ∧ (fn.name == "runtime.NumGoroutine") = false ∧ fn.body.isNone = false
def EnvWOk (P : Program) : List (FuncId × ConW) → Prop
  | [] => True
  | x :: r => GoodW P x.1 x.2 ∧ EnvWOk P r
theorem look_envw {P : Program} : ∀ {l : List (FuncId × ConW)}, EnvWOk P l → ∀ f k, look l f = some k → SoundW P f k ∧ (∃ fn, P.funcs[f]? = some fn ∧ (fn.name == "runtime.NumGoroutine") = false ∧ fn.body.isNone = false)
  | [], _, t, i, h => by cases h
  | x :: r, hl, t, i, h => by
    unfold look at h
    rcases bif_some h with ⟨hb, rfl⟩ | ⟨_, h⟩
    · rw [Nat.eq_of_beq_eq_true hb]; exact ⟨hl.1.snd, hl.1.has⟩
    · exact look_envw hl.2 t i h
theorem look_ty {P : Program} : ∀ {l : List (TypeId × TI)}, TysOk P l → ∀ t i, look l t = some i → TIok P t i
  | [], _, t, i, h => by cases h
  | x :: r, hl, t, i, h => by
    unfold look at h
    rcases bif_some h with ⟨hb, rfl⟩ | ⟨_, h⟩
    · rw [Nat.eq_of_beq_eq_true hb]; exact hl.1
    · exact look_ty hl.2 t i h

theorem look_env {P : Program} : ∀ {l : List (FuncId × Con)}, EnvOk P l → ∀ f k, look l f = some k → Sound P f k ∧ (∃ fn, P.funcs[f]? = some fn ∧ (fn.name == "runtime.NumGoroutine") = false ∧ fn.body.isNone = false)
  | [], _, t, i, h => by cases h
  | x :: r, hl, t, i, h => by
    unfold look at h
    rcases bif_some h with ⟨hb, rfl⟩ | ⟨_, h⟩
    · rw [Nat.eq_of_beq_eq_true hb]; exact ⟨hl.1.snd, hl.1.has⟩
    · exact look_env hl.2 t i h

structure GoodD (P : Program) (f : FuncId) (c : ConD) : Prop where
  snd : SoundD P f c
  has : ∃ fn, P.funcs[f]? = some fn ∧ (fn.name == "runtime.NumGoroutine") = false ∧ fn.body.isNone = false
def EnvDOk (P : Program) : List (FuncId × ConD) → Prop
  | [] => True
  | x :: r => GoodD P x.1 x.2 ∧ EnvDOk P r
theorem look_envd {P : Program} : ∀ {l : List (FuncId × ConD)}, EnvDOk P l → ∀ f k, look l f = some k → SoundD P f k ∧ (∃ fn, P.funcs[f]? = some fn ∧ (fn.name == "runtime.NumGoroutine") = false ∧ fn.body.isNone = false)
  | [], _, t, i, h => by cases h
  | x :: r, hl, t, i, h => by
    unfold look at h
    rcases bif_some h with ⟨hb, rfl⟩ | ⟨_, h⟩
    · rw [Nat.eq_of_beq_eq_true hb]; exact ⟨hl.1.snd, hl.1.has⟩
    · exact look_envd hl.2 t i h
/-- How a body is run, by lists. -/
@[reducible] def mkCfg (tys : List (TypeId × TI)) (env : List (FuncId × Con)) (envw : List (FuncId × ConW)) (wr fr sp sw dp : List Nat) (envd : List (FuncId × ConD)) (pure : Bool) : Cfg := ⟨look tys, look env, memB wr, memB fr, look envw, memB sp, pure, memB sw, memB dp, look envd⟩
section
variable {P : Program} {f : FuncId} {fn : Func} {body : Code} {tys : List (TypeId × TI)} {env : List (FuncId × Con)} {envw : List (FuncId × ConW)} {envd : List (FuncId × ConD)} {ts : List Ty} {wi : Nat} {ty ety : TypeId} {pre : Args ts → Prop} {res : Args ts → RV} {av : Args ts → AV} {out : Args ts → WR} {outD : Args ts → List (List Int)}
theorem good_of_run (wr fr sp sw dp : List Nat) (hm : P.follows .mixedOrders = true) (ht : TysOk P tys) (he : EnvOk P env) (hew : EnvWOk P envw) (hed : EnvDOk P envd)
    (hf : P.funcs[f]? = some fn) (hb : fn.body = some body) (hname : (fn.name == "runtime.NumGoroutine") = false) (hn : ts.length ≤ fn.ntmps) (hcode : codeB (mkCfg tys env envw wr fr sp sw dp envd true) fn.ntmps body = true)
    (hrun : ∀ x, pre x → awp (mkCfg tys env envw wr fr sp sw dp envd true) body (Fin (mkCfg tys env envw wr fr sp sw dp envd true) fn.results.toList (res x)) ⟨initS (encs ts x), deadOwn⟩) : Good1 P f (mkCon ts pre res) :=
  ⟨sound_of_run hm ⟨look_ty ht, look_env he, look_envw hew, look_envd hed⟩ hf hb hn hcode hrun, fn, hf, hname, by rw [hb]; rfl⟩
theorem good_of_runD (wr fr sp sw dp : List Nat) (hm : P.follows .mixedOrders = true) (ht : TysOk P tys) (he : EnvOk P env) (hew : EnvWOk P envw) (hed : EnvDOk P envd)
    (hf : P.funcs[f]? = some fn) (hb : fn.body = some body) (hname : (fn.name == "runtime.NumGoroutine") = false) (hn : ts.length ≤ fn.ntmps) (hcode : codeB (mkCfg tys env envw wr fr sp sw dp envd true) fn.ntmps body = true)
    (hrun : ∀ x, pre x → awp (mkCfg tys env envw wr fr sp sw dp envd true) body (FinD (mkCfg tys env envw wr fr sp sw dp envd true) fn.results.toList ety (res x)) ⟨initS (encs ts x), deadOwn⟩) : Good1 P f (mkConD ts pre res ety) :=
  ⟨sound_of_runD hm ⟨look_ty ht, look_env he, look_envw hew, look_envd hed⟩ hf hb hn hcode hrun, fn, hf, hname, by rw [hb]; rfl⟩
theorem good_of_runW (wr fr sp sw dp : List Nat) (hm : P.follows .mixedOrders = true) (ht : TysOk P tys) (he : EnvOk P env) (hew : EnvWOk P envw) (hed : EnvDOk P envd)
    (hf : P.funcs[f]? = some fn) (hb : fn.body = some body) (hname : (fn.name == "runtime.NumGoroutine") = false) (hn : ts.length ≤ fn.ntmps) (hcode : codeB (mkCfg tys env envw wr fr sp sw dp envd false) fn.ntmps body = true)
    (hrun : ∀ x, pre x → awp (mkCfg tys env envw wr fr sp sw dp envd false) body (FinW (mkCfg tys env envw wr fr sp sw dp envd false) fn.results.toList ty (av x) (out x)) ⟨initS (encW wi ts x), ownW wi ty ts x⟩) : GoodW P f (mkConW ts wi ty pre av out) :=
  ⟨sound_of_runW hm ⟨look_ty ht, look_env he, look_envw hew, look_envd hed⟩ hf hb hn hcode hrun, fn, hf, hname, by rw [hb]; rfl⟩
theorem good_of_runDW (wr fr sp sw dp : List Nat) (hm : P.follows .mixedOrders = true) (ht : TysOk P tys) (he : EnvOk P env) (hew : EnvWOk P envw) (hed : EnvDOk P envd)
    (hf : P.funcs[f]? = some fn) (hb : fn.body = some body) (hname : (fn.name == "runtime.NumGoroutine") = false) (hn : ts.length ≤ fn.ntmps) (hcode : codeB (mkCfg tys env envw wr fr sp sw dp envd false) fn.ntmps body = true)
    (hrun : ∀ x, pre x → awp (mkCfg tys env envw wr fr sp sw dp envd false) body (FinDW (mkCfg tys env envw wr fr sp sw dp envd false) fn.results.toList ty ety (av x) (outD x)) ⟨initS (encW wi ts x), ownDW wi ty ety ts x⟩) : GoodD P f (mkConDW ts wi ty ety pre av outD) :=
  ⟨sound_of_runDW hm ⟨look_ty ht, look_env he, look_envw hew, look_envd hed⟩ hf hb hn hcode hrun, fn, hf, hname, by rw [hb]; rfl⟩
end
end Go.Proofs.Ytfjmlaciogmndaa
