/- The abstract run in use: a rule for loops, and tactics. -/
import Derived.Test.YtfjmlaciogmndaaVk
namespace Go.Proofs.Ytfjmlaciogmndaa
open Go.RowKit

theorem vr_mono {α : Type} {r : VR α} {K K' : α → Prop} (h : ∀ x, K x → K' x) (hr : r.run K) : r.run K' := by
  cases r with
  | no => exact hr
  | ok p x => exact ⟨hr.1, h _ hr.2⟩

theorem aop_mono {c : Cfg} {o : Oper} {σ : St} {K K' : St → Prop} (h : ∀ x, K x → K' x) (hr : aop c o σ K) : aop c o σ K' := by
  unfold aop at *
  cases h1 : isEff c o <;> rw [h1] at hr <;> simp only at *
  · cases h2 : isFr c o <;> rw [h2] at hr <;> simp only at *
    · cases h3 : isSp c o <;> rw [h3] at hr <;> simp only at *
      · exact vr_mono (fun _ => h _) hr
      · exact ⟨hr.1, vr_mono (fun _ => h _) hr.2⟩
    · exact ⟨hr.1, vr_mono (fun _ => h _) hr.2⟩
  · exact vr_mono (fun _ => h _) hr

theorem aguard_mono {ops : List Oper} {o : Oper} {σ : St} {K K' : Bool → St → Prop} (h : ∀ b x, K b x → K' b x) (hr : aguard ops o σ K) : aguard ops o σ K' := by
  unfold aguard at *
  split at hr
  · exact h _ _ hr
  · split at hr
    · split at hr
      · split at hr
        · exact ⟨fun e => h _ _ (hr.1 e), fun e => h _ _ (hr.2 e)⟩
        · exact h _ _ hr
        · exact hr
      · exact hr
    · exact hr

theorem arun_mono {c : Cfg} {ops : List Oper} : ∀ {l : List Oper} {σ : St} {K K' : St → Prop}, (∀ x, K x → K' x) → arun c ops l σ K → arun c ops l σ K'
  | [], σ, K, K', h, hr => h _ hr
  | o :: rest, σ, K, K', h, hr => by
    unfold arun at *
    refine aguard_mono (fun b x hb => ?_) hr
    cases b with
    | true => exact aop_mono (fun _ => arun_mono h) hb
    | false => exact arun_mono h hb

theorem awp_mono {c : Cfg} : ∀ {x : Code} {Q Q' : Exit → St → Prop} {σ : St}, (∀ e s, Q e s → Q' e s) → awp c x Q σ → awp c x Q' σ := by
  intro x
  induction x with
  | skip => intro Q Q' σ h hr; exact h _ _ hr
  | label _ => intro Q Q' σ h hr; exact h _ _ hr
  | region _ ops _ =>
    intro Q Q' σ h hr
    obtain ⟨σ0, h0, hr⟩ := hr
    exact ⟨σ0, h0, arun_mono (fun _ ⟨D, E, hk, hm, hD⟩ => ⟨D, E, hk, hm, h _ _ hD⟩) hr⟩
  | seq a b iha ihb =>
    intro Q Q' σ h hr
    refine iha (fun e s hs => ?_) hr
    cases e with
    | normal => exact ihb h hs
    | _ => exact h _ _ hs
  | cond p a b iha ihb =>
    intro Q Q' σ h hr
    simp only [awp] at hr ⊢
    split at hr
    · exact ⟨fun e => iha h (hr.1 e), fun e => ihb h (hr.2 e)⟩
    · exact hr
  | block id a iha =>
    intro Q Q' σ h hr
    refine iha (fun e s hs => ?_) hr
    cases e with
    | exit i =>
      simp only at hs ⊢
      cases hb : Nat.beq i id <;> rw [hb] at hs <;> exact h _ _ hs
    | _ => exact h _ _ hs
  | loop a iha =>
    intro Q Q' σ h hr
    obtain ⟨σ0, I, μ, hk, h0, h1⟩ := hr
    refine ⟨σ0, I, μ, hk, h0, fun s hs => iha (fun e t ht => ?_) (h1 s hs)⟩
    cases e with
    | normal => exact ht
    | _ => exact h _ _ ht
  | exit id => intro Q Q' σ h hr; exact h _ _ hr
  | ret => intro Q Q' σ h hr; exact h _ _ hr
  | _ => intro Q Q' σ h hr; exact hr

/-! ### The same run, its values brought to constructors at each step (so that the kernel checks it fast) -/
def D.fc1 (x : D) (K : D → Prop) : Prop := match x with
  | .int k n => K (.int k n) | .bool b => K (.bool b) | .nil => K .nil | .sl nl k xs => K (.sl nl k xs) | .full k xs => K (.full k xs) | .ptr cs => K (.ptr cs) | .clo f caps => K (.clo f caps)
def fcDs : List D → (List D → Prop) → Prop
  | [], K => K []
  | x :: xs, K => x.fc1 fun x => fcDs xs fun xs => K (x :: xs)
def D.fc (x : D) (K : D → Prop) : Prop := match x with
  | .int k n => K (.int k n) | .bool b => K (.bool b) | .nil => K .nil | .sl nl k xs => K (.sl nl k xs) | .full k xs => K (.full k xs) | .ptr cs => fcDs cs fun cs => K (.ptr cs) | .clo f caps => fcDs caps fun caps => K (.clo f caps)
def Cell.fc (x : Cell) (K : Cell → Prop) : Prop := match x with
  | .d x => x.fc fun x => K (.d x) | .own l v => K (.own l v) | .ptr l v i j => K (.ptr l v i j) | .sub l v i j => K (.sub l v i j)
def fcCs : List Cell → (List Cell → Prop) → Prop
  | [], K => K []
  | x :: xs, K => x.fc fun x => fcCs xs fun xs => K (x :: xs)
def fcSs : List (Cell ⊕ List Cell) → (List (Cell ⊕ List Cell) → Prop) → Prop
  | [], K => K []
  | .inl x :: xs, K => x.fc fun x => fcSs xs fun xs => K (.inl x :: xs)
  | .inr x :: xs, K => fcCs x fun x => fcSs xs fun xs => K (.inr x :: xs)
def AV.fc (x : AV) (K : AV → Prop) : Prop := match x with
  | .one c => c.fc fun c => K (.one c) | .agg cs => fcCs cs fun cs => K (.agg cs) | .tup xs => fcSs xs fun xs => K (.tup xs) | .junk => K .junk
def Own.fc (x : Own) (K : Own → Prop) : Prop := match x with
  | .dead => K .dead | .box ty cs => fcCs cs fun cs => K (.box ty cs) | .row ty k xs => K (.row ty k xs) | .tail ty k xs => K (.tail ty k xs) | .deep ty ety e xs g => K (.deep ty ety e xs g)
theorem D.fc1_eq (x : D) (K : D → Prop) : x.fc1 K = K x := by cases x <;> rfl
theorem fcDs_eq : ∀ (xs : List D) (K : List D → Prop), fcDs xs K = K xs
  | [], _ => rfl
  | x :: xs, K => by unfold fcDs; rw [D.fc1_eq, fcDs_eq xs]
theorem D.fc_eq (x : D) (K : D → Prop) : x.fc K = K x := by
  cases x with
  | ptr cs => exact fcDs_eq cs fun x => K (.ptr x)
  | clo f cs => exact fcDs_eq cs fun x => K (.clo f x)
  | _ => rfl
theorem Cell.fc_eq (x : Cell) (K : Cell → Prop) : x.fc K = K x := by
  cases x with
  | d x => exact D.fc_eq x fun x => K (.d x)
  | _ => rfl
theorem fcCs_eq : ∀ (xs : List Cell) (K : List Cell → Prop), fcCs xs K = K xs
  | [], _ => rfl
  | x :: xs, K => by unfold fcCs; rw [Cell.fc_eq, fcCs_eq xs]
theorem fcSs_eq : ∀ (xs : List (Cell ⊕ List Cell)) (K : List (Cell ⊕ List Cell) → Prop), fcSs xs K = K xs
  | [], _ => rfl
  | .inl x :: xs, K => by unfold fcSs; rw [Cell.fc_eq, fcSs_eq xs]
  | .inr x :: xs, K => by unfold fcSs; rw [fcCs_eq, fcSs_eq xs]
theorem AV.fc_eq (x : AV) (K : AV → Prop) : x.fc K = K x := by
  cases x with
  | one c => exact Cell.fc_eq c fun x => K (.one x)
  | agg cs => exact fcCs_eq cs fun x => K (.agg x)
  | tup cs => exact fcSs_eq cs fun x => K (.tup x)
  | junk => rfl
theorem Own.fc_eq (x : Own) (K : Own → Prop) : x.fc K = K x := by
  cases x with
  | box ty cs => exact fcCs_eq cs fun x => K (.box ty x)
  | _ => rfl

abbrev Sl := Nat → AV
abbrev Ow := Nat → Loc
def aput (s : Sl) (dst : Option Tmp) (x : AV) (K : Sl → Prop) : Prop := match dst with
  | some d => K (upd s d x)
  | none => K s
theorem aput_eq (σ : St) (dst : Option Tmp) (x : AV) (K : Sl → Prop) : aput σ.slots dst x K = K (σ.put dst x).slots := by cases dst <;> rfl
def verOf (own : Nat → Loc) (d : Nat) (K : Nat → VR (AV × Nat × Loc)) : VR (AV × Nat × Loc) := match own d with | ⟨v, _⟩ => K (v + 1)
def aeffV (c : Cfg) (o : Oper) (ev : Operand → AV) (own : Nat → Loc) : VR (AV × Nat × Loc) :=
  match o.op, o.dst with
  | .alloc t, some d => match c.ty t with
    | some i => verOf own d fun v_ => .ok (deadIf (c.fr d) (own d)) (.one (.ptr d v_ 0 0), d, ⟨v_, .box t (i.zero.map ZK.c)⟩)
    | none => .no
  | .box t x, some d => match cells (ev x) with
    | some cs => verOf own d fun v_ => .ok True (.one (.ptr d v_ 0 0), d, ⟨v_, .box t cs⟩)
    | none => .no
  | .buildSlice t len parts, some d => match c.ty t with
    | some ⟨_, _, .slice e k _ z⟩ => match Nat.ble len 1024, elems k (z.map ZK.c) (parts.toList.map fun p => (p.1, ev p.2)) len with
      | true, some xs => verOf own d fun v_ => .ok True (.one (.own d v_), d, ⟨v_, .row e k xs⟩)
      | _, _ => .no
    | _ => .no
  | .makeSlice t len cap, some d => match c.ty t, ev len, ev cap with
    | some ⟨_, _, .slice e k b z⟩, .one (.d (.int .i64 n)), .one (.d (.int .i64 n')) => match k.dec (z.map ZK.c) with
      | some z => verOf own d fun v_ => .ok (n' = n ∧ 0 ≤ n ∧ n ≤ 1073741824 ∧ b ≤ 4096) (.one (.own d v_), d, ⟨v_, .row e k (List.replicate n.toNat z)⟩)
      | none => .no
    | _, _, _ => .no
  | .store t a x, none => match ev a, cells (ev x), c.ty t with
    | .one (.ptr l ver i j), some cs, some ti => match Nat.beq cs.length ti.size, own l with
      | true, ⟨ver', .box ty cs'⟩ => .ok (ver = ver' ∧ j + cs.length ≤ cs'.length) (.junk, l, ⟨ver, .box ty (putCells cs' j cs)⟩)
      | true, ⟨ver', .row ty k xs⟩ => match setElem k xs i j cs with
        | some xs' => .ok (ver = ver' ∧ j + cs.length ≤ k.size ∧ i < xs.length) (.junk, l, ⟨ver, .row ty k xs'⟩)
        | none => .no
      | _, _ => .no
    | _, _, _ => .no
  | .slice t x none (some hi) none, some _ => match c.ty t, ev x, ev hi with
    | some ⟨_, _, .slice _ k' _ _⟩, .one (.own l ver), .one (.d (.int _ h)) => match own l with
      | ⟨ver', .row ty k xs⟩ => match ElK.beq k' k with
        | true => .ok (ver = ver' ∧ (0 ≤ h ∧ h ≤ (xs.length : Int))) (.one (.own l (ver + 1)), l, ⟨ver + 1, .row ty k (xs.take h.toNat)⟩)
        | false => .no
      | _ => .no
    | _, _, _ => .no
  | .slice t x (some lo) none none, some d => match c.ty t, ev x, ev lo with
    | some ⟨_, _, .slice _ k' _ _⟩, .one (.own l ver), .one (.d (.int _ h)) => match own l with
      | ⟨ver', .row ty k xs⟩ => match ElK.beq k' k with
        | true => .ok (ver = ver' ∧ tailF c d l = true ∧ 0 < xs.length ∧ (0 ≤ h ∧ h ≤ (xs.length : Int))) (.one (.own l (ver + 1)), l, ⟨ver + 1, .tail ty k (xs.drop h.toNat)⟩)
        | false => .no
      | ⟨ver', .tail ty k xs⟩ => match ElK.beq k' k with
        | true => .ok (ver = ver' ∧ tailF c d l = true ∧ (0 ≤ h ∧ h ≤ (xs.length : Int))) (.one (.own l (ver + 1)), l, ⟨ver + 1, .tail ty k (xs.drop h.toNat)⟩)
        | false => .no
      | _ => .no
    | _, _, _ => .no
  | .call cl, some d => match cl.callee with
    | .builtin .append => match evL ev cl.args.toList, cl.argTypes.toList with
      | [s, x], [t, t'] => match Nat.beq t t', c.ty t with
        | true, some ⟨_, _, .slice e k b _⟩ => match view own x with
          | .no => .no
          | .ok p (x', bv) => match asYs k x' with
            | none => .no
            | some ys => match s with
              | .one (.own l ver) => match own l with
                | ⟨ver', .row ty k' xs⟩ => match castL k k' xs with
                  | some xs => .ok (p ∧ (bv && !k.base) = false ∧ ver = ver' ∧ ty = e ∧ xs.length + ys.length ≤ 1073741824 ∧ b ≤ 4096) (.one (.own l (ver' + 1)), l, ⟨ver' + 1, .row e k (xs ++ ys)⟩)
                  | none => .no
                | ⟨ver', .tail ty k' xs⟩ => match castL k k' xs with
                  | some xs => .ok (p ∧ (bv && !k.base) = false ∧ ver = ver' ∧ ty = e ∧ 0 < ys.length ∧ xs.length + ys.length ≤ 1073741824 ∧ b ≤ 4096) (.one (.own l (ver' + 1)), l, ⟨ver' + 1, .tail e k (xs ++ ys)⟩)
                  | none => .no
                | _ => .no
              | .one (.d (.full k' xs)) => match castL k k' xs with
                | some xs => verOf own d fun v_ => .ok (p ∧ (bv && !k.base) = false ∧ 0 < ys.length ∧ xs.length + ys.length ≤ 1073741824 ∧ b ≤ 4096) (.one (.own d v_), d, ⟨v_, .row e k (xs ++ ys)⟩)
                | none => .no
              | .one (.d .nil) => verOf own d fun v_ => .ok (p ∧ (bv && !k.base) = false ∧ ys.length ≤ 1073741824 ∧ b ≤ 4096) (.one (.own d v_), d, ⟨v_, .row e k ys⟩)
              | _ => .no
        | _, _ => .no
      | _, _ => .no
    | .value g => match ev g with
      | .one (.d (.clo f caps)) => match acallW c own f (evL ev cl.args.toList ++ capsOf caps) with
        | .ok p l ver ty k ys true _ => .ok p (.one (.own l (ver + 1)), l, ⟨ver + 1, .row ty k ys⟩)
        | .ok p l ver ty k ys false av => .ok p (av, l, ⟨ver, .row ty k ys⟩)
        | .no => match acall c own f (evL ev cl.args.toList ++ capsOf caps) with
          | .no => .no
          | .ok p r => match r.row with
            | some R => verOf own d fun v_ => .ok p (ren (.own d v_) r.av, d, ⟨v_, .row R.ty R.k R.xs⟩)
            | none => .ok p (r.data, d, own d)
      | _ => .no
    | .builtin .copy => match evL ev cl.args.toList, cl.argTypes.toList with
      | [x, s], [t, _] => match c.ty t, x with
        | some ⟨_, _, .slice _ k _ _⟩, .one (.sub l ver off n) => match own l with
          | ⟨ver', .row ty k' xs⟩ => match readOf own s with
            | .ok q k'' ys => match castL k' k'' ys with
              | some ys => .ok (q ∧ 0 < ys.length ∧ ver = ver' ∧ k' = .b .int ∧ k = .b .int ∧ off + n ≤ xs.length) (.one (.d (.int .i64 ((min ys.length n : Nat) : Int))), l, ⟨ver, .row ty k' (putL xs off (ys.take n))⟩)
              | none => .no
            | .no => .no
          | _ => .no
        | some ⟨_, _, .slice _ k _ _⟩, .one (.own l ver) => match own l with
          | ⟨ver', .row ty k' xs⟩ => match readOf own s with
            | .ok q k'' ys => match castL k' k'' ys with
              | some ys => .ok (q ∧ 0 < ys.length ∧ ver = ver' ∧ k' = .b .int ∧ k = .b .int ∧ 0 < xs.length) (.one (.d (.int .i64 ((min ys.length xs.length : Nat) : Int))), l, ⟨ver, .row ty k' (putL xs 0 (ys.take xs.length))⟩)
              | none => .no
            | .no => .no
          | _ => .no
        | _, _ => .no
      | _, _ => .no
    | _ => .no
  | .call cl, none => match cl.callee with
    | .builtin .clear => match evL ev cl.args.toList, cl.argTypes.toList with
      | [x], [t] => match c.ty t, x with
        | some ⟨_, _, .slice _ k _ z⟩, .one (.sub l ver off n) => match own l with
          | ⟨ver', .row ty k' xs⟩ => match k'.dec (z.map ZK.c) with
            | some zv => .ok (ver = ver' ∧ k' = k ∧ off + n ≤ xs.length) (.junk, l, ⟨ver, .row ty k' (putL xs off (List.replicate n zv))⟩)
            | none => .no
          | _ => .no
        | _, _ => .no
      | _, _ => .no
    | _ => .no
  | _, _ => .no
def toEff (own : Nat → Loc) : VR (AV × Nat × Loc) → VR (AV × (Nat → Loc))
  | .no => .no
  | .ok p x => .ok p (x.1, upd own x.2.1 x.2.2)
theorem aeffV_eq (c : Cfg) (o : Oper) (ev : Operand → AV) (own : Nat → Loc) : toEff own (aeffV c o ev own) = aeff c o ev own := by
  unfold aeff aeffV
  cases ho : o.op <;> cases hd : o.dst <;> try rfl
  case alloc.some t d => simp only; cases c.ty t <;> rfl
  case box.some t x d => simp only; cases cells (ev x) <;> rfl
  case buildSlice.some t len parts d =>
    simp only
    rcases c.ty t with _ | ⟨sz, z, kind⟩
    · rfl
    · cases kind <;> try rfl
      simp only
      cases Nat.ble len 1024 <;> try rfl
      generalize elems _ _ _ _ = y
      cases y <;> rfl
  case makeSlice.some t len cap d =>
    simp only
    rcases c.ty t with _ | ⟨sz, z, kind⟩
    · rfl
    · cases kind <;> try rfl
      rcases ev len with (⟨_ | _ | _ | _ | _ | _ | _⟩ | _ | _ | _) | _ | _ | _ <;> try rfl
      rename_i k n
      cases k <;> try rfl
      rcases ev cap with (⟨_ | _ | _ | _ | _ | _ | _⟩ | _ | _ | _) | _ | _ | _ <;> try rfl
      rename_i k n
      cases k <;> try rfl
      simp only
      generalize ElK.dec _ _ = y
      cases y <;> rfl
  case store.none t a x =>
    simp only
    rcases ev a with (_ | _ | ⟨l, ver, i, j⟩ | _) | _ | _ | _ <;> try rfl
    rcases cells (ev x) with _ | cs <;> try rfl
    rcases c.ty t with _ | ti <;> try rfl
    simp only
    generalize Nat.beq _ _ = y
    generalize own l = z
    rcases z with ⟨ver', ob⟩
    cases y <;> cases ob <;> try rfl
    simp only
    generalize setElem _ _ _ _ _ = y
    cases y <;> rfl
  case slice.some t x lo hi mx d =>
    cases lo <;> cases hi <;> cases mx <;> try rfl
    · simp only
      rcases c.ty t with _ | ⟨sz, z, kind⟩
      · rfl
      · cases kind <;> try rfl
        rcases ev x with (_ | ⟨l, ver⟩ | _ | _) | _ | _ | _ <;> try rfl
        rename_i hi _ _ _ _
        rcases ev hi with (⟨_ | _ | _ | _ | _ | _ | _⟩ | _ | _ | _) | _ | _ | _ <;> try rfl
        simp only
        generalize own l = z
        rcases z with ⟨ver', ob⟩
        cases ob <;> try rfl
        all_goals (simp only; generalize ElK.beq _ _ = y; cases y <;> rfl)
    · simp only
      rcases c.ty t with _ | ⟨sz, z, kind⟩
      · rfl
      · cases kind <;> try rfl
        rcases ev x with (_ | ⟨l, ver⟩ | _ | _) | _ | _ | _ <;> try rfl
        rename_i lo _ _ _ _
        rcases ev lo with (⟨_ | _ | _ | _ | _ | _ | _⟩ | _ | _ | _) | _ | _ | _ <;> try rfl
        simp only
        generalize own l = z
        rcases z with ⟨ver', ob⟩
        cases ob <;> try rfl
        all_goals (simp only; generalize ElK.beq _ _ = y; cases y <;> rfl)
  case slice.none t x lo hi mx => cases lo <;> cases hi <;> cases mx <;> rfl
  case call.some cl d =>
    simp only
    rcases cl.callee with g | _ | b
    · simp only
      rcases ev g with (⟨_ | _ | _ | _ | _ | _ | ⟨f, caps⟩⟩ | _ | _ | _) | _ | _ | _ <;> try rfl
      simp only
      generalize acallW _ _ _ _ = z
      rcases z with _ | ⟨p, l, ver, ty, k, ys, trunc, av⟩
      · simp only
        generalize acall _ _ _ _ = y
        rcases y with _ | ⟨p, av, row⟩
        · rfl
        · cases row <;> rfl
      · cases trunc <;> rfl
    · rfl
    · cases b <;> try rfl
      case append =>
       simp only
       generalize evL ev cl.args.toList = as
       generalize cl.argTypes.toList = ts
       rcases as with _ | ⟨s, _ | ⟨x, _ | _⟩⟩ <;> try rfl
       rcases ts with _ | ⟨t, _ | ⟨t', _ | _⟩⟩ <;> try rfl
       simp only
       generalize Nat.beq _ _ = y
       rcases c.ty t with _ | ⟨sz, z, kind⟩ <;> cases y <;> try rfl
       cases kind <;> try rfl
       simp only
       generalize view own x = y
       rcases y with _ | ⟨p, x', bv⟩ <;> try rfl
       simp only
       generalize asYs _ _ = y
       cases y <;> try rfl
       simp only
       rcases s with (⟨_ | _ | _ | _ | _ | _ | _⟩ | ⟨l, ver⟩ | _ | _) | _ | _ | _ <;> try rfl
       · simp only
         generalize castL _ _ _ = y
         cases y <;> rfl
       · simp only
         generalize own l = z
         rcases z with ⟨ver', ob⟩
         cases ob <;> try rfl
         all_goals (simp only; generalize castL _ _ _ = y; cases y <;> rfl)
      case copy =>
       simp only
       generalize evL ev cl.args.toList = as
       generalize cl.argTypes.toList = ts
       rcases as with _ | ⟨x, _ | ⟨s, _ | _⟩⟩ <;> try rfl
       rcases ts with _ | ⟨t, _ | ⟨t', _ | _⟩⟩ <;> try rfl
       simp only
       rcases c.ty t with _ | ⟨sz, z, kind⟩
       · rfl
       · cases kind <;> try rfl
         rcases x with (⟨_ | _ | _ | _ | _ | _ | _⟩ | ⟨l, ver⟩ | _ | ⟨l, ver, off, n⟩) | _ | _ | _ <;> try rfl
         · simp only
           generalize own l = z
           rcases z with ⟨ver', ob⟩
           cases ob <;> try rfl
           simp only
           generalize readOf own s = y
           cases y <;> try rfl
           simp only
           generalize castL _ _ _ = y
           cases y <;> rfl
         · simp only
           generalize own l = z
           rcases z with ⟨ver', ob⟩
           cases ob <;> try rfl
           simp only
           generalize readOf own s = y
           cases y <;> try rfl
           simp only
           generalize castL _ _ _ = y
           cases y <;> rfl
  case call.none cl =>
    simp only
    rcases cl.callee with g | _ | b
    · rfl
    · rfl
    · cases b <;> try rfl
      simp only
      generalize evL ev cl.args.toList = as
      generalize cl.argTypes.toList = ts
      rcases as with _ | ⟨x, _ | _⟩ <;> try rfl
      rcases ts with _ | ⟨t, _ | _⟩ <;> try rfl
      simp only
      rcases c.ty t with _ | ⟨sz, z, kind⟩
      · rfl
      · cases kind <;> try rfl
        rcases x with (⟨_ | _ | _ | _ | _ | _ | _⟩ | ⟨l, ver⟩ | _ | ⟨l, ver, off, n⟩) | _ | _ | _ <;> try rfl
        simp only
        generalize own l = z
        rcases z with ⟨ver', ob⟩
        cases ob <;> try rfl
        simp only
        generalize ElK.dec _ _ = y
        cases y <;> rfl
def aop' (c : Cfg) (o : Oper) (s : Sl) (w : Ow) (K : Sl → Ow → Prop) : Prop := match isEff c o with
  | true => match isDp c o with
    | true => match aeffD c o (evA s) w with
      | .no => False
      | .ok p (x, w') => p ∧ x.fc fun x => aput s o.dst x fun s' => K s' w'
    | false => match isSw c o with
      | false => match aeffV c o (evA s) w with
        | .no => False
        | .ok p (x, l, ⟨v, ob⟩) => p ∧ x.fc fun x => aput s o.dst x fun s' => ob.fc fun ob => K s' (upd w l ⟨v, ob⟩)
      | true => match aeffV c o (evA s) w with
        | .no => False
        | .ok p (x, l, L) => match frzR c (x, upd w l L) with
          | .no => False
          | .ok q (y, w') => (p ∧ q) ∧ y.fc fun y => aput s o.dst y fun s' => K s' w'
  | false => match isFr c o with
    | true => dOnlyL noPl (evL (evA s) o.op.operands.toList) = true ∧ match aval c (evA s) w o.op with
      | .no => False
      | .ok p x => p ∧ x.fc fun x => aput s o.dst x fun s' => K s' w
    | false => match isSp c o with
      | true => dOnlyL (fixPl c) (evL (evA s) o.op.operands.toList) = true ∧ match aval c (evA s) w o.op with
        | .no => False
        | .ok p x => p ∧ x.fc fun x => aput s o.dst x fun s' => K s' w
      | false => match aval c (evA s) w o.op with
        | .no => False
        | .ok p x => p ∧ x.fc fun x => aput s o.dst x fun s' => K s' w
def aguard' (ops : List Oper) (o : Oper) (s : Sl) (K : Bool → Sl → Prop) : Prop := match o.guard with
  | none => K true s
  | some (j, want) => match ops[j]? with
    | some oj => match oj.dst with
      | some d => match s d with
        | .one (.d (.bool b)) => (b = true → K (true == want) (upd s d (.one (.d (.bool true))))) ∧ (b = false → K (false == want) (upd s d (.one (.d (.bool false)))))
        | .tup [] => K false s
        | _ => False
      | none => False
    | none => False
def arun' (c : Cfg) (ops : List Oper) : List Oper → Sl → Ow → (Sl → Ow → Prop) → Prop
  | [], s, w, K => K s w
  | o :: rest, s, w, K => aguard' ops o s fun wd s' => match wd with
    | true => aop' c o s' w fun s'' w'' => arun' c ops rest s'' w'' K
    | false => aput s' o.dst (.tup []) fun s'' => arun' c ops rest s'' w K
def awp' (c : Cfg) : Code → (Exit → Sl → Ow → Prop) → Sl → Ow → Prop
  | .skip, Q, s, w => Q .normal s w
  | .label _, Q, s, w => Q .normal s w
  | .region _ ops _, Q, s, w => ∃ s0 w0, Wks c ⟨s, w⟩ ⟨s0, w0⟩ ∧ arun' c ops.toList ops.toList s0 w0 fun s w => ∃ σ1 s' w', Wk c ⟨s, w⟩ σ1 ∧ Mv σ1 ⟨s', w'⟩ ∧ Q .normal s' w'
  | .seq x y, Q, s, w => awp' c x (fun e s' w' => match e with | .normal => awp' c y Q s' w' | e => Q e s' w') s w
  | .cond p x y, Q, s, w => match evA s p with
    | .one (.d (.bool b)) => (b = true → awp' c x Q s w) ∧ (b = false → awp' c y Q s w)
    | _ => False
  | .block id x, Q, s, w => awp' c x (fun e s' w' => match e with | .exit id' => (match Nat.beq id' id with | true => Q .normal s' w' | false => Q (.exit id') s' w') | e => Q e s' w') s w
  | .loop x, Q, s, w => ∃ (σ0 : St) (I : St → Prop) (μ : St → Nat), Wks c ⟨s, w⟩ σ0 ∧ I σ0 ∧ ∀ s' w', I ⟨s', w'⟩ → awp' c x (fun e s'' w'' => match e with | .normal => I ⟨s'', w''⟩ ∧ μ ⟨s'', w''⟩ < μ ⟨s', w'⟩ | e => Q e s'' w'') s' w'
  | .exit id, Q, s, w => Q (.exit id) s w
  | .ret, Q, s, w => Q .ret s w
  | _, _, _, _ => False

theorem aop'_iff {c : Cfg} {o : Oper} {σ : St} {K : St → Prop} : aop' c o σ.slots σ.own (fun s w => K ⟨s, w⟩) ↔ aop c o σ K := by
  unfold aop' aop
  cases isEff c o with
  | true =>
    simp only
    unfold aeffS
    cases isDp c o with
    | true =>
      simp only
      cases aeffD c o (evA σ.slots) σ.own with
      | no => exact Iff.rfl
      | ok p x => simp only [AV.fc_eq, aput_eq, VR.run]
    | false =>
    simp only
    cases isSw c o with
    | false =>
      simp only
      rw [← aeffV_eq]
      cases aeffV c o (evA σ.slots) σ.own with
      | no => exact Iff.rfl
      | ok p x => simp only [AV.fc_eq, Own.fc_eq, aput_eq, VR.run, toEff]
    | true =>
      simp only
      rw [← aeffV_eq]
      cases aeffV c o (evA σ.slots) σ.own with
      | no => exact Iff.rfl
      | ok p x =>
        simp only [toEff, VR.bind]
        cases frzR c (x.1, upd σ.own x.2.1 x.2.2) with
        | no => exact Iff.rfl
        | ok q y => simp only [AV.fc_eq, aput_eq, VR.run]
  | false =>
    have e : ∀ x, (⟨(σ.put o.dst x).slots, σ.own⟩ : St) = σ.put o.dst x := fun x => by cases o.dst <;> rfl
    cases isFr c o <;> cases isSp c o <;> simp only <;> cases aval c (evA σ.slots) σ.own o.op <;> simp only [AV.fc_eq, aput_eq, VR.run, e]
theorem aguard'_iff {ops : List Oper} {o : Oper} {s : Sl} {w : Ow} {K : Bool → St → Prop} : aguard' ops o s (fun b s => K b ⟨s, w⟩) ↔ aguard ops o ⟨s, w⟩ K := by
  unfold aguard' aguard
  cases o.guard with
  | none => exact Iff.rfl
  | some q =>
    simp only
    cases ops[q.1]? with
    | none => exact Iff.rfl
    | some oj =>
      simp only
      cases oj.dst with
      | none => exact Iff.rfl
      | some d => exact Iff.rfl
theorem aguard'_congr {ops : List Oper} {o : Oper} {s : Sl} {K K' : Bool → Sl → Prop} (h : ∀ b s, K b s ↔ K' b s) : aguard' ops o s K ↔ aguard' ops o s K' := by
  have : K = K' := funext fun b => funext fun s => propext (h b s)
  rw [this]
theorem aop'_congr {c : Cfg} {o : Oper} {s : Sl} {w : Ow} {K K' : Sl → Ow → Prop} (h : ∀ s w, K s w ↔ K' s w) : aop' c o s w K ↔ aop' c o s w K' := by
  have : K = K' := funext fun b => funext fun s => propext (h b s)
  rw [this]
theorem arun'_iff {c : Cfg} {ops : List Oper} : ∀ {l : List Oper} {s : Sl} {w : Ow} {K : St → Prop}, arun' c ops l s w (fun s w => K ⟨s, w⟩) ↔ arun c ops l ⟨s, w⟩ K
  | [], s, w, K => Iff.rfl
  | o :: rest, s, w, K => by
    unfold arun' arun
    rw [← aguard'_iff]
    refine aguard'_congr fun b s' => ?_
    cases b with
    | true =>
      simp only
      rw [← aop'_iff]
      exact aop'_congr fun s w => arun'_iff
    | false =>
      simp only
      rw [← arun'_iff]
      cases o.dst <;> exact Iff.rfl
theorem arun'_congr {c : Cfg} {ops l : List Oper} {s : Sl} {w : Ow} {K K' : Sl → Ow → Prop} (h : ∀ s w, K s w ↔ K' s w) : arun' c ops l s w K ↔ arun' c ops l s w K' := by
  have : K = K' := funext fun b => funext fun s => propext (h b s)
  rw [this]
theorem wk_refl {c : Cfg} (σ : St) : Wk c σ σ := by
  have hL : ∀ (xs : List Cell), RelL (FrzC (fun _ => false) σ.own) xs xs := fun xs => by
    induction xs with
    | nil => trivial
    | cons x xs ih => exact ⟨.inl rfl, ih⟩
  refine ⟨fun _ => false, fun t => ?_, fun n => ⟨rfl, .inr ⟨rfl, ?_⟩⟩⟩
  · cases σ.slots t <;> first | exact .inl rfl | exact hL _ | rfl
  · cases (σ.own n).obj <;> first | exact ⟨rfl, hL _⟩ | rfl
theorem awp'_iff {c : Cfg} : ∀ {x : Code} {Q : Exit → St → Prop} {s : Sl} {w : Ow}, awp' c x (fun e s w => Q e ⟨s, w⟩) s w ↔ awp c x Q ⟨s, w⟩ := by
  intro x
  induction x with
  | skip => intro Q s w; exact Iff.rfl
  | label _ => intro Q s w; exact Iff.rfl
  | region _ ops _ =>
    intro Q s w
    constructor
    · rintro ⟨s0, w0, h0, h⟩
      exact ⟨⟨s0, w0⟩, h0, (arun'_iff (K := fun σ' => ∃ σ1 σ'', Wk c σ' σ1 ∧ Mv σ1 σ'' ∧ Q .normal σ'')).1 ((arun'_congr fun s w => ⟨fun ⟨σ1, s', w', hk, hm, hQ⟩ => ⟨σ1, ⟨s', w'⟩, hk, hm, hQ⟩, fun ⟨σ1, ⟨s', w'⟩, hk, hm, hQ⟩ => ⟨σ1, s', w', hk, hm, hQ⟩⟩).1 h)⟩
    · rintro ⟨⟨s0, w0⟩, h0, h⟩
      exact ⟨s0, w0, h0, (arun'_congr fun s w => ⟨fun ⟨σ1, s', w', hk, hm, hQ⟩ => ⟨σ1, ⟨s', w'⟩, hk, hm, hQ⟩, fun ⟨σ1, ⟨s', w'⟩, hk, hm, hQ⟩ => ⟨σ1, s', w', hk, hm, hQ⟩⟩).2 ((arun'_iff (K := fun σ' => ∃ σ1 σ'', Wk c σ' σ1 ∧ Mv σ1 σ'' ∧ Q .normal σ'')).2 h)⟩
  | seq a b iha ihb =>
    intro Q s w
    show awp' c a _ s w ↔ awp c a _ ⟨s, w⟩
    rw [← iha]
    refine Iff.of_eq (congrArg (fun q => awp' c a q s w) ?_)
    funext e s' w'
    cases e with
    | normal => exact propext ihb
    | _ => rfl
  | cond p a b iha ihb =>
    intro Q s w
    unfold awp' awp
    split
    · rename_i b' h
      simp only [h]
      exact and_congr (forall_congr' fun _ => iha) (forall_congr' fun _ => ihb)
    · rename_i h
      split
      · rename_i b' h'; exact absurd h' (h b')
      · exact Iff.rfl
  | block id a iha =>
    intro Q s w
    show awp' c a _ s w ↔ awp c a _ ⟨s, w⟩
    rw [← iha]
    refine Iff.of_eq (congrArg (fun q => awp' c a q s w) ?_)
    funext e s' w'
    cases e <;> rfl
  | loop a iha =>
    intro Q s w
    show (∃ σ0 I μ, _ ∧ _ ∧ _) ↔ (∃ σ0 I μ, _ ∧ _ ∧ _)
    refine exists_congr fun σ0 => exists_congr fun I => exists_congr fun μ => and_congr Iff.rfl (and_congr Iff.rfl ?_)
    constructor
    · rintro h ⟨s', w'⟩ hI
      refine (iha (Q := fun e σ'' => match e with | .normal => I σ'' ∧ μ σ'' < μ ⟨s', w'⟩ | e => Q e σ'')).1 ?_
      have := h s' w' hI
      refine cast (congrArg (fun q => awp' c a q s' w') ?_) this
      funext e s'' w''
      cases e <;> rfl
    · intro h s' w' hI
      have := (iha (Q := fun e σ'' => match e with | .normal => I σ'' ∧ μ σ'' < μ ⟨s', w'⟩ | e => Q e σ'')).2 (h ⟨s', w'⟩ hI)
      refine cast (congrArg (fun q => awp' c a q s' w') ?_) this
      funext e s'' w''
      cases e <;> rfl
  | exit id => intro Q s w; exact Iff.rfl
  | ret => intro Q s w; exact Iff.rfl
  | _ => intro Q s w; exact Iff.rfl

/-- A loop whose invariant hangs on an index, which falls in a measure. -/
theorem awp_loop {α : Type} {c : Cfg} {x : Code} {Q : Exit → St → Prop} {σ : St} (J : α → St → Prop) (m : α → Nat) (a0 : α) (h0 : J a0 σ)
    (h1 : ∀ a s, J a s → awp c x (fun e s' => match e with | .normal => ∃ a', m a' < m a ∧ J a' s' | e => Q e s') s) : awp c (.loop x) Q σ := by
  classical
  have least : ∀ s, (∃ a, J a s) → ∃ n, (∃ a, J a s ∧ m a = n) ∧ ∀ a, J a s → n ≤ m a := by
    intro s hs
    have : ∀ n, (∃ a, J a s ∧ m a ≤ n) → ∃ n, (∃ a, J a s ∧ m a = n) ∧ ∀ a, J a s → n ≤ m a := by
      intro n
      induction n with
      | zero => rintro ⟨a, ha, hn⟩; exact ⟨0, ⟨a, ha, by omega⟩, fun _ _ => Nat.zero_le _⟩
      | succ n ih =>
        rintro ⟨a, ha, hn⟩
        by_cases hx : ∃ a, J a s ∧ m a ≤ n
        · exact ih hx
        · refine ⟨n + 1, ⟨a, ha, ?_⟩, fun b hb => ?_⟩
          · have : ¬ m a ≤ n := fun h => hx ⟨a, ha, h⟩
            omega
          · have : ¬ m b ≤ n := fun h => hx ⟨b, hb, h⟩
            omega
    obtain ⟨a, ha⟩ := hs
    exact this _ ⟨a, ha, Nat.le_refl _⟩
  refine ⟨σ, fun s => ∃ a, J a s, fun s => if hs : ∃ a, J a s then Classical.choose (least s hs) else 0, .refl σ, ⟨a0, h0⟩, fun s hs => ?_⟩
  obtain ⟨⟨a, ha, hma⟩, -⟩ := Classical.choose_spec (least s hs)
  refine awp_mono (fun e s' hs' => ?_) (h1 a s ha)
  cases e with
  | normal =>
    obtain ⟨a', hlt, hj⟩ := hs'
    refine ⟨⟨a', hj⟩, ?_⟩
    have hx : ∃ a, J a s' := ⟨a', hj⟩
    show (if hs : ∃ a, J a s' then Classical.choose (least s' hs) else 0) < (if hs : ∃ a, J a s then Classical.choose (least s hs) else 0)
    rw [dif_pos hs, dif_pos hx, ← hma]
    exact Nat.lt_of_le_of_lt ((Classical.choose_spec (least s' hx)).2 a' hj) hlt
  | _ => exact hs'

/-! ### Steps through code, the rest of the code kept behind names -/
section
variable {c : Cfg} {Q : Exit → Sl → Ow → Prop} {s : Sl} {w : Ow} {x y : Code}
def seqQ (c : Cfg) (y : Code) (Q : Exit → Sl → Ow → Prop) (e : Exit) (s : Sl) (w : Ow) : Prop := match e with
  | .normal => awp' c y Q s w
  | e => Q e s w
def blockQ (id : Nat) (Q : Exit → Sl → Ow → Prop) (e : Exit) (s : Sl) (w : Ow) : Prop := match e with
  | .exit id' => (match Nat.beq id' id with | true => Q .normal s w | false => Q (.exit id') s w)
  | e => Q e s w
def loopQ {α : Type} (J : α → St → Prop) (m : α → Nat) (a : α) (Q : Exit → Sl → Ow → Prop) (e : Exit) (s : Sl) (w : Ow) : Prop := match e with
  | .normal => ∃ a', m a' < m a ∧ J a' ⟨s, w⟩
  | e => Q e s w
theorem st_skip (h : Q .normal s w) : awp' c .skip Q s w := h
theorem st_label {l : Nat} (h : Q .normal s w) : awp' c (.label l) Q s w := h
theorem st_region {i : Nat} {ops : Array Oper} {d : Bool} (h : ∀ K : Sl → Ow → Prop, (∀ s' w', Q .normal s' w' → K s' w') → arun' c ops.toList ops.toList s w K) : awp' c (.region i ops d) Q s w := ⟨s, w, .refl _, h _ fun _ _ h => ⟨_, _, _, wk_refl _, .inl rfl, h⟩⟩
theorem st_seq (h : awp' c x (seqQ c y Q) s w) : awp' c (.seq x y) Q s w := h
theorem st_cond {p : Operand} {b : Bool} (hb : evA s p = .one (.d (.bool b))) (h1 : b = true → awp' c x Q s w) (h2 : b = false → awp' c y Q s w) : awp' c (.cond p x y) Q s w := by
  unfold awp'
  rw [hb]
  exact ⟨h1, h2⟩
theorem st_block {i : Nat} (h : awp' c x (blockQ i Q) s w) : awp' c (.block i x) Q s w := h
theorem st_exit {i : Nat} (h : Q (.exit i) s w) : awp' c (.exit i) Q s w := h
theorem st_ret (h : Q .ret s w) : awp' c .ret Q s w := h
theorem sq_n (h : awp' c y Q s w) : seqQ c y Q .normal s w := h
theorem sq_r (h : Q .ret s w) : seqQ c y Q .ret s w := h
theorem sq_e {i : Nat} (h : Q (.exit i) s w) : seqQ c y Q (.exit i) s w := h
theorem bq_n {id : Nat} (h : Q .normal s w) : blockQ id Q .normal s w := h
theorem bq_r {id : Nat} (h : Q .ret s w) : blockQ id Q .ret s w := h
theorem bq_q {id : Nat} (h : Q .normal s w) : blockQ id Q (.exit id) s w := by
  have e : Nat.beq id id = true := by simp
  unfold blockQ
  simp only [e]
  exact h
theorem bq_e {id i : Nat} (hi : Nat.beq i id = false) (h : Q (.exit i) s w) : blockQ id Q (.exit i) s w := by
  unfold blockQ
  simp only [hi]
  exact h
theorem lq_n {α : Type} {J : α → St → Prop} {m : α → Nat} {a : α} (h : ∃ a', m a' < m a ∧ J a' ⟨s, w⟩) : loopQ J m a Q .normal s w := h
theorem lq_r {α : Type} {J : α → St → Prop} {m : α → Nat} {a : α} (h : Q .ret s w) : loopQ J m a Q .ret s w := h
theorem lq_e {α : Type} {J : α → St → Prop} {m : α → Nat} {a : α} {i : Nat} (h : Q (.exit i) s w) : loopQ J m a Q (.exit i) s w := h
end
theorem awp'_loop {α : Type} {c : Cfg} {x : Code} {Q : Exit → Sl → Ow → Prop} {s : Sl} {w : Ow} (J : α → St → Prop) (m : α → Nat) (a0 : α) (h0 : J a0 ⟨s, w⟩)
    (h1 : ∀ a s w, J a ⟨s, w⟩ → awp' c x (loopQ J m a Q) s w) : awp' c (.loop x) Q s w := by
  refine (awp'_iff (Q := fun e σ => Q e σ.slots σ.own)).2 (awp_loop J m a0 h0 fun a σ hJ => ?_)
  refine awp'_iff.1 (cast (congrArg (fun q => awp' c x q σ.slots σ.own) ?_) (h1 a σ.slots σ.own hJ))
  funext e s' w'
  cases e <;> rfl

/-- The post of a body. -/
def Fin' (c : Cfg) (rs : List ResultVar) (r : RV) (e : Exit) (s : Sl) (w : Ow) : Prop := Fin c rs r e ⟨s, w⟩
def initL : List AV → Nat → Sl
  | [], _ => fun _ => .junk
  | x :: xs, n => upd (initL xs (n + 1)) n x
theorem initL_eq : ∀ (xs : List AV) (n t : Nat), initL xs n t = bif Nat.ble n t then (xs[t - n]?).getD .junk else .junk
  | [], n, t => by simp [initL]
  | x :: xs, n, t => by
    unfold initL
    rw [upd_get, initL_eq xs (n + 1) t]
    by_cases h : t = n
    · subst h; rw [if_pos rfl, show Nat.ble t t = true from (by simp), Nat.sub_self]; rfl
    · rw [if_neg h]
      rcases Nat.lt_or_ge t n with h' | h'
      · have h1 : Nat.ble (n + 1) t = false := by rw [← Bool.not_eq_true, Nat.ble_eq]; omega
        have h2 : Nat.ble n t = false := by rw [← Bool.not_eq_true, Nat.ble_eq]; omega
        rw [h1, h2]; rfl
      · have h1 : Nat.ble (n + 1) t = true := by rw [Nat.ble_eq]; omega
        have h2 : Nat.ble n t = true := by rw [Nat.ble_eq]; omega
        rw [h1, h2, show t - n = (t - (n + 1)) + 1 by omega]; rfl
theorem initS_eq (xs : List AV) : initS xs = initL xs 0 := by
  funext t
  rw [initL_eq, show Nat.ble 0 t = true from by simp]
  rfl
def FinW' (c : Cfg) (rs : List ResultVar) (ty : TypeId) (av : AV) (r : WR) (e : Exit) (s : Sl) (w : Ow) : Prop := FinW c rs ty av r e ⟨s, w⟩
def FinD' (c : Cfg) (rs : List ResultVar) (ety : TypeId) (r : RV) (e : Exit) (s : Sl) (w : Ow) : Prop := FinD c rs ety r e ⟨s, w⟩
def FinDW' (c : Cfg) (rs : List ResultVar) (ty ety : TypeId) (av : AV) (ys : List (List Int)) (e : Exit) (s : Sl) (w : Ow) : Prop := FinDW c rs ty ety av ys e ⟨s, w⟩
section
variable {P : Program} {f : FuncId} {fn : Func} {body : Code} {tys : List (TypeId × TI)} {env : List (FuncId × Con)} {envw : List (FuncId × ConW)} {envd : List (FuncId × ConD)} {ts : List Ty} {wi : Nat} {ty ety : TypeId} {pre : Args ts → Prop} {res : Args ts → RV} {av : Args ts → AV} {out : Args ts → WR} {outD : Args ts → List (List Int)}
theorem good_ofG (wr fr sp sw dp : List Nat) (hm : P.follows .mixedOrders = true) (ht : TysOk P tys) (he : EnvOk P env) (hew : EnvWOk P envw) (hed : EnvDOk P envd)
    (hf : P.funcs[f]? = some fn) (hb : fn.body = some body) (hname : (fn.name == "runtime.NumGoroutine") = false) (hn : ts.length ≤ fn.ntmps) (hcode : codeB (mkCfg tys env envw wr fr sp sw dp envd true) fn.ntmps body = true)
    (hrun : ∀ x, pre x → awp' (mkCfg tys env envw wr fr sp sw dp envd true) body (Fin' (mkCfg tys env envw wr fr sp sw dp envd true) fn.results.toList (res x)) (initL (encs ts x) 0) deadOwn) : Good1 P f (mkCon ts pre res) :=
  good_of_run wr fr sp sw dp hm ht he hew hed hf hb hname hn hcode fun x hx => awp'_iff.1 (by rw [initS_eq]; exact hrun x hx)
theorem good_ofD (wr fr sp sw dp : List Nat) (hm : P.follows .mixedOrders = true) (ht : TysOk P tys) (he : EnvOk P env) (hew : EnvWOk P envw) (hed : EnvDOk P envd)
    (hf : P.funcs[f]? = some fn) (hb : fn.body = some body) (hname : (fn.name == "runtime.NumGoroutine") = false) (hn : ts.length ≤ fn.ntmps) (hcode : codeB (mkCfg tys env envw wr fr sp sw dp envd true) fn.ntmps body = true)
    (hrun : ∀ x, pre x → awp' (mkCfg tys env envw wr fr sp sw dp envd true) body (FinD' (mkCfg tys env envw wr fr sp sw dp envd true) fn.results.toList ety (res x)) (initL (encs ts x) 0) deadOwn) : Good1 P f (mkConD ts pre res ety) :=
  good_of_runD wr fr sp sw dp hm ht he hew hed hf hb hname hn hcode fun x hx => awp'_iff.1 (by rw [initS_eq]; exact hrun x hx)
theorem good_of (wr fr : List Nat) (hm : P.follows .mixedOrders = true) (ht : TysOk P tys) (he : EnvOk P env)
    (hf : P.funcs[f]? = some fn) (hb : fn.body = some body) (hname : (fn.name == "runtime.NumGoroutine") = false) (hn : ts.length ≤ fn.ntmps) (hcode : codeB (mkCfg tys env [] wr fr [] [] [] [] true) fn.ntmps body = true)
    (hrun : ∀ x, pre x → awp' (mkCfg tys env [] wr fr [] [] [] [] true) body (Fin' (mkCfg tys env [] wr fr [] [] [] [] true) fn.results.toList (res x)) (initL (encs ts x) 0) deadOwn) : Good1 P f (mkCon ts pre res) :=
  good_ofG (envw := []) (envd := []) wr fr [] [] [] hm ht he trivial trivial hf hb hname hn hcode hrun
theorem good_ofW (wr fr sp sw dp : List Nat) (hm : P.follows .mixedOrders = true) (ht : TysOk P tys) (he : EnvOk P env) (hew : EnvWOk P envw) (hed : EnvDOk P envd)
    (hf : P.funcs[f]? = some fn) (hb : fn.body = some body) (hname : (fn.name == "runtime.NumGoroutine") = false) (hn : ts.length ≤ fn.ntmps) (hcode : codeB (mkCfg tys env envw wr fr sp sw dp envd false) fn.ntmps body = true)
    (hrun : ∀ x, pre x → awp' (mkCfg tys env envw wr fr sp sw dp envd false) body (FinW' (mkCfg tys env envw wr fr sp sw dp envd false) fn.results.toList ty (av x) (out x)) (initL (encW wi ts x) 0) (ownW wi ty ts x)) : GoodW P f (mkConW ts wi ty pre av out) :=
  good_of_runW wr fr sp sw dp hm ht he hew hed hf hb hname hn hcode fun x hx => awp'_iff.1 (by rw [initS_eq]; exact hrun x hx)
theorem good_ofDW (wr fr sp sw dp : List Nat) (hm : P.follows .mixedOrders = true) (ht : TysOk P tys) (he : EnvOk P env) (hew : EnvWOk P envw) (hed : EnvDOk P envd)
    (hf : P.funcs[f]? = some fn) (hb : fn.body = some body) (hname : (fn.name == "runtime.NumGoroutine") = false) (hn : ts.length ≤ fn.ntmps) (hcode : codeB (mkCfg tys env envw wr fr sp sw dp envd false) fn.ntmps body = true)
    (hrun : ∀ x, pre x → awp' (mkCfg tys env envw wr fr sp sw dp envd false) body (FinDW' (mkCfg tys env envw wr fr sp sw dp envd false) fn.results.toList ty ety (av x) (outD x)) (initL (encW wi ts x) 0) (ownDW wi ty ety ts x)) : GoodD P f (mkConDW ts wi ty ety pre av outD) :=
  good_of_runDW wr fr sp sw dp hm ht he hew hed hf hb hname hn hcode fun x hx => awp'_iff.1 (by rw [initS_eq]; exact hrun x hx)
end

/-- Slots and own places as a list says. -/
def HasS (f : Nat → AV) : List (Nat × AV) → Prop
  | [] => True
  | (t, v) :: r => f t = v ∧ HasS f r
def HasO (f : Nat → Loc) : List (Nat × Own) → Prop
  | [] => True
  | (t, v) :: r => (f t).obj = v ∧ HasO f r
def updS (f : Nat → AV) : List (Nat × AV) → Nat → AV
  | [] => f
  | (t, v) :: r => upd (updS f r) t v
theorem hasS_eq {f : Nat → AV} : ∀ {l : List (Nat × AV)}, HasS f l → f = updS f l
  | [], _ => rfl
  | (t, v) :: r, h => by
    show f = upd (updS f r) t v
    rw [← hasS_eq h.2, upd_self h.1]

/-- A state with known slots, and known own places with their versions. -/
def Has (σ : St) (l : List (Nat × AV)) : Prop := HasS σ.slots l
theorem has_ex {s : Sl} {w : Ow} {l : List (Nat × AV)} (h : Has ⟨s, w⟩ l) : ∃ g, s = updS g l := ⟨s, hasS_eq h⟩

/-- The same with one own row, whose address lies in a slot. -/
structure Has1 (σ : St) (l : List (Nat × AV)) (t p : Nat) (ob : Own) : Prop where
  s : HasS σ.slots l
  at_ : σ.slots t = .one (.own p (σ.own p).ver)
  ob : (σ.own p).obj = ob
theorem has1_ex {s : Sl} {w : Ow} {l : List (Nat × AV)} {t p : Nat} {ob : Own} (h : Has1 ⟨s, w⟩ l t p ob) : ∃ g o v, s = upd (updS g l) t (.one (.own p v)) ∧ w = upd o p ⟨v, ob⟩ := by
  refine ⟨s, w, (w p).ver, ?_, ?_⟩
  · have h1 := h.s; have h2 := h.at_
    simp only at h1 h2
    rw [← hasS_eq h1, upd_self h2]
  · rw [← h.ob]
    exact (upd_self rfl).symm

/-- The same with own places: (slot, place, whether by pointer, what lies there). -/
def HasR (σ : St) : List (Nat × Nat × Bool × Own) → Prop
  | [] => True
  | (t, p, b, ob) :: r => σ.slots t = .one (bif b then .ptr p (σ.own p).ver 0 0 else .own p (σ.own p).ver) ∧ (σ.own p).obj = ob ∧ HasR σ r
def updR (v : Nat → Nat) (f : Nat → AV) : List (Nat × Nat × Bool × Own) → Nat → AV
  | [] => f
  | (t, p, b, _) :: r => upd (updR v f r) t (.one (bif b then .ptr p (v p) 0 0 else .own p (v p)))
def updO (v : Nat → Nat) (f : Nat → Loc) : List (Nat × Nat × Bool × Own) → Nat → Loc
  | [] => f
  | (_, p, _, ob) :: r => upd (updO v f r) p ⟨v p, ob⟩
def HasX (σ : St) (l : List (Nat × AV)) (r : List (Nat × Nat × Bool × Own)) : Prop := HasS σ.slots l ∧ HasR σ r
theorem updR_self {σ : St} : ∀ {r : List (Nat × Nat × Bool × Own)}, HasR σ r → updR (fun p => (σ.own p).ver) σ.slots r = σ.slots
  | [], _ => rfl
  | (t, p, b, ob) :: r, h => by
    unfold updR
    rw [updR_self h.2.2, upd_self h.1]
theorem updO_self {σ : St} : ∀ {r : List (Nat × Nat × Bool × Own)}, HasR σ r → updO (fun p => (σ.own p).ver) σ.own r = σ.own
  | [], _ => rfl
  | (t, p, b, ob) :: r, h => by
    unfold updO
    rw [updO_self h.2.2, upd_self]
    have := h.2.1
    rw [← this]
theorem hasX_ex {s : Sl} {w : Ow} {l : List (Nat × AV)} {r : List (Nat × Nat × Bool × Own)} (h : HasX ⟨s, w⟩ l r) : ∃ g o v, s = updR v (updS g l) r ∧ w = updO v o r :=
  ⟨s, w, fun p => (w p).ver, by have := updR_self h.2; simp only at this; rw [← hasS_eq h.1, this], (updO_self h.2).symm⟩

abbrev W (n : Int) : Int := IntKind.i64.wrap n
theorem W_in {n : Int} (h1 : -9223372036854775808 ≤ n) (h2 : n ≤ 9223372036854775807) : IntKind.i64.wrap n = n := by rw [IntKind.wrap_i64]; omega
theorem W_nat {n : Nat} (h : n ≤ 4611686018427387904) : IntKind.i64.wrap ((n : Int) + 1) = ((n + 1 : Nat) : Int) := by rw [W_in] <;> omega
theorem W_l1 (a b : Int) : IntKind.i64.wrap (IntKind.i64.wrap a + b) = IntKind.i64.wrap (a + b) := by simp only [IntKind.wrap_i64]; omega
theorem W_l2 (a b : Int) : IntKind.i64.wrap (a + IntKind.i64.wrap b) = IntKind.i64.wrap (a + b) := by simp only [IntKind.wrap_i64]; omega
theorem W_l3 (a b : Int) : IntKind.i64.wrap (IntKind.i64.wrap a - b) = IntKind.i64.wrap (a - b) := by simp only [IntKind.wrap_i64]; omega
theorem W_l4 (a b : Int) : IntKind.i64.wrap (a - IntKind.i64.wrap b) = IntKind.i64.wrap (a - b) := by simp only [IntKind.wrap_i64]; omega
theorem W_dvd {a b : Int} (k : Int) (h : a - b = 18446744073709551616 * k) : IntKind.i64.wrap a = IntKind.i64.wrap b := by simp only [IntKind.wrap_i64]; omega
theorem W_ex (a : Int) : ∃ k : Int, IntKind.i64.wrap a = a + 18446744073709551616 * k := by
  refine ⟨-((a + 9223372036854775808) / 18446744073709551616), ?_⟩
  rw [IntKind.wrap_i64]; omega
theorem W_m1 (a b : Int) : IntKind.i64.wrap (IntKind.i64.wrap a * b) = IntKind.i64.wrap (a * b) := by
  obtain ⟨k, hk⟩ := W_ex a
  rw [hk]
  exact W_dvd (k * b) (by rw [Int.add_mul, Int.mul_assoc]; omega)
theorem W_m2 (a b : Int) : IntKind.i64.wrap (a * IntKind.i64.wrap b) = IntKind.i64.wrap (a * b) := by
  rw [Int.mul_comm, W_m1, Int.mul_comm]
theorem W_w (a : Int) : IntKind.i64.wrap (IntKind.i64.wrap a) = IntKind.i64.wrap a := by simp only [IntKind.wrap_i64]; omega

theorem prodEta {α β : Type} (p : α × β) : (p.1, p.2) = p := rfl
abbrev vPts (xs : List (Int × Int)) : AV := .one (.d (.sl none (.b .pt) xs))
abbrev vWalls (xs : List ((Int × Int) × (Int × Int))) : AV := .one (.d (.sl none (.b .wall) xs))
abbrev vRoom (xs : List (Int × Int)) : AV := .one (.d (.ptr [.sl none (.b .pt) xs]))
abbrev cPt (p : Int × Int) : List Cell := [.d (.int .i64 p.1), .d (.int .i64 p.2)]
abbrev cWall (w : (Int × Int) × (Int × Int)) : List Cell := [.d (.int .i64 w.1.1), .d (.int .i64 w.1.2), .d (.int .i64 w.2.1), .d (.int .i64 w.2.2)]
abbrev vInts (xs : List Int) : AV := .one (.d (.sl none (.b .int) xs))
abbrev vInt (n : Int) : AV := .one (.d (.int .i64 n))
abbrev vBool (b : Bool) : AV := .one (.d (.bool b))
end Go.Proofs.Ytfjmlaciogmndaa
