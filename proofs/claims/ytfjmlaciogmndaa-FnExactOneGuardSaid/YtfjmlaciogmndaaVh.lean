/- Regions that draw their order. -/
import Derived.Test.YtfjmlaciogmndaaVg
namespace Go.Proofs.Ytfjmlaciogmndaa
open Go.RowKit

theorem evL_congr {ev ev' : Operand → AV} {l : List Operand} (h : ∀ x ∈ l, ev x = ev' x) : evL ev l = evL ev' l := by
  unfold evL
  exact List.map_congr_left h

theorem aval_congr (c : Cfg) (own : Nat → Loc) {ev ev' : Operand → AV} (op : Op) (h : ∀ x ∈ op.operands, ev x = ev' x) : aval c ev own op = aval c ev' own op := by
  cases op with
  | move x => simp only [aval]; rw [h x (by simp [Op.operands])]
  | assign x => simp only [aval]; rw [h x (by simp [Op.operands])]
  | pick p x y => dsimp only [aval]; rw [h p (by simp [Op.operands]), h x (by simp [Op.operands]), h y (by simp [Op.operands])]
  | box t x => dsimp only [aval]; rw [h x (by simp [Op.operands])]
  | load t x => dsimp only [aval]; rw [h x (by simp [Op.operands])]
  | fieldAddr s x f => dsimp only [aval]; rw [h x (by simp [Op.operands])]
  | field s x f => dsimp only [aval]; rw [h x (by simp [Op.operands])]
  | indexAddr t x i => dsimp only [aval]; rw [h x (by simp [Op.operands]), h i (by simp [Op.operands])]
  | binOp op t x y t' => dsimp only [aval]; rw [h x (by simp [Op.operands]), h y (by simp [Op.operands])]
  | unOp op t x => dsimp only [aval]; rw [h x (by simp [Op.operands])]
  | convert s d x => dsimp only [aval]; rw [h x (by simp [Op.operands])]
  | extract x i => dsimp only [aval]; rw [h x (by simp [Op.operands])]
  | makeFunc fn f cs => dsimp only [aval]; rw [evL_congr (fun x hx => h x (by simp only [Op.operands]; exact Array.mem_append.2 (.inr (Array.mem_toList_iff.1 hx))))]
  | build t ps =>
    dsimp only [aval]
    have : (ps.toList.map fun p => (p.1, ev p.2)) = ps.toList.map fun p => (p.1, ev' p.2) := List.map_congr_left fun q hq => by
      rw [h q.2 (by simp only [Op.operands]; exact Array.mem_toList_iff.1 (by simpa using ⟨q.1, by simpa using hq⟩))]
    rw [this]
  | buildSlice t n ps =>
    dsimp only [aval]
    have : (ps.toList.map fun p => (p.1, ev p.2)) = ps.toList.map fun p => (p.1, ev' p.2) := List.map_congr_left fun q hq => by
      rw [h q.2 (by simp only [Op.operands]; exact Array.mem_toList_iff.1 (by simpa using ⟨q.1, by simpa using hq⟩))]
    rw [this]
  | slice t x lo hi mx =>
    cases mx with
    | some m =>
      cases lo with
      | some l => cases hi <;> rfl
      | none => cases hi with
        | none => rfl
        | some i =>
          dsimp only [aval]
          rw [h x (by simp [Op.operands]), h i (by simp [Op.operands]), h m (by simp [Op.operands])]
    | none =>
      dsimp only [aval]
      have h1 : ev x = ev' x := h x (by simp [Op.operands])
      have h2 : lo.map ev = lo.map ev' := by cases lo with | none => rfl | some z => simp only [Option.map_some]; rw [h z (by simp [Op.operands])]
      have h3 : hi.map ev = hi.map ev' := by cases hi with | none => rfl | some z => simp only [Option.map_some]; rw [h z (by simp [Op.operands])]
      rw [h1, h2, h3]
  | call cl =>
    dsimp only [aval]
    have h1 : evL ev cl.args.toList = evL ev' cl.args.toList := evL_congr fun x hx => h x (by simp only [Op.operands, Call.operands]; exact Array.mem_append.2 (.inr (Array.mem_toList_iff.1 hx)))
    rw [h1]
    cases hcl : cl.callee with
    | value g => simp only []; rw [h g (by simp [Op.operands, Call.operands, hcl])]
    | invoke r m => rfl
    | builtin b => cases b <;> rfl
  | _ => rfl

/-- The slots that an operation looks at. -/
def readsOf (ops : List Oper) (o : Oper) : List Nat :=
  (o.op.operands.toList.filterMap fun | .tmp t => some t | _ => none) ++ (match o.guard with | some (j, _) => ((ops[j]?).bind (·.dst)).toList | none => [])

theorem evA_congr {slots slots' : Nat → AV} {x : Operand} (h : ∀ t, x = .tmp t → slots t = slots' t) : evA slots x = evA slots' x := by
  cases x with
  | tmp t => exact h t rfl
  | _ => rfl

theorem St.put_slots (σ : St) (d : Option Nat) (x : AV) (t : Nat) (h : d ≠ some t) : (σ.put d x).slots t = σ.slots t := by
  cases d with
  | none => rfl
  | some d => exact upd_ne _ _ (fun e => h (by rw [e]))
theorem St.put_own (σ : St) (d : Option Nat) (x : AV) : (σ.put d x).own = σ.own := by cases d <;> rfl

theorem upd_comm {α : Type} (f : Nat → α) {s t : Nat} (x y : α) (h : s ≠ t) : upd (upd f s x) t y = upd (upd f t y) s x := by
  funext n
  rw [upd_get, upd_get, upd_get, upd_get]
  by_cases h1 : n = s
  · by_cases h2 : n = t
    · exact absurd (h1.symm.trans h2) h
    · rw [if_neg h2, if_pos h1, if_pos h1]
  · by_cases h2 : n = t
    · rw [if_pos h2, if_neg h1, if_pos h2]
    · rw [if_neg h2, if_neg h1, if_neg h1, if_neg h2]

theorem St.put_comm (σ : St) (d e : Option Nat) (x y : AV) (h : ∀ t, d = some t → e ≠ some t) : (σ.put d x).put e y = (σ.put e y).put d x := by
  cases d with
  | none => rfl
  | some d =>
    cases e with
    | none => rfl
    | some e =>
      have : d ≠ e := fun he => h d rfl (by rw [he])
      simp only [St.put]
      rw [upd_comm _ _ _ this]

theorem aeff_congr (c : Cfg) (o : Oper) (own : Nat → Loc) {ev ev' : Operand → AV} (h : ∀ x ∈ o.op.operands, ev x = ev' x) : aeff c o ev own = aeff c o ev' own := by
  have hL : ∀ (ps : Array (Nat × Operand)), (∀ q ∈ ps.toList, ev q.2 = ev' q.2) → (ps.toList.map fun p => (p.1, ev p.2)) = ps.toList.map fun p => (p.1, ev' p.2) := fun ps hp => List.map_congr_left fun q hq => by rw [hp q hq]
  unfold aeff
  split
  · rfl
  · rename_i t x d ho hd
    rw [h x (by rw [ho]; simp [Op.operands])]
  · rename_i t len parts d ho hd
    rw [hL parts fun q hq => h q.2 (by rw [ho]; simp only [Op.operands]; exact Array.mem_toList_iff.1 (by simpa using ⟨q.1, by simpa using hq⟩))]
  · rename_i t len cap d ho hd
    rw [h len (by rw [ho]; simp [Op.operands]), h cap (by rw [ho]; simp [Op.operands])]
  · rename_i t x z ho hd
    rw [h x (by rw [ho]; simp [Op.operands]), h z (by rw [ho]; simp [Op.operands])]
  · rename_i t x hi d ho hd
    rw [h x (by rw [ho]; simp [Op.operands]), h hi (by rw [ho]; simp [Op.operands])]
  · rename_i t x lo d ho hd
    rw [h x (by rw [ho]; simp [Op.operands]), h lo (by rw [ho]; simp [Op.operands])]
  · rename_i cl d ho hd
    have h1 : evL ev cl.args.toList = evL ev' cl.args.toList := evL_congr fun x hx => h x (by rw [ho]; simp only [Op.operands, Call.operands]; exact Array.mem_append.2 (.inr (Array.mem_toList_iff.1 hx)))
    rw [h1]
    cases hcl : cl.callee with
    | value g => simp only []; rw [h g (by rw [ho]; simp [Op.operands, Call.operands, hcl])]
    | invoke r m => rfl
    | builtin b => cases b <;> rfl
  · rename_i cl ho hd
    have h1 : evL ev cl.args.toList = evL ev' cl.args.toList := evL_congr fun x hx => h x (by rw [ho]; simp only [Op.operands, Call.operands]; exact Array.mem_append.2 (.inr (Array.mem_toList_iff.1 hx)))
    rw [h1]
  · rfl

theorem viewC_d {f : Nat → Bool} {own own' : Nat → Loc} (ha : ∀ l, f l = true → own l = own' l) : ∀ (x : Cell), dOnlyC f x = true → viewC own x = viewC own' x
  | .d _, _ => rfl
  | .own l v, h => by
    have e := ha l h
    show viewL v (own l) = viewL v (own' l)
    rw [e]
  | .ptr .., _ => rfl
  | .sub l v off n, h => by
    have e := ha l h
    show viewI v off (own l) = viewI v off (own' l)
    rw [e]
theorem viewCs_d {f : Nat → Bool} {own own' : Nat → Loc} (ha : ∀ l, f l = true → own l = own' l) : ∀ (cs : List Cell), dOnlyCs f cs = true → viewCs own cs = viewCs own' cs
  | [], _ => rfl
  | x :: cs, h => by
    unfold dOnlyCs at h
    simp only [Bool.and_eq_true] at h
    unfold viewCs
    rw [viewC_d ha x h.1, viewCs_d ha cs h.2]

theorem view_d {f : Nat → Bool} {own own' : Nat → Loc} (ha : ∀ l, f l = true → own l = own' l) (x : AV) (h : dOnly f x = true) : view own x = view own' x := by
  cases x with
  | one c => unfold view; simp only []; rw [viewC_d ha c h]
  | agg cs => unfold view; simp only []; rw [viewCs_d ha cs h]
  | tup xs => rfl
  | junk => rfl

theorem views_d {f : Nat → Bool} {own own' : Nat → Loc} (ha : ∀ l, f l = true → own l = own' l) : ∀ (xs : List AV), (∀ x ∈ xs, dOnly f x = true) → views own xs = views own' xs
  | [], _ => rfl
  | x :: xs, h => by
    unfold views
    rw [view_d ha x (h x (by simp)), views_d ha xs (fun y hy => h y (by simp [hy]))]

theorem aval_own (c : Cfg) {f : Nat → Bool} {own own' : Nat → Loc} (ha : ∀ l, f l = true → own l = own' l) {ev : Operand → AV} (op : Op) (h : freeOp op = true ∨ ∀ x ∈ op.operands, dOnly f (ev x) = true) : aval c ev own op = aval c ev own' op := by
  cases op with
  | load t x =>
    have hx := (h.resolve_left (by simp [freeOp])) x (by simp [Op.operands])
    dsimp only [aval]
    generalize ev x = z at hx
    cases z with
    | one z => cases z with
      | d z => cases c.ty t <;> cases z <;> rfl
      | own l v => cases c.ty t <;> rfl
      | ptr l v i j => cases c.ty t with
        | none => rfl
        | some q => simp only [ha l hx]
      | sub l v i j => cases c.ty t <;> rfl
    | _ => cases c.ty t <;> rfl
  | fieldAddr s x fi =>
    have hx := (h.resolve_left (by simp [freeOp])) x (by simp [Op.operands])
    dsimp only [aval]
    generalize ev x = z at hx
    cases z with
    | one z => cases z with
      | d z => cases z <;> rfl
      | own l v => rfl
      | ptr l v i j => simp only [ha l hx]
      | sub l v i j => rfl
    | _ => rfl
  | indexAddr t x i =>
    have hx := (h.resolve_left (by simp [freeOp])) x (by simp [Op.operands])
    dsimp only [aval]
    generalize ev x = z at hx
    cases z with
    | one z => cases z with
      | d z =>
        generalize ev i = q
        cases q with
        | one q => cases q with
          | d q => cases z <;> cases q <;> rfl
          | _ => cases z <;> rfl
        | _ => cases z <;> rfl
      | own l v =>
        have e := ha l hx
        generalize ev i = q
        rcases c.ty t with _ | ⟨_, _, kd⟩
        · rfl
        · cases kd <;> try rfl
          cases q with
          | one q => cases q with
            | d q => cases q <;> first | rfl | simp only [e]
            | _ => rfl
          | _ => rfl
      | ptr l v i j => rfl
      | sub l v o m =>
        have e := ha l hx
        generalize ev i = q
        rcases c.ty t with _ | ⟨_, _, kd⟩
        · rfl
        · cases kd <;> try rfl
          cases q with
          | one q => cases q with
            | d q => cases q <;> first | rfl | simp only [e]
            | _ => rfl
          | _ => rfl
    | _ => rfl
  | call cl =>
    have hx := (h.resolve_left (by simp [freeOp]))
    have hargs : ∀ x ∈ evL ev cl.args.toList, dOnly f x = true := fun x hxm => by
      unfold evL at hxm
      obtain ⟨z, hz, rfl⟩ := List.mem_map.1 hxm
      exact hx z (by simp only [Op.operands, Call.operands]; exact Array.mem_append.2 (.inr (Array.mem_toList_iff.1 hz)))
    dsimp only [aval]
    cases hcl : cl.callee with
    | invoke r m => rfl
    | builtin b =>
      cases b <;> first
        | rfl
        | (simp only []
           generalize evL ev cl.args.toList = zs at hargs
           split
           · split
             · split
               · rfl
               · rfl
               · rename_i l v
                 have hl : f l = true := hargs _ (List.mem_singleton.2 rfl)
                 simp only [ha l hl]
               · rename_i l v o n
                 have hl : f l = true := hargs _ (List.mem_singleton.2 rfl)
                 simp only [ha l hl]
               · rfl
             · rfl
           · rfl)
    | value g =>
      simp only []
      split
      · rename_i g0 caps hg
        have : acall c own g0 (evL ev cl.args.toList ++ capsOf caps) = acall c own' g0 (evL ev cl.args.toList ++ capsOf caps) := by
          unfold acall
          rw [views_d ha (evL ev cl.args.toList ++ capsOf caps) (fun x hxm => by
            rcases List.mem_append.1 hxm with hxm | hxm
            · exact hargs x hxm
            · obtain ⟨j, hj⟩ := List.getElem?_of_mem hxm
              rw [capsOf_get] at hj
              cases hc : caps[j]? with
              | none => rw [hc] at hj; cases hj
              | some d => rw [hc] at hj; simp only [Option.map_some, Option.some.injEq] at hj; subst hj; rfl)]
        rw [this]
      · rfl
  | slice t x lo hi mx =>
    cases mx with
    | some m => cases lo <;> cases hi <;> rfl
    | none =>
      have hx := (h.resolve_left (by simp [freeOp])) x (by simp [Op.operands])
      dsimp only [aval]
      generalize ev x = z at hx
      cases z with
      | one z => cases z with
        | d z => cases c.ty t <;> cases z <;> rfl
        | own l v => simp only [ha l hx]
        | ptr l v i j => cases c.ty t <;> rfl
        | sub l v i j => cases c.ty t <;> rfl
      | _ => cases c.ty t <;> rfl
  | binOp op t x y t' =>
    dsimp only [aval]
    cases hn : nilOp y with
    | false => rfl
    | true =>
      have hx := (h.resolve_left (by simp [freeOp, hn])) x (by simp [Op.operands])
      simp only
      cases hq : ownNil (ev x) (ev y) with
      | none => rfl
      | some q =>
        rw [(ownNil_some hq).1] at hx
        simp only [ha q.1 hx]
  | _ => rfl

theorem dOnlyL_all {f : Nat → Bool} : ∀ {xs : List AV}, dOnlyL f xs = true → ∀ x ∈ xs, dOnly f x = true
  | [], _, x, hx => by simp at hx
  | y :: ys, h, x, hx => by
    unfold dOnlyL at h
    simp only [Bool.and_eq_true] at h
    rcases List.mem_cons.1 hx with rfl | hx
    · exact h.1
    · exact dOnlyL_all h.2 x hx

def freeB (c : Cfg) (o : Oper) : Bool := !isEff c o && (freeOp o.op || isFr c o)
/-- An operation that only looks, and at no movable place. -/
def lookB (c : Cfg) (o : Oper) : Bool := !isEff c o && !isFr c o && isSp c o

/-- An operation that makes a new box or row at a movable place, and turns nothing else. -/
def newB' (c : Cfg) (o : Oper) : Bool := (match o.dst with | some d => ((c.fr d && c.wr d) && !c.dp d) && !c.sw d | none => false) && match o.op with
  | .alloc _ | .box .. | .buildSlice .. | .makeSlice .. => true
  | .call cl => match cl.callee with
    | .value (.func f) => match c.conw f with
      | none => true
      | some _ => false
    | _ => false
  | _ => false
/-- What makes a new box or row turns its own place alone. -/
theorem new_own {c : Cfg} {o : Oper} (h : newB' c o = true) {slots : Nat → AV} {own : Nat → Loc} {p : Prop} {r : AV × (Nat → Loc)} (hr : aeff c o (evA slots) own = .ok p r) : ∀ l, fixPl c l = true → r.2 l = own l := by
  unfold newB' at h
  simp only [Bool.and_eq_true] at h
  obtain ⟨hd, hop⟩ := h
  cases hdst : o.dst with
  | none => rw [hdst] at hd; cases hd
  | some d =>
    rw [hdst] at hd
    simp only [Bool.and_eq_true] at hd
    have hd : (c.fr d && c.wr d) = true := by simp [hd.1.1]
    have key : ∀ {L : Loc} {y : AV} {q : Prop}, (VR.ok q (y, upd own d L) : VR (AV × (Nat → Loc))) = .ok p r → ∀ l, fixPl c l = true → r.2 l = own l := fun e l hl => by
      injection e with _ e
      subst e
      refine upd_ne _ _ (fun (e' : l = d) => ?_)
      have h0 : fixPl c d = false := by unfold fixPl; rw [hd]; rfl
      rw [e', h0] at hl
      cases hl
    unfold aeff at hr
    simp only [hdst] at hr
    split at hop
    · rename_i t ho
      simp only [ho] at hr
      split at hr
      · exact key hr
      · cases hr
    · rename_i t x ho
      simp only [ho] at hr
      split at hr
      · exact key hr
      · cases hr
    · rename_i t len parts ho
      simp only [ho] at hr
      split at hr
      · split at hr
        · exact key hr
        · cases hr
      · cases hr
    · rename_i t len cap ho
      simp only [ho] at hr
      split at hr
      · split at hr
        · exact key hr
        · cases hr
      · cases hr
    · rename_i cl ho
      simp only [ho] at hr
      split at hop
      · rename_i f hcl
        split at hop
        · rename_i hcw
          have hW : ∀ args, acallW c own f args = .no := fun args => by unfold acallW; rw [hcw]
          simp only [hcl] at hr
          rw [show evA slots (.func f) = .one (.d (.clo f [])) from rfl] at hr
          simp only [hW] at hr
          split at hr
          · cases hr
          · split at hr
            · exact key hr
            · exact key hr
        · cases hop
      · cases hop
    · cases hop

theorem aeffD_congr (c : Cfg) (o : Oper) (own : Nat → Loc) {ev ev' : Operand → AV} (h : ∀ x ∈ o.op.operands, ev x = ev' x) : aeffD c o ev own = aeffD c o ev' own := by
  unfold aeffD
  split
  · rename_i t len parts d ho hd
    split
    · rfl
    · rename_i sz z0 ty e b z x hty hp
      rw [h x (by rw [ho]; simp only [Op.operands]; exact Array.mem_toList_iff.1 (by simp [hp]))]
    · rfl
  · rename_i cl d ho hd
    have h1 : evL ev cl.args.toList = evL ev' cl.args.toList := evL_congr fun x hx => h x (by rw [ho]; simp only [Op.operands, Call.operands]; exact Array.mem_append.2 (.inr (Array.mem_toList_iff.1 hx)))
    rw [h1]
    cases hcl : cl.callee with
    | value g => simp only []; rw [h g (by rw [ho]; simp [Op.operands, Call.operands, hcl])]
    | invoke r m => rfl
    | builtin b => cases b <;> rfl
  · rfl
theorem aeffS_congr (c : Cfg) (o : Oper) (own : Nat → Loc) {ev ev' : Operand → AV} (h : ∀ x ∈ o.op.operands, ev x = ev' x) : aeffS c o ev own = aeffS c o ev' own := by
  unfold aeffS
  rw [aeff_congr c o own h, aeffD_congr c o own h]
theorem newS {c : Cfg} {o : Oper} (h : newB' c o = true) : isSw c o = false := by
  unfold newB' at h
  simp only [Bool.and_eq_true] at h
  have hd := h.1
  unfold isSw
  split
  · rename_i hdst
    rw [hdst] at hd
    simp only [Bool.and_eq_true, Bool.not_eq_true'] at hd
    exact hd.2
  · rename_i hdst
    rw [hdst] at hd
    simp only [Bool.and_eq_true, Bool.not_eq_true'] at hd
    exact hd.2
  · rfl
theorem newD' {c : Cfg} {o : Oper} (h : newB' c o = true) : isDp c o = false := by
  unfold newB' at h
  simp only [Bool.and_eq_true] at h
  have hd := h.1
  unfold isDp
  split
  · rename_i hdst
    rw [hdst] at hd
    simp only [Bool.and_eq_true, Bool.not_eq_true'] at hd
    exact hd.1.2
  · rename_i hdst
    rw [hdst] at hd
    simp only [Bool.and_eq_true, Bool.not_eq_true'] at hd
    exact hd.1.2
  · rfl
theorem new_ownS {c : Cfg} {o : Oper} (h : newB' c o = true) {slots : Nat → AV} {own : Nat → Loc} {p : Prop} {r : AV × (Nat → Loc)} (hr : aeffS c o (evA slots) own = .ok p r) : ∀ l, fixPl c l = true → r.2 l = own l := by
  unfold aeffS at hr
  rw [newD' h, newS h] at hr
  exact new_own h hr
/-- An operation: what it puts and what becomes of the own memory; and that it does so wherever the slots that it looks at are the same. -/
theorem gen_fn {c : Cfg} {ops : List Oper} {o : Oper} {σ : St} {K : St → Prop} (h : run1 c ops o σ K) :
    ∃ x own', K ⟨(σ.put o.dst x).slots, own'⟩ ∧ (isEff c o = false → own' = σ.own) ∧
      (∀ (σ2 : St) (K' : St → Prop), σ2.own = σ.own → (∀ t ∈ readsOf ops o, σ2.slots t = σ.slots t) → K' ⟨(σ2.put o.dst x).slots, own'⟩ → run1 c ops o σ2 K') ∧
      (freeB c o = true → ∀ (σ2 : St) (K' : St → Prop), (∀ t ∈ readsOf ops o, σ2.slots t = σ.slots t) → K' ⟨(σ2.put o.dst x).slots, σ2.own⟩ → run1 c ops o σ2 K') ∧
      (lookB c o = true → ∀ (σ2 : St) (K' : St → Prop), (∀ t ∈ readsOf ops o, σ2.slots t = σ.slots t) → (∀ l, fixPl c l = true → σ2.own l = σ.own l) → K' ⟨(σ2.put o.dst x).slots, σ2.own⟩ → run1 c ops o σ2 K') ∧
      (newB' c o = true → ∀ l, fixPl c l = true → own' l = σ.own l) := by
  obtain ⟨wd, hwd, hw⟩ := guard_ok h
  have hw2 : ∀ σ2 : St, (∀ t ∈ readsOf ops o, σ2.slots t = σ.slots t) → (o.guard = none ∧ wd = true) ∨ ∃ j want oj d v, o.guard = some (j, want) ∧ ops[j]? = some oj ∧ oj.dst = some d ∧ σ2.slots d = v ∧ WantV v want wd := by
    intro σ2 hs
    refine hw.imp id ?_
    rintro ⟨j, want, oj, d, b, h1, h2, h3, h4, h5⟩
    refine ⟨j, want, oj, d, b, h1, h2, h3, ?_, h5⟩
    rw [hs d (by unfold readsOf; rw [h1]; simp [h2, h3]), h4]
  have hev : ∀ σ2 : St, (∀ t ∈ readsOf ops o, σ2.slots t = σ.slots t) → ∀ x ∈ o.op.operands, evA σ2.slots x = evA σ.slots x := fun σ2 hs x hx => evA_congr fun t e => hs t (by
    unfold readsOf
    refine List.mem_append.2 (.inl (List.mem_filterMap.2 ⟨x, Array.mem_toList_iff.2 hx, ?_⟩))
    rw [e])
  have eta : ∀ (σ2 : St) (x : AV), (⟨(σ2.put o.dst x).slots, σ2.own⟩ : St) = σ2.put o.dst x := fun σ2 x => by cases o.dst <;> rfl
  cases wd with
  | false =>
    simp only at hwd
    rw [← eta] at hwd
    exact ⟨.tup [], σ.own, hwd, fun _ => rfl, fun σ2 K' ho hs hK' => guard_mk (wd := false) (by show K' _; rw [← eta, ho]; exact hK') (hw2 σ2 hs), fun _ σ2 K' hs hK' => guard_mk (wd := false) (by show K' _; rw [← eta]; exact hK') (hw2 σ2 hs), fun _ σ2 K' hs _ hK' => guard_mk (wd := false) (by show K' _; rw [← eta]; exact hK') (hw2 σ2 hs), fun _ _ _ => rfl⟩
  | true =>
    simp only at hwd
    unfold aop at hwd
    cases heff : isEff c o with
    | true =>
      rw [heff] at hwd
      simp only at hwd
      unfold VR.run at hwd
      split at hwd
      · cases hwd
      · rename_i p r hv
        refine ⟨r.1, r.2, hwd.2, (fun h => by cases h), fun σ2 K' ho hs hK' => guard_mk (wd := true) ?_ (hw2 σ2 hs), fun hfr => ?_, fun hfr => ?_, fun hnb => new_ownS hnb hv⟩
        · show aop c o σ2 K'
          unfold aop
          rw [heff]
          simp only
          rw [ho, aeffS_congr c o σ.own (hev σ2 hs), hv]
          exact ⟨hwd.1, hK'⟩
        · unfold freeB at hfr
          rw [heff] at hfr
          cases hfr
        · unfold lookB at hfr
          rw [heff] at hfr
          cases hfr
    | false =>
      rw [heff] at hwd
      simp only at hwd
      have hval : ∃ p x, aval c (evA σ.slots) σ.own o.op = .ok p x ∧ p ∧ K (σ.put o.dst x) ∧ (isFr c o = true → dOnlyL noPl (evL (evA σ.slots) o.op.operands.toList) = true) ∧ (isFr c o = false → isSp c o = true → dOnlyL (fixPl c) (evL (evA σ.slots) o.op.operands.toList) = true) := by
        split at hwd
        · rename_i hf
          obtain ⟨h1, h2⟩ := hwd
          unfold VR.run at h2
          split at h2
          · cases h2
          · rename_i p x hv
            exact ⟨p, x, hv, h2.1, h2.2, fun _ => h1, fun h => by rw [hf] at h; cases h⟩
        · rename_i hf
          split at hwd
          · rename_i hsp
            obtain ⟨h1, h2⟩ := hwd
            unfold VR.run at h2
            split at h2
            · cases h2
            · rename_i p x hv
              exact ⟨p, x, hv, h2.1, h2.2, (fun h => by rw [hf] at h; cases h), fun _ _ => h1⟩
          · rename_i hsp
            unfold VR.run at hwd
            split at hwd
            · cases hwd
            · rename_i p x hv
              exact ⟨p, x, hv, hwd.1, hwd.2, (fun h => by rw [hf] at h; cases h), fun _ h => by rw [hsp] at h; cases h⟩
      obtain ⟨p, x, hv, hp, hK, hdo, hdo2⟩ := hval
      rw [← eta] at hK
      have mk : ∀ (σ2 : St) (K' : St → Prop), (∀ t ∈ readsOf ops o, σ2.slots t = σ.slots t) → aval c (evA σ2.slots) σ2.own o.op = .ok p x → K' (σ2.put o.dst x) → run1 c ops o σ2 K' := fun σ2 K' hs hv2 hK' => by
        refine guard_mk (wd := true) ?_ (hw2 σ2 hs)
        show aop c o σ2 K'
        unfold aop
        rw [heff]
        simp only
        split
        · rename_i hf
          refine ⟨?_, by rw [hv2]; exact ⟨hp, hK'⟩⟩
          rw [evL_congr (ev' := evA σ.slots) (fun x hx => hev σ2 hs x (Array.mem_toList_iff.1 hx))]
          exact hdo hf
        · rename_i hf
          split
          · rename_i hsp
            refine ⟨?_, by rw [hv2]; exact ⟨hp, hK'⟩⟩
            rw [evL_congr (ev' := evA σ.slots) (fun x hx => hev σ2 hs x (Array.mem_toList_iff.1 hx))]
            exact hdo2 hf hsp
          · rw [hv2]; exact ⟨hp, hK'⟩
      refine ⟨x, σ.own, hK, fun _ => rfl, fun σ2 K' ho hs hK' => mk σ2 K' hs ?_ (by rw [← eta, ho]; exact hK'), fun hfr σ2 K' hs hK' => mk σ2 K' hs ?_ (by rw [← eta]; exact hK'), fun hlk σ2 K' hs ho hK' => mk σ2 K' hs ?_ (by rw [← eta]; exact hK'), fun _ _ _ => rfl⟩
      · rw [ho, aval_congr c σ.own o.op (hev σ2 hs), hv]
      rotate_left
      · rw [aval_congr c σ2.own o.op (hev σ2 hs), ← hv]
        unfold lookB at hlk
        simp only [Bool.and_eq_true, Bool.not_eq_true'] at hlk
        refine aval_own c (f := fixPl c) (fun l hl => ho l hl) o.op (.inr fun x hx => ?_)
        exact dOnlyL_all (hdo2 hlk.1.2 hlk.2) _ (by unfold evL; exact List.mem_map.2 ⟨x, Array.mem_toList_iff.2 hx, rfl⟩)
      · rw [aval_congr c σ2.own o.op (hev σ2 hs), ← hv]
        refine aval_own c (f := noPl) (fun l hl => by cases hl) o.op ?_
        unfold freeB at hfr
        rw [heff] at hfr
        simp only [Bool.not_false, Bool.true_and, Bool.or_eq_true] at hfr
        refine hfr.imp id fun hf x hx => ?_
        exact dOnlyL_all (hdo hf) _ (by unfold evL; exact List.mem_map.2 ⟨x, Array.mem_toList_iff.2 hx, rfl⟩)

def apartB (ops : List Oper) (x y : Oper) : Bool :=
  (match x.dst with | some d => !(readsOf ops y).contains d && !(y.dst == some d) | none => true) && (match y.dst with | some d => !(readsOf ops x).contains d | none => true)

theorem apart_spec {ops : List Oper} {x y : Oper} (h : apartB ops x y = true) : (∀ d, x.dst = some d → d ∉ readsOf ops y ∧ y.dst ≠ some d) ∧ (∀ d, y.dst = some d → d ∉ readsOf ops x) := by
  unfold apartB at h
  simp only [Bool.and_eq_true] at h
  refine ⟨fun d hd => ?_, fun d hd => ?_⟩
  · have h1 := h.1
    rw [hd] at h1
    simp only [Bool.and_eq_true, Bool.not_eq_true'] at h1
    refine ⟨fun hm => ?_, fun e => ?_⟩
    · have h2 := h1.1
      rw [List.contains_iff_mem.2 hm] at h2
      cases h2
    · have h2 := h1.2
      rw [e] at h2
      simp at h2
  · have h1 := h.2
    rw [hd] at h1
    simp only [Bool.not_eq_true'] at h1
    exact fun hm => by rw [List.contains_iff_mem.2 hm] at h1; cases h1

/-- Two operations that may change places. -/
def allocB (o : Oper) : Bool := match o.op, o.dst, o.guard with
  | .alloc _, some _, none => true
  | _, _, _ => false
theorem allocB_spec {o : Oper} (h : allocB o = true) : ∃ t d, o.op = .alloc t ∧ o.dst = some d ∧ o.guard = none := by
  unfold allocB at h
  split at h
  · rename_i t d h1 h2 h3; exact ⟨t, d, h1, h2, h3⟩
  · cases h
theorem run_alloc {c : Cfg} {ops : List Oper} {o : Oper} {t : TypeId} {d : Nat} (h1 : o.op = .alloc t) (h2 : o.dst = some d) (h3 : o.guard = none) (σ : St) (K : St → Prop) :
    run1 c ops o σ K ↔ ∃ i, c.ty t = some i ∧ deadIf (c.fr d) (σ.own d) ∧ K ⟨upd σ.slots d (.one (.ptr d ((σ.own d).ver + 1) 0 0)), upd σ.own d ⟨(σ.own d).ver + 1, .box t (i.zero.map ZK.c)⟩⟩ := by
  unfold run1 aguard
  simp only [h3]
  unfold aop isEff aeffS isDp isSw aeff
  simp only [h1, h2]
  cases c.ty t with
  | none => simp [VR.run]
  | some i => simp [VR.run, St.put]
/-- An allocation at a place that must be dead may change places with what only looks. -/
def allocD (c : Cfg) (o : Oper) : Bool := allocB o && match o.dst with | some d => c.fr d | none => false
theorem allocD_spec {c : Cfg} {o : Oper} (h : allocD c o = true) : ∃ t d, o.op = .alloc t ∧ o.dst = some d ∧ o.guard = none ∧ c.fr d = true := by
  unfold allocD at h
  simp only [Bool.and_eq_true] at h
  obtain ⟨t, d, h1, h2, h3⟩ := allocB_spec h.1
  exact ⟨t, d, h1, h2, h3, by have := h.2; rw [h2] at this; exact this⟩
/-- Two tails of rows at different places. -/
def tailB (c : Cfg) (o : Oper) : Bool := match o.op, o.dst, o.guard with
  | .slice _ _ (some _) none none, some d, none => c.wr d
  | _, _, _ => false
def tail2 (c : Cfg) (x y : Oper) : Bool := match x.dst, y.dst with
  | some dx, some dy => (tailB c x && tailB c y) && (List.range 1024).all fun l => !(tailF c dx l && tailF c dy l)
  | _, _ => false
theorem tailB_spec {c : Cfg} {o : Oper} (h : tailB c o = true) : ∃ t x lo d, o.op = .slice t x (some lo) none none ∧ o.dst = some d ∧ o.guard = none ∧ c.wr d = true := by
  unfold tailB at h
  split at h
  · rename_i t x lo d h1 h2 h3; exact ⟨t, x, lo, d, h1, h2, h3, h⟩
  · cases h
theorem tail_run {c : Cfg} {ops : List Oper} {o : Oper} (h : tailB c o = true) (σ : St) (K : St → Prop) : run1 c ops o σ K ↔ (aeff c o (evA σ.slots) σ.own).run fun r => K ⟨(σ.put o.dst r.1).slots, r.2⟩ := by
  obtain ⟨t, x, lo, d, h1, h2, h3, h4⟩ := tailB_spec h
  have e1 : isEff c o = true := by unfold isEff; rw [h1, h2]; exact h4
  have e2 : isSw c o = false := by unfold isSw; rw [h1]
  have e3 : isDp c o = false := by unfold isDp; rw [h1]
  unfold run1 aguard
  simp only [h3]
  unfold aop aeffS
  rw [e1, e3, e2]
theorem tail_spec {c : Cfg} {o : Oper} {d : Nat} (h : tailB c o = true) (hd : o.dst = some d) {ev : Operand → AV} {own : Nat → Loc} {p : Prop} {r : AV × (Nat → Loc)} (hr : aeff c o ev own = .ok p r) (hp : p) :
    ∃ l ver ob, r.2 = upd own l ⟨ver, ob⟩ ∧ tailF c d l = true ∧ ∀ own2 : Nat → Loc, own2 l = own l → aeff c o ev own2 = .ok p (r.1, upd own2 l ⟨ver, ob⟩) := by
  obtain ⟨t, x, lo, d', h1, h2, h3, h4⟩ := tailB_spec h
  obtain rfl : d' = d := Option.some.inj (h2.symm.trans hd)
  unfold aeff at hr ⊢
  simp only [h1, h2] at hr ⊢
  split at hr
  · rename_i sz z0 e k' b z l ver ki hh hty hx hlo
    split at hr
    · rename_i ver' ty k xs hl
      split at hr
      · rename_i hk
        injection hr with e1 e2
        subst e1; subst e2
        obtain ⟨-, hf, -⟩ := hp
        exact ⟨l, _, _, rfl, hf, fun own2 ho => by rw [hl] at ho; simp only [ho, hk]⟩
      · cases hr
    · rename_i ver' ty k xs hl
      split at hr
      · rename_i hk
        injection hr with e1 e2
        subst e1; subst e2
        obtain ⟨-, hf, -⟩ := hp
        exact ⟨l, _, _, rfl, hf, fun own2 ho => by rw [hl] at ho; simp only [ho, hk]⟩
      · cases hr
    · cases hr
  · cases hr
def mayB (c : Cfg) (ops : List Oper) (x y : Oper) : Bool := ((!isEff c x && !isEff c y) || freeB c x || freeB c y || (allocB x && allocB y) || (allocD c y && !isEff c x) || (newB' c x && lookB c y) || (newB' c y && lookB c x) || ((allocD c y && isEff c x) && !isDp c x) || tail2 c x y) && apartB ops x y

theorem viewC_alive {own : Nat → Loc} {d : Nat} {L : Loc} (hd : (own d).obj = .dead) {x : Cell} {p : Prop} {y : Cell × Bool} (h : viewC own x = .ok p y) : viewC (upd own d L) x = .ok p y := by
  cases x with
  | d x => exact h
  | ptr l v i j => cases h
  | sub l v i j =>
    have hne : l ≠ d := fun e => by
      subst e
      have h : viewI v i (own l) = .ok p y := h
      rcases ho : own l with ⟨v', ob⟩
      rw [ho] at hd
      simp only at hd
      subst hd
      rw [ho] at h
      cases h
    show viewI v i (upd own d L l) = .ok p y
    rw [upd_ne _ _ hne]
    exact h
  | own l v =>
    have hne : l ≠ d := fun e => by
      subst e
      have h : viewL v (own l) = .ok p y := h
      rcases ho : own l with ⟨v', ob⟩
      rw [ho] at hd
      simp only at hd
      subst hd
      rw [ho] at h
      cases h
    show viewL v (upd own d L l) = .ok p y
    rw [upd_ne _ _ hne]
    exact h
theorem viewCs_alive {own : Nat → Loc} {d : Nat} {L : Loc} (hd : (own d).obj = .dead) : ∀ {cs : List Cell} {p : Prop} {y : List Cell × Bool}, viewCs own cs = .ok p y → viewCs (upd own d L) cs = .ok p y
  | [], p, y, h => h
  | c :: cs, p, y, h => by
    unfold viewCs at h ⊢
    cases h1 : viewC own c with
    | no => rw [h1] at h; cases h
    | ok q z =>
      cases h2 : viewCs own cs with
      | no => rw [h1, h2] at h; cases h
      | ok q' z' =>
        rw [h1, h2] at h
        rw [viewC_alive hd h1, viewCs_alive hd h2]
        exact h
theorem view_alive {own : Nat → Loc} {d : Nat} {L : Loc} (hd : (own d).obj = .dead) {x : AV} {p : Prop} {y : AV × Bool} (h : view own x = .ok p y) : view (upd own d L) x = .ok p y := by
  cases x with
  | one c =>
    unfold view at h ⊢
    cases h1 : viewC own c with
    | no => simp only [h1] at h; cases h
    | ok q z => simp only [h1] at h; simp only [viewC_alive hd h1]; exact h
  | agg cs =>
    unfold view at h ⊢
    cases h1 : viewCs own cs with
    | no => simp only [h1] at h; cases h
    | ok q z => simp only [h1] at h; simp only [viewCs_alive hd h1]; exact h
  | tup xs => cases h
  | junk => cases h
theorem views_alive {own : Nat → Loc} {d : Nat} {L : Loc} (hd : (own d).obj = .dead) : ∀ {xs : List AV} {p : Prop} {y : List AV × Bool}, views own xs = .ok p y → views (upd own d L) xs = .ok p y
  | [], p, y, h => h
  | c :: cs, p, y, h => by
    unfold views at h ⊢
    cases h1 : view own c with
    | no => rw [h1] at h; cases h
    | ok q z =>
      cases h2 : views own cs with
      | no => rw [h1, h2] at h; cases h
      | ok q' z' =>
        rw [h1, h2] at h
        rw [view_alive hd h1, views_alive hd h2]
        exact h
theorem own_alive {α : Type} {own : Nat → Loc} {d l : Nat} {L : Loc} (hd : (own d).obj = .dead) {f : Loc → VR α} (hf : ∀ v, f ⟨v, .dead⟩ = .no) {p : Prop} {y : α} (h : f (own l) = .ok p y) : f (upd own d L l) = .ok p y := by
  have hne : l ≠ d := fun e => by
    subst e
    rcases ho : own l with ⟨v', ob⟩
    rw [ho] at hd
    simp only at hd
    subst hd
    rw [ho, hf] at h
    cases h
  rw [upd_ne _ _ hne]
  exact h
/-- What is yielded does not hang on a dead place. -/
theorem aval_alive {c : Cfg} {ev : Operand → AV} {own : Nat → Loc} {d : Nat} {L : Loc} (hd : (own d).obj = .dead) {op : Op} {p : Prop} {y : AV} (h : aval c ev own op = .ok p y) : aval c ev (upd own d L) op = .ok p y := by
  cases op with
  | load t x =>
    revert h
    dsimp only [aval]
    cases c.ty t with
    | none => exact id
    | some i =>
      generalize ev x = q
      cases q with
      | one q => cases q with
        | d z => cases z <;> exact id
        | own l v => exact id
        | ptr l v ix j =>
          intro h
          (try simp only at h ⊢)
          by_cases e : l = d
          · subst e
            rcases ho : own l with ⟨v', ob⟩
            rw [ho] at h hd
            simp only at hd
            subst hd
            cases h
          · rw [upd_ne _ _ e]; exact h
        | sub l v i j => exact id
      | _ => exact id
  | fieldAddr s x f =>
    revert h
    dsimp only [aval]
    generalize c.ty s = ti
    rcases ti with _ | ⟨sz, z, kind⟩
    · exact id
    · cases kind <;> try exact id
      rename_i fs b
      simp only
      generalize fs[f]? = fo
      rcases fo with _ | ⟨off, sz', ag⟩
      · exact id
      · simp only
        generalize Nat.beq sz' 0 = bz
        cases bz with
        | true => exact id
        | false =>
          generalize ev x = q
          cases q with
          | one q => cases q with
            | d z => cases z <;> exact id
            | own l v => exact id
            | ptr l v ix j =>
              intro h
              (try simp only at h ⊢)
              by_cases e : l = d
              · subst e
                rcases ho : own l with ⟨v', ob⟩
                rw [ho] at h hd
                simp only at hd
                subst hd
                cases h
              · rw [upd_ne _ _ e]; exact h
            | sub l v i j => exact id
          | _ => exact id
  | indexAddr t x i =>
    revert h
    dsimp only [aval]
    generalize c.ty t = ti
    rcases ti with _ | ⟨sz, z, kind⟩
    · exact id
    · cases kind <;> try exact id
      rename_i e k b z'
      simp only
      generalize ev x = q
      generalize ev i = r
      cases q with
      | one q => cases q with
        | d z =>
          cases r with
          | one r => cases r with
            | d r => cases z <;> cases r <;> exact id
            | _ => cases z <;> exact id
          | _ => cases z <;> exact id
        | own l v =>
          cases r with
          | one r => cases r with
            | d r => cases r with
              | int k0 n =>
                intro h
                (try simp only at h ⊢)
                by_cases e : l = d
                · subst e
                  rcases ho : own l with ⟨v', ob⟩
                  rw [ho] at h hd
                  simp only at hd
                  subst hd
                  cases h
                · rw [upd_ne _ _ e]; exact h
              | _ => exact id
            | _ => exact id
          | _ => exact id
        | ptr l v ix j =>
          cases r with
          | one r => cases r with
            | d r => cases r <;> exact id
            | _ => exact id
          | _ => exact id
        | sub l v off m =>
          cases r with
          | one r => cases r with
            | d r => cases r with
              | int k0 n =>
                intro h
                (try simp only at h ⊢)
                by_cases e : l = d
                · subst e
                  rcases ho : own l with ⟨v', ob⟩
                  rw [ho] at h hd
                  simp only at hd
                  subst hd
                  cases h
                · rw [upd_ne _ _ e]; exact h
              | _ => exact id
            | _ => exact id
          | _ => exact id
      | _ =>
        cases r with
        | one r => cases r with
          | d r => cases r <;> exact id
          | _ => exact id
        | _ => exact id
  | call cl =>
    revert h
    dsimp only [aval]
    cases hcl : cl.callee with
    | invoke r m => exact id
    | builtin b =>
      cases b <;> try exact id
      simp only
      generalize cl.argTypes.toList = ts
      cases ts with
      | nil => exact id
      | cons t ts =>
        simp only
        generalize c.ty t = ti
        rcases ti with _ | ⟨sz, z, kind⟩
        · exact id
        · cases kind <;> try exact id
          simp only
          generalize evL ev cl.args.toList = zs
          rcases zs with _ | ⟨q, _ | ⟨q', r⟩⟩
          · exact id
          · cases q with
            | one q => cases q with
              | d z => cases z <;> exact id
              | own l v =>
                intro h
                (try simp only at h ⊢)
                by_cases e : l = d
                · subst e
                  rcases ho : own l with ⟨v', ob⟩
                  rw [ho] at h hd
                  simp only at hd
                  subst hd
                  cases h
                · rw [upd_ne _ _ e]; exact h
              | ptr l v i j => exact id
              | sub l v off n =>
                intro h
                (try simp only at h ⊢)
                by_cases e : l = d
                · subst e
                  rcases ho : own l with ⟨v', ob⟩
                  rw [ho] at h hd
                  simp only at hd
                  subst hd
                  cases h
                · rw [upd_ne _ _ e]; exact h
            | _ => exact id
          · cases q with
            | one q => cases q with
              | d z => cases z <;> exact id
              | _ => exact id
            | _ => exact id
    | value g =>
      intro h
      simp only at h ⊢
      split at h <;> try cases h
      rename_i f caps hg
      have key : ∀ {q : Prop} {r : RV}, acall c own f (evL ev cl.args.toList ++ capsOf caps) = .ok q r → acall c (upd own d L) f (evL ev cl.args.toList ++ capsOf caps) = .ok q r := fun {q r} h => by
        unfold acall at h ⊢
        split at h <;> try cases h
        rename_i con hcon
        cases hv : views own (evL ev cl.args.toList ++ capsOf caps) with
        | no => rw [hv] at h; cases h
        | ok q z => rw [hv] at h; simp only [views_alive hd hv]; exact h
      cases hr : acall c own f (evL ev cl.args.toList ++ capsOf caps) with
      | no => rw [hr] at h; cases h
      | ok q r => rw [hr] at h; rw [key hr]; exact h
  | slice t x lo hi mx =>
    cases mx with
    | some m => cases lo <;> cases hi <;> exact h
    | none =>
      revert h
      dsimp only [aval]
      generalize c.ty t = ti
      rcases ti with _ | ⟨sz, z, kind⟩
      · exact id
      · cases kind <;> try exact id
        rename_i e k b z'
        generalize hq : asSl (ev x) = q
        cases q with
        | some q => exact id
        | none =>
          clear hq
          generalize ev x = q
          cases q with
          | one q => cases q with
            | own l v =>
              intro h
              (try simp only at h ⊢)
              by_cases e : l = d
              · subst e
                rcases ho : own l with ⟨v', ob⟩
                rw [ho] at h hd
                simp only at hd
                subst hd
                cases h
              · rw [upd_ne _ _ e]; exact h
            | _ => exact id
          | _ => exact id
  | binOp op t x y t' =>
    revert h
    dsimp only [aval]
    cases nilOp y with
    | false => exact id
    | true =>
      simp only
      cases ownNil (ev x) (ev y) with
      | none => exact id
      | some q => exact own_alive (f := nilAt (c.ty t) op q.2) hd (fun _ => rfl)
  | _ => exact h

theorem aop_alive {c : Cfg} {o : Oper} {σ : St} {K : St → Prop} {d : Nat} {L : Loc} {v : AV} (he : isEff c o = false) (hd : (σ.own d).obj = .dead) (hr : ∀ x ∈ o.op.operands, x ≠ .tmp d)
    (h : aop c o σ fun σ' => K ⟨upd σ'.slots d v, upd σ'.own d L⟩) (hdst : o.dst ≠ some d) : aop c o ⟨upd σ.slots d v, upd σ.own d L⟩ K := by
  have hev : ∀ x ∈ o.op.operands, evA (upd σ.slots d v) x = evA σ.slots x := fun x hx => evA_congr fun t e => upd_ne _ _ fun e' => hr x hx (by rw [e, e'])
  have hcomm : ∀ x, (St.put ⟨upd σ.slots d v, upd σ.own d L⟩ o.dst x) = ⟨upd (σ.put o.dst x).slots d v, upd (σ.put o.dst x).own d L⟩ := fun x => by
    cases ho : o.dst with
    | none => rfl
    | some e =>
      have hne : e ≠ d := fun e' => hdst (by rw [ho, e'])
      simp only [St.put]
      rw [upd_comm _ _ _ hne]
  unfold aop at h ⊢
  rw [he] at h ⊢
  simp only at h ⊢
  rw [aval_congr c (upd σ.own d L) o.op hev, evL_congr (ev' := evA σ.slots) (fun x hx => hev x (Array.mem_toList_iff.1 hx))]
  have key : ∀ {K' : St → Prop}, (aval c (evA σ.slots) σ.own o.op).run (fun x => K ⟨upd (σ.put o.dst x).slots d v, upd (σ.put o.dst x).own d L⟩) → (aval c (evA σ.slots) (upd σ.own d L) o.op).run fun x => K (St.put ⟨upd σ.slots d v, upd σ.own d L⟩ o.dst x) := fun {K'} hrun => by
    cases hv : aval c (evA σ.slots) σ.own o.op with
    | no => rw [hv] at hrun; exact hrun.elim
    | ok p x =>
      rw [hv] at hrun
      rw [aval_alive hd hv]
      refine ⟨hrun.1, ?_⟩
      show K (St.put _ _ _)
      rw [hcomm]
      exact hrun.2
  revert h
  cases isFr c o with
  | true => exact fun h => ⟨h.1, key (K' := K) h.2⟩
  | false => cases isSp c o with
    | true => exact fun h => ⟨h.1, key (K' := K) h.2⟩
    | false => exact fun h => key (K' := K) h

theorem aop_own {c : Cfg} {o : Oper} {σ : St} {K K' : St → Prop} (he : isEff c o = false) (hK : ∀ σ', σ'.own = σ.own → K σ' → K' σ') (h : aop c o σ K) : aop c o σ K' := by
  unfold aop at h ⊢
  rw [he] at h ⊢
  simp only at h ⊢
  have key : (aval c (evA σ.slots) σ.own o.op).run (fun x => K (σ.put o.dst x)) → (aval c (evA σ.slots) σ.own o.op).run fun x => K' (σ.put o.dst x) := fun hr => by
    cases hv : aval c (evA σ.slots) σ.own o.op with
    | no => rw [hv] at hr; exact hr.elim
    | ok p x => rw [hv] at hr; exact ⟨hr.1, hK _ (St.put_own _ _ _) hr.2⟩
  revert h
  cases isFr c o with
  | true => exact fun h => ⟨h.1, key h.2⟩
  | false => cases isSp c o with
    | true => exact fun h => ⟨h.1, key h.2⟩
    | false => exact fun h => key h

theorem St.put_comm' (s : Nat → AV) (o1 o2 : Nat → Loc) (d e : Option Nat) (x y : AV) (h : ∀ t, d = some t → e ≠ some t) : (St.put ⟨(St.put ⟨s, o1⟩ d x).slots, o2⟩ e y).slots = (St.put ⟨(St.put ⟨s, o1⟩ e y).slots, o2⟩ d x).slots := by
  cases d with
  | none => cases e <;> rfl
  | some d =>
    cases e with
    | none => rfl
    | some e =>
      have : d ≠ e := fun he => h d rfl (by rw [he])
      simp only [St.put]
      rw [upd_comm _ _ _ this]

theorem put_sl (s : Nat → AV) (o1 o2 : Nat → Loc) (d : Option Nat) (x : AV) : (St.put ⟨s, o1⟩ d x).slots = (St.put ⟨s, o2⟩ d x).slots := by cases d <;> rfl

/-- What is written is written alike where a dead place has come to life. -/
theorem readOf_alive {own : Nat → Loc} {d : Nat} {L : Loc} (hd : (own d).obj = .dead) {x : AV} {q : Prop} {k : ElK} {ys : List k.T} (h : readOf own x = .ok q k ys) : readOf (upd own d L) x = .ok q k ys := by
  have up : ∀ l v ty k xs, own l = ⟨v, .row ty k xs⟩ → upd own d L l = ⟨v, .row ty k xs⟩ := fun l v ty k xs e => by
    rw [upd_ne, e]
    intro e'
    rw [← e', e] at hd
    cases hd
  unfold readOf at h ⊢
  split at h
  · exact h
  · split at h
    · rename_i v ty k xs e
      simp only [up _ _ _ _ _ e]
      exact h
    · cases h
  · split at h
    · rename_i v ty k xs e
      simp only [up _ _ _ _ _ e]
      exact h
    · cases h
  · cases h
theorem acallW_alive {c : Cfg} {own : Nat → Loc} {d : Nat} {L : Loc} (hd : (own d).obj = .dead) {f : FuncId} {xs : List AV} {p : Prop} {l ver : Nat} {ty : TypeId} {k : ElK} {ys : List k.T} {tr : Bool} {av : AV} (h : acallW c own f xs = .ok p l ver ty k ys tr av) :
    acallW c (upd own d L) f xs = .ok p l ver ty k ys tr av := by
  have up : ∀ l v ty k xs, own l = ⟨v, .row ty k xs⟩ → upd own d L l = ⟨v, .row ty k xs⟩ := fun l v ty k xs e => by
    rw [upd_ne, e]
    intro e'
    rw [← e', e] at hd
    cases hd
  unfold acallW at h ⊢
  split at h
  · cases h
  · rename_i con hc
    try rw [hc]
    try simp only
    split at h
    · cases h
    · rename_i a ha
      try rw [ha]
      try simp only
      split at h
      · cases h
      · rename_i l' v' ho
        try rw [ho]
        try simp only
        split at h
        · rename_i v ty k xs e
          simp only [up _ _ _ _ _ e]
          exact h
        · cases h
theorem acall_alive {c : Cfg} {own : Nat → Loc} {d : Nat} {L : Loc} (hd : (own d).obj = .dead) {f : FuncId} {xs : List AV} {p : Prop} {r : RV} (h : acall c own f xs = .ok p r) : acall c (upd own d L) f xs = .ok p r := by
  unfold acall at h ⊢
  cases hc : c.con f with
  | none => rw [hc] at h; cases h
  | some con =>
    rw [hc] at h
    simp only at h ⊢
    cases hv : views own xs with
    | no => rw [hv] at h; cases h
    | ok q y => rw [views_alive hd hv]; rw [hv] at h; exact h
theorem viewC_live {own : Nat → Loc} {l v : Nat} {p : Prop} {y : Cell × Bool} (h : viewC own (.own l v) = .ok p y) : (own l).obj ≠ .dead := by
  intro hd
  have h : viewL v (own l) = .ok p y := h
  rcases ho : own l with ⟨v', ob⟩
  rw [ho] at hd
  simp only at hd
  subst hd
  rw [ho] at h
  cases h
theorem view_live {own : Nat → Loc} {a : AV} {l v : Nat} (ha : ownCell a = some (l, v)) {p : Prop} {y : AV × Bool} (h : view own a = .ok p y) : (own l).obj ≠ .dead := by
  unfold ownCell at ha
  split at ha
  · injection ha with ha
    injection ha with e1 e2
    subst e1
    subst e2
    unfold view at h
    simp only at h
    split at h
    · rename_i hv; exact viewC_live hv
    · cases h
  · injection ha with ha
    injection ha with e1 e2
    subst e1
    subst e2
    unfold view viewCs at h
    simp only at h
    split at h
    · rename_i hv
      split at hv
      · rename_i h1 h2; exact viewC_live h1
      · cases hv
    · cases h
  · cases ha
theorem views_live {own : Nat → Loc} {l v : Nat} : ∀ {xs : List AV} {i : Nat} {a : AV} {p : Prop} {y : List AV × Bool}, nthA xs i = some a → ownCell a = some (l, v) → views own xs = .ok p y → (own l).obj ≠ .dead
  | [], _, _, _, _, h, _, _ => by cases h
  | x :: xs, 0, a, p, y, h, ha, hv => by
    injection h with h
    subst h
    unfold views at hv
    split at hv
    · rename_i h1 h2; exact view_live ha h1
    · cases hv
  | x :: xs, i + 1, a, p, y, h, ha, hv => by
    unfold views at hv
    split at hv
    · rename_i h1 h2; exact views_live (i := i) h ha h2
    · cases hv
theorem acallW_no {c : Cfg} {own : Nat → Loc} {d : Nat} {L : Loc} (hd : (own d).obj = .dead) {f : FuncId} {xs : List AV} {p : Prop} {r : RV} (h : acall c own f xs = .ok p r) (hW : acallW c own f xs = .no) : acallW c (upd own d L) f xs = .no := by
  have hv : ∃ q y, views own xs = .ok q y := by
    unfold acall at h
    split at h
    · cases h
    · split at h
      · cases h
      · rename_i hv; exact ⟨_, _, hv⟩
  obtain ⟨q, y, hv⟩ := hv
  unfold acallW at hW ⊢
  cases hc : c.conw f with
  | none => rfl
  | some con =>
    rw [hc] at hW
    simp only at hW ⊢
    cases ha : nthA xs con.wi with
    | none => rfl
    | some a =>
      rw [ha] at hW
      simp only at hW ⊢
      cases ho : ownCell a with
      | none => rfl
      | some lv =>
        obtain ⟨l, ver⟩ := lv
        rw [ho] at hW
        simp only at hW ⊢
        rw [upd_ne _ _ (fun (e : l = d) => views_live ha ho hv (by rw [e]; exact hd))]
        exact hW
/-- The shape of what is written: one place, and no dead thing there. -/
theorem eff_alive {c : Cfg} {o : Oper} {ev : Operand → AV} {own : Nat → Loc} {d : Nat} {L : Loc} {p : Prop} {r : AV × (Nat → Loc)} (h : aeff c o ev own = .ok p r) (hdst : o.dst ≠ some d) (hd : (r.2 d).obj = .dead) :
    (own d).obj = .dead ∧ r.2 d = own d ∧ aeff c o ev (upd own d L) = .ok p (r.1, upd r.2 d L) := by
  have fin : ∀ {l : Nat} {v : Nat} {ob : Own} {x : AV} {q : Prop}, (VR.ok q (x, upd own l ⟨v, ob⟩) : VR (AV × (Nat → Loc))) = .ok p r → ob.live = true → ((own d).obj = .dead → l ≠ d → aeff c o ev (upd own d L) = .ok q (x, upd (upd own d L) l ⟨v, ob⟩)) →
      (own d).obj = .dead ∧ r.2 d = own d ∧ aeff c o ev (upd own d L) = .ok p (r.1, upd r.2 d L) := by
    intro l v ob x q e hl hk
    injection e with e1 e2
    subst e1
    subst e2
    have hne : l ≠ d := fun e' => by
      subst e'
      simp only [upd_eq] at hd
      rw [hd] at hl
      cases hl
    have h1 : upd own l ⟨v, ob⟩ d = own d := upd_ne _ _ (Ne.symm hne)
    have h2 : (own d).obj = .dead := by rw [← h1]; exact hd
    refine ⟨h2, h1, ?_⟩
    rw [hk h2 hne, upd_comm _ _ _ hne]
  have up : ∀ l, l ≠ d → upd own d L l = own l := fun l h => upd_ne _ _ h
  have h0 := h
  unfold aeff at h
  split at h
  · -- alloc
    rename_i t dd ho hdd
    have hne : dd ≠ d := fun e => hdst (by rw [hdd, e])
    split at h
    · rename_i i hi
      refine fin h rfl fun _ _ => ?_
      unfold aeff
      simp only [ho, hdd, hi, up _ hne]
    · cases h
  · rename_i t x dd ho hdd
    have hne : dd ≠ d := fun e => hdst (by rw [hdd, e])
    split at h
    · rename_i cs hcs
      refine fin h rfl fun _ _ => ?_
      unfold aeff
      simp only [ho, hdd, hcs, up _ hne]
    · cases h
  · rename_i t len parts dd ho hdd
    have hne : dd ≠ d := fun e => hdst (by rw [hdd, e])
    split at h
    · rename_i hty
      split at h
      · rename_i xs h1 h2
        refine fin h rfl fun _ _ => ?_
        unfold aeff
        simp only [ho, hdd, hty, h1, h2, up _ hne]
      · cases h
    · cases h
  · rename_i t len cap dd ho hdd
    have hne : dd ≠ d := fun e => hdst (by rw [hdd, e])
    split at h
    · rename_i hty h1 h2
      split at h
      · rename_i z hz
        refine fin h rfl fun _ _ => ?_
        unfold aeff
        simp only [ho, hdd, hty, h1, h2, hz, up _ hne]
      · cases h
    · cases h
  · -- store
    rename_i t a x ho hdd
    split at h
    · rename_i l ver i j cs ti h1 h2 h3
      split at h
      · rename_i ver' ty cs' h4 h5
        refine fin h rfl fun hdead hne => ?_
        unfold aeff
        simp only [ho, hdd, h1, h2, h3, h4, up _ hne, h5]
      · rename_i ver' ty k xs h4 h5
        split at h
        · rename_i xs' h6
          refine fin h rfl fun hdead hne => ?_
          unfold aeff
          simp only [ho, hdd, h1, h2, h3, h4, up _ hne, h5, h6]
        · cases h
      · cases h
    · cases h
  · -- truncated
    rename_i t x hi dd ho hdd
    split at h
    · rename_i l ver kk hh h1 h2 h3
      split at h
      · rename_i ver' ty k xs h5
        split at h
        · rename_i h6
          refine fin h rfl fun hdead hne => ?_
          unfold aeff
          simp only [ho, hdd, h1, h2, h3, up _ hne, h5, h6]
        · cases h
      · cases h
    · cases h
  · -- from an element on
    rename_i t x lo dd ho hdd
    split at h
    · rename_i l ver kk hh h1 h2 h3
      split at h
      · rename_i ver' ty k xs h5
        split at h
        · rename_i h6
          refine fin h rfl fun hdead hne => ?_
          unfold aeff
          simp only [ho, hdd, h1, h2, h3, up _ hne, h5, h6]
        · cases h
      · rename_i ver' ty k xs h5
        split at h
        · rename_i h6
          refine fin h rfl fun hdead hne => ?_
          unfold aeff
          simp only [ho, hdd, h1, h2, h3, up _ hne, h5, h6]
        · cases h
      · cases h
    · cases h
  · -- a call
    rename_i cl dd ho hdd
    have hdn : dd ≠ d := fun e => hdst (by rw [hdd, e])
    split at h
    · -- append
      rename_i hcl
      split at h
      · rename_i s x t t' ha hat
        split at h
        · rename_i e k b z h1 h2
          split at h
          · cases h
          · rename_i pv xv bv hview
            split at h
            · cases h
            · rename_i ys hys
              split at h
              · rename_i l ver hs
                split at h
                · rename_i ver' ty k' xs hl
                  split at h
                  · rename_i xs' hc
                    refine fin h rfl fun hdead hne => ?_
                    unfold aeff
                    simp only [ho, hdd, hcl, ha, hat, h1, h2, view_alive hdead hview, hys, up _ hne, hl, hc]
                  · cases h
                · rename_i ver' ty k' xs hl
                  split at h
                  · rename_i xs' hc
                    refine fin h rfl fun hdead hne => ?_
                    unfold aeff
                    simp only [ho, hdd, hcl, ha, hat, h1, h2, view_alive hdead hview, hys, up _ hne, hl, hc]
                  · cases h
                · cases h
              · rename_i k' xs
                split at h
                · rename_i xs' hc
                  refine fin h rfl fun hdead hne => ?_
                  unfold aeff
                  simp only [ho, hdd, hcl, ha, hat, h1, h2, view_alive hdead hview, hys, up _ hne, hc]
                · cases h
              · refine fin h rfl fun hdead hne => ?_
                unfold aeff
                simp only [ho, hdd, hcl, ha, hat, h1, h2, view_alive hdead hview, hys, up _ hne]
              · cases h
        · cases h
      · cases h
    · -- a function
      rename_i g hcl
      split at h
      · rename_i f caps hg
        split at h
        · rename_i q l ver ty k ys av hc
          refine fin h rfl fun hdead hne => ?_
          unfold aeff
          simp only [ho, hdd, hcl, hg, acallW_alive hdead hc]
        · rename_i q l ver ty k ys av hc
          refine fin h rfl fun hdead hne => ?_
          unfold aeff
          simp only [ho, hdd, hcl, hg, acallW_alive hdead hc]
        · rename_i hno
          split at h
          · cases h
          · rename_i q r' hc
            split at h
            · rename_i R hR
              refine fin h rfl fun hdead hne => ?_
              unfold aeff
              simp only [ho, hdd, hcl, hg, acallW_no hdead hc hno, acall_alive hdead hc, hR, up _ hne]
            · rename_i hR
              injection h with e1 e2
              subst e1
              subst e2
              have hk : (own d).obj = .dead := by
                have h9 := hd
                simp only at h9
                rw [upd_ne _ _ (Ne.symm hdn)] at h9
                exact h9
              refine ⟨hk, upd_ne _ _ (Ne.symm hdn), ?_⟩
              unfold aeff
              simp only [ho, hdd, hcl, hg, acallW_no hk hc hno, acall_alive hk hc, hR, up _ hdn]
              rw [upd_comm _ _ _ hdn]
      · cases h
    · -- copy
      rename_i hcl
      split at h
      · rename_i x s t t' ha hat
        split at h
        · rename_i k b z l ver off n h1
          split at h
          · rename_i ver' ty k' xs hl
            split at h
            · rename_i q k'' ys hr
              split at h
              · rename_i ys' hc
                refine fin h rfl fun hdead hne => ?_
                unfold aeff
                simp only [ho, hdd, hcl, ha, hat, h1, up _ hne, hl, readOf_alive hdead hr, hc]
              · cases h
            · cases h
          · cases h
        · rename_i k b z l ver h1
          split at h
          · rename_i ver' ty k' xs hl
            split at h
            · rename_i q k'' ys hr
              split at h
              · rename_i ys' hc
                refine fin h rfl fun hdead hne => ?_
                unfold aeff
                simp only [ho, hdd, hcl, ha, hat, h1, up _ hne, hl, readOf_alive hdead hr, hc]
              · cases h
            · cases h
          · cases h
        · cases h
      · cases h
    · cases h
  · -- clear
    rename_i cl ho hdd
    split at h
    · rename_i hcl
      split at h
      · rename_i x t ha hat
        split at h
        · rename_i k b z l ver off n h1
          split at h
          · rename_i ver' ty k' xs hl
            split at h
            · rename_i zv hz
              refine fin h rfl fun hdead hne => ?_
              unfold aeff
              simp only [ho, hdd, hcl, ha, hat, h1, up _ hne, hl, hz]
            · cases h
          · cases h
        · cases h
      · cases h
    · cases h
  · cases h

theorem effS_alive {c : Cfg} {o : Oper} {ev : Operand → AV} {own : Nat → Loc} {d : Nat} {L : Loc} {p : Prop} {r : AV × (Nat → Loc)} (h : aeffS c o ev own = .ok p r) (hp : p) (hdp : isDp c o = false) (hfr : c.fr d = true) (hdst : o.dst ≠ some d) (hd : (r.2 d).obj = .dead) :
    (own d).obj = .dead ∧ r.2 d = own d ∧ aeffS c o ev (upd own d L) = .ok p (r.1, upd r.2 d L) := by
  unfold aeffS at h ⊢
  rw [hdp] at h ⊢
  simp only at h ⊢
  split at h
  · cases hv : aeff c o ev own with
    | no => rw [hv] at h; cases h
    | ok p0 r0 =>
      rw [hv] at h
      cases hf : frzR c r0 with
      | no => simp only [VR.bind, hf] at h; cases h
      | ok q r' =>
        simp only [VR.bind, hf] at h
        injection h with e1 e2
        subst e1
        subst e2
        obtain ⟨hp0, hq⟩ := hp
        obtain ⟨x, own1⟩ := r0
        unfold frzR at hf
        split at hf
        · rename_i l ver own2 hr
          injection hr with e1 e2
          subst e1
          subst e2
          split at hf
          · rename_i ver' ty k xs hl
            injection hf with e1 e2
            subst e1
            subst e2
            have hne : l ≠ d := fun e => by rw [e, hfr] at hq; cases hq.2
            simp only at hd
            rw [upd_ne _ _ (Ne.symm hne)] at hd
            obtain ⟨g1, g2, g3⟩ := eff_alive (L := L) hv hdst hd
            simp only at g2 g3
            refine ⟨g1, by simp only; rw [upd_ne _ _ (Ne.symm hne), g2], ?_⟩
            rw [g3]
            simp only [VR.bind, frzR, upd_ne _ _ hne, hl]
            rw [upd_comm _ _ _ hne]
          · cases hf
        · cases hf
  · obtain ⟨g1, g2, g3⟩ := eff_alive (L := L) h hdst hd
    exact ⟨g1, g2, g3⟩

theorem swap1 {c : Cfg} {ops : List Oper} {x y : Oper} {σ : St} {K : St → Prop} (hm : mayB c ops x y = true) (h : run1 c ops x σ (fun σ' => run1 c ops y σ' K)) :
    run1 c ops y σ (fun σ' => run1 c ops x σ' K) := by
  unfold mayB at hm
  simp only [Bool.and_eq_true, Bool.or_eq_true, Bool.not_eq_true'] at hm
  obtain ⟨hm, hap⟩ := hm
  obtain ⟨h1, h2⟩ := apart_spec hap
  obtain ⟨s, ow⟩ := σ
  obtain ⟨vx, ox, hx1, hxe, hx2, hx3, hx4, hx5⟩ := gen_fn h
  obtain ⟨vy, oy, hy1, hye, hy2, hy3, hy4, hy5⟩ := gen_fn hx1
  have ry : ∀ (o' : Nat → Loc), ∀ t ∈ readsOf ops y, (⟨s, o'⟩ : St).slots t = (⟨(St.put ⟨s, ow⟩ x.dst vx).slots, ox⟩ : St).slots t := fun o' t ht => (St.put_slots ⟨s, ow⟩ _ _ _ (fun e => (h1 t e).1 ht)).symm
  have rx : ∀ (o' : Nat → Loc) (v : AV), ∀ t ∈ readsOf ops x, (⟨(St.put ⟨s, ow⟩ y.dst v).slots, o'⟩ : St).slots t = (⟨s, ow⟩ : St).slots t := fun o' v t ht => St.put_slots ⟨s, ow⟩ _ _ _ (fun e => h2 t e ht)
  have hcomm := fun o1 o2 => St.put_comm' s o1 o2 x.dst y.dst vx vy (fun t e => (h1 t e).2)
  rcases hm with (((((((⟨e1, e2⟩ | hfx) | hfy) | ⟨hax, hay⟩) | ⟨hay, hex⟩) | ⟨hnx, hly⟩) | ⟨hny, hlx⟩) | ⟨⟨hay, hex⟩, hdpx⟩) | ht2
  · have e3 := hxe e1
    have e4 := hye e2
    simp only at e3 e4
    subst e3
    subst e4
    refine hy2 ⟨s, _⟩ _ rfl (ry _) (hx2 _ _ rfl (rx _ vy) ?_)
    show K ⟨_, _⟩
    rw [← hcomm]
    exact hy1
  · -- x is free
    have e3 : ox = ow := hxe (by unfold freeB at hfx; simp only [Bool.and_eq_true, Bool.not_eq_true'] at hfx; exact hfx.1)
    subst e3
    refine hy2 ⟨s, _⟩ _ rfl (ry _) (hx3 hfx _ _ (rx oy vy) ?_)
    show K ⟨_, oy⟩
    rw [put_sl (St.put ⟨s, _⟩ y.dst vy).slots oy ox x.dst vx, ← hcomm]
    exact hy1
  · have e4 : oy = ox := hye (by unfold freeB at hfy; simp only [Bool.and_eq_true, Bool.not_eq_true'] at hfy; exact hfy.1)
    subst e4
    refine hy3 hfy ⟨s, ow⟩ _ (ry ow) (hx2 _ _ rfl (rx ow vy) ?_)
    show K ⟨_, _⟩
    rw [put_sl (St.put ⟨s, ow⟩ y.dst vy).slots ow oy x.dst vx, ← hcomm]
    exact hy1
  · -- both make a new box
    obtain ⟨tx, dx, x1, x2, x3⟩ := allocB_spec hax
    obtain ⟨ty, dy, y1, y2, y3⟩ := allocB_spec hay
    have hne : dx ≠ dy := fun e => (h1 dx x2).2 (by rw [y2, e])
    rw [run_alloc x1 x2 x3] at h
    obtain ⟨ix, hix, hdx, h⟩ := h
    rw [run_alloc y1 y2 y3] at h
    obtain ⟨iy, hiy, hdy, h⟩ := h
    rw [run_alloc y1 y2 y3]
    simp only [upd_ne _ _ (Ne.symm hne)] at h hdy
    refine ⟨iy, hiy, hdy, ?_⟩
    rw [run_alloc x1 x2 x3]
    refine ⟨ix, hix, by simp only [upd_ne _ _ hne]; exact hdx, ?_⟩
    simp only [upd_ne _ _ hne] at h ⊢
    rw [upd_comm _ _ _ hne, upd_comm _ _ _ hne] at h
    exact h
  · -- a new box at a dead place, and one that only looks
    obtain ⟨ty, dy, y1, y2, y3, hfd⟩ := allocD_spec hay
    have hxr : dy ∉ readsOf ops x := h2 dy y2
    have hxd : x.dst ≠ some dy := fun e => (h1 dy e).2 y2
    have e3 := hxe hex
    simp only at e3
    subst e3
    have hs := h
    rw [run_alloc y1 y2 y3]
    have hy1' := hx1
    rw [run_alloc y1 y2 y3] at hy1'
    obtain ⟨iy, hiy, hdy, hK⟩ := hy1'
    simp only at hdy hK
    refine ⟨iy, hiy, hdy, ?_⟩
    have hdead : (ox dy).obj = .dead := by rw [hfd] at hdy; exact deadIf_true hdy
    obtain ⟨wd, hwd, hw⟩ := guard_ok h
    refine guard_mk (wd := wd) ?_ (hw.imp id ?_)
    · cases wd with
      | true =>
        refine aop_alive (σ := ⟨s, ox⟩) hex hdead (fun z hz e => hxr ?_) ?_ hxd
        · unfold readsOf
          refine List.mem_append.2 (.inl (List.mem_filterMap.2 ⟨z, Array.mem_toList_iff.2 hz, ?_⟩))
          rw [e]
        · have hwd : aop c x ⟨s, ox⟩ _ := hwd
          refine aop_own hex (fun σ' ho hr => ?_) hwd
          rw [run_alloc y1 y2 y3] at hr
          obtain ⟨iy', hiy', _, hK'⟩ := hr
          have : iy' = iy := Option.some.inj (hiy'.symm.trans hiy)
          subst this
          have ho : σ'.own = ox := ho
          rw [ho] at hK' ⊢
          exact hK'
      | false =>
        have hwd : run1 c ops y (St.put ⟨s, ox⟩ x.dst (.tup [])) K := hwd
        rw [run_alloc y1 y2 y3] at hwd
        obtain ⟨iy', hiy', _, hK'⟩ := hwd
        have : iy' = iy := Option.some.inj (hiy'.symm.trans hiy)
        subst this
        show K (St.put _ _ _)
        have : ∀ (x' : Option Nat), x' ≠ some dy → (St.put ⟨upd s dy (.one (.ptr dy ((ox dy).ver + 1) 0 0)), upd ox dy ⟨(ox dy).ver + 1, .box ty (iy'.zero.map ZK.c)⟩⟩ x' (.tup [])) = ⟨upd (St.put ⟨s, ox⟩ x' (.tup [])).slots dy (.one (.ptr dy ((ox dy).ver + 1) 0 0)), upd ox dy ⟨(ox dy).ver + 1, .box ty (iy'.zero.map ZK.c)⟩⟩ := fun x' hx' => by
          cases x' with
          | none => rfl
          | some e =>
            have hne : e ≠ dy := fun e' => hx' (by rw [e'])
            simp only [St.put]
            rw [upd_comm _ _ _ hne]
        rw [this _ hxd]
        rw [St.put_own] at hK'
        exact hK'
    · rintro ⟨j, want, oj, e, b, g1, g2, g3, g4, g5⟩
      refine ⟨j, want, oj, e, b, g1, g2, g3, ?_, g5⟩
      have hne : e ≠ dy := fun e' => hxr (by unfold readsOf; rw [g1]; simp [g2, g3, e'])
      simp only [upd_ne _ _ hne]
      exact g4
  · -- x makes a new thing, y looks elsewhere
    have e4 : oy = ox := hye (by unfold lookB at hly; simp only [Bool.and_eq_true, Bool.not_eq_true'] at hly; exact hly.1.1)
    subst e4
    refine hy4 hly ⟨s, ow⟩ _ (ry ow) (fun l hl => (hx5 hnx l hl).symm) (hx2 _ _ rfl (rx ow vy) ?_)
    show K ⟨_, _⟩
    rw [put_sl (St.put ⟨s, _⟩ y.dst vy).slots ow oy x.dst vx, ← hcomm]
    exact hy1
  · -- y makes a new thing, x looks elsewhere
    have e3 : ox = ow := hxe (by unfold lookB at hlx; simp only [Bool.and_eq_true, Bool.not_eq_true'] at hlx; exact hlx.1.1)
    subst e3
    refine hy2 ⟨s, _⟩ _ rfl (ry _) (hx4 hlx _ _ (rx oy vy) (fun l hl => hy5 hny l hl) ?_)
    show K ⟨_, oy⟩
    rw [put_sl (St.put ⟨s, _⟩ y.dst vy).slots oy ox x.dst vx, ← hcomm]
    exact hy1
  · -- x writes, y makes a new box at a dead place
    obtain ⟨ty, dy, y1, y2, y3, hfd⟩ := allocD_spec hay
    have hxr : dy ∉ readsOf ops x := h2 dy y2
    have hxd : x.dst ≠ some dy := fun e => (h1 dy e).2 y2
    have hev : ∀ z ∈ x.op.operands, ∀ (v : AV), evA (upd s dy v) z = evA s z := fun z hz v => evA_congr fun t e => upd_ne _ _ fun e' => hxr (by
      subst e'
      unfold readsOf
      exact List.mem_append.2 (.inl (List.mem_filterMap.2 ⟨z, Array.mem_toList_iff.2 hz, by rw [e]⟩)))
    have comm : ∀ (e : Option Nat) (u v : AV) (o1 o2 : Nat → Loc), e ≠ some dy → (St.put ⟨upd s dy v, o1⟩ e u).slots = upd (St.put ⟨s, o2⟩ e u).slots dy v := fun e u v o1 o2 he => by
      cases e with
      | none => rfl
      | some e =>
        have hne : e ≠ dy := fun e' => he (by rw [e'])
        simp only [St.put]
        rw [upd_comm _ _ _ hne]
    obtain ⟨wd, hwd, hw⟩ := guard_ok h
    have hg : ∀ v, (x.guard = none ∧ wd = true) ∨ ∃ j want oj e b, x.guard = some (j, want) ∧ ops[j]? = some oj ∧ oj.dst = some e ∧ upd s dy v e = b ∧ WantV b want wd := fun v => hw.imp id (by
      rintro ⟨j, want, oj, e, b, g1, g2, g3, g4, g5⟩
      refine ⟨j, want, oj, e, b, g1, g2, g3, ?_, g5⟩
      have hne : e ≠ dy := fun e' => hxr (by unfold readsOf; rw [g1]; simp [g2, g3, e'])
      rw [upd_ne _ _ hne]
      exact g4)
    rw [run_alloc y1 y2 y3]
    cases wd with
    | false =>
      have hwd : run1 c ops y (St.put ⟨s, ow⟩ x.dst (.tup [])) K := hwd
      rw [run_alloc y1 y2 y3] at hwd
      obtain ⟨iy, hiy, hdy, hK⟩ := hwd
      rw [St.put_own] at hdy hK
      refine ⟨iy, hiy, hdy, guard_mk (wd := false) ?_ (hg _)⟩
      show K (St.put _ _ _)
      have e := comm x.dst (.tup []) (.one (.ptr dy ((ow dy).ver + 1) 0 0)) (upd ow dy ⟨(ow dy).ver + 1, .box ty (iy.zero.map ZK.c)⟩) ow hxd
      have e2 : St.put ⟨upd s dy (.one (.ptr dy ((ow dy).ver + 1) 0 0)), upd ow dy ⟨(ow dy).ver + 1, .box ty (iy.zero.map ZK.c)⟩⟩ x.dst (.tup []) = ⟨upd (St.put ⟨s, ow⟩ x.dst (.tup [])).slots dy (.one (.ptr dy ((ow dy).ver + 1) 0 0)), upd ow dy ⟨(ow dy).ver + 1, .box ty (iy.zero.map ZK.c)⟩⟩ := by
        rw [← e]
        cases x.dst <;> rfl
      rw [e2]
      exact hK
    | true =>
      have hwd : aop c x ⟨s, ow⟩ (fun σ' => run1 c ops y σ' K) := hwd
      unfold aop at hwd
      rw [hex] at hwd
      simp only at hwd
      cases hv : aeffS c x (evA s) ow with
      | no => rw [hv] at hwd; exact hwd.elim
      | ok p r =>
        rw [hv] at hwd
        obtain ⟨hp, hr⟩ := hwd
        rw [run_alloc y1 y2 y3] at hr
        obtain ⟨iy, hiy, hdy, hK⟩ := hr
        simp only at hdy hK
        rw [hfd] at hdy
        obtain ⟨hdead, hsame, hal⟩ := effS_alive (L := ⟨(ow dy).ver + 1, .box ty (iy.zero.map ZK.c)⟩) hv hp hdpx hfd hxd (deadIf_true hdy)
        refine ⟨iy, hiy, deadIf_of hdead, guard_mk (wd := true) ?_ (hg _)⟩
        show aop c x _ K
        unfold aop
        rw [hex]
        simp only
        rw [aeffS_congr c x _ (fun z hz => hev z hz _), hal]
        refine ⟨hp, ?_⟩
        simp only
        rw [hsame] at hK
        have e := comm x.dst r.1 (.one (.ptr dy ((ow dy).ver + 1) 0 0)) (upd ow dy ⟨(ow dy).ver + 1, .box ty (iy.zero.map ZK.c)⟩) ow hxd
        rw [e]
        exact hK
  · -- two tails
    unfold tail2 at ht2
    split at ht2
    · rename_i dx dy hdx hdy
      simp only [Bool.and_eq_true] at ht2
      obtain ⟨⟨tx, ty⟩, hall⟩ := ht2
      rw [tail_run tx] at h
      cases hv : aeff c x (evA s) ow with
      | no => simp only [hv] at h; exact h.elim
      | ok p r =>
        simp only [hv] at h
        obtain ⟨hp, hk⟩ := h
        rw [tail_run ty] at hk
        have hevy : ∀ z ∈ y.op.operands, evA (St.put ⟨s, ow⟩ x.dst r.1).slots z = evA s z := fun z hz => evA_congr fun t e => St.put_slots ⟨s, ow⟩ _ _ _ (fun e' => (h1 t e').1 (by
          unfold readsOf
          exact List.mem_append.2 (.inl (List.mem_filterMap.2 ⟨z, Array.mem_toList_iff.2 hz, by rw [e]⟩))))
        simp only at hk
        rw [aeff_congr c y r.2 hevy] at hk
        cases hw : aeff c y (evA s) r.2 with
        | no => rw [hw] at hk; exact hk.elim
        | ok p' r' =>
          rw [hw] at hk
          obtain ⟨hp', hK⟩ := hk
          obtain ⟨l, v, ob, g1, g2, g3⟩ := tail_spec tx hdx hv hp
          obtain ⟨l', v', ob', k1, k2, k3⟩ := tail_spec ty hdy hw hp'
          have hne : l ≠ l' := fun e => by
            subst e
            have hlt : l < 1024 := by
              unfold tailF at g2
              rw [Bool.and_eq_true] at g2
              exact Nat.le_of_ble_eq_true g2.1
            have := List.all_eq_true.1 hall l (List.mem_range.2 hlt)
            rw [g2, k2] at this
            cases this
          have hy0 := k3 ow (by rw [g1, upd_ne _ _ (Ne.symm hne)])
          rw [tail_run ty]
          simp only [hy0]
          refine ⟨hp', ?_⟩
          show run1 c ops x ⟨(St.put ⟨s, ow⟩ y.dst r'.1).slots, upd ow l' ⟨v', ob'⟩⟩ K
          rw [tail_run tx]
          have hevx : ∀ z ∈ x.op.operands, evA (St.put ⟨s, ow⟩ y.dst r'.1).slots z = evA s z := fun z hz => evA_congr fun t e => St.put_slots ⟨s, ow⟩ _ _ _ (fun e' => h2 t e' (by
            unfold readsOf
            exact List.mem_append.2 (.inl (List.mem_filterMap.2 ⟨z, Array.mem_toList_iff.2 hz, by rw [e]⟩))))
          simp only
          rw [aeff_congr c x _ hevx, g3 (upd ow l' ⟨v', ob'⟩) (upd_ne _ _ hne)]
          refine ⟨hp, ?_⟩
          have e1 : (St.put ⟨(St.put ⟨s, ow⟩ x.dst r.1).slots, r.2⟩ y.dst r'.1).slots = (St.put ⟨(St.put ⟨s, ow⟩ y.dst r'.1).slots, upd ow l' ⟨v', ob'⟩⟩ x.dst r.1).slots := by
            rw [St.put_comm' s ow r.2 x.dst y.dst r.1 r'.1 (fun t e => (h1 t e).2)]
            exact put_sl _ _ _ _ _
          have e2 : r'.2 = upd (upd ow l' ⟨v', ob'⟩) l ⟨v, ob⟩ := by rw [k1, g1, upd_comm _ _ _ hne]
          rw [e1, e2] at hK
          exact hK
    · cases ht2

/-- An operation that may change places with all that stand ahead of it may come first. -/
theorem front {c : Cfg} {ops : List Oper} {y : Oper} : ∀ (pre post : List Oper) (σ : St) (K : St → Prop), (∀ x ∈ pre, mayB c ops x y = true) →
    arun c ops (pre ++ y :: post) σ K → run1 c ops y σ (fun σ' => arun c ops (pre ++ post) σ' K)
  | [], post, σ, K, _, h => h
  | x :: pre, post, σ, K, hp, h => by
    rw [List.cons_append, arun_cons] at h
    have h' : run1 c ops x σ (fun σ' => run1 c ops y σ' fun σ'' => arun c ops (pre ++ post) σ'' K) := by
      obtain ⟨v, ow, k1, _, k2, _⟩ := gen_fn h
      exact k2 σ _ rfl (fun _ _ => rfl) (front pre post _ K (fun z hz => hp z (by simp [hz])) k1)
    exact swap1 (hp x (by simp)) h'

/-! ### The check -/
def depB (M : Array Nat) (i j : Nat) : Bool := (M.getD i 0).testBit j
def consB (M : Array Nat) (ops : Array Oper) : Bool :=
  (List.range ops.size).all fun i => (List.range ops.size).all fun j => !depB M i j || match ops[i]? with
    | some o => o.after.any fun e => Region.binds .any e && decide (e.on < i) && (e.on == j || depB M e.on j)
    | none => false
def edgesB (ops : Array Oper) : Bool :=
  (List.range ops.size).all fun i => match ops[i]? with | some o => o.after.all fun e => !Region.binds .any e || decide (e.on < i) | none => true
def orderB (c : Cfg) (M : Array Nat) (ops : Array Oper) : Bool :=
  (List.range ops.size).all fun i => (List.range i).all fun j => depB M i j || match ops[i]?, ops[j]? with
    | some oi, some oj => mayB c ops.toList oj oi
    | _, _ => true
def drawB (c : Cfg) (ops : Array Oper) : Bool := let M := Region.before ops; consB M ops && edgesB ops && orderB c M ops

section
variable {P : Program} {c : Cfg} {w0 : World} {N F0 : Nat → Prop} {ρ0 : Nat → Value} {own0 : Nat → Loc} {n : Nat}

def Closed (ops : Array Oper) (listed : Array Bool) : Prop := ∀ (i : Nat) o, ops[i]? = some o → listed.getD i false = true → ∀ e ∈ o.after, Region.binds .any e = true → listed.getD e.on false = true

theorem dep_listed {M : Array Nat} {ops : Array Oper} (hc : consB M ops = true) {listed : Array Bool} (hcl : Closed ops listed) : ∀ (i j : Nat) (o : Oper), ops[i]? = some o → j < ops.size → depB M i j = true → (∀ e ∈ o.after, Region.binds .any e = true → listed.getD e.on false = true) → listed.getD j false = true := by
  intro i
  induction i using Nat.strongRecOn with
  | _ i ih =>
    intro j o ho hj hd hall
    have hlt : i < ops.size := (Array.getElem?_eq_some_iff.1 ho).1
    have h1 := List.all_eq_true.1 (List.all_eq_true.1 hc i (List.mem_range.2 hlt)) j (List.mem_range.2 hj)
    rw [hd, ho] at h1
    simp only [Bool.not_true, Bool.false_or] at h1
    obtain ⟨e, he, h2⟩ := Array.any_eq_true'.1 h1
    simp only [Bool.and_eq_true, Bool.or_eq_true, decide_eq_true_eq, beq_iff_eq] at h2
    obtain ⟨⟨hb, hlt'⟩, h3⟩ := h2
    have hl := hall e he hb
    rcases h3 with h3 | h3
    · rw [← h3]; exact hl
    · have hel : e.on < ops.size := by omega
      have hoe : ops[e.on]? = some ops[e.on] := by simp [hel]
      exact ih e.on hlt' j _ hoe hj h3 (hcl e.on _ hoe hl)

def pendI (ops : Array Oper) (listed : Array Bool) : List Nat := (List.range ops.size).filter fun i => !listed.getD i false
def pend (ops : Array Oper) (listed : Array Bool) : List Oper := (pendI ops listed).filterMap fun i => ops[i]?

theorem wpAny_run {ops : Array Oper} (hN : ∀ b, w0.heap.size ≤ b → N b) (hd : ∀ (i : Nat) o d, ops[i]? = some o → o.dst = some d → d < n) (hB : drawB c ops = true) {K : St → Prop} {Q : Exit → Act → World → Prop} (hK : ∀ σ' a' w', K σ' → Good P c w0 N F0 ρ0 own0 n σ' a' w' → Q .normal a' w') :
    ∀ (fuel : Nat) (listed : Array Bool) (σ : St) (a : Act) (w : World), listed.size = ops.size → (pendI ops listed).length ≤ fuel → Closed ops listed → Good P c w0 N F0 ρ0 own0 n σ a w → arun c ops.toList (pend ops listed) σ K → wpAny P .any ops Q fuel listed a w := by
  unfold drawB at hB
  simp only [Bool.and_eq_true] at hB
  obtain ⟨⟨hcons, hedge⟩, hord⟩ := hB
  -- nothing pending where nothing is ready
  have hnone : ∀ listed : Array Bool, listed.size = ops.size → Region.ready .any ops listed = [] → pendI ops listed = [] := by
    intro listed hs hr
    rcases hp : pendI ops listed with _ | ⟨i, r⟩
    · rfl
    · exfalso
      have hsorted : (pendI ops listed).Pairwise (· < ·) := List.Pairwise.filter _ List.pairwise_lt_range
      have hi : i ∈ pendI ops listed := by rw [hp]; simp
      unfold pendI at hi
      obtain ⟨hi1, hi2⟩ := List.mem_filter.1 hi
      have hlt := List.mem_range.1 hi1
      have hun : listed.getD i false = false := by simpa using hi2
      have : i ∈ Region.ready .any ops listed := by
        refine mem_ready.2 ⟨by simp [hs, hlt] at hun ⊢; exact hun, ops[i], by simp [hlt], fun e he hb => ?_⟩
        have h1 := List.all_eq_true.1 hedge i hi1
        have ho : ops[i]? = some ops[i] := by simp [hlt]
        rw [ho] at h1
        have h2 := Array.all_eq_true_iff_forall_mem.1 h1 e he
        rw [hb] at h2
        simp only [Bool.not_true, Bool.false_or, decide_eq_true_eq] at h2
        cases hl : listed.getD e.on false with
        | true => rfl
        | false =>
          exfalso
          have hin : e.on ∈ pendI ops listed := List.mem_filter.2 ⟨List.mem_range.2 (by omega), by rw [hl]; rfl⟩
          rw [hp] at hin hsorted
          rcases List.mem_cons.1 hin with h | h
          · omega
          · have := (List.pairwise_cons.1 hsorted).1 _ h
            omega
      rw [hr] at this
      cases this
  intro fuel
  induction fuel with
  | zero =>
    intro listed σ a w hs hf hcl hg h
    have hp : pendI ops listed = [] := List.eq_nil_of_length_eq_zero (by omega)
    refine ⟨?_, ?_⟩
    · cases hr : Region.ready .any ops listed with
      | nil => rfl
      | cons i r =>
        exfalso
        have hi : i ∈ Region.ready .any ops listed := by rw [hr]; simp
        obtain ⟨h0, o, ho, _⟩ := mem_ready.1 hi
        have hlt := (Array.getElem?_eq_some_iff.1 ho).1
        have : i ∈ pendI ops listed := List.mem_filter.2 ⟨List.mem_range.2 hlt, by simp [hs, hlt] at h0 ⊢; exact h0⟩
        rw [hp] at this
        cases this
    · unfold pend at h
      rw [hp] at h
      exact hK σ a w h hg
  | succ fuel ih =>
    intro listed σ a w hs hf hcl hg h
    refine ⟨fun hr => ?_, fun i hi => ?_⟩
    · unfold pend at h
      rw [hnone listed hs hr] at h
      exact hK σ a w h hg
    · obtain ⟨h0, o, ho, hall⟩ := mem_ready.1 hi
      have hlt := (Array.getElem?_eq_some_iff.1 ho).1
      have hun : listed.getD i false = false := by simp [hs, hlt] at h0 ⊢; exact h0
      have hsorted : (pendI ops listed).Pairwise (· < ·) := List.Pairwise.filter _ List.pairwise_lt_range
      have hin : i ∈ pendI ops listed := List.mem_filter.2 ⟨List.mem_range.2 hlt, by rw [hun]; rfl⟩
      obtain ⟨pre, post, hsplit⟩ := List.append_of_mem hin
      rw [hsplit] at hsorted
      have hpre : ∀ j ∈ pre, j < i ∧ listed.getD j false = false := fun j hj => by
        refine ⟨(List.pairwise_append.1 hsorted).2.2 j hj i (by simp), ?_⟩
        have : j ∈ pendI ops listed := by rw [hsplit]; simp [hj]
        simpa using (List.mem_filter.1 this).2
      have hpost : ∀ j ∈ post, i < j := fun j hj => (List.pairwise_cons.1 (List.pairwise_append.1 hsorted).2.1).1 j hj
      have hp : pend ops listed = (pre.filterMap fun i => ops[i]?) ++ o :: (post.filterMap fun i => ops[i]?) := by
        unfold pend
        rw [hsplit, List.filterMap_append, List.filterMap_cons, ho]
      -- the pending ones behind it
      have hset : pendI ops (listed.setIfInBounds i true) = pre ++ post := by
        have hnin : i ∉ pre ++ post := fun hm => by
          rcases List.mem_append.1 hm with h | h
          · have := (hpre i h).1; omega
          · have := hpost i h; omega
        have : pendI ops (listed.setIfInBounds i true) = (pendI ops listed).filter (fun j => !(j == i)) := by
          unfold pendI
          rw [List.filter_filter]
          apply List.filter_congr
          intro j hj
          by_cases hji : j = i
          · subst hji
            simp [hs, hlt]
          · rw [getD_set_ne false (Ne.symm hji)]
            simp [hji]
        rw [this, hsplit, List.filter_append, List.filter_cons_of_neg (by simp)]
        have hall' : ∀ j ∈ pre ++ post, (!(j == i)) = true := fun j hj => by
          simp; rintro rfl; exact hnin hj
        rw [List.filter_eq_self.2 fun j hj => hall' j (by simp [hj]), List.filter_eq_self.2 fun j hj => hall' j (by simp [hj])]
      have hrun : run1 c ops.toList o σ (fun σ' => arun c ops.toList (pend ops (listed.setIfInBounds i true)) σ' K) := by
        have hp2 : pend ops (listed.setIfInBounds i true) = (pre.filterMap fun i => ops[i]?) ++ (post.filterMap fun i => ops[i]?) := by
          unfold pend; rw [hset, List.filterMap_append]
        rw [hp2]
        rw [hp] at h
        refine front _ _ σ K (fun x hx => ?_) h
        obtain ⟨j, hj, hoj⟩ := List.mem_filterMap.1 hx
        obtain ⟨hji, hjun⟩ := hpre j hj
        have h1 := List.all_eq_true.1 (List.all_eq_true.1 hord i (List.mem_range.2 hlt)) j (List.mem_range.2 hji)
        simp only [Bool.or_eq_true] at h1
        rcases h1 with h1 | h1
        · have := dep_listed hcons hcl i j o ho (by omega) h1 hall
          rw [hjun] at this; cases this
        · rw [ho, hoj] at h1
          exact h1
      refine step1 ho hN (fun d hdd => hd i o d ho hdd) hg hrun fun σ' a' w' h1 h2 => ?_
      refine ih _ σ' a' w' (by simp [hs]) ?_ ?_ h2 h1
      · have hl : (pendI ops listed).length = pre.length + (post.length + 1) := by rw [hsplit]; simp
        rw [hset, List.length_append]; omega
      · intro j oj hoj hl e he hb
        by_cases hji : i = j
        · subst hji
          have : oj = o := Option.some.inj (hoj.symm.trans ho)
          subst this
          exact getD_set_true (hall e he hb)
        · rw [getD_set_ne false hji] at hl
          exact getD_set_true (hcl j oj hoj hl e he hb)

theorem fm_range {ops : Array Oper} : ∀ (m s : Nat), s + m = ops.size → (List.range' s m).filterMap (fun i => ops[i]?) = ops.toList.drop s
  | 0, s, h => by
    rw [List.drop_eq_nil_of_le (by simp; omega)]
    rfl
  | m + 1, s, h => by
    have hlt : s < ops.size := by omega
    rw [List.range'_succ, List.drop_eq_getElem_cons (by simpa using hlt), List.filterMap_cons]
    have : ops[s]? = some ops[s] := by simp [hlt]
    rw [this, fm_range m (s + 1) (by omega)]
    simp

/-- A REGION, whether it draws its order or not. -/
theorem wp_region_run {id : Nat} {ops : Array Oper} {draw : Bool} (hm : P.follows .mixedOrders = true) (hN : ∀ b, w0.heap.size ≤ b → N b) (hd : ∀ (i : Nat) o d, ops[i]? = some o → o.dst = some d → d < n) (hB : draw = true → drawB c ops = true)
    {K : St → Prop} {Q : Exit → Act → World → Prop} (hK : ∀ σ' a' w', K σ' → Good P c w0 N F0 ρ0 own0 n σ' a' w' → Q .normal a' w') {σ : St} {a : Act} {w : World} (hg : Good P c w0 N F0 ρ0 own0 n σ a w) (h : arun c ops.toList ops.toList σ K) :
    (Code.region id ops draw).wp P Q a w := by
  cases draw with
  | false =>
    refine wp_region ?_
    rw [List.range_eq_range']
    exact wp_text hN hd hK ops.size 0 σ a w (by omega) hg h
  | true =>
    refine wp_region_any hm ?_
    have hp0 : pendI ops (Array.replicate ops.size false) = List.range ops.size := by
      unfold pendI
      apply List.filter_eq_self.2
      intro i hi
      have := List.mem_range.1 hi
      simp [this]
    refine wpAny_run hN hd (hB rfl) hK ops.size _ σ a _ (by simp) (by rw [hp0]; simp) (fun i o ho hl e he hb => ?_) hg.drew ?_
    · exfalso
      have hlt := (Array.getElem?_eq_some_iff.1 ho).1
      simp [hlt] at hl
    · have : pend ops (Array.replicate ops.size false) = ops.toList := by
        unfold pend
        rw [hp0]
        rw [List.range_eq_range', fm_range ops.size 0 (by omega), List.drop_zero]
      rw [this]
      exact h
end
end Go.Proofs.Ytfjmlaciogmndaa
