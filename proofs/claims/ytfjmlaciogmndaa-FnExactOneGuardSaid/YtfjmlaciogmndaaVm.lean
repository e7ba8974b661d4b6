/- The abstract run in use: only live slots are kept at the end of a region; a rule for loops whose head is known. -/
import Derived.Test.YtfjmlaciogmndaaVl
namespace Go.Proofs.Ytfjmlaciogmndaa
open Go.RowKit

def lookL : List (Nat × List Nat) → Nat → List Nat
  | [], _ => []
  | (k, x) :: r, n => bif Nat.beq n k then x else lookL r n
/-- The slots and the own places that live on behind each region; the own rows that are data from then on. -/
structure Kp (l p z m : List (Nat × List Nat)) : Prop where
  ok : True
theorem kp (l p : List (Nat × List Nat)) : Kp l p [] [] := ⟨trivial⟩
theorem kpz (l p z m : List (Nat × List Nat)) : Kp l p z m := ⟨trivial⟩
def keepF : List Nat → Sl → Sl → Sl
  | [], _, g => g
  | t :: ts, s, g => upd (keepF ts s g) t (s t)
/-- Rows of the listed places are data from now on. -/
def Cell.fz (pl : List Nat) (w : Nat → Loc) (x : Cell) (K : Cell → Prop) : Prop := match x with
  | .d x => K (.d x)
  | .own l ver => match memB pl l with
    | true => match w l with
      | ⟨ver', .row _ k xs⟩ => ver = ver' ∧ K (.d (.sl none k xs))
      | _ => False
    | false => K (.own l ver)
  | .ptr l ver i j => match memB pl l with
    | true => match w l with
      | ⟨ver', .box _ cs⟩ => match dOf cs with
        | some ds => (ver = ver' ∧ i = 0 ∧ j = 0) ∧ K (.d (.ptr ds))
        | none => False
      | _ => False
    | false => K (.ptr l ver i j)
  | .sub l ver i j => K (.sub l ver i j)
def fzCs (pl : List Nat) (w : Nat → Loc) : List Cell → (List Cell → Prop) → Prop
  | [], K => K []
  | x :: xs, K => x.fz pl w fun x => fzCs pl w xs fun xs => K (x :: xs)
def AV.fz (pl : List Nat) (w : Nat → Loc) (x : AV) (K : AV → Prop) : Prop := match x with
  | .one c => c.fz pl w fun c => K (.one c)
  | .agg cs => fzCs pl w cs fun cs => K (.agg cs)
  | .tup xs => K (.tup xs)
  | .junk => K .junk
def Own.fz (pl : List Nat) (w : Nat → Loc) (x : Own) (K : Own → Prop) : Prop := match x with
  | .dead => K .dead
  | .box ty cs => fzCs pl w cs fun cs => K (.box ty cs)
  | .row ty k xs => K (.row ty k xs)
  | .tail ty k xs => K (.tail ty k xs)
  | .deep ty ety e xs g => K (.deep ty ety e xs g)
theorem Cell.fz_ex {pl : List Nat} {w : Nat → Loc} {x : Cell} {K : Cell → Prop} (h : x.fz pl w K) : ∃ y, FrzC (memB pl) w x y ∧ K y := by
  cases x with
  | own l ver =>
    unfold Cell.fz at h
    simp only at h
    split at h
    · rename_i hm
      split at h
      · rename_i ver' ty k xs hw
        obtain ⟨rfl, h⟩ := h
        exact ⟨_, .inr (.inl ⟨l, ver, ty, k, xs, rfl, hm, hw, rfl⟩), h⟩
      · exact h.elim
    · exact ⟨_, .inl rfl, h⟩
  | ptr l ver i j =>
    unfold Cell.fz at h
    simp only at h
    split at h
    · rename_i hm
      split at h
      · rename_i ver' ty cs hw
        split at h
        · rename_i ds hds
          obtain ⟨⟨rfl, rfl, rfl⟩, h⟩ := h
          exact ⟨_, .inr (.inr ⟨l, ver, ty, cs, ds, rfl, hm, hw, hds, rfl⟩), h⟩
        · exact h.elim
      · exact h.elim
    · exact ⟨_, .inl rfl, h⟩
  | _ => exact ⟨_, .inl rfl, h⟩
theorem fzCs_ex {pl : List Nat} {w : Nat → Loc} : ∀ {xs : List Cell} {K : List Cell → Prop}, fzCs pl w xs K → ∃ ys, RelL (FrzC (memB pl) w) xs ys ∧ K ys
  | [], _, h => ⟨[], trivial, h⟩
  | _ :: _, _, h => by
    obtain ⟨y, h1, h2⟩ := Cell.fz_ex h
    obtain ⟨ys, h3, h4⟩ := fzCs_ex h2
    exact ⟨_ :: _, ⟨h1, h3⟩, h4⟩
theorem AV.fz_ex {pl : List Nat} {w : Nat → Loc} {x : AV} {K : AV → Prop} (h : x.fz pl w K) : ∃ y, RelA (FrzC (memB pl) w) x y ∧ K y := by
  cases x with
  | one c =>
    have h : c.fz pl w (fun c => K (.one c)) := h
    obtain ⟨y, h1, h2⟩ := Cell.fz_ex h
    exact ⟨.one y, h1, h2⟩
  | agg cs =>
    have h : fzCs pl w cs (fun cs => K (.agg cs)) := h
    obtain ⟨y, h1, h2⟩ := fzCs_ex h
    exact ⟨.agg y, h1, h2⟩
  | tup xs => exact ⟨_, rfl, h⟩
  | junk => exact ⟨_, rfl, h⟩
theorem Own.fz_ex {pl : List Nat} {w : Nat → Loc} {x : Own} {K : Own → Prop} (h : x.fz pl w K) : ∃ y, RelO (FrzC (memB pl) w) x y ∧ K y := by
  cases x with
  | box ty cs =>
    have h : fzCs pl w cs (fun cs => K (.box ty cs)) := h
    obtain ⟨y, h1, h2⟩ := fzCs_ex h
    exact ⟨.box ty y, ⟨rfl, h1⟩, h2⟩
  | _ => exact ⟨_, rfl, h⟩
theorem relL_refl {R : Cell → Cell → Prop} (h : ∀ x, R x x) : ∀ (xs : List Cell), RelL R xs xs
  | [] => trivial
  | x :: xs => ⟨h x, relL_refl h xs⟩
theorem relA_refl {R : Cell → Cell → Prop} (h : ∀ x, R x x) (x : AV) : RelA R x x := by cases x <;> first | exact h _ | exact relL_refl h _ | rfl
theorem relO_refl {R : Cell → Cell → Prop} (h : ∀ x, R x x) (x : Own) : RelO R x x := by cases x <;> first | exact ⟨rfl, relL_refl h _⟩ | rfl
def fcKeep (pl : List Nat) (w : Ow) : List Nat → Sl → Sl → (Sl → Prop) → Prop
  | [], _, g, k => k g
  | t :: ts, s, g, k => (s t).fz pl w fun v => v.fc fun v => fcKeep pl w ts s g fun f => k (upd f t v)
theorem fcKeep_ex {pl : List Nat} {w : Ow} {s : Sl} : ∀ {ts : List Nat} {k : Sl → Prop}, fcKeep pl w ts s s k → ∃ s', (∀ t, RelA (FrzC (memB pl) w) (s t) (s' t)) ∧ k s'
  | [], _, h => ⟨s, fun t => relA_refl (fun _ => .inl rfl) _, h⟩
  | t :: ts, k, h => by
    unfold fcKeep at h
    obtain ⟨v, h1, h2⟩ := AV.fz_ex h
    rw [AV.fc_eq] at h2
    obtain ⟨s', h3, h4⟩ := fcKeep_ex h2
    refine ⟨_, fun t' => ?_, h4⟩
    rw [upd_get]
    by_cases e : t' = t
    · subst e; rw [if_pos rfl]; exact h1
    · rw [if_neg e]; exact h3 t'
theorem keep_self : ∀ (ts : List Nat) (s : Sl), keepF ts s s = s
  | [], _ => rfl
  | t :: ts, s => by unfold keepF; rw [keep_self ts s, upd_self rfl]

def keepW : List Nat → Ow → Ow → Ow
  | [], _, g => g
  | t :: ts, s, g => upd (keepW ts s g) t (s t)
def fcKeepW (pl : List Nat) : List Nat → Ow → Ow → (Ow → Prop) → Prop
  | [], _, g, k => k g
  | p :: ps, w, g, k => match memB pl p with
    | true => fcKeepW pl ps w g k
    | false => match w p with | ⟨v, ob⟩ => ob.fz pl w fun ob => ob.fc fun ob => fcKeepW pl ps w g fun f => k (upd f p ⟨v, ob⟩)
theorem keepW_self : ∀ (ts : List Nat) (s : Ow), keepW ts s s = s
  | [], _ => rfl
  | t :: ts, s => by unfold keepW; rw [keepW_self ts s, upd_self rfl]

section
variable {c : Cfg} {Q : Exit → Sl → Ow → Prop} {s : Sl} {w : Ow} {x y : Code}
theorem arun'_mono {ops l : List Oper} {K K' : Sl → Ow → Prop} (h : ∀ s w, K s w → K' s w) (hr : arun' c ops l s w K) : arun' c ops l s w K' :=
  (arun'_iff (K := fun σ => K' σ.slots σ.own)).2 (arun_mono (K := fun σ => K σ.slots σ.own) (fun _ => h _ _) ((arun'_iff (K := fun σ => K σ.slots σ.own)).1 hr))
/-- The places that do not live on are dead. -/
def deadW (g : Ow) : Ow := fun n => match g n with | ⟨v, _⟩ => ⟨v, .dead⟩
def memK : List Nat → Nat → Bool
  | [], _ => true
  | p :: ps, n => bif Nat.beq n p then false else memK ps n
theorem keepW_kill : ∀ (ts : List Nat) (w : Ow), keepW ts w (deadW w) = killW (memK ts) w
  | [], w => by
    funext n
    show deadW w n = _
    unfold deadW killW memK
    cases w n; rfl
  | t :: ts, w => by
    unfold keepW
    rw [keepW_kill ts w]
    funext n
    have e1 : memK (t :: ts) n = bif Nat.beq n t then false else memK ts n := rfl
    unfold killW
    rw [upd_get, e1]
    by_cases h : n = t
    · subst h; simp
    · rw [if_neg h]
      have : Nat.beq n t = false := by
        cases hb : Nat.beq n t
        · rfl
        · exact absurd (Nat.eq_of_beq_eq_true hb) h
      rw [this]; rfl
theorem fcKeepW_ex {pl : List Nat} {w : Ow} : ∀ {ts : List Nat} {k : Ow → Prop}, fcKeepW pl ts w (deadW w) k → ∃ w', (∀ n, (w' n).ver = (w n).ver ∧ ((w' n).obj = .dead ∨ (memB pl n = false ∧ RelO (FrzC (memB pl) w) (w n).obj (w' n).obj))) ∧ k w'
  | [], _, h => ⟨deadW w, fun n => ⟨by unfold deadW; cases w n; rfl, .inl (by unfold deadW; cases w n; rfl)⟩, h⟩
  | p :: ps, k, h => by
    unfold fcKeepW at h
    split at h
    · exact fcKeepW_ex h
    · rename_i hm
      rcases hw : w p with ⟨v, ob⟩
      rw [hw] at h
      simp only at h
      obtain ⟨y, h1, h2⟩ := Own.fz_ex h
      rw [Own.fc_eq] at h2
      obtain ⟨w', h3, h4⟩ := fcKeepW_ex h2
      refine ⟨_, fun n => ?_, h4⟩
      rw [upd_get]
      by_cases e : n = p
      · subst e; rw [if_pos rfl, hw]; exact ⟨rfl, .inr ⟨hm, h1⟩⟩
      · rw [if_neg e]; exact h3 n
/-- A row goes from place l to place l'. -/
def Cell.mv (l v l' v' : Nat) (x : Cell) (K : Cell → Prop) : Prop := match x with
  | .d x => K (.d x)
  | .own a ver => match Nat.beq a l with
    | true => ver = v ∧ K (.own l' v')
    | false => K (.own a ver)
  | .ptr a ver i j => K (.ptr a ver i j)
  | .sub a ver i j => K (.sub a ver i j)
def mvCs (l v l' v' : Nat) : List Cell → (List Cell → Prop) → Prop
  | [], K => K []
  | x :: xs, K => x.mv l v l' v' fun x => mvCs l v l' v' xs fun xs => K (x :: xs)
def AV.mv (l v l' v' : Nat) (x : AV) (K : AV → Prop) : Prop := match x with
  | .one c => c.mv l v l' v' fun c => K (.one c)
  | .agg cs => mvCs l v l' v' cs fun cs => K (.agg cs)
  | .tup xs => K (.tup xs)
  | .junk => K .junk
def Own.mv (l v l' v' : Nat) (x : Own) (K : Own → Prop) : Prop := match x with
  | .dead => K .dead
  | .box ty cs => mvCs l v l' v' cs fun cs => K (.box ty cs)
  | .row ty k xs => K (.row ty k xs)
  | .tail ty k xs => K (.tail ty k xs)
  | .deep ty ety e xs g => K (.deep ty ety e xs g)
theorem Cell.mv_ex {l v l' v' : Nat} {x : Cell} {K : Cell → Prop} (h : x.mv l v l' v' K) : ∃ y, MvC l v l' v' x y ∧ K y := by
  cases x with
  | own a ver =>
    unfold Cell.mv at h
    simp only at h
    split at h
    · rename_i hm
      obtain ⟨rfl, h⟩ := h
      have := Nat.eq_of_beq_eq_true hm
      subst this
      exact ⟨_, .inr ⟨rfl, rfl⟩, h⟩
    · exact ⟨_, .inl rfl, h⟩
  | _ => exact ⟨_, .inl rfl, h⟩
theorem mvCs_ex {l v l' v' : Nat} : ∀ {xs : List Cell} {K : List Cell → Prop}, mvCs l v l' v' xs K → ∃ ys, RelL (MvC l v l' v') xs ys ∧ K ys
  | [], _, h => ⟨[], trivial, h⟩
  | _ :: _, _, h => by
    obtain ⟨y, h1, h2⟩ := Cell.mv_ex h
    obtain ⟨ys, h3, h4⟩ := mvCs_ex h2
    exact ⟨_ :: _, ⟨h1, h3⟩, h4⟩
theorem AV.mv_ex {l v l' v' : Nat} {x : AV} {K : AV → Prop} (h : x.mv l v l' v' K) : ∃ y, RelA (MvC l v l' v') x y ∧ K y := by
  cases x with
  | one c =>
    have h : c.mv l v l' v' (fun c => K (.one c)) := h
    obtain ⟨y, h1, h2⟩ := Cell.mv_ex h
    exact ⟨.one y, h1, h2⟩
  | agg cs =>
    have h : mvCs l v l' v' cs (fun cs => K (.agg cs)) := h
    obtain ⟨y, h1, h2⟩ := mvCs_ex h
    exact ⟨.agg y, h1, h2⟩
  | tup xs => exact ⟨_, rfl, h⟩
  | junk => exact ⟨_, rfl, h⟩
theorem Own.mv_ex {l v l' v' : Nat} {x : Own} {K : Own → Prop} (h : x.mv l v l' v' K) : ∃ y, RelO (MvC l v l' v') x y ∧ K y := by
  cases x with
  | box ty cs =>
    have h : mvCs l v l' v' cs (fun cs => K (.box ty cs)) := h
    obtain ⟨y, h1, h2⟩ := mvCs_ex h
    exact ⟨.box ty y, ⟨rfl, h1⟩, h2⟩
  | _ => exact ⟨_, rfl, h⟩
def mvS (l v l' v' : Nat) : List Nat → Sl → (Sl → Prop) → Prop
  | [], s, k => k s
  | t :: ts, s, k => (s t).mv l v l' v' fun x => mvS l v l' v' ts s fun f => k (upd f t x)
def mvW (l v l' v' : Nat) : List Nat → Ow → (Ow → Prop) → Prop
  | [], w, k => k w
  | p :: ps, w, k => match w p with | ⟨u, ob⟩ => ob.mv l v l' v' fun ob => mvW l v l' v' ps w fun f => k (upd f p ⟨u, ob⟩)
theorem mvS_ex {l v l' v' : Nat} {s : Sl} : ∀ {ts : List Nat} {k : Sl → Prop}, mvS l v l' v' ts s k → ∃ s', (∀ t, RelA (MvC l v l' v') (s t) (s' t)) ∧ k s'
  | [], _, h => ⟨s, fun t => relA_refl (fun _ => .inl rfl) _, h⟩
  | t :: ts, k, h => by
    unfold mvS at h
    obtain ⟨x, h1, h2⟩ := AV.mv_ex h
    obtain ⟨s', h3, h4⟩ := mvS_ex h2
    refine ⟨_, fun t' => ?_, h4⟩
    rw [upd_get]
    by_cases e : t' = t
    · subst e; rw [if_pos rfl]; exact h1
    · rw [if_neg e]; exact h3 t'
theorem mvW_ex {l v l' v' : Nat} {w : Ow} : ∀ {ts : List Nat} {k : Ow → Prop}, mvW l v l' v' ts w k → ∃ w', (∀ n, (w' n).ver = (w n).ver ∧ RelO (MvC l v l' v') (w n).obj (w' n).obj) ∧ k w'
  | [], _, h => ⟨w, fun n => ⟨rfl, relO_refl (fun _ => .inl rfl) _⟩, h⟩
  | p :: ps, k, h => by
    unfold mvW at h
    rcases hw : w p with ⟨u, ob⟩
    rw [hw] at h
    simp only at h
    obtain ⟨y, h1, h2⟩ := Own.mv_ex h
    obtain ⟨w', h3, h4⟩ := mvW_ex h2
    refine ⟨_, fun n => ?_, h4⟩
    rw [upd_get]
    by_cases e : n = p
    · subst e; rw [if_pos rfl, hw]; exact ⟨rfl, h1⟩
    · rw [if_neg e]; exact h3 n
def mvK (m ts ps : List Nat) (s : Sl) (w : Ow) (K : Sl → Ow → Prop) : Prop := match m with
  | [l, l'] => match w l with
    | ⟨v, .row ty k xs⟩ => match w l' with
      | ⟨v', _⟩ => Nat.beq l l' = false ∧ mvS l v l' (v' + 1) ts s fun s' => mvW l v l' (v' + 1) ps w fun w' => K s' (upd (upd w' l ⟨v, .dead⟩) l' ⟨v' + 1, .row ty k xs⟩)
    | _ => False
  | _ => K s w
theorem mvK_ex {m ts ps : List Nat} {s : Sl} {w : Ow} {K : Sl → Ow → Prop} (h : mvK m ts ps s w K) : ∃ s' w', Mv ⟨s, w⟩ ⟨s', w'⟩ ∧ K s' w' := by
  unfold mvK at h
  split at h
  · rename_i l l'
    split at h
    · rename_i v ty k xs hl
      rcases hl' : w l' with ⟨v', ob'⟩
      rw [hl'] at h
      simp only at h
      obtain ⟨hne, h⟩ := h
      have hne : l ≠ l' := fun e => by subst e; simp at hne
      obtain ⟨s', h1, h2⟩ := mvS_ex h
      obtain ⟨w', h3, h4⟩ := mvW_ex h2
      have e1 : (w l).ver = v := by rw [hl]
      have e2 : (w l').ver = v' := by rw [hl']
      subst e1
      subst e2
      refine ⟨s', _, .inr ⟨l, l', ty, k, xs, hne, congrArg Loc.obj hl, h1, upd_eq _ _ _, (upd_ne _ _ hne).trans (upd_eq _ _ _), fun n hn hn' => ?_⟩, h4⟩
      have e : upd (upd w' l ⟨(w l).ver, .dead⟩) l' ⟨(w l').ver + 1, .row ty k xs⟩ n = w' n := by rw [upd_ne _ _ hn', upd_ne _ _ hn]
      show (upd (upd w' l ⟨(w l).ver, .dead⟩) l' ⟨(w l').ver + 1, .row ty k xs⟩ n).ver = _ ∧ RelO _ _ (upd (upd w' l ⟨(w l).ver, .dead⟩) l' ⟨(w l').ver + 1, .row ty k xs⟩ n).obj
      rw [e]
      exact h3 n
    · exact h.elim
  · exact ⟨s, w, .inl rfl, h⟩
/-- Ahead of a region own rows and boxes may become data: listed under the region's number + 100000. -/
def startF (z l p : List (Nat × List Nat)) (i : Nat) (s : Sl) (w : Ow) (k : Sl → Ow → Prop) : Prop := match lookL z (i + 100000) with
  | [] => k s w
  | q :: qs => fcKeep (q :: qs) w (lookL l (i + 100000)) s s fun s0 => fcKeepW (q :: qs) (lookL p (i + 100000)) w (deadW w) fun w0 => k s0 w0
theorem startF_ex {z l p : List (Nat × List Nat)} {i : Nat} {k : Sl → Ow → Prop} (h : startF z l p i s w k) : ∃ s0 w0, Wks c ⟨s, w⟩ ⟨s0, w0⟩ ∧ k s0 w0 := by
  unfold startF at h
  split at h
  · exact ⟨s, w, .refl _, h⟩
  · rename_i q qs _
    obtain ⟨s', h1, h2⟩ := fcKeep_ex h
    obtain ⟨w', h3, h4⟩ := fcKeepW_ex h2
    exact ⟨s', w', .step ⟨memB (q :: qs), h1, h3⟩ (.refl _), h4⟩
theorem st_regionG {l p z m : List (Nat × List Nat)} (_ : Kp l p z m) {i : Nat} {ops : Array Oper} {d : Bool}
    (h : ∀ K : Sl → Ow → Prop, (∀ s' w', Q .normal s' w' → K s' w') → startF z l p i s w fun s w => arun' c ops.toList ops.toList s w fun s' w' => ∀ g : Sl, ∀ o : Ow, (fcKeep (lookL z i) w' (lookL l i) s' g fun s'' => fcKeepW (lookL z i) (lookL p i) w' (deadW o) fun w'' => mvK (lookL m i) (lookL l i) (lookL p i) s'' w'' fun s3 w3 => K s3 w3)) : awp' c (.region i ops d) Q s w := by
  obtain ⟨s0, w0, hk0, h⟩ := startF_ex (c := c) (h _ fun _ _ h => h)
  exact ⟨s0, w0, hk0, arun'_mono (fun s' w' h2 => by
    have := h2 s' w'
    generalize lookL z i = pl at this
    have h5 := this
    obtain ⟨s'', h6, h7⟩ := fcKeep_ex h5
    obtain ⟨w'', h8, h9⟩ := fcKeepW_ex h7
    obtain ⟨s3, w3, h10, h11⟩ := mvK_ex h9
    exact ⟨⟨s'', w''⟩, s3, w3, ⟨memB pl, h6, h8⟩, h10, h11⟩) h⟩
/-- Ahead of a loop own rows may become data. -/
theorem st_frz {pl ts ps : List Nat} (h : fcKeep pl w ts s s fun s' => fcKeepW pl ps w (deadW w) fun w' => awp' c (.loop x) Q s' w') : awp' c (.loop x) Q s w := by
  obtain ⟨s', h1, h2⟩ := fcKeep_ex h
  obtain ⟨w', h3, h4⟩ := fcKeepW_ex h2
  obtain ⟨σ0, I, μ, hk, hI, hr⟩ := h4
  exact ⟨σ0, I, μ, .step ⟨memB pl, h1, h3⟩ hk, hI, hr⟩
/-- Ahead of a loop a row that is not empty may be looked at as the tail of one. -/
def tlW (w : Ow) (l : Nat) (K : Ow → Prop) : Prop := match w l with
  | ⟨v, .row ty k xs⟩ => xs ≠ [] ∧ K (upd w l ⟨v, .tail ty k xs⟩)
  | _ => False
theorem st_tl (l : Nat) (h : tlW w l fun w' => awp' c (.loop x) Q s w') : awp' c (.loop x) Q s w := by
  unfold tlW at h
  split at h
  · rename_i v ty k xs hl
    obtain ⟨hne, σ0, I, μ, hk, hI, hr⟩ := h
    exact ⟨σ0, I, μ, .tail ⟨l, ty, k, xs, hne, by simp only [hl], by simp only [hl]⟩ hk, hI, hr⟩
  · exact h.elim
end

/-! ### Loops -/
def HasW (w : Ow) : List (Nat × Loc) → Prop
  | [] => True
  | (p, x) :: r => w p = x ∧ HasW w r
def updW (f : Ow) : List (Nat × Loc) → Ow
  | [] => f
  | (p, x) :: r => upd (updW f r) p x
theorem hasW_eq {f : Ow} : ∀ {l : List (Nat × Loc)}, HasW f l → f = updW f l
  | [], _ => rfl
  | (t, v) :: r, h => by
    show f = upd (updW f r) t v
    rw [← hasW_eq h.2, upd_self h.1]
def fcR : List Nat → Sl → (List (Nat × AV) → Prop) → Prop
  | [], _, k => k []
  | t :: ts, s, k => (s t).fc fun v => fcR ts s fun r => k ((t, v) :: r)
theorem fcR_eq : ∀ (ts : List Nat) (s : Sl) (k : List (Nat × AV) → Prop), fcR ts s k = k (ts.map fun t => (t, s t))
  | [], _, _ => rfl
  | t :: ts, s, k => by unfold fcR; rw [AV.fc_eq, fcR_eq ts]; rfl
def fcW : List Nat → Ow → (List (Nat × Loc) → Prop) → Prop
  | [], _, k => k []
  | p :: ps, w, k => match w p with | ⟨v, ob⟩ => ob.fc fun ob => fcW ps w fun r => k ((p, ⟨v, ob⟩) :: r)
theorem fcW_eq : ∀ (ps : List Nat) (w : Ow) (k : List (Nat × Loc) → Prop), fcW ps w k = k (ps.map fun p => (p, w p))
  | [], _, _ => rfl
  | p :: ps, w, k => by unfold fcW; simp only [Own.fc_eq, fcW_eq ps]; rfl
theorem hasS_map (s : Sl) : ∀ ts : List Nat, HasS s (ts.map fun t => (t, s t))
  | [] => trivial
  | _ :: ts => ⟨rfl, hasS_map s ts⟩
theorem hasW_map (w : Ow) : ∀ ts : List Nat, HasW w (ts.map fun t => (t, w t))
  | [] => trivial
  | _ :: ts => ⟨rfl, hasW_map w ts⟩
theorem hasW_app {w : Ow} : ∀ {l r : List (Nat × Loc)}, HasW w l → HasW w r → HasW w (l ++ r)
  | [], _, _, h => h
  | _ :: _, _, h, k => ⟨h.1, hasW_app h.2 k⟩
theorem hasS_app {s : Sl} : ∀ {l r : List (Nat × AV)}, HasS s l → HasS s r → HasS s (l ++ r)
  | [], _, _, h => h
  | _ :: _, _, h, k => ⟨h.1, hasS_app h.2 k⟩

/-- What stands at a loop's head: the slots that turn, the own places that turn, the slots and own places that stay. -/
structure Head (s : Sl) (w : Ow) (L : List (Nat × AV)) (O : List (Nat × Nat × Bool × Own)) (R : List (Nat × AV)) (RW : List (Nat × Loc)) : Prop where
  l : HasS s L
  o : HasR ⟨s, w⟩ O
  r : HasS s R
  rw : HasW w RW
def verF (w : Ow) (p : Nat) : Nat := match w p with | ⟨v, _⟩ => v
def loopGQ {α : Type} (L : α → (Nat → Nat) → List (Nat × AV)) (O : α → (Nat → Nat) → List (Nat × Nat × Bool × Own)) (P : α → Prop) (m : α → Nat) (R : List (Nat × AV)) (V : α → (Nat → Nat) → List (Nat × Loc)) (RW : List (Nat × Loc)) (a : α) (Q : Exit → Sl → Ow → Prop) (e : Exit) (s : Sl) (w : Ow) : Prop := match e with
  | .normal => ∃ a', m a' < m a ∧ P a' ∧ Head s w (L a' (verF w)) (O a' (verF w)) R (V a' (verF w) ++ RW)
  | e => Q e s w
section
variable {c : Cfg} {Q : Exit → Sl → Ow → Prop} {s : Sl} {w : Ow} {x y : Code} {α : Type} {L : α → (Nat → Nat) → List (Nat × AV)} {O : α → (Nat → Nat) → List (Nat × Nat × Bool × Own)} {V : α → (Nat → Nat) → List (Nat × Loc)} {P : α → Prop} {m : α → Nat} {R : List (Nat × AV)} {RW : List (Nat × Loc)} {a : α}
theorem gq_n (h : ∃ a', m a' < m a ∧ P a' ∧ Head s w (L a' (verF w)) (O a' (verF w)) R (V a' (verF w) ++ RW)) : loopGQ L O P m R V RW a Q .normal s w := h
theorem gq_r (h : Q .ret s w) : loopGQ L O P m R V RW a Q .ret s w := h
theorem gq_e {i : Nat} (h : Q (.exit i) s w) : loopGQ L O P m R V RW a Q (.exit i) s w := h
theorem awp'_loopG (L : α → (Nat → Nat) → List (Nat × AV)) (O : α → (Nat → Nat) → List (Nat × Nat × Bool × Own)) (V : α → (Nat → Nat) → List (Nat × Loc)) (P : α → Prop) (m : α → Nat) (ts ps : List Nat) (a0 : α)
    (h : fcR ts s fun R => fcW ps w fun RW => (P a0 ∧ HasS s (L a0 (verF w)) ∧ HasR ⟨s, w⟩ (O a0 (verF w)) ∧ HasW w (V a0 (verF w))) ∧
      ∀ a g o v, P a → awp' c x (loopGQ L O P m R V RW a Q) (updR v (updS g (L a v ++ R)) (O a v)) (updO v (updW o (V a v ++ RW)) (O a v))) : awp' c (.loop x) Q s w := by
  rw [fcR_eq, fcW_eq] at h
  obtain ⟨⟨h1, h2, h3, h3'⟩, h⟩ := h
  refine awp'_loop (fun a σ => P a ∧ Head σ.slots σ.own (L a (verF σ.own)) (O a (verF σ.own)) (ts.map fun t => (t, s t)) (V a (verF σ.own) ++ ps.map fun p => (p, w p))) m a0 ⟨h1, h2, h3, hasS_map s ts, hasW_app h3' (hasW_map w ps)⟩ ?_
  rintro a s' w' ⟨hP, hl, ho, hr, hw⟩
  have h4 := h a s' w' (verF w') hP
  have e1 : updS s' (L a (verF w') ++ ts.map fun t => (t, s t)) = s' := (hasS_eq (hasS_app hl hr)).symm
  have e2 : updW w' (V a (verF w') ++ ps.map fun p => (p, w p)) = w' := (hasW_eq hw).symm
  have e3 : updR (verF w') s' (O a (verF w')) = s' := updR_self ho
  have e4 : updO (verF w') w' (O a (verF w')) = w' := updO_self ho
  rw [e1, e2, e3, e4] at h4
  refine cast (congrArg (fun q => awp' c x q s' w') ?_) h4
  funext e s'' w''
  cases e <;> rfl
end
theorem vInt_s {n : Nat} (h : n ≤ 4611686018427387904) : vInt (IntKind.i64.wrap ((n : Int) + 1)) = vInt ((n + 1 : Nat) : Int) := congrArg vInt (W_nat h)
end Go.Proofs.Ytfjmlaciogmndaa
