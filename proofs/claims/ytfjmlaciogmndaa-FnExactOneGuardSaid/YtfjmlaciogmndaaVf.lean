/- The operations that write are sound. -/
import Derived.Test.YtfjmlaciogmndaaVe
import Derived.Maps.AppendAt
namespace Go.Proofs.Ytfjmlaciogmndaa
open Go.RowKit
set_option linter.unusedVariables false
set_option linter.unusedSimpArgs false
section
variable {P : Program} {c : Cfg} {w : World} {N F : Nat → Prop} {ρ : Nat → Value} {own : Nat → Loc} {slots : Nat → AV} {a : Act} {Q : Exit → Act → World → Prop} {o : Oper} {p : Prop} {y : AV}

/-- The state behind an operation that may have written. -/
structure Next' (P : Program) (c : Cfg) (N F : Nat → Prop) (ρ : Nat → Value) (own : Nat → Loc) (a : Act) (w : World) (σ' : St) (a' : Act) (w' : World) (F' : Nat → Prop) (ρ' : Nat → Value) : Prop where
  here : Here P c N F' ρ' σ'.own σ'.slots a' w'
  ext : Ext w F w' F'
  fr : ∀ b, b < w.heap.size → ¬ N b → w'.heap[b]? = w.heap[b]?
  new : ∀ b, F' b → F b ∨ N b
  size : a'.tmps.size = a.tmps.size
  defers : a'.defers = a.defers
  mono : ∀ l, (own l).ver ≤ (σ'.own l).ver
  keep : ∀ l, (σ'.own l).ver = (own l).ver → ρ' (pl l) = ρ (pl l) ∧ ∀ i, ρ' (inn l i) = ρ (inn l i)

def Eff (P : Program) (c : Cfg) (N F : Nat → Prop) (ρ : Nat → Value) (own : Nat → Loc) (o : Oper) (a : Act) (w : World) (K : St → Prop) (Q : Exit → Act → World → Prop) : Prop :=
  o.wp P a w (fun a' w' => ∃ σ' F' ρ', K σ' ∧ Next' P c N F ρ own a w σ' a' w' F' ρ') Q

theorem put_get {a : Act} {d : Nat} {u : Value} (hd : d < a.tmps.size) (t : Nat) : (a.put (some d) u).tmps.getD t undef = if t = d then u else a.tmps.getD t undef := by
  simp only [Act.put]
  by_cases h : t = d
  · subst h
    rw [if_pos rfl]
    simp [hd]
  · rw [if_neg h]
    simp [Array.getElem?_setIfInBounds_ne (Ne.symm h)]

theorem upd_get {α : Type} (f : Nat → α) (d : Nat) (x : α) (t : Nat) : upd f d x t = if t = d then x else f t := by
  by_cases h : t = d
  · subst h; rw [upd_eq, if_pos rfl]
  · rw [upd_ne _ _ h, if_neg h]

/-- The slots behind a step that writes slot d. -/
theorem ver_two (own : Nat → Loc) (d : Nat) (x : Own) (l : Nat) : (own l).ver ≤ (upd own d ⟨(own d).ver + 1, x⟩ l).ver := by
  rw [upd_get]
  split
  · rename_i h; subst h; exact Nat.le_succ _
  · exact Nat.le_refl _
theorem inn_two (ρ : Nat → Value) (d : Nat) (s : Value) : ∀ l', l' ≠ d → ∀ i, upd ρ (pl d) s (inn l' i) = ρ (inn l' i) := fun _ _ _ => upd_ne _ _ (inn_pl _ _ _)
theorem keep_two (own : Nat → Loc) (ρ : Nat → Value) (d : Nat) (x : Own) (s : Value) (l : Nat) (h : (upd own d ⟨(own d).ver + 1, x⟩ l).ver = (own l).ver) : upd ρ (pl d) s (pl l) = ρ (pl l) ∧ ∀ i, upd ρ (pl d) s (inn l i) = ρ (inn l i) := by
  refine ⟨?_, fun i => upd_ne _ _ (inn_pl _ _ _)⟩
  rw [upd_get] at h
  split at h
  · rename_i e; subst e; simp at h
  · rename_i e; exact upd_ne _ _ (pl_ne e)
theorem ver_same (own : Nat → Loc) (d : Nat) (x : Own) (l : Nat) : (own l).ver ≤ (upd own d ⟨(own d).ver, x⟩ l).ver := by
  rw [upd_get]
  split
  · rename_i h; subst h; exact Nat.le_refl _
  · exact Nat.le_refl _
theorem slots_put {C' : Cell → Value → Prop} {C : Cell → Value → Prop} (hC : ∀ z v, C z v → C' z v) (hs : ∀ t, AVG C (slots t) (a.tmps.getD t undef)) {d : Nat} (hd : d < a.tmps.size) {x : AV} {u : Value} (hx : AVG C' x u) (t : Nat) :
    AVG C' (upd slots d x t) ((a.put (some d) u).tmps.getD t undef) := by
  rw [upd_get, put_get hd]
  split
  · exact hx
  · exact AVG.imp hC (hs t)

theorem put_size (a : Act) (d : Option Nat) (u : Value) : (a.put d u).tmps.size = a.tmps.size := by cases d <;> simp [Act.put]
theorem put_defers' (a : Act) (d : Option Nat) (u : Value) : (a.put d u).defers = a.defers := by cases d <;> rfl

/-- Cells behind a change of place l: its number is higher, or its address is the same. -/
theorem CellC.step {w' : World} {F' : Nat → Prop} {ρ' : Nat → Value} {own' : Nat → Loc} {l : Nat} (hext : Ext w F w' F') (ho : ∀ l', l' ≠ l → own' l' = own l' ∧ ρ' (pl l') = ρ (pl l'))
    (hl : (own l).ver < (own' l).ver ∨ ((own' l).ver = (own l).ver ∧ ρ' (pl l) = ρ (pl l) ∧ ((∃ ty cs cs', (own l).obj = .box ty cs ∧ (own' l).obj = .box ty cs') ∨ (∃ ty k xs xs', (own l).obj = .row ty k xs ∧ (own' l).obj = .row ty k xs') ∨
      ∃ ty ety e xs xs' g, (own l).obj = .deep ty ety e xs g ∧ (own' l).obj = .deep ty ety e xs' g ∧ xs'.length = xs.length ∧ ∀ i, g i = false → ρ' (inn l i) = ρ (inn l i))))
    {z : Cell} {v : Value} (h : CellC w F ρ own z v) (hi : ∀ l', l' ≠ l → ∀ i, ρ' (inn l' i) = ρ (inn l' i) := by first | exact fun _ _ _ => rfl | exact inn_two _ _ _) : CellC w' F' ρ' own' z v := by
  cases z with
  | d x => exact DC.mono hext h
  | own m ver =>
    by_cases hm : m = l
    · subst hm
      rcases hl with hl | ⟨h1, h2, h3⟩
      · exact ⟨h.1, by have := h.2.1; omega, fun hv => by have := h.2.1; omega⟩
      · refine ⟨h.1, by rw [h1]; exact h.2.1, fun hv => ?_⟩
        rw [h2]
        refine h.2.2 ⟨h1 ▸ hv.1, ?_⟩
        rcases h3 with ⟨ty, cs, cs', e1, e2⟩ | ⟨ty, k, xs, xs', e1, e2⟩ | ⟨ty, ety, e, xs, xs', g, e1, e2, -, -⟩
        · have e3 := hv.2
          rw [e2] at e3; exact e3.elim
        · rw [e1]; trivial
        · rw [e1]; trivial
    · obtain ⟨e1, e2⟩ := ho m hm
      refine ⟨h.1, by rw [e1]; exact h.2.1, fun hv => ?_⟩
      rw [e1] at hv
      rw [e2]
      exact h.2.2 hv
  | ptr m ver i j =>
    by_cases hm : m = l
    · subst hm
      rcases hl with hl | ⟨h1, h2, h3⟩
      · exact ⟨h.1, by have := h.2.1; omega, fun hv => by have := h.2.1; omega⟩
      · refine ⟨h.1, by rw [h1]; exact h.2.1, fun hv => ?_⟩
        have hh := h.2.2 (h1 ▸ hv)
        rcases h3 with ⟨ty, cs, cs', e1, e2⟩ | ⟨ty, k, xs, xs', e1, e2⟩ | ⟨ty, ety, e, xs, xs', g, e1, e2, e3, e4⟩
        · rw [e1] at hh; rw [e2, h2]; exact hh
        · rw [e1] at hh; rw [e2, h2]; exact hh
        · rw [e1] at hh; rw [e2]
          cases j with
          | zero => simp only at hh ⊢; rw [h2]; exact hh
          | succ j =>
            simp only at hh ⊢
            intro x hx hg
            rw [e4 i hg]
            have hlt := (List.getElem?_eq_some_iff.1 hx).1
            exact hh _ (List.getElem?_eq_getElem (by omega)) hg
    · obtain ⟨e1, e2⟩ := ho m hm
      refine ⟨h.1, by rw [e1]; exact h.2.1, fun hv => ?_⟩
      rw [e1] at hv ⊢
      rw [e2]
      have hh := h.2.2 hv
      revert hh
      generalize (own m).obj = q
      intro hh
      cases q with
      | deep ty ety e xs g =>
        cases j with
        | zero => exact hh
        | succ j =>
          simp only at hh ⊢
          intro x hx hg
          rw [hi m hm]
          exact hh x hx hg
      | _ => exact hh
  | sub m ver off n =>
    by_cases hm : m = l
    · subst hm
      rcases hl with hl | ⟨h1, h2, h3⟩
      · exact ⟨h.1, by have := h.2.1; omega, fun hv => by have := h.2.1; omega⟩
      · refine ⟨h.1, by rw [h1]; exact h.2.1, fun hv => ⟨fun ty0 k0 xs0 hob => ?_, fun ty0 ety0 e0 xs0 g0 x0 hob hx hg => ?_⟩⟩
        · have hh := (h.2.2 (h1 ▸ hv)).1
          rw [h2]
          rcases h3 with ⟨ty, cs, cs', e1, e2⟩ | ⟨ty, k, xs, xs', e1, e2⟩ | ⟨ty, ety, e, xs, xs', g, e1, e2, e3, e4⟩
          · rw [e2] at hob; cases hob
          · rw [e2] at hob
            injection hob with q1 q2 q3
            subst q1 q2
            exact hh _ _ xs e1
          · rw [e2] at hob; cases hob
        · have hh := (h.2.2 (h1 ▸ hv)).2
          rcases h3 with ⟨ty, cs, cs', e1, e2⟩ | ⟨ty, k, xs, xs', e1, e2⟩ | ⟨ty, ety, e, xs, xs', g, e1, e2, e3, e4⟩
          · rw [e2] at hob; cases hob
          · rw [e2] at hob; cases hob
          · rw [e2] at hob
            injection hob with q1 q2 q3 q4 q5
            subst q1 q2 q3
            have q4 := eq_of_heq q4
            subst q4 q5
            rw [e4 _ hg]
            have hlt := (List.getElem?_eq_some_iff.1 hx).1
            exact hh _ _ _ xs g _ e1 (List.getElem?_eq_getElem (by omega)) hg
    · obtain ⟨e1, e2⟩ := ho m hm
      refine ⟨h.1, by rw [e1]; exact h.2.1, fun hv => ?_⟩
      rw [e1] at hv ⊢
      rw [e2, hi m hm]
      exact h.2.2 hv

theorem OwnOk.step {w' : World} {F' : Nat → Prop} {ρ' : Nat → Value} {own' : Nat → Loc} {l : Nat} {ob : Own} (hext : Ext w F w' F') (hC : ∀ z v, CellC w F ρ own z v → CellC w' F' ρ' own' z v) (hρ : ρ' (pl l) = ρ (pl l)) (hi : ∀ i, ρ' (inn l i) = ρ (inn l i))
    (hb : ∀ b, holds ρ l ob b → b < w.heap.size → N b → ¬ F b → w'.heap[b]? = w.heap[b]? ∧ ¬ F' b) (h : OwnOk w N F ρ own l ob) : OwnOk w' N F' ρ' own' l ob := by
  cases ob with
  | dead => trivial
  | box ty cs =>
    obtain ⟨b, vs, h1, hh, hc, h2, hN, hn⟩ := h
    obtain ⟨k1, k2⟩ := hb b (show blk (ρ (pl l)) = some b by rw [h1]; rfl) (lt_of_block hh) hN hn
    exact ⟨b, vs, hρ.trans h1, k1.trans hh, CellsG.imp (fun z v _ => hC z v) hc, h2, hN, k2⟩
  | row ty k xs =>
    obtain ⟨vs, hw, hc, hn⟩ := h
    refine ⟨vs, ⟨hw.1, ?_⟩, hc.mono hext, fun b hbl => ?_⟩
    · rw [hρ]
      rcases hw.2 with h | ⟨g, cap, cur, hv, hg, hh, r⟩
      · exact .inl h
      · have hbl : blk (ρ (pl l)) = some g := by rw [hv]; rfl
        exact .inr ⟨g, cap, cur, hv, hg, (hb g hbl (lt_of_block hh) (hn g hbl).1 (hn g hbl).2).1.trans hh, r⟩
    · rw [hρ] at hbl
      have hlt := (hw.lt b (blk_own hw hbl)).2
      exact ⟨(hn b hbl).1, (hb b hbl hlt (hn b hbl).1 (hn b hbl).2).2⟩
  | tail ty k xs =>
    obtain ⟨vs, hw, hc, hn⟩ := h
    exact ⟨vs, by rw [hρ]; exact hw.of fun b hbl => (hb b hbl (hw.lt hbl) (hn b hbl).1 (hn b hbl).2).1, hc.mono hext, fun b hbl => by rw [hρ] at hbl; exact ⟨(hn b hbl).1, (hb b hbl (hw.lt hbl) (hn b hbl).1 (hn b hbl).2).2⟩⟩
  | deep ty ety e xs gn =>
    obtain ⟨vs, hw, h1, hn, hin⟩ := h
    have hlt : ∀ b, blk (ρ (pl l)) = some b → b < w.heap.size := fun b hbl => (hw.lt b (blk_own hw hbl)).2
    refine ⟨vs, ⟨hw.1, ?_⟩, h1, fun b hbl => ?_, fun i x hx hgi => ?_⟩
    · rw [hρ]
      rcases hw.2 with h | ⟨g, cap, cur, hv, hg, hh, r⟩
      · exact .inl h
      · have hbl : blk (ρ (pl l)) = some g := by rw [hv]; rfl
        exact .inr ⟨g, cap, cur, hv, hg, (hb g (.inl hbl) (lt_of_block hh) (hn g hbl).1 (hn g hbl).2).1.trans hh, r⟩
    · rw [hρ] at hbl
      exact ⟨(hn b hbl).1, (hb b (.inl hbl) (hlt b hbl) (hn b hbl).1 (hn b hbl).2).2⟩
    · obtain ⟨q1, ⟨us, hu, hr⟩, q3⟩ := hin i x hx hgi
      rw [hi, hρ]
      refine ⟨q1, ⟨us, ⟨hu.1, ?_⟩, hr.mono hext⟩, fun b hbl => ⟨(q3 b hbl).1, (hb b (.inr ⟨i, x, hx, hgi, hbl⟩) (hu.lt b (blk_own hu hbl)).2 (q3 b hbl).1 (q3 b hbl).2.1).2, (q3 b hbl).2.2.1, fun j y hj hy hgj => by rw [hi]; exact (q3 b hbl).2.2.2 j y hj hy hgj⟩⟩
      rcases hu.2 with h | ⟨g, cap, cur, hv, hg, hh, r⟩
      · exact .inl h
      · have hbl : blk (ρ (inn l i)) = some g := by rw [hv]; rfl
        exact .inr ⟨g, cap, cur, hv, hg, (hb g (.inr ⟨i, x, hx, hgi, hbl⟩) (lt_of_block hh) (q3 g hbl).1 (q3 g hbl).2.1).1.trans hh, r⟩

/-- The own memory behind a change of place l. -/
theorem Mem.step (m : Mem w N F ρ own) {w' : World} {F' : Nat → Prop} {ρ' : Nat → Value} {own' : Nat → Loc} {l : Nat} (hext : Ext w F w' F') (ho : ∀ l', l' ≠ l → own' l' = own l' ∧ ρ' (pl l') = ρ (pl l')) (hi : ∀ l', l' ≠ l → ∀ i, ρ' (inn l' i) = ρ (inn l' i))
    (hC : ∀ z v, CellC w F ρ own z v → CellC w' F' ρ' own' z v)
    (hb : ∀ l' b, l' ≠ l → (own l').obj.live = true → holds ρ l' (own l').obj b → b < w.heap.size → ¬ F b → w'.heap[b]? = w.heap[b]? ∧ ¬ F' b)
    (hl : OwnOk w' N F' ρ' own' l (own' l).obj) (hap : ∀ l' b, l' ≠ l → (own l').obj.live = true → holds ρ' l (own' l).obj b → holds ρ l' (own l').obj b → False)
    (hfin : ∀ b, F' b → b < w'.heap.size) : Mem w' N F' ρ' own' := by
  refine ⟨fun l' => ?_, fun l1 l2 b hne h1 h2 e1 e2 => ?_, hfin⟩
  · by_cases h : l' = l
    · subst h; exact hl
    · obtain ⟨e1, e2⟩ := ho l' h
      rw [e1]
      cases hob : (own l').obj with
      | dead => trivial
      | _ =>
        have := m.ok l'
        rw [hob] at this
        exact this.step hext hC e2 (hi l' h) fun b h1 h2 h3 h4 => hb l' b h (by rw [hob]; rfl) (by rw [hob]; exact h1) h2 h4
  · by_cases h1' : l1 = l
    · subst h1'
      obtain ⟨g1, g2⟩ := ho l2 (Ne.symm hne)
      rw [g1] at h2 e2
      have e2 := holds_step g2 (hi l2 (Ne.symm hne)) e2
      exact hap l2 b (Ne.symm hne) h2 e1 e2
    · obtain ⟨g1, g2⟩ := ho l1 h1'
      rw [g1] at h1 e1
      have e1 := holds_step g2 (hi l1 h1') e1
      by_cases h2' : l2 = l
      · subst h2'
        exact hap l1 b hne h1 e2 e1
      · obtain ⟨k1, k2⟩ := ho l2 h2'
        rw [k1] at h2 e2
        have e2 := holds_step k2 (hi l2 h2') e2
        exact m.apart l1 l2 b hne h1 h2 e1 e2

theorem upd_two {α β : Type} (f : Nat → α) (g : Nat → β) (d : Nat) (x : α) (z : β) : ∀ l', l' ≠ d → upd f d x l' = f l' ∧ upd g (pl d) z (pl l') = g (pl l') := fun _ h => ⟨upd_ne _ _ h, upd_ne _ _ (pl_ne h)⟩

theorem blk_lt (m : Mem w N F ρ own) {l b : Nat} (hl : (own l).obj.live = true) (hb : holds ρ l (own l).obj b) : b < w.heap.size ∧ N b ∧ ¬ F b := by
  have h := m.ok l
  cases ho : (own l).obj with
  | dead => rw [ho] at hl; cases hl
  | box ty cs =>
    rw [ho] at h hb
    obtain ⟨b', vs, h1, hh, _, _, hN, hn⟩ := h
    simp only [holds] at hb
    rw [h1] at hb
    simp only [blk, Option.some.injEq] at hb
    subst hb
    exact ⟨lt_of_block hh, hN, hn⟩
  | row ty k xs =>
    rw [ho] at h hb
    obtain ⟨vs, hw, _, hn⟩ := h
    exact ⟨(hw.lt b (blk_own hw hb)).2, hn b hb⟩
  | tail ty k xs =>
    rw [ho] at h hb
    obtain ⟨vs, hw, _, hn⟩ := h
    exact ⟨hw.lt hb, hn b hb⟩
  | deep ty ety e xs gn =>
    rw [ho] at h hb
    obtain ⟨vs, hw, _, hn, hin⟩ := h
    rcases hb with hb | ⟨i, x, hx, hgi, hb⟩
    · exact ⟨(hw.lt b (blk_own hw hb)).2, hn b hb⟩
    · obtain ⟨q1, ⟨us, hu, hr⟩, q3⟩ := hin i x hx hgi
      exact ⟨(hu.lt b (blk_own hu hb)).2, (q3 b hb).1, (q3 b hb).2.1⟩

/-- A new block of the call's own, at place d. -/
theorem eff_new (H : Here P c N F ρ own slots a w) (hN : ∀ b, w.heap.size ≤ b → N b) {d : Nat} (hd : d < a.tmps.size) {ob : Obj} {u : Value} {x : AV} {own1 : Own} {s : Value} (hdst : o.dst = some d)
    (hrun : (execOp a.eval o).run P w = .ok (.value u) (w.alloc ob)) (hs : blk s = some w.heap.size)
    (hnd : ∀ (ρ' : Nat → Value) b, holds ρ' d own1 b → blk (ρ' (pl d)) = some b)
    (hx : ∀ ρ' own', ρ' (pl d) = s → own' d = ⟨(own d).ver + 1, own1⟩ → AVC (w.alloc ob) F ρ' own' x u)
    (hok : ∀ ρ' own', ρ' (pl d) = s → (∀ z v, CellC w F ρ own z v → CellC (w.alloc ob) F ρ' own' z v) → N w.heap.size → ¬ F w.heap.size → OwnOk (w.alloc ob) N F ρ' own' d own1)
    {K : St → Prop} (hK : K ⟨upd slots d x, upd own d ⟨(own d).ver + 1, own1⟩⟩) : Eff P c N F ρ own o a w K Q := by
  unfold Eff Oper.wp
  rw [hrun]
  have hbel : Below w.heap.size w (w.alloc ob) := (Below.refl _ _).alloc (Nat.le_refl _) _
  have hext : Ext w F (w.alloc ob) F := ⟨hbel.os, hbel.tape, hbel.output, hbel.size, fun b h => hbel.block b (H.mem.fin b h), fun _ h => h⟩
  have hC : ∀ z v, CellC w F ρ own z v → CellC (w.alloc ob) F (upd ρ (pl d) s) (upd own d ⟨(own d).ver + 1, own1⟩) z v := fun z v h =>
    h.step (l := d) hext (upd_two own ρ d _ s) (.inl (by rw [upd_eq]; exact Nat.lt_succ_self _))
  refine ⟨_, F, upd ρ (pl d) s, hK, ⟨H.cfg, ?_, ?_⟩, hext, fun b h _ => hbel.block b h, fun b h => .inl h, ?_, ?_, ver_two own d _, keep_two own ρ d _ s⟩
  · rw [hdst]
    exact slots_put hC H.sl hd (hx _ _ (upd_eq _ _ _) (upd_eq _ _ _))
  · refine H.mem.step (l := d) hext (upd_two own ρ d _ s) (inn_two ρ d s) hC (fun l' b hne hl' hb hlt hn => ⟨hbel.block b hlt, hn⟩) ?_ (fun l' b hne hl' e1 e2 => ?_) (fun b h => Nat.lt_of_lt_of_le (H.mem.fin b h) hbel.size)
    · show OwnOk _ N F _ _ d (upd own d _ d).obj
      rw [upd_eq]
      exact hok _ _ (upd_eq _ _ _) hC (hN _ (Nat.le_refl _)) (fun h => Nat.lt_irrefl _ (H.mem.fin _ h))
    · have e1 : holds (upd ρ (pl d) s) d (upd own d ⟨(own d).ver + 1, own1⟩ d).obj b := e1
      rw [upd_eq] at e1
      have e1 := hnd _ _ e1
      rw [upd_eq, hs] at e1
      injection e1 with e1
      have := (blk_lt H.mem hl' e2).1
      omega
  · rw [hdst]; exact put_size _ _ _
  · rw [hdst]; exact put_defers' _ _ _

theorem e_alloc (H : Here P c N F ρ own slots a w) (hN : ∀ b, w.heap.size ≤ b → N b) {d : Nat} (hd : d < a.tmps.size) (hdst : o.dst = some d) {t : TypeId} (ho : o.op = .alloc t) {i : TI} (hty : c.ty t = some i)
    {K : St → Prop} (hK : K ⟨upd slots d (.one (.ptr d ((own d).ver + 1) 0 0)), upd own d ⟨(own d).ver + 1, .box t (i.zero.map ZK.c)⟩⟩) : Eff P c N F ρ own o a w K Q := by
  obtain ⟨zv, hz, hzc⟩ := zero_ok (H.cfg.ty _ _ hty).2.1
  refine eff_new H hN hd hdst (ob := .cells zv.cells t) (u := .pointer (some ⟨w.heap.size, 0, none⟩)) (s := .pointer (some ⟨w.heap.size, 0, none⟩)) ?_ rfl (by intro _ _ h; exact h) (fun ρ' own' h1 h2 => ?_) (fun ρ' own' h1 hC h3 h4 => ?_) hK
  · simp [execOp, ho, Instr.alloc, hz, newVar, newRow]
  · exact ⟨rfl, by rw [h2]; exact Nat.le_refl _, fun _ => by rw [h2, h1]; exact ⟨w.heap.size, rfl, rfl, rfl⟩⟩
  · exact ⟨w.heap.size, zv.cells, h1, heap_new w _, by rw [hzc]; exact zk_ok _, by rw [hzc]; exact one_of_cells (zk_ok (w := w) (F := F) (ρ := ρ) (own := own) i.zero), h3, h4⟩

theorem e_box (H : Here P c N F ρ own slots a w) (hN : ∀ b, w.heap.size ≤ b → N b) {d : Nat} (hd : d < a.tmps.size) (hdst : o.dst = some d) {t : TypeId} {x : Operand} (ho : o.op = .box t x) {cs : List Cell} (hcs : cells (evA slots x) = some cs)
    {K : St → Prop} (hK : K ⟨upd slots d (.one (.ptr d ((own d).ver + 1) 0 0)), upd own d ⟨(own d).ver + 1, .box t cs⟩⟩) : Eff P c N F ρ own o a w K Q := by
  have hc := cells_ok hcs (H.ev x)
  refine eff_new H hN hd hdst (ob := .cells (a.eval x).cells t) (u := .pointer (some ⟨w.heap.size, 0, none⟩)) (s := .pointer (some ⟨w.heap.size, 0, none⟩)) ?_ rfl (by intro _ _ h; exact h) (fun ρ' own' h1 h2 => ?_) (fun ρ' own' h1 hC h3 h4 => ?_) hK
  · simp [execOp, ho, Instr.box, newVar, newRow]
  · exact ⟨rfl, by rw [h2]; exact Nat.le_refl _, fun _ => by rw [h2, h1]; exact ⟨w.heap.size, rfl, rfl, rfl⟩⟩
  · exact ⟨w.heap.size, (a.eval x).cells, h1, heap_new w _, CellsG.imp (fun z v _ => hC z v) hc, one_of_cells hc, h3, h4⟩

theorem e_buildSlice (H : Here P c N F ρ own slots a w) (hN : ∀ b, w.heap.size ≤ b → N b) {d : Nat} (hd : d < a.tmps.size) (hdst : o.dst = some d) {t : TypeId} {len : Nat} {parts : Array (Nat × Operand)} (ho : o.op = .buildSlice t len parts)
    {sz : Nat} {z0 : List ZK} {e : TypeId} {k : ElK} {b : Nat} {z : List ZK} {xs : List k.T} (hty : c.ty t = some ⟨sz, z0, .slice e k b z⟩) (hlen : len ≤ 1024) (h : elems k (z.map ZK.c) (parts.toList.map fun p => (p.1, evA slots p.2)) len = some xs)
    {K : St → Prop} (hK : K ⟨upd slots d (.one (.own d ((own d).ver + 1))), upd own d ⟨(own d).ver + 1, .row e k xs⟩⟩) : Eff P c N F ρ own o a w K Q := by
  obtain ⟨hl, row, hrs, hrun, hrow⟩ := buildSlice_ok H hty hlen h
  have hk4 := elk_size k
  refine eff_new H hN hd hdst (ob := .cells row e) (u := .slice (some ⟨w.heap.size, 0, none⟩) len len) (s := .slice (some ⟨w.heap.size, 0, none⟩) len len) ?_ rfl (by intro _ _ h; exact h) (fun ρ' own' h1 h2 => ?_) (fun ρ' own' h1 hC h3 h4 => ?_) hK
  · simp only [execOp, ho, Sem.run_bind, hrun, Result.andThen_ok, Sem.run_pure]
  · exact ⟨rfl, by rw [h2]; exact Nat.le_refl _, fun _ => h1.symm⟩
  · have hext : Ext w F (w.alloc (.cells row e)) F := ⟨rfl, rfl, rfl, by simp, fun b h => Below.heap_alloc w _ b (H.mem.fin b h), fun _ h => h⟩
    refine ⟨row.toList, ?_, hrow.mono hext, fun b hb => ?_⟩
    · rw [h1, hl]
      exact World.ownsRow_lit w row len (Nat.zero_le _) (by unfold maxLen; omega) hrs
    · rw [h1] at hb
      simp only [blk, Option.some.injEq] at hb
      subst hb
      exact ⟨h3, h4⟩

theorem replicate_row {k : ElK} {z : List ZK} {x : k.T} {vs : List Value} (n : Nat) (hd : k.dec (z.map ZK.c) = some x) (hc : CellsC w F ρ own (z.map ZK.c) vs) : RowC w F k (List.replicate n x) (List.replicate n vs).flatten := by
  obtain ⟨hl, he⟩ := dec_ok hd hc
  have hlen : ∀ l ∈ List.replicate n vs, l.length = k.size := fun l h => by rw [List.eq_of_mem_replicate h, hl]
  refine ⟨fun v hv => ?_, fun i y hy => ?_⟩
  · obtain ⟨us, hus, hv'⟩ := List.mem_flatten.1 hv
    rw [List.eq_of_mem_replicate hus] at hv'
    exact one_of_cells hc v hv'
  · have hi : i < n := by have := (List.getElem?_eq_some_iff.1 hy).1; simpa using this
    have := List.eq_of_mem_replicate (List.mem_of_getElem? hy)
    subst this
    refine ⟨vs, hl, he, fun j u hj => ?_⟩
    have hjl := (List.getElem?_eq_some_iff.1 hj).1
    rw [flat_get _ i j hlen (by omega), List.getElem?_replicate, if_pos hi]
    exact hj

theorem e_makeSlice (H : Here P c N F ρ own slots a w) (hN : ∀ b, w.heap.size ≤ b → N b) {d : Nat} (hd : d < a.tmps.size) (hdst : o.dst = some d) {t : TypeId} {len cap : Operand} (ho : o.op = .makeSlice t len cap)
    {sz : Nat} {z0 : List ZK} {e : TypeId} {k : ElK} {b : Nat} {z : List ZK} {x : k.T} {n : Int} (hty : c.ty t = some ⟨sz, z0, .slice e k b z⟩) (hn : evA slots len = .one (.d (.int .i64 n))) (hn' : evA slots cap = .one (.d (.int .i64 n)))
    (hz : k.dec (z.map ZK.c) = some x) (h0 : 0 ≤ n) (h1 : n ≤ 1073741824) (hb : b ≤ 4096)
    {K : St → Prop} (hK : K ⟨upd slots d (.one (.own d ((own d).ver + 1))), upd own d ⟨(own d).ver + 1, .row e k (List.replicate n.toNat x)⟩⟩) : Eff P c N F ρ own o a w K Q := by
  obtain ⟨hu, hes, _, zv, hzr, hzc, hzs, ie, hie, hiz, hisz, hib⟩ := elem_size (H.cfg.ty _ _ hty)
  have hk4 := elk_size k
  obtain ⟨m, rfl⟩ := Int.eq_ofNat_of_zero_le h0
  have hbn : ie.bytes * m ≤ 281474976710656 := by
    have : ie.bytes * m ≤ 4096 * 1073741824 := Nat.mul_le_mul (by omega) (by omega)
    omega
  have hbi : (ie.bytes : Int) * (m : Int) ≤ 281474976710656 := by
    have h : ((ie.bytes * m : Nat) : Int) ≤ 281474976710656 := by omega
    rwa [Int.natCast_mul] at h
  have hr := run_make (P := P) w t e ie zv hu hie hiz .i64 .i64 m m (by omega) (Int.le_refl _) hbi (by omega)
  simp only [Int.toNat_natCast] at hr
  rw [hisz] at hr
  have hmade : (madeCells zv.cells (m * k.size)).toList = (List.replicate m zv.cells.toList).flatten := by
    rw [← hzs]; exact zeros_row zv.cells m (by omega)
  refine eff_new H hN hd hdst (ob := .cells (madeCells zv.cells (m * k.size)) e) (u := .slice (some ⟨w.heap.size, 0, none⟩) m m) (s := .slice (some ⟨w.heap.size, 0, none⟩) m m) ?_ rfl (by intro _ _ h; exact h) (fun ρ' own' h1 h2 => ?_) (fun ρ' own' h1 hC h3 h4 => ?_) hK
  · simp only [execOp, ho, H.int hn, H.int hn', Sem.run_bind, hr, Result.andThen_ok, Sem.run_pure]
  · exact ⟨rfl, by rw [h2]; exact Nat.le_refl _, fun _ => h1.symm⟩
  · have hext : Ext w F (w.alloc (.cells (madeCells zv.cells (m * k.size)) e)) F := ⟨rfl, rfl, rfl, by simp, fun b h => Below.heap_alloc w _ b (H.mem.fin b h), fun _ h => h⟩
    refine ⟨(madeCells zv.cells (m * k.size)).toList, ?_, ?_, fun b hb => ?_⟩
    · rw [h1]
      simp only [Int.toNat_natCast, List.length_replicate]
      exact World.ownsRow_lit w _ m (Nat.zero_le _) (by unfold maxLen; omega) (size_madeCells _ _)
    · rw [hmade]
      exact (replicate_row (ρ := ρ) (own := own) m hz (by rw [hzc]; exact zk_ok z)).mono hext
    · rw [h1] at hb
      simp only [blk, Option.some.injEq] at hb
      subst hb
      exact ⟨h3, h4⟩

/-- A store of cells into a block of the call's own. -/
theorem run_storeCells_own (b : Nat) (ty : TypeId) : ∀ (us : List Value) (j i : Nat) (cur : Array Value) (w : World), w.heap[b]? = some (.cells cur ty (0, 0)) → j + i + us.length ≤ cur.size → (∀ u ∈ us, u.oneCell' = true) →
    ∃ w', (storeCells ⟨b, j, none⟩ us i).run P w = .ok () w' ∧ w'.heap[b]? = some (.cells (putV cur.toList (j + i) us).toArray ty (0, 0)) ∧ w'.os = w.os ∧ w'.tape = w.tape ∧ w'.output = w.output ∧ w'.heap.size = w.heap.size ∧ ∀ b', b' ≠ b → w'.heap[b']? = w.heap[b']?
  | [], j, i, cur, w, hh, _, _ => by
    refine ⟨w, by simp [storeCells], ?_, rfl, rfl, rfl, rfl, fun _ _ => rfl⟩
    have : ∀ (vs : List Value) (n : Nat), n ≤ vs.length → putV vs n [] = vs := by
      intro vs
      induction vs with
      | nil => intro n hn; cases n <;> simp [putV]
      | cons v vs ih => intro n hn; cases n with
        | zero => simp [putV]
        | succ n => simp only [putV]; rw [ih n (by simpa using hn)]
    rw [this _ _ (by simpa using ‹_›)]
    simpa using hh
  | u :: us, j, i, cur, w, hh, hle, h1 => by
    have hlt : j + i < cur.size := by simp at hle; omega
    have hcell : w.cell? ((⟨b, j, none⟩ : Addr).add i) = some (cur[j + i]'hlt) := by
      rw [add_lit', World.cell?, hh]; simp [hlt]
    have hfr : w.frozen? ((⟨b, j, none⟩ : Addr).add i) = false := by
      rw [add_lit', World.frozen?, hh]; simp
    have hst : (store ((⟨b, j, none⟩ : Addr).add i) u).run P w = .ok () (w.setCell ((⟨b, j, none⟩ : Addr).add i) u) := by
      rw [run_store P w _ u _ (h1 u (by simp))]
      simp [hcell, hfr]
    have hh' : (w.setCell ((⟨b, j, none⟩ : Addr).add i) u).heap[b]? = some (.cells (cur.setIfInBounds (j + i) u) ty (0, 0)) := by
      rw [add_lit']; exact heap_setCell_same w b (j + i) cur ty u hh
    obtain ⟨w', r1, r2, r3, r4, r5, r6, r7⟩ := run_storeCells_own b ty us j (i + 1) (cur.setIfInBounds (j + i) u) _ hh' (by simp at hle ⊢; omega) (fun u hu => h1 u (by simp [hu]))
    refine ⟨w', ?_, ?_, r3, r4, r5, by rw [r6]; simp [World.setCell], fun b' hb' => ?_⟩
    · simp only [storeCells, Sem.run_bind, hst, Result.andThen_ok, r1]
    · rw [r2]
      congr 2
      apply Array.ext'
      simp only [Array.toList_setIfInBounds]
      obtain ⟨p1, p2⟩ := putV_get (cur.toList.set (j + i) u) (j + (i + 1)) us (by simp at hle ⊢; omega)
      obtain ⟨q1, q2⟩ := putV_get cur.toList (j + i) (u :: us) (by simp at hle ⊢; omega)
      apply List.ext_getElem?
      intro n
      rw [p2, q2]
      by_cases hn : j + (i + 1) ≤ n ∧ n < j + (i + 1) + us.length
      · rw [if_pos hn, if_pos (by simp; omega), show n - (j + i) = (n - (j + (i + 1))) + 1 by omega]
        simp
      · rw [if_neg hn]
        by_cases he : n = j + i
        · subst he
          rw [if_pos (by simp), List.getElem?_set_self (by simpa using hlt)]
          simp
        · rw [if_neg (by simp; omega), List.getElem?_set_ne (Ne.symm he)]
    · rw [r7 b' hb', add_lit']
      exact heap_setCell_other w _ b' u hb'

theorem run_storeAt {t : TypeId} {n : Nat} (hs : (P.info? t).map (·.size) = some n) {b j : Nat} {u : Value} (hu : u.cells.size = n) {cur : Array Value} {ty : TypeId} (hh : w.heap[b]? = some (.cells cur ty (0, 0))) (hle : j + n ≤ cur.size) (h1 : ∀ x ∈ u.cells.toList, x.oneCell' = true) :
    ∃ w', (Instr.storeAt t (.pointer (some ⟨b, j, none⟩)) u).run P w = .ok () w' ∧ w'.heap[b]? = some (.cells (putV cur.toList j u.cells.toList).toArray ty (0, 0)) ∧ w'.os = w.os ∧ w'.tape = w.tape ∧ w'.output = w.output ∧ w'.heap.size = w.heap.size ∧ ∀ b', b' ≠ b → w'.heap[b']? = w.heap[b']? := by
  obtain ⟨w', r1, r2, r⟩ := run_storeCells_own (P := P) b ty u.cells.toList j 0 cur w hh (by simpa [hu] using hle) h1
  refine ⟨w', ?_, r2, r⟩
  simp only [Instr.storeAt, Instr.sureAddr, Sem.run_bind, Sem.run_pure, Result.andThen_ok, storeVar, run_size hs, hu, ne_eq, not_true_eq_false, if_false, r1]

/-- What stands behind a store into block b, at place l. -/
theorem eff_store (H : Here P c N F ρ own slots a w) (hdst : o.dst = none) {l b : Nat} {own1 : Own} {w' : World} (hlive : (own l).obj.live = true) (hbl : blk (ρ (pl l)) = some b)
    (hrun : (execOp a.eval o).run P w = .ok .skip w') (hos : w'.os = w.os) (htape : w'.tape = w.tape) (hout : w'.output = w.output) (hsz : w'.heap.size = w.heap.size) (hoth : ∀ b', b' ≠ b → w'.heap[b']? = w.heap[b']?)
    (hsame : (∃ ty cs cs', (own l).obj = .box ty cs ∧ own1 = .box ty cs') ∨ ∃ ty k xs xs', (own l).obj = .row ty k xs ∧ own1 = .row ty k xs')
    (hok : ∀ own', own' = upd own l ⟨(own l).ver, own1⟩ → Ext w F w' F → (∀ z v, CellC w F ρ own z v → CellC w' F ρ own' z v) → N b → ¬ F b → OwnOk w' N F ρ own' l own1)
    {K : St → Prop} (hK : K ⟨slots, upd own l ⟨(own l).ver, own1⟩⟩) : Eff P c N F ρ own o a w K Q := by
  unfold Eff Oper.wp
  rw [hrun]
  obtain ⟨hlt, hNb, hFb⟩ := blk_lt H.mem hlive (holds_of hbl)
  have hext : Ext w F w' F := ⟨hos, htape, hout, by omega, fun b' h => hoth b' (by rintro rfl; exact hFb h), fun _ h => h⟩
  have hother : ∀ l', l' ≠ l → upd own l ⟨(own l).ver, own1⟩ l' = own l' ∧ ρ (pl l') = ρ (pl l') := fun l' h => ⟨upd_ne _ _ h, rfl⟩
  have hC : ∀ z v, CellC w F ρ own z v → CellC w' F ρ (upd own l ⟨(own l).ver, own1⟩) z v := fun z v h =>
    h.step (l := l) hext hother (.inr (by rw [upd_eq]; exact ⟨rfl, rfl, hsame.imp id .inl⟩))
  show ∃ σ' F' ρ', K σ' ∧ Next' P c N F ρ own a w σ' (a.put o.dst undef) w' F' ρ'
  rw [hdst]
  refine ⟨_, F, ρ, hK, ⟨H.cfg, fun t => AVG.imp hC (H.sl t), ?_⟩, hext, fun b' _ hn => hoth b' (by rintro rfl; exact hn hNb), fun b h => .inl h, rfl, rfl, ver_same own l _, fun _ _ => ⟨rfl, fun _ => rfl⟩⟩
  refine H.mem.step (l := l) hext hother (fun _ _ _ => rfl) hC (fun l' b' hne hl' hb' hlt' hn => ⟨hoth b' (by rintro rfl; exact H.mem.apart l l' b' (Ne.symm hne) hlive hl' (holds_of hbl) hb'), hn⟩) ?_ (fun l' b' hne hl' e1 e2 => H.mem.apart l l' b' (Ne.symm hne) hlive hl' (holds_of (by have e1 : holds ρ l (upd own l ⟨(own l).ver, own1⟩ l).obj b' := e1; rw [upd_eq] at e1; rcases hsame with ⟨_, _, _, _, rfl⟩ | ⟨_, _, _, _, _, rfl⟩ <;> exact e1)) e2) (fun b' h => by rw [hsz]; exact H.mem.fin b' h)
  show OwnOk _ N F _ _ l (upd own l _ l).obj
  rw [upd_eq]
  exact hok _ rfl hext hC hNb hFb

theorem e_store_box (H : Here P c N F ρ own slots a w) (hdst : o.dst = none) {t : TypeId} {x z : Operand} (ho : o.op = .store t x z) {l ver i j : Nat} {cs cs' : List Cell} {ti : TI} {ty : TypeId} (hx : evA slots x = .one (.ptr l ver i j)) (hz : cells (evA slots z) = some cs)
    (hti : c.ty t = some ti) (hsz : cs.length = ti.size) (hl : own l = ⟨ver, .box ty cs'⟩) (hle : j + cs.length ≤ cs'.length)
    {K : St → Prop} (hK : K ⟨slots, upd own l ⟨ver, .box ty (putCells cs' j cs)⟩⟩) : Eff P c N F ρ own o a w K Q := by
  have hok := H.mem.ok l
  rw [hl] at hok
  obtain ⟨b, vs, hρ, hh, hcs, h1, hN, hn⟩ := hok
  have hd : CellC w F ρ own (.ptr l ver i j) (a.eval x) := H.ev' hx
  have hv := hd.2.2 (by rw [hl])
  simp only [hl] at hv
  obtain ⟨b', hb', he, _⟩ := hv
  rw [hρ] at hb'
  simp only [blk, Option.some.injEq] at hb'
  subst hb'
  have hc := cells_ok hz (H.ev z)
  have hlen : (a.eval z).cells.size = ti.size := by rw [← Array.length_toList, hc.1, hsz]
  have hvl : vs.size = cs'.length := by rw [← Array.length_toList, hcs.1]
  obtain ⟨w', r1, r2, r3, r4, r5, r6, r7⟩ := run_storeAt (w := w) (H.cfg.ty _ _ hti).1 hlen hh (j := j) (by omega) (one_of_cells hc)
  have hver : (own l).ver = ver := by rw [hl]
  refine eff_store H hdst (l := l) (b := b) (own1 := .box ty (putCells cs' j cs)) (w' := w') (by rw [hl]; rfl) (by rw [hρ]; rfl) ?_ r3 r4 r5 r6 r7 (.inl ⟨ty, cs', _, by rw [hl], rfl⟩) (fun own' e hext hC hNb hFb => ?_) (by rw [hver]; exact hK)
  · simp [execOp, ho, he, r1]
  · have hput := CellsC.put hcs hc hle
    refine ⟨b, _, hρ, r2, by simpa using CellsG.imp (fun z v _ => hC z v) hput, ?_, hNb, hFb⟩
    have := one_of_cells hput
    simpa using this

theorem e_store_row (H : Here P c N F ρ own slots a w) (hdst : o.dst = none) {t : TypeId} {x z : Operand} (ho : o.op = .store t x z) {l ver i j : Nat} {cs : List Cell} {ti : TI} {ty : TypeId} {k : ElK} {xs : List k.T} {y : k.T} (hx : evA slots x = .one (.ptr l ver i j)) (hz : cells (evA slots z) = some cs)
    (hti : c.ty t = some ti) (hsz : cs.length = ti.size) (hl : own l = ⟨ver, .row ty k xs⟩) (hle : j + cs.length ≤ k.size) (hi : i < xs.length) (hdec : k.dec (putCells ((k.enc (xs.getD i k.dflt)).map .d) j cs) = some y)
    {K : St → Prop} (hK : K ⟨slots, upd own l ⟨ver, .row ty k (xs.set i y)⟩⟩) : Eff P c N F ρ own o a w K Q := by
  have hok := H.mem.ok l
  rw [hl] at hok
  obtain ⟨vs, hw, hrow, hn⟩ := hok
  have hd : CellC w F ρ own (.ptr l ver i j) (a.eval x) := H.ev' hx
  have hv := hd.2.2 (by rw [hl])
  simp only [hl] at hv
  obtain ⟨b, hb, he⟩ := hv
  have hc := cells_ok hz (H.ev z)
  have hlen : (a.eval z).cells.size = ti.size := by rw [← Array.length_toList, hc.1, hsz]
  rcases hw.2 with ⟨_, h0⟩ | ⟨g, cap, cur, hs, hbase, hh, hcap, hmax, hcs, htake⟩
  · omega
  · have hbg : g = b := by rw [hs] at hb; simpa [blk] using hb
    subst hbg
    have hk4 := elk_size k
    have hcur : i * k.size + k.size ≤ cur.size := by
      rw [hcs, ← Nat.succ_mul]; exact Nat.mul_le_mul_right _ (by omega)
    obtain ⟨w', r1, r2, r3, r4, r5, r6, r7⟩ := run_storeAt (w := w) (H.cfg.ty _ _ hti).1 hlen hh (j := i * k.size + j) (by omega) (one_of_cells hc)
    have hver : (own l).ver = ver := by rw [hl]
    refine eff_store H hdst (l := l) (b := g) (own1 := .row ty k (xs.set i y)) (w' := w') (by rw [hl]; rfl) hb ?_ r3 r4 r5 r6 r7 (.inr ⟨ty, k, xs, _, by rw [hl], rfl⟩) (fun own' e hext hC hNb hFb => ?_) (by rw [hver]; exact hK)
    · simp [execOp, ho, he, r1]
    · obtain ⟨us, hul, hel, hus⟩ := hrow.2 i _ (getD_some (d := k.dflt) hi)
      have hput := CellsC.put (elem_enc (ρ := ρ) (own := own) hel) hc (n := j) (by rw [List.length_map, enc_len]; omega)
      obtain ⟨e1, e2⟩ := dec_ok hdec hput
      have hcl := hc.1
      obtain ⟨q1, q2⟩ := putV_get us j (a.eval z).cells.toList (by omega)
      obtain ⟨p1, p2⟩ := putV_get cur.toList (i * k.size + j) (a.eval z).cells.toList (by simp; omega)
      have htl : vs.length = xs.length * k.size := hw.1
      have hvs' : ∀ n, (List.take (xs.length * k.size) (putV cur.toList (i * k.size + j) (a.eval z).cells.toList))[n]? = if i * k.size + j ≤ n ∧ n < i * k.size + j + (a.eval z).cells.toList.length then (a.eval z).cells.toList[n - (i * k.size + j)]? else vs[n]? := by
        intro n
        have hin : i * k.size + k.size ≤ xs.length * k.size := by rw [← Nat.succ_mul]; exact Nat.mul_le_mul_right _ (by omega)
        rw [List.getElem?_take, p2, ← htake, List.getElem?_take]
        by_cases hnl : n < xs.length * k.size
        · rw [if_pos hnl, if_pos hnl]
        · rw [if_neg hnl, if_neg hnl, if_neg (by omega)]
      refine ⟨(putV cur.toList (i * k.size + j) (a.eval z).cells.toList).take (xs.length * k.size), ⟨by rw [List.length_take, p1, List.length_set]; exact Nat.min_eq_left (by rw [Array.length_toList (xs := cur), hcs]; exact Nat.mul_le_mul_right _ hcap), .inr ⟨g, cap, _, by rw [List.length_set]; exact hs, hbase, r2, by rw [List.length_set]; exact hcap, hmax, by simp [p1, hcs], by simp⟩⟩, ⟨fun v hv => ?_, fun n x' hx' => ?_⟩, fun b' hb' => ?_⟩
      · obtain ⟨n, hn'⟩ := List.getElem?_of_mem hv
        rw [hvs'] at hn'
        split at hn'
        · exact one_of_cells hc v (List.mem_of_getElem? hn')
        · exact hrow.1 v (List.mem_of_getElem? hn')
      · by_cases hni : i = n
        · subst hni
          rw [List.getElem?_set_self hi] at hx'
          injection hx' with hx'
          subst hx'
          refine ⟨_, e1, Elem.mono hext k _ _ e2, fun m u hm => ?_⟩
          rw [hvs']
          rw [q2] at hm
          by_cases hjm : j ≤ m ∧ m < j + (a.eval z).cells.toList.length
          · rw [if_pos hjm] at hm
            rw [if_pos (by omega), show i * k.size + m - (i * k.size + j) = m - j by omega]
            exact hm
          · rw [if_neg hjm] at hm
            rw [if_neg (by omega)]
            exact hus m u hm
        · rw [List.getElem?_set_ne hni] at hx'
          obtain ⟨us', g1, g2, g3⟩ := hrow.2 n x' hx'
          refine ⟨us', g1, Elem.mono hext k _ _ g2, fun m u hm => ?_⟩
          have hml := (List.getElem?_eq_some_iff.1 hm).1
          rw [hvs', if_neg, g3 m u hm]
          intro ⟨k1, k2⟩
          rcases Nat.lt_or_gt_of_ne hni with h | h
          · have := Nat.mul_le_mul_right k.size h
            rw [Nat.succ_mul] at this; omega
          · have := Nat.mul_le_mul_right k.size h
            rw [Nat.succ_mul] at this; omega
      · rw [hs] at hb'
        simp only [blk, Option.some.injEq] at hb'
        subst hb'
        exact ⟨hNb, hFb⟩

/-- A row that is now another value: shorter, or grown. -/
theorem next_row (H : Here P c N F ρ own slots a w) (hN : ∀ b, w.heap.size ≤ b → N b) {d l : Nat} (hd : d < a.tmps.size) (hdst : o.dst = some d) {w' : World} {s : Value} {ty : TypeId} {k : ElK} {ys : List k.T} {vs : List Value}
    (hone : s.oneCell' = true) (hg : w.grownBy w' (if (own l).obj.live then blk (ρ (pl l)) else none))
    (hs : ∀ b, blk s = some b → ((own l).obj.live = true ∧ blk (ρ (pl l)) = some b) ∨ (w.heap.size ≤ b))
    (hw : w'.ownsRow 0 ty k.size s ys.length vs) (hrow : RowC w' F k ys vs)
    {K : St → Prop} (hK : K ⟨upd slots d (.one (.own l ((own l).ver + 1))), upd own l ⟨(own l).ver + 1, .row ty k ys⟩⟩) : ∃ σ' F' ρ', K σ' ∧ Next' P c N F ρ own a w σ' (a.put o.dst s) w' F' ρ' := by
  have hnF : ∀ b, F b → some b ≠ (if (own l).obj.live then blk (ρ (pl l)) else none) := fun b hb e => by
    split at e
    · rename_i hl
      exact (blk_lt H.mem hl (holds_of e.symm)).2.2 hb
    · cases e
  have hext : Ext w F w' F := ⟨hg.os, hg.tape, hg.output, hg.size, fun b h => hg.block b (H.mem.fin b h) (hnF b h), fun _ h => h⟩
  have hC : ∀ z v, CellC w F ρ own z v → CellC w' F (upd ρ (pl l) s) (upd own l ⟨(own l).ver + 1, .row ty k ys⟩) z v := fun z v h =>
    h.step (l := l) hext (upd_two own ρ l _ s) (.inl (by rw [upd_eq]; exact Nat.lt_succ_self _))
  have hblk : ∀ b, blk s = some b → N b ∧ ¬ F b := fun b hb => by
    rcases hs b hb with ⟨h1, h2⟩ | h
    · exact (blk_lt H.mem h1 (holds_of h2)).2
    · exact ⟨hN b h, fun hf => by have := H.mem.fin b hf; omega⟩
  refine ⟨_, F, upd ρ (pl l) s, hK, ⟨H.cfg, ?_, ?_⟩, hext, fun b h hn => hg.block b h (fun e => ?_), fun b h => .inl h, ?_, ?_, ver_two own l _, keep_two own ρ l _ s⟩
  · rw [hdst]
    refine slots_put hC H.sl hd ?_
    show CellC w' F _ _ (.own l _) s
    exact ⟨hone, by rw [upd_eq]; exact Nat.le_refl _, fun _ => (upd_eq _ _ _).symm⟩
  · refine H.mem.step (l := l) hext (upd_two own ρ l _ s) (inn_two ρ l s) hC (fun l' b hne hl' hb hlt hn => ⟨hg.block b hlt (fun e => ?_), hn⟩) ?_ (fun l' b hne hl' e1 e2 => ?_) (fun b h => Nat.lt_of_lt_of_le (H.mem.fin b h) hg.size)
    · split at e
      · rename_i hl
        exact H.mem.apart l l' b (Ne.symm hne) hl hl' (holds_of e.symm) hb
      · cases e
    · show OwnOk _ N F _ _ l (upd own l _ l).obj
      rw [upd_eq]
      refine ⟨vs, by rw [upd_eq]; exact hw, hrow, fun b hb => hblk b (by rwa [upd_eq] at hb)⟩
    · simp only [upd_eq, holds] at e1
      rcases hs b e1 with ⟨h1, h2⟩ | h
      · exact H.mem.apart l l' b (Ne.symm hne) h1 hl' (holds_of h2) e2
      · have := (blk_lt H.mem hl' e2).1
        omega
  · split at e
    · rename_i hl
      exact hn (blk_lt H.mem hl (holds_of e.symm)).2.1
    · cases e
  · rw [hdst]; exact put_size _ _ _
  · rw [hdst]; exact put_defers' _ _ _

theorem eff_row (H : Here P c N F ρ own slots a w) (hN : ∀ b, w.heap.size ≤ b → N b) {d l : Nat} (hd : d < a.tmps.size) (hdst : o.dst = some d) {w' : World} {s : Value} {ty : TypeId} {k : ElK} {ys : List k.T} {vs : List Value}
    (hrun : (execOp a.eval o).run P w = .ok (.value s) w') (hone : s.oneCell' = true) (hg : w.grownBy w' (if (own l).obj.live then blk (ρ (pl l)) else none))
    (hs : ∀ b, blk s = some b → ((own l).obj.live = true ∧ blk (ρ (pl l)) = some b) ∨ (w.heap.size ≤ b))
    (hw : w'.ownsRow 0 ty k.size s ys.length vs) (hrow : RowC w' F k ys vs)
    {K : St → Prop} (hK : K ⟨upd slots d (.one (.own l ((own l).ver + 1))), upd own l ⟨(own l).ver + 1, .row ty k ys⟩⟩) : Eff P c N F ρ own o a w K Q := by
  unfold Eff Oper.wp
  rw [hrun]
  exact next_row H hN hd hdst hone hg hs hw hrow hK

theorem RowC.take {k : ElK} {xs : List k.T} {vs : List Value} (h : RowC w F k xs vs) (n : Nat) : RowC w F k (xs.take n) (vs.take (n * k.size)) := by
  refine ⟨fun v hv => h.1 v (List.mem_of_mem_take hv), fun i x hx => ?_⟩
  rw [List.getElem?_take] at hx
  split at hx
  · rename_i hi
    obtain ⟨us, h1, h2, h3⟩ := h.2 i x hx
    refine ⟨us, h1, h2, fun j u hj => ?_⟩
    have hjl := (List.getElem?_eq_some_iff.1 hj).1
    have : i * k.size + k.size ≤ n * k.size := by rw [← Nat.succ_mul]; exact Nat.mul_le_mul_right _ hi
    rw [List.getElem?_take, if_pos (by omega)]
    exact h3 j u hj
  · cases hx

theorem RowC.append {k : ElK} {xs ys : List k.T} {vs us : List Value} (h : RowC w F k xs vs) (h' : RowC w F k ys us) (hl : vs.length = xs.length * k.size) : RowC w F k (xs ++ ys) (vs ++ us) := by
  refine ⟨fun v hv => (List.mem_append.1 hv).elim (h.1 v) (h'.1 v), fun i x hx => ?_⟩
  by_cases hi : i < xs.length
  · rw [List.getElem?_append_left hi] at hx
    obtain ⟨us', h1, h2, h3⟩ := h.2 i x hx
    refine ⟨us', h1, h2, fun j u hj => ?_⟩
    have hjl := (List.getElem?_eq_some_iff.1 hj).1
    have : i * k.size + k.size ≤ xs.length * k.size := by rw [← Nat.succ_mul]; exact Nat.mul_le_mul_right _ hi
    rw [List.getElem?_append_left (by omega)]
    exact h3 j u hj
  · rw [List.getElem?_append_right (by omega)] at hx
    obtain ⟨us', h1, h2, h3⟩ := h'.2 _ x hx
    refine ⟨us', h1, h2, fun j u hj => ?_⟩
    have : xs.length * k.size ≤ i * k.size := Nat.mul_le_mul_right _ (by omega)
    rw [List.getElem?_append_right (by omega), hl, show i * k.size + j - xs.length * k.size = (i - xs.length) * k.size + j by rw [Nat.sub_mul]; omega]
    exact h3 j u hj

theorem e_trunc (H : Here P c N F ρ own slots a w) (hN : ∀ b, w.heap.size ≤ b → N b) {d l ver : Nat} (hd : d < a.tmps.size) (hdst : o.dst = some d) {t : TypeId} {x hi : Operand} (ho : o.op = .slice t x none (some hi) none)
    {sz b : Nat} {z0 z : List ZK} {e ty : TypeId} {k k' : ElK} {xs : List k.T} {ki : IntKind} {h : Int} (hty : c.ty t = some ⟨sz, z0, .slice e k' b z⟩) (hk : k' = k) (hx : evA slots x = .one (.own l ver)) (hh : evA slots hi = .one (.d (.int ki h))) (hl : own l = ⟨ver, .row ty k xs⟩) (h0 : 0 ≤ h) (h1 : h ≤ (xs.length : Int))
    {K : St → Prop} (hK : K ⟨upd slots d (.one (.own l (ver + 1))), upd own l ⟨ver + 1, .row ty k (xs.take h.toNat)⟩⟩) : Eff P c N F ρ own o a w K Q := by
  subst hk
  obtain ⟨hu, hes, _⟩ := elem_size (H.cfg.ty _ _ hty)
  have hok := H.mem.ok l
  rw [hl] at hok
  obtain ⟨vs, hw, hrow, hn⟩ := hok
  have hd' : CellC w F ρ own (.own l ver) (a.eval x) := H.ev' hx
  have he := hd'.2.2 ⟨by rw [hl], by rw [hl]; trivial⟩
  have hver : (own l).ver = ver := by rw [hl]
  have hlive : (own l).obj.live = true := by rw [hl]; rfl
  have hlen : (xs.take h.toNat).length = h.toNat := by rw [List.length_take]; omega
  rcases hw.2 with ⟨hs, hn0⟩ | ⟨g, cap, cur, hs, hbase, hg, hnc, hcm, hcs, htake⟩
  · have hx0 : xs = [] := List.eq_nil_of_length_eq_zero hn0
    subst hx0
    have hh0 : h = 0 := by simp at h1; omega
    subst hh0
    rw [hs] at he
    simp only [List.take_nil] at hK
    have hr := run_sliceB t e hu _ hes none 0 0 (Nat.le_refl _) none (some (.int ki 0)) 0 0 (.inl ⟨rfl, rfl⟩) (.inr ⟨ki, rfl⟩) (by omega) (by omega) (by omega) w
    refine eff_row H hN (l := l) hd hdst (w' := w) (s := .slice none 0 0) (ty := ty) (k := k') (ys := []) (vs := []) ?_ rfl (World.grownBy.refl w _) (fun b hb => by simp [blk] at hb) ?_ ⟨fun v hv => by simp at hv, fun i x hx => by simp at hx⟩ (by rw [hver]; exact hK)
    · simp [execOp, ho, he, H.int hh, hr]
    · exact World.ownsRow_nil w 0 _ _
  · rw [hs] at he
    have hr := run_sliceB t e hu _ hes (some ⟨g, 0, none⟩) xs.length cap hnc none (some (.int ki h)) 0 h (.inl ⟨rfl, rfl⟩) (.inr ⟨ki, rfl⟩) (by omega) h0 h1 w
    have hb0 : blk (ρ (pl l)) = some g := by rw [hs]; rfl
    refine eff_row H hN (l := l) hd hdst (w' := w) (s := .slice (some ⟨g, 0, none⟩) h.toNat cap) (vs := vs.take (h.toNat * k'.size)) ?_ rfl (World.grownBy.refl w _) (fun b hb => .inl ⟨hlive, ?_⟩) ?_ (hrow.take _) (by rw [hver]; exact hK)
    · have e1 : (if cap = (0 : Int).toNat then some (⟨g, 0, none⟩ : Addr) else (some (⟨g, 0, none⟩ : Addr)).map (·.add ((0 : Int).toNat * k'.size))) = some ⟨g, 0, none⟩ := by
        split
        · rfl
        · simp [Addr.add]
      rw [e1] at hr
      simp [execOp, ho, he, H.int hh]
      simp at hr
      rw [hr]
      rfl
    · rw [hb0]; simpa [blk] using hb
    · rw [hlen]
      have hmul : h.toNat * k'.size ≤ xs.length * k'.size := Nat.mul_le_mul_right _ (by omega)
      refine ⟨by rw [List.length_take, hw.1]; omega, .inr ⟨g, cap, cur, rfl, hbase, hg, by omega, hcm, hcs, ?_⟩⟩
      rw [← htake, List.take_take, Nat.min_eq_left hmul]

theorem e_append (H : Here P c N F ρ own slots a w) (hN : ∀ b, w.heap.size ≤ b → N b) {d l : Nat} (hd : d < a.tmps.size) (hdst : o.dst = some d) {cl : Call} (ho : o.op = .call cl) (hcl : cl.callee = .builtin .append) {t : TypeId} {s x : Operand} (hargs : cl.args.toList = [s, x]) (hat : cl.argTypes.toList = [t, t])
    {sz b : Nat} {z0 z : List ZK} {e : TypeId} {k : ElK} {xs ys : List k.T} {vs : List Value} (hty : c.ty t = some ⟨sz, z0, .slice e k b z⟩)
    (hw : w.ownsRow 0 e k.size (a.eval s) xs.length vs) (hrow : RowC w F k xs vs) (hbl : ∀ g, blk (a.eval s) = some g → (own l).obj.live = true ∧ blk (ρ (pl l)) = some g)
    {G : Nat → Prop} (hy : SLK w G k ys (a.eval x)) (hyb : k.base = true ∨ ∀ n, G n → F n) (hlen : xs.length + ys.length ≤ 1073741824) (hb : b ≤ 4096)
    {K : St → Prop} (hK : K ⟨upd slots d (.one (.own l ((own l).ver + 1))), upd own l ⟨(own l).ver + 1, .row e k (xs ++ ys)⟩⟩) : Eff P c N F ρ own o a w K Q := by
  obtain ⟨hu, hes, _, zv, hzr, hzc, hzs, ie, hie, hiz, hisz, hib⟩ := elem_size (H.cfg.ty _ _ hty)
  have hk4 := elk_size k
  have hbytes : (xs.length + ys.length) * b ≤ 140737488355328 := by
    have : (xs.length + ys.length) * b ≤ 1073741824 * 4096 := Nat.mul_le_mul hlen hb
    omega
  have hone : ∀ {base : Nat} {sv : Value} {n : Nat} {us : List Value} {w : World}, w.ownsRow base e k.size sv n us → sv.oneCell' = true := by
    intro base sv n us w h
    rcases h.2 with ⟨rfl, _⟩ | ⟨g, cap, cur, rfl, _⟩ <;> rfl
  have hgr : ∀ {w' : World} {sv : Value}, w.grownBy w' (Value.ownBlock sv) → (∀ g, Value.ownBlock sv = some g → (own l).obj.live = true ∧ blk (ρ (pl l)) = some g) → w.grownBy w' (if (own l).obj.live then blk (ρ (pl l)) else none) := by
    intro w' sv hg hh
    refine ⟨hg.os, hg.tape, hg.output, hg.size, fun i hi hne => hg.block i hi (fun e => ?_)⟩
    obtain ⟨h1, h2⟩ := hh i e.symm
    rw [if_pos h1, h2] at hne
    exact hne rfl
  have hob : ∀ g, Value.ownBlock (a.eval s) = some g → (own l).obj.live = true ∧ blk (ρ (pl l)) = some g := fun g hg => hbl g (own_blk hw hg)
  have hexec : ∀ {r : Value} {w' : World}, (Builtin.append_ #[t, t] o.type #[a.eval s, a.eval x]).run P w = .ok r w' → (execOp a.eval o).run P w = .ok (.value r) w' := by
    intro r w' hr
    simp [execOp, ho, resolve, hcl, invoke, builtin, arr_of_list hargs, arr_of_list hat, hr]
  rcases hy with ⟨hxv, rfl⟩ | ⟨ad, cap, hxv, hc, hGb, hcell⟩
  · have hr := run_append_owned_none (P := P) w 0 t o.type e ie k.size hu hie (a.eval s) xs.length vs hw
    rw [List.append_nil] at hK
    refine eff_row H hN (l := l) hd hdst (w' := w) (s := a.eval s) (hexec (by rw [hxv]; exact hr)) (hone hw) (World.grownBy.refl w _) (fun b hb => .inl (hbl b hb)) hw hrow hK
  · -- the cells of ys
    have hfl : ∃ us : List (List Value), us.length = ys.length ∧ (∀ l ∈ us, l.length = k.size) ∧ ∀ (i : Nat) x u, ys[i]? = some x → us[i]? = some u → Elem w G k x u ∧ ∀ j v, u[j]? = some v → w.cell? (ad.add (i * k.size + j)) = some v := by
      clear hlen hbytes hK hxv hc
      have : ∀ n, n ≤ ys.length → ∃ us : List (List Value), us.length = n ∧ (∀ l ∈ us, l.length = k.size) ∧ ∀ (i : Nat) x u, i < n → ys[i]? = some x → us[i]? = some u → Elem w G k x u ∧ ∀ j v, u[j]? = some v → w.cell? (ad.add (i * k.size + j)) = some v := by
        intro n
        induction n with
        | zero => intro _; exact ⟨[], rfl, fun l hl => by simp at hl, fun i x u hi => absurd hi (by omega)⟩
        | succ n ih =>
          intro hn
          obtain ⟨us, h1, h2, h3⟩ := ih (by omega)
          obtain ⟨u, g1, g2, g3⟩ := hcell n _ (List.getElem?_eq_getElem (by omega))
          refine ⟨us ++ [u], by simp [h1], fun l hl => ?_, fun i x u' hi hx hu' => ?_⟩
          · rcases List.mem_append.1 hl with hl | hl
            · exact h2 l hl
            · rw [List.mem_singleton.1 hl, g1]
          · by_cases hin : i < n
            · rw [List.getElem?_append_left (by omega)] at hu'
              exact h3 i x u' hin hx hu'
            · have : i = n := by omega
              subst this
              rw [List.getElem?_append_right (by omega), h1, Nat.sub_self] at hu'
              simp only [List.getElem?_cons_zero, Option.some.injEq] at hu'
              subst hu'
              rw [List.getElem?_eq_getElem (by omega)] at hx
              injection hx with hx
              subst hx
              exact ⟨g2, g3⟩
      obtain ⟨us, h1, h2, h3⟩ := this ys.length (Nat.le_refl _)
      exact ⟨us, h1, h2, fun i x u hx hu => h3 i x u (List.getElem?_eq_some_iff.1 hx).1 hx hu⟩
    obtain ⟨us, u1, u2, u3⟩ := hfl
    have hnews : ∀ (j : Nat) u, us.flatten[j]? = some u → w.cell? (ad.add j) = some u := by
      intro j u hj
      have hjd : j = j / k.size * k.size + j % k.size := by rw [Nat.mul_comm]; exact (Nat.div_add_mod j k.size).symm
      have hm := Nat.mod_lt j hk4.2
      have hf := flat_get us (j / k.size) (j % k.size) u2 hm
      rw [← hjd, hj] at hf
      cases hq : us[j / k.size]? with
      | none => rw [hq] at hf; cases hf
      | some l =>
        rw [hq] at hf
        have hlt := (List.getElem?_eq_some_iff.1 hq).1
        have := (u3 (j / k.size) _ l (List.getElem?_eq_getElem (by omega)) hq).2 (j % k.size) u hf.symm
        rwa [← hjd] at this
    have hrowY : RowC w G k ys us.flatten := by
      refine ⟨fun v hv => ?_, fun i x hx => ?_⟩
      · obtain ⟨l, hl, hv'⟩ := List.mem_flatten.1 hv
        obtain ⟨i, hi⟩ := List.getElem?_of_mem hl
        have hlt := (List.getElem?_eq_some_iff.1 hi).1
        have := (u3 i _ l (List.getElem?_eq_getElem (by omega)) hi).1
        exact one_of_cells (elem_enc (ρ := ρ) (own := own) this) v hv'
      · have hlt := (List.getElem?_eq_some_iff.1 hx).1
        have hus : us[i]? = some (us[i]'(by omega)) := List.getElem?_eq_getElem (by omega)
        refine ⟨_, u2 _ (List.getElem_mem _), (u3 i x _ hx hus).1, fun j u hj => ?_⟩
        have hjl := (List.getElem?_eq_some_iff.1 hj).1
        have := u2 _ (List.getElem_mem (l := us) (h := by omega) (n := i))
        rw [flat_get us i j u2 (by omega), hus]
        exact hj
    have hus1 : us.flatten.length = ys.length * k.size := by rw [flat_len us u2, u1]
    obtain ⟨v', w', hr, hown', hg', _, hat'⟩ := run_append_own_at (P := P) w 0 t o.type e ie zv k.size b hu hie hiz hisz hib hzs hk4.2 (a.eval s) xs.length vs hw ad ys.length cap us.flatten hus1 hnews hrowY.1 (by unfold maxLen; omega) hbytes (Nat.zero_le _)
    have hs' : ∀ g, blk v' = some g → ((own l).obj.live = true ∧ blk (ρ (pl l)) = some g) ∨ w.heap.size ≤ g := by
      intro g hgb
      have hgo := blk_own hown' hgb
      rcases hat' with e | e
      · exact .inl (hob g (by rw [← e]; exact hgo))
      · rw [hgo] at e
        injection e with e
        exact .inr (by omega)
    have hrowF : RowC w' F k (xs ++ ys) (vs ++ us.flatten) := by
      have hg2 := hgr hg' hob
      have hnF : ∀ n, F n → some n ≠ (if (own l).obj.live then blk (ρ (pl l)) else none) := fun n hn e => by
        split at e
        · rename_i hl
          exact (blk_lt H.mem hl (holds_of e.symm)).2.2 hn
        · cases e
      have hext : Ext w F w' F := ⟨hg2.os, hg2.tape, hg2.output, hg2.size, fun n h => hg2.block n (H.mem.fin n h) (hnF n h), fun _ h => h⟩
      have hrowY' : RowC w F k ys us.flatten := by
        rcases hyb with hyb | hyb
        · refine ⟨hrowY.1, fun i x hx => ?_⟩
          obtain ⟨us', e1, e2, e3⟩ := hrowY.2 i x hx
          refine ⟨us', e1, ?_, e3⟩
          cases k with
          | b e => exact e2
          | s e => cases hyb
        · exact hrowY.mono (ext_sub hyb)
      exact (hrow.append hrowY' hw.1).mono hext
    exact eff_row H hN (l := l) hd hdst (hexec (by rw [hxv]; exact hr)) (hone hown') (hgr hg' hob) hs' (by rw [List.length_append]; exact hown') hrowF hK

/-- A call whose new row becomes the caller's own. -/
theorem e_callrow (H : Here P c N F ρ own slots a w) (hN : ∀ b, w.heap.size ≤ b → N b) {d : Nat} (hd : d < a.tmps.size) (hdst : o.dst = some d) {cl : Call} {g : Operand} (hcl : cl.callee = .value g) {f : FuncId} {caps : List D} (hg : evA slots g = .one (.d (.clo f caps))) {r : RV} {R : RowR}
    (h : acall c own f (evL (evA slots) cl.args.toList ++ capsOf caps) = .ok p r) (hp : p) (ho : o.op = .call cl) (hR : r.row = some R)
    {K : St → Prop} (hK : K ⟨upd slots d (ren (.own d ((own d).ver + 1)) r.av), upd own d ⟨(own d).ver + 1, .row R.ty R.k R.xs⟩⟩) : Eff P c N F ρ own o a w K Q := by
  unfold Eff
  refine call_ok H hcl hg h hp ho fun v w' hbel hret => ?_
  unfold RetC at hret
  rw [hR] at hret
  obtain ⟨s, vs, hw, hrow, hn, hav⟩ := hret
  have hF' : ∀ b, newB w w' F s b → F b ∨ w.heap.size ≤ b := fun b hb => hb.1.imp id (fun h => h.1)
  have hge : ∀ b, blk s = some b → w.heap.size ≤ b ∧ b < w'.heap.size := fun b hb => hw.lt b (blk_own hw hb)
  have hFs : ∀ b, F b → newB w w' F s b := fun b hb => ⟨.inl hb, fun e => by have := (hge b e).1; have := H.mem.fin b hb; omega⟩
  have hext : Ext w F w' (newB w w' F s) := ⟨hbel.os, hbel.tape, hbel.output, hbel.size, fun b h => hbel.block b (H.mem.fin b h), hFs⟩
  have hC : ∀ z v, CellC w F ρ own z v → CellC w' (newB w w' F s) (upd ρ (pl d) s) (upd own d ⟨(own d).ver + 1, .row R.ty R.k R.xs⟩) z v := fun z v h =>
    h.step (l := d) hext (upd_two own ρ d _ s) (.inl (by rw [upd_eq]; exact Nat.lt_succ_self _))
  have hone : s.oneCell' = true := by rcases hw.2 with ⟨rfl, _⟩ | ⟨g, cap, cur, rfl, _⟩ <;> rfl
  refine ⟨_, newB w w' F s, upd ρ (pl d) s, hK, ⟨H.cfg, ?_, ?_⟩, hext, fun b h _ => hbel.block b h, fun b hb => (hF' b hb).imp id (hN b), ?_, ?_, ver_two own d _, keep_two own ρ d _ s⟩
  · rw [hdst]
    refine slots_put hC H.sl hd (AVG.ren (fun z v hz => ?_) hav)
    cases z with
    | d x => exact hz
    | own l ver =>
      injection hz with hz
      subst hz
      exact ⟨hone, by rw [upd_eq]; exact Nat.le_refl _, fun _ => (upd_eq _ _ _).symm⟩
    | ptr l ver i j => exact hz.elim
    | sub l ver off n => exact hz.elim
  · refine H.mem.step (l := d) hext (upd_two own ρ d _ s) (inn_two ρ d s) hC (fun l' b hne hl' hb hlt hn => ⟨hbel.block b hlt, fun hf => ?_⟩) ?_ (fun l' b hne hl' e1 e2 => ?_) (fun b h => ?_)
    · rcases hF' b hf with h | h
      · exact hn h
      · omega
    · show OwnOk _ N _ _ _ d (upd own d _ d).obj
      rw [upd_eq]
      refine ⟨vs, ?_, hrow, fun b hb => ?_⟩
      · rw [upd_eq]
        refine ⟨hw.1, hw.2.imp id ?_⟩
        rintro ⟨g, cap, cur, h1, _, h2⟩
        exact ⟨g, cap, cur, h1, Nat.zero_le _, h2⟩
      · rw [upd_eq] at hb
        exact ⟨hN b (hge b hb).1, fun hf => hf.2 hb⟩
    · simp only [upd_eq, holds] at e1
      have h1 := (hge b e1).1
      have h2 := (blk_lt H.mem hl' e2).1
      omega
    · rcases h.1 with h | h
      · exact Nat.lt_of_lt_of_le (H.mem.fin b h) hbel.size
      · exact h.2
  · rw [hdst]; exact put_size _ _ _
  · rw [hdst]; exact put_defers' _ _ _

/-! ### Callees that write the row of an argument -/
theorem nthA_eq : ∀ (xs : List AV) (i : Nat), nthA xs i = xs[i]?
  | [], _ => rfl
  | _ :: _, 0 => rfl
  | _ :: r, i + 1 => by simpa [nthA] using nthA_eq r i
theorem othersD_get : ∀ {i : Nat} {xs : List AV}, othersD i xs = true → ∀ (j : Nat) y, j ≠ i → xs[j]? = some y → strictD y = true
  | _, [], _, j, y, _, hy => by simp at hy
  | 0, x :: r, h, j, y, hj, hy => by
    cases j with
    | zero => exact absurd rfl hj
    | succ j => simp at hy; exact List.all_eq_true.1 h y (List.mem_of_getElem? hy)
  | i + 1, x :: r, h, j, y, hj, hy => by
    simp only [othersD, Bool.and_eq_true] at h
    cases j with
    | zero => simp at hy; subst hy; exact h.1
    | succ j => simp at hy; exact othersD_get h.2 j y (by omega) hy
theorem strict_arg {s : Value} {y : AV} {v : Value} (h : strictD y = true) (hy : AVC w F ρ own y v) : AVG (ArgCell w F s) y v := by
  match y, h with
  | .one (.d x), _ => exact hy
  | .agg cs, h =>
    obtain ⟨vs, hv, hs⟩ := hy
    refine ⟨vs, hv, hs.imp fun z u hz hc => ?_⟩
    have := List.all_eq_true.1 h z hz
    cases z with
    | d x => exact hc
    | own _ _ => cases this
    | ptr _ _ _ _ => cases this
    | sub _ _ _ _ => cases this
theorem own_arg {l ver : Nat} {y : AV} {v : Value} (ho : ownCell y = some (l, ver)) (hl : (own l).ver = ver ∧ (own l).obj.rowy) (hy : AVC w F ρ own y v) : AVG (ArgCell w F (ρ (pl l))) y v := by
  unfold ownCell at ho
  split at ho
  · injection ho with ho
    injection ho with h1 h2
    subst h1; subst h2
    exact hy.2.2 hl
  · injection ho with ho
    injection ho with h1 h2
    subst h1; subst h2
    obtain ⟨vs, hv, hs⟩ := hy
    refine ⟨vs, hv, hs.imp fun z u hz hc => ?_⟩
    rw [List.mem_singleton.1 hz] at hc ⊢
    exact hc.2.2 hl
  · cases ho

theorem callw_ok (H : Here P c N F ρ own slots a w) {cl : Call} {g : Operand} (hcl : cl.callee = .value g) {f : FuncId} {caps : List D} (hg : evA slots g = .one (.d (.clo f caps))) {l ver : Nat} {ty : TypeId} {k : ElK} {ys : List k.T} {trunc : Bool} {av : AV}
    (h : acallW c own f (evL (evA slots) cl.args.toList ++ capsOf caps) = .ok p l ver ty k ys trunc av) (hp : p) (ho : o.op = .call cl) {K : Act → World → Prop}
    (hK : ∀ v w' s' cells' xs, own l = ⟨ver, .row ty k xs⟩ → w.grownBy w' (blk (ρ (pl l))) → (∀ b, blk s' = some b → blk (ρ (pl l)) = some b ∨ w.heap.size ≤ b) → w'.ownsRow 0 ty k.size s' ys.length cells' → RowC w' F k ys cells' → s'.oneCell' = true →
      (match trunc with | true => v = s' | false => s' = ρ (pl l) ∧ AVG (RetCell w' (fun _ => False) none) av v) → K (a.put o.dst v) w') : o.wp P a w K Q := by
  unfold acallW at h
  split at h
  · cases h
  · rename_i con hcon
    obtain ⟨hs, fn, hfn, hname, hbody⟩ := H.cfg.conw f con hcon
    split at h
    · cases h
    · rename_i a0 ha0
      split at h
      · cases h
      · rename_i l0 ver0 hoc
        split at h
        · rename_i ver' ty' k' xs hl
          split at h
          · rename_i x hoth hpat
            split at h
            · rename_i ys' hcast
              injection h with e1 e2 e3 e4 e5 e6 e7 e8
              subst e1; subst e2; subst e3; subst e4; subst e5
              have e6 := eq_of_heq e6
              subst e6; subst e7; subst e8
              obtain ⟨hv1, hty, hbase, hpre⟩ := hp
              subst hv1; subst hty
              have hok := H.mem.ok l0
              rw [hl] at hok
              obtain ⟨cells, hw, hrow, hn⟩ := hok
              have hlive : (own l0).obj.live = true := by rw [hl]; rfl
              have hclo : DC w F (.clo f caps) (a.eval g) := H.ev' hg
              generalize hge : a.eval g = vg at hclo
              cases hclo with
              | clo us hul hus =>
                have hargs : ∀ (j : Nat) x v, (evL (evA slots) cl.args.toList ++ capsOf caps)[j]? = some x → (cl.args.toList.map a.eval ++ us)[j]? = some v → AVC w F ρ own x v := by
                  intro j x v hx hv
                  have hlen : (evL (evA slots) cl.args.toList).length = (cl.args.toList.map a.eval).length := by simp [evL]
                  by_cases hj : j < (cl.args.toList.map a.eval).length
                  · rw [List.getElem?_append_left (by omega)] at hx
                    rw [List.getElem?_append_left hj] at hv
                    exact evL_ok H _ j x v hx hv
                  · rw [List.getElem?_append_right (by omega), capsOf_get, hlen] at hx
                    rw [List.getElem?_append_right (by omega)] at hv
                    cases hc : caps[j - (cl.args.toList.map a.eval).length]? with
                    | none => rw [hc] at hx; cases hx
                    | some d =>
                      rw [hc] at hx
                      simp only [Option.map_some, Option.some.injEq] at hx
                      subst hx
                      exact hus _ d v hc hv
                have hone : (ρ (pl l0)).oneCell' = true := by rcases hw.2 with ⟨e, _⟩ | ⟨g', cap, cur, e, _⟩ <;> rw [e] <;> rfl
                have hcall := hs w F (evL (evA slots) cl.args.toList ++ capsOf caps) (cl.args.toList.map a.eval ++ us) a0 l0 ver0 x (ρ (pl l0)) k' xs ys' cells ha0 hoc hoth hpat hpre hcast hbase H.mem.fin
                  (by simp [evL, capsOf_len, hul]) (fun j y v hy hv => by
                    by_cases hj : j = con.wi
                    · subst hj
                      rw [nthA_eq, hy] at ha0
                      injection ha0 with ha0
                      subst ha0
                      exact own_arg hoc ⟨by rw [hl], by rw [hl]; trivial⟩ (hargs _ y v hy hv)
                    · exact strict_arg (othersD_get hoth j y hj hy) (hargs j y v hy hv)) hw hrow
                  (fun b hb => ⟨(blk_lt H.mem hlive (holds_of hb)).1, (hn b hb).2⟩) hone
                unfold Oper.wp
                have hrun : (execOp a.eval o).run P w = .ok (.enter f (cl.args.toList.map a.eval ++ us).toArray) w := by
                  have hargs' : (cl.args.map a.eval) ++ us.toArray = (cl.args.toList.map a.eval ++ us).toArray := by
                    apply Array.ext'; simp
                  have hname' : ¬ fn.name = "runtime.NumGoroutine" := by simpa using hname
                  have hbody' : ¬ fn.body = none := by intro h; rw [h] at hbody; cases hbody
                  simp [execOp, ho, resolve, hcl, hge, Deferred.ofValue, invoke, callFunc, hfn, hargs']
                  rw [if_neg hname', if_neg hbody']
                rw [hrun]
                refine hcall.mono fun e w' he => ?_
                obtain ⟨v, s', cells', rfl, q1, q2, q3, q4, q5, q6⟩ := he
                exact hK v w' s' cells' xs hl q1 q2 q3 q4 q5 q6
            · cases h
          · cases h
        · cases h

theorem e_callwT (H : Here P c N F ρ own slots a w) (hN : ∀ b, w.heap.size ≤ b → N b) {d : Nat} (hd : d < a.tmps.size) (hdst : o.dst = some d) {cl : Call} {g : Operand} (hcl : cl.callee = .value g) {f : FuncId} {caps : List D} (hg : evA slots g = .one (.d (.clo f caps))) {l ver : Nat} {ty : TypeId} {k : ElK} {ys : List k.T} {av : AV}
    (h : acallW c own f (evL (evA slots) cl.args.toList ++ capsOf caps) = .ok p l ver ty k ys true av) (hp : p) (ho : o.op = .call cl)
    {K : St → Prop} (hK : K ⟨upd slots d (.one (.own l (ver + 1))), upd own l ⟨ver + 1, .row ty k ys⟩⟩) : Eff P c N F ρ own o a w K Q := by
  unfold Eff
  refine callw_ok H hcl hg h hp ho fun v w' s' cells' xs hl hgr hbl hw hrow hone hres => ?_
  have hres : v = s' := hres
  subst hres
  have hlive : (own l).obj.live = true := by rw [hl]; rfl
  have hver : (own l).ver = ver := by rw [hl]
  exact next_row H hN hd hdst hone (by rw [if_pos hlive]; exact hgr) (fun b hb => (hbl b hb).imp (fun h => ⟨hlive, h⟩) id) hw hrow (by rw [hver]; exact hK)

theorem e_callwF (H : Here P c N F ρ own slots a w) {d : Nat} (hd : d < a.tmps.size) (hdst : o.dst = some d) {cl : Call} {g : Operand} (hcl : cl.callee = .value g) {f : FuncId} {caps : List D} (hg : evA slots g = .one (.d (.clo f caps))) {l ver : Nat} {ty : TypeId} {k : ElK} {ys : List k.T} {av : AV}
    (h : acallW c own f (evL (evA slots) cl.args.toList ++ capsOf caps) = .ok p l ver ty k ys false av) (hp : p) (ho : o.op = .call cl)
    {K : St → Prop} (hK : K ⟨upd slots d av, upd own l ⟨ver, .row ty k ys⟩⟩) : Eff P c N F ρ own o a w K Q := by
  unfold Eff
  refine callw_ok H hcl hg h hp ho fun v w' s' cells' xs hl hgr hbl hw hrow hone hres => ?_
  obtain ⟨rfl, hav⟩ : s' = ρ (pl l) ∧ AVG (RetCell w' (fun _ => False) none) av v := hres
  have hlive : (own l).obj.live = true := by rw [hl]; rfl
  have hnF : ∀ b, F b → some b ≠ blk (ρ (pl l)) := fun b hb e => (blk_lt H.mem hlive (holds_of e.symm)).2.2 hb
  have hext : Ext w F w' F := ⟨hgr.os, hgr.tape, hgr.output, hgr.size, fun b h => hgr.block b (H.mem.fin b h) (hnF b h), fun _ h => h⟩
  have hother : ∀ l', l' ≠ l → upd own l ⟨ver, .row ty k ys⟩ l' = own l' ∧ ρ (pl l') = ρ (pl l') := fun l' h => ⟨upd_ne _ _ h, rfl⟩
  have hC : ∀ z v, CellC w F ρ own z v → CellC w' F ρ (upd own l ⟨ver, .row ty k ys⟩) z v := fun z v h =>
    h.step (l := l) hext hother (.inr (by rw [upd_eq]; exact ⟨by rw [hl], rfl, .inr (.inl ⟨ty, k, xs, ys, by rw [hl], rfl⟩)⟩))
  refine ⟨_, F, ρ, hK, ⟨H.cfg, ?_, ?_⟩, hext, fun b h hn => hgr.block b h (fun e => hn (blk_lt H.mem hlive (holds_of e.symm)).2.1), fun b h => .inl h, ?_, ?_, fun l' => ?_, fun _ _ => ⟨rfl, fun _ => rfl⟩⟩
  · rw [hdst]
    refine slots_put hC H.sl hd (AVG.imp (fun z v hz => ?_) hav)
    cases z with
    | d x => exact DC.mono (ext_sub fun b hb => hb.elim) hz
    | own _ _ => cases hz
    | ptr _ _ _ _ => exact hz.elim
    | sub _ _ _ _ => exact hz.elim
  · refine H.mem.step (l := l) hext hother (fun _ _ _ => rfl) hC (fun l' b hne hl' hb hlt hn => ⟨hgr.block b hlt (fun e => H.mem.apart l l' b (Ne.symm hne) hlive hl' (holds_of e.symm) hb), hn⟩) ?_ (fun l' b hne hl' e1 e2 => H.mem.apart l l' b (Ne.symm hne) hlive hl' (holds_of (by simpa only [upd_eq, holds] using e1)) e2) (fun b h => Nat.lt_of_lt_of_le (H.mem.fin b h) hgr.size)
    show OwnOk _ N F _ _ l (upd own l _ l).obj
    rw [upd_eq]
    exact ⟨cells', hw, hrow, fun b hb => (blk_lt H.mem hlive (holds_of hb)).2⟩
  · rw [hdst]; exact put_size _ _ _
  · rw [hdst]; exact put_defers' _ _ _
  · have := ver_same own l (.row ty k ys) l'
    rw [hl] at this
    exact this

/-! ### A part of an own row is written -/
theorem putL_len {α : Type} (xs : List α) (off : Nat) (ys : List α) (h : off + ys.length ≤ xs.length) : (putL xs off ys).length = xs.length := by
  unfold putL; simp; omega
theorem putL_get {α : Type} (xs : List α) (off : Nat) (ys : List α) (h : off + ys.length ≤ xs.length) (n : Nat) : (putL xs off ys)[n]? = if off ≤ n ∧ n < off + ys.length then ys[n - off]? else xs[n]? := by
  unfold putL
  by_cases h1 : n < off
  · rw [List.getElem?_append_left (by simp; omega), if_neg (by omega), List.getElem?_take, if_pos h1]
  · rw [List.getElem?_append_right (by simp; omega), List.length_take, Nat.min_eq_left (by omega)]
    by_cases h2 : n < off + ys.length
    · rw [List.getElem?_append_left (by omega), if_pos (by omega)]
    · rw [List.getElem?_append_right (by omega), if_neg (by omega), List.getElem?_drop]
      congr 1
      omega

theorem eff_put (H : Here P c N F ρ own slots a w) (hd : ∀ d, o.dst = some d → d < a.tmps.size) {l off ver g cap : Nat} {ty : TypeId} {k : ElK} {xs ys : List k.T} {us : List Value} {x : AV} {u : Value}
    (hl : own l = ⟨ver, .row ty k xs⟩) (hρ : ρ (pl l) = .slice (some ⟨g, 0, none⟩) xs.length cap) (hoff : off + ys.length ≤ xs.length) (hrow' : RowC w F k ys us) (hul : us.length = ys.length * k.size)
    (hrun : ∀ w', (storeCells ⟨g, off * k.size, none⟩ us).run P w = .ok () w' → (execOp a.eval o).run P w = .ok (.value u) w') (hx : ∀ (C : Cell → Value → Prop), (∀ n, C (.d (.int .i64 n)) (.int .i64 n)) → AVG C x u)
    {K : St → Prop} (hK : K ⟨(St.put ⟨slots, own⟩ o.dst x).slots, upd own l ⟨ver, .row ty k (putL xs off ys)⟩⟩) : Eff P c N F ρ own o a w K Q := by
  have hok := H.mem.ok l
  rw [hl] at hok
  obtain ⟨vs, hw, hrow, hn⟩ := hok
  have hlive : (own l).obj.live = true := by rw [hl]; rfl
  have hbl : blk (ρ (pl l)) = some g := by rw [hρ]; rfl
  have hk4 := elk_size k
  rcases hw.2 with ⟨h0, _⟩ | ⟨g', cap', cur, hs, hbase, hh, hcap, hmax, hcs, htake⟩
  · rw [hρ] at h0; cases h0
  · rw [hρ] at hs
    injection hs with hs1 hs2 hs3
    injection hs1 with hs1
    injection hs1 with hs1
    subst hs1 hs3
    have htl : vs.length = xs.length * k.size := hw.1
    have hmul : off * k.size + ys.length * k.size ≤ xs.length * k.size := by rw [← Nat.add_mul]; exact Nat.mul_le_mul_right _ hoff
    have hcur : xs.length * k.size ≤ cur.size := by rw [hcs]; exact Nat.mul_le_mul_right _ hcap
    obtain ⟨w', r1, r2, r3, r4, r5, r6, r7⟩ := run_storeCells_own (P := P) g ty us (off * k.size) 0 cur w hh (by omega) (fun u hu => hrow'.1 u hu)
    have hexec := hrun w' r1
    obtain ⟨hlt, hNb, hFb⟩ := blk_lt H.mem hlive (holds_of hbl)
    have hext : Ext w F w' F := ⟨r3, r4, r5, by omega, fun b' h => r7 b' (by rintro rfl; exact hFb h), fun _ h => h⟩
    have hother : ∀ l', l' ≠ l → upd own l ⟨ver, .row ty k (putL xs off ys)⟩ l' = own l' ∧ ρ (pl l') = ρ (pl l') := fun l' h => ⟨upd_ne _ _ h, rfl⟩
    have hC : ∀ z v, CellC w F ρ own z v → CellC w' F ρ (upd own l ⟨ver, .row ty k (putL xs off ys)⟩) z v := fun z v h =>
      h.step (l := l) hext hother (.inr (by rw [upd_eq]; exact ⟨by rw [hl], rfl, .inr (.inl ⟨ty, k, xs, _, by rw [hl], rfl⟩)⟩))
    unfold Eff Oper.wp
    rw [hexec]
    refine ⟨_, F, ρ, hK, ⟨H.cfg, ?_, ?_⟩, hext, fun b' _ hn' => r7 b' (by rintro rfl; exact hn' hNb), fun b h => .inl h, put_size _ _ _, put_defers' _ _ _, fun l' => ?_, fun _ _ => ⟨rfl, fun _ => rfl⟩⟩
    · cases hdst : o.dst with
      | none => exact fun t => AVG.imp hC (H.sl t)
      | some d => exact slots_put hC H.sl (hd d hdst) (hx _ fun n => DC.int _ _)
    · refine H.mem.step (l := l) hext hother (fun _ _ _ => rfl) hC (fun l' b' hne hl' hb' hlt' hn' => ⟨r7 b' (by rintro rfl; exact H.mem.apart l l' b' (Ne.symm hne) hlive hl' (holds_of hbl) hb'), hn'⟩) ?_ (fun l' b' hne hl' e1 e2 => H.mem.apart l l' b' (Ne.symm hne) hlive hl' (holds_of (by simpa only [upd_eq, holds] using e1)) e2) (fun b' h => by rw [r6]; exact H.mem.fin b' h)
      show OwnOk _ N F _ _ l (upd own l _ l).obj
      rw [upd_eq]
      have hlen := putL_len xs off ys hoff
      obtain ⟨p1, p2⟩ := putV_get cur.toList (off * k.size + 0) us (by simp; omega)
      have hvs' : ∀ n, (List.take (xs.length * k.size) (putV cur.toList (off * k.size + 0) us))[n]? = if off * k.size ≤ n ∧ n < off * k.size + us.length then us[n - off * k.size]? else vs[n]? := by
        intro n
        rw [List.getElem?_take, p2, ← htake, List.getElem?_take]
        simp only [Nat.add_zero]
        by_cases hnl : n < xs.length * k.size
        · rw [if_pos hnl, if_pos hnl]
        · rw [if_neg hnl, if_neg hnl, if_neg (by omega)]
      refine ⟨(putV cur.toList (off * k.size + 0) us).take (xs.length * k.size), ⟨by rw [List.length_take, p1, hlen]; exact Nat.min_eq_left (by simpa using hcur), .inr ⟨g, cap, _, by rw [hlen]; exact hρ, hbase, r2, by rw [hlen]; exact hcap, hmax, by simp only [List.size_toArray, p1, Array.length_toList]; exact hcs, by rw [hlen]⟩⟩, ⟨fun v hv => ?_, fun n x' hx' => ?_⟩, fun b' hb' => ?_⟩
      · obtain ⟨n, hn'⟩ := List.getElem?_of_mem hv
        rw [hvs'] at hn'
        split at hn'
        · exact hrow'.1 v (List.mem_of_getElem? hn')
        · exact hrow.1 v (List.mem_of_getElem? hn')
      · rw [putL_get xs off ys hoff] at hx'
        have step : ∀ {i j : Nat}, i < j → i * k.size + k.size ≤ j * k.size := fun h => by rw [← Nat.succ_mul]; exact Nat.mul_le_mul_right _ h
        split at hx'
        · rename_i hin
          obtain ⟨us', g1, g2, g3⟩ := hrow'.2 _ x' hx'
          refine ⟨us', g1, Elem.mono hext k _ _ g2, fun m u' hm => ?_⟩
          have hml := (List.getElem?_eq_some_iff.1 hm).1
          have hlt2 := step (show n - off < ys.length by omega)
          have hsub : n * k.size = off * k.size + (n - off) * k.size := by rw [← Nat.add_mul]; congr 1; omega
          rw [hvs', if_pos (by omega), show n * k.size + m - off * k.size = (n - off) * k.size + m by omega]
          exact g3 m u' hm
        · rename_i hout
          obtain ⟨us', g1, g2, g3⟩ := hrow.2 n x' hx'
          refine ⟨us', g1, Elem.mono hext k _ _ g2, fun m u' hm => ?_⟩
          have hml := (List.getElem?_eq_some_iff.1 hm).1
          rw [hvs', if_neg, g3 m u' hm]
          intro ⟨q1, q2⟩
          by_cases hno : n < off
          · have := step hno; omega
          · have h3 : (off + ys.length) * k.size ≤ n * k.size := Nat.mul_le_mul_right _ (by omega)
            rw [Nat.add_mul] at h3
            omega
      · rw [hρ] at hb'
        simp only [blk, Option.some.injEq] at hb'
        subst hb'
        exact ⟨hNb, hFb⟩
    · show _ ≤ (upd own l _ l').ver
      rw [upd_get]
      split
      · rename_i h; subst h; rw [hl]; exact Nat.le_refl _
      · exact Nat.le_refl _

theorem e_clear (H : Here P c N F ρ own slots a w) (hdst : o.dst = none) {cl : Call} (ho : o.op = .call cl) (hcl : cl.callee = .builtin .clear) {t : TypeId} {x : Operand} (hargs : cl.args.toList = [x]) (hat : cl.argTypes.toList = [t])
    {sz b : Nat} {z0 z : List ZK} {e ty : TypeId} {k : ElK} {xs : List k.T} {l ver off n : Nat} {zv : k.T} (hty : c.ty t = some ⟨sz, z0, .slice e k b z⟩) (hx : evA slots x = .one (.sub l ver off n)) (hl : own l = ⟨ver, .row ty k xs⟩)
    (hz : k.dec (z.map ZK.c) = some zv) (hoff : off + n ≤ xs.length) {K : St → Prop} (hK : K ⟨slots, upd own l ⟨ver, .row ty k (putL xs off (List.replicate n zv))⟩⟩) : Eff P c N F ρ own o a w K Q := by
  obtain ⟨hu, hes, _, zval, hzr, hzc, hzs, ie, hie, hiz, hisz, hib⟩ := elem_size (H.cfg.ty _ _ hty)
  have hk4 := elk_size k
  have hd : CellC w F ρ own (.sub l ver off n) (a.eval x) := H.ev' hx
  obtain ⟨g, cp, hbl, hcp, he⟩ := (hd.2.2 (by rw [hl])).1 ty k xs (by rw [hl])
  have hok := H.mem.ok l
  rw [hl] at hok
  obtain ⟨vs, hw, hrow, hn⟩ := hok
  rcases hw.2 with ⟨h0, _⟩ | ⟨g', cap, cur, hs, _⟩
  · rw [h0] at hbl; simp [blk] at hbl
  · have hgg : g' = g := by rw [hs] at hbl; simpa [blk] using hbl
    subst hgg
    have hmade : (Builtin.zeroCells zval.cells n).toList = (List.replicate n zval.cells.toList).flatten := by
      have : Builtin.zeroCells zval.cells n = madeCells zval.cells (n * zval.cells.size) := rfl
      rw [this]
      exact zeros_row zval.cells n (by omega)
    have hrz : RowC w F k (List.replicate n zv) (List.replicate n zval.cells.toList).flatten := replicate_row (ρ := ρ) (own := own) n hz (by rw [hzc]; exact zk_ok z)
    refine eff_put H (fun d hd => by rw [hdst] at hd; cases hd) (x := .junk) (u := .tuple #[]) hl hs (ys := List.replicate n zv) (us := (List.replicate n zval.cells.toList).flatten) (by simpa using hoff) hrz ?_ (fun w' hst => ?_) (fun _ _ => trivial) (by rw [hdst]; exact hK)
    · rw [flat_len (size := k.size) _ (fun l hl => by rw [List.eq_of_mem_replicate hl, Array.length_toList, hzs]), List.length_replicate, List.length_replicate]
    · have hat' : cl.argTypes[0]? = some t := by rw [arr_of_list hat]; rfl
      have har' : cl.args = #[x] := arr_of_list hargs
      rw [← hmade] at hst
      cases n with
      | zero =>
        have e0 : (Builtin.zeroCells zval.cells 0).toList = [] := by rw [hmade]; rfl
        rw [e0] at hst
        simp [storeCells] at hst
        subst hst
        simp [execOp, ho, resolve, hcl, invoke, builtin, Builtin.clear_, hat', har', run_und hu, he]
      | succ n => simp [execOp, ho, resolve, hcl, invoke, builtin, Builtin.clear_, hat', har', run_und hu, he, hzr, hst]

/-- What copy reads, as cells in memory. -/
theorem read_ok (H : Here P c N F ρ own slots a w) {s : Operand} {q : Prop} {ys : List Int} (h : readOf own (evA slots s) = .ok q (.b .int) ys) (hq : q) (hne : 0 < ys.length) :
    ∃ ad cp, a.eval s = .slice (some ad) ys.length cp ∧ ∀ (j : Nat) v, (ys.map (Value.int .i64))[j]? = some v → w.cell? (ad.add j) = some v := by
  have hcells : ∀ {l g cap : Nat} {ty : TypeId} {xs : List Int} {ver : Nat}, own l = ⟨ver, .row ty (.b .int) xs⟩ → ρ (pl l) = .slice (some ⟨g, 0, none⟩) xs.length cap → ∀ (j : Nat) x, xs[j]? = some x → w.cell? ⟨g, j, none⟩ = some (.int .i64 x) := by
    intro l g cap ty xs ver hl hs j x hj
    have hok := H.mem.ok l
    rw [hl] at hok
    obtain ⟨vs, hw, hrow, hn⟩ := hok
    obtain ⟨us, u1, u2, u3⟩ := hrow.2 j x hj
    have u2 : us = [.int .i64 x] := u2
    subst u2
    have h1 := u3 0 (.int .i64 x) rfl
    have h1 : vs[j]? = some (.int .i64 x) := by simpa using h1
    rcases hw.2 with ⟨h0, _⟩ | ⟨g', cap', cur, hs', hbase, hh, hcap, hmax, hcs, htake⟩
    · rw [hs] at h0; cases h0
    · rw [hs] at hs'
      injection hs' with e1 e2 e3
      injection e1 with e1
      injection e1 with e1
      subst e1
      rw [← htake, List.getElem?_take] at h1
      split at h1
      · simp only [World.cell?, hh]
        rw [← Array.getElem?_toList]
        simpa using h1
      · cases h1
  unfold readOf at h
  split at h
  · rename_i nl k ys' hs
    injection h with e1 e2 e3
    subst e2
    have e3 := eq_of_heq e3
    subst e3
    have hd : DC w F (.sl nl (.b .int) ys') (a.eval s) := H.ev' hs
    generalize he : a.eval s = v at hd
    cases hd with
    | sl hn hsl =>
      rcases hsl with ⟨_, h0⟩ | ⟨ad, cp, rfl, hc, hF, hcell⟩
      · rw [h0] at hne; simp at hne
      · refine ⟨ad, cp, rfl, fun j v hj => ?_⟩
        rw [List.getElem?_map] at hj
        cases hx : ys'[j]? with
        | none => rw [hx] at hj; cases hj
        | some x =>
          rw [hx] at hj
          simp only [Option.map_some, Option.some.injEq] at hj
          subst hj
          obtain ⟨us, u1, u2, u3⟩ := hcell j x hx
          have u2 : us = [.int .i64 x] := u2
          subst u2
          have := u3 0 (.int .i64 x) rfl
          simpa using this
  · rename_i l ver hs
    split at h
    · rename_i ver' ty k ys' hl
      injection h with e1 e2 e3
      subst e1 e2
      have e3 := eq_of_heq e3
      subst e3
      have hd : CellC w F ρ own (.own l ver) (a.eval s) := H.ev' hs
      have he := hd.2.2 ⟨by rw [hl]; exact hq.symm, by rw [hl]; trivial⟩
      have hok := H.mem.ok l
      rw [hl] at hok
      obtain ⟨vs, hw, hrow, hn⟩ := hok
      rcases hw.2 with ⟨_, h0⟩ | ⟨g, cap, cur, hρ, _⟩
      · omega
      · refine ⟨⟨g, 0, none⟩, cap, by rw [he, hρ], fun j v hj => ?_⟩
        rw [List.getElem?_map] at hj
        cases hx : ys'[j]? with
        | none => rw [hx] at hj; cases hj
        | some x =>
          rw [hx] at hj
          simp only [Option.map_some, Option.some.injEq] at hj
          subst hj
          rw [add_lit', Nat.zero_add]
          exact hcells hl hρ j x hx
    · cases h
  · rename_i l ver off n hs
    split at h
    · rename_i ver' ty k ys' hl
      injection h with e1 e2 e3
      subst e1 e2
      have e3 := eq_of_heq e3
      subst e3
      obtain ⟨hv, hle⟩ := hq
      have hd : CellC w F ρ own (.sub l ver off n) (a.eval s) := H.ev' hs
      obtain ⟨g, cp, hb, hcp, he⟩ := (hd.2.2 (by rw [hl]; exact hv.symm)).1 ty _ ys' (by rw [hl])
      have hok := H.mem.ok l
      rw [hl] at hok
      obtain ⟨vs, hw, hrow, hn⟩ := hok
      rcases hw.2 with ⟨h0, _⟩ | ⟨g', cap, cur, hρ, _⟩
      · rw [h0] at hb; simp [blk] at hb
      · have hgg : g' = g := by rw [hρ] at hb; simpa [blk] using hb
        subst hgg
        have hlen : ((ys'.drop off).take n).length = n := by simp; omega
        refine ⟨⟨g', off * ElK.size (.b .int), none⟩, cp, by rw [he, hlen], fun j v hj => ?_⟩
        rw [List.getElem?_map, List.getElem?_take, List.getElem?_drop] at hj
        split at hj
        · cases hx : ys'[off + j]? with
          | none => rw [hx] at hj; cases hj
          | some x =>
            rw [hx] at hj
            simp only [Option.map_some, Option.some.injEq] at hj
            subst hj
            rw [add_lit', show off * ElK.size (.b .int) = off from Nat.mul_one _]
            exact hcells hl hρ (off + j) x hx
        · cases hj
    · cases h
  · cases h

theorem e_copy (H : Here P c N F ρ own slots a w) {d : Nat} (hd : d < a.tmps.size) (hdst : o.dst = some d) {cl : Call} (ho : o.op = .call cl) (hcl : cl.callee = .builtin .copy) {t t' : TypeId} {x s : Operand} (hargs : cl.args.toList = [x, s]) (hat : cl.argTypes.toList = [t, t'])
    {sz b : Nat} {z0 z : List ZK} {e ty : TypeId} {xs ys : List Int} {l ver off n g cp cap : Nat} {q : Prop} (hty : c.ty t = some ⟨sz, z0, .slice e (.b .int) b z⟩) (hx : a.eval x = .slice (some ⟨g, off, none⟩) n cp) (hl : own l = ⟨ver, .row ty (.b .int) xs⟩)
    (hρ : ρ (pl l) = .slice (some ⟨g, 0, none⟩) xs.length cap) (hs : readOf own (evA slots s) = .ok q (.b .int) ys) (hq : q) (hne : 0 < ys.length) (hoff : off + n ≤ xs.length)
    {K : St → Prop} (hK : K ⟨upd slots d (.one (.d (.int .i64 ((min ys.length n : Nat) : Int)))), upd own l ⟨ver, .row ty (.b .int) (putL xs off (ys.take n))⟩⟩) : Eff P c N F ρ own o a w K Q := by
  obtain ⟨hu, hes, _⟩ := elem_size (H.cfg.ty _ _ hty)
  obtain ⟨ad, sc, he, hcell⟩ := read_ok H hs hq hne
  have hrow : RowC w F (.b .int) (ys.take n) ((ys.take n).map (Value.int .i64)) := ⟨fun v hv => by obtain ⟨y, _, rfl⟩ := List.mem_map.1 hv; rfl, fun i y hy => ⟨[.int .i64 y], rfl, rfl, fun j u hj => by
    have hj0 : j = 0 := by have := (List.getElem?_eq_some_iff.1 hj).1; simp at this; omega
    subst hj0
    have hj : u = .int .i64 y := by simpa using hj.symm
    subst hj
    rw [show i * ElK.size (.b .int) + 0 = i from Nat.mul_one _, List.getElem?_map, hy]; rfl⟩⟩
  have hlen : ((ys.take n).map (Value.int .i64)).length = Nat.min ys.length n := by rw [List.length_map, List.length_take, Nat.min_comm]
  refine eff_put H (fun d' h => by rw [hdst] at h; injection h with h; subst h; exact hd) (x := .one (.d (.int .i64 ((min ys.length n : Nat) : Int)))) (u := .int .i64 ((min ys.length n : Nat) : Int)) hl hρ (k := .b .int) (off := off) (ys := (ys.take n : List Int)) (us := (ys.take n).map (Value.int .i64)) (by rw [List.length_take]; omega) hrow (by rw [List.length_map]; exact (Nat.mul_one _).symm) (fun w' hst => ?_) (fun C hC => hC _) (by rw [hdst]; exact hK)
  have hload := run_loadCells_list (P := P) w ad ((ys.take n).map (Value.int .i64)) (fun j v hj => by
    rw [List.getElem?_map, List.getElem?_take] at hj
    split at hj
    · exact hcell j v (by rw [List.getElem?_map]; exact hj)
    · cases hj)
  rw [hlen] at hload
  have hat' : cl.argTypes = #[t, t'] := arr_of_list hat
  have har' : cl.args = #[x, s] := arr_of_list hargs
  have hst : (storeCells ⟨g, off, none⟩ ((ys.take n).map (Value.int .i64))).run P w = .ok () w' := by
    have : off * ElK.size (.b .int) = off := Nat.mul_one _
    rwa [this] at hst
  cases hq' : P.info? e with
  | none => rw [hq'] at hes; cases hes
  | some i =>
    have hi : i.size = 1 := by rw [hq'] at hes; simpa using hes
    simp [execOp, ho, resolve, hcl, invoke, builtin, Builtin.copy_, hat', har', run_und hu, hx, he, Builtin.lenOf, Builtin.firstCells, sizeOf, typeInfo, hq', hi, hload, -List.map_take, hst, goInt]
/-! ### Tails of rows, and rows that are full -/
theorem slk_cells {G : Nat → Prop} {k : ElK} {ys : List k.T} {v : Value} (hy : SLK w G k ys v) (hne : 0 < ys.length) :
    ∃ ad cap news, v = .slice (some ad) ys.length cap ∧ news.length = ys.length * k.size ∧ (∀ (j : Nat) u, news[j]? = some u → w.cell? (ad.add j) = some u) ∧ RowC w G k ys news := by
  have hk4 := elk_size k
  rcases hy with ⟨_, h0⟩ | ⟨ad, cap, hxv, hc, hGb, hcell⟩
  · rw [h0] at hne; simp at hne
  have hfl : ∃ us : List (List Value), us.length = ys.length ∧ (∀ l ∈ us, l.length = k.size) ∧ ∀ (i : Nat) x u, ys[i]? = some x → us[i]? = some u → Elem w G k x u ∧ ∀ j v, u[j]? = some v → w.cell? (ad.add (i * k.size + j)) = some v := by
    have : ∀ n, n ≤ ys.length → ∃ us : List (List Value), us.length = n ∧ (∀ l ∈ us, l.length = k.size) ∧ ∀ (i : Nat) x u, i < n → ys[i]? = some x → us[i]? = some u → Elem w G k x u ∧ ∀ j v, u[j]? = some v → w.cell? (ad.add (i * k.size + j)) = some v := by
      intro n
      induction n with
      | zero => intro _; exact ⟨[], rfl, fun l hl => by simp at hl, fun i x u hi => absurd hi (by omega)⟩
      | succ n ih =>
        intro hn
        obtain ⟨us, h1, h2, h3⟩ := ih (by omega)
        obtain ⟨u, g1, g2, g3⟩ := hcell n _ (List.getElem?_eq_getElem (by omega))
        refine ⟨us ++ [u], by simp [h1], fun l hl => ?_, fun i x u' hi hx hu' => ?_⟩
        · rcases List.mem_append.1 hl with hl | hl
          · exact h2 l hl
          · rw [List.mem_singleton.1 hl, g1]
        · by_cases hin : i < n
          · rw [List.getElem?_append_left (by omega)] at hu'
            exact h3 i x u' hin hx hu'
          · have : i = n := by omega
            subst this
            rw [List.getElem?_append_right (by omega), h1, Nat.sub_self] at hu'
            simp only [List.getElem?_cons_zero, Option.some.injEq] at hu'
            subst hu'
            rw [List.getElem?_eq_getElem (by omega)] at hx
            injection hx with hx
            subst hx
            exact ⟨g2, g3⟩
    obtain ⟨us, h1, h2, h3⟩ := this ys.length (Nat.le_refl _)
    exact ⟨us, h1, h2, fun i x u hx hu => h3 i x u (List.getElem?_eq_some_iff.1 hx).1 hx hu⟩
  obtain ⟨us, u1, u2, u3⟩ := hfl
  refine ⟨ad, cap, us.flatten, hxv, by rw [flat_len us u2, u1], fun j u hj => ?_, fun v hv => ?_, fun i x hx => ?_⟩
  · have hjd : j = j / k.size * k.size + j % k.size := by rw [Nat.mul_comm]; exact (Nat.div_add_mod j k.size).symm
    have hm := Nat.mod_lt j hk4.2
    have hf := flat_get us (j / k.size) (j % k.size) u2 hm
    rw [← hjd, hj] at hf
    cases hq : us[j / k.size]? with
    | none => rw [hq] at hf; cases hf
    | some l =>
      rw [hq] at hf
      have hlt := (List.getElem?_eq_some_iff.1 hq).1
      have := (u3 (j / k.size) _ l (List.getElem?_eq_getElem (by omega)) hq).2 (j % k.size) u hf.symm
      rwa [← hjd] at this
  · obtain ⟨l, hl, hv'⟩ := List.mem_flatten.1 hv
    obtain ⟨i, hi⟩ := List.getElem?_of_mem hl
    have hlt := (List.getElem?_eq_some_iff.1 hi).1
    have := (u3 i _ l (List.getElem?_eq_getElem (by omega)) hi).1
    exact one_of_cells (elem_enc (ρ := noRho) (own := deadOwn) this) v hv'
  · have hlt := (List.getElem?_eq_some_iff.1 hx).1
    have hus : us[i]? = some (us[i]'(by omega)) := List.getElem?_eq_getElem (by omega)
    refine ⟨_, u2 _ (List.getElem_mem _), (u3 i x _ hx hus).1, fun j u hj => ?_⟩
    have hjl := (List.getElem?_eq_some_iff.1 hj).1
    have := u2 _ (List.getElem_mem (l := us) (h := by omega) (n := i))
    rw [flat_get us i j u2 (by omega), hus]
    exact hj
theorem TailOk.ofRow {ty : TypeId} {size n : Nat} {v : Value} {vs : List Value} (h : w.ownsRow 0 ty size v n vs) (hn : 0 < n) : TailOk w ty size v n vs := by
  rcases h.2 with ⟨_, h0⟩ | ⟨g, cap, cur, hv, _, hh, hc, hm, hs, ht⟩
  · omega
  · exact ⟨g, 0, cap, cur, hv, hh, hc, hm, fun _ => by rw [hs]; omega, by rw [List.drop_zero]; exact ht.symm, h.1⟩
theorem RowC.drop {k : ElK} {xs : List k.T} {vs : List Value} (h : RowC w F k xs vs) (n : Nat) : RowC w F k (xs.drop n) (vs.drop (n * k.size)) := by
  refine ⟨fun v hv => h.1 v (List.mem_of_mem_drop hv), fun i x hx => ?_⟩
  rw [List.getElem?_drop] at hx
  obtain ⟨us, h1, h2, h3⟩ := h.2 _ x hx
  refine ⟨us, h1, h2, fun j u hj => ?_⟩
  rw [List.getElem?_drop, ← Nat.add_assoc, ← Nat.add_mul]
  exact h3 j u hj
/-- A place that holds the tail of a row from now on. -/
theorem next_tail (H : Here P c N F ρ own slots a w) (hN : ∀ b, w.heap.size ≤ b → N b) {d l : Nat} (hd : d < a.tmps.size) (hdst : o.dst = some d) {w' : World} {s : Value} {ty : TypeId} {k : ElK} {ys : List k.T} {vs : List Value}
    (hg : w.grownBy w' (if (own l).obj.live then blk (ρ (pl l)) else none))
    (hs : ∀ b, blk s = some b → ((own l).obj.live = true ∧ blk (ρ (pl l)) = some b) ∨ (w.heap.size ≤ b))
    (hw : TailOk w' ty k.size s ys.length vs) (hrow : RowC w' F k ys vs)
    {K : St → Prop} (hK : K ⟨upd slots d (.one (.own l ((own l).ver + 1))), upd own l ⟨(own l).ver + 1, .tail ty k ys⟩⟩) : ∃ σ' F' ρ', K σ' ∧ Next' P c N F ρ own a w σ' (a.put o.dst s) w' F' ρ' := by
  have hone : s.oneCell' = true := by obtain ⟨g, off, cap, cur, rfl, _⟩ := hw; rfl
  have hnF : ∀ b, F b → some b ≠ (if (own l).obj.live then blk (ρ (pl l)) else none) := fun b hb e => by
    split at e
    · rename_i hl
      exact (blk_lt H.mem hl (holds_of e.symm)).2.2 hb
    · cases e
  have hext : Ext w F w' F := ⟨hg.os, hg.tape, hg.output, hg.size, fun b h => hg.block b (H.mem.fin b h) (hnF b h), fun _ h => h⟩
  have hC : ∀ z v, CellC w F ρ own z v → CellC w' F (upd ρ (pl l) s) (upd own l ⟨(own l).ver + 1, .tail ty k ys⟩) z v := fun z v h =>
    h.step (l := l) hext (upd_two own ρ l _ s) (.inl (by rw [upd_eq]; exact Nat.lt_succ_self _))
  have hblk : ∀ b, blk s = some b → N b ∧ ¬ F b := fun b hb => by
    rcases hs b hb with ⟨h1, h2⟩ | h
    · exact (blk_lt H.mem h1 (holds_of h2)).2
    · exact ⟨hN b h, fun hf => by have := H.mem.fin b hf; omega⟩
  refine ⟨_, F, upd ρ (pl l) s, hK, ⟨H.cfg, ?_, ?_⟩, hext, fun b h hn => hg.block b h (fun e => ?_), fun b h => .inl h, ?_, ?_, ver_two own l _, keep_two own ρ l _ s⟩
  · rw [hdst]
    refine slots_put hC H.sl hd ?_
    show CellC w' F _ _ (.own l _) s
    exact ⟨hone, by rw [upd_eq]; exact Nat.le_refl _, fun _ => (upd_eq _ _ _).symm⟩
  · refine H.mem.step (l := l) hext (upd_two own ρ l _ s) (inn_two ρ l s) hC (fun l' b hne hl' hb hlt hn => ⟨hg.block b hlt (fun e => ?_), hn⟩) ?_ (fun l' b hne hl' e1 e2 => ?_) (fun b h => Nat.lt_of_lt_of_le (H.mem.fin b h) hg.size)
    · split at e
      · rename_i hl
        exact H.mem.apart l l' b (Ne.symm hne) hl hl' (holds_of e.symm) hb
      · cases e
    · show OwnOk _ N F _ _ l (upd own l _ l).obj
      rw [upd_eq]
      refine ⟨vs, by rw [upd_eq]; exact hw, hrow, fun b hb => hblk b (by rwa [upd_eq] at hb)⟩
    · simp only [upd_eq, holds] at e1
      rcases hs b e1 with ⟨h1, h2⟩ | h
      · exact H.mem.apart l l' b (Ne.symm hne) h1 hl' (holds_of h2) e2
      · have := (blk_lt H.mem hl' e2).1
        omega
  · split at e
    · rename_i hl
      exact hn (blk_lt H.mem hl (holds_of e.symm)).2.1
    · cases e
  · rw [hdst]; exact put_size _ _ _
  · rw [hdst]; exact put_defers' _ _ _
/-- A row, or the tail of one, from an element on. -/
theorem e_tail (H : Here P c N F ρ own slots a w) (hN : ∀ b, w.heap.size ≤ b → N b) {d l ver : Nat} (hd : d < a.tmps.size) (hdst : o.dst = some d) {t : TypeId} {x lo : Operand} (ho : o.op = .slice t x (some lo) none none)
    {sz b : Nat} {z0 z : List ZK} {e ty : TypeId} {k k' : ElK} {xs : List k.T} {ki : IntKind} {h : Int} {vs : List Value} (hty : c.ty t = some ⟨sz, z0, .slice e k' b z⟩) (hk : k' = k) (he : a.eval x = ρ (pl l)) (hh : evA slots lo = .one (.d (.int ki h)))
    (hver : (own l).ver = ver) (hlive : (own l).obj.live = true) (hw : TailOk w ty k.size (ρ (pl l)) xs.length vs) (hrow : RowC w F k xs vs) (h0 : 0 ≤ h) (h1 : h ≤ (xs.length : Int))
    {K : St → Prop} (hK : K ⟨upd slots d (.one (.own l (ver + 1))), upd own l ⟨ver + 1, .tail ty k (xs.drop h.toNat)⟩⟩) : Eff P c N F ρ own o a w K Q := by
  subst hk
  obtain ⟨hu, hes, _⟩ := elem_size (H.cfg.ty _ _ hty)
  have hw' := hw
  obtain ⟨g, off, cap, cur, hs, hg, hnc, hcm, hcs, hvs, hvl⟩ := hw
  rw [hs] at he
  have hr := run_sliceB t e hu _ hes (some ⟨g, off, none⟩) xs.length cap hnc (some (.int ki h)) none h xs.length (.inr ⟨ki, rfl⟩) (.inl ⟨rfl, rfl⟩) h0 h1 (Int.le_refl _) w
  generalize hof : (if cap = h.toNat then off else off + h.toNat * k'.size) = off'
  have e1 : (if cap = h.toNat then some (⟨g, off, none⟩ : Addr) else (some (⟨g, off, none⟩ : Addr)).map (·.add (h.toNat * k'.size))) = some ⟨g, off', none⟩ := by
    rw [← hof]
    split
    · rfl
    · simp [add_lit']
  rw [e1] at hr
  have hdl : (xs.drop h.toNat).length = xs.length - h.toNat := List.length_drop
  unfold Eff Oper.wp
  rw [show (execOp a.eval o).run P w = .ok (.value (.slice (some ⟨g, off', none⟩) (xs.length - h.toNat) (cap - h.toNat))) w by
    simp [execOp, ho, he, H.int hh]
    simp at hr
    rw [hr]
    rfl]
  refine next_tail H hN (l := l) hd hdst (w' := w) (s := .slice (some ⟨g, off', none⟩) (xs.length - h.toNat) (cap - h.toNat)) (vs := vs.drop (h.toNat * k'.size)) (World.grownBy.refl w _) (fun b hb => .inl ⟨hlive, ?_⟩) ?_ (hrow.drop _) (by rw [hver]; exact hK)
  · rw [hs]; simpa [blk] using hb
  · rw [hdl]
    refine ⟨g, off', cap - h.toNat, cur, rfl, hg, by omega, by omega, fun hc => ?_, ?_, by rw [List.length_drop, hvl, Nat.sub_mul]⟩
    · rw [hcs (by omega), ← hof, if_neg (by omega), Nat.sub_mul]
      have : h.toNat * k'.size ≤ cap * k'.size := Nat.mul_le_mul_right _ (by omega)
      omega
    · rw [hvs, List.drop_take, List.drop_drop, ← Nat.sub_mul, ← hof]
      by_cases hc : cap = h.toNat
      · rw [show xs.length - h.toNat = 0 by omega, Nat.zero_mul, List.take_zero, List.take_zero]
      · rw [if_neg hc]
theorem run_append_room_off (t ty e : TypeId) (i : TypeInfo) (ht : P.underlying t = some (.slice e)) (hi : P.info? e = some i)
    (g off sLen sCap : Nat) (cur : Array Value) (hg : w.heap[g]? = some (.cells cur e (0, 0)))
    (a : Addr) (m c : Nat) (news : List Value) (hl : news.length = m * i.size) (hnews : ∀ j u, news[j]? = some u → w.cell? (a.add j) = some u) (h1 : ∀ u ∈ news, u.oneCell' = true)
    (hroom : sLen + m ≤ sCap) (hfit : off + sLen * i.size + news.length ≤ cur.size) :
    (Builtin.append_ #[t, t] ty #[.slice (some ⟨g, off, none⟩) sLen sCap, .slice (some a) m c]).run P w =
      .ok (.slice (some ⟨g, off, none⟩) (sLen + m) sCap) (w.setRow g (cur.toList.take (off + sLen * i.size) ++ news ++ cur.toList.drop (off + sLen * i.size + news.length)).toArray) := by
  have hf := run_firstCells_some (P := P) w i.size m a m c news hl hnews
  have hst := run_storeCells_at P g (off + sLen * i.size) e news 0 cur w hg (by simpa using hfit) h1
  simp only [Nat.add_zero] at hst
  simp [Builtin.append_, run_underlying ht, sizeOf, typeInfo, hi, Builtin.lenOf, hroom, hf, add_lit', hst]
/-- What append yields where there is no room: a new row. -/
theorem grown_row (t : TypeId) (e : TypeId) {i : TypeInfo} {z : Value} {size : Nat} (hsize : i.size = size) (hzs : z.cells.size = size) (n m old : Nat) (olds news : List Value) (hlo : olds.length = n * size) (hl : news.length = m * size) (ho : old < n + m) (h63 : n + m ≤ maxLen) (w : World) :
    (w.drew.alloc (.cells (olds.toArray ++ news.toArray ++ Builtin.zeroCells z.cells (grownCap w (n + m) old e - (n + m))) e)).ownsRow 0 e size (.slice (some ⟨w.heap.size, 0, none⟩) (n + m) (grownCap w (n + m) old e)) (n + m) (olds ++ news) ∧
    ∀ row, w.grownBy (w.drew.alloc (.cells (olds.toArray ++ news.toArray ++ Builtin.zeroCells z.cells (grownCap w (n + m) old e - (n + m))) e)) row := by
  subst hsize
  have hge := grownCap_ge w (n + m) old e
  have hcm : grownCap w (n + m) old e ≤ maxLen := grownCap_le_maxLen w (n + m) old e h63
  have hlen : (olds ++ news).length = (n + m) * i.size := by rw [List.length_append, hlo, hl, Nat.add_mul]
  refine ⟨⟨hlen, .inr ⟨w.heap.size, _, _, rfl, Nat.zero_le _, heap_alloc_new w.drew _, hge, hcm, ?_, ?_⟩⟩, fun row => ⟨rfl, rfl, rfl, by simp, fun k hk _ => heap_alloc_old w.drew _ hk⟩⟩
  · simp only [Array.size_append, List.size_toArray, size_zeroCells, hzs, hlo, hl, ← Nat.add_mul]
    congr 1
    omega
  · simp only [Array.toList_append, List.append_assoc]
    rw [← List.append_assoc, ← hlen]
    exact List.take_left
theorem e_apptail (H : Here P c N F ρ own slots a w) (hN : ∀ b, w.heap.size ≤ b → N b) {d l : Nat} (hd : d < a.tmps.size) (hdst : o.dst = some d) {cl : Call} (ho : o.op = .call cl) (hcl : cl.callee = .builtin .append) {t : TypeId} {s x : Operand} (hargs : cl.args.toList = [s, x]) (hat : cl.argTypes.toList = [t, t])
    {sz b : Nat} {z0 z : List ZK} {e : TypeId} {k : ElK} {xs ys : List k.T} {vs : List Value} (hty : c.ty t = some ⟨sz, z0, .slice e k b z⟩)
    (he : a.eval s = ρ (pl l)) (hw : TailOk w e k.size (ρ (pl l)) xs.length vs) (hrow : RowC w F k xs vs) (hlive : (own l).obj.live = true)
    {G : Nat → Prop} (hy : SLK w G k ys (a.eval x)) (hyb : k.base = true ∨ ∀ n, G n → F n) (hne : 0 < ys.length) (hlen : xs.length + ys.length ≤ 1073741824) (hb : b ≤ 4096)
    {K : St → Prop} (hK : K ⟨upd slots d (.one (.own l ((own l).ver + 1))), upd own l ⟨(own l).ver + 1, .tail e k (xs ++ ys)⟩⟩) : Eff P c N F ρ own o a w K Q := by
  obtain ⟨hu, hes, _, zv, hzr, hzc, hzs, ie, hie, hiz, hisz, hib⟩ := elem_size (H.cfg.ty _ _ hty)
  have hk4 := elk_size k
  have hbytes : (xs.length + ys.length) * b ≤ 140737488355328 := by
    have : (xs.length + ys.length) * b ≤ 1073741824 * 4096 := Nat.mul_le_mul hlen hb
    omega
  obtain ⟨ad, cy, news, hxv, hnl, hnews, hrowY⟩ := slk_cells hy hne
  have hw0 := hw
  obtain ⟨g, off, cap, cur, hs, hg, hnc, hcm, hcs, hvs, hvl⟩ := hw
  have hbl : blk (ρ (pl l)) = some g := by rw [hs]; rfl
  obtain ⟨hlt, hNg, hFg⟩ := blk_lt H.mem hlive (holds_of hbl)
  have hexec : ∀ {r : Value} {w' : World}, (Builtin.append_ #[t, t] o.type #[a.eval s, a.eval x]).run P w = .ok r w' → (execOp a.eval o).run P w = .ok (.value r) w' := by
    intro r w' hr
    simp [execOp, ho, resolve, hcl, invoke, builtin, arr_of_list hargs, arr_of_list hat, hr]
  have hl2 : (xs ++ ys).length = xs.length + ys.length := List.length_append
  have hrowY' : RowC w F k ys news := by
    rcases hyb with hyb | hyb
    · refine ⟨hrowY.1, fun i x hx => ?_⟩
      obtain ⟨us', e1, e2, e3⟩ := hrowY.2 i x hx
      refine ⟨us', e1, ?_, e3⟩
      cases k with
      | b e => exact e2
      | s e => cases hyb
    · exact hrowY.mono (ext_sub hyb)
  have hrowA := hrow.append hrowY' hvl
  unfold Eff Oper.wp
  by_cases hroom : xs.length + ys.length ≤ cap
  · have hfit : off + xs.length * k.size + news.length ≤ cur.size := by
      rw [hnl, hcs (by omega), Nat.add_assoc, ← Nat.add_mul]
      exact Nat.add_le_add_left (Nat.mul_le_mul_right _ hroom) _
    have hr := run_append_room_off (P := P) (w := w) t o.type e ie hu hie g off xs.length cap cur hg ad ys.length cy news (by rw [hisz]; exact hnl) hnews hrowY.1 hroom (by rw [hisz]; exact hfit)
    rw [hexec (by rw [he, hs, hxv]; exact hr)]
    rw [hisz]
    have hgr : w.grownBy (w.setRow g (cur.toList.take (off + xs.length * k.size) ++ news ++ cur.toList.drop (off + xs.length * k.size + news.length)).toArray) (some g) := ⟨rfl, rfl, rfl, by simp, fun n _ hn => setRow_other w g n _ (fun e => hn (by rw [e]))⟩
    have hext : Ext w F (w.setRow g (cur.toList.take (off + xs.length * k.size) ++ news ++ cur.toList.drop (off + xs.length * k.size + news.length)).toArray) F := ⟨rfl, rfl, rfl, hgr.size, fun n h => hgr.block n (H.mem.fin n h) (fun e => hFg (by injection e with e; rw [← e]; exact h)), fun _ h => h⟩
    refine next_tail H hN (l := l) hd hdst (s := .slice (some ⟨g, off, none⟩) (xs.length + ys.length) cap) (vs := vs ++ news) (by rw [if_pos hlive, hbl]; exact hgr) (fun b hb => .inl ⟨hlive, by rw [hbl]; simpa [blk] using hb⟩) ?_ (hrowA.mono hext) hK
    rw [hl2]
    refine ⟨g, off, cap, _, rfl, setRow_heap w g cur _ e _ hg, hroom, hcm, fun hc => ?_, ?_, by rw [List.length_append, hvl, hnl, Nat.add_mul]⟩
    · rw [← hcs hc]
      simp only [List.size_toArray, List.length_append, List.length_take, List.length_drop, Array.length_toList]
      omega
    · have hcl' : off + xs.length * k.size ≤ cur.toList.length := by have : cur.toList.length = cur.size := Array.length_toList; omega
      have hA : (cur.toList.take (off + xs.length * k.size)).drop off = vs := by rw [List.drop_take, Nat.add_sub_cancel_left, ← hvs]
      simp only
      rw [List.append_assoc, List.drop_append_of_le_length (by rw [List.length_take]; omega), hA, ← List.append_assoc, List.take_left' (by rw [List.length_append, hvl, hnl, Nat.add_mul])]
  · have hr := run_append_grow (P := P) w t o.type e ie zv hu hie hiz ⟨g, off, none⟩ xs.length cap vs (by rw [hisz]; exact hvl) (fun j u hj => by rw [add_lit']; exact hw0.cell hs j u hj) ad ys.length cy news (by rw [hisz]; exact hnl) hnews (by omega) (by omega) (growslice_fits (by omega) (by rw [hib]; exact hbytes))
    rw [hexec (by rw [he, hs, hxv]; exact hr)]
    obtain ⟨q1, q2⟩ := grown_row t e (i := ie) hisz hzs xs.length ys.length cap vs news hvl hnl (by omega) (by unfold maxLen; omega) w
    generalize w.drew.alloc (.cells (vs.toArray ++ news.toArray ++ Builtin.zeroCells zv.cells (grownCap w (xs.length + ys.length) cap e - (xs.length + ys.length))) e) = w' at *
    have hgr := q2 (some g)
    have hext : Ext w F w' F := ⟨hgr.os, hgr.tape, hgr.output, hgr.size, fun n h => hgr.block n (H.mem.fin n h) (fun e => hFg (by injection e with e; rw [← e]; exact h)), fun _ h => h⟩
    refine next_tail H hN (l := l) hd hdst (vs := vs ++ news) (by rw [if_pos hlive, hbl]; exact hgr) (fun b hb => .inr ?_) ?_ (hrowA.mono hext) hK
    · simp only [blk, Option.some.injEq] at hb; omega
    · rw [hl2]; exact TailOk.ofRow q1 (by omega)
theorem e_appfull (H : Here P c N F ρ own slots a w) (hN : ∀ b, w.heap.size ≤ b → N b) {d : Nat} (hd : d < a.tmps.size) (hdst : o.dst = some d) {cl : Call} (ho : o.op = .call cl) (hcl : cl.callee = .builtin .append) {t : TypeId} {s x : Operand} (hargs : cl.args.toList = [s, x]) (hat : cl.argTypes.toList = [t, t])
    {sz b : Nat} {z0 z : List ZK} {e : TypeId} {k : ElK} {xs ys : List k.T} (hty : c.ty t = some ⟨sz, z0, .slice e k b z⟩)
    (hs : SLK w F k xs (a.eval s)) (hfull : ∃ pa n, a.eval s = .slice pa n n)
    {G : Nat → Prop} (hy : SLK w G k ys (a.eval x)) (hyb : k.base = true ∨ ∀ n, G n → F n) (hne : 0 < ys.length) (hlen : xs.length + ys.length ≤ 1073741824) (hb : b ≤ 4096)
    {K : St → Prop} (hK : K ⟨upd slots d (.one (.own d ((own d).ver + 1))), upd own d ⟨(own d).ver + 1, .row e k (xs ++ ys)⟩⟩) : Eff P c N F ρ own o a w K Q := by
  obtain ⟨hu, hes, _, zv, hzr, hzc, hzs, ie, hie, hiz, hisz, hib⟩ := elem_size (H.cfg.ty _ _ hty)
  have hk4 := elk_size k
  have hbytes : (xs.length + ys.length) * b ≤ 140737488355328 := by
    have : (xs.length + ys.length) * b ≤ 1073741824 * 4096 := Nat.mul_le_mul hlen hb
    omega
  obtain ⟨ad, cy, news, hxv, hnl, hnews, hrowY⟩ := slk_cells hy hne
  have hexec : ∀ {r : Value} {w' : World}, (Builtin.append_ #[t, t] o.type #[a.eval s, a.eval x]).run P w = .ok r w' → (execOp a.eval o).run P w = .ok (.value r) w' := by
    intro r w' hr
    simp [execOp, ho, resolve, hcl, invoke, builtin, arr_of_list hargs, arr_of_list hat, hr]
  have hl2 : (xs ++ ys).length = xs.length + ys.length := List.length_append
  have hrowY' : RowC w F k ys news := by
    rcases hyb with hyb | hyb
    · refine ⟨hrowY.1, fun i x hx => ?_⟩
      obtain ⟨us', e1, e2, e3⟩ := hrowY.2 i x hx
      refine ⟨us', e1, ?_, e3⟩
      cases k with
      | b e => exact e2
      | s e => cases hyb
    · exact hrowY.mono (ext_sub hyb)
  have key : ∃ olds old, olds.length = xs.length * k.size ∧ RowC w F k xs olds ∧ old < xs.length + ys.length ∧ (Builtin.append_ #[t, t] o.type #[a.eval s, a.eval x]).run P w = .ok (.slice (some ⟨w.heap.size, 0, none⟩) (xs.length + ys.length) (grownCap w (xs.length + ys.length) old e))
      (w.drew.alloc (.cells (olds.toArray ++ news.toArray ++ Builtin.zeroCells zv.cells (grownCap w (xs.length + ys.length) old e - (xs.length + ys.length))) e)) := by
    obtain ⟨pa, n, hsv⟩ := hfull
    rcases Nat.eq_zero_or_pos xs.length with h0 | h0
    · have hx0 : xs = [] := List.eq_nil_of_length_eq_zero h0
      subst hx0
      refine ⟨[], 0, by simp, ⟨fun v hv => by simp at hv, fun i x hx => by simp at hx⟩, by simpa using hne, ?_⟩
      rcases hs with ⟨hv, _⟩ | ⟨ad0, cap0, hv, _⟩
      · have hr := run_append_nil (P := P) w t o.type e ie zv hu hie hiz ad ys.length cy news (by rw [hisz]; exact hnl) hnews hne (by simp at hlen; omega) (by rw [hib]; simp at hbytes; omega)
        rw [hv, hxv, hr]
        simp
      · rw [hv] at hsv
        injection hsv with e1 e2 e3
        have hc0 : cap0 = 0 := by rw [e3, ← e2]; rfl
        subst hc0
        have hr := run_append_grow (P := P) w t o.type e ie zv hu hie hiz ad0 0 0 [] (by simp) (fun j u hj => by simp at hj) ad ys.length cy news (by rw [hisz]; exact hnl) hnews (by omega) (by simp at hlen; omega) (growslice_fits (by omega) (by rw [hib]; simpa using hbytes))
        rw [hv, hxv]
        exact hr
    · obtain ⟨ad0, cap0, olds, hv, hol, holds, hrowX⟩ := slk_cells hs h0
      rw [hv] at hsv
      injection hsv with e1 e2 e3
      have hc0 : cap0 = xs.length := by rw [e3, ← e2]
      subst hc0
      have hr := run_append_grow (P := P) w t o.type e ie zv hu hie hiz ad0 xs.length xs.length olds (by rw [hisz]; exact hol) holds ad ys.length cy news (by rw [hisz]; exact hnl) hnews (by omega) (by omega) (growslice_fits (by omega) (by rw [hib]; exact hbytes))
      exact ⟨olds, xs.length, hol, hrowX, by omega, by rw [hv, hxv]; exact hr⟩
  obtain ⟨olds, old, hol, hrowX, hold, hr⟩ := key
  obtain ⟨q1, q2⟩ := grown_row t e (i := ie) hisz hzs xs.length ys.length old olds news hol hnl hold (by unfold maxLen; omega) w
  have hrun := hexec hr
  generalize w.drew.alloc (.cells (olds.toArray ++ news.toArray ++ Builtin.zeroCells zv.cells (grownCap w (xs.length + ys.length) old e - (xs.length + ys.length))) e) = w' at *
  have hgr := q2 none
  have hext : Ext w F w' F := ⟨hgr.os, hgr.tape, hgr.output, hgr.size, fun n h => hgr.block n (H.mem.fin n h) (fun e => by cases e), fun _ h => h⟩
  exact eff_row H hN (l := d) hd hdst hrun rfl (q2 _) (fun b hb => .inr (by simp only [blk, Option.some.injEq] at hb; omega)) (by rw [hl2]; exact q1) ((hrowX.append hrowY' hol).mono hext) hK
end
end Go.Proofs.Ytfjmlaciogmndaa
