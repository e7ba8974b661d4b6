/- Code, functions, and contracts by shape. -/
import Derived.Test.YtfjmlaciogmndaaVh
namespace Go.Proofs.Ytfjmlaciogmndaa
open Go.RowKit

def opsB (c : Cfg) (n : Nat) (ops : Array Oper) (draw : Bool) : Bool := ops.all (fun o => match o.dst with | some d => decide (d < n) | none => true) && (!draw || drawB c ops)

/-- The check of a body, once a function. -/
def codeB (c : Cfg) (n : Nat) : Code → Bool
  | .region _ ops draw => opsB c n ops draw
  | .seq x y => codeB c n x && codeB c n y
  | .cond _ x y => codeB c n x && codeB c n y
  | .block _ x => codeB c n x
  | .loop x => codeB c n x
  | _ => true

section
variable {P : Program} {c : Cfg} {w0 : World} {N F0 : Nat → Prop} {ρ0 : Nat → Value} {own0 : Nat → Loc} {n : Nat}

theorem opsB_dst {ops : Array Oper} {draw : Bool} (h : opsB c n ops draw = true) : ∀ (i : Nat) o d, ops[i]? = some o → o.dst = some d → d < n := by
  intro i o d hi hd
  unfold opsB at h
  simp only [Bool.and_eq_true] at h
  obtain ⟨hlt, he⟩ := Array.getElem?_eq_some_iff.1 hi
  have := Array.all_eq_true.1 h.1 i hlt
  rw [he, hd] at this
  simpa using this

/-- A state may be weakened. -/
theorem Good.wk {σ σ' : St} {a : Act} {w : World} (hk : Wk c σ σ') (h : Good P c w0 N F0 ρ0 own0 n σ a w) : Good P c w0 N F0 ρ0 own0 n σ' a w := by
  obtain ⟨F, ρ, H, hx, h1, h2, h3, h4, h5⟩ := h
  obtain ⟨F', g1, g2, g3⟩ := Here.wk hk H
  exact ⟨F', ρ, g1, hx.trans (ext_sub g2), h1, fun b hb => (g3 b hb).elim (h2 b) .inr, h3, h4, fun l => by rw [(hk.choose_spec.2 l).1]; exact h5 l⟩
theorem Good.tl {σ σ' : St} {a : Act} {w : World} (hk : Tl σ σ') (h : Good P c w0 N F0 ρ0 own0 n σ a w) : Good P c w0 N F0 ρ0 own0 n σ' a w := by
  obtain ⟨F, ρ, H, hx, h1, h2, h3, h4, h5⟩ := h
  refine ⟨F, ρ, Here.tl hk H, hx, h1, h2, h3, h4, fun l => ?_⟩
  obtain ⟨l', ty, k, xs, hne, hl, rfl⟩ := hk
  have e : (upd σ.own l' ⟨(σ.own l').ver, .tail ty k xs⟩ l).ver = (σ.own l).ver := by
    by_cases e : l = l'
    · subst e; rw [upd_eq]
    · rw [upd_ne _ _ e]
  show (own0 l).ver ≤ (upd σ.own l' ⟨(σ.own l').ver, .tail ty k xs⟩ l).ver ∧ _
  rw [e]
  exact h5 l
theorem Good.wks {σ σ' : St} {a : Act} {w : World} (hk : Wks c σ σ') (h : Good P c w0 N F0 ρ0 own0 n σ a w) : Good P c w0 N F0 ρ0 own0 n σ' a w := by
  induction hk with
  | refl σ => exact h
  | step h1 _ ih => exact ih (h.wk h1)
  | tail h1 _ ih => exact ih (h.tl h1)
/-- A row goes to another place. -/
theorem Good.mv {σ σ' : St} {a : Act} {w : World} (hk : Mv σ σ') (h : Good P c w0 N F0 ρ0 own0 n σ a w) : Good P c w0 N F0 ρ0 own0 n σ' a w := by
  rcases hk with rfl | ⟨l, l', ty, k, xs, hne, hl, hs, hl', hl0, ho⟩
  · exact h
  obtain ⟨F, ρ, H, hx, h1, h2, h3, h4, h5⟩ := h
  have hcell : ∀ x y v, MvC l (σ.own l).ver l' ((σ.own l').ver + 1) x y → CellC w F ρ σ.own x v → CellC w F (upd ρ (pl l') (ρ (pl l))) σ'.own y v := by
    intro x y v hf hc
    rcases hf with rfl | ⟨rfl, rfl⟩
    · have kind : ∀ m, m ≠ l' → ((σ'.own m).ver = (σ.own m).ver ∧ ((σ'.own m).obj = .dead ∨ ∃ R, RelO R (σ.own m).obj (σ'.own m).obj)) := fun m hm => by
        by_cases e : m = l
        · subst e; rw [hl0]; exact ⟨rfl, .inl rfl⟩
        · exact ⟨(ho m e hm).1, .inr ⟨_, (ho m e hm).2⟩⟩
      cases y with
      | d x => exact hc
      | own m ver =>
        obtain ⟨g1, g2, g3⟩ := hc
        by_cases hm : m = l'
        · subst hm
          refine ⟨g1, by rw [hl']; exact Nat.le_succ_of_le g2, ?_⟩
          rintro ⟨e, -⟩
          rw [hl'] at e
          simp only at e
          omega
        · obtain ⟨e1, e2⟩ := kind m hm
          refine ⟨g1, by rw [e1]; exact g2, ?_⟩
          rintro ⟨e, hr⟩
          rw [upd_ne _ _ (pl_ne hm)]
          rcases e2 with e2 | ⟨R, e2⟩
          · rw [e2] at hr; exact hr.elim
          · refine g3 ⟨by rw [← e1, e], ?_⟩
            generalize (σ.own m).obj = q at e2 ⊢
            generalize (σ'.own m).obj = q' at e2 hr
            cases q <;> cases q' <;> first | trivial | (cases e2; done) | exact hr.elim
      | ptr m ver i j =>
        obtain ⟨g1, g2, g3⟩ := hc
        by_cases hm : m = l'
        · subst hm
          refine ⟨g1, by rw [hl']; exact Nat.le_succ_of_le g2, fun e => ?_⟩
          rw [hl'] at e
          simp only at e
          omega
        · obtain ⟨e1, e2⟩ := kind m hm
          refine ⟨g1, by rw [e1]; exact g2, fun e => ?_⟩
          have g3 := g3 (by rw [← e1]; exact e)
          rw [upd_ne _ _ (pl_ne hm)]
          rcases e2 with e2 | ⟨R, e2⟩
          · rw [e2]; trivial
          · generalize (σ.own m).obj = q at e2 g3
            generalize (σ'.own m).obj = q' at e2
            cases q with
            | dead => have e2 : Own.dead = q' := by cases q' <;> exact e2
                      subst e2; trivial
            | box ty cs => cases q' with
              | box ty' cs' => exact g3
              | _ => cases e2
            | row ty k xs => have e2 : Own.row ty k xs = q' := by cases q' <;> exact e2
                             subst e2; exact g3
            | tail ty k xs => have e2 : Own.tail ty k xs = q' := by cases q' <;> exact e2
                              subst e2; exact g3
            | deep ty ety el xs gg =>
              have e2 : Own.deep ty ety el xs gg = q' := by cases q' <;> exact e2
              subst e2
              cases j with
              | zero => exact g3
              | succ j => simp only at g3 ⊢; rw [upd_ne _ _ (inn_pl _ _ _)]; exact g3
      | sub m ver off q =>
        obtain ⟨g1, g2, g3⟩ := hc
        by_cases hm : m = l'
        · subst hm
          refine ⟨g1, by rw [hl']; exact Nat.le_succ_of_le g2, fun e => ?_⟩
          rw [hl'] at e
          simp only at e
          omega
        · obtain ⟨e1, e2⟩ := kind m hm
          refine ⟨g1, by rw [e1]; exact g2, fun e => ?_⟩
          rw [upd_ne _ _ (pl_ne hm), upd_ne _ _ (inn_pl _ _ _)]
          rcases e2 with e2 | ⟨R, e2⟩
          · rw [e2]; exact ⟨fun _ _ _ hr => (by cases hr), fun _ _ _ _ _ _ hr => (by cases hr)⟩
          · have g3 := g3 (by rw [← e1]; exact e)
            refine ⟨fun ty k xs hr => g3.1 ty k xs ?_, fun ty ety ee xs gg x hr => g3.2 ty ety ee xs gg x ?_⟩
            · rw [hr] at e2
              generalize (σ.own m).obj = q at e2
              cases q <;> first | (cases e2; done) | exact e2
            · rw [hr] at e2
              generalize (σ.own m).obj = q at e2
              cases q <;> first | (cases e2; done) | exact e2
    · obtain ⟨g1, g2, g3⟩ := hc
      refine ⟨g1, by rw [hl']; exact Nat.le_refl _, fun _ => ?_⟩
      rw [upd_eq]
      exact g3 ⟨rfl, by rw [hl]; trivial⟩
  refine ⟨F, upd ρ (pl l') (ρ (pl l)), ⟨H.cfg, fun t => (hs t).ok (fun _ => .inl rfl) hcell (H.sl t), ⟨fun m => ?_, fun m m' b hne2 a1 a2 b1 b2 => ?_, H.mem.fin⟩⟩, hx, h1, h2, h3, h4, fun m => ?_⟩
  · by_cases hm : m = l'
    · subst hm
      rw [hl']
      have hok := H.mem.ok l
      rw [hl] at hok
      obtain ⟨vs, hw, hr, hn⟩ := hok
      exact ⟨vs, by rw [upd_eq]; exact hw, hr, fun b hb => hn b (by rw [upd_eq] at hb; exact hb)⟩
    · by_cases hm2 : m = l
      · subst hm2; rw [hl0]; trivial
      · obtain ⟨e1, e2⟩ := ho m hm2 hm
        have hok := H.mem.ok m
        generalize (σ.own m).obj = q at e2 hok
        generalize (σ'.own m).obj = q' at e2
        cases q with
        | dead => have e2 : Own.dead = q' := by cases q' <;> exact e2
                  subst e2; trivial
        | box ty cs => cases q' with
          | box ty' cs' =>
            obtain ⟨rfl, hfl⟩ := e2
            obtain ⟨b, vs, r1, r2, r3, r4⟩ := hok
            exact ⟨b, vs, by rw [upd_ne _ _ (pl_ne hm)]; exact r1, r2, hfl.cells hcell r3, r4⟩
          | _ => cases e2
        | row ty k xs =>
          have e2 : Own.row ty k xs = q' := by cases q' <;> exact e2
          subst e2
          obtain ⟨vs, hw, hr, hn⟩ := hok
          exact ⟨vs, by rw [upd_ne _ _ (pl_ne hm)]; exact hw, hr, fun b hb => hn b (by rw [upd_ne _ _ (pl_ne hm)] at hb; exact hb)⟩
        | tail ty k xs =>
          have e2 : Own.tail ty k xs = q' := by cases q' <;> exact e2
          subst e2
          obtain ⟨vs, hw, hr, hn⟩ := hok
          exact ⟨vs, by rw [upd_ne _ _ (pl_ne hm)]; exact hw, hr, fun b hb => hn b (by rw [upd_ne _ _ (pl_ne hm)] at hb; exact hb)⟩
        | deep ty ety el xs gg =>
          have e2 : Own.deep ty ety el xs gg = q' := by cases q' <;> exact e2
          subst e2
          obtain ⟨vs, hw, h1, hn, hin⟩ := hok
          have hi : ∀ i, upd ρ (pl l') (ρ (pl l)) (inn m i) = ρ (inn m i) := fun i => upd_ne _ _ (inn_pl _ _ _)
          have hp : upd ρ (pl l') (ρ (pl l)) (pl m) = ρ (pl m) := upd_ne _ _ (pl_ne hm)
          refine ⟨vs, by rw [hp]; exact hw, h1, fun b hb => hn b (by rw [hp] at hb; exact hb), fun i x hx => ?_⟩
          have := hin i x hx
          simp only [hi, hp]
          exact this
  · -- what lived where
    have src : ∀ m, (σ'.own m).obj.live = true → ∃ m0, (σ.own m0).obj.live = true ∧ upd ρ (pl l') (ρ (pl l)) (pl m) = ρ (pl m0) ∧ ((m = l' ∧ m0 = l) ∨ (m ≠ l' ∧ m ≠ l ∧ m0 = m)) := fun m h => by
      by_cases hm : m = l'
      · subst hm; exact ⟨l, by rw [hl]; rfl, upd_eq _ _ _, .inl ⟨rfl, rfl⟩⟩
      · by_cases hm2 : m = l
        · subst hm2; rw [hl0] at h; cases h
        · refine ⟨m, ?_, upd_ne _ _ (pl_ne hm), .inr ⟨hm, hm2, rfl⟩⟩
          obtain ⟨e1, e2⟩ := ho m hm2 hm
          generalize (σ.own m).obj = q at e2
          generalize (σ'.own m).obj = q' at e2 h
          cases q with
          | dead => have e2 : Own.dead = q' := by cases q' <;> exact e2
                    subst e2; exact h
          | _ => rfl
    have hol : ∀ m m0, (σ'.own m).obj.live = true → upd ρ (pl l') (ρ (pl l)) (pl m) = ρ (pl m0) → ((m = l' ∧ m0 = l) ∨ (m ≠ l' ∧ m ≠ l ∧ m0 = m)) →
        holds (upd ρ (pl l') (ρ (pl l))) m (σ'.own m).obj b → holds ρ m0 (σ.own m0).obj b := by
      intro m m0 hlv c2 c3 b1
      rcases c3 with ⟨q1, q2⟩ | ⟨q1, q2, q3⟩
      · subst q1 q2
        rw [hl'] at b1
        have b1 : blk (upd ρ (pl m) (ρ (pl m0)) (pl m)) = some b := b1
        rw [c2] at b1
        exact holds_of b1
      · subst q3
        obtain ⟨e1, e2⟩ := ho m0 q2 q1
        have b1 := holds_step c2 (fun i => upd_ne _ _ (inn_pl _ _ _)) b1
        generalize (σ.own m0).obj = q at e2 ⊢
        generalize (σ'.own m0).obj = q' at e2 b1 hlv
        cases q with
        | box ty cs => cases q' with
          | box ty' cs' => exact b1
          | _ => cases e2
        | dead => have e2 : Own.dead = q' := by cases q' <;> exact e2
                  subst e2; exact b1
        | row ty k xs => have e2 : Own.row ty k xs = q' := by cases q' <;> exact e2
                         subst e2; exact b1
        | tail ty k xs => have e2 : Own.tail ty k xs = q' := by cases q' <;> exact e2
                          subst e2; exact b1
        | deep ty ety el xs gg => have e2 : Own.deep ty ety el xs gg = q' := by cases q' <;> exact e2
                                  subst e2; exact b1
    obtain ⟨m0, c1, c2, c3⟩ := src m a1
    obtain ⟨m1, d1, d2, d3⟩ := src m' a2
    have b1 := hol m m0 a1 c2 c3 b1
    have b2 := hol m' m1 a2 d2 d3 b2
    refine H.mem.apart m0 m1 b (fun e => ?_) c1 d1 b1 b2
    rcases c3 with ⟨c3, c4⟩ | ⟨c3, c4, c5⟩ <;> rcases d3 with ⟨d3, d4⟩ | ⟨d3, d4, d5⟩
    · exact hne2 (by rw [c3, d3])
    · exact d4 (by rw [← d5, ← e, c4])
    · exact c4 (by rw [← c5, e, d4])
    · exact hne2 (by rw [← c5, ← d5, e])
  · by_cases hm : m = l'
    · subst hm
      rw [hl']
      have := (h5 m).1
      exact ⟨by simp only; omega, fun e => by simp only at e; omega⟩
    · rw [upd_ne _ _ (pl_ne hm)]
      have hin : ∀ i, upd ρ (pl l') (ρ (pl l)) (inn m i) = ρ (inn m i) := fun i => upd_ne _ _ (inn_pl _ _ _)
      simp only [hin]
      by_cases hm2 : m = l
      · subst hm2; rw [hl0]; exact h5 m
      · rw [(ho m hm2 hm).1]; exact h5 m

theorem wp_loop_st {x : Code} {Q : Exit → Act → World → Prop} (J : Nat → Act → World → Prop) (round : ∀ m a w, J m a w → x.wp P (Exit.then (fun a' w' => ∃ m', m' < m ∧ J m' a' w') Q) a w) {m : Nat} {a : Act} {w : World} (h0 : J m a w) : (Code.loop x).wp P Q a w := by
  intro b k cs
  have key : ∀ m a w, J m a w → ∃ e a' w', Q e a' w' ∧ Arrives P (lone (b.at a (.code x :: .inLoop x :: k)) cs w) b k cs e a' w' := by
    intro m
    induction m using Nat.strongRecOn with
    | _ m ih =>
      intro a w hJ
      obtain ⟨e, a₁, w₁, hq, harr⟩ := round m a w hJ b (.inLoop x :: k) cs
      cases e with
      | normal =>
        obtain ⟨m', hlt, hJ₁⟩ := hq
        obtain ⟨e₂, a₂, w₂, hq₂, harr₂⟩ := ih m' hlt a₁ w₁ hJ₁
        exact ⟨e₂, a₂, w₂, hq₂, .of_steps (Steps.trans harr (.one step_inLoop)) harr₂⟩
      | exit id => exact ⟨_, a₁, w₁, hq, .pass (x := .inLoop x) rfl (fun _ _ => .inl (by simp)) harr⟩
      | goto l => exact ⟨_, a₁, w₁, hq, .pass (x := .inLoop x) rfl (fun _ _ => .inl (by simp)) harr⟩
      | ret => exact ⟨_, a₁, w₁, hq, .pass (x := .inLoop x) rfl (fun _ _ => .inl (by simp)) harr⟩
      | panic ch => exact ⟨_, a₁, w₁, hq, .pass (x := .inLoop x) rfl (fun _ _ => .inl (by simp)) harr⟩
      | outgrown => exact ⟨_, a₁, w₁, hq, .pass (x := .inLoop x) rfl (fun _ _ => .inl (by simp)) harr⟩
  obtain ⟨e, a', w', hq, harr⟩ := key m a w h0
  exact ⟨e, a', w', hq, .of_steps (.one step_loop) harr⟩

/-- CODE. -/
theorem wp_code (hm : P.follows .mixedOrders = true) (hN : ∀ b, w0.heap.size ≤ b → N b) : ∀ (x : Code) (Q : Exit → St → Prop) (Q' : Exit → Act → World → Prop) (σ : St) (a : Act) (w : World), codeB c n x = true →
    (∀ e σ' a' w', Q e σ' → Good P c w0 N F0 ρ0 own0 n σ' a' w' → Q' e a' w') → Good P c w0 N F0 ρ0 own0 n σ a w → awp c x Q σ → x.wp P Q' a w := by
  intro x
  induction x with
  | skip => intro Q Q' σ a w _ hQ hg h; exact wp_skip (hQ _ _ _ _ h hg)
  | label l => intro Q Q' σ a w _ hQ hg h; exact wp_label (hQ _ _ _ _ h hg)
  | region id ops draw =>
    intro Q Q' σ a w hB hQ hg h
    obtain ⟨σ0, hk0, h⟩ := h
    refine wp_region_run hm hN (opsB_dst hB) (fun hd => ?_) (fun σ' a' w' ⟨σ1, σ'', hk, hm, h1⟩ h2 => hQ _ _ a' w' h1 ((h2.wk hk).mv hm)) (hg.wks hk0) h
    have hB' : opsB c n ops draw = true := hB
    unfold opsB at hB'
    rw [hd] at hB'
    simp only [Bool.not_true, Bool.false_or, Bool.and_eq_true] at hB'
    exact hB'.2
  | seq x y ihx ihy =>
    intro Q Q' σ a w hB hQ hg h
    simp only [codeB, Bool.and_eq_true] at hB
    refine wp_seq (ihx _ _ σ a w hB.1 (fun e σ' a' w' h1 h2 => ?_) hg h)
    cases e with
    | normal => exact ihy Q Q' σ' a' w' hB.2 hQ h2 h1
    | exit id => exact hQ _ σ' a' w' h1 h2
    | goto l => exact hQ _ σ' a' w' h1 h2
    | ret => exact hQ _ σ' a' w' h1 h2
    | panic ch => exact hQ _ σ' a' w' h1 h2
    | outgrown => exact hQ _ σ' a' w' h1 h2
  | cond p x y ihx ihy =>
    intro Q Q' σ a w hB hQ hg h
    simp only [codeB, Bool.and_eq_true] at hB
    simp only [awp] at h
    split at h
    · rename_i b hb
      obtain ⟨F, ρ, H, _⟩ := id hg
      refine wp_cond_split (H.bool hb) (fun hbt => ihx Q Q' σ a w hB.1 hQ hg (h.1 hbt)) (fun hbf => ihy Q Q' σ a w hB.2 hQ hg (h.2 hbf))
    · cases h
  | block id x ih =>
    intro Q Q' σ a w hB hQ hg h
    refine wp_block (ih _ _ σ a w hB (fun e σ' a' w' h1 h2 => ?_) hg h)
    cases e with
    | normal => exact hQ _ σ' a' w' h1 h2
    | exit id' =>
      show if id' = id then Q' .normal a' w' else Q' (.exit id') a' w'
      by_cases he : id' = id
      · subst he
        rw [if_pos rfl]
        simp only [Nat.beq_refl] at h1
        exact hQ _ σ' a' w' h1 h2
      · rw [if_neg he]
        have hb : Nat.beq id' id = false := by
          cases hb : Nat.beq id' id
          · rfl
          · exact absurd (Nat.eq_of_beq_eq_true hb) he
        simp only [hb] at h1
        exact hQ _ σ' a' w' h1 h2
    | goto l => exact hQ _ σ' a' w' h1 h2
    | ret => exact hQ _ σ' a' w' h1 h2
    | panic ch => exact hQ _ σ' a' w' h1 h2
    | outgrown => exact hQ _ σ' a' w' h1 h2
  | loop x ih =>
    intro Q Q' σ a w hB hQ hg h
    obtain ⟨σ0, I, μ, hks, h0, hr⟩ := h
    refine wp_loop_st (fun m a w => ∃ σ, I σ ∧ μ σ = m ∧ Good P c w0 N F0 ρ0 own0 n σ a w) (fun m a w hJ => ?_) (m := μ σ0) ⟨σ0, h0, rfl, hg.wks hks⟩
    obtain ⟨σ1, h1, rfl, hg1⟩ := hJ
    refine ih _ _ σ1 a w hB (fun e σ' a' w' h2 h3 => ?_) hg1 (hr σ1 h1)
    cases e with
    | normal => exact ⟨μ σ', h2.2, σ', h2.1, rfl, h3⟩
    | exit id => exact hQ _ σ' a' w' h2 h3
    | goto l => exact hQ _ σ' a' w' h2 h3
    | ret => exact hQ _ σ' a' w' h2 h3
    | panic ch => exact hQ _ σ' a' w' h2 h3
    | outgrown => exact hQ _ σ' a' w' h2 h3
  | exit id => intro Q Q' σ a w _ hQ hg h; exact wp_exit (hQ _ _ _ _ h hg)
  | ret => intro Q Q' σ a w _ hQ hg h; exact wp_ret (hQ _ _ _ _ h hg)
  | goto l => intro Q Q' σ a w _ hQ hg h; cases h
  | _ => intros; contradiction
end
end Go.Proofs.Ytfjmlaciogmndaa
