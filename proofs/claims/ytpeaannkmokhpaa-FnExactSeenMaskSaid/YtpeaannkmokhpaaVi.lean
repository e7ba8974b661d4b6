/- Code, functions, and contracts by shape. -/
import Derived.Test.YtpeaannkmokhpaaVh
namespace Go.Proofs.Ytpeaannkmokhpaa
open Go.RowKit

def opsB (c : Cfg) (n : Nat) (ops : Array Oper) (draw : Bool) : Bool := ops.all (fun o => match o.dst with | some d => decide (d < n) | none => true) && (!draw || drawB c ops)

/-- The check of a body, once a function. -/
def codeB (c : Cfg) (n : Nat) : Code → Bool
  | .region _ ops draw => opsB c n ops draw
  | .seq x y => codeB c n x && codeB c n y
  | .cond _ x y => codeB c n x && codeB c n y
  | .block _ x => codeB c n x
  | .loop x => codeB c n x
  | _ => true

section
variable {P : Program} {c : Cfg} {w0 : World} {N F0 : Nat → Prop} {ρ0 : Nat → Value} {own0 : Nat → Loc} {n : Nat}

theorem opsB_dst {ops : Array Oper} {draw : Bool} (h : opsB c n ops draw = true) : ∀ (i : Nat) o d, ops[i]? = some o → o.dst = some d → d < n := by
  intro i o d hi hd
  unfold opsB at h
  simp only [Bool.and_eq_true] at h
  obtain ⟨hlt, he⟩ := Array.getElem?_eq_some_iff.1 hi
  have := Array.all_eq_true.1 h.1 i hlt
  rw [he, hd] at this
  simpa using this

theorem wp_loop_st {x : Code} {Q : Exit → Act → World → Prop} (J : Nat → Act → World → Prop) (round : ∀ m a w, J m a w → x.wp P (Exit.then (fun a' w' => ∃ m', m' < m ∧ J m' a' w') Q) a w) {m : Nat} {a : Act} {w : World} (h0 : J m a w) : (Code.loop x).wp P Q a w := by
  intro b k cs
  have key : ∀ m a w, J m a w → ∃ e a' w', Q e a' w' ∧ Arrives P (lone (b.at a (.code x :: .inLoop x :: k)) cs w) b k cs e a' w' := by
    intro m
    induction m using Nat.strongRecOn with
    | _ m ih =>
      intro a w hJ
      obtain ⟨e, a₁, w₁, hq, harr⟩ := round m a w hJ b (.inLoop x :: k) cs
      cases e with
      | normal =>
        obtain ⟨m', hlt, hJ₁⟩ := hq
        obtain ⟨e₂, a₂, w₂, hq₂, harr₂⟩ := ih m' hlt a₁ w₁ hJ₁
        exact ⟨e₂, a₂, w₂, hq₂, .of_steps (Steps.trans harr (.one step_inLoop)) harr₂⟩
      | exit id => exact ⟨_, a₁, w₁, hq, .pass (x := .inLoop x) rfl (fun _ _ => .inl (by simp)) harr⟩
      | goto l => exact ⟨_, a₁, w₁, hq, .pass (x := .inLoop x) rfl (fun _ _ => .inl (by simp)) harr⟩
      | ret => exact ⟨_, a₁, w₁, hq, .pass (x := .inLoop x) rfl (fun _ _ => .inl (by simp)) harr⟩
      | panic ch => exact ⟨_, a₁, w₁, hq, .pass (x := .inLoop x) rfl (fun _ _ => .inl (by simp)) harr⟩
      | outgrown => exact ⟨_, a₁, w₁, hq, .pass (x := .inLoop x) rfl (fun _ _ => .inl (by simp)) harr⟩
  obtain ⟨e, a', w', hq, harr⟩ := key m a w h0
  exact ⟨e, a', w', hq, .of_steps (.one step_loop) harr⟩

/-- CODE. -/
theorem wp_code (hm : P.follows .mixedOrders = true) (hN : ∀ b, w0.heap.size ≤ b → N b) : ∀ (x : Code) (Q : Exit → St → Prop) (Q' : Exit → Act → World → Prop) (σ : St) (a : Act) (w : World), codeB c n x = true →
    (∀ e σ' a' w', Q e σ' → Good P c w0 N F0 ρ0 own0 n σ' a' w' → Q' e a' w') → Good P c w0 N F0 ρ0 own0 n σ a w → awp c x Q σ → x.wp P Q' a w := by
  intro x
  induction x with
  | skip => intro Q Q' σ a w _ hQ hg h; exact wp_skip (hQ _ _ _ _ h hg)
  | label l => intro Q Q' σ a w _ hQ hg h; exact wp_label (hQ _ _ _ _ h hg)
  | region id ops draw =>
    intro Q Q' σ a w hB hQ hg h
    refine wp_region_run hm hN (opsB_dst hB) (fun hd => ?_) (fun σ' a' w' ⟨D, h1⟩ h2 => hQ _ _ a' w' h1 (h2.kill D)) hg h
    have hB' : opsB c n ops draw = true := hB
    unfold opsB at hB'
    rw [hd] at hB'
    simp only [Bool.not_true, Bool.false_or, Bool.and_eq_true] at hB'
    exact hB'.2
  | seq x y ihx ihy =>
    intro Q Q' σ a w hB hQ hg h
    simp only [codeB, Bool.and_eq_true] at hB
    refine wp_seq (ihx _ _ σ a w hB.1 (fun e σ' a' w' h1 h2 => ?_) hg h)
    cases e with
    | normal => exact ihy Q Q' σ' a' w' hB.2 hQ h2 h1
    | exit id => exact hQ _ σ' a' w' h1 h2
    | goto l => exact hQ _ σ' a' w' h1 h2
    | ret => exact hQ _ σ' a' w' h1 h2
    | panic ch => exact hQ _ σ' a' w' h1 h2
    | outgrown => exact hQ _ σ' a' w' h1 h2
  | cond p x y ihx ihy =>
    intro Q Q' σ a w hB hQ hg h
    simp only [codeB, Bool.and_eq_true] at hB
    simp only [awp] at h
    split at h
    · rename_i b hb
      obtain ⟨F, ρ, H, _⟩ := id hg
      refine wp_cond_split (H.bool hb) (fun hbt => ihx Q Q' σ a w hB.1 hQ hg (h.1 hbt)) (fun hbf => ihy Q Q' σ a w hB.2 hQ hg (h.2 hbf))
    · cases h
  | block id x ih =>
    intro Q Q' σ a w hB hQ hg h
    refine wp_block (ih _ _ σ a w hB (fun e σ' a' w' h1 h2 => ?_) hg h)
    cases e with
    | normal => exact hQ _ σ' a' w' h1 h2
    | exit id' =>
      show if id' = id then Q' .normal a' w' else Q' (.exit id') a' w'
      by_cases he : id' = id
      · subst he
        rw [if_pos rfl]
        simp only [Nat.beq_refl] at h1
        exact hQ _ σ' a' w' h1 h2
      · rw [if_neg he]
        have hb : Nat.beq id' id = false := by
          cases hb : Nat.beq id' id
          · rfl
          · exact absurd (Nat.eq_of_beq_eq_true hb) he
        simp only [hb] at h1
        exact hQ _ σ' a' w' h1 h2
    | goto l => exact hQ _ σ' a' w' h1 h2
    | ret => exact hQ _ σ' a' w' h1 h2
    | panic ch => exact hQ _ σ' a' w' h1 h2
    | outgrown => exact hQ _ σ' a' w' h1 h2
  | loop x ih =>
    intro Q Q' σ a w hB hQ hg h
    obtain ⟨I, μ, h0, hr⟩ := h
    refine wp_loop_st (fun m a w => ∃ σ, I σ ∧ μ σ = m ∧ Good P c w0 N F0 ρ0 own0 n σ a w) (fun m a w hJ => ?_) (m := μ σ) ⟨σ, h0, rfl, hg⟩
    obtain ⟨σ1, h1, rfl, hg1⟩ := hJ
    refine ih _ _ σ1 a w hB (fun e σ' a' w' h2 h3 => ?_) hg1 (hr σ1 h1)
    cases e with
    | normal => exact ⟨μ σ', h2.2, σ', h2.1, rfl, h3⟩
    | exit id => exact hQ _ σ' a' w' h2 h3
    | goto l => exact hQ _ σ' a' w' h2 h3
    | ret => exact hQ _ σ' a' w' h2 h3
    | panic ch => exact hQ _ σ' a' w' h2 h3
    | outgrown => exact hQ _ σ' a' w' h2 h3
  | exit id => intro Q Q' σ a w _ hQ hg h; exact wp_exit (hQ _ _ _ _ h hg)
  | ret => intro Q Q' σ a w _ hQ hg h; exact wp_ret (hQ _ _ _ _ h hg)
  | goto l => intro Q Q' σ a w _ hQ hg h; cases h
  | _ => intros; contradiction
end
end Go.Proofs.Ytpeaannkmokhpaa
