/- Small helpers for contracts. -/
import Derived.Test.YtfjmlaciogmndaaCd
namespace Go.Proofs.Ytfjmlaciogmndaa
open Go.RowKit Go.Proofs.Ytfjmlaciogmndaa.Nm
set_option maxRecDepth 10000
set_option linter.unusedSimpArgs false
set_option linter.unusedVariables false
theorem tn1 (k : Nat) : ((k : Int) + 1).toNat = k + 1 := by omega
theorem tnp {k : Nat} (h : 1 ≤ k) : ((k : Int) - 1).toNat = k - 1 := by omega
theorem tnc (k : Nat) : ((k : Int) + 1 - 1).toNat = k := by omega
/-- A contract with a stronger premise. -/
theorem Good1.imp {P : Program} {f : FuncId} {ts : List Ty} {pre pre' : Args ts → Prop} {res res' : Args ts → RV} (h : Good1 P f (mkCon ts pre res)) (hp : ∀ x, pre' x → pre x ∧ res' x = res x) : Good1 P f (mkCon ts pre' res') :=
  ⟨fun w F args vs x h1 h2 h3 h4 h5 => by
    obtain ⟨k1, k2⟩ := hp x h2
    show Calls _ _ _ _ fun e w' => ∃ v, e = .returned v ∧ Below w.heap.size w w' ∧ RetC w w' F (res' x) v
    rw [k2]
    exact h.snd w F args vs x h1 k1 h3 h4 h5, h.has⟩
theorem eq_false_of {b : Bool} (h : b = true → False) : false = b := by cases b with | false => rfl | true => exact (h rfl).elim
theorem eq_true_of {b : Bool} (h : b = true) : true = b := h.symm
theorem lt_succ_all {P : Nat → Prop} {k : Nat} (h : ∀ j, j < k → P j) (hk : P k) : ∀ j, j < k + 1 → P j := fun j hj => by
  rcases Nat.lt_or_ge j k with h5 | h5
  · exact h j h5
  · rw [show j = k by omega]; exact hk
def rowI (xs : List Int) : RV := ⟨.one (.own 0 0), some ⟨t_int, none, .b .int, xs⟩⟩
end Go.Proofs.Ytfjmlaciogmndaa
