/- Contracts: mirrored and moved rooms; the laws on turned, mirrored and moved rooms. -/
import Derived.Test.YtfjmlaciogmndaaLf
namespace Go.Proofs.Ytfjmlaciogmndaa
open Go.RowKit Nm
set_option maxRecDepth 10000
set_option linter.unusedSimpArgs false
set_option linter.unusedVariables false
theorem heldF_marks (k : Int) (n : Nat) : heldF k (marks k n) = k + 2 * n := by unfold heldF; rw [marks_len, if_pos rfl]
theorem take_snoc {α : Type} {ys : List α} {k : Nat} (d : α) (h : k < ys.length) : ys.take (k + 1) = ys.take k ++ [ys.getD k d] := by
  rw [List.take_succ_eq_append_getElem h, getD_lt _ h]
theorem revmap_get {α β : Type} (f : α → β) {xs : List α} {j : Nat} (d : α) (e : β) (h : j < xs.length) : ((xs.map f).reverse).getD j e = f (xs.getD (xs.length - 1 - j) d) := by
  rw [getD_lt _ (by simp; omega), getD_lt _ (by omega)]
  simp
end Go.Proofs.Ytfjmlaciogmndaa
