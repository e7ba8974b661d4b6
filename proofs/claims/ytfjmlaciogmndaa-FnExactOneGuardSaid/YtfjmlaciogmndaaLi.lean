/- Laws: kernels, points of corners. -/
import Derived.Test.YtfjmlaciogmndaaLg
import Derived.Test.YtfjmlaciogmndaaGb
namespace Go.Proofs.Ytfjmlaciogmndaa
open Go.RowKit Nm
set_option maxRecDepth 10000
set_option linter.unusedSimpArgs false
set_option linter.unusedVariables false
/-- What a marked list of numbers holds. -/
def marksI (k : Int) : Nat → List Int
  | 0 => []
  | n + 1 => k :: marksI (k + 1) n
theorem marksI_len : ∀ (n : Nat) (k : Int), (marksI k n).length = n
  | 0, _ => rfl
  | n + 1, k => by simp [marksI, marksI_len n]
theorem marksI_get : ∀ {n j : Nat} (k : Int), j < n → (marksI k n).getD j 0 = k + j
  | n + 1, 0, k, _ => by simp [marksI]
  | n + 1, j + 1, k, h => by
    have := marksI_get (n := n) (j := j) (k + 1) (by omega)
    simp only [marksI, List.getD_cons_succ, this]
    omega
end Go.Proofs.Ytfjmlaciogmndaa
