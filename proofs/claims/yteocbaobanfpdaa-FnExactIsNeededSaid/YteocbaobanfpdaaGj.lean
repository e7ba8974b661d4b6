/- Contracts: ears' areas, lists of ears, hidden corners. -/
import Derived.Test.YteocbaobanfpdaaGh
namespace Go.Proofs.Yteocbaobanfpdaa
open Go.RowKit Go.Proofs.Yteocbaobanfpdaa.Nm
set_option maxRecDepth 10000
set_option maxHeartbeats 2000000
set_option linter.unusedSimpArgs false
set_option linter.unusedVariables false
/-! ### Ears -/
def earArea (xs : List Pt) (k : Int) : Int := if earM xs k then turn (pI xs (Int.tmod (k + xs.length - 1) xs.length)) (pI xs k) (pI xs (Int.tmod (k + 1) xs.length)) else 0
def earAreaC : Con := mkCon [.room, .int] (fun x => x.1.length ≤ 1048576) fun x => vI (earArea x.1 x.2.1)
def earsTo (xs : List Pt) (k : Nat) : List Int := ((List.range k).filter fun j : Nat => earM xs j).map fun j : Nat => (j : Int)
theorem earsTo_succ (xs : List Pt) (k : Nat) : earsTo xs (k + 1) = earsTo xs k ++ (if earM xs k then [(k : Int)] else []) := by
  unfold earsTo
  rw [List.range_succ, List.filter_append, List.map_append]
  congr 1
  rw [List.filter_cons]
  by_cases h : earM xs k = true
  · rw [if_pos h, if_pos h]; rfl
  · rw [if_neg h, if_neg h]; rfl
theorem earsTo_len (xs : List Pt) (k : Nat) : (earsTo xs k).length ≤ k := by
  unfold earsTo
  rw [List.length_map]
  exact Nat.le_trans (List.length_filter_le _ _) (by simp)
def earsM (xs : List Pt) : List Int := earsTo xs xs.length
theorem ears_bad {xs : List Pt} (h : roomOk xs = false) (k : Nat) : earsTo xs k = [] := by
  unfold earsTo
  rw [List.filter_eq_nil_iff.2 fun j _ hj => by have := (earM_iff.1 hj).1; rw [h] at this; cases this]
  rfl
def earsC : Con := mkCon [.room] (fun x => x.1.length ≤ 1048576) fun x => rowI (earsM x.1)
end Go.Proofs.Yteocbaobanfpdaa
