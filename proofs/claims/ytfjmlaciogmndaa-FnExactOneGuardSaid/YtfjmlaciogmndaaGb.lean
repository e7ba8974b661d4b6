/- Contracts: places in rooms, kernels. -/
import Derived.Test.YtfjmlaciogmndaaGa
namespace Go.Proofs.Ytfjmlaciogmndaa
open Go.RowKit Nm
set_option maxRecDepth 10000
set_option linter.unusedSimpArgs false
set_option linter.unusedVariables false
def placeInC : Con := mkCon [.room, .pt] (fun x => x.1.length ≤ 1048576) fun x => vI (placeIn x.1 x.2.1)
def isInC : Con := mkCon [.room, .pt] (fun x => x.1.length ≤ 1048576) fun x => vB (isIn x.1 x.2.1)
theorem placeIn_yes {xs : List Pt} {p : Pt} (h1 : ptOk p = true) (h2 : roomOk xs = true) : placeIn xs p = placeM xs p := by unfold placeIn; rw [h1, h2]; rfl
theorem placeIn_no1 {xs : List Pt} {p : Pt} (h1 : ptOk p = false) : placeIn xs p = 0 := by unfold placeIn; rw [h1]; rfl
theorem placeIn_no2 {xs : List Pt} {p : Pt} (h1 : roomOk xs = false) : placeIn xs p = 0 := by unfold placeIn; rw [h1]; simp
theorem hold_vals (xs : List Pt) (p : Pt) : holdsM xs p = 0 ∨ holdsM xs p = 1 ∨ holdsM xs p = -1 := by unfold holdsM; split <;> (try split) <;> simp
def inKernelC : Con := mkCon [.room, .pt] (fun x => x.1.length ≤ 1048576) fun x => vB (inKernelM x.1 x.2.1)
def kerPtsC : Con := mkCon [.room] (fun x => x.1.length ≤ 1048576) fun x => ptRow (kerPts x.1)
theorem ker_bad {xs : List Pt} (h : roomOk xs = false) : kerPts xs = [] := by unfold kerPts floorPts; rw [h]; rfl
def isStarC : Con := mkCon [.room] (fun x => x.1.length ≤ 1048576) fun x => vB (decide ((0 : Int) < ((kerPts x.1).length : Int)))
end Go.Proofs.Ytfjmlaciogmndaa
