/-
  No cell of these rows narrows 'for every input' (looked for: loops, veiled, ifaces, maps, wideKeys, modest, calm, conditions, laid).
  DERIVED. THE GIVEN ROWS OF THIS SEAT. 5 by the template 'for every input the law returns true; each argument reads behind the call as it read before'; 0 by the template 'total and deterministic' (their statements: YtmhmmdcbkpclpaaTotals.lean).
  GIVEN WITH THE SEED: the statements are not yours to turn. If you find one false, say at which input.
  Laid BY PROGRAM, IN A SANDBOX (cutbox-rows.mjs): the forced cells as the released guide's own fill.sh prints them over the translation 6f4b04c1cfafff2d… (all of the seat's roots in one cut). By AI agents, Wed Nov 11 2026. No macro, syntax, notation, axiom, sorry.
-/
import Derived.Test.YtmhmmdcbkpclpaaChecked
import GoSem.Claim
import GoSem.ClaimJoined
import GoSem.ClaimMapViews
import Derived.JoinedTies
import Derived.KernelRfl
namespace Go.Proofs.Ytmhmmdcbkpclpaa
/- THE CELL 'sum', in the pinned program and in every row, IS THE sha256 OF THE DUMP (.gsa) THAT YtmhmmdcbkpclpaaProg.lean LOADS. Nothing in Lean hashes anything: it is a label: what it is worth is what the hold of that sum in a sandbox is worth. -/
noncomputable def Try.pinned : Pinned := { name := "ytmhmmdcbkpclpaa", sum := "6f4b04c1cfafff2de3d4eddc134ba1ee4bb35148cdb9c2161515a7b17d0cb665", checked := Try.checked }
namespace Rows
def none {H : Type} : Left H := { results := [], args := [] }

/-- 'laws.FnExactOneGuard': WHATEVER THE INPUT: true; the input reads as it did. -/
def fnExactOneGuardSpec : ChangeSpec := { name := "fnExactOneGuard", fn := fun _ => fun
  | [d] => { results := [.lit (.bool true)], args := [d] }
  | _ => none }
def fnExactOneGuardRow : OpenClaim := { program := "ytmhmmdcbkpclpaa", sum := "6f4b04c1cfafff2de3d4eddc134ba1ee4bb35148cdb9c2161515a7b17d0cb665", func := "loop.example/g00991/laws.FnExactOneGuard", spec := "fnExactOneGuard", unfollowed := true, recurses := true, apart := false }
def FnExactOneGuardSaid : Prop := fnExactOneGuardRow.holds Try.pinned (OpenSpec.ofChange fnExactOneGuardSpec)

/-- ITS FALSE NEIGHBOUR: 'it returns false'. Refute it at one input. -/
def fnExactOneGuardWrong : ChangeSpec := { name := "fnExactOneGuard", fn := fun _ => fun
  | [d] => { results := [.lit (.bool false)], args := [d] }
  | _ => none }
def FnExactOneGuardWrongFalsely : Prop := fnExactOneGuardRow.holds Try.pinned (OpenSpec.ofChange fnExactOneGuardWrong)

/-- 'laws.FnExactTriangleOf': WHATEVER THE INPUT: true; the input reads as it did. -/
def fnExactTriangleOfSpec : ChangeSpec := { name := "fnExactTriangleOf", fn := fun _ => fun
  | [d1, d2] => { results := [.lit (.bool true)], args := [d1, d2] }
  | _ => none }
def fnExactTriangleOfRow : OpenClaim := { program := "ytmhmmdcbkpclpaa", sum := "6f4b04c1cfafff2de3d4eddc134ba1ee4bb35148cdb9c2161515a7b17d0cb665", func := "loop.example/g00991/laws.FnExactTriangleOf", spec := "fnExactTriangleOf", unfollowed := true, recurses := true, apart := false }
def FnExactTriangleOfSaid : Prop := fnExactTriangleOfRow.holds Try.pinned (OpenSpec.ofChange fnExactTriangleOfSpec)

/-- ITS FALSE NEIGHBOUR: 'it returns false'. Refute it at one input. -/
def fnExactTriangleOfWrong : ChangeSpec := { name := "fnExactTriangleOf", fn := fun _ => fun
  | [d1, d2] => { results := [.lit (.bool false)], args := [d1, d2] }
  | _ => none }
def FnExactTriangleOfWrongFalsely : Prop := fnExactTriangleOfRow.holds Try.pinned (OpenSpec.ofChange fnExactTriangleOfWrong)

/-- 'laws.FnExactAreColors': WHATEVER THE INPUT: true; the input reads as it did. -/
def fnExactAreColorsSpec : ChangeSpec := { name := "fnExactAreColors", fn := fun _ => fun
  | [d1, d2] => { results := [.lit (.bool true)], args := [d1, d2] }
  | _ => none }
def fnExactAreColorsRow : OpenClaim := { program := "ytmhmmdcbkpclpaa", sum := "6f4b04c1cfafff2de3d4eddc134ba1ee4bb35148cdb9c2161515a7b17d0cb665", func := "loop.example/g00991/laws.FnExactAreColors", spec := "fnExactAreColors", unfollowed := true, recurses := true, apart := false }
def FnExactAreColorsSaid : Prop := fnExactAreColorsRow.holds Try.pinned (OpenSpec.ofChange fnExactAreColorsSpec)

/-- ITS FALSE NEIGHBOUR: 'it returns false'. Refute it at one input. -/
def fnExactAreColorsWrong : ChangeSpec := { name := "fnExactAreColors", fn := fun _ => fun
  | [d1, d2] => { results := [.lit (.bool false)], args := [d1, d2] }
  | _ => none }
def FnExactAreColorsWrongFalsely : Prop := fnExactAreColorsRow.holds Try.pinned (OpenSpec.ofChange fnExactAreColorsWrong)

/-- 'laws.FnExactTrianglesOf': WHATEVER THE INPUT: true; the input reads as it did. -/
def fnExactTrianglesOfSpec : ChangeSpec := { name := "fnExactTrianglesOf", fn := fun _ => fun
  | [d] => { results := [.lit (.bool true)], args := [d] }
  | _ => none }
def fnExactTrianglesOfRow : OpenClaim := { program := "ytmhmmdcbkpclpaa", sum := "6f4b04c1cfafff2de3d4eddc134ba1ee4bb35148cdb9c2161515a7b17d0cb665", func := "loop.example/g00991/laws.FnExactTrianglesOf", spec := "fnExactTrianglesOf", unfollowed := true, recurses := true, apart := false }
def FnExactTrianglesOfSaid : Prop := fnExactTrianglesOfRow.holds Try.pinned (OpenSpec.ofChange fnExactTrianglesOfSpec)

/-- ITS FALSE NEIGHBOUR: 'it returns false'. Refute it at one input. -/
def fnExactTrianglesOfWrong : ChangeSpec := { name := "fnExactTrianglesOf", fn := fun _ => fun
  | [d] => { results := [.lit (.bool false)], args := [d] }
  | _ => none }
def FnExactTrianglesOfWrongFalsely : Prop := fnExactTrianglesOfRow.holds Try.pinned (OpenSpec.ofChange fnExactTrianglesOfWrong)

/-- 'laws.FnExactNeighborsOf': WHATEVER THE INPUT: true; the input reads as it did. -/
def fnExactNeighborsOfSpec : ChangeSpec := { name := "fnExactNeighborsOf", fn := fun _ => fun
  | [d1, d2] => { results := [.lit (.bool true)], args := [d1, d2] }
  | _ => none }
def fnExactNeighborsOfRow : OpenClaim := { program := "ytmhmmdcbkpclpaa", sum := "6f4b04c1cfafff2de3d4eddc134ba1ee4bb35148cdb9c2161515a7b17d0cb665", func := "loop.example/g00991/laws.FnExactNeighborsOf", spec := "fnExactNeighborsOf", unfollowed := true, recurses := true, apart := false }
def FnExactNeighborsOfSaid : Prop := fnExactNeighborsOfRow.holds Try.pinned (OpenSpec.ofChange fnExactNeighborsOfSpec)

/-- ITS FALSE NEIGHBOUR: 'it returns false'. Refute it at one input. -/
def fnExactNeighborsOfWrong : ChangeSpec := { name := "fnExactNeighborsOf", fn := fun _ => fun
  | [d1, d2] => { results := [.lit (.bool false)], args := [d1, d2] }
  | _ => none }
def FnExactNeighborsOfWrongFalsely : Prop := fnExactNeighborsOfRow.holds Try.pinned (OpenSpec.ofChange fnExactNeighborsOfWrong)

/- THE SECOND FORM. 'bulk': how many values and letters a reading holds, each counted each time it is reached (what is shared counts as often as it is met; a slice's spare places count too). A statement '..UptoSaid' is the law's where the arguments, and the package variables that the reading takes, are together of bulk at most 1048576: NARROWER than '..Said'. Prove '..Said' where nothing that the law and all that it calls make is longer than what came in: it says more and counts as full. Else prove '..UptoSaid'. A law counts once. -/
mutual
def uptoBulk {H : Type} : DataW H → Nat
  | .lit (.string bytes) => bytes.length + 1
  | .lit _ => 1
  | .nil => 1
  | .ptr d => uptoBulk d + 1
  | .slice elems spare => uptoBulkAll elems + uptoBulkAll spare + 1
  | .agg parts => uptoBulkAll parts + 1
  | .iface _ d => uptoBulk d + 1
  | .map entries => uptoBulkEntries entries + 1
  | .held _ => 1
def uptoBulkAll {H : Type} : List (DataW H) → Nat
  | [] => 0
  | d :: r => uptoBulk d + uptoBulkAll r
def uptoBulkEntries {H : Type} : List (Lit × DataW H) → Nat
  | [] => 0
  | x :: r => uptoBulkEntry x + uptoBulkEntries r
def uptoBulkEntry {H : Type} : Lit × DataW H → Nat
  | (.string bytes, d) => bytes.length + uptoBulk d + 1
  | (_, d) => uptoBulk d + 1
 end
def uptoSmall : (H : Type) → List (DataW H) → Bool := fun _ ds => decide (uptoBulkAll ds ≤ 1048576)
def OpenSpec.upto (s : _root_.Go.ChangeSpec) : _root_.Go.OpenSpec := { _root_.Go.OpenSpec.ofChange s with cond := some uptoSmall }

/-- 'laws.FnExactOneGuard', WHERE WHAT IT READS IS OF BULK AT MOST 1048576: true; the input reads as it did. -/
def fnExactOneGuardUptoRow : OpenClaim := { program := "ytmhmmdcbkpclpaa", sum := "6f4b04c1cfafff2de3d4eddc134ba1ee4bb35148cdb9c2161515a7b17d0cb665", func := "loop.example/g00991/laws.FnExactOneGuard", spec := "fnExactOneGuard", unfollowed := true, recurses := true, apart := false, narrowed := true }
def FnExactOneGuardUptoSaid : Prop := fnExactOneGuardUptoRow.holds Try.pinned (OpenSpec.upto fnExactOneGuardSpec)

/-- 'laws.FnExactTriangleOf', WHERE WHAT IT READS IS OF BULK AT MOST 1048576: true; the input reads as it did. -/
def fnExactTriangleOfUptoRow : OpenClaim := { program := "ytmhmmdcbkpclpaa", sum := "6f4b04c1cfafff2de3d4eddc134ba1ee4bb35148cdb9c2161515a7b17d0cb665", func := "loop.example/g00991/laws.FnExactTriangleOf", spec := "fnExactTriangleOf", unfollowed := true, recurses := true, apart := false, narrowed := true }
def FnExactTriangleOfUptoSaid : Prop := fnExactTriangleOfUptoRow.holds Try.pinned (OpenSpec.upto fnExactTriangleOfSpec)

/-- 'laws.FnExactAreColors', WHERE WHAT IT READS IS OF BULK AT MOST 1048576: true; the input reads as it did. -/
def fnExactAreColorsUptoRow : OpenClaim := { program := "ytmhmmdcbkpclpaa", sum := "6f4b04c1cfafff2de3d4eddc134ba1ee4bb35148cdb9c2161515a7b17d0cb665", func := "loop.example/g00991/laws.FnExactAreColors", spec := "fnExactAreColors", unfollowed := true, recurses := true, apart := false, narrowed := true }
def FnExactAreColorsUptoSaid : Prop := fnExactAreColorsUptoRow.holds Try.pinned (OpenSpec.upto fnExactAreColorsSpec)

/-- 'laws.FnExactTrianglesOf', WHERE WHAT IT READS IS OF BULK AT MOST 1048576: true; the input reads as it did. -/
def fnExactTrianglesOfUptoRow : OpenClaim := { program := "ytmhmmdcbkpclpaa", sum := "6f4b04c1cfafff2de3d4eddc134ba1ee4bb35148cdb9c2161515a7b17d0cb665", func := "loop.example/g00991/laws.FnExactTrianglesOf", spec := "fnExactTrianglesOf", unfollowed := true, recurses := true, apart := false, narrowed := true }
def FnExactTrianglesOfUptoSaid : Prop := fnExactTrianglesOfUptoRow.holds Try.pinned (OpenSpec.upto fnExactTrianglesOfSpec)

/-- 'laws.FnExactNeighborsOf', WHERE WHAT IT READS IS OF BULK AT MOST 1048576: true; the input reads as it did. -/
def fnExactNeighborsOfUptoRow : OpenClaim := { program := "ytmhmmdcbkpclpaa", sum := "6f4b04c1cfafff2de3d4eddc134ba1ee4bb35148cdb9c2161515a7b17d0cb665", func := "loop.example/g00991/laws.FnExactNeighborsOf", spec := "fnExactNeighborsOf", unfollowed := true, recurses := true, apart := false, narrowed := true }
def FnExactNeighborsOfUptoSaid : Prop := fnExactNeighborsOfUptoRow.holds Try.pinned (OpenSpec.upto fnExactNeighborsOfSpec)

end Rows
end Go.Proofs.Ytmhmmdcbkpclpaa
