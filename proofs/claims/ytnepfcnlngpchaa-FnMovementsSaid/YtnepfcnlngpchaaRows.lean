/-
  No cell of these rows narrows 'for every input' (looked for: loops, veiled, ifaces, maps, wideKeys, modest, calm, conditions, laid).
  DERIVED. THE GIVEN ROWS OF THIS SEAT. 8 by the template 'for every input the law returns true; each argument reads behind the call as it read before'; 0 by the template 'total and deterministic' (their statements: YtnepfcnlngpchaaTotals.lean).
  GIVEN WITH THE SEED: the statements are not yours to turn. If you find one false, say at which input.
  Laid BY PROGRAM, IN A SANDBOX (cutbox-rows.mjs): the forced cells as the released guide's own fill.sh prints them over the translation bbd9f0acc7d95083… (all of the seat's roots in one cut). By AI agents, Wed Nov 11 2026. No macro, syntax, notation, axiom, sorry.
-/
import Derived.Test.YtnepfcnlngpchaaChecked
import GoSem.Claim
import GoSem.ClaimJoined
import GoSem.ClaimMapViews
import Derived.JoinedTies
import Derived.KernelRfl
namespace Go.Proofs.Ytnepfcnlngpchaa
/- THE CELL 'sum', in the pinned program and in every row, IS THE sha256 OF THE DUMP (.gsa) THAT YtnepfcnlngpchaaProg.lean LOADS. Nothing in Lean hashes anything: it is a label: what it is worth is what the hold of that sum in a sandbox is worth. -/
noncomputable def Try.pinned : Pinned := { name := "ytnepfcnlngpchaa", sum := "bbd9f0acc7d95083b096c8811f85d9ebc7b2388d6fb831706a423a31b873093b", checked := Try.checked }
namespace Rows
def none {H : Type} : Left H := { results := [], args := [] }

/-- 'laws.FnKernels': WHATEVER THE INPUT: true; the input reads as it did. -/
def fnKernelsSpec : ChangeSpec := { name := "fnKernels", fn := fun _ => fun
  | [d] => { results := [.lit (.bool true)], args := [d] }
  | _ => none }
def fnKernelsRow : OpenClaim := { program := "ytnepfcnlngpchaa", sum := "bbd9f0acc7d95083b096c8811f85d9ebc7b2388d6fb831706a423a31b873093b", func := "loop.example/g00991/laws.FnKernels", spec := "fnKernels", unfollowed := true, recurses := true, apart := false }
def FnKernelsSaid : Prop := fnKernelsRow.holds Try.pinned (OpenSpec.ofChange fnKernelsSpec)

/-- ITS FALSE NEIGHBOUR: 'it returns false'. Refute it at one input. -/
def fnKernelsWrong : ChangeSpec := { name := "fnKernels", fn := fun _ => fun
  | [d] => { results := [.lit (.bool false)], args := [d] }
  | _ => none }
def FnKernelsWrongFalsely : Prop := fnKernelsRow.holds Try.pinned (OpenSpec.ofChange fnKernelsWrong)

/-- 'laws.FnEars': WHATEVER THE INPUT: true; the input reads as it did. -/
def fnEarsSpec : ChangeSpec := { name := "fnEars", fn := fun _ => fun
  | [d] => { results := [.lit (.bool true)], args := [d] }
  | _ => none }
def fnEarsRow : OpenClaim := { program := "ytnepfcnlngpchaa", sum := "bbd9f0acc7d95083b096c8811f85d9ebc7b2388d6fb831706a423a31b873093b", func := "loop.example/g00991/laws.FnEars", spec := "fnEars", unfollowed := true, recurses := true, apart := false }
def FnEarsSaid : Prop := fnEarsRow.holds Try.pinned (OpenSpec.ofChange fnEarsSpec)

/-- ITS FALSE NEIGHBOUR: 'it returns false'. Refute it at one input. -/
def fnEarsWrong : ChangeSpec := { name := "fnEars", fn := fun _ => fun
  | [d] => { results := [.lit (.bool false)], args := [d] }
  | _ => none }
def FnEarsWrongFalsely : Prop := fnEarsRow.holds Try.pinned (OpenSpec.ofChange fnEarsWrong)

/-- 'laws.FnHulls': WHATEVER THE INPUT: true; the input reads as it did. -/
def fnHullsSpec : ChangeSpec := { name := "fnHulls", fn := fun _ => fun
  | [d] => { results := [.lit (.bool true)], args := [d] }
  | _ => none }
def fnHullsRow : OpenClaim := { program := "ytnepfcnlngpchaa", sum := "bbd9f0acc7d95083b096c8811f85d9ebc7b2388d6fb831706a423a31b873093b", func := "loop.example/g00991/laws.FnHulls", spec := "fnHulls", unfollowed := true, recurses := true, apart := false }
def FnHullsSaid : Prop := fnHullsRow.holds Try.pinned (OpenSpec.ofChange fnHullsSpec)

/-- ITS FALSE NEIGHBOUR: 'it returns false'. Refute it at one input. -/
def fnHullsWrong : ChangeSpec := { name := "fnHulls", fn := fun _ => fun
  | [d] => { results := [.lit (.bool false)], args := [d] }
  | _ => none }
def FnHullsWrongFalsely : Prop := fnHullsRow.holds Try.pinned (OpenSpec.ofChange fnHullsWrong)

/-- 'laws.FnFewest': WHATEVER THE INPUT: true; the input reads as it did. -/
def fnFewestSpec : ChangeSpec := { name := "fnFewest", fn := fun _ => fun
  | [d] => { results := [.lit (.bool true)], args := [d] }
  | _ => none }
def fnFewestRow : OpenClaim := { program := "ytnepfcnlngpchaa", sum := "bbd9f0acc7d95083b096c8811f85d9ebc7b2388d6fb831706a423a31b873093b", func := "loop.example/g00991/laws.FnFewest", spec := "fnFewest", unfollowed := true, recurses := true, apart := false }
def FnFewestSaid : Prop := fnFewestRow.holds Try.pinned (OpenSpec.ofChange fnFewestSpec)

/-- ITS FALSE NEIGHBOUR: 'it returns false'. Refute it at one input. -/
def fnFewestWrong : ChangeSpec := { name := "fnFewest", fn := fun _ => fun
  | [d] => { results := [.lit (.bool false)], args := [d] }
  | _ => none }
def FnFewestWrongFalsely : Prop := fnFewestRow.holds Try.pinned (OpenSpec.ofChange fnFewestWrong)

/-- 'laws.FnWitnesses': WHATEVER THE INPUT: true; the input reads as it did. -/
def fnWitnessesSpec : ChangeSpec := { name := "fnWitnesses", fn := fun _ => fun
  | [d] => { results := [.lit (.bool true)], args := [d] }
  | _ => none }
def fnWitnessesRow : OpenClaim := { program := "ytnepfcnlngpchaa", sum := "bbd9f0acc7d95083b096c8811f85d9ebc7b2388d6fb831706a423a31b873093b", func := "loop.example/g00991/laws.FnWitnesses", spec := "fnWitnesses", unfollowed := true, recurses := true, apart := false }
def FnWitnessesSaid : Prop := fnWitnessesRow.holds Try.pinned (OpenSpec.ofChange fnWitnessesSpec)

/-- ITS FALSE NEIGHBOUR: 'it returns false'. Refute it at one input. -/
def fnWitnessesWrong : ChangeSpec := { name := "fnWitnesses", fn := fun _ => fun
  | [d] => { results := [.lit (.bool false)], args := [d] }
  | _ => none }
def FnWitnessesWrongFalsely : Prop := fnWitnessesRow.holds Try.pinned (OpenSpec.ofChange fnWitnessesWrong)

/-- 'laws.FnMovements': WHATEVER THE INPUT: true; the input reads as it did. -/
def fnMovementsSpec : ChangeSpec := { name := "fnMovements", fn := fun _ => fun
  | [d] => { results := [.lit (.bool true)], args := [d] }
  | _ => none }
def fnMovementsRow : OpenClaim := { program := "ytnepfcnlngpchaa", sum := "bbd9f0acc7d95083b096c8811f85d9ebc7b2388d6fb831706a423a31b873093b", func := "loop.example/g00991/laws.FnMovements", spec := "fnMovements", unfollowed := true, recurses := true, apart := false }
def FnMovementsSaid : Prop := fnMovementsRow.holds Try.pinned (OpenSpec.ofChange fnMovementsSpec)

/-- ITS FALSE NEIGHBOUR: 'it returns false'. Refute it at one input. -/
def fnMovementsWrong : ChangeSpec := { name := "fnMovements", fn := fun _ => fun
  | [d] => { results := [.lit (.bool false)], args := [d] }
  | _ => none }
def FnMovementsWrongFalsely : Prop := fnMovementsRow.holds Try.pinned (OpenSpec.ofChange fnMovementsWrong)

/-- 'laws.FnTriangles': WHATEVER THE INPUT: true; the input reads as it did. -/
def fnTrianglesSpec : ChangeSpec := { name := "fnTriangles", fn := fun _ => fun
  | [d] => { results := [.lit (.bool true)], args := [d] }
  | _ => none }
def fnTrianglesRow : OpenClaim := { program := "ytnepfcnlngpchaa", sum := "bbd9f0acc7d95083b096c8811f85d9ebc7b2388d6fb831706a423a31b873093b", func := "loop.example/g00991/laws.FnTriangles", spec := "fnTriangles", unfollowed := true, recurses := true, apart := false }
def FnTrianglesSaid : Prop := fnTrianglesRow.holds Try.pinned (OpenSpec.ofChange fnTrianglesSpec)

/-- ITS FALSE NEIGHBOUR: 'it returns false'. Refute it at one input. -/
def fnTrianglesWrong : ChangeSpec := { name := "fnTriangles", fn := fun _ => fun
  | [d] => { results := [.lit (.bool false)], args := [d] }
  | _ => none }
def FnTrianglesWrongFalsely : Prop := fnTrianglesRow.holds Try.pinned (OpenSpec.ofChange fnTrianglesWrong)

/-- 'laws.FnColors': WHATEVER THE INPUT: true; the input reads as it did. -/
def fnColorsSpec : ChangeSpec := { name := "fnColors", fn := fun _ => fun
  | [d] => { results := [.lit (.bool true)], args := [d] }
  | _ => none }
def fnColorsRow : OpenClaim := { program := "ytnepfcnlngpchaa", sum := "bbd9f0acc7d95083b096c8811f85d9ebc7b2388d6fb831706a423a31b873093b", func := "loop.example/g00991/laws.FnColors", spec := "fnColors", unfollowed := true, recurses := true, apart := false }
def FnColorsSaid : Prop := fnColorsRow.holds Try.pinned (OpenSpec.ofChange fnColorsSpec)

/-- ITS FALSE NEIGHBOUR: 'it returns false'. Refute it at one input. -/
def fnColorsWrong : ChangeSpec := { name := "fnColors", fn := fun _ => fun
  | [d] => { results := [.lit (.bool false)], args := [d] }
  | _ => none }
def FnColorsWrongFalsely : Prop := fnColorsRow.holds Try.pinned (OpenSpec.ofChange fnColorsWrong)

/- THE SECOND FORM. 'bulk': how many values and letters a reading holds, each counted each time it is reached (what is shared counts as often as it is met; a slice's spare places count too). A statement '..UptoSaid' is the law's where the arguments, and the package variables that the reading takes, are together of bulk at most 1048576: NARROWER than '..Said'. Prove '..Said' where nothing that the law and all that it calls make is longer than what came in: it says more and counts as full. Else prove '..UptoSaid'. A law counts once. -/
mutual
def uptoBulk {H : Type} : DataW H → Nat
  | .lit (.string bytes) => bytes.length + 1
  | .lit _ => 1
  | .nil => 1
  | .ptr d => uptoBulk d + 1
  | .slice elems spare => uptoBulkAll elems + uptoBulkAll spare + 1
  | .agg parts => uptoBulkAll parts + 1
  | .iface _ d => uptoBulk d + 1
  | .map entries => uptoBulkEntries entries + 1
  | .held _ => 1
def uptoBulkAll {H : Type} : List (DataW H) → Nat
  | [] => 0
  | d :: r => uptoBulk d + uptoBulkAll r
def uptoBulkEntries {H : Type} : List (Lit × DataW H) → Nat
  | [] => 0
  | x :: r => uptoBulkEntry x + uptoBulkEntries r
def uptoBulkEntry {H : Type} : Lit × DataW H → Nat
  | (.string bytes, d) => bytes.length + uptoBulk d + 1
  | (_, d) => uptoBulk d + 1
 end
def uptoSmall : (H : Type) → List (DataW H) → Bool := fun _ ds => decide (uptoBulkAll ds ≤ 1048576)
def OpenSpec.upto (s : _root_.Go.ChangeSpec) : _root_.Go.OpenSpec := { _root_.Go.OpenSpec.ofChange s with cond := some uptoSmall }

/-- 'laws.FnKernels', WHERE WHAT IT READS IS OF BULK AT MOST 1048576: true; the input reads as it did. -/
def fnKernelsUptoRow : OpenClaim := { program := "ytnepfcnlngpchaa", sum := "bbd9f0acc7d95083b096c8811f85d9ebc7b2388d6fb831706a423a31b873093b", func := "loop.example/g00991/laws.FnKernels", spec := "fnKernels", unfollowed := true, recurses := true, apart := false, narrowed := true }
def FnKernelsUptoSaid : Prop := fnKernelsUptoRow.holds Try.pinned (OpenSpec.upto fnKernelsSpec)

/-- 'laws.FnEars', WHERE WHAT IT READS IS OF BULK AT MOST 1048576: true; the input reads as it did. -/
def fnEarsUptoRow : OpenClaim := { program := "ytnepfcnlngpchaa", sum := "bbd9f0acc7d95083b096c8811f85d9ebc7b2388d6fb831706a423a31b873093b", func := "loop.example/g00991/laws.FnEars", spec := "fnEars", unfollowed := true, recurses := true, apart := false, narrowed := true }
def FnEarsUptoSaid : Prop := fnEarsUptoRow.holds Try.pinned (OpenSpec.upto fnEarsSpec)

/-- 'laws.FnHulls', WHERE WHAT IT READS IS OF BULK AT MOST 1048576: true; the input reads as it did. -/
def fnHullsUptoRow : OpenClaim := { program := "ytnepfcnlngpchaa", sum := "bbd9f0acc7d95083b096c8811f85d9ebc7b2388d6fb831706a423a31b873093b", func := "loop.example/g00991/laws.FnHulls", spec := "fnHulls", unfollowed := true, recurses := true, apart := false, narrowed := true }
def FnHullsUptoSaid : Prop := fnHullsUptoRow.holds Try.pinned (OpenSpec.upto fnHullsSpec)

/-- 'laws.FnFewest', WHERE WHAT IT READS IS OF BULK AT MOST 1048576: true; the input reads as it did. -/
def fnFewestUptoRow : OpenClaim := { program := "ytnepfcnlngpchaa", sum := "bbd9f0acc7d95083b096c8811f85d9ebc7b2388d6fb831706a423a31b873093b", func := "loop.example/g00991/laws.FnFewest", spec := "fnFewest", unfollowed := true, recurses := true, apart := false, narrowed := true }
def FnFewestUptoSaid : Prop := fnFewestUptoRow.holds Try.pinned (OpenSpec.upto fnFewestSpec)

/-- 'laws.FnWitnesses', WHERE WHAT IT READS IS OF BULK AT MOST 1048576: true; the input reads as it did. -/
def fnWitnessesUptoRow : OpenClaim := { program := "ytnepfcnlngpchaa", sum := "bbd9f0acc7d95083b096c8811f85d9ebc7b2388d6fb831706a423a31b873093b", func := "loop.example/g00991/laws.FnWitnesses", spec := "fnWitnesses", unfollowed := true, recurses := true, apart := false, narrowed := true }
def FnWitnessesUptoSaid : Prop := fnWitnessesUptoRow.holds Try.pinned (OpenSpec.upto fnWitnessesSpec)

/-- 'laws.FnMovements', WHERE WHAT IT READS IS OF BULK AT MOST 1048576: true; the input reads as it did. -/
def fnMovementsUptoRow : OpenClaim := { program := "ytnepfcnlngpchaa", sum := "bbd9f0acc7d95083b096c8811f85d9ebc7b2388d6fb831706a423a31b873093b", func := "loop.example/g00991/laws.FnMovements", spec := "fnMovements", unfollowed := true, recurses := true, apart := false, narrowed := true }
def FnMovementsUptoSaid : Prop := fnMovementsUptoRow.holds Try.pinned (OpenSpec.upto fnMovementsSpec)

/-- 'laws.FnTriangles', WHERE WHAT IT READS IS OF BULK AT MOST 1048576: true; the input reads as it did. -/
def fnTrianglesUptoRow : OpenClaim := { program := "ytnepfcnlngpchaa", sum := "bbd9f0acc7d95083b096c8811f85d9ebc7b2388d6fb831706a423a31b873093b", func := "loop.example/g00991/laws.FnTriangles", spec := "fnTriangles", unfollowed := true, recurses := true, apart := false, narrowed := true }
def FnTrianglesUptoSaid : Prop := fnTrianglesUptoRow.holds Try.pinned (OpenSpec.upto fnTrianglesSpec)

/-- 'laws.FnColors', WHERE WHAT IT READS IS OF BULK AT MOST 1048576: true; the input reads as it did. -/
def fnColorsUptoRow : OpenClaim := { program := "ytnepfcnlngpchaa", sum := "bbd9f0acc7d95083b096c8811f85d9ebc7b2388d6fb831706a423a31b873093b", func := "loop.example/g00991/laws.FnColors", spec := "fnColors", unfollowed := true, recurses := true, apart := false, narrowed := true }
def FnColorsUptoSaid : Prop := fnColorsUptoRow.holds Try.pinned (OpenSpec.upto fnColorsSpec)

end Rows
end Go.Proofs.Ytnepfcnlngpchaa
