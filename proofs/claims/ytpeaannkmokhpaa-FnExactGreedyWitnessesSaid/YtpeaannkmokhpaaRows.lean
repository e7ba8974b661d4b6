/-
  No cell of these rows narrows 'for every input' (looked for: loops, veiled, ifaces, maps, wideKeys, modest, calm, conditions, laid).
  DERIVED. THE GIVEN ROWS OF THIS SEAT. 10 by the template 'for every input the law returns true; each argument reads behind the call as it read before'; 0 by the template 'total and deterministic' (their statements: YtpeaannkmokhpaaTotals.lean).
  GIVEN WITH THE SEED: the statements are not yours to turn. If you find one false, say at which input.
  Laid BY PROGRAM, IN A SANDBOX (cutbox-rows.mjs): the forced cells as the released guide's own fill.sh prints them over the translation d7073ffdec54aca2… (all of the seat's roots in one cut). By AI agents, Wed Nov 11 2026. No macro, syntax, notation, axiom, sorry.
-/
import Derived.Test.YtpeaannkmokhpaaChecked
import GoSem.Claim
import GoSem.ClaimJoined
import GoSem.ClaimMapViews
import Derived.JoinedTies
import Derived.KernelRfl
namespace Go.Proofs.Ytpeaannkmokhpaa
/- THE CELL 'sum', in the pinned program and in every row, IS THE sha256 OF THE DUMP (.gsa) THAT YtpeaannkmokhpaaProg.lean LOADS. Nothing in Lean hashes anything: it is a label: what it is worth is what the hold of that sum in a sandbox is worth. -/
noncomputable def Try.pinned : Pinned := { name := "ytpeaannkmokhpaa", sum := "d7073ffdec54aca28392ff5dc69bfb02b4f9ac3dc82d012b5541526b8d61e2b1", checked := Try.checked }
namespace Rows
def none {H : Type} : Left H := { results := [], args := [] }

/-- 'laws.FnExactAreWitnesses': WHATEVER THE INPUT: true; the input reads as it did. -/
def fnExactAreWitnessesSpec : ChangeSpec := { name := "fnExactAreWitnesses", fn := fun _ => fun
  | [d1, d2] => { results := [.lit (.bool true)], args := [d1, d2] }
  | _ => none }
def fnExactAreWitnessesRow : OpenClaim := { program := "ytpeaannkmokhpaa", sum := "d7073ffdec54aca28392ff5dc69bfb02b4f9ac3dc82d012b5541526b8d61e2b1", func := "loop.example/g00991/laws.FnExactAreWitnesses", spec := "fnExactAreWitnesses", unfollowed := true, recurses := true, apart := false }
def FnExactAreWitnessesSaid : Prop := fnExactAreWitnessesRow.holds Try.pinned (OpenSpec.ofChange fnExactAreWitnessesSpec)

/-- ITS FALSE NEIGHBOUR: 'it returns false'. Refute it at one input. -/
def fnExactAreWitnessesWrong : ChangeSpec := { name := "fnExactAreWitnesses", fn := fun _ => fun
  | [d1, d2] => { results := [.lit (.bool false)], args := [d1, d2] }
  | _ => none }
def FnExactAreWitnessesWrongFalsely : Prop := fnExactAreWitnessesRow.holds Try.pinned (OpenSpec.ofChange fnExactAreWitnessesWrong)

/-- 'laws.FnExactEarArea': WHATEVER THE INPUT: true; the input reads as it did. -/
def fnExactEarAreaSpec : ChangeSpec := { name := "fnExactEarArea", fn := fun _ => fun
  | [d1, d2] => { results := [.lit (.bool true)], args := [d1, d2] }
  | _ => none }
def fnExactEarAreaRow : OpenClaim := { program := "ytpeaannkmokhpaa", sum := "d7073ffdec54aca28392ff5dc69bfb02b4f9ac3dc82d012b5541526b8d61e2b1", func := "loop.example/g00991/laws.FnExactEarArea", spec := "fnExactEarArea", unfollowed := true, recurses := true, apart := false }
def FnExactEarAreaSaid : Prop := fnExactEarAreaRow.holds Try.pinned (OpenSpec.ofChange fnExactEarAreaSpec)

/-- ITS FALSE NEIGHBOUR: 'it returns false'. Refute it at one input. -/
def fnExactEarAreaWrong : ChangeSpec := { name := "fnExactEarArea", fn := fun _ => fun
  | [d1, d2] => { results := [.lit (.bool false)], args := [d1, d2] }
  | _ => none }
def FnExactEarAreaWrongFalsely : Prop := fnExactEarAreaRow.holds Try.pinned (OpenSpec.ofChange fnExactEarAreaWrong)

/-- 'laws.FnExactNearestGuard': WHATEVER THE INPUT: true; the input reads as it did. -/
def fnExactNearestGuardSpec : ChangeSpec := { name := "fnExactNearestGuard", fn := fun _ => fun
  | [d1, d2, d3] => { results := [.lit (.bool true)], args := [d1, d2, d3] }
  | _ => none }
def fnExactNearestGuardRow : OpenClaim := { program := "ytpeaannkmokhpaa", sum := "d7073ffdec54aca28392ff5dc69bfb02b4f9ac3dc82d012b5541526b8d61e2b1", func := "loop.example/g00991/laws.FnExactNearestGuard", spec := "fnExactNearestGuard", unfollowed := true, recurses := true, apart := false }
def FnExactNearestGuardSaid : Prop := fnExactNearestGuardRow.holds Try.pinned (OpenSpec.ofChange fnExactNearestGuardSpec)

/-- ITS FALSE NEIGHBOUR: 'it returns false'. Refute it at one input. -/
def fnExactNearestGuardWrong : ChangeSpec := { name := "fnExactNearestGuard", fn := fun _ => fun
  | [d1, d2, d3] => { results := [.lit (.bool false)], args := [d1, d2, d3] }
  | _ => none }
def FnExactNearestGuardWrongFalsely : Prop := fnExactNearestGuardRow.holds Try.pinned (OpenSpec.ofChange fnExactNearestGuardWrong)

/-- 'laws.FnExactHiddenCorners': WHATEVER THE INPUT: true; the input reads as it did. -/
def fnExactHiddenCornersSpec : ChangeSpec := { name := "fnExactHiddenCorners", fn := fun _ => fun
  | [d] => { results := [.lit (.bool true)], args := [d] }
  | _ => none }
def fnExactHiddenCornersRow : OpenClaim := { program := "ytpeaannkmokhpaa", sum := "d7073ffdec54aca28392ff5dc69bfb02b4f9ac3dc82d012b5541526b8d61e2b1", func := "loop.example/g00991/laws.FnExactHiddenCorners", spec := "fnExactHiddenCorners", unfollowed := true, recurses := true, apart := false }
def FnExactHiddenCornersSaid : Prop := fnExactHiddenCornersRow.holds Try.pinned (OpenSpec.ofChange fnExactHiddenCornersSpec)

/-- ITS FALSE NEIGHBOUR: 'it returns false'. Refute it at one input. -/
def fnExactHiddenCornersWrong : ChangeSpec := { name := "fnExactHiddenCorners", fn := fun _ => fun
  | [d] => { results := [.lit (.bool false)], args := [d] }
  | _ => none }
def FnExactHiddenCornersWrongFalsely : Prop := fnExactHiddenCornersRow.holds Try.pinned (OpenSpec.ofChange fnExactHiddenCornersWrong)

/-- 'laws.FnExactWitnessBound': WHATEVER THE INPUT: true; the input reads as it did. -/
def fnExactWitnessBoundSpec : ChangeSpec := { name := "fnExactWitnessBound", fn := fun _ => fun
  | [d] => { results := [.lit (.bool true)], args := [d] }
  | _ => none }
def fnExactWitnessBoundRow : OpenClaim := { program := "ytpeaannkmokhpaa", sum := "d7073ffdec54aca28392ff5dc69bfb02b4f9ac3dc82d012b5541526b8d61e2b1", func := "loop.example/g00991/laws.FnExactWitnessBound", spec := "fnExactWitnessBound", unfollowed := true, recurses := true, apart := false }
def FnExactWitnessBoundSaid : Prop := fnExactWitnessBoundRow.holds Try.pinned (OpenSpec.ofChange fnExactWitnessBoundSpec)

/-- ITS FALSE NEIGHBOUR: 'it returns false'. Refute it at one input. -/
def fnExactWitnessBoundWrong : ChangeSpec := { name := "fnExactWitnessBound", fn := fun _ => fun
  | [d] => { results := [.lit (.bool false)], args := [d] }
  | _ => none }
def FnExactWitnessBoundWrongFalsely : Prop := fnExactWitnessBoundRow.holds Try.pinned (OpenSpec.ofChange fnExactWitnessBoundWrong)

/-- 'laws.FnExactSeesAll': WHATEVER THE INPUT: true; the input reads as it did. -/
def fnExactSeesAllSpec : ChangeSpec := { name := "fnExactSeesAll", fn := fun _ => fun
  | [d1, d2] => { results := [.lit (.bool true)], args := [d1, d2] }
  | _ => none }
def fnExactSeesAllRow : OpenClaim := { program := "ytpeaannkmokhpaa", sum := "d7073ffdec54aca28392ff5dc69bfb02b4f9ac3dc82d012b5541526b8d61e2b1", func := "loop.example/g00991/laws.FnExactSeesAll", spec := "fnExactSeesAll", unfollowed := true, recurses := true, apart := false }
def FnExactSeesAllSaid : Prop := fnExactSeesAllRow.holds Try.pinned (OpenSpec.ofChange fnExactSeesAllSpec)

/-- ITS FALSE NEIGHBOUR: 'it returns false'. Refute it at one input. -/
def fnExactSeesAllWrong : ChangeSpec := { name := "fnExactSeesAll", fn := fun _ => fun
  | [d1, d2] => { results := [.lit (.bool false)], args := [d1, d2] }
  | _ => none }
def FnExactSeesAllWrongFalsely : Prop := fnExactSeesAllRow.holds Try.pinned (OpenSpec.ofChange fnExactSeesAllWrong)

/-- 'laws.FnExactSeenMask': WHATEVER THE INPUT: true; the input reads as it did. -/
def fnExactSeenMaskSpec : ChangeSpec := { name := "fnExactSeenMask", fn := fun _ => fun
  | [d1, d2] => { results := [.lit (.bool true)], args := [d1, d2] }
  | _ => none }
def fnExactSeenMaskRow : OpenClaim := { program := "ytpeaannkmokhpaa", sum := "d7073ffdec54aca28392ff5dc69bfb02b4f9ac3dc82d012b5541526b8d61e2b1", func := "loop.example/g00991/laws.FnExactSeenMask", spec := "fnExactSeenMask", unfollowed := true, recurses := true, apart := false }
def FnExactSeenMaskSaid : Prop := fnExactSeenMaskRow.holds Try.pinned (OpenSpec.ofChange fnExactSeenMaskSpec)

/-- ITS FALSE NEIGHBOUR: 'it returns false'. Refute it at one input. -/
def fnExactSeenMaskWrong : ChangeSpec := { name := "fnExactSeenMask", fn := fun _ => fun
  | [d1, d2] => { results := [.lit (.bool false)], args := [d1, d2] }
  | _ => none }
def FnExactSeenMaskWrongFalsely : Prop := fnExactSeenMaskRow.holds Try.pinned (OpenSpec.ofChange fnExactSeenMaskWrong)

/-- 'laws.FnExactEarsOf': WHATEVER THE INPUT: true; the input reads as it did. -/
def fnExactEarsOfSpec : ChangeSpec := { name := "fnExactEarsOf", fn := fun _ => fun
  | [d] => { results := [.lit (.bool true)], args := [d] }
  | _ => none }
def fnExactEarsOfRow : OpenClaim := { program := "ytpeaannkmokhpaa", sum := "d7073ffdec54aca28392ff5dc69bfb02b4f9ac3dc82d012b5541526b8d61e2b1", func := "loop.example/g00991/laws.FnExactEarsOf", spec := "fnExactEarsOf", unfollowed := true, recurses := true, apart := false }
def FnExactEarsOfSaid : Prop := fnExactEarsOfRow.holds Try.pinned (OpenSpec.ofChange fnExactEarsOfSpec)

/-- ITS FALSE NEIGHBOUR: 'it returns false'. Refute it at one input. -/
def fnExactEarsOfWrong : ChangeSpec := { name := "fnExactEarsOf", fn := fun _ => fun
  | [d] => { results := [.lit (.bool false)], args := [d] }
  | _ => none }
def FnExactEarsOfWrongFalsely : Prop := fnExactEarsOfRow.holds Try.pinned (OpenSpec.ofChange fnExactEarsOfWrong)

/-- 'laws.FnExactGreedyWitnesses': WHATEVER THE INPUT: true; the input reads as it did. -/
def fnExactGreedyWitnessesSpec : ChangeSpec := { name := "fnExactGreedyWitnesses", fn := fun _ => fun
  | [d] => { results := [.lit (.bool true)], args := [d] }
  | _ => none }
def fnExactGreedyWitnessesRow : OpenClaim := { program := "ytpeaannkmokhpaa", sum := "d7073ffdec54aca28392ff5dc69bfb02b4f9ac3dc82d012b5541526b8d61e2b1", func := "loop.example/g00991/laws.FnExactGreedyWitnesses", spec := "fnExactGreedyWitnesses", unfollowed := true, recurses := true, apart := false }
def FnExactGreedyWitnessesSaid : Prop := fnExactGreedyWitnessesRow.holds Try.pinned (OpenSpec.ofChange fnExactGreedyWitnessesSpec)

/-- ITS FALSE NEIGHBOUR: 'it returns false'. Refute it at one input. -/
def fnExactGreedyWitnessesWrong : ChangeSpec := { name := "fnExactGreedyWitnesses", fn := fun _ => fun
  | [d] => { results := [.lit (.bool false)], args := [d] }
  | _ => none }
def FnExactGreedyWitnessesWrongFalsely : Prop := fnExactGreedyWitnessesRow.holds Try.pinned (OpenSpec.ofChange fnExactGreedyWitnessesWrong)

/-- 'laws.FnExactUnseenBy': WHATEVER THE INPUT: true; the input reads as it did. -/
def fnExactUnseenBySpec : ChangeSpec := { name := "fnExactUnseenBy", fn := fun _ => fun
  | [d1, d2] => { results := [.lit (.bool true)], args := [d1, d2] }
  | _ => none }
def fnExactUnseenByRow : OpenClaim := { program := "ytpeaannkmokhpaa", sum := "d7073ffdec54aca28392ff5dc69bfb02b4f9ac3dc82d012b5541526b8d61e2b1", func := "loop.example/g00991/laws.FnExactUnseenBy", spec := "fnExactUnseenBy", unfollowed := true, recurses := true, apart := false }
def FnExactUnseenBySaid : Prop := fnExactUnseenByRow.holds Try.pinned (OpenSpec.ofChange fnExactUnseenBySpec)

/-- ITS FALSE NEIGHBOUR: 'it returns false'. Refute it at one input. -/
def fnExactUnseenByWrong : ChangeSpec := { name := "fnExactUnseenBy", fn := fun _ => fun
  | [d1, d2] => { results := [.lit (.bool false)], args := [d1, d2] }
  | _ => none }
def FnExactUnseenByWrongFalsely : Prop := fnExactUnseenByRow.holds Try.pinned (OpenSpec.ofChange fnExactUnseenByWrong)

/- THE SECOND FORM. 'bulk': how many values and letters a reading holds, each counted each time it is reached (what is shared counts as often as it is met; a slice's spare places count too). A statement '..UptoSaid' is the law's where the arguments, and the package variables that the reading takes, are together of bulk at most 1048576: NARROWER than '..Said'. Prove '..Said' where nothing that the law and all that it calls make is longer than what came in: it says more and counts as full. Else prove '..UptoSaid'. A law counts once. -/
mutual
def uptoBulk {H : Type} : DataW H → Nat
  | .lit (.string bytes) => bytes.length + 1
  | .lit _ => 1
  | .nil => 1
  | .ptr d => uptoBulk d + 1
  | .slice elems spare => uptoBulkAll elems + uptoBulkAll spare + 1
  | .agg parts => uptoBulkAll parts + 1
  | .iface _ d => uptoBulk d + 1
  | .map entries => uptoBulkEntries entries + 1
  | .held _ => 1
def uptoBulkAll {H : Type} : List (DataW H) → Nat
  | [] => 0
  | d :: r => uptoBulk d + uptoBulkAll r
def uptoBulkEntries {H : Type} : List (Lit × DataW H) → Nat
  | [] => 0
  | x :: r => uptoBulkEntry x + uptoBulkEntries r
def uptoBulkEntry {H : Type} : Lit × DataW H → Nat
  | (.string bytes, d) => bytes.length + uptoBulk d + 1
  | (_, d) => uptoBulk d + 1
 end
def uptoSmall : (H : Type) → List (DataW H) → Bool := fun _ ds => decide (uptoBulkAll ds ≤ 1048576)
def OpenSpec.upto (s : _root_.Go.ChangeSpec) : _root_.Go.OpenSpec := { _root_.Go.OpenSpec.ofChange s with cond := some uptoSmall }

/-- 'laws.FnExactAreWitnesses', WHERE WHAT IT READS IS OF BULK AT MOST 1048576: true; the input reads as it did. -/
def fnExactAreWitnessesUptoRow : OpenClaim := { program := "ytpeaannkmokhpaa", sum := "d7073ffdec54aca28392ff5dc69bfb02b4f9ac3dc82d012b5541526b8d61e2b1", func := "loop.example/g00991/laws.FnExactAreWitnesses", spec := "fnExactAreWitnesses", unfollowed := true, recurses := true, apart := false, narrowed := true }
def FnExactAreWitnessesUptoSaid : Prop := fnExactAreWitnessesUptoRow.holds Try.pinned (OpenSpec.upto fnExactAreWitnessesSpec)

/-- 'laws.FnExactEarArea', WHERE WHAT IT READS IS OF BULK AT MOST 1048576: true; the input reads as it did. -/
def fnExactEarAreaUptoRow : OpenClaim := { program := "ytpeaannkmokhpaa", sum := "d7073ffdec54aca28392ff5dc69bfb02b4f9ac3dc82d012b5541526b8d61e2b1", func := "loop.example/g00991/laws.FnExactEarArea", spec := "fnExactEarArea", unfollowed := true, recurses := true, apart := false, narrowed := true }
def FnExactEarAreaUptoSaid : Prop := fnExactEarAreaUptoRow.holds Try.pinned (OpenSpec.upto fnExactEarAreaSpec)

/-- 'laws.FnExactNearestGuard', WHERE WHAT IT READS IS OF BULK AT MOST 1048576: true; the input reads as it did. -/
def fnExactNearestGuardUptoRow : OpenClaim := { program := "ytpeaannkmokhpaa", sum := "d7073ffdec54aca28392ff5dc69bfb02b4f9ac3dc82d012b5541526b8d61e2b1", func := "loop.example/g00991/laws.FnExactNearestGuard", spec := "fnExactNearestGuard", unfollowed := true, recurses := true, apart := false, narrowed := true }
def FnExactNearestGuardUptoSaid : Prop := fnExactNearestGuardUptoRow.holds Try.pinned (OpenSpec.upto fnExactNearestGuardSpec)

/-- 'laws.FnExactHiddenCorners', WHERE WHAT IT READS IS OF BULK AT MOST 1048576: true; the input reads as it did. -/
def fnExactHiddenCornersUptoRow : OpenClaim := { program := "ytpeaannkmokhpaa", sum := "d7073ffdec54aca28392ff5dc69bfb02b4f9ac3dc82d012b5541526b8d61e2b1", func := "loop.example/g00991/laws.FnExactHiddenCorners", spec := "fnExactHiddenCorners", unfollowed := true, recurses := true, apart := false, narrowed := true }
def FnExactHiddenCornersUptoSaid : Prop := fnExactHiddenCornersUptoRow.holds Try.pinned (OpenSpec.upto fnExactHiddenCornersSpec)

/-- 'laws.FnExactWitnessBound', WHERE WHAT IT READS IS OF BULK AT MOST 1048576: true; the input reads as it did. -/
def fnExactWitnessBoundUptoRow : OpenClaim := { program := "ytpeaannkmokhpaa", sum := "d7073ffdec54aca28392ff5dc69bfb02b4f9ac3dc82d012b5541526b8d61e2b1", func := "loop.example/g00991/laws.FnExactWitnessBound", spec := "fnExactWitnessBound", unfollowed := true, recurses := true, apart := false, narrowed := true }
def FnExactWitnessBoundUptoSaid : Prop := fnExactWitnessBoundUptoRow.holds Try.pinned (OpenSpec.upto fnExactWitnessBoundSpec)

/-- 'laws.FnExactSeesAll', WHERE WHAT IT READS IS OF BULK AT MOST 1048576: true; the input reads as it did. -/
def fnExactSeesAllUptoRow : OpenClaim := { program := "ytpeaannkmokhpaa", sum := "d7073ffdec54aca28392ff5dc69bfb02b4f9ac3dc82d012b5541526b8d61e2b1", func := "loop.example/g00991/laws.FnExactSeesAll", spec := "fnExactSeesAll", unfollowed := true, recurses := true, apart := false, narrowed := true }
def FnExactSeesAllUptoSaid : Prop := fnExactSeesAllUptoRow.holds Try.pinned (OpenSpec.upto fnExactSeesAllSpec)

/-- 'laws.FnExactSeenMask', WHERE WHAT IT READS IS OF BULK AT MOST 1048576: true; the input reads as it did. -/
def fnExactSeenMaskUptoRow : OpenClaim := { program := "ytpeaannkmokhpaa", sum := "d7073ffdec54aca28392ff5dc69bfb02b4f9ac3dc82d012b5541526b8d61e2b1", func := "loop.example/g00991/laws.FnExactSeenMask", spec := "fnExactSeenMask", unfollowed := true, recurses := true, apart := false, narrowed := true }
def FnExactSeenMaskUptoSaid : Prop := fnExactSeenMaskUptoRow.holds Try.pinned (OpenSpec.upto fnExactSeenMaskSpec)

/-- 'laws.FnExactEarsOf', WHERE WHAT IT READS IS OF BULK AT MOST 1048576: true; the input reads as it did. -/
def fnExactEarsOfUptoRow : OpenClaim := { program := "ytpeaannkmokhpaa", sum := "d7073ffdec54aca28392ff5dc69bfb02b4f9ac3dc82d012b5541526b8d61e2b1", func := "loop.example/g00991/laws.FnExactEarsOf", spec := "fnExactEarsOf", unfollowed := true, recurses := true, apart := false, narrowed := true }
def FnExactEarsOfUptoSaid : Prop := fnExactEarsOfUptoRow.holds Try.pinned (OpenSpec.upto fnExactEarsOfSpec)

/-- 'laws.FnExactGreedyWitnesses', WHERE WHAT IT READS IS OF BULK AT MOST 1048576: true; the input reads as it did. -/
def fnExactGreedyWitnessesUptoRow : OpenClaim := { program := "ytpeaannkmokhpaa", sum := "d7073ffdec54aca28392ff5dc69bfb02b4f9ac3dc82d012b5541526b8d61e2b1", func := "loop.example/g00991/laws.FnExactGreedyWitnesses", spec := "fnExactGreedyWitnesses", unfollowed := true, recurses := true, apart := false, narrowed := true }
def FnExactGreedyWitnessesUptoSaid : Prop := fnExactGreedyWitnessesUptoRow.holds Try.pinned (OpenSpec.upto fnExactGreedyWitnessesSpec)

/-- 'laws.FnExactUnseenBy', WHERE WHAT IT READS IS OF BULK AT MOST 1048576: true; the input reads as it did. -/
def fnExactUnseenByUptoRow : OpenClaim := { program := "ytpeaannkmokhpaa", sum := "d7073ffdec54aca28392ff5dc69bfb02b4f9ac3dc82d012b5541526b8d61e2b1", func := "loop.example/g00991/laws.FnExactUnseenBy", spec := "fnExactUnseenBy", unfollowed := true, recurses := true, apart := false, narrowed := true }
def FnExactUnseenByUptoSaid : Prop := fnExactUnseenByUptoRow.holds Try.pinned (OpenSpec.upto fnExactUnseenBySpec)

end Rows
end Go.Proofs.Ytpeaannkmokhpaa
