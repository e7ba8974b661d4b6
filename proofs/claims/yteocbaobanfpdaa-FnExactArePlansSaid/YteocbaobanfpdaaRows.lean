/-
  No cell of these rows narrows 'for every input' (looked for: loops, veiled, ifaces, maps, wideKeys, modest, calm, conditions, laid).
  DERIVED. THE GIVEN ROWS OF THIS SEAT. 8 by the template 'for every input the law returns true; each argument reads behind the call as it read before'; 0 by the template 'total and deterministic' (their statements: YteocbaobanfpdaaTotals.lean).
  GIVEN WITH THE SEED: the statements are not yours to turn. If you find one false, say at which input.
  Laid BY PROGRAM, IN A SANDBOX (cutbox-rows.mjs): the forced cells as the released guide's own fill.sh prints them over the translation 6e9f4f284599acc0… (all of the seat's roots in one cut). By AI agents, Wed Nov 11 2026. No macro, syntax, notation, axiom, sorry.
-/
import Derived.Test.YteocbaobanfpdaaChecked
import GoSem.Claim
import GoSem.ClaimJoined
import GoSem.ClaimMapViews
import Derived.JoinedTies
import Derived.KernelRfl
namespace Go.Proofs.Yteocbaobanfpdaa
/- THE CELL 'sum', in the pinned program and in every row, IS THE sha256 OF THE DUMP (.gsa) THAT YteocbaobanfpdaaProg.lean LOADS. Nothing in Lean hashes anything: it is a label: what it is worth is what the hold of that sum in a sandbox is worth. -/
noncomputable def Try.pinned : Pinned := { name := "yteocbaobanfpdaa", sum := "6e9f4f284599acc0870fc6f7f00e7bec76179f2e96f01338d7eae6a9d83243b2", checked := Try.checked }
namespace Rows
def none {H : Type} : Left H := { results := [], args := [] }

/-- 'laws.FnExactCutEar': WHATEVER THE INPUT: true; the input reads as it did. -/
def fnExactCutEarSpec : ChangeSpec := { name := "fnExactCutEar", fn := fun _ => fun
  | [d1, d2] => { results := [.lit (.bool true)], args := [d1, d2] }
  | _ => none }
def fnExactCutEarRow : OpenClaim := { program := "yteocbaobanfpdaa", sum := "6e9f4f284599acc0870fc6f7f00e7bec76179f2e96f01338d7eae6a9d83243b2", func := "loop.example/g00991/laws.FnExactCutEar", spec := "fnExactCutEar", unfollowed := true, recurses := true, apart := false }
def FnExactCutEarSaid : Prop := fnExactCutEarRow.holds Try.pinned (OpenSpec.ofChange fnExactCutEarSpec)

/-- ITS FALSE NEIGHBOUR: 'it returns false'. Refute it at one input. -/
def fnExactCutEarWrong : ChangeSpec := { name := "fnExactCutEar", fn := fun _ => fun
  | [d1, d2] => { results := [.lit (.bool false)], args := [d1, d2] }
  | _ => none }
def FnExactCutEarWrongFalsely : Prop := fnExactCutEarRow.holds Try.pinned (OpenSpec.ofChange fnExactCutEarWrong)

/-- 'laws.FnExactPiecesBetween': WHATEVER THE INPUT: true; the input reads as it did. -/
def fnExactPiecesBetweenSpec : ChangeSpec := { name := "fnExactPiecesBetween", fn := fun _ => fun
  | [d1, d2, d3] => { results := [.lit (.bool true)], args := [d1, d2, d3] }
  | _ => none }
def fnExactPiecesBetweenRow : OpenClaim := { program := "yteocbaobanfpdaa", sum := "6e9f4f284599acc0870fc6f7f00e7bec76179f2e96f01338d7eae6a9d83243b2", func := "loop.example/g00991/laws.FnExactPiecesBetween", spec := "fnExactPiecesBetween", unfollowed := true, recurses := true, apart := false }
def FnExactPiecesBetweenSaid : Prop := fnExactPiecesBetweenRow.holds Try.pinned (OpenSpec.ofChange fnExactPiecesBetweenSpec)

/-- ITS FALSE NEIGHBOUR: 'it returns false'. Refute it at one input. -/
def fnExactPiecesBetweenWrong : ChangeSpec := { name := "fnExactPiecesBetween", fn := fun _ => fun
  | [d1, d2, d3] => { results := [.lit (.bool false)], args := [d1, d2, d3] }
  | _ => none }
def FnExactPiecesBetweenWrongFalsely : Prop := fnExactPiecesBetweenRow.holds Try.pinned (OpenSpec.ofChange fnExactPiecesBetweenWrong)

/-- 'laws.FnExactArePlans': WHATEVER THE INPUT: true; the input reads as it did. -/
def fnExactArePlansSpec : ChangeSpec := { name := "fnExactArePlans", fn := fun _ => fun
  | [d1, d2] => { results := [.lit (.bool true)], args := [d1, d2] }
  | _ => none }
def fnExactArePlansRow : OpenClaim := { program := "yteocbaobanfpdaa", sum := "6e9f4f284599acc0870fc6f7f00e7bec76179f2e96f01338d7eae6a9d83243b2", func := "loop.example/g00991/laws.FnExactArePlans", spec := "fnExactArePlans", unfollowed := true, recurses := true, apart := false }
def FnExactArePlansSaid : Prop := fnExactArePlansRow.holds Try.pinned (OpenSpec.ofChange fnExactArePlansSpec)

/-- ITS FALSE NEIGHBOUR: 'it returns false'. Refute it at one input. -/
def fnExactArePlansWrong : ChangeSpec := { name := "fnExactArePlans", fn := fun _ => fun
  | [d1, d2] => { results := [.lit (.bool false)], args := [d1, d2] }
  | _ => none }
def FnExactArePlansWrongFalsely : Prop := fnExactArePlansRow.holds Try.pinned (OpenSpec.ofChange fnExactArePlansWrong)

/-- 'laws.FnExactCountGuards': WHATEVER THE INPUT: true; the input reads as it did. -/
def fnExactCountGuardsSpec : ChangeSpec := { name := "fnExactCountGuards", fn := fun _ => fun
  | [d] => { results := [.lit (.bool true)], args := [d] }
  | _ => none }
def fnExactCountGuardsRow : OpenClaim := { program := "yteocbaobanfpdaa", sum := "6e9f4f284599acc0870fc6f7f00e7bec76179f2e96f01338d7eae6a9d83243b2", func := "loop.example/g00991/laws.FnExactCountGuards", spec := "fnExactCountGuards", unfollowed := true, recurses := true, apart := false }
def FnExactCountGuardsSaid : Prop := fnExactCountGuardsRow.holds Try.pinned (OpenSpec.ofChange fnExactCountGuardsSpec)

/-- ITS FALSE NEIGHBOUR: 'it returns false'. Refute it at one input. -/
def fnExactCountGuardsWrong : ChangeSpec := { name := "fnExactCountGuards", fn := fun _ => fun
  | [d] => { results := [.lit (.bool false)], args := [d] }
  | _ => none }
def FnExactCountGuardsWrongFalsely : Prop := fnExactCountGuardsRow.holds Try.pinned (OpenSpec.ofChange fnExactCountGuardsWrong)

/-- 'laws.FnExactLinkDiameter': WHATEVER THE INPUT: true; the input reads as it did. -/
def fnExactLinkDiameterSpec : ChangeSpec := { name := "fnExactLinkDiameter", fn := fun _ => fun
  | [d] => { results := [.lit (.bool true)], args := [d] }
  | _ => none }
def fnExactLinkDiameterRow : OpenClaim := { program := "yteocbaobanfpdaa", sum := "6e9f4f284599acc0870fc6f7f00e7bec76179f2e96f01338d7eae6a9d83243b2", func := "loop.example/g00991/laws.FnExactLinkDiameter", spec := "fnExactLinkDiameter", unfollowed := true, recurses := true, apart := false }
def FnExactLinkDiameterSaid : Prop := fnExactLinkDiameterRow.holds Try.pinned (OpenSpec.ofChange fnExactLinkDiameterSpec)

/-- ITS FALSE NEIGHBOUR: 'it returns false'. Refute it at one input. -/
def fnExactLinkDiameterWrong : ChangeSpec := { name := "fnExactLinkDiameter", fn := fun _ => fun
  | [d] => { results := [.lit (.bool false)], args := [d] }
  | _ => none }
def FnExactLinkDiameterWrongFalsely : Prop := fnExactLinkDiameterRow.holds Try.pinned (OpenSpec.ofChange fnExactLinkDiameterWrong)

/-- 'laws.FnExactGreedyCuts': WHATEVER THE INPUT: true; the input reads as it did. -/
def fnExactGreedyCutsSpec : ChangeSpec := { name := "fnExactGreedyCuts", fn := fun _ => fun
  | [d] => { results := [.lit (.bool true)], args := [d] }
  | _ => none }
def fnExactGreedyCutsRow : OpenClaim := { program := "yteocbaobanfpdaa", sum := "6e9f4f284599acc0870fc6f7f00e7bec76179f2e96f01338d7eae6a9d83243b2", func := "loop.example/g00991/laws.FnExactGreedyCuts", spec := "fnExactGreedyCuts", unfollowed := true, recurses := true, apart := false }
def FnExactGreedyCutsSaid : Prop := fnExactGreedyCutsRow.holds Try.pinned (OpenSpec.ofChange fnExactGreedyCutsSpec)

/-- ITS FALSE NEIGHBOUR: 'it returns false'. Refute it at one input. -/
def fnExactGreedyCutsWrong : ChangeSpec := { name := "fnExactGreedyCuts", fn := fun _ => fun
  | [d] => { results := [.lit (.bool false)], args := [d] }
  | _ => none }
def FnExactGreedyCutsWrongFalsely : Prop := fnExactGreedyCutsRow.holds Try.pinned (OpenSpec.ofChange fnExactGreedyCutsWrong)

/-- 'laws.FnExactIsNeeded': WHATEVER THE INPUT: true; the input reads as it did. -/
def fnExactIsNeededSpec : ChangeSpec := { name := "fnExactIsNeeded", fn := fun _ => fun
  | [d1, d2, d3] => { results := [.lit (.bool true)], args := [d1, d2, d3] }
  | _ => none }
def fnExactIsNeededRow : OpenClaim := { program := "yteocbaobanfpdaa", sum := "6e9f4f284599acc0870fc6f7f00e7bec76179f2e96f01338d7eae6a9d83243b2", func := "loop.example/g00991/laws.FnExactIsNeeded", spec := "fnExactIsNeeded", unfollowed := true, recurses := true, apart := false }
def FnExactIsNeededSaid : Prop := fnExactIsNeededRow.holds Try.pinned (OpenSpec.ofChange fnExactIsNeededSpec)

/-- ITS FALSE NEIGHBOUR: 'it returns false'. Refute it at one input. -/
def fnExactIsNeededWrong : ChangeSpec := { name := "fnExactIsNeeded", fn := fun _ => fun
  | [d1, d2, d3] => { results := [.lit (.bool false)], args := [d1, d2, d3] }
  | _ => none }
def FnExactIsNeededWrongFalsely : Prop := fnExactIsNeededRow.holds Try.pinned (OpenSpec.ofChange fnExactIsNeededWrong)

/-- 'laws.FnExactFewestCorners': WHATEVER THE INPUT: true; the input reads as it did. -/
def fnExactFewestCornersSpec : ChangeSpec := { name := "fnExactFewestCorners", fn := fun _ => fun
  | [d] => { results := [.lit (.bool true)], args := [d] }
  | _ => none }
def fnExactFewestCornersRow : OpenClaim := { program := "yteocbaobanfpdaa", sum := "6e9f4f284599acc0870fc6f7f00e7bec76179f2e96f01338d7eae6a9d83243b2", func := "loop.example/g00991/laws.FnExactFewestCorners", spec := "fnExactFewestCorners", unfollowed := true, recurses := true, apart := false }
def FnExactFewestCornersSaid : Prop := fnExactFewestCornersRow.holds Try.pinned (OpenSpec.ofChange fnExactFewestCornersSpec)

/-- ITS FALSE NEIGHBOUR: 'it returns false'. Refute it at one input. -/
def fnExactFewestCornersWrong : ChangeSpec := { name := "fnExactFewestCorners", fn := fun _ => fun
  | [d] => { results := [.lit (.bool false)], args := [d] }
  | _ => none }
def FnExactFewestCornersWrongFalsely : Prop := fnExactFewestCornersRow.holds Try.pinned (OpenSpec.ofChange fnExactFewestCornersWrong)

/- THE SECOND FORM. 'bulk': how many values and letters a reading holds, each counted each time it is reached (what is shared counts as often as it is met; a slice's spare places count too). A statement '..UptoSaid' is the law's where the arguments, and the package variables that the reading takes, are together of bulk at most 1048576: NARROWER than '..Said'. Prove '..Said' where nothing that the law and all that it calls make is longer than what came in: it says more and counts as full. Else prove '..UptoSaid'. A law counts once. -/
mutual
def uptoBulk {H : Type} : DataW H → Nat
  | .lit (.string bytes) => bytes.length + 1
  | .lit _ => 1
  | .nil => 1
  | .ptr d => uptoBulk d + 1
  | .slice elems spare => uptoBulkAll elems + uptoBulkAll spare + 1
  | .agg parts => uptoBulkAll parts + 1
  | .iface _ d => uptoBulk d + 1
  | .map entries => uptoBulkEntries entries + 1
  | .held _ => 1
def uptoBulkAll {H : Type} : List (DataW H) → Nat
  | [] => 0
  | d :: r => uptoBulk d + uptoBulkAll r
def uptoBulkEntries {H : Type} : List (Lit × DataW H) → Nat
  | [] => 0
  | x :: r => uptoBulkEntry x + uptoBulkEntries r
def uptoBulkEntry {H : Type} : Lit × DataW H → Nat
  | (.string bytes, d) => bytes.length + uptoBulk d + 1
  | (_, d) => uptoBulk d + 1
 end
def uptoSmall : (H : Type) → List (DataW H) → Bool := fun _ ds => decide (uptoBulkAll ds ≤ 1048576)
def OpenSpec.upto (s : _root_.Go.ChangeSpec) : _root_.Go.OpenSpec := { _root_.Go.OpenSpec.ofChange s with cond := some uptoSmall }

/-- 'laws.FnExactCutEar', WHERE WHAT IT READS IS OF BULK AT MOST 1048576: true; the input reads as it did. -/
def fnExactCutEarUptoRow : OpenClaim := { program := "yteocbaobanfpdaa", sum := "6e9f4f284599acc0870fc6f7f00e7bec76179f2e96f01338d7eae6a9d83243b2", func := "loop.example/g00991/laws.FnExactCutEar", spec := "fnExactCutEar", unfollowed := true, recurses := true, apart := false, narrowed := true }
def FnExactCutEarUptoSaid : Prop := fnExactCutEarUptoRow.holds Try.pinned (OpenSpec.upto fnExactCutEarSpec)

/-- 'laws.FnExactPiecesBetween', WHERE WHAT IT READS IS OF BULK AT MOST 1048576: true; the input reads as it did. -/
def fnExactPiecesBetweenUptoRow : OpenClaim := { program := "yteocbaobanfpdaa", sum := "6e9f4f284599acc0870fc6f7f00e7bec76179f2e96f01338d7eae6a9d83243b2", func := "loop.example/g00991/laws.FnExactPiecesBetween", spec := "fnExactPiecesBetween", unfollowed := true, recurses := true, apart := false, narrowed := true }
def FnExactPiecesBetweenUptoSaid : Prop := fnExactPiecesBetweenUptoRow.holds Try.pinned (OpenSpec.upto fnExactPiecesBetweenSpec)

/-- 'laws.FnExactArePlans', WHERE WHAT IT READS IS OF BULK AT MOST 1048576: true; the input reads as it did. -/
def fnExactArePlansUptoRow : OpenClaim := { program := "yteocbaobanfpdaa", sum := "6e9f4f284599acc0870fc6f7f00e7bec76179f2e96f01338d7eae6a9d83243b2", func := "loop.example/g00991/laws.FnExactArePlans", spec := "fnExactArePlans", unfollowed := true, recurses := true, apart := false, narrowed := true }
def FnExactArePlansUptoSaid : Prop := fnExactArePlansUptoRow.holds Try.pinned (OpenSpec.upto fnExactArePlansSpec)

/-- 'laws.FnExactCountGuards', WHERE WHAT IT READS IS OF BULK AT MOST 1048576: true; the input reads as it did. -/
def fnExactCountGuardsUptoRow : OpenClaim := { program := "yteocbaobanfpdaa", sum := "6e9f4f284599acc0870fc6f7f00e7bec76179f2e96f01338d7eae6a9d83243b2", func := "loop.example/g00991/laws.FnExactCountGuards", spec := "fnExactCountGuards", unfollowed := true, recurses := true, apart := false, narrowed := true }
def FnExactCountGuardsUptoSaid : Prop := fnExactCountGuardsUptoRow.holds Try.pinned (OpenSpec.upto fnExactCountGuardsSpec)

/-- 'laws.FnExactLinkDiameter', WHERE WHAT IT READS IS OF BULK AT MOST 1048576: true; the input reads as it did. -/
def fnExactLinkDiameterUptoRow : OpenClaim := { program := "yteocbaobanfpdaa", sum := "6e9f4f284599acc0870fc6f7f00e7bec76179f2e96f01338d7eae6a9d83243b2", func := "loop.example/g00991/laws.FnExactLinkDiameter", spec := "fnExactLinkDiameter", unfollowed := true, recurses := true, apart := false, narrowed := true }
def FnExactLinkDiameterUptoSaid : Prop := fnExactLinkDiameterUptoRow.holds Try.pinned (OpenSpec.upto fnExactLinkDiameterSpec)

/-- 'laws.FnExactGreedyCuts', WHERE WHAT IT READS IS OF BULK AT MOST 1048576: true; the input reads as it did. -/
def fnExactGreedyCutsUptoRow : OpenClaim := { program := "yteocbaobanfpdaa", sum := "6e9f4f284599acc0870fc6f7f00e7bec76179f2e96f01338d7eae6a9d83243b2", func := "loop.example/g00991/laws.FnExactGreedyCuts", spec := "fnExactGreedyCuts", unfollowed := true, recurses := true, apart := false, narrowed := true }
def FnExactGreedyCutsUptoSaid : Prop := fnExactGreedyCutsUptoRow.holds Try.pinned (OpenSpec.upto fnExactGreedyCutsSpec)

/-- 'laws.FnExactIsNeeded', WHERE WHAT IT READS IS OF BULK AT MOST 1048576: true; the input reads as it did. -/
def fnExactIsNeededUptoRow : OpenClaim := { program := "yteocbaobanfpdaa", sum := "6e9f4f284599acc0870fc6f7f00e7bec76179f2e96f01338d7eae6a9d83243b2", func := "loop.example/g00991/laws.FnExactIsNeeded", spec := "fnExactIsNeeded", unfollowed := true, recurses := true, apart := false, narrowed := true }
def FnExactIsNeededUptoSaid : Prop := fnExactIsNeededUptoRow.holds Try.pinned (OpenSpec.upto fnExactIsNeededSpec)

/-- 'laws.FnExactFewestCorners', WHERE WHAT IT READS IS OF BULK AT MOST 1048576: true; the input reads as it did. -/
def fnExactFewestCornersUptoRow : OpenClaim := { program := "yteocbaobanfpdaa", sum := "6e9f4f284599acc0870fc6f7f00e7bec76179f2e96f01338d7eae6a9d83243b2", func := "loop.example/g00991/laws.FnExactFewestCorners", spec := "fnExactFewestCorners", unfollowed := true, recurses := true, apart := false, narrowed := true }
def FnExactFewestCornersUptoSaid : Prop := fnExactFewestCornersUptoRow.holds Try.pinned (OpenSpec.upto fnExactFewestCornersSpec)

end Rows
end Go.Proofs.Yteocbaobanfpdaa
