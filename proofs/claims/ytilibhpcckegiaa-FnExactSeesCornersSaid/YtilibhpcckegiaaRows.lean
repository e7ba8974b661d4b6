/-
  No cell of these rows narrows 'for every input' (looked for: loops, veiled, ifaces, maps, wideKeys, modest, calm, conditions, laid).
  DERIVED. THE GIVEN ROWS OF THIS SEAT. 12 by the template 'for every input the law returns true; each argument reads behind the call as it read before'; 0 by the template 'total and deterministic' (their statements: YtilibhpcckegiaaTotals.lean).
  GIVEN WITH THE SEED: the statements are not yours to turn. If you find one false, say at which input.
  Laid BY PROGRAM, IN A SANDBOX (cutbox-rows.mjs): the forced cells as the released guide's own fill.sh prints them over the translation d4ceaa9985a0f6a1… (all of the seat's roots in one cut). By AI agents, Wed Nov 11 2026. No macro, syntax, notation, axiom, sorry.
-/
import Derived.Test.YtilibhpcckegiaaChecked
import GoSem.Claim
import GoSem.ClaimJoined
import GoSem.ClaimMapViews
import Derived.JoinedTies
import Derived.KernelRfl
namespace Go.Proofs.Ytilibhpcckegiaa
/- THE CELL 'sum', in the pinned program and in every row, IS THE sha256 OF THE DUMP (.gsa) THAT YtilibhpcckegiaaProg.lean LOADS. Nothing in Lean hashes anything: it is a label: what it is worth is what the hold of that sum in a sandbox is worth. -/
noncomputable def Try.pinned : Pinned := { name := "ytilibhpcckegiaa", sum := "d4ceaa9985a0f6a1f36e12a4b6361aa710b9d6610256925874a6c11070a49ae6", checked := Try.checked }
namespace Rows
def none {H : Type} : Left H := { results := [], args := [] }

/-- 'laws.FnExactInKernel': WHATEVER THE INPUT: true; the input reads as it did. -/
def fnExactInKernelSpec : ChangeSpec := { name := "fnExactInKernel", fn := fun _ => fun
  | [d1, d2] => { results := [.lit (.bool true)], args := [d1, d2] }
  | _ => none }
def fnExactInKernelRow : OpenClaim := { program := "ytilibhpcckegiaa", sum := "d4ceaa9985a0f6a1f36e12a4b6361aa710b9d6610256925874a6c11070a49ae6", func := "loop.example/g00991/laws.FnExactInKernel", spec := "fnExactInKernel", apart := false }
def FnExactInKernelSaid : Prop := fnExactInKernelRow.holds Try.pinned (OpenSpec.ofChange fnExactInKernelSpec)

/-- ITS FALSE NEIGHBOUR: 'it returns false'. Refute it at one input. -/
def fnExactInKernelWrong : ChangeSpec := { name := "fnExactInKernel", fn := fun _ => fun
  | [d1, d2] => { results := [.lit (.bool false)], args := [d1, d2] }
  | _ => none }
def FnExactInKernelWrongFalsely : Prop := fnExactInKernelRow.holds Try.pinned (OpenSpec.ofChange fnExactInKernelWrong)

/-- 'laws.FnExactPointsOf': WHATEVER THE INPUT: true; the input reads as it did. -/
def fnExactPointsOfSpec : ChangeSpec := { name := "fnExactPointsOf", fn := fun _ => fun
  | [d1, d2] => { results := [.lit (.bool true)], args := [d1, d2] }
  | _ => none }
def fnExactPointsOfRow : OpenClaim := { program := "ytilibhpcckegiaa", sum := "d4ceaa9985a0f6a1f36e12a4b6361aa710b9d6610256925874a6c11070a49ae6", func := "loop.example/g00991/laws.FnExactPointsOf", spec := "fnExactPointsOf", apart := false }
def FnExactPointsOfSaid : Prop := fnExactPointsOfRow.holds Try.pinned (OpenSpec.ofChange fnExactPointsOfSpec)

/-- ITS FALSE NEIGHBOUR: 'it returns false'. Refute it at one input. -/
def fnExactPointsOfWrong : ChangeSpec := { name := "fnExactPointsOf", fn := fun _ => fun
  | [d1, d2] => { results := [.lit (.bool false)], args := [d1, d2] }
  | _ => none }
def FnExactPointsOfWrongFalsely : Prop := fnExactPointsOfRow.holds Try.pinned (OpenSpec.ofChange fnExactPointsOfWrong)

/-- 'laws.FnExactIsStar': WHATEVER THE INPUT: true; the input reads as it did. -/
def fnExactIsStarSpec : ChangeSpec := { name := "fnExactIsStar", fn := fun _ => fun
  | [d] => { results := [.lit (.bool true)], args := [d] }
  | _ => none }
def fnExactIsStarRow : OpenClaim := { program := "ytilibhpcckegiaa", sum := "d4ceaa9985a0f6a1f36e12a4b6361aa710b9d6610256925874a6c11070a49ae6", func := "loop.example/g00991/laws.FnExactIsStar", spec := "fnExactIsStar", apart := false }
def FnExactIsStarSaid : Prop := fnExactIsStarRow.holds Try.pinned (OpenSpec.ofChange fnExactIsStarSpec)

/-- ITS FALSE NEIGHBOUR: 'it returns false'. Refute it at one input. -/
def fnExactIsStarWrong : ChangeSpec := { name := "fnExactIsStar", fn := fun _ => fun
  | [d] => { results := [.lit (.bool false)], args := [d] }
  | _ => none }
def FnExactIsStarWrongFalsely : Prop := fnExactIsStarRow.holds Try.pinned (OpenSpec.ofChange fnExactIsStarWrong)

/-- 'laws.FnExactKernelPoints': WHATEVER THE INPUT: true; the input reads as it did. -/
def fnExactKernelPointsSpec : ChangeSpec := { name := "fnExactKernelPoints", fn := fun _ => fun
  | [d] => { results := [.lit (.bool true)], args := [d] }
  | _ => none }
def fnExactKernelPointsRow : OpenClaim := { program := "ytilibhpcckegiaa", sum := "d4ceaa9985a0f6a1f36e12a4b6361aa710b9d6610256925874a6c11070a49ae6", func := "loop.example/g00991/laws.FnExactKernelPoints", spec := "fnExactKernelPoints", apart := false }
def FnExactKernelPointsSaid : Prop := fnExactKernelPointsRow.holds Try.pinned (OpenSpec.ofChange fnExactKernelPointsSpec)

/-- ITS FALSE NEIGHBOUR: 'it returns false'. Refute it at one input. -/
def fnExactKernelPointsWrong : ChangeSpec := { name := "fnExactKernelPoints", fn := fun _ => fun
  | [d] => { results := [.lit (.bool false)], args := [d] }
  | _ => none }
def FnExactKernelPointsWrongFalsely : Prop := fnExactKernelPointsRow.holds Try.pinned (OpenSpec.ofChange fnExactKernelPointsWrong)

/-- 'laws.FnExactHullOf': WHATEVER THE INPUT: true; the input reads as it did. -/
def fnExactHullOfSpec : ChangeSpec := { name := "fnExactHullOf", fn := fun _ => fun
  | [d] => { results := [.lit (.bool true)], args := [d] }
  | _ => none }
def fnExactHullOfRow : OpenClaim := { program := "ytilibhpcckegiaa", sum := "d4ceaa9985a0f6a1f36e12a4b6361aa710b9d6610256925874a6c11070a49ae6", func := "loop.example/g00991/laws.FnExactHullOf", spec := "fnExactHullOf", unfollowed := true, recurses := true, apart := false }
def FnExactHullOfSaid : Prop := fnExactHullOfRow.holds Try.pinned (OpenSpec.ofChange fnExactHullOfSpec)

/-- ITS FALSE NEIGHBOUR: 'it returns false'. Refute it at one input. -/
def fnExactHullOfWrong : ChangeSpec := { name := "fnExactHullOf", fn := fun _ => fun
  | [d] => { results := [.lit (.bool false)], args := [d] }
  | _ => none }
def FnExactHullOfWrongFalsely : Prop := fnExactHullOfRow.holds Try.pinned (OpenSpec.ofChange fnExactHullOfWrong)

/-- 'laws.FnExactPocketArea': WHATEVER THE INPUT: true; the input reads as it did. -/
def fnExactPocketAreaSpec : ChangeSpec := { name := "fnExactPocketArea", fn := fun _ => fun
  | [d] => { results := [.lit (.bool true)], args := [d] }
  | _ => none }
def fnExactPocketAreaRow : OpenClaim := { program := "ytilibhpcckegiaa", sum := "d4ceaa9985a0f6a1f36e12a4b6361aa710b9d6610256925874a6c11070a49ae6", func := "loop.example/g00991/laws.FnExactPocketArea", spec := "fnExactPocketArea", unfollowed := true, recurses := true, apart := false }
def FnExactPocketAreaSaid : Prop := fnExactPocketAreaRow.holds Try.pinned (OpenSpec.ofChange fnExactPocketAreaSpec)

/-- ITS FALSE NEIGHBOUR: 'it returns false'. Refute it at one input. -/
def fnExactPocketAreaWrong : ChangeSpec := { name := "fnExactPocketArea", fn := fun _ => fun
  | [d] => { results := [.lit (.bool false)], args := [d] }
  | _ => none }
def FnExactPocketAreaWrongFalsely : Prop := fnExactPocketAreaRow.holds Try.pinned (OpenSpec.ofChange fnExactPocketAreaWrong)

/-- 'laws.FnExactSeesCorners': WHATEVER THE INPUT: true; the input reads as it did. -/
def fnExactSeesCornersSpec : ChangeSpec := { name := "fnExactSeesCorners", fn := fun _ => fun
  | [d1, d2] => { results := [.lit (.bool true)], args := [d1, d2] }
  | _ => none }
def fnExactSeesCornersRow : OpenClaim := { program := "ytilibhpcckegiaa", sum := "d4ceaa9985a0f6a1f36e12a4b6361aa710b9d6610256925874a6c11070a49ae6", func := "loop.example/g00991/laws.FnExactSeesCorners", spec := "fnExactSeesCorners", unfollowed := true, recurses := true, apart := false }
def FnExactSeesCornersSaid : Prop := fnExactSeesCornersRow.holds Try.pinned (OpenSpec.ofChange fnExactSeesCornersSpec)

/-- ITS FALSE NEIGHBOUR: 'it returns false'. Refute it at one input. -/
def fnExactSeesCornersWrong : ChangeSpec := { name := "fnExactSeesCorners", fn := fun _ => fun
  | [d1, d2] => { results := [.lit (.bool false)], args := [d1, d2] }
  | _ => none }
def FnExactSeesCornersWrongFalsely : Prop := fnExactSeesCornersRow.holds Try.pinned (OpenSpec.ofChange fnExactSeesCornersWrong)

/-- 'laws.FnExactWalkOk': WHATEVER THE INPUT: true; the input reads as it did. -/
def fnExactWalkOkSpec : ChangeSpec := { name := "fnExactWalkOk", fn := fun _ => fun
  | [d1, d2] => { results := [.lit (.bool true)], args := [d1, d2] }
  | _ => none }
def fnExactWalkOkRow : OpenClaim := { program := "ytilibhpcckegiaa", sum := "d4ceaa9985a0f6a1f36e12a4b6361aa710b9d6610256925874a6c11070a49ae6", func := "loop.example/g00991/laws.FnExactWalkOk", spec := "fnExactWalkOk", unfollowed := true, recurses := true, apart := false }
def FnExactWalkOkSaid : Prop := fnExactWalkOkRow.holds Try.pinned (OpenSpec.ofChange fnExactWalkOkSpec)

/-- ITS FALSE NEIGHBOUR: 'it returns false'. Refute it at one input. -/
def fnExactWalkOkWrong : ChangeSpec := { name := "fnExactWalkOk", fn := fun _ => fun
  | [d1, d2] => { results := [.lit (.bool false)], args := [d1, d2] }
  | _ => none }
def FnExactWalkOkWrongFalsely : Prop := fnExactWalkOkRow.holds Try.pinned (OpenSpec.ofChange fnExactWalkOkWrong)

/-- 'laws.FnExactAreHidden': WHATEVER THE INPUT: true; the input reads as it did. -/
def fnExactAreHiddenSpec : ChangeSpec := { name := "fnExactAreHidden", fn := fun _ => fun
  | [d1, d2] => { results := [.lit (.bool true)], args := [d1, d2] }
  | _ => none }
def fnExactAreHiddenRow : OpenClaim := { program := "ytilibhpcckegiaa", sum := "d4ceaa9985a0f6a1f36e12a4b6361aa710b9d6610256925874a6c11070a49ae6", func := "loop.example/g00991/laws.FnExactAreHidden", spec := "fnExactAreHidden", unfollowed := true, recurses := true, apart := false }
def FnExactAreHiddenSaid : Prop := fnExactAreHiddenRow.holds Try.pinned (OpenSpec.ofChange fnExactAreHiddenSpec)

/-- ITS FALSE NEIGHBOUR: 'it returns false'. Refute it at one input. -/
def fnExactAreHiddenWrong : ChangeSpec := { name := "fnExactAreHidden", fn := fun _ => fun
  | [d1, d2] => { results := [.lit (.bool false)], args := [d1, d2] }
  | _ => none }
def FnExactAreHiddenWrongFalsely : Prop := fnExactAreHiddenRow.holds Try.pinned (OpenSpec.ofChange fnExactAreHiddenWrong)

/-- 'laws.FnExactIsEar': WHATEVER THE INPUT: true; the input reads as it did. -/
def fnExactIsEarSpec : ChangeSpec := { name := "fnExactIsEar", fn := fun _ => fun
  | [d1, d2] => { results := [.lit (.bool true)], args := [d1, d2] }
  | _ => none }
def fnExactIsEarRow : OpenClaim := { program := "ytilibhpcckegiaa", sum := "d4ceaa9985a0f6a1f36e12a4b6361aa710b9d6610256925874a6c11070a49ae6", func := "loop.example/g00991/laws.FnExactIsEar", spec := "fnExactIsEar", unfollowed := true, recurses := true, apart := false }
def FnExactIsEarSaid : Prop := fnExactIsEarRow.holds Try.pinned (OpenSpec.ofChange fnExactIsEarSpec)

/-- ITS FALSE NEIGHBOUR: 'it returns false'. Refute it at one input. -/
def fnExactIsEarWrong : ChangeSpec := { name := "fnExactIsEar", fn := fun _ => fun
  | [d1, d2] => { results := [.lit (.bool false)], args := [d1, d2] }
  | _ => none }
def FnExactIsEarWrongFalsely : Prop := fnExactIsEarRow.holds Try.pinned (OpenSpec.ofChange fnExactIsEarWrong)

/-- 'laws.FnExactHullRoom': WHATEVER THE INPUT: true; the input reads as it did. -/
def fnExactHullRoomSpec : ChangeSpec := { name := "fnExactHullRoom", fn := fun _ => fun
  | [d] => { results := [.lit (.bool true)], args := [d] }
  | _ => none }
def fnExactHullRoomRow : OpenClaim := { program := "ytilibhpcckegiaa", sum := "d4ceaa9985a0f6a1f36e12a4b6361aa710b9d6610256925874a6c11070a49ae6", func := "loop.example/g00991/laws.FnExactHullRoom", spec := "fnExactHullRoom", unfollowed := true, recurses := true, apart := false }
def FnExactHullRoomSaid : Prop := fnExactHullRoomRow.holds Try.pinned (OpenSpec.ofChange fnExactHullRoomSpec)

/-- ITS FALSE NEIGHBOUR: 'it returns false'. Refute it at one input. -/
def fnExactHullRoomWrong : ChangeSpec := { name := "fnExactHullRoom", fn := fun _ => fun
  | [d] => { results := [.lit (.bool false)], args := [d] }
  | _ => none }
def FnExactHullRoomWrongFalsely : Prop := fnExactHullRoomRow.holds Try.pinned (OpenSpec.ofChange fnExactHullRoomWrong)

/-- 'laws.FnExactCountPockets': WHATEVER THE INPUT: true; the input reads as it did. -/
def fnExactCountPocketsSpec : ChangeSpec := { name := "fnExactCountPockets", fn := fun _ => fun
  | [d] => { results := [.lit (.bool true)], args := [d] }
  | _ => none }
def fnExactCountPocketsRow : OpenClaim := { program := "ytilibhpcckegiaa", sum := "d4ceaa9985a0f6a1f36e12a4b6361aa710b9d6610256925874a6c11070a49ae6", func := "loop.example/g00991/laws.FnExactCountPockets", spec := "fnExactCountPockets", unfollowed := true, recurses := true, apart := false }
def FnExactCountPocketsSaid : Prop := fnExactCountPocketsRow.holds Try.pinned (OpenSpec.ofChange fnExactCountPocketsSpec)

/-- ITS FALSE NEIGHBOUR: 'it returns false'. Refute it at one input. -/
def fnExactCountPocketsWrong : ChangeSpec := { name := "fnExactCountPockets", fn := fun _ => fun
  | [d] => { results := [.lit (.bool false)], args := [d] }
  | _ => none }
def FnExactCountPocketsWrongFalsely : Prop := fnExactCountPocketsRow.holds Try.pinned (OpenSpec.ofChange fnExactCountPocketsWrong)

/- THE SECOND FORM. 'bulk': how many values and letters a reading holds, each counted each time it is reached (what is shared counts as often as it is met; a slice's spare places count too). A statement '..UptoSaid' is the law's where the arguments, and the package variables that the reading takes, are together of bulk at most 1048576: NARROWER than '..Said'. Prove '..Said' where nothing that the law and all that it calls make is longer than what came in: it says more and counts as full. Else prove '..UptoSaid'. A law counts once. -/
mutual
def uptoBulk {H : Type} : DataW H → Nat
  | .lit (.string bytes) => bytes.length + 1
  | .lit _ => 1
  | .nil => 1
  | .ptr d => uptoBulk d + 1
  | .slice elems spare => uptoBulkAll elems + uptoBulkAll spare + 1
  | .agg parts => uptoBulkAll parts + 1
  | .iface _ d => uptoBulk d + 1
  | .map entries => uptoBulkEntries entries + 1
  | .held _ => 1
def uptoBulkAll {H : Type} : List (DataW H) → Nat
  | [] => 0
  | d :: r => uptoBulk d + uptoBulkAll r
def uptoBulkEntries {H : Type} : List (Lit × DataW H) → Nat
  | [] => 0
  | x :: r => uptoBulkEntry x + uptoBulkEntries r
def uptoBulkEntry {H : Type} : Lit × DataW H → Nat
  | (.string bytes, d) => bytes.length + uptoBulk d + 1
  | (_, d) => uptoBulk d + 1
 end
def uptoSmall : (H : Type) → List (DataW H) → Bool := fun _ ds => decide (uptoBulkAll ds ≤ 1048576)
def OpenSpec.upto (s : _root_.Go.ChangeSpec) : _root_.Go.OpenSpec := { _root_.Go.OpenSpec.ofChange s with cond := some uptoSmall }

/-- 'laws.FnExactInKernel', WHERE WHAT IT READS IS OF BULK AT MOST 1048576: true; the input reads as it did. -/
def fnExactInKernelUptoRow : OpenClaim := { program := "ytilibhpcckegiaa", sum := "d4ceaa9985a0f6a1f36e12a4b6361aa710b9d6610256925874a6c11070a49ae6", func := "loop.example/g00991/laws.FnExactInKernel", spec := "fnExactInKernel", apart := false, narrowed := true }
def FnExactInKernelUptoSaid : Prop := fnExactInKernelUptoRow.holds Try.pinned (OpenSpec.upto fnExactInKernelSpec)

/-- 'laws.FnExactPointsOf', WHERE WHAT IT READS IS OF BULK AT MOST 1048576: true; the input reads as it did. -/
def fnExactPointsOfUptoRow : OpenClaim := { program := "ytilibhpcckegiaa", sum := "d4ceaa9985a0f6a1f36e12a4b6361aa710b9d6610256925874a6c11070a49ae6", func := "loop.example/g00991/laws.FnExactPointsOf", spec := "fnExactPointsOf", apart := false, narrowed := true }
def FnExactPointsOfUptoSaid : Prop := fnExactPointsOfUptoRow.holds Try.pinned (OpenSpec.upto fnExactPointsOfSpec)

/-- 'laws.FnExactIsStar', WHERE WHAT IT READS IS OF BULK AT MOST 1048576: true; the input reads as it did. -/
def fnExactIsStarUptoRow : OpenClaim := { program := "ytilibhpcckegiaa", sum := "d4ceaa9985a0f6a1f36e12a4b6361aa710b9d6610256925874a6c11070a49ae6", func := "loop.example/g00991/laws.FnExactIsStar", spec := "fnExactIsStar", apart := false, narrowed := true }
def FnExactIsStarUptoSaid : Prop := fnExactIsStarUptoRow.holds Try.pinned (OpenSpec.upto fnExactIsStarSpec)

/-- 'laws.FnExactKernelPoints', WHERE WHAT IT READS IS OF BULK AT MOST 1048576: true; the input reads as it did. -/
def fnExactKernelPointsUptoRow : OpenClaim := { program := "ytilibhpcckegiaa", sum := "d4ceaa9985a0f6a1f36e12a4b6361aa710b9d6610256925874a6c11070a49ae6", func := "loop.example/g00991/laws.FnExactKernelPoints", spec := "fnExactKernelPoints", apart := false, narrowed := true }
def FnExactKernelPointsUptoSaid : Prop := fnExactKernelPointsUptoRow.holds Try.pinned (OpenSpec.upto fnExactKernelPointsSpec)

/-- 'laws.FnExactHullOf', WHERE WHAT IT READS IS OF BULK AT MOST 1048576: true; the input reads as it did. -/
def fnExactHullOfUptoRow : OpenClaim := { program := "ytilibhpcckegiaa", sum := "d4ceaa9985a0f6a1f36e12a4b6361aa710b9d6610256925874a6c11070a49ae6", func := "loop.example/g00991/laws.FnExactHullOf", spec := "fnExactHullOf", unfollowed := true, recurses := true, apart := false, narrowed := true }
def FnExactHullOfUptoSaid : Prop := fnExactHullOfUptoRow.holds Try.pinned (OpenSpec.upto fnExactHullOfSpec)

/-- 'laws.FnExactPocketArea', WHERE WHAT IT READS IS OF BULK AT MOST 1048576: true; the input reads as it did. -/
def fnExactPocketAreaUptoRow : OpenClaim := { program := "ytilibhpcckegiaa", sum := "d4ceaa9985a0f6a1f36e12a4b6361aa710b9d6610256925874a6c11070a49ae6", func := "loop.example/g00991/laws.FnExactPocketArea", spec := "fnExactPocketArea", unfollowed := true, recurses := true, apart := false, narrowed := true }
def FnExactPocketAreaUptoSaid : Prop := fnExactPocketAreaUptoRow.holds Try.pinned (OpenSpec.upto fnExactPocketAreaSpec)

/-- 'laws.FnExactSeesCorners', WHERE WHAT IT READS IS OF BULK AT MOST 1048576: true; the input reads as it did. -/
def fnExactSeesCornersUptoRow : OpenClaim := { program := "ytilibhpcckegiaa", sum := "d4ceaa9985a0f6a1f36e12a4b6361aa710b9d6610256925874a6c11070a49ae6", func := "loop.example/g00991/laws.FnExactSeesCorners", spec := "fnExactSeesCorners", unfollowed := true, recurses := true, apart := false, narrowed := true }
def FnExactSeesCornersUptoSaid : Prop := fnExactSeesCornersUptoRow.holds Try.pinned (OpenSpec.upto fnExactSeesCornersSpec)

/-- 'laws.FnExactWalkOk', WHERE WHAT IT READS IS OF BULK AT MOST 1048576: true; the input reads as it did. -/
def fnExactWalkOkUptoRow : OpenClaim := { program := "ytilibhpcckegiaa", sum := "d4ceaa9985a0f6a1f36e12a4b6361aa710b9d6610256925874a6c11070a49ae6", func := "loop.example/g00991/laws.FnExactWalkOk", spec := "fnExactWalkOk", unfollowed := true, recurses := true, apart := false, narrowed := true }
def FnExactWalkOkUptoSaid : Prop := fnExactWalkOkUptoRow.holds Try.pinned (OpenSpec.upto fnExactWalkOkSpec)

/-- 'laws.FnExactAreHidden', WHERE WHAT IT READS IS OF BULK AT MOST 1048576: true; the input reads as it did. -/
def fnExactAreHiddenUptoRow : OpenClaim := { program := "ytilibhpcckegiaa", sum := "d4ceaa9985a0f6a1f36e12a4b6361aa710b9d6610256925874a6c11070a49ae6", func := "loop.example/g00991/laws.FnExactAreHidden", spec := "fnExactAreHidden", unfollowed := true, recurses := true, apart := false, narrowed := true }
def FnExactAreHiddenUptoSaid : Prop := fnExactAreHiddenUptoRow.holds Try.pinned (OpenSpec.upto fnExactAreHiddenSpec)

/-- 'laws.FnExactIsEar', WHERE WHAT IT READS IS OF BULK AT MOST 1048576: true; the input reads as it did. -/
def fnExactIsEarUptoRow : OpenClaim := { program := "ytilibhpcckegiaa", sum := "d4ceaa9985a0f6a1f36e12a4b6361aa710b9d6610256925874a6c11070a49ae6", func := "loop.example/g00991/laws.FnExactIsEar", spec := "fnExactIsEar", unfollowed := true, recurses := true, apart := false, narrowed := true }
def FnExactIsEarUptoSaid : Prop := fnExactIsEarUptoRow.holds Try.pinned (OpenSpec.upto fnExactIsEarSpec)

/-- 'laws.FnExactHullRoom', WHERE WHAT IT READS IS OF BULK AT MOST 1048576: true; the input reads as it did. -/
def fnExactHullRoomUptoRow : OpenClaim := { program := "ytilibhpcckegiaa", sum := "d4ceaa9985a0f6a1f36e12a4b6361aa710b9d6610256925874a6c11070a49ae6", func := "loop.example/g00991/laws.FnExactHullRoom", spec := "fnExactHullRoom", unfollowed := true, recurses := true, apart := false, narrowed := true }
def FnExactHullRoomUptoSaid : Prop := fnExactHullRoomUptoRow.holds Try.pinned (OpenSpec.upto fnExactHullRoomSpec)

/-- 'laws.FnExactCountPockets', WHERE WHAT IT READS IS OF BULK AT MOST 1048576: true; the input reads as it did. -/
def fnExactCountPocketsUptoRow : OpenClaim := { program := "ytilibhpcckegiaa", sum := "d4ceaa9985a0f6a1f36e12a4b6361aa710b9d6610256925874a6c11070a49ae6", func := "loop.example/g00991/laws.FnExactCountPockets", spec := "fnExactCountPockets", unfollowed := true, recurses := true, apart := false, narrowed := true }
def FnExactCountPocketsUptoSaid : Prop := fnExactCountPocketsUptoRow.holds Try.pinned (OpenSpec.upto fnExactCountPocketsSpec)

end Rows
end Go.Proofs.Ytilibhpcckegiaa
