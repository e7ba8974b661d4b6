/-
  No cell of these rows narrows 'for every input' (looked for: loops, veiled, ifaces, maps, wideKeys, modest, calm, conditions, laid).
  DERIVED. THE GIVEN ROWS OF THIS SEAT. 8 by the template 'for every input the law returns true; each argument reads behind the call as it read before'; 0 by the template 'total and deterministic' (their statements: YtapnjichedljbaaTotals.lean).
  GIVEN WITH THE SEED: the statements are not yours to turn. If you find one false, say at which input.
  Laid BY PROGRAM, IN A SANDBOX (cutbox-rows.mjs): the forced cells as the released guide's own fill.sh prints them over the translation 1bb506b32a3169a9… (all of the seat's roots in one cut). By AI agents, Wed Nov 11 2026. No macro, syntax, notation, axiom, sorry.
-/
import Derived.Test.YtapnjichedljbaaChecked
import GoSem.Claim
import GoSem.ClaimJoined
import GoSem.ClaimMapViews
import Derived.JoinedTies
import Derived.KernelRfl
namespace Go.Proofs.Ytapnjichedljbaa
/- THE CELL 'sum', in the pinned program and in every row, IS THE sha256 OF THE DUMP (.gsa) THAT YtapnjichedljbaaProg.lean LOADS. Nothing in Lean hashes anything: it is a label: what it is worth is what the hold of that sum in a sandbox is worth. -/
noncomputable def Try.pinned : Pinned := { name := "ytapnjichedljbaa", sum := "1bb506b32a3169a91cac1a645336dc5c767139af08199a1f1842cdb06afe993e", checked := Try.checked }
namespace Rows
def none {H : Type} : Left H := { results := [], args := [] }

/-- 'laws.FnExactHullOf': WHATEVER THE INPUT: true; the input reads as it did. -/
def fnExactHullOfSpec : ChangeSpec := { name := "fnExactHullOf", fn := fun _ => fun
  | [d] => { results := [.lit (.bool true)], args := [d] }
  | _ => none }
def fnExactHullOfRow : OpenClaim := { program := "ytapnjichedljbaa", sum := "1bb506b32a3169a91cac1a645336dc5c767139af08199a1f1842cdb06afe993e", func := "loop.example/g00991/laws.FnExactHullOf", spec := "fnExactHullOf", unfollowed := true, recurses := true, apart := false }
def FnExactHullOfSaid : Prop := fnExactHullOfRow.holds Try.pinned (OpenSpec.ofChange fnExactHullOfSpec)

/-- ITS FALSE NEIGHBOUR: 'it returns false'. Refute it at one input. -/
def fnExactHullOfWrong : ChangeSpec := { name := "fnExactHullOf", fn := fun _ => fun
  | [d] => { results := [.lit (.bool false)], args := [d] }
  | _ => none }
def FnExactHullOfWrongFalsely : Prop := fnExactHullOfRow.holds Try.pinned (OpenSpec.ofChange fnExactHullOfWrong)

/-- 'laws.FnExactPocketArea': WHATEVER THE INPUT: true; the input reads as it did. -/
def fnExactPocketAreaSpec : ChangeSpec := { name := "fnExactPocketArea", fn := fun _ => fun
  | [d] => { results := [.lit (.bool true)], args := [d] }
  | _ => none }
def fnExactPocketAreaRow : OpenClaim := { program := "ytapnjichedljbaa", sum := "1bb506b32a3169a91cac1a645336dc5c767139af08199a1f1842cdb06afe993e", func := "loop.example/g00991/laws.FnExactPocketArea", spec := "fnExactPocketArea", unfollowed := true, recurses := true, apart := false }
def FnExactPocketAreaSaid : Prop := fnExactPocketAreaRow.holds Try.pinned (OpenSpec.ofChange fnExactPocketAreaSpec)

/-- ITS FALSE NEIGHBOUR: 'it returns false'. Refute it at one input. -/
def fnExactPocketAreaWrong : ChangeSpec := { name := "fnExactPocketArea", fn := fun _ => fun
  | [d] => { results := [.lit (.bool false)], args := [d] }
  | _ => none }
def FnExactPocketAreaWrongFalsely : Prop := fnExactPocketAreaRow.holds Try.pinned (OpenSpec.ofChange fnExactPocketAreaWrong)

/-- 'laws.FnExactHullRoom': WHATEVER THE INPUT: true; the input reads as it did. -/
def fnExactHullRoomSpec : ChangeSpec := { name := "fnExactHullRoom", fn := fun _ => fun
  | [d] => { results := [.lit (.bool true)], args := [d] }
  | _ => none }
def fnExactHullRoomRow : OpenClaim := { program := "ytapnjichedljbaa", sum := "1bb506b32a3169a91cac1a645336dc5c767139af08199a1f1842cdb06afe993e", func := "loop.example/g00991/laws.FnExactHullRoom", spec := "fnExactHullRoom", unfollowed := true, recurses := true, apart := false }
def FnExactHullRoomSaid : Prop := fnExactHullRoomRow.holds Try.pinned (OpenSpec.ofChange fnExactHullRoomSpec)

/-- ITS FALSE NEIGHBOUR: 'it returns false'. Refute it at one input. -/
def fnExactHullRoomWrong : ChangeSpec := { name := "fnExactHullRoom", fn := fun _ => fun
  | [d] => { results := [.lit (.bool false)], args := [d] }
  | _ => none }
def FnExactHullRoomWrongFalsely : Prop := fnExactHullRoomRow.holds Try.pinned (OpenSpec.ofChange fnExactHullRoomWrong)

/-- 'laws.FnExactPiecesBetween': WHATEVER THE INPUT: true; the input reads as it did. -/
def fnExactPiecesBetweenSpec : ChangeSpec := { name := "fnExactPiecesBetween", fn := fun _ => fun
  | [d1, d2, d3] => { results := [.lit (.bool true)], args := [d1, d2, d3] }
  | _ => none }
def fnExactPiecesBetweenRow : OpenClaim := { program := "ytapnjichedljbaa", sum := "1bb506b32a3169a91cac1a645336dc5c767139af08199a1f1842cdb06afe993e", func := "loop.example/g00991/laws.FnExactPiecesBetween", spec := "fnExactPiecesBetween", unfollowed := true, recurses := true, apart := false }
def FnExactPiecesBetweenSaid : Prop := fnExactPiecesBetweenRow.holds Try.pinned (OpenSpec.ofChange fnExactPiecesBetweenSpec)

/-- ITS FALSE NEIGHBOUR: 'it returns false'. Refute it at one input. -/
def fnExactPiecesBetweenWrong : ChangeSpec := { name := "fnExactPiecesBetween", fn := fun _ => fun
  | [d1, d2, d3] => { results := [.lit (.bool false)], args := [d1, d2, d3] }
  | _ => none }
def FnExactPiecesBetweenWrongFalsely : Prop := fnExactPiecesBetweenRow.holds Try.pinned (OpenSpec.ofChange fnExactPiecesBetweenWrong)

/-- 'laws.FnExactCountGuards': WHATEVER THE INPUT: true; the input reads as it did. -/
def fnExactCountGuardsSpec : ChangeSpec := { name := "fnExactCountGuards", fn := fun _ => fun
  | [d] => { results := [.lit (.bool true)], args := [d] }
  | _ => none }
def fnExactCountGuardsRow : OpenClaim := { program := "ytapnjichedljbaa", sum := "1bb506b32a3169a91cac1a645336dc5c767139af08199a1f1842cdb06afe993e", func := "loop.example/g00991/laws.FnExactCountGuards", spec := "fnExactCountGuards", unfollowed := true, recurses := true, apart := false }
def FnExactCountGuardsSaid : Prop := fnExactCountGuardsRow.holds Try.pinned (OpenSpec.ofChange fnExactCountGuardsSpec)

/-- ITS FALSE NEIGHBOUR: 'it returns false'. Refute it at one input. -/
def fnExactCountGuardsWrong : ChangeSpec := { name := "fnExactCountGuards", fn := fun _ => fun
  | [d] => { results := [.lit (.bool false)], args := [d] }
  | _ => none }
def FnExactCountGuardsWrongFalsely : Prop := fnExactCountGuardsRow.holds Try.pinned (OpenSpec.ofChange fnExactCountGuardsWrong)

/-- 'laws.FnExactLinkDiameter': WHATEVER THE INPUT: true; the input reads as it did. -/
def fnExactLinkDiameterSpec : ChangeSpec := { name := "fnExactLinkDiameter", fn := fun _ => fun
  | [d] => { results := [.lit (.bool true)], args := [d] }
  | _ => none }
def fnExactLinkDiameterRow : OpenClaim := { program := "ytapnjichedljbaa", sum := "1bb506b32a3169a91cac1a645336dc5c767139af08199a1f1842cdb06afe993e", func := "loop.example/g00991/laws.FnExactLinkDiameter", spec := "fnExactLinkDiameter", unfollowed := true, recurses := true, apart := false }
def FnExactLinkDiameterSaid : Prop := fnExactLinkDiameterRow.holds Try.pinned (OpenSpec.ofChange fnExactLinkDiameterSpec)

/-- ITS FALSE NEIGHBOUR: 'it returns false'. Refute it at one input. -/
def fnExactLinkDiameterWrong : ChangeSpec := { name := "fnExactLinkDiameter", fn := fun _ => fun
  | [d] => { results := [.lit (.bool false)], args := [d] }
  | _ => none }
def FnExactLinkDiameterWrongFalsely : Prop := fnExactLinkDiameterRow.holds Try.pinned (OpenSpec.ofChange fnExactLinkDiameterWrong)

/-- 'laws.FnExactGreedyCuts': WHATEVER THE INPUT: true; the input reads as it did. -/
def fnExactGreedyCutsSpec : ChangeSpec := { name := "fnExactGreedyCuts", fn := fun _ => fun
  | [d] => { results := [.lit (.bool true)], args := [d] }
  | _ => none }
def fnExactGreedyCutsRow : OpenClaim := { program := "ytapnjichedljbaa", sum := "1bb506b32a3169a91cac1a645336dc5c767139af08199a1f1842cdb06afe993e", func := "loop.example/g00991/laws.FnExactGreedyCuts", spec := "fnExactGreedyCuts", unfollowed := true, recurses := true, apart := false }
def FnExactGreedyCutsSaid : Prop := fnExactGreedyCutsRow.holds Try.pinned (OpenSpec.ofChange fnExactGreedyCutsSpec)

/-- ITS FALSE NEIGHBOUR: 'it returns false'. Refute it at one input. -/
def fnExactGreedyCutsWrong : ChangeSpec := { name := "fnExactGreedyCuts", fn := fun _ => fun
  | [d] => { results := [.lit (.bool false)], args := [d] }
  | _ => none }
def FnExactGreedyCutsWrongFalsely : Prop := fnExactGreedyCutsRow.holds Try.pinned (OpenSpec.ofChange fnExactGreedyCutsWrong)

/-- 'laws.FnExactFewestCorners': WHATEVER THE INPUT: true; the input reads as it did. -/
def fnExactFewestCornersSpec : ChangeSpec := { name := "fnExactFewestCorners", fn := fun _ => fun
  | [d] => { results := [.lit (.bool true)], args := [d] }
  | _ => none }
def fnExactFewestCornersRow : OpenClaim := { program := "ytapnjichedljbaa", sum := "1bb506b32a3169a91cac1a645336dc5c767139af08199a1f1842cdb06afe993e", func := "loop.example/g00991/laws.FnExactFewestCorners", spec := "fnExactFewestCorners", unfollowed := true, recurses := true, apart := false }
def FnExactFewestCornersSaid : Prop := fnExactFewestCornersRow.holds Try.pinned (OpenSpec.ofChange fnExactFewestCornersSpec)

/-- ITS FALSE NEIGHBOUR: 'it returns false'. Refute it at one input. -/
def fnExactFewestCornersWrong : ChangeSpec := { name := "fnExactFewestCorners", fn := fun _ => fun
  | [d] => { results := [.lit (.bool false)], args := [d] }
  | _ => none }
def FnExactFewestCornersWrongFalsely : Prop := fnExactFewestCornersRow.holds Try.pinned (OpenSpec.ofChange fnExactFewestCornersWrong)

/- THE SECOND FORM. 'bulk': how many values and letters a reading holds, each counted each time it is reached (what is shared counts as often as it is met; a slice's spare places count too). A statement '..UptoSaid' is the law's where the arguments, and the package variables that the reading takes, are together of bulk at most 1048576: NARROWER than '..Said'. Prove '..Said' where nothing that the law and all that it calls make is longer than what came in: it says more and counts as full. Else prove '..UptoSaid'. A law counts once. -/
mutual
def uptoBulk {H : Type} : DataW H → Nat
  | .lit (.string bytes) => bytes.length + 1
  | .lit _ => 1
  | .nil => 1
  | .ptr d => uptoBulk d + 1
  | .slice elems spare => uptoBulkAll elems + uptoBulkAll spare + 1
  | .agg parts => uptoBulkAll parts + 1
  | .iface _ d => uptoBulk d + 1
  | .map entries => uptoBulkEntries entries + 1
  | .held _ => 1
def uptoBulkAll {H : Type} : List (DataW H) → Nat
  | [] => 0
  | d :: r => uptoBulk d + uptoBulkAll r
def uptoBulkEntries {H : Type} : List (Lit × DataW H) → Nat
  | [] => 0
  | x :: r => uptoBulkEntry x + uptoBulkEntries r
def uptoBulkEntry {H : Type} : Lit × DataW H → Nat
  | (.string bytes, d) => bytes.length + uptoBulk d + 1
  | (_, d) => uptoBulk d + 1
 end
def uptoSmall : (H : Type) → List (DataW H) → Bool := fun _ ds => decide (uptoBulkAll ds ≤ 1048576)
def OpenSpec.upto (s : _root_.Go.ChangeSpec) : _root_.Go.OpenSpec := { _root_.Go.OpenSpec.ofChange s with cond := some uptoSmall }

/-- 'laws.FnExactHullOf', WHERE WHAT IT READS IS OF BULK AT MOST 1048576: true; the input reads as it did. -/
def fnExactHullOfUptoRow : OpenClaim := { program := "ytapnjichedljbaa", sum := "1bb506b32a3169a91cac1a645336dc5c767139af08199a1f1842cdb06afe993e", func := "loop.example/g00991/laws.FnExactHullOf", spec := "fnExactHullOf", unfollowed := true, recurses := true, apart := false, narrowed := true }
def FnExactHullOfUptoSaid : Prop := fnExactHullOfUptoRow.holds Try.pinned (OpenSpec.upto fnExactHullOfSpec)

/-- 'laws.FnExactPocketArea', WHERE WHAT IT READS IS OF BULK AT MOST 1048576: true; the input reads as it did. -/
def fnExactPocketAreaUptoRow : OpenClaim := { program := "ytapnjichedljbaa", sum := "1bb506b32a3169a91cac1a645336dc5c767139af08199a1f1842cdb06afe993e", func := "loop.example/g00991/laws.FnExactPocketArea", spec := "fnExactPocketArea", unfollowed := true, recurses := true, apart := false, narrowed := true }
def FnExactPocketAreaUptoSaid : Prop := fnExactPocketAreaUptoRow.holds Try.pinned (OpenSpec.upto fnExactPocketAreaSpec)

/-- 'laws.FnExactHullRoom', WHERE WHAT IT READS IS OF BULK AT MOST 1048576: true; the input reads as it did. -/
def fnExactHullRoomUptoRow : OpenClaim := { program := "ytapnjichedljbaa", sum := "1bb506b32a3169a91cac1a645336dc5c767139af08199a1f1842cdb06afe993e", func := "loop.example/g00991/laws.FnExactHullRoom", spec := "fnExactHullRoom", unfollowed := true, recurses := true, apart := false, narrowed := true }
def FnExactHullRoomUptoSaid : Prop := fnExactHullRoomUptoRow.holds Try.pinned (OpenSpec.upto fnExactHullRoomSpec)

/-- 'laws.FnExactPiecesBetween', WHERE WHAT IT READS IS OF BULK AT MOST 1048576: true; the input reads as it did. -/
def fnExactPiecesBetweenUptoRow : OpenClaim := { program := "ytapnjichedljbaa", sum := "1bb506b32a3169a91cac1a645336dc5c767139af08199a1f1842cdb06afe993e", func := "loop.example/g00991/laws.FnExactPiecesBetween", spec := "fnExactPiecesBetween", unfollowed := true, recurses := true, apart := false, narrowed := true }
def FnExactPiecesBetweenUptoSaid : Prop := fnExactPiecesBetweenUptoRow.holds Try.pinned (OpenSpec.upto fnExactPiecesBetweenSpec)

/-- 'laws.FnExactCountGuards', WHERE WHAT IT READS IS OF BULK AT MOST 1048576: true; the input reads as it did. -/
def fnExactCountGuardsUptoRow : OpenClaim := { program := "ytapnjichedljbaa", sum := "1bb506b32a3169a91cac1a645336dc5c767139af08199a1f1842cdb06afe993e", func := "loop.example/g00991/laws.FnExactCountGuards", spec := "fnExactCountGuards", unfollowed := true, recurses := true, apart := false, narrowed := true }
def FnExactCountGuardsUptoSaid : Prop := fnExactCountGuardsUptoRow.holds Try.pinned (OpenSpec.upto fnExactCountGuardsSpec)

/-- 'laws.FnExactLinkDiameter', WHERE WHAT IT READS IS OF BULK AT MOST 1048576: true; the input reads as it did. -/
def fnExactLinkDiameterUptoRow : OpenClaim := { program := "ytapnjichedljbaa", sum := "1bb506b32a3169a91cac1a645336dc5c767139af08199a1f1842cdb06afe993e", func := "loop.example/g00991/laws.FnExactLinkDiameter", spec := "fnExactLinkDiameter", unfollowed := true, recurses := true, apart := false, narrowed := true }
def FnExactLinkDiameterUptoSaid : Prop := fnExactLinkDiameterUptoRow.holds Try.pinned (OpenSpec.upto fnExactLinkDiameterSpec)

/-- 'laws.FnExactGreedyCuts', WHERE WHAT IT READS IS OF BULK AT MOST 1048576: true; the input reads as it did. -/
def fnExactGreedyCutsUptoRow : OpenClaim := { program := "ytapnjichedljbaa", sum := "1bb506b32a3169a91cac1a645336dc5c767139af08199a1f1842cdb06afe993e", func := "loop.example/g00991/laws.FnExactGreedyCuts", spec := "fnExactGreedyCuts", unfollowed := true, recurses := true, apart := false, narrowed := true }
def FnExactGreedyCutsUptoSaid : Prop := fnExactGreedyCutsUptoRow.holds Try.pinned (OpenSpec.upto fnExactGreedyCutsSpec)

/-- 'laws.FnExactFewestCorners', WHERE WHAT IT READS IS OF BULK AT MOST 1048576: true; the input reads as it did. -/
def fnExactFewestCornersUptoRow : OpenClaim := { program := "ytapnjichedljbaa", sum := "1bb506b32a3169a91cac1a645336dc5c767139af08199a1f1842cdb06afe993e", func := "loop.example/g00991/laws.FnExactFewestCorners", spec := "fnExactFewestCorners", unfollowed := true, recurses := true, apart := false, narrowed := true }
def FnExactFewestCornersUptoSaid : Prop := fnExactFewestCornersUptoRow.holds Try.pinned (OpenSpec.upto fnExactFewestCornersSpec)

end Rows
end Go.Proofs.Ytapnjichedljbaa
