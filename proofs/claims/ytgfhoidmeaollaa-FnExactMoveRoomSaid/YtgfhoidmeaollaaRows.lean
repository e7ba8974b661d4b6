/-
  No cell of these rows narrows 'for every input' (looked for: loops, veiled, ifaces, maps, wideKeys, modest, calm, conditions, laid).
  DERIVED. THE GIVEN ROWS OF THIS SEAT. 8 by the template 'for every input the law returns true; each argument reads behind the call as it read before'; 0 by the template 'total and deterministic' (their statements: YtgfhoidmeaollaaTotals.lean).
  GIVEN WITH THE SEED: the statements are not yours to turn. If you find one false, say at which input.
  Laid BY PROGRAM, IN A SANDBOX (cutbox-rows.mjs): the forced cells as the released guide's own fill.sh prints them over the translation 77d23aa875ca6fb4… (all of the seat's roots in one cut). By AI agents, Wed Nov 11 2026. No macro, syntax, notation, axiom, sorry.
-/
import Derived.Test.YtgfhoidmeaollaaChecked
import GoSem.Claim
import GoSem.ClaimJoined
import GoSem.ClaimMapViews
import Derived.JoinedTies
import Derived.KernelRfl
namespace Go.Proofs.Ytgfhoidmeaollaa
/- THE CELL 'sum', in the pinned program and in every row, IS THE sha256 OF THE DUMP (.gsa) THAT YtgfhoidmeaollaaProg.lean LOADS. Nothing in Lean hashes anything: it is a label: what it is worth is what the hold of that sum in a sandbox is worth. -/
noncomputable def Try.pinned : Pinned := { name := "ytgfhoidmeaollaa", sum := "77d23aa875ca6fb417c461a0714e5bf0b8155bb861361b4cac9098b5de52dad4", checked := Try.checked }
namespace Rows
def none {H : Type} : Left H := { results := [], args := [] }

/-- 'laws.FnExactTriangleArea': WHATEVER THE INPUT: true; the input reads as it did. -/
def fnExactTriangleAreaSpec : ChangeSpec := { name := "fnExactTriangleArea", fn := fun _ => fun
  | [d1, d2] => { results := [.lit (.bool true)], args := [d1, d2] }
  | _ => none }
def fnExactTriangleAreaRow : OpenClaim := { program := "ytgfhoidmeaollaa", sum := "77d23aa875ca6fb417c461a0714e5bf0b8155bb861361b4cac9098b5de52dad4", func := "loop.example/g00991/laws.FnExactTriangleArea", spec := "fnExactTriangleArea", apart := false }
def FnExactTriangleAreaSaid : Prop := fnExactTriangleAreaRow.holds Try.pinned (OpenSpec.ofChange fnExactTriangleAreaSpec)

/-- ITS FALSE NEIGHBOUR: 'it returns false'. Refute it at one input. -/
def fnExactTriangleAreaWrong : ChangeSpec := { name := "fnExactTriangleArea", fn := fun _ => fun
  | [d1, d2] => { results := [.lit (.bool false)], args := [d1, d2] }
  | _ => none }
def FnExactTriangleAreaWrongFalsely : Prop := fnExactTriangleAreaRow.holds Try.pinned (OpenSpec.ofChange fnExactTriangleAreaWrong)

/-- 'laws.FnExactInTriangle': WHATEVER THE INPUT: true; the input reads as it did. -/
def fnExactInTriangleSpec : ChangeSpec := { name := "fnExactInTriangle", fn := fun _ => fun
  | [d1, d2, d3] => { results := [.lit (.bool true)], args := [d1, d2, d3] }
  | _ => none }
def fnExactInTriangleRow : OpenClaim := { program := "ytgfhoidmeaollaa", sum := "77d23aa875ca6fb417c461a0714e5bf0b8155bb861361b4cac9098b5de52dad4", func := "loop.example/g00991/laws.FnExactInTriangle", spec := "fnExactInTriangle", apart := false }
def FnExactInTriangleSaid : Prop := fnExactInTriangleRow.holds Try.pinned (OpenSpec.ofChange fnExactInTriangleSpec)

/-- ITS FALSE NEIGHBOUR: 'it returns false'. Refute it at one input. -/
def fnExactInTriangleWrong : ChangeSpec := { name := "fnExactInTriangle", fn := fun _ => fun
  | [d1, d2, d3] => { results := [.lit (.bool false)], args := [d1, d2, d3] }
  | _ => none }
def FnExactInTriangleWrongFalsely : Prop := fnExactInTriangleRow.holds Try.pinned (OpenSpec.ofChange fnExactInTriangleWrong)

/-- 'laws.FnExactSameRoom': WHATEVER THE INPUT: true; the input reads as it did. -/
def fnExactSameRoomSpec : ChangeSpec := { name := "fnExactSameRoom", fn := fun _ => fun
  | [d1, d2] => { results := [.lit (.bool true)], args := [d1, d2] }
  | _ => none }
def fnExactSameRoomRow : OpenClaim := { program := "ytgfhoidmeaollaa", sum := "77d23aa875ca6fb417c461a0714e5bf0b8155bb861361b4cac9098b5de52dad4", func := "loop.example/g00991/laws.FnExactSameRoom", spec := "fnExactSameRoom", apart := false }
def FnExactSameRoomSaid : Prop := fnExactSameRoomRow.holds Try.pinned (OpenSpec.ofChange fnExactSameRoomSpec)

/-- ITS FALSE NEIGHBOUR: 'it returns false'. Refute it at one input. -/
def fnExactSameRoomWrong : ChangeSpec := { name := "fnExactSameRoom", fn := fun _ => fun
  | [d1, d2] => { results := [.lit (.bool false)], args := [d1, d2] }
  | _ => none }
def FnExactSameRoomWrongFalsely : Prop := fnExactSameRoomRow.holds Try.pinned (OpenSpec.ofChange fnExactSameRoomWrong)

/-- 'laws.FnExactPartArea': WHATEVER THE INPUT: true; the input reads as it did. -/
def fnExactPartAreaSpec : ChangeSpec := { name := "fnExactPartArea", fn := fun _ => fun
  | [d1, d2] => { results := [.lit (.bool true)], args := [d1, d2] }
  | _ => none }
def fnExactPartAreaRow : OpenClaim := { program := "ytgfhoidmeaollaa", sum := "77d23aa875ca6fb417c461a0714e5bf0b8155bb861361b4cac9098b5de52dad4", func := "loop.example/g00991/laws.FnExactPartArea", spec := "fnExactPartArea", apart := false }
def FnExactPartAreaSaid : Prop := fnExactPartAreaRow.holds Try.pinned (OpenSpec.ofChange fnExactPartAreaSpec)

/-- ITS FALSE NEIGHBOUR: 'it returns false'. Refute it at one input. -/
def fnExactPartAreaWrong : ChangeSpec := { name := "fnExactPartArea", fn := fun _ => fun
  | [d1, d2] => { results := [.lit (.bool false)], args := [d1, d2] }
  | _ => none }
def FnExactPartAreaWrongFalsely : Prop := fnExactPartAreaRow.holds Try.pinned (OpenSpec.ofChange fnExactPartAreaWrong)

/-- 'laws.FnExactTurnRoom': WHATEVER THE INPUT: true; the input reads as it did. -/
def fnExactTurnRoomSpec : ChangeSpec := { name := "fnExactTurnRoom", fn := fun _ => fun
  | [d] => { results := [.lit (.bool true)], args := [d] }
  | _ => none }
def fnExactTurnRoomRow : OpenClaim := { program := "ytgfhoidmeaollaa", sum := "77d23aa875ca6fb417c461a0714e5bf0b8155bb861361b4cac9098b5de52dad4", func := "loop.example/g00991/laws.FnExactTurnRoom", spec := "fnExactTurnRoom", unfollowed := true, recurses := true, apart := false }
def FnExactTurnRoomSaid : Prop := fnExactTurnRoomRow.holds Try.pinned (OpenSpec.ofChange fnExactTurnRoomSpec)

/-- ITS FALSE NEIGHBOUR: 'it returns false'. Refute it at one input. -/
def fnExactTurnRoomWrong : ChangeSpec := { name := "fnExactTurnRoom", fn := fun _ => fun
  | [d] => { results := [.lit (.bool false)], args := [d] }
  | _ => none }
def FnExactTurnRoomWrongFalsely : Prop := fnExactTurnRoomRow.holds Try.pinned (OpenSpec.ofChange fnExactTurnRoomWrong)

/-- 'laws.FnExactMirrorRoom': WHATEVER THE INPUT: true; the input reads as it did. -/
def fnExactMirrorRoomSpec : ChangeSpec := { name := "fnExactMirrorRoom", fn := fun _ => fun
  | [d] => { results := [.lit (.bool true)], args := [d] }
  | _ => none }
def fnExactMirrorRoomRow : OpenClaim := { program := "ytgfhoidmeaollaa", sum := "77d23aa875ca6fb417c461a0714e5bf0b8155bb861361b4cac9098b5de52dad4", func := "loop.example/g00991/laws.FnExactMirrorRoom", spec := "fnExactMirrorRoom", unfollowed := true, recurses := true, apart := false }
def FnExactMirrorRoomSaid : Prop := fnExactMirrorRoomRow.holds Try.pinned (OpenSpec.ofChange fnExactMirrorRoomSpec)

/-- ITS FALSE NEIGHBOUR: 'it returns false'. Refute it at one input. -/
def fnExactMirrorRoomWrong : ChangeSpec := { name := "fnExactMirrorRoom", fn := fun _ => fun
  | [d] => { results := [.lit (.bool false)], args := [d] }
  | _ => none }
def FnExactMirrorRoomWrongFalsely : Prop := fnExactMirrorRoomRow.holds Try.pinned (OpenSpec.ofChange fnExactMirrorRoomWrong)

/-- 'laws.FnExactMoveRoom': WHATEVER THE INPUT: true; the input reads as it did. -/
def fnExactMoveRoomSpec : ChangeSpec := { name := "fnExactMoveRoom", fn := fun _ => fun
  | [d1, d2, d3] => { results := [.lit (.bool true)], args := [d1, d2, d3] }
  | _ => none }
def fnExactMoveRoomRow : OpenClaim := { program := "ytgfhoidmeaollaa", sum := "77d23aa875ca6fb417c461a0714e5bf0b8155bb861361b4cac9098b5de52dad4", func := "loop.example/g00991/laws.FnExactMoveRoom", spec := "fnExactMoveRoom", unfollowed := true, recurses := true, apart := false }
def FnExactMoveRoomSaid : Prop := fnExactMoveRoomRow.holds Try.pinned (OpenSpec.ofChange fnExactMoveRoomSpec)

/-- ITS FALSE NEIGHBOUR: 'it returns false'. Refute it at one input. -/
def fnExactMoveRoomWrong : ChangeSpec := { name := "fnExactMoveRoom", fn := fun _ => fun
  | [d1, d2, d3] => { results := [.lit (.bool false)], args := [d1, d2, d3] }
  | _ => none }
def FnExactMoveRoomWrongFalsely : Prop := fnExactMoveRoomRow.holds Try.pinned (OpenSpec.ofChange fnExactMoveRoomWrong)

/-- 'laws.FnKernels': WHATEVER THE INPUT: true; the input reads as it did. -/
def fnKernelsSpec : ChangeSpec := { name := "fnKernels", fn := fun _ => fun
  | [d] => { results := [.lit (.bool true)], args := [d] }
  | _ => none }
def fnKernelsRow : OpenClaim := { program := "ytgfhoidmeaollaa", sum := "77d23aa875ca6fb417c461a0714e5bf0b8155bb861361b4cac9098b5de52dad4", func := "loop.example/g00991/laws.FnKernels", spec := "fnKernels", unfollowed := true, recurses := true, apart := false }
def FnKernelsSaid : Prop := fnKernelsRow.holds Try.pinned (OpenSpec.ofChange fnKernelsSpec)

/-- ITS FALSE NEIGHBOUR: 'it returns false'. Refute it at one input. -/
def fnKernelsWrong : ChangeSpec := { name := "fnKernels", fn := fun _ => fun
  | [d] => { results := [.lit (.bool false)], args := [d] }
  | _ => none }
def FnKernelsWrongFalsely : Prop := fnKernelsRow.holds Try.pinned (OpenSpec.ofChange fnKernelsWrong)

/- THE SECOND FORM. 'bulk': how many values and letters a reading holds, each counted each time it is reached (what is shared counts as often as it is met; a slice's spare places count too). A statement '..UptoSaid' is the law's where the arguments, and the package variables that the reading takes, are together of bulk at most 1048576: NARROWER than '..Said'. Prove '..Said' where nothing that the law and all that it calls make is longer than what came in: it says more and counts as full. Else prove '..UptoSaid'. A law counts once. -/
mutual
def uptoBulk {H : Type} : DataW H → Nat
  | .lit (.string bytes) => bytes.length + 1
  | .lit _ => 1
  | .nil => 1
  | .ptr d => uptoBulk d + 1
  | .slice elems spare => uptoBulkAll elems + uptoBulkAll spare + 1
  | .agg parts => uptoBulkAll parts + 1
  | .iface _ d => uptoBulk d + 1
  | .map entries => uptoBulkEntries entries + 1
  | .held _ => 1
def uptoBulkAll {H : Type} : List (DataW H) → Nat
  | [] => 0
  | d :: r => uptoBulk d + uptoBulkAll r
def uptoBulkEntries {H : Type} : List (Lit × DataW H) → Nat
  | [] => 0
  | x :: r => uptoBulkEntry x + uptoBulkEntries r
def uptoBulkEntry {H : Type} : Lit × DataW H → Nat
  | (.string bytes, d) => bytes.length + uptoBulk d + 1
  | (_, d) => uptoBulk d + 1
 end
def uptoSmall : (H : Type) → List (DataW H) → Bool := fun _ ds => decide (uptoBulkAll ds ≤ 1048576)
def OpenSpec.upto (s : _root_.Go.ChangeSpec) : _root_.Go.OpenSpec := { _root_.Go.OpenSpec.ofChange s with cond := some uptoSmall }

/-- 'laws.FnExactTriangleArea', WHERE WHAT IT READS IS OF BULK AT MOST 1048576: true; the input reads as it did. -/
def fnExactTriangleAreaUptoRow : OpenClaim := { program := "ytgfhoidmeaollaa", sum := "77d23aa875ca6fb417c461a0714e5bf0b8155bb861361b4cac9098b5de52dad4", func := "loop.example/g00991/laws.FnExactTriangleArea", spec := "fnExactTriangleArea", apart := false, narrowed := true }
def FnExactTriangleAreaUptoSaid : Prop := fnExactTriangleAreaUptoRow.holds Try.pinned (OpenSpec.upto fnExactTriangleAreaSpec)

/-- 'laws.FnExactInTriangle', WHERE WHAT IT READS IS OF BULK AT MOST 1048576: true; the input reads as it did. -/
def fnExactInTriangleUptoRow : OpenClaim := { program := "ytgfhoidmeaollaa", sum := "77d23aa875ca6fb417c461a0714e5bf0b8155bb861361b4cac9098b5de52dad4", func := "loop.example/g00991/laws.FnExactInTriangle", spec := "fnExactInTriangle", apart := false, narrowed := true }
def FnExactInTriangleUptoSaid : Prop := fnExactInTriangleUptoRow.holds Try.pinned (OpenSpec.upto fnExactInTriangleSpec)

/-- 'laws.FnExactSameRoom', WHERE WHAT IT READS IS OF BULK AT MOST 1048576: true; the input reads as it did. -/
def fnExactSameRoomUptoRow : OpenClaim := { program := "ytgfhoidmeaollaa", sum := "77d23aa875ca6fb417c461a0714e5bf0b8155bb861361b4cac9098b5de52dad4", func := "loop.example/g00991/laws.FnExactSameRoom", spec := "fnExactSameRoom", apart := false, narrowed := true }
def FnExactSameRoomUptoSaid : Prop := fnExactSameRoomUptoRow.holds Try.pinned (OpenSpec.upto fnExactSameRoomSpec)

/-- 'laws.FnExactPartArea', WHERE WHAT IT READS IS OF BULK AT MOST 1048576: true; the input reads as it did. -/
def fnExactPartAreaUptoRow : OpenClaim := { program := "ytgfhoidmeaollaa", sum := "77d23aa875ca6fb417c461a0714e5bf0b8155bb861361b4cac9098b5de52dad4", func := "loop.example/g00991/laws.FnExactPartArea", spec := "fnExactPartArea", apart := false, narrowed := true }
def FnExactPartAreaUptoSaid : Prop := fnExactPartAreaUptoRow.holds Try.pinned (OpenSpec.upto fnExactPartAreaSpec)

/-- 'laws.FnExactTurnRoom', WHERE WHAT IT READS IS OF BULK AT MOST 1048576: true; the input reads as it did. -/
def fnExactTurnRoomUptoRow : OpenClaim := { program := "ytgfhoidmeaollaa", sum := "77d23aa875ca6fb417c461a0714e5bf0b8155bb861361b4cac9098b5de52dad4", func := "loop.example/g00991/laws.FnExactTurnRoom", spec := "fnExactTurnRoom", unfollowed := true, recurses := true, apart := false, narrowed := true }
def FnExactTurnRoomUptoSaid : Prop := fnExactTurnRoomUptoRow.holds Try.pinned (OpenSpec.upto fnExactTurnRoomSpec)

/-- 'laws.FnExactMirrorRoom', WHERE WHAT IT READS IS OF BULK AT MOST 1048576: true; the input reads as it did. -/
def fnExactMirrorRoomUptoRow : OpenClaim := { program := "ytgfhoidmeaollaa", sum := "77d23aa875ca6fb417c461a0714e5bf0b8155bb861361b4cac9098b5de52dad4", func := "loop.example/g00991/laws.FnExactMirrorRoom", spec := "fnExactMirrorRoom", unfollowed := true, recurses := true, apart := false, narrowed := true }
def FnExactMirrorRoomUptoSaid : Prop := fnExactMirrorRoomUptoRow.holds Try.pinned (OpenSpec.upto fnExactMirrorRoomSpec)

/-- 'laws.FnExactMoveRoom', WHERE WHAT IT READS IS OF BULK AT MOST 1048576: true; the input reads as it did. -/
def fnExactMoveRoomUptoRow : OpenClaim := { program := "ytgfhoidmeaollaa", sum := "77d23aa875ca6fb417c461a0714e5bf0b8155bb861361b4cac9098b5de52dad4", func := "loop.example/g00991/laws.FnExactMoveRoom", spec := "fnExactMoveRoom", unfollowed := true, recurses := true, apart := false, narrowed := true }
def FnExactMoveRoomUptoSaid : Prop := fnExactMoveRoomUptoRow.holds Try.pinned (OpenSpec.upto fnExactMoveRoomSpec)

/-- 'laws.FnKernels', WHERE WHAT IT READS IS OF BULK AT MOST 1048576: true; the input reads as it did. -/
def fnKernelsUptoRow : OpenClaim := { program := "ytgfhoidmeaollaa", sum := "77d23aa875ca6fb417c461a0714e5bf0b8155bb861361b4cac9098b5de52dad4", func := "loop.example/g00991/laws.FnKernels", spec := "fnKernels", unfollowed := true, recurses := true, apart := false, narrowed := true }
def FnKernelsUptoSaid : Prop := fnKernelsUptoRow.holds Try.pinned (OpenSpec.upto fnKernelsSpec)

end Rows
end Go.Proofs.Ytgfhoidmeaollaa
