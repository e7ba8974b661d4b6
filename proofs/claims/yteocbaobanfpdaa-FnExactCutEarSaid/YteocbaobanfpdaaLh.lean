/- Contracts: moved rooms; the law on them. -/
import Derived.Test.YteocbaobanfpdaaLg
namespace Go.Proofs.Yteocbaobanfpdaa
open Go.RowKit Nm
set_option maxRecDepth 10000
set_option linter.unusedSimpArgs false
set_option linter.unusedVariables false
def movRoom (xs : List Pt) (dx dy : Int) : List Pt × Bool :=
  if (roomOk xs && (btw dx (-80) 80 && btw dy (-80) 80)) && roomOk (xs.map (movP dx dy)) then (xs.map (movP dx dy), true) else ([], false)
def rRoomB (x : List Pt × Bool) : RV := ⟨.tup [.inr [.own 0 0], .inl (.d (.bool x.2))], some ⟨t_impl_Point, none, .b .pt, x.1⟩⟩
def movRoomC : Con := mkCon [.room, .int, .int] (fun x => x.1.length ≤ 1048576) fun x => rRoomB (movRoom x.1 x.2.1 x.2.2.1)
theorem map_set {α : Type} (f : α → α) (d : α) {xs : List α} {k : Nat} (h : k < xs.length) : ((xs.map f).take k ++ xs.drop k).set k (f (xs.getD k d)) = (xs.map f).take (k + 1) ++ xs.drop (k + 1) := by
  rw [← mix_set (ys := xs.map f) h (by simp) (f d)]
  congr 1
  simp [List.getD, h]
end Go.Proofs.Yteocbaobanfpdaa
