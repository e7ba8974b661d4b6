/- Contracts: points of corners, parts' areas; the law on them. -/
import Derived.Test.YtfjmlaciogmndaaLc
namespace Go.Proofs.Ytfjmlaciogmndaa
open Go.RowKit Nm
set_option maxRecDepth 10000
set_option linter.unusedSimpArgs false
set_option linter.unusedVariables false
def rowPts (xs : List Pt) : RV := ⟨.one (.own 0 0), some ⟨t_impl_Point, none, .b .pt, xs⟩⟩
def ptsOf (xs : List Pt) (ks : List Int) : List Pt := if roomOk xs && ks.all (fun k => btw k 0 (xs.length - 1)) then ks.map (pI xs) else []
theorem ptsOf_ok {xs : List Pt} {ks : List Int} (hx : roomOk xs = true) (h : ks.all (fun k => btw k 0 (xs.length - 1)) = true) : ptsOf xs ks = ks.map (pI xs) := by unfold ptsOf; rw [hx, h]; rfl
theorem ptsOf_no {xs : List Pt} {ks : List Int} {k : Nat} (hk : k < ks.length) (h : btw (ks.getD k 0) 0 (xs.length - 1) = false) : ptsOf xs ks = [] := by
  unfold ptsOf
  rw [all_no (k := k) 0 hk h]; simp
theorem ptsOf_bad {xs : List Pt} {ks : List Int} (h : roomOk xs = false) : ptsOf xs ks = [] := by unfold ptsOf; rw [h]; rfl
def ptsOfC : Con := mkCon [.room, .sl (.b .int)] (fun x => x.1.length ≤ 1048576 ∧ x.2.1.length ≤ 1048576) fun x => rowPts (ptsOf x.1 x.2.1)
theorem map_take_succ {α β : Type} (f : α → β) {xs : List α} {k : Nat} (d : α) (h : k < xs.length) : (xs.take (k + 1)).map f = (xs.take k).map f ++ [f (xs.getD k d)] := by
  rw [List.take_succ_eq_append_getElem h, List.map_append, getD_lt _ h]; rfl
def partArea (xs : List Pt) (ks : List Int) : Int := IntKind.i64.wrap (dbl (ptsOf xs ks))
def partAreaC : Con := mkCon [.room, .sl (.b .int)] (fun x => x.1.length ≤ 1048576 ∧ x.2.1.length ≤ 1048576) fun x => vI (partArea x.1 x.2.1)
theorem ptsOf_len {xs : List Pt} {ks : List Int} {n : Nat} (h : ks.length ≤ n) : (ptsOf xs ks).length ≤ n := by unfold ptsOf; split <;> simp; omega
end Go.Proofs.Ytfjmlaciogmndaa
