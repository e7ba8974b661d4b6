/- The closures that the program hands to the library's sort: what they compute, in the kit's own words. -/
import Derived.Test.YtfjmlaciogmndaaSm
namespace Go.Proofs.Ytfjmlaciogmndaa
open Go.Shelf Go.RowKit Go.Lib Go.Sort Go.Proofs.Ytfjmlaciogmndaa.Nm
set_option linter.unusedSimpArgs false
set_option linter.unusedVariables false
def sqM (a b : Pt2) : Int := wrap64 (wrap64 (wrap64 (a.1 - b.1) * wrap64 (a.1 - b.1)) + wrap64 (wrap64 (a.2 - b.2) * wrap64 (a.2 - b.2)))
set_option maxHeartbeats 1000000 in
theorem square_k (x y : Pt2) (W : World) : Calls Try.prog 80 #[.agg #[.int .i64 x.1, .int .i64 x.2], .agg #[.int .i64 y.1, .int .i64 y.2]] W fun e w' => e = .returned (.int .i64 (sqM x y)) ∧ ∃ q os', w' = grow (W.drewN q) os' := by
  go_enter Try.func80, Try.ntmps80
  go_wp2
  go_ret
  exact ⟨rfl, 0, _, by rw [alloc_eq_grow, alloc_eq_grow, grow_grow]; rfl⟩
/-- What the closure of cornersBetween compares by. -/
def cbCmp (a x y : Pt2) : Int := IntKind.i64.wrap (sqM a x - sqM a y)
theorem addr_plain {W : World} {ad : Addr} {v : Value} (h : W.cell? ad = some v) : ∃ b o, ad = ⟨b, o, none⟩ := by
  obtain ⟨b, o, sp⟩ := ad
  cases sp with
  | none => exact ⟨b, o, rfl⟩
  | some s => simp only [World.cell?] at h; split at h <;> simp at h
set_option maxHeartbeats 2000000 in
theorem cb_k (a x y : Pt2) (ad : Addr) (W : World) (h0 : W.cell? ad = some (.int .i64 a.1)) (h1 : W.cell? (ad.add 1) = some (.int .i64 a.2)) (hl : ad.block < W.heap.size) :
    Calls Try.prog 79 #[.agg #[.int .i64 x.1, .int .i64 x.2], .agg #[.int .i64 y.1, .int .i64 y.2], .pointer (some ad)] W fun e w' => e = .returned (.int .i64 (cbCmp a x y)) ∧ ∃ q os', w' = grow (W.drewN q) os' := by
  obtain ⟨b, o, rfl⟩ := addr_plain h0
  have h1 : W.cell? ⟨b, o + 1, none⟩ = some (.int .i64 a.2) := h1
  have hl : b < W.heap.size := hl
  have mixed : Try.prog.follows .mixedOrders = true := by kernel_rfl
  have hcon := fun x y W' => square_k x y W'
  go_enter Try.func79, Try.ntmps79
  go_wp2
  have hwq : ∃ W2 : World, W2 = (W.alloc (.cells #[.int .i64 x.1, .int .i64 x.2] 41)).alloc (.cells #[.int .i64 y.1, .int .i64 y.2] 41) := ⟨_, rfl⟩
  obtain ⟨W2, hW2⟩ := hwq
  have hgr : W2 = grow W #[.cells #[.int .i64 x.1, .int .i64 x.2] 41, .cells #[.int .i64 y.1, .int .i64 y.2] 41] := by rw [hW2, alloc_eq_grow, alloc_eq_grow, grow_grow]; rfl
  have hsz : W2.heap.size = W.heap.size + 2 := by rw [hgr, size_grow]; rfl
  have ca0 : ∀ n os, (grow (W2.drewN n) os).cell? ⟨b, o, none⟩ = some (.int .i64 a.1) := cell_grown (by rw [hsz]; show b < _; omega) (by rw [hgr, cell?_grow _ _ _ hl]; exact h0)
  have ca1 : ∀ n os, (grow (W2.drewN n) os).cell? ⟨b, o + 1, none⟩ = some (.int .i64 a.2) := cell_grown (by rw [hsz]; show b < _; omega) (by rw [hgr, cell?_grow _ _ _ hl]; exact h1)
  have cx0 : ∀ n os, (grow (W2.drewN n) os).cell? ⟨W.heap.size, 0, none⟩ = some (.int .i64 x.1) := cell_grown (by rw [hsz]; show W.heap.size < _; omega) (by rw [hW2]; simp)
  have cx1 : ∀ n os, (grow (W2.drewN n) os).cell? ⟨W.heap.size, 1, none⟩ = some (.int .i64 x.2) := cell_grown (by rw [hsz]; show W.heap.size < _; omega) (by rw [hW2]; simp)
  have cy0 : ∀ n os, (grow (W2.drewN n) os).cell? ⟨W.heap.size + 1, 0, none⟩ = some (.int .i64 y.1) := cell_grown (by rw [hsz]; show W.heap.size + 1 < _; omega) (by rw [hW2]; simp)
  have cy1 : ∀ n os, (grow (W2.drewN n) os).cell? ⟨W.heap.size + 1, 1, none⟩ = some (.int .i64 y.2) := cell_grown (by rw [hsz]; show W.heap.size + 1 < _; omega) (by rw [hW2]; simp)
  rw [← hW2]
  have HGR : Hid (W2 = grow W #[.cells #[.int .i64 x.1, .int .i64 x.2] 41, .cells #[.int .i64 y.1, .int .i64 y.2] 41]) := hgr
  clear hW2 hgr hsz h0 h1
  have eg : ∀ args w, (callFunc 80 args).run Try.prog w = .ok (.enter 80 args) w := enters_of Try.func80 (by kernel_rfl) rfl
  go_quiet_grown (first | (go_at_fn 80; refine Calls.grown_of (hcon _ _ _)))
  go_wp2_with fail
  go_ret
  exact ⟨rfl, nq, _, by rw [HGR.out]; show grow (grow (W.drewN nq) _) _ = _; rw [grow_grow]⟩
end Go.Proofs.Ytfjmlaciogmndaa
