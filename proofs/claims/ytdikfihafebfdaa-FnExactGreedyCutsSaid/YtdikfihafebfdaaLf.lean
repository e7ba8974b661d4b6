/- Contracts: turned, mirrored and moved rooms; the laws on them. -/
import Derived.Test.YtdikfihafebfdaaLe
namespace Go.Proofs.Ytdikfihafebfdaa
open Go.RowKit Nm
set_option maxRecDepth 10000
set_option linter.unusedSimpArgs false
set_option linter.unusedVariables false
theorem locRow_eq {v : Nat} {t : TypeId} {k : ElK} {xs ys : List k.T} (h : xs = ys) : (⟨v, .row t k xs⟩ : Loc) = ⟨v, .row t k ys⟩ := by rw [h]
theorem map_take1 {α β : Type} (f : α → β) {xs : List α} (d : α) (h : 0 < xs.length) : [f (xs.getD 0 d)] = (xs.take 1).map f := by
  cases xs with
  | nil => simp at h
  | cons a l => rfl
/-- What 'slices.Reverse' has done after i rounds. -/
def revTo {α : Type} (d : α) (xs : List α) (i : Nat) : List α := (List.range xs.length).map fun p => if p < i ∨ xs.length - i ≤ p then xs.getD (xs.length - 1 - p) d else xs.getD p d
theorem revTo_len {α : Type} (d : α) (xs : List α) (i : Nat) : (revTo d xs i).length = xs.length := by simp [revTo]
theorem revTo_get {α : Type} (d : α) {xs : List α} {i p : Nat} (hp : p < xs.length) : (revTo d xs i).getD p d = if p < i ∨ xs.length - i ≤ p then xs.getD (xs.length - 1 - p) d else xs.getD p d := by simp [revTo, List.getD, hp]
theorem ext_getD {α : Type} (d : α) {xs ys : List α} (hl : xs.length = ys.length) (h : ∀ p, p < xs.length → xs.getD p d = ys.getD p d) : xs = ys := by
  refine List.ext_getElem hl fun p h1 h2 => ?_
  have := h p h1
  rwa [getD_lt _ h1, getD_lt _ h2] at this
theorem revTo_zero {α : Type} (d : α) (xs : List α) : revTo d xs 0 = xs := ext_getD d (revTo_len d xs 0) fun p hp => by
  rw [revTo_len] at hp
  rw [revTo_get d hp, if_neg (by omega)]
theorem revTo_end {α : Type} (d : α) {xs : List α} {i : Nat} (h : xs.length ≤ 2 * i + 1) : revTo d xs i = xs.reverse := ext_getD d (by rw [revTo_len, List.length_reverse]) fun p hp => by
  rw [revTo_len] at hp
  rw [revTo_get d hp, List.getD_eq_getElem?_getD (l := xs.reverse), List.getElem?_reverse hp, ← List.getD_eq_getElem?_getD]
  split
  · rfl
  · rw [show xs.length - 1 - p = p by omega]
theorem getD_set {α : Type} {xs : List α} {i p : Nat} {x d : α} (hi : i < xs.length) : (xs.set i x).getD p d = if p = i then x else xs.getD p d := by
  rw [List.getD_eq_getElem?_getD, List.getElem?_set]
  by_cases h : i = p
  · subst h; simp [hi]
  · rw [if_neg h, if_neg (Ne.symm h)]; rfl
theorem revTo_step {α : Type} (d : α) {xs : List α} {i : Nat} (h : 2 * i + 1 < xs.length) :
    ((revTo d xs i).set i ((revTo d xs i).getD (xs.length - 1 - i) d)).set (xs.length - 1 - i) ((revTo d xs i).getD i d) = revTo d xs (i + 1) := ext_getD d (by simp [revTo_len]) fun p hp => by
  simp only [List.length_set, revTo_len] at hp
  rw [getD_set (by rw [List.length_set, revTo_len]; omega), getD_set (by rw [revTo_len]; omega), revTo_get d (by omega), revTo_get d (by omega), revTo_get d hp, revTo_get d hp]
  by_cases h1 : p = xs.length - 1 - i
  · subst h1
    rw [if_pos rfl, if_neg (by omega), if_pos (by omega)]
    congr 1; omega
  · rw [if_neg h1]
    by_cases h2 : p = i
    · subst h2
      rw [if_pos rfl, if_neg (by omega), if_pos (by omega)]
    · rw [if_neg h2]
      by_cases h3 : p < i ∨ xs.length - i ≤ p
      · rw [if_pos h3, if_pos (by omega)]
      · rw [if_neg h3, if_neg (by omega)]
end Go.Proofs.Ytdikfihafebfdaa
