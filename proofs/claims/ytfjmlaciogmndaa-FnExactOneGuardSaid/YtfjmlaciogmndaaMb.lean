/- Places of points in polygons, floors, kernels: plain mathematics. -/
import Derived.Test.YtfjmlaciogmndaaMa
namespace Go.Proofs.Ytfjmlaciogmndaa
open Go.RowKit
def upI (p a b : Pt) : Bool := ((decide (p.2 < a.2)) != (decide (p.2 < b.2))) && ((decide (0 < turn a b p)) == decide (a.2 < b.2))
def upS (p a b : Pt) : Bool := (decide (a.2 ≤ p.2) && (decide (p.2 < b.2) && decide (0 < turn a b p))) || (decide (b.2 ≤ p.2) && (decide (p.2 < a.2) && decide (turn a b p < 0)))
def par (f : Nat → Bool) : Nat → Bool
  | 0 => false
  | k + 1 => par f k != f k
abbrev onAt (xs : List Pt) (p : Pt) (k : Nat) : Bool := onS p (pAt xs k) (pCy xs (k + 1))
abbrev upIAt (xs : List Pt) (p : Pt) (k : Nat) : Bool := upI p (pAt xs k) (pCy xs (k + 1))
abbrev upSAt (xs : List Pt) (p : Pt) (k : Nat) : Bool := upS p (pAt xs k) (pCy xs (k + 1))
def onAny (xs : List Pt) (p : Pt) : Bool := (List.range xs.length).any (onAt xs p)
def placeM (xs : List Pt) (p : Pt) : Int := if onAny xs p then 1 else if par (upIAt xs p) xs.length then 2 else 0
def holdsM (xs : List Pt) (p : Pt) : Int := if onAny xs p then 0 else if par (upSAt xs p) xs.length then 1 else -1
theorem onAny_yes {xs : List Pt} {p : Pt} {k : Nat} (hk : k < xs.length) (h : onAt xs p k = true) : onAny xs p = true := by
  unfold onAny; rw [List.any_eq_true]; exact ⟨k, List.mem_range.2 hk, h⟩
theorem onAny_no {xs : List Pt} {p : Pt} (h : ∀ k, k < xs.length → onAt xs p k = false) : onAny xs p = false := by
  unfold onAny; rw [List.any_eq_false]; intro k hk; rw [h k (List.mem_range.1 hk)]; decide
theorem onAny_off {xs : List Pt} {p : Pt} (h : onAny xs p = false) {k : Nat} (hk : k < xs.length) : onAt xs p k = false := by
  unfold onAny at h; rw [List.any_eq_false] at h
  simpa using h k (List.mem_range.2 hk)
theorem par_congr {f g : Nat → Bool} : ∀ {n : Nat}, (∀ k, k < n → f k = g k) → par f n = par g n
  | 0, _ => rfl
  | n + 1, h => by unfold par; rw [par_congr (n := n) fun k hk => h k (by omega), h n (by omega)]
/-- Coordinates that no product here outgrows. -/
def Bd (p : Pt) : Prop := (-1000 ≤ p.1 ∧ p.1 ≤ 1000) ∧ -1000 ≤ p.2 ∧ p.2 ≤ 1000
theorem mul_bd {a b : Int} (h1 : -2000 ≤ a) (h2 : a ≤ 2000) (h3 : -2000 ≤ b) (h4 : b ≤ 2000) : -4000000 ≤ a * b ∧ a * b ≤ 4000000 := by
  have h5 : (a + 2000) * (b + 2000) ≥ 0 := Int.mul_nonneg (by omega) (by omega)
  have h6 : (2000 - a) * (2000 - b) ≥ 0 := Int.mul_nonneg (by omega) (by omega)
  have h7 : (a + 2000) * (2000 - b) ≥ 0 := Int.mul_nonneg (by omega) (by omega)
  have h8 : (2000 - a) * (b + 2000) ≥ 0 := Int.mul_nonneg (by omega) (by omega)
  simp only [Int.add_mul, Int.mul_add, Int.sub_mul, Int.mul_sub] at h5 h6 h7 h8
  omega
/-- The turn, as the integers have it. -/
def turnZ (a b c : Pt) : Int := (b.1 - a.1) * (c.2 - a.2) - (b.2 - a.2) * (c.1 - a.1)
theorem turn_exact {a b c : Pt} (ha : Bd a) (hb : Bd b) (hc : Bd c) : turn a b c = turnZ a b c := by
  obtain ⟨⟨a1, a2⟩, a3, a4⟩ := ha
  obtain ⟨⟨b1, b2⟩, b3, b4⟩ := hb
  obtain ⟨⟨c1, c2⟩, c3, c4⟩ := hc
  unfold turn turnZ
  have h1 := mul_bd (a := b.1 - a.1) (b := c.2 - a.2) (by omega) (by omega) (by omega) (by omega)
  have h2 := mul_bd (a := b.2 - a.2) (b := c.1 - a.1) (by omega) (by omega) (by omega) (by omega)
  exact W_in (by omega) (by omega)
/-- What lies between, on one line: a step of proportions. -/
theorem prop_btw {u v d e : Int} (he : 0 < e) (hed : e ≤ d) (h : u * e = d * v) : (0 ≤ u → 0 ≤ v ∧ v ≤ u) ∧ (u ≤ 0 → u ≤ v ∧ v ≤ 0) := by
  constructor
  · intro hu
    have h1 : 0 ≤ u * e := Int.mul_nonneg hu (by omega)
    have h2 : u * e ≤ u * d := Int.mul_le_mul_of_nonneg_left hed hu
    refine ⟨?_, ?_⟩
    · rcases Int.lt_or_le v 0 with hv | hv
      · have := Int.mul_le_mul_of_nonneg_left (show v ≤ -1 by omega) (show 0 ≤ d by omega)
        omega
      · exact hv
    · rcases Int.lt_or_le u v with hv | hv
      · have := Int.mul_le_mul_of_nonneg_left (show u + 1 ≤ v by omega) (show 0 ≤ d by omega)
        rw [Int.mul_add, Int.mul_comm d u] at this
        omega
      · exact hv
  · intro hu
    have h1 : u * e ≤ 0 := Int.mul_nonpos_of_nonpos_of_nonneg hu (by omega)
    have h2 : u * d ≤ u * e := Int.mul_le_mul_of_nonpos_left hu hed
    refine ⟨?_, ?_⟩
    · rcases Int.lt_or_le v u with hv | hv
      · have := Int.mul_le_mul_of_nonneg_left (show v + 1 ≤ u by omega) (show 0 ≤ d by omega)
        rw [Int.mul_add, Int.mul_comm d u] at this
        omega
      · exact hv
    · rcases Int.lt_or_le 0 v with hv | hv
      · have := Int.mul_le_mul_of_nonneg_left (show 1 ≤ v by omega) (show 0 ≤ d by omega)
        omega
      · exact hv
theorem on_of_flat {p a b : Pt} (h0 : turnZ a b p = 0) (ht : turn a b p = 0) (h1 : b.2 ≤ p.2) (h2 : p.2 < a.2) : onS p a b = true := by
  have h3 : (b.1 - a.1) * (a.2 - p.2) = (a.2 - b.2) * (p.1 - a.1) := by
    unfold turnZ at h0
    have e1 : (b.1 - a.1) * (a.2 - p.2) = -((b.1 - a.1) * (p.2 - a.2)) := by rw [← Int.mul_neg]; congr 1; omega
    have e2 : (a.2 - b.2) * (p.1 - a.1) = -((b.2 - a.2) * (p.1 - a.1)) := by rw [← Int.neg_mul]; congr 1; omega
    omega
  have h4 := prop_btw (u := b.1 - a.1) (v := p.1 - a.1) (d := a.2 - b.2) (e := a.2 - p.2) (by omega) (by omega) h3
  unfold onS
  simp only [ht, decide_true, Bool.true_and, Bool.and_eq_true, btw_iff]
  rcases Int.le_total 0 (b.1 - a.1) with h5 | h5
  · have := h4.1 h5
    refine ⟨?_, ?_⟩ <;> omega
  · have := h4.2 h5
    refine ⟨?_, ?_⟩ <;> omega
theorem up_eq {p a b : Pt} (hp : Bd p) (ha : Bd a) (hb : Bd b) (hon : onS p a b = false) : upI p a b = upS p a b := by
  have hT := turn_exact ha hb hp
  unfold upI upS
  by_cases h1 : p.2 < a.2
  · by_cases h2 : p.2 < b.2
    · have e1 : ¬ a.2 ≤ p.2 := by omega
      have e2 : ¬ b.2 ≤ p.2 := by omega
      simp [h1, h2, e1, e2]
    · have e1 : ¬ a.2 ≤ p.2 := by omega
      have e2 : b.2 ≤ p.2 := by omega
      have e3 : ¬ a.2 < b.2 := by omega
      have hne : turn a b p ≠ 0 := fun h => by
        rw [on_of_flat (by rw [← hT, h]) h e2 h1] at hon; cases hon
      have e4 : (¬ 0 < turn a b p) ↔ turn a b p < 0 := by omega
      simp [h1, h2, e1, e2, e3]
      rcases Int.lt_trichotomy (turn a b p) 0 with h | h | h
      · simp [h, show ¬ 0 < turn a b p by omega]
      · exact absurd h hne
      · simp [h, show ¬ turn a b p < 0 by omega]
  · by_cases h2 : p.2 < b.2
    · have e1 : a.2 ≤ p.2 := by omega
      have e2 : ¬ b.2 ≤ p.2 := by omega
      have e3 : a.2 < b.2 := by omega
      simp [h1, h2, e1, e2, e3]
    · simp [h1, h2]
theorem pAt_bd {xs : List Pt} (h : ∀ q ∈ xs, Bd q) {k : Nat} (hk : k < xs.length) : Bd (pAt xs k) := by
  unfold pAt; rw [getD_lt _ hk]; exact h _ (List.getElem_mem hk)
theorem pCy_bd {xs : List Pt} (h : ∀ q ∈ xs, Bd q) {k : Nat} (hn : 0 < xs.length) : Bd (pCy xs k) := by
  unfold pCy; exact pAt_bd h (Nat.mod_lt _ hn)
theorem place_holds {xs : List Pt} {p : Pt} (h : ∀ q ∈ xs, Bd q) (hp : Bd p) : placeM xs p = holdsM xs p + 1 := by
  unfold placeM holdsM
  cases hon : onAny xs p with
  | true => rfl
  | false =>
    have : par (upIAt xs p) xs.length = par (upSAt xs p) xs.length := par_congr fun k hk => up_eq hp (pAt_bd h hk) (pCy_bd h (by omega)) (onAny_off hon hk)
    rw [this]
    cases par (upSAt xs p) xs.length <;> rfl
theorem bd_of_ok {p : Pt} (h : ptOk p = true) : Bd p := by
  have := ptOk_iff.1 h; unfold Bd; omega
theorem bd_of_room {xs : List Pt} (h : roomOk xs = true) : ∀ q ∈ xs, Bd q := fun q hq => bd_of_ok (List.all_eq_true.1 (roomOk_iff.1 h).2.1 q hq)
theorem pt_of_room {xs : List Pt} (h : roomOk xs = true) : ∀ q ∈ xs, -40 ≤ q.1 ∧ q.1 ≤ 40 ∧ -40 ≤ q.2 ∧ q.2 ≤ 40 := fun q hq => ptOk_iff.1 (List.all_eq_true.1 (roomOk_iff.1 h).2.1 q hq)

/-! ### Floors -/
def minX (xs : List Pt) (k : Nat) : Int := (xs.take k).foldl (fun m p => min m p.1) (pAt xs 0).1
def minY (xs : List Pt) (k : Nat) : Int := (xs.take k).foldl (fun m p => min m p.2) (pAt xs 0).2
def maxX (xs : List Pt) (k : Nat) : Int := (xs.take k).foldl (fun m p => max m p.1) (pAt xs 0).1
def maxY (xs : List Pt) (k : Nat) : Int := (xs.take k).foldl (fun m p => max m p.2) (pAt xs 0).2
theorem fold_succ {β : Type} (f : β → Pt → β) (z : β) {xs : List Pt} {k : Nat} (h : k < xs.length) : (xs.take (k + 1)).foldl f z = f ((xs.take k).foldl f z) (pAt xs k) := by
  rw [List.take_succ_eq_append_getElem h, List.foldl_append, pAt, getD_lt _ h]; rfl
theorem fold_inv {β : Type} (f : β → Pt → β) (P : β → Prop) : ∀ (l : List Pt) (z : β), P z → (∀ b q, q ∈ l → P b → P (f b q)) → P (l.foldl f z)
  | [], _, hz, _ => hz
  | q :: l, z, hz, h => fold_inv f P l (f z q) (h z q (by simp) hz) fun b q' hq' hb => h b q' (by simp [hq']) hb
theorem room_pos {xs : List Pt} (h : roomOk xs = true) : 0 < xs.length := by have := (roomOk_iff.1 h).1; omega
theorem room_len {xs : List Pt} (h : roomOk xs = true) : 3 ≤ xs.length ∧ xs.length ≤ 10 := (roomOk_iff.1 h).1
theorem pAt0_room {xs : List Pt} (h : roomOk xs = true) : -40 ≤ (pAt xs 0).1 ∧ (pAt xs 0).1 ≤ 40 ∧ -40 ≤ (pAt xs 0).2 ∧ (pAt xs 0).2 ≤ 40 := by
  unfold pAt; rw [getD_lt _ (room_pos h)]; exact pt_of_room h _ (List.getElem_mem _)
theorem minX_bd {xs : List Pt} (h : roomOk xs = true) (k : Nat) : -40 ≤ minX xs k ∧ minX xs k ≤ 40 := by
  have h0 := pAt0_room h
  exact fold_inv _ (fun m => -40 ≤ m ∧ m ≤ 40) _ _ (by omega) fun b q hq hb => by have := pt_of_room h q (List.mem_of_mem_take hq); omega
theorem minY_bd {xs : List Pt} (h : roomOk xs = true) (k : Nat) : -40 ≤ minY xs k ∧ minY xs k ≤ 40 := by
  have h0 := pAt0_room h
  exact fold_inv _ (fun m => -40 ≤ m ∧ m ≤ 40) _ _ (by omega) fun b q hq hb => by have := pt_of_room h q (List.mem_of_mem_take hq); omega
theorem maxX_bd {xs : List Pt} (h : roomOk xs = true) (k : Nat) : -40 ≤ maxX xs k ∧ maxX xs k ≤ 40 := by
  have h0 := pAt0_room h
  exact fold_inv _ (fun m => -40 ≤ m ∧ m ≤ 40) _ _ (by omega) fun b q hq hb => by have := pt_of_room h q (List.mem_of_mem_take hq); omega
theorem maxY_bd {xs : List Pt} (h : roomOk xs = true) (k : Nat) : -40 ≤ maxY xs k ∧ maxY xs k ≤ 40 := by
  have h0 := pAt0_room h
  exact fold_inv _ (fun m => -40 ≤ m ∧ m ≤ 40) _ _ (by omega) fun b q hq hb => by have := pt_of_room h q (List.mem_of_mem_take hq); omega
def rowN (f : Pt → Bool) (x0 y : Int) (n : Nat) : List Pt := ((List.range n).map fun i : Nat => (x0 + (i : Int), y)).filter f
def rowsN (f : Pt → Bool) (x0 y0 : Int) (m j : Nat) : List Pt := (List.range j).flatMap fun i : Nat => rowN f x0 (y0 + (i : Int)) m
theorem rowN_succ (f : Pt → Bool) (x0 y : Int) (n : Nat) : rowN f x0 y (n + 1) = rowN f x0 y n ++ (if f (x0 + n, y) then [(x0 + (n : Int), y)] else []) := by
  unfold rowN
  rw [List.range_succ, List.map_append, List.filter_append]
  congr 1
  simp [List.filter_cons]
theorem rowsN_succ (f : Pt → Bool) (x0 y0 : Int) (m j : Nat) : rowsN f x0 y0 m (j + 1) = rowsN f x0 y0 m j ++ rowN f x0 (y0 + j) m := by
  unfold rowsN
  rw [List.range_succ, List.flatMap_append]
  simp
theorem rowN_len (f : Pt → Bool) (x0 y : Int) (n : Nat) : (rowN f x0 y n).length ≤ n := by
  unfold rowN
  exact Nat.le_trans (List.length_filter_le _ _) (by simp)
theorem rowsN_len (f : Pt → Bool) (x0 y0 : Int) (m : Nat) : ∀ j : Nat, (rowsN f x0 y0 m j).length ≤ j * m
  | 0 => by simp [rowsN]
  | j + 1 => by
    rw [rowsN_succ, List.length_append, Nat.succ_mul]
    have := rowsN_len f x0 y0 m j
    have := rowN_len f x0 (y0 + j) m
    omega
theorem mem_rowN {f : Pt → Bool} {x0 y : Int} {n : Nat} {p : Pt} : p ∈ rowN f x0 y n ↔ f p = true ∧ p.2 = y ∧ x0 ≤ p.1 ∧ p.1 < x0 + n := by
  unfold rowN
  rw [List.mem_filter, List.mem_map]
  constructor
  · rintro ⟨⟨i, hi, rfl⟩, hf⟩
    have := List.mem_range.1 hi
    exact ⟨hf, rfl, by show x0 ≤ x0 + (i : Int); omega, by show x0 + (i : Int) < _; omega⟩
  · rintro ⟨hf, h1, h2, h3⟩
    refine ⟨⟨(p.1 - x0).toNat, List.mem_range.2 (by omega), ?_⟩, hf⟩
    exact Prod.ext (by show x0 + ((p.1 - x0).toNat : Int) = p.1; omega) h1.symm
theorem mem_rowsN {f : Pt → Bool} {x0 y0 : Int} {m j : Nat} {p : Pt} : p ∈ rowsN f x0 y0 m j ↔ f p = true ∧ (x0 ≤ p.1 ∧ p.1 < x0 + m) ∧ y0 ≤ p.2 ∧ p.2 < y0 + j := by
  unfold rowsN
  rw [List.mem_flatMap]
  constructor
  · rintro ⟨i, hi, hp⟩
    have := List.mem_range.1 hi
    obtain ⟨h1, h2, h3, h4⟩ := mem_rowN.1 hp
    exact ⟨h1, ⟨h3, h4⟩, by omega, by omega⟩
  · rintro ⟨h1, ⟨h2, h3⟩, h4, h5⟩
    exact ⟨(p.2 - y0).toNat, List.mem_range.2 (by omega), mem_rowN.2 ⟨h1, by omega, h2, h3⟩⟩
theorem rowsN_congr {f g : Pt → Bool} {x0 y0 : Int} {m j : Nat} (h : ∀ p : Pt, x0 ≤ p.1 → p.1 < x0 + m → y0 ≤ p.2 → p.2 < y0 + j → f p = g p) : rowsN f x0 y0 m j = rowsN g x0 y0 m j := by
  unfold rowsN rowN
  rw [List.flatMap_def, List.flatMap_def]
  congr 1
  refine List.map_congr_left fun i hi => List.filter_congr fun p hp => ?_
  obtain ⟨k, hk, rfl⟩ := List.mem_map.1 hp
  have := List.mem_range.1 hi
  have := List.mem_range.1 hk
  exact h _ (by show x0 ≤ x0 + (k : Int); omega) (by show x0 + (k : Int) < _; omega) (by show y0 ≤ y0 + (i : Int); omega) (by show y0 + (i : Int) < _; omega)
def spanX (xs : List Pt) : Nat := (maxX xs xs.length + 1 - minX xs xs.length).toNat
def spanY (xs : List Pt) : Nat := (maxY xs xs.length + 1 - minY xs xs.length).toNat
def floorBy (f : Pt → Bool) (xs : List Pt) : List Pt := rowsN f (minX xs xs.length) (minY xs xs.length) (spanX xs) (spanY xs)
abbrev inB (xs : List Pt) (p : Pt) : Bool := placeM xs p != 0
abbrev hoB (xs : List Pt) (p : Pt) : Bool := decide (0 ≤ holdsM xs p)
def floorPts (xs : List Pt) : List Pt := if roomOk xs then floorBy (inB xs) xs else []
theorem span_le {xs : List Pt} (h : roomOk xs = true) : spanX xs ≤ 81 ∧ spanY xs ≤ 81 := by
  have h1 := minX_bd h xs.length
  have h2 := maxX_bd h xs.length
  have h3 := minY_bd h xs.length
  have h4 := maxY_bd h xs.length
  unfold spanX spanY
  omega
theorem floor_hold {xs : List Pt} (h : roomOk xs = true) : floorBy (hoB xs) xs = floorBy (inB xs) xs := by
  have h1 := minX_bd h xs.length
  have h3 := minY_bd h xs.length
  have h5 := span_le h
  refine rowsN_congr fun p e1 e2 e3 e4 => ?_
  have := place_holds (bd_of_room h) (p := p) (by unfold Bd; omega)
  unfold hoB inB
  rw [this]
  have hv : holdsM xs p = 0 ∨ holdsM xs p = 1 ∨ holdsM xs p = -1 := by unfold holdsM; split <;> (try split) <;> simp
  rcases hv with hv | hv | hv <;> rw [hv] <;> rfl
theorem floor_len (xs : List Pt) : (floorPts xs).length ≤ 6561 := by
  unfold floorPts
  split
  · rename_i h
    have h5 := span_le h
    refine Nat.le_trans (rowsN_len _ _ _ _ _) ?_
    exact Nat.mul_le_mul h5.2 h5.1
  · simp
theorem floor_mem {xs : List Pt} {p : Pt} (hp : p ∈ floorPts xs) : roomOk xs = true ∧ ptOk p = true ∧ placeM xs p ≠ 0 := by
  unfold floorPts at hp
  split at hp
  · rename_i h
    have h1 := minX_bd h xs.length
    have h2 := maxX_bd h xs.length
    have h3 := minY_bd h xs.length
    have h4 := maxY_bd h xs.length
    obtain ⟨e1, e2, e3⟩ := mem_rowsN.1 hp
    have e4 : spanX xs = (maxX xs xs.length + 1 - minX xs xs.length).toNat := rfl
    have e5 : spanY xs = (maxY xs xs.length + 1 - minY xs xs.length).toNat := rfl
    exact ⟨h, ptOk_iff.2 (by omega), by simpa [inB] using e1⟩
  · cases hp
def placeIn (xs : List Pt) (p : Pt) : Int := if ptOk p && roomOk xs then placeM xs p else 0
def isIn (xs : List Pt) (p : Pt) : Bool := placeIn xs p != 0
theorem floor_isIn {xs : List Pt} {p : Pt} (hp : p ∈ floorPts xs) : isIn xs p = true := by
  obtain ⟨h1, h2, h3⟩ := floor_mem hp
  simp [isIn, placeIn, h1, h2, h3]

/-! ### Kernels -/
def inKer (xs : List Pt) (p : Pt) : Bool := (List.range xs.length).all fun k => decide (0 ≤ turn (pAt xs k) (pCy xs (k + 1)) p)
theorem inKer_no {xs : List Pt} {p : Pt} {k : Nat} (hk : k < xs.length) (h : turn (pAt xs k) (pCy xs (k + 1)) p < 0) : inKer xs p = false := by
  unfold inKer; rw [List.all_eq_false]; exact ⟨k, List.mem_range.2 hk, by simpa using h⟩
theorem inKer_yes {xs : List Pt} {p : Pt} (h : ∀ k, k < xs.length → 0 ≤ turn (pAt xs k) (pCy xs (k + 1)) p) : inKer xs p = true := by
  unfold inKer; rw [List.all_eq_true]; exact fun k hk => by simpa using h k (List.mem_range.1 hk)
def inKernelM (xs : List Pt) (p : Pt) : Bool := isIn xs p && inKer xs p
def kerPts (xs : List Pt) : List Pt := (floorPts xs).filter (inKer xs)
theorem kerPts_eq (xs : List Pt) : (floorPts xs).filter (inKernelM xs) = kerPts xs := by
  unfold kerPts
  exact List.filter_congr fun p hp => by unfold inKernelM; rw [floor_isIn hp]; rfl
theorem filter_take_succ {α : Type} (f : α → Bool) (d : α) {l : List α} {k : Nat} (h : k < l.length) : (l.take (k + 1)).filter f = (l.take k).filter f ++ (if f (l.getD k d) then [l.getD k d] else []) := by
  rw [List.take_succ_eq_append_getElem h, List.filter_append, getD_lt _ h]
  congr 1
  simp [List.filter_cons]
end Go.Proofs.Ytfjmlaciogmndaa
