/- Sight of the program and of the reference are one. -/
import Derived.Test.YtfjmlaciogmndaaGd
import Derived.Sort.LotA
namespace Go.Proofs.Ytfjmlaciogmndaa
open Go.Shelf Go.RowKit Go.Lib Go.Sort Go.Proofs.Ytfjmlaciogmndaa.Nm
set_option linter.unusedSimpArgs false
set_option linter.unusedVariables false
theorem bd_default : Bd (default : Pt) := by unfold Bd; decide
theorem getBang_bd {d : Array Pt} (h : ∀ p ∈ d.toList, Bd p) (i : Nat) : Bd d[i]! := by
  by_cases hi : i < d.size
  · rw [getElem!_pos d i hi]; exact h _ (Array.getElem_mem_toList hi)
  · rw [getElem!_neg d i hi]; exact bd_default
theorem swp_mem {d : Array Pt} (h : ∀ p ∈ d.toList, Bd p) {i j : Nat} (hi : i < d.size) (hj : j < d.size) : ∀ p ∈ (swp d i j).toList, Bd p := by
  intro p hp
  have hperm := swp_permIn d 0 d.size i j (Nat.zero_le _) hi (Nat.zero_le _) hj (Nat.le_refl _)
  have h3 := hperm.2.2
  have h1 := hperm.1
  rw [← h1, Array.extract_size, h1, Array.extract_size] at h3
  exact h p (h3.mem_iff.1 hp)
theorem insInner_congr {lt lt' : Pt → Pt → Bool} (hl : ∀ x y, Bd x → Bd y → lt x y = lt' x y) (a : Nat) : ∀ (j : Nat) (d : Array Pt), (∀ p ∈ d.toList, Bd p) → j < d.size → insInner lt a j d = insInner lt' a j d
  | 0, d, _, _ => rfl
  | j + 1, d, h, hj => by
    unfold insInner
    rw [hl _ _ (getBang_bd h _) (getBang_bd h _)]
    split
    · exact insInner_congr hl a j _ (swp_mem h hj (by omega)) (by rw [size_swp]; omega)
    · rfl
theorem insInner_bd {lt : Pt → Pt → Bool} (a : Nat) : ∀ (j : Nat) (d : Array Pt), (∀ p ∈ d.toList, Bd p) → j < d.size → ∀ p ∈ (insInner lt a j d).toList, Bd p
  | 0, d, h, _ => h
  | j + 1, d, h, hj => by
    unfold insInner
    split
    · exact insInner_bd a j _ (swp_mem h hj (by omega)) (by rw [size_swp]; omega)
    · exact h
theorem insOuter_congr {lt lt' : Pt → Pt → Bool} (hl : ∀ x y, Bd x → Bd y → lt x y = lt' x y) (a b : Nat) : ∀ (n i : Nat) (d : Array Pt), b - i ≤ n → b ≤ d.size → (∀ p ∈ d.toList, Bd p) → insOuter lt a b i d = insOuter lt' a b i d
  | 0, i, d, hn, hb, h => by unfold insOuter; rw [if_neg (by omega), if_neg (by omega)]
  | n + 1, i, d, hn, hb, h => by
    unfold insOuter
    split
    · rw [insInner_congr hl a i d h (by omega)]
      exact insOuter_congr hl a b n (i + 1) _ (by omega) (by rw [insInner_size]; exact hb) (insInner_bd a i d h (by omega))
    · rfl
theorem sq_bd {x : Int} (h1 : -2000 ≤ x) (h2 : x ≤ 2000) : 0 ≤ x * x ∧ x * x ≤ 4000000 := by
  have := mul_bd h1 h2 h1 h2
  refine ⟨?_, this.2⟩
  rcases Int.le_total 0 x with h | h
  · exact Int.mul_nonneg h h
  · exact Int.mul_nonneg_of_nonpos_of_nonpos h h
theorem sqM_exact {a x : Pt} (ha : Bd a) (hx : Bd x) : sqM a x = sqd a x ∧ 0 ≤ sqd a x ∧ sqd a x ≤ 8000000 := by
  unfold Bd at ha hx
  have e1 := sq_bd (x := a.1 - x.1) (by omega) (by omega)
  have e2 := sq_bd (x := a.2 - x.2) (by omega) (by omega)
  have hw : ∀ n : Int, -9223372036854775808 ≤ n → n ≤ 9223372036854775807 → wrap64 n = n := fun n h1 h2 => by unfold wrap64; omega
  unfold sqM sqd
  rw [hw (a.1 - x.1) (by omega) (by omega), hw (a.2 - x.2) (by omega) (by omega), hw ((a.1 - x.1) * _) (by omega) (by omega), hw ((a.2 - x.2) * _) (by omega) (by omega), hw _ (by omega) (by omega)]
  exact ⟨rfl, by omega, by omega⟩
theorem cb_lt {a x y : Pt} (ha : Bd a) (hx : Bd x) (hy : Bd y) : ltOf (cbCmp a) x y = decide (sqd a x < sqd a y) := by
  obtain ⟨e1, b1, b2⟩ := sqM_exact ha hx
  obtain ⟨e2, b3, b4⟩ := sqM_exact ha hy
  unfold ltOf cbCmp
  rw [e1, e2, W_in (by omega) (by omega)]
  exact decide_eq_decide.2 (by omega)
theorem swo_key (key : Pt → Int) : SWO fun x y => decide (key x < key y) :=
  ⟨fun x => by simp, fun x y z h1 h2 => by simp at *; omega, fun x y z h1 h2 => by simp at *; omega⟩
theorem distSort_perm {a : Pt} {xs : List Pt} (ha : Bd a) (h : ∀ p ∈ xs, Bd p) : (distSort a xs).Perm xs ∧ (distSort a xs).Pairwise fun p q => sqd a p ≤ sqd a q := by
  have e : distSort a xs = (Sort.insertionSort (fun x y => decide (sqd a x < sqd a y)) xs.toArray 0 xs.length).toList := by
    unfold distSort Sort.insertionSort
    rw [insOuter_congr (fun x y hx hy => cb_lt ha hx hy) 0 xs.length _ _ xs.toArray (Nat.le_refl _) (by simp) (by simpa using h)]
  rw [e]
  obtain ⟨⟨h1, h2, h3⟩, h4⟩ := insertionSort_holds (lt := fun x y => decide (sqd a x < sqd a y)) (swo_key (sqd a)) xs.toArray 0 xs.length (Nat.zero_le _) (by simp)
  generalize Sort.insertionSort (fun x y => decide (sqd a x < sqd a y)) xs.toArray 0 xs.length = D at *
  have hs : D.size = xs.length := by rw [h1]; simp
  refine ⟨?_, ?_⟩
  · have h3 := h3
    rw [← hs, Array.extract_size] at h3
    rw [show D.size = xs.toArray.size by rw [h1], Array.extract_size] at h3
    exact h3
  · rw [List.pairwise_iff_getElem]
    intro i j hi hj hij
    have hi' : i < D.size := by simpa using hi
    have hj' : j < D.size := by simpa using hj
    have := h4 i j (Nat.zero_le _) hij (by omega)
    rw [getElem!_pos D i hi', getElem!_pos D j hj'] at this
    simp only [decide_eq_false_iff_not] at this
    simp only [Array.getElem_toList]
    omega
theorem seesI_iff' {xs : List Pt} {a b : Pt} : seesI xs a b = true ↔ (∀ k, k < xs.length → crs a b (wl xs k).1 (wl xs k).2 = false) ∧ ∀ u, u + 1 < (cornersB xs a b).length → midM xs (pAt (cornersB xs a b) u) (pAt (cornersB xs a b) (u + 1)) ≠ 0 := by
  unfold seesI
  simp only [Bool.and_eq_true, List.all_eq_true, List.mem_range, Bool.not_eq_true', bne_iff_ne, ne_eq]
  refine and_congr_right fun _ => ⟨fun h u hu => h u (by omega), fun h u hu => h u (by omega)⟩
theorem cuts_bd {xs : List Pt} {a b : Pt} (ha : ptOk a = true) (hb : ptOk b = true) : ∀ p ∈ cutsOf xs a b, Bd p := fun p h => bd_on (bd_of_ok ha) (bd_of_ok hb) (cuts_on h)
theorem seesI_iff {xs : List Pt} {a b : Pt} (hr : roomOk xs = true) (ha : ptOk a = true) (hb : ptOk b = true) : seesI xs a b = true ↔ Sees xs a b := by
  rw [seesI_iff']
  obtain ⟨h1, h2⟩ := distSort_perm (bd_of_ok ha) (cuts_bd (xs := xs) ha hb)
  exact and_congr_right fun _ => sees_sorted hr ha hb h1 h2
/-- THE LAW OF SIGHT. -/
theorem sees_eq {xs : List Pt} {a b : Pt} (hr : roomOk xs = true) (ha : ptOk a = true) (hb : ptOk b = true) : seesI xs a b = seesS xs a b := by
  rw [Bool.eq_iff_iff, seesI_iff hr ha hb, seesS_iff hr ha hb]
theorem cornersB_perm {xs : List Pt} {a b : Pt} (ha : ptOk a = true) (hb : ptOk b = true) : (cornersB xs a b).length = (cutsOf xs a b).length :=
  (distSort_perm (bd_of_ok ha) (cuts_bd (xs := xs) ha hb)).1.length_eq
end Go.Proofs.Ytfjmlaciogmndaa
