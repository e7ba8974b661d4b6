/- What a sort leaves behind in memory: from the kit's worlds to rows of this development. -/
import Derived.Test.YtfjmlaciogmndaaTy
import Derived.Shelf.SlLaysF0
import Derived.Shelf.SlSortCmp.InsertionK
namespace Go.Proofs.Ytfjmlaciogmndaa
open Go.Shelf Go.RowKit Go.Lib Go.Sort Go.Proofs.Ytfjmlaciogmndaa.Nm
def sort_ren : Go.Shelf.Ren := ⟨fun | 6 => 39 | 14 => 60 | 15 => 61 | 20 => 69 | 21 => 70 | 22 => 71 | 23 => 72 | 24 => 73 | 25 => 74 | 26 => 75 | 27 => 76 | 28 => 77 | 29 => 78 | 46 => 83 | 47 => 84 | 48 => 85 | 49 => 86 | 50 => 87 | 57 => 88 | n => n, fun | 0 => 0 | 3 => 3 | 4 => 4 | 5 => 5 | 9 => 9 | 22 => 27 | 24 => 41 | 25 => 61 | 39 => 72 | 45 => 78 | 46 => 79 | 50 => 83 | 53 => 86 | 55 => 88 | 66 => 89 | 70 => 93 | 76 => 95 | 77 => 96 | n => n, fun n => n⟩
theorem sort_lay : SlLaysF0.n6 Try.prog sort_ren := {
  mixed := by kernel_rfl
  f6 := ⟨Try.f39.name, by decide, Try.func39.trans (congrArg some (by kernel_rfl))⟩
  f14 := ⟨Try.f60.name, by decide, Try.func60.trans (congrArg some (by kernel_rfl))⟩
  f15 := Try.func61.trans (congrArg some (by kernel_rfl))
  f20 := ⟨Try.f69.name, by decide, Try.func69.trans (congrArg some (by kernel_rfl))⟩
  f21 := ⟨Try.f70.name, by decide, Try.func70.trans (congrArg some (by kernel_rfl))⟩
  f22 := ⟨Try.f71.name, by decide, Try.func71.trans (congrArg some (by kernel_rfl))⟩
  f23 := ⟨Try.f72.name, by decide, Try.func72.trans (congrArg some (by kernel_rfl))⟩
  f24 := ⟨Try.f73.name, by decide, Try.func73.trans (congrArg some (by kernel_rfl))⟩
  f25 := ⟨Try.f74.name, by decide, Try.func74.trans (congrArg some (by kernel_rfl))⟩
  f26 := ⟨Try.f75.name, by decide, Try.func75.trans (congrArg some (by kernel_rfl))⟩
  f27 := ⟨Try.f76.name, by decide, Try.func76.trans (congrArg some (by kernel_rfl))⟩
  f28 := Try.func77.trans (congrArg some (by kernel_rfl))
  f29 := Try.func78.trans (congrArg some (by kernel_rfl))
  f46 := ⟨Try.f83.name, by decide, Try.func83.trans (congrArg some (by kernel_rfl))⟩
  f47 := Try.func84.trans (congrArg some (by kernel_rfl))
  f48 := Try.func85.trans (congrArg some (by kernel_rfl))
  f49 := ⟨Try.f86.name, by decide, Try.func86.trans (congrArg some (by kernel_rfl))⟩
  f50 := ⟨Try.f87.name, by decide, Try.func87.trans (congrArg some (by kernel_rfl))⟩
  f57 := ⟨Try.f88.name, by decide, Try.func88.trans (congrArg some (by kernel_rfl))⟩
  t0 := Try.underlying0
  a0 := Try.isAgg0
  z0 := Try.sizeOf0
  v0 := Try.zeroValue0
  t3 := Try.underlying3
  a3 := Try.isAgg3
  z3 := Try.sizeOf3
  v3 := Try.zeroValue3
  t4 := Try.underlying4
  a4 := Try.isAgg4
  z4 := Try.sizeOf4
  v4 := Try.zeroValue4
  t5 := Try.underlying5
  a5 := Try.isAgg5
  z5 := Try.sizeOf5
  v5 := Try.zeroValue5
  t9 := Try.underlying9
  a9 := Try.isAgg9
  z9 := Try.sizeOf9
  v9 := Try.zeroValue9
  t22 := Try.underlying27
  a22 := Try.isAgg27
  z22 := Try.sizeOf27
  v22 := Try.zeroValue27
  t25 := Try.underlying61
  a25 := Try.isAgg61
  z25 := Try.sizeOf61
  v25 := Try.zeroValue61
  t39 := Try.underlying72
  a39 := Try.isAgg72
  z39 := Try.sizeOf72
  v39 := Try.zeroValue72
  t45 := Try.underlying78
  a45 := Try.isAgg78
  z45 := Try.sizeOf78
  v45 := Try.zeroValue78
  t46 := Try.underlying79
  a46 := Try.isAgg79
  z46 := Try.sizeOf79
  v46 := Try.zeroValue79
  t50 := Try.underlying83
  a50 := Try.isAgg83
  z50 := Try.sizeOf83
  v50 := Try.zeroValue83
  t53 := Try.underlying86
  a53 := Try.isAgg86
  z53 := Try.sizeOf86
  v53 := Try.zeroValue86
  t55 := Try.underlying88
  a55 := Try.isAgg88
  z55 := Try.sizeOf88
  v55 := Try.zeroValue88
  t66 := Try.underlying89
  a66 := Try.isAgg89
  z66 := Try.sizeOf89
  v66 := Try.zeroValue89
  t70 := Try.underlying93
  a70 := Try.isAgg93
  z70 := Try.sizeOf93
  v70 := Try.zeroValue93
  t76 := Try.underlying95
  a76 := Try.isAgg95
  z76 := Try.sizeOf95
  v76 := Try.zeroValue95
  t77 := Try.underlying96
  a77 := Try.isAgg96
  z77 := Try.sizeOf96
  v77 := Try.zeroValue96
}
theorem sort_agg : ∀ w, (isAgg (sort_ren.t 24)).run Try.prog w = .ok true w := Try.isAgg41
theorem sort_size : ∀ w, (Go.sizeOf (sort_ren.t 24)).run Try.prog w = .ok 2 w := Try.sizeOf41
set_option linter.unusedSimpArgs false
set_option linter.unusedVariables false
abbrev Pt2 := Int × Int
def encP (x : Pt2) : List Value := [.int .i64 x.1, .int .i64 x.2]
theorem encP_len (x : Pt2) : (encP x).length = 2 := rfl
theorem encP_one (x : Pt2) : ∀ v ∈ encP x, v.oneCell' = true := by
  intro v hv
  simp only [encP, List.mem_cons, List.not_mem_nil, or_false] at hv
  rcases hv with rfl | rfl <;> rfl
/-- The row's cells as the kit lays them. -/
theorem flatP_get {xs : List Pt2} {i : Nat} {x : Pt2} (h : xs[i]? = some x) {j : Nat} {u : Value} (hu : (encP x)[j]? = some u) : (flatK encP 2 xs.toArray).toList[i * 2 + j]? = some u := by
  have hi : i < xs.length := (List.getElem?_eq_some_iff.1 h).1
  have hj : j < 2 := by have := (List.getElem?_eq_some_iff.1 hu).1; simpa [encP] using this
  have hlt : i * 2 + j < xs.toArray.size * 2 := by simp; omega
  have hg := get_flatK encP 2 xs.toArray (i * 2 + j) hlt
  rw [show (i * 2 + j) / 2 = i by omega, show (i * 2 + j) % 2 = j by omega] at hg
  rw [Array.getElem?_toList]
  have hs : i * 2 + j < (flatK encP 2 xs.toArray).size := by rw [size_flatK]; exact hlt
  rw [getElem!_pos (flatK encP 2 xs.toArray) (i * 2 + j) hs] at hg
  rw [Array.getElem?_eq_getElem hs, hg]
  have hx : xs.toArray[i]! = x := by rw [getElem!_pos xs.toArray i (by simpa using hi)]; simp [(List.getElem?_eq_some_iff.1 h).2]
  rw [hx]
  rw [getElem!_pos (encP x) j (by simpa [encP] using hj)]
  rw [List.getElem?_eq_getElem (by simpa [encP] using hj)] at hu
  exact hu
theorem flat_one (xs : List Pt2) : ∀ v ∈ (flatK encP 2 xs.toArray).toList, v.oneCell' = true := by
  intro v hv
  obtain ⟨t, ht, rfl⟩ := Array.getElem_of_mem (Array.mem_toList_iff.1 hv)
  have ht' : t < xs.toArray.size * 2 := by rw [size_flatK] at ht; exact ht
  have hg := get_flatK encP 2 xs.toArray t ht'
  rw [getElem!_pos (flatK encP 2 xs.toArray) t ht] at hg
  rw [hg]
  have : t % 2 < 2 := Nat.mod_lt _ (by omega)
  have hm : t % 2 = 0 ∨ t % 2 = 1 := by omega
  rcases hm with h | h <;> rw [h] <;> rfl
theorem rowC_flat (w : World) (F : Nat → Prop) (xs : List Pt2) : RowC w F (.b .pt) xs (flatK encP 2 xs.toArray).toList :=
  ⟨flat_one xs, fun i x hx => ⟨encP x, rfl, rfl, fun j u hu => flatP_get hx hu⟩⟩
/-- Before the sort: the row is held as the kit wants it. -/
theorem holds_of_own {w : World} {F : Nat → Prop} {ty : TypeId} {s : Value} {xs : List Pt2} {cells : List Value} (hw : w.ownsRow 0 ty 2 s xs.length cells) (hr : RowC w F (.b .pt) xs cells) (hne : 0 < xs.length) :
    ∃ g cap cur, s = .slice (some ⟨g, 0, none⟩) xs.length cap ∧ w.heap[g]? = some (.cells cur ty (0, 0)) ∧ xs.length ≤ cap ∧ cap ≤ maxLen ∧ cur.size = cap * 2 ∧ HoldsK encP 2 w g 0 xs.toArray := by
  rcases hw.2 with ⟨_, h0⟩ | ⟨g, cap, cur, hv, _, hh, hn, hm, hs, ht⟩
  · omega
  refine ⟨g, cap, cur, hv, hh, hn, hm, hs, fun t ht' => ?_⟩
  rw [size_flatK] at ht'
  have ht2 : t < xs.length * 2 := by simpa using ht'
  have hlt : t < cur.size := by rw [hs]; exact Nat.lt_of_lt_of_le ht2 (Nat.mul_le_mul_right 2 hn)
  have hi : t / 2 < xs.length := by omega
  obtain ⟨us, hul, hue, hus⟩ := hr.2 (t / 2) xs[t / 2] (List.getElem?_eq_getElem hi)
  have hue : us = encP xs[t / 2] := hue
  subst hue
  have hj : t % 2 < 2 := Nat.mod_lt _ (by omega)
  have hc := hus (t % 2) (encP xs[t / 2])[t % 2] (List.getElem?_eq_getElem (by exact hj))
  rw [show t / 2 * (ElK.b ElB.pt).size + t % 2 = t by show t / 2 * 2 + t % 2 = t; omega, ← ht, List.getElem?_take_of_lt (by exact ht2), Array.getElem?_toList] at hc
  have hfl := flatP_get (xs := xs) (i := t / 2) (List.getElem?_eq_getElem hi) (j := t % 2) (List.getElem?_eq_getElem (by exact hj))
  rw [show t / 2 * 2 + t % 2 = t by omega, Array.getElem?_toList] at hfl
  have hsz : t < (flatK encP 2 xs.toArray).size := by rw [size_flatK]; exact ht'
  rw [Array.getElem?_eq_getElem hsz] at hfl
  rw [getElem!_pos (flatK encP 2 xs.toArray) t hsz, Option.some.inj hfl]
  constructor
  · simp only [World.cell?, hh, Nat.zero_add]
    simpa using hc
  · simp [World.frozen?, hh]
/-- After the sort: the same row, with other elements. -/
theorem after_sort {w : World} {ty : TypeId} {g cap n : Nat} {cur : Array Value} {ys : List Pt2} {os : Array Obj} (hh : w.heap[g]? = some (.cells cur ty (0, 0))) (hn : ys.length ≤ cap) (hm : cap ≤ maxLen) (hs : cur.size = cap * 2) :
    w.grownBy (sortWorldK encP 2 w g 0 n ys.toArray os) (some g) ∧ (sortWorldK encP 2 w g 0 n ys.toArray os).ownsRow 0 ty 2 (.slice (some ⟨g, 0, none⟩) ys.length cap) ys.length (flatK encP 2 ys.toArray).toList := by
  have hg : g < w.heap.size := lt_of_block hh
  have hheap : (sortWorldK encP 2 w g 0 n ys.toArray os).heap = w.heap.modify g (onCells (Go.Sort.putCells id 0 (flatK encP 2 ys.toArray))) ++ os := rfl
  have hfs : (flatK encP 2 ys.toArray).size = ys.length * 2 := by rw [size_flatK]; simp
  have hpre : ∀ k, k < w.heap.size → (sortWorldK encP 2 w g 0 n ys.toArray os).heap[k]? = (w.heap.modify g (onCells (Go.Sort.putCells id 0 (flatK encP 2 ys.toArray))))[k]? := fun k hk => by
    rw [hheap, Array.getElem?_append_left (by rw [Array.size_modify]; exact hk)]
  refine ⟨⟨rfl, rfl, rfl, by rw [hheap, Array.size_append, Array.size_modify]; omega, fun k hk hne => ?_⟩, by rw [Array.length_toList, hfs], .inr ⟨g, cap, Go.Sort.putCells id 0 (flatK encP 2 ys.toArray) cur, rfl, Nat.zero_le _, ?_, hn, hm, ?_, ?_⟩⟩
  · rw [hpre k hk, Array.getElem?_modify, if_neg (fun e => hne (by rw [e]))]
  · rw [hpre g hg, Array.getElem?_modify, if_pos rfl, hh]; rfl
  · rw [← hs]; simp [Go.Sort.putCells]
  · refine List.ext_getElem? fun i => ?_
    rcases Nat.lt_or_ge i (ys.length * 2) with hi | hi
    · rw [List.getElem?_take_of_lt hi, Array.getElem?_toList, Array.getElem?_toList]
      have hc : i < cur.size := by rw [hs]; exact Nat.lt_of_lt_of_le hi (Nat.mul_le_mul_right 2 hn)
      have hf : i < (flatK encP 2 ys.toArray).size := by rw [hfs]; exact hi
      simp only [Go.Sort.putCells, Array.getElem?_mapIdx, Array.getElem?_eq_getElem hc, Array.getElem?_eq_getElem hf, Option.map_some, Nat.zero_le, true_and, Nat.zero_add, hf, if_true, id, Nat.sub_zero]
      rw [getElem!_pos (flatK encP 2 ys.toArray) i hf]
    · rw [List.getElem?_eq_none (by rw [List.length_take]; omega), List.getElem?_eq_none (by rw [Array.length_toList, hfs]; exact hi)]
end Go.Proofs.Ytfjmlaciogmndaa
