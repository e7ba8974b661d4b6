/- What a sort leaves behind in memory: from the kit's worlds to rows of this development. -/
import Derived.Test.YtmhmmdcbkpclpaaGreatTy
import Derived.Shelf.SlLaysF0
import Derived.Shelf.SlSortCmp.InsertionK
namespace Go.Proofs.YtmhmmdcbkpclpaaGreat
open Go.Shelf Go.RowKit Go.Lib Go.Sort Go.Proofs.YtmhmmdcbkpclpaaGreat.Nm
def sort_ren : Go.Shelf.Ren := ⟨fun | 6 => 109 | 14 => 126 | 15 => 104 | 20 => 133 | 21 => 134 | 22 => 135 | 23 => 136 | 24 => 137 | 25 => 138 | 26 => 139 | 27 => 140 | 28 => 123 | 29 => 124 | 46 => 142 | 47 => 128 | 48 => 129 | 49 => 143 | 50 => 144 | 57 => 145 | n => n, fun | 0 => 0 | 3 => 3 | 4 => 4 | 5 => 5 | 9 => 9 | 22 => 28 | 24 => 47 | 25 => 112 | 39 => 74 | 45 => 114 | 46 => 115 | 50 => 120 | 53 => 91 | 55 => 94 | 66 => 125 | 70 => 129 | 76 => 137 | 77 => 138 | n => n, fun n => n⟩
theorem sort_lay : SlLaysF0.n6 Tryz.prog sort_ren := {
  mixed := by kernel_rfl
  f6 := ⟨Tryz.f109.name, by decide, Tryz.func109.trans (congrArg some (by kernel_rfl))⟩
  f14 := ⟨Tryz.f126.name, by decide, Tryz.func126.trans (congrArg some (by kernel_rfl))⟩
  f15 := Tryz.func104.trans (congrArg some (by kernel_rfl))
  f20 := ⟨Tryz.f133.name, by decide, Tryz.func133.trans (congrArg some (by kernel_rfl))⟩
  f21 := ⟨Tryz.f134.name, by decide, Tryz.func134.trans (congrArg some (by kernel_rfl))⟩
  f22 := ⟨Tryz.f135.name, by decide, Tryz.func135.trans (congrArg some (by kernel_rfl))⟩
  f23 := ⟨Tryz.f136.name, by decide, Tryz.func136.trans (congrArg some (by kernel_rfl))⟩
  f24 := ⟨Tryz.f137.name, by decide, Tryz.func137.trans (congrArg some (by kernel_rfl))⟩
  f25 := ⟨Tryz.f138.name, by decide, Tryz.func138.trans (congrArg some (by kernel_rfl))⟩
  f26 := ⟨Tryz.f139.name, by decide, Tryz.func139.trans (congrArg some (by kernel_rfl))⟩
  f27 := ⟨Tryz.f140.name, by decide, Tryz.func140.trans (congrArg some (by kernel_rfl))⟩
  f28 := Tryz.func123.trans (congrArg some (by kernel_rfl))
  f29 := Tryz.func124.trans (congrArg some (by kernel_rfl))
  f46 := ⟨Tryz.f142.name, by decide, Tryz.func142.trans (congrArg some (by kernel_rfl))⟩
  f47 := Tryz.func128.trans (congrArg some (by kernel_rfl))
  f48 := Tryz.func129.trans (congrArg some (by kernel_rfl))
  f49 := ⟨Tryz.f143.name, by decide, Tryz.func143.trans (congrArg some (by kernel_rfl))⟩
  f50 := ⟨Tryz.f144.name, by decide, Tryz.func144.trans (congrArg some (by kernel_rfl))⟩
  f57 := ⟨Tryz.f145.name, by decide, Tryz.func145.trans (congrArg some (by kernel_rfl))⟩
  t0 := Tryz.underlying0
  a0 := Tryz.isAgg0
  z0 := Tryz.sizeOf0
  v0 := Tryz.zeroValue0
  t3 := Tryz.underlying3
  a3 := Tryz.isAgg3
  z3 := Tryz.sizeOf3
  v3 := Tryz.zeroValue3
  t4 := Tryz.underlying4
  a4 := Tryz.isAgg4
  z4 := Tryz.sizeOf4
  v4 := Tryz.zeroValue4
  t5 := Tryz.underlying5
  a5 := Tryz.isAgg5
  z5 := Tryz.sizeOf5
  v5 := Tryz.zeroValue5
  t9 := Tryz.underlying9
  a9 := Tryz.isAgg9
  z9 := Tryz.sizeOf9
  v9 := Tryz.zeroValue9
  t22 := Tryz.underlying28
  a22 := Tryz.isAgg28
  z22 := Tryz.sizeOf28
  v22 := Tryz.zeroValue28
  t25 := Tryz.underlying112
  a25 := Tryz.isAgg112
  z25 := Tryz.sizeOf112
  v25 := Tryz.zeroValue112
  t39 := Tryz.underlying74
  a39 := Tryz.isAgg74
  z39 := Tryz.sizeOf74
  v39 := Tryz.zeroValue74
  t45 := Tryz.underlying114
  a45 := Tryz.isAgg114
  z45 := Tryz.sizeOf114
  v45 := Tryz.zeroValue114
  t46 := Tryz.underlying115
  a46 := Tryz.isAgg115
  z46 := Tryz.sizeOf115
  v46 := Tryz.zeroValue115
  t50 := Tryz.underlying120
  a50 := Tryz.isAgg120
  z50 := Tryz.sizeOf120
  v50 := Tryz.zeroValue120
  t53 := Tryz.underlying91
  a53 := Tryz.isAgg91
  z53 := Tryz.sizeOf91
  v53 := Tryz.zeroValue91
  t55 := Tryz.underlying94
  a55 := Tryz.isAgg94
  z55 := Tryz.sizeOf94
  v55 := Tryz.zeroValue94
  t66 := Tryz.underlying125
  a66 := Tryz.isAgg125
  z66 := Tryz.sizeOf125
  v66 := Tryz.zeroValue125
  t70 := Tryz.underlying129
  a70 := Tryz.isAgg129
  z70 := Tryz.sizeOf129
  v70 := Tryz.zeroValue129
  t76 := Tryz.underlying137
  a76 := Tryz.isAgg137
  z76 := Tryz.sizeOf137
  v76 := Tryz.zeroValue137
  t77 := Tryz.underlying138
  a77 := Tryz.isAgg138
  z77 := Tryz.sizeOf138
  v77 := Tryz.zeroValue138
}
theorem sort_agg : ∀ w, (isAgg (sort_ren.t 24)).run Tryz.prog w = .ok true w := Tryz.isAgg47
theorem sort_size : ∀ w, (Go.sizeOf (sort_ren.t 24)).run Tryz.prog w = .ok 2 w := Tryz.sizeOf47
set_option linter.unusedSimpArgs false
set_option linter.unusedVariables false
abbrev Pt2 := Int × Int
def encP (x : Pt2) : List Value := [.int .i64 x.1, .int .i64 x.2]
theorem encP_len (x : Pt2) : (encP x).length = 2 := rfl
theorem encP_one (x : Pt2) : ∀ v ∈ encP x, v.oneCell' = true := by
  intro v hv
  simp only [encP, List.mem_cons, List.not_mem_nil, or_false] at hv
  rcases hv with rfl | rfl <;> rfl
/-- The row's cells as the kit lays them. -/
theorem flatP_get {xs : List Pt2} {i : Nat} {x : Pt2} (h : xs[i]? = some x) {j : Nat} {u : Value} (hu : (encP x)[j]? = some u) : (flatK encP 2 xs.toArray).toList[i * 2 + j]? = some u := by
  have hi : i < xs.length := (List.getElem?_eq_some_iff.1 h).1
  have hj : j < 2 := by have := (List.getElem?_eq_some_iff.1 hu).1; simpa [encP] using this
  have hlt : i * 2 + j < xs.toArray.size * 2 := by simp; omega
  have hg := get_flatK encP 2 xs.toArray (i * 2 + j) hlt
  rw [show (i * 2 + j) / 2 = i by omega, show (i * 2 + j) % 2 = j by omega] at hg
  rw [Array.getElem?_toList]
  have hs : i * 2 + j < (flatK encP 2 xs.toArray).size := by rw [size_flatK]; exact hlt
  rw [getElem!_pos (flatK encP 2 xs.toArray) (i * 2 + j) hs] at hg
  rw [Array.getElem?_eq_getElem hs, hg]
  have hx : xs.toArray[i]! = x := by rw [getElem!_pos xs.toArray i (by simpa using hi)]; simp [(List.getElem?_eq_some_iff.1 h).2]
  rw [hx]
  rw [getElem!_pos (encP x) j (by simpa [encP] using hj)]
  rw [List.getElem?_eq_getElem (by simpa [encP] using hj)] at hu
  exact hu
theorem flat_one (xs : List Pt2) : ∀ v ∈ (flatK encP 2 xs.toArray).toList, v.oneCell' = true := by
  intro v hv
  obtain ⟨t, ht, rfl⟩ := Array.getElem_of_mem (Array.mem_toList_iff.1 hv)
  have ht' : t < xs.toArray.size * 2 := by rw [size_flatK] at ht; exact ht
  have hg := get_flatK encP 2 xs.toArray t ht'
  rw [getElem!_pos (flatK encP 2 xs.toArray) t ht] at hg
  rw [hg]
  have : t % 2 < 2 := Nat.mod_lt _ (by omega)
  have hm : t % 2 = 0 ∨ t % 2 = 1 := by omega
  rcases hm with h | h <;> rw [h] <;> rfl
theorem rowC_flat (w : World) (F : Nat → Prop) (xs : List Pt2) : RowC w F (.b .pt) xs (flatK encP 2 xs.toArray).toList :=
  ⟨flat_one xs, fun i x hx => ⟨encP x, rfl, rfl, fun j u hu => flatP_get hx hu⟩⟩
/-- Before the sort: the row is held as the kit wants it. -/
theorem holds_of_own {w : World} {F : Nat → Prop} {ty : TypeId} {s : Value} {xs : List Pt2} {cells : List Value} (hw : w.ownsRow 0 ty 2 s xs.length cells) (hr : RowC w F (.b .pt) xs cells) (hne : 0 < xs.length) :
    ∃ g cap cur, s = .slice (some ⟨g, 0, none⟩) xs.length cap ∧ w.heap[g]? = some (.cells cur ty (0, 0)) ∧ xs.length ≤ cap ∧ cap ≤ maxLen ∧ cur.size = cap * 2 ∧ HoldsK encP 2 w g 0 xs.toArray := by
  rcases hw.2 with ⟨_, h0⟩ | ⟨g, cap, cur, hv, _, hh, hn, hm, hs, ht⟩
  · omega
  refine ⟨g, cap, cur, hv, hh, hn, hm, hs, fun t ht' => ?_⟩
  rw [size_flatK] at ht'
  have ht2 : t < xs.length * 2 := by simpa using ht'
  have hlt : t < cur.size := by rw [hs]; exact Nat.lt_of_lt_of_le ht2 (Nat.mul_le_mul_right 2 hn)
  have hi : t / 2 < xs.length := by omega
  obtain ⟨us, hul, hue, hus⟩ := hr.2 (t / 2) xs[t / 2] (List.getElem?_eq_getElem hi)
  have hue : us = encP xs[t / 2] := hue
  subst hue
  have hj : t % 2 < 2 := Nat.mod_lt _ (by omega)
  have hc := hus (t % 2) (encP xs[t / 2])[t % 2] (List.getElem?_eq_getElem (by exact hj))
  rw [show t / 2 * (ElK.b ElB.pt).size + t % 2 = t by show t / 2 * 2 + t % 2 = t; omega, ← ht, List.getElem?_take_of_lt (by exact ht2), Array.getElem?_toList] at hc
  have hfl := flatP_get (xs := xs) (i := t / 2) (List.getElem?_eq_getElem hi) (j := t % 2) (List.getElem?_eq_getElem (by exact hj))
  rw [show t / 2 * 2 + t % 2 = t by omega, Array.getElem?_toList] at hfl
  have hsz : t < (flatK encP 2 xs.toArray).size := by rw [size_flatK]; exact ht'
  rw [Array.getElem?_eq_getElem hsz] at hfl
  rw [getElem!_pos (flatK encP 2 xs.toArray) t hsz, Option.some.inj hfl]
  constructor
  · simp only [World.cell?, hh, Nat.zero_add]
    simpa using hc
  · simp [World.frozen?, hh]
/-- After the sort: the same row, with other elements. -/
theorem after_sort {w : World} {ty : TypeId} {g cap n : Nat} {cur : Array Value} {ys : List Pt2} {os : Array Obj} (hh : w.heap[g]? = some (.cells cur ty (0, 0))) (hn : ys.length ≤ cap) (hm : cap ≤ maxLen) (hs : cur.size = cap * 2) :
    w.grownBy (sortWorldK encP 2 w g 0 n ys.toArray os) (some g) ∧ (sortWorldK encP 2 w g 0 n ys.toArray os).ownsRow 0 ty 2 (.slice (some ⟨g, 0, none⟩) ys.length cap) ys.length (flatK encP 2 ys.toArray).toList := by
  have hg : g < w.heap.size := lt_of_block hh
  have hheap : (sortWorldK encP 2 w g 0 n ys.toArray os).heap = w.heap.modify g (onCells (Go.Sort.putCells id 0 (flatK encP 2 ys.toArray))) ++ os := rfl
  have hfs : (flatK encP 2 ys.toArray).size = ys.length * 2 := by rw [size_flatK]; simp
  have hpre : ∀ k, k < w.heap.size → (sortWorldK encP 2 w g 0 n ys.toArray os).heap[k]? = (w.heap.modify g (onCells (Go.Sort.putCells id 0 (flatK encP 2 ys.toArray))))[k]? := fun k hk => by
    rw [hheap, Array.getElem?_append_left (by rw [Array.size_modify]; exact hk)]
  refine ⟨⟨rfl, rfl, rfl, by rw [hheap, Array.size_append, Array.size_modify]; omega, fun k hk hne => ?_⟩, by rw [Array.length_toList, hfs], .inr ⟨g, cap, Go.Sort.putCells id 0 (flatK encP 2 ys.toArray) cur, rfl, Nat.zero_le _, ?_, hn, hm, ?_, ?_⟩⟩
  · rw [hpre k hk, Array.getElem?_modify, if_neg (fun e => hne (by rw [e]))]
  · rw [hpre g hg, Array.getElem?_modify, if_pos rfl, hh]; rfl
  · rw [← hs]; simp [Go.Sort.putCells]
  · refine List.ext_getElem? fun i => ?_
    rcases Nat.lt_or_ge i (ys.length * 2) with hi | hi
    · rw [List.getElem?_take_of_lt hi, Array.getElem?_toList, Array.getElem?_toList]
      have hc : i < cur.size := by rw [hs]; exact Nat.lt_of_lt_of_le hi (Nat.mul_le_mul_right 2 hn)
      have hf : i < (flatK encP 2 ys.toArray).size := by rw [hfs]; exact hi
      simp only [Go.Sort.putCells, Array.getElem?_mapIdx, Array.getElem?_eq_getElem hc, Array.getElem?_eq_getElem hf, Option.map_some, Nat.zero_le, true_and, Nat.zero_add, hf, if_true, id, Nat.sub_zero]
      rw [getElem!_pos (flatK encP 2 ys.toArray) i hf]
    · rw [List.getElem?_eq_none (by rw [List.length_take]; omega), List.getElem?_eq_none (by rw [Array.length_toList, hfs]; exact hi)]
end Go.Proofs.YtmhmmdcbkpclpaaGreat
