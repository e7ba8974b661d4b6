/- The library's sort and deletion at rows of numbers, as contracts of this development. -/
import Derived.Test.YtmhmmdcbkpclpaaGreatGf
import Derived.Shelf.Slices.Delete
import Derived.Shelf.Sort.Plain
namespace Go.Proofs.YtmhmmdcbkpclpaaGreat
open Go.Shelf Go.RowKit Go.Lib Go.Sort Go.Proofs.YtmhmmdcbkpclpaaGreat.Nm
set_option linter.unusedSimpArgs false
set_option linter.unusedVariables false
/-- The row is held as the kit wants it. -/
theorem holds_int {w : World} {F : Nat → Prop} {ty : TypeId} {s : Value} {xs : List Int} {cells : List Value} (hw : w.ownsRow 0 ty 1 s xs.length cells) (hr : RowC w F (.b .int) xs cells) (hne : 0 < xs.length) :
    ∃ g cap cur, s = .slice (some ⟨g, 0, none⟩) xs.length cap ∧ w.heap[g]? = some (.cells cur ty (0, 0)) ∧ xs.length ≤ cap ∧ cap ≤ maxLen ∧ cur.size = cap * 1 ∧ Holds (Value.int .i64) w g 0 xs.toArray := by
  rcases hw.2 with ⟨_, h0⟩ | ⟨g, cap, cur, hv, _, hh, hn, hm, hs, ht⟩
  · omega
  refine ⟨g, cap, cur, hv, hh, hn, hm, hs, fun t ht' => ?_⟩
  have ht2 : t < xs.length := by simpa using ht'
  obtain ⟨us, hul, hue, hus⟩ := hr.2 t xs[t] (List.getElem?_eq_getElem ht2)
  have hue : us = [.int .i64 xs[t]] := hue
  subst hue
  have hc := hus 0 _ rfl
  rw [show t * (ElK.b ElB.int).size + 0 = t by show t * 1 + 0 = t; omega, ← ht, List.getElem?_take_of_lt (by omega), Array.getElem?_toList] at hc
  have hx : xs.toArray[t]! = xs[t] := by rw [getElem!_pos xs.toArray t ht']; simp
  constructor
  · simp only [World.cell?, hh, Nat.zero_add, hx]
    simpa using hc
  · simp [World.frozen?, hh]
/-- The row behind: the first m of the elements zs. -/
theorem after_int {w W : World} {ty : TypeId} {g cap m : Nat} {cur : Array Value} {zs : List Int} {os : Array Obj} (hh : w.heap[g]? = some (.cells cur ty (0, 0))) (hn : zs.length ≤ cap) (hmz : m ≤ zs.length) (hm : cap ≤ maxLen) (hs : cur.size = cap * 1)
    (hos : W.os = w.os) (htape : W.tape = w.tape) (hout : W.output = w.output) (hheap : W.heap = w.heap.modify g (onCells (Go.Sort.putCells (Value.int .i64) 0 zs.toArray)) ++ os) :
    w.grownBy W (some g) ∧ W.ownsRow 0 ty 1 (.slice (some ⟨g, 0, none⟩) m cap) m ((zs.take m).map (Value.int .i64)) := by
  have hg : g < w.heap.size := lt_of_block hh
  have hpre : ∀ k, k < w.heap.size → W.heap[k]? = (w.heap.modify g (onCells (Go.Sort.putCells (Value.int .i64) 0 zs.toArray)))[k]? := fun k hk => by
    rw [hheap, Array.getElem?_append_left (by rw [Array.size_modify]; exact hk)]
  refine ⟨⟨hos, htape, hout, by rw [hheap, Array.size_append, Array.size_modify]; omega, fun k hk hne => ?_⟩, by simp; omega, .inr ⟨g, cap, Go.Sort.putCells (Value.int .i64) 0 zs.toArray cur, rfl, Nat.zero_le _, ?_, by omega, hm, ?_, ?_⟩⟩
  · rw [hpre k hk, Array.getElem?_modify, if_neg (fun e => hne (by rw [e]))]
  · rw [hpre g hg, Array.getElem?_modify, if_pos rfl, hh]; rfl
  · rw [← hs]; simp [Go.Sort.putCells]
  · refine List.ext_getElem? fun i => ?_
    rcases Nat.lt_or_ge i m with hi | hi
    · rw [List.getElem?_take_of_lt (by omega), Array.getElem?_toList, List.getElem?_map, List.getElem?_take_of_lt hi]
      have hc : i < cur.size := by omega
      have hz : i < zs.length := by omega
      simp only [Go.Sort.putCells, Array.getElem?_mapIdx, Array.getElem?_eq_getElem hc, Option.map_some, Nat.zero_le, true_and, Nat.zero_add, List.size_toArray, hz, if_true, Nat.sub_zero, List.getElem?_eq_getElem hz]
      rw [getElem!_pos zs.toArray i (by simpa using hz)]
      simp
    · rw [List.getElem?_eq_none (by rw [List.length_take]; omega), List.getElem?_eq_none (by simp; omega)]
theorem rowC_ints (w : World) (F : Nat → Prop) (xs : List Int) : RowC w F (.b .int) xs (xs.map (Value.int .i64)) := by
  refine ⟨fun v hv => ?_, fun i x hx => ⟨[.int .i64 x], rfl, rfl, fun j u hu => ?_⟩⟩
  · obtain ⟨x, -, rfl⟩ := List.mem_map.1 hv; rfl
  · cases j with
    | zero =>
      simp at hu
      subst hu
      show (xs.map (Value.int .i64))[i * 1 + 0]? = _
      rw [Nat.mul_one, Nat.add_zero, List.getElem?_map, hx]; rfl
    | succ j => simp at hu
def isort_ren : Go.Shelf.Ren := ⟨fun | 125 => 104 | 128 => 123 | 129 => 124 | 189 => 84 | 215 => 132 | 216 => 120 | 257 => 103 | 294 => 114 | 295 => 115 | 296 => 116 | 297 => 117 | 298 => 118 | 299 => 119 | 300 => 121 | 301 => 122 | 328 => 127 | 329 => 128 | 330 => 129 | 331 => 130 | 332 => 131 | 343 => 141 | n => n, fun | 0 => 0 | 3 => 3 | 4 => 4 | 5 => 5 | 9 => 9 | 28 => 26 | 46 => 74 | 51 => 91 | 53 => 94 | 131 => 120 | 182 => 114 | 183 => 115 | 218 => 125 | 222 => 129 | 228 => 137 | 229 => 138 | n => n, fun n => n⟩
theorem isort_lay : Lays.n189 Tryz.prog isort_ren := {
  mixed := by kernel_rfl
  f125 := Tryz.func104.trans (congrArg some (by kernel_rfl))
  f128 := Tryz.func123.trans (congrArg some (by kernel_rfl))
  f129 := Tryz.func124.trans (congrArg some (by kernel_rfl))
  f189 := Tryz.func84.trans (congrArg some (by kernel_rfl))
  f215 := Tryz.func132.trans (congrArg some (by kernel_rfl))
  f216 := Tryz.func120.trans (congrArg some (by kernel_rfl))
  f257 := Tryz.func103.trans (congrArg some (by kernel_rfl))
  f294 := Tryz.func114.trans (congrArg some (by kernel_rfl))
  f295 := Tryz.func115.trans (congrArg some (by kernel_rfl))
  f296 := Tryz.func116.trans (congrArg some (by kernel_rfl))
  f297 := Tryz.func117.trans (congrArg some (by kernel_rfl))
  f298 := Tryz.func118.trans (congrArg some (by kernel_rfl))
  f299 := Tryz.func119.trans (congrArg some (by kernel_rfl))
  f300 := Tryz.func121.trans (congrArg some (by kernel_rfl))
  f301 := Tryz.func122.trans (congrArg some (by kernel_rfl))
  f328 := Tryz.func127.trans (congrArg some (by kernel_rfl))
  f329 := Tryz.func128.trans (congrArg some (by kernel_rfl))
  f330 := Tryz.func129.trans (congrArg some (by kernel_rfl))
  f331 := Tryz.func130.trans (congrArg some (by kernel_rfl))
  f332 := Tryz.func131.trans (congrArg some (by kernel_rfl))
  f343 := Tryz.func141.trans (congrArg some (by kernel_rfl))
  t0 := Tryz.underlying0
  a0 := Tryz.isAgg0
  z0 := Tryz.sizeOf0
  v0 := Tryz.zeroValue0
  t3 := Tryz.underlying3
  a3 := Tryz.isAgg3
  z3 := Tryz.sizeOf3
  v3 := Tryz.zeroValue3
  t4 := Tryz.underlying4
  a4 := Tryz.isAgg4
  z4 := Tryz.sizeOf4
  v4 := Tryz.zeroValue4
  t5 := Tryz.underlying5
  a5 := Tryz.isAgg5
  z5 := Tryz.sizeOf5
  v5 := Tryz.zeroValue5
  t9 := Tryz.underlying9
  a9 := Tryz.isAgg9
  z9 := Tryz.sizeOf9
  v9 := Tryz.zeroValue9
  t28 := Tryz.underlying26
  a28 := Tryz.isAgg26
  z28 := Tryz.sizeOf26
  v28 := Tryz.zeroValue26
  t46 := Tryz.underlying74
  a46 := Tryz.isAgg74
  z46 := Tryz.sizeOf74
  v46 := Tryz.zeroValue74
  t51 := Tryz.underlying91
  a51 := Tryz.isAgg91
  z51 := Tryz.sizeOf91
  v51 := Tryz.zeroValue91
  t53 := Tryz.underlying94
  a53 := Tryz.isAgg94
  z53 := Tryz.sizeOf94
  v53 := Tryz.zeroValue94
  t131 := Tryz.underlying120
  a131 := Tryz.isAgg120
  z131 := Tryz.sizeOf120
  v131 := Tryz.zeroValue120
  t182 := Tryz.underlying114
  a182 := Tryz.isAgg114
  z182 := Tryz.sizeOf114
  v182 := Tryz.zeroValue114
  t183 := Tryz.underlying115
  a183 := Tryz.isAgg115
  z183 := Tryz.sizeOf115
  v183 := Tryz.zeroValue115
  t218 := Tryz.underlying125
  a218 := Tryz.isAgg125
  z218 := Tryz.sizeOf125
  v218 := Tryz.zeroValue125
  t222 := Tryz.underlying129
  a222 := Tryz.isAgg129
  z222 := Tryz.sizeOf129
  v222 := Tryz.zeroValue129
  t228 := Tryz.underlying137
  a228 := Tryz.isAgg137
  z228 := Tryz.sizeOf137
  v228 := Tryz.zeroValue137
  t229 := Tryz.underlying138
  a229 := Tryz.isAgg138
  z229 := Tryz.sizeOf138
  v229 := Tryz.zeroValue138
}
def sortIC : ConW := mkConW [.sl (.b .int)] 0 t_int (fun x => 0 < x.1.length ∧ x.1.length ≤ 1048576) (fun _ => .tup []) fun x => ⟨.b .int, x.1.mergeSort (fun x y => decide (x ≤ y)), false⟩
theorem sortI_snd : SoundW Tryz.prog n_slices_Sort_int sortIC := by
  intro w F args vs a0 l ver (x : Args [.sl (.b .int)]) s k xs ys cells ha hoc hoth hpat hpre hcast hbase hF hlen hargs hw hrow hs hone
  have hpat : decs [.sl (.b .int)] (setA args 0 (ownAs a0 (.d (.sl none k xs)))) = some x := hpat
  have ha : nthA args 0 = some a0 := ha
  match args, vs, ha, hpat, hlen, hargs with
  | [], _, ha, _, _, _ => cases ha
  | z :: c :: r, _, _, hpat, _, _ => simp only [setA, decs] at hpat; split at hpat <;> simp_all
  | [z], [v0], ha, hpat, hlen, hargs =>
    obtain rfl : z = a0 := Option.some.inj ha
    have h0 := hargs 0 z v0 rfl rfl
    obtain ⟨x1, ⟨⟩⟩ := x
    obtain ⟨hp1, hp2⟩ := hpre
    have hp1 : 0 < x1.length := hp1
    have hp2 : x1.length ≤ 1048576 := hp2
    have hz : z = .one (.own l ver) ∧ ∃ e : k = .b .int, e ▸ xs = x1 := by
      simp only [setA, decs] at hpat
      split at hpat
      · rename_i a b e1 e2
        injection hpat with hpat
        injection hpat with h1 h2
        subst h1
        unfold ownCell at hoc
        split at hoc
        · injection hoc with hoc; injection hoc with e3 e4
          subst e3; subst e4
          exact ⟨rfl, castL_ok e1⟩
        · simp only [ownAs, Ty.dec] at e1; cases e1
        · cases hoc
      · cases hpat
    obtain ⟨rfl, ek, he⟩ := hz
    subst ek
    have he : xs = x1 := he
    subst he
    have hv0 : v0 = s := h0
    subst hv0
    have hys : ys = xs.mergeSort (fun x y => decide (x ≤ y)) := by
      have : castL (.b .int) (.b .int) (xs.mergeSort (fun x y => decide (x ≤ y))) = some ys := hcast
      exact (Option.some.inj this).symm
    subst hys
    have hw : w.ownsRow 0 t_int 1 v0 xs.length cells := hw
    obtain ⟨g, cap, cur, hv0, hh, hn, hm, hcs, hK⟩ := holds_int hw hrow hp1
    subst hv0
    have hg := (hs g rfl).1
    have hmain := Any.slices_Sort_int isort_lay g 0 cap xs w hK hg (by omega)
    have hmain' : Calls Tryz.prog n_slices_Sort_int #[.slice (some ⟨g, 0, none⟩) xs.length cap] w fun e w' => e = .returned (.tuple #[]) ∧ ∃ n os, w' = grow (putRow (Value.int .i64) (Sort.ahead w n) g 0 (xs.mergeSort fun x y => decide (x ≤ y)).toArray) os := hmain
    refine hmain'.mono ?_
    rintro e w' ⟨rfl, n, os, rfl⟩
    have hl : (xs.mergeSort fun x y => decide (x ≤ y)).length = xs.length := List.length_mergeSort _
    obtain ⟨ha1, ha2⟩ := after_int (W := grow (putRow (Value.int .i64) (Sort.ahead w n) g 0 (xs.mergeSort fun x y => decide (x ≤ y)).toArray) os) (m := xs.length) (zs := xs.mergeSort fun x y => decide (x ≤ y)) (os := os) hh (by omega) (by omega) hm hcs rfl rfl rfl rfl
    rw [List.take_of_length_le (by omega)] at ha2
    exact ⟨.tuple #[], .slice (some ⟨g, 0, none⟩) xs.length cap, _, rfl, ha1, fun b hb => .inl hb, by rw [hl]; exact ha2, rowC_ints _ F _, rfl, rfl, [], rfl, rfl, fun j x u hx => by simp at hx⟩
theorem sortI_ok : GoodW Tryz.prog n_slices_Sort_int sortIC := by
  exact ⟨sortI_snd, _, Tryz.func84, by decide, rfl⟩
def del_ren : Go.Shelf.Ren := ⟨fun | 23 => 63 | n => n, fun | 0 => 0 | 3 => 3 | 4 => 4 | 22 => 26 | n => n, fun n => n⟩
theorem del_lay : Lays2.n23 Tryz.prog del_ren := {
  mixed := by kernel_rfl
  f23 := Tryz.func63.trans (congrArg some (by kernel_rfl))
  t0 := Tryz.underlying0
  a0 := Tryz.isAgg0
  z0 := Tryz.sizeOf0
  v0 := Tryz.zeroValue0
  t3 := Tryz.underlying3
  a3 := Tryz.isAgg3
  z3 := Tryz.sizeOf3
  v3 := Tryz.zeroValue3
  t4 := Tryz.underlying4
  a4 := Tryz.isAgg4
  z4 := Tryz.sizeOf4
  v4 := Tryz.zeroValue4
  t22 := Tryz.underlying26
  a22 := Tryz.isAgg26
  z22 := Tryz.sizeOf26
  v22 := Tryz.zeroValue26
  i3 := by kernel_rfl
}
def delC : ConW := mkConW [.sl (.b .int), .int, .int] 0 t_int (fun x => 0 < x.1.length ∧ x.1.length ≤ 1048576 ∧ 0 ≤ x.2.1 ∧ x.2.1 ≤ x.2.2.1 ∧ x.2.2.1 ≤ x.1.length) (fun _ => .tup []) fun x => ⟨.b .int, x.1.take x.2.1.toNat ++ x.1.drop x.2.2.1.toNat, true⟩
theorem del_snd : SoundW Tryz.prog n_slices_Delete_int delC := by
  intro w F args vs a0 l ver (x : Args [.sl (.b .int), .int, .int]) s k xs ys cells ha hoc hoth hpat hpre hcast hbase hF hlen hargs hw hrow hs hone
  have hpat : decs [.sl (.b .int), .int, .int] (setA args 0 (ownAs a0 (.d (.sl none k xs)))) = some x := hpat
  have ha : nthA args 0 = some a0 := ha
  match args, vs, ha, hpat, hlen, hargs with
  | [], _, ha, _, _, _ => cases ha
  | [z], _, _, hpat, _, _ => simp only [setA, decs] at hpat; split at hpat <;> simp_all
  | [z, c], _, _, hpat, _, _ => simp only [setA, decs] at hpat; split at hpat <;> simp_all
  | z :: c :: d :: e :: r, _, _, hpat, _, _ => simp only [setA, decs] at hpat; split at hpat <;> simp_all
  | [z, c, d], [v0, v1, v2], ha, hpat, hlen, hargs =>
    obtain rfl : z = a0 := Option.some.inj ha
    have h0 := hargs 0 z v0 rfl rfl
    have h1 := hargs 1 c v1 rfl rfl
    have h2 := hargs 2 d v2 rfl rfl
    obtain ⟨x1, i, j, ⟨⟩⟩ := x
    obtain ⟨hp1, hp2, hp3, hp4, hp5⟩ := hpre
    have hp1 : 0 < x1.length := hp1
    have hp2 : x1.length ≤ 1048576 := hp2
    have hp3 : 0 ≤ i := hp3
    have hp4 : i ≤ j := hp4
    have hp5 : j ≤ x1.length := hp5
    have hz : z = .one (.own l ver) ∧ (∃ e : k = .b .int, e ▸ xs = x1) ∧ c = .one (.d (.int .i64 i)) ∧ d = .one (.d (.int .i64 j)) := by
      simp only [setA, decs] at hpat
      split at hpat
      next a b e1 e2 =>
        injection hpat with hpat
        injection hpat with g1 g2
        subst g1
        split at e2
        next a' b' e3 e4 =>
          injection e2 with e2
          subst e2
          injection g2 with g2 g3
          subst g2
          split at e4
          next a'' b'' e5 e6 =>
            injection e4 with e4
            subst e4
            injection g3 with g3 g4
            subst g3
            have hint : ∀ {y : AV} {n : Int}, Ty.int.dec y = some n → y = .one (.d (.int .i64 n)) := by
              intro y n hy
              cases y with
              | one c =>
                cases c with
                | d x =>
                  cases x with
                  | int k m => cases k <;> first | (injection hy with hy; subst hy; rfl) | (simp only [Ty.dec] at hy; cases hy)
                  | _ => simp only [Ty.dec] at hy; cases hy
                | _ => simp only [Ty.dec] at hy; cases hy
              | _ => simp only [Ty.dec] at hy; cases hy
            unfold ownCell at hoc
            split at hoc
            · injection hoc with hoc; injection hoc with e7 e8
              subst e7; subst e8
              exact ⟨rfl, castL_ok e1, hint e3, hint e5⟩
            · simp only [ownAs, Ty.dec] at e1; cases e1
            · cases hoc
          next => cases e4
        next => cases e2
      next => cases hpat
    obtain ⟨rfl, ⟨ek, he⟩, rfl, rfl⟩ := hz
    subst ek
    have he : xs = x1 := he
    subst he
    have hv0 : v0 = s := h0
    subst hv0
    have hv1 : v1 = .int .i64 i := intD h1
    have hv2 : v2 = .int .i64 j := intD h2
    subst hv1
    subst hv2
    obtain ⟨i, rfl⟩ := Int.eq_ofNat_of_zero_le hp3
    obtain ⟨j, rfl⟩ := Int.eq_ofNat_of_zero_le (Int.le_trans hp3 hp4)
    have hij : i ≤ j := Int.ofNat_le.1 hp4
    have hjl : j ≤ xs.length := Int.ofNat_le.1 hp5
    have hys : ys = xs.take i ++ xs.drop j := by
      have : castL (.b .int) (.b .int) (xs.take (i : Int).toNat ++ xs.drop (j : Int).toNat) = some ys := hcast
      exact (Option.some.inj this).symm
    subst hys
    have hw : w.ownsRow 0 t_int 1 v0 xs.length cells := hw
    obtain ⟨g, cap, cur, hv0, hh, hn, hm, hcs, hK⟩ := holds_int hw hrow hp1
    subst hv0
    have hmain := Any.slices_Delete_int del_lay g 0 cap i j xs w hK hn (by unfold maxLen at hm; omega) (by omega) (by omega)
    have hmain' : Calls Tryz.prog n_slices_Delete_int #[.slice (some ⟨g, 0, none⟩) xs.length cap, .int .i64 i, .int .i64 j] w fun e w' => e = .returned (.slice (some ⟨g, 0, none⟩) (xs.length - (j - i)) cap) ∧ ∃ q, w' = putRow (Value.int .i64) (Sort.ahead w q) g 0 (xs.take i ++ xs.drop j ++ List.replicate (j - i) 0).toArray := hmain
    refine hmain'.mono ?_
    rintro e w' ⟨rfl, q, rfl⟩
    have hl : (xs.take i ++ xs.drop j).length = xs.length - (j - i) := by simp; omega
    have hl2 : (xs.take i ++ xs.drop j ++ List.replicate (j - i) 0).length = xs.length := by simp; omega
    obtain ⟨ha1, ha2⟩ := after_int (W := putRow (Value.int .i64) (Sort.ahead w q) g 0 (xs.take i ++ xs.drop j ++ List.replicate (j - i) 0).toArray) (m := xs.length - (j - i)) (zs := xs.take i ++ xs.drop j ++ List.replicate (j - i) 0) (os := #[]) hh (by omega) (by omega) hm hcs rfl rfl rfl (by simp [putRow, mapBlock, Sort.ahead])
    have htk : (xs.take i ++ xs.drop j ++ List.replicate (j - i) 0).take (xs.length - (j - i)) = xs.take i ++ xs.drop j := by
      rw [← hl]; exact List.take_left
    rw [htk] at ha2
    exact ⟨_, .slice (some ⟨g, 0, none⟩) (xs.length - (j - i)) cap, _, rfl, ha1, fun b hb => .inl hb, by rw [hl]; exact ha2, rowC_ints _ F _, rfl, rfl⟩
theorem del_ok : GoodW Tryz.prog n_slices_Delete_int delC := by
  exact ⟨del_snd, _, Tryz.func63, by decide, rfl⟩
end Go.Proofs.YtmhmmdcbkpclpaaGreat
