/- The library's sort of points from below to above, as a contract of this development. -/
import Derived.Test.YtfjmlaciogmndaaSd
import Derived.Test.YtfjmlaciogmndaaMh
import Derived.Test.YtfjmlaciogmndaaGe
import Derived.Shelf.SlSortCmp.NoneTotal
namespace Go.Proofs.Ytfjmlaciogmndaa
open Go.Shelf Go.RowKit Go.Lib Go.Sort Go.Proofs.Ytfjmlaciogmndaa.Nm
set_option linter.unusedSimpArgs false
set_option linter.unusedVariables false
/-- What the closure of HullOf compares by. -/
def hcCmp (x y : Pt2) : Int := if x.2 ≠ y.2 then wrap64 (x.2 - y.2) else wrap64 (x.1 - y.1)
set_option maxHeartbeats 2000000 in
theorem hc_k (x y : Pt2) (W : World) :
    Calls Try.prog 40 #[.agg #[.int .i64 x.1, .int .i64 x.2], .agg #[.int .i64 y.1, .int .i64 y.2]] W fun e w' => e = .returned (.int .i64 (hcCmp x y)) ∧ ∃ q os, w' = grow (W.drewN q) os := by
  unfold hcCmp
  by_cases h : x.2 = y.2
  · have hb : ((x.2 : Int) != y.2) = false := by simp [h]
    rw [if_neg (by simpa using h)]
    go_enter Try.func40, Try.ntmps40
    go_wp2
    go_ret
    exact ⟨rfl, 0, _, by rw [alloc_eq_grow, alloc_eq_grow, grow_grow]; rfl⟩
  · have hb : ((x.2 : Int) != y.2) = true := by simp [h]
    rw [if_pos h]
    go_enter Try.func40, Try.ntmps40
    go_wp2
    go_ret
    exact ⟨rfl, 0, _, by rw [alloc_eq_grow, alloc_eq_grow, grow_grow]; rfl⟩
/-- Bounded points. -/
abbrev BPt := { p : Pt // Bd p }
instance : Inhabited BPt := ⟨⟨default, bd_default⟩⟩
theorem hc_lt {x y : BPt} : ltOf (fun x y : BPt => hcCmp x.1 y.1) x y = pLess x.1 y.1 := by
  have hx := x.2
  have hy := y.2
  unfold Bd at hx hy
  have w : ∀ n : Int, -9223372036854775808 ≤ n → n ≤ 9223372036854775807 → wrap64 n = n := fun n h1 h2 => by unfold wrap64; omega
  unfold ltOf pLess hcCmp
  dsimp only
  split
  · rw [w _ (by omega) (by omega)]; exact decide_eq_decide.2 (by omega)
  · rw [w _ (by omega) (by omega)]; exact decide_eq_decide.2 (by omega)
theorem hc_swo : SWO (ltOf (fun x y : BPt => hcCmp x.1 y.1)) := by
  refine ⟨fun x => ?_, fun x y z h1 h2 => ?_, fun x y z h1 h2 => ?_⟩
  · rw [hc_lt, ← Bool.not_eq_true, pLess_iff]; exact lt_irrefl (.inl rfl)
  · rw [hc_lt, pLess_iff] at *; exact lt_trans (.inl rfl) h1 h2
  · rw [hc_lt, ← Bool.not_eq_true, pLess_iff] at *
    intro h
    rcases lt_total (.inl rfl) x.1 y.1 with e | e | e
    · rw [e] at h; exact h2 h
    · exact h1 e
    · exact h2 (lt_trans (.inl rfl) e h)
theorem hc_tot (x y : BPt) (h1 : ltOf (fun x y : BPt => hcCmp x.1 y.1) x y = false) (h2 : ltOf (fun x y : BPt => hcCmp x.1 y.1) y x = false) : x = y := by
  rw [hc_lt, ← Bool.not_eq_true, pLess_iff] at *
  rcases lt_total (.inl rfl) x.1 y.1 with e | e | e
  · exact Subtype.ext e
  · exact absurd e h1
  · exact absurd e h2
theorem flatB (d : Array BPt) : flatK (fun x : BPt => encP x.1) 2 d = flatK encP 2 (d.map Subtype.val) := by
  refine Array.ext (by rw [size_flatK, size_flatK, Array.size_map]) fun i h1 h2 => ?_
  have e1 := get_flatK (fun x : BPt => encP x.1) 2 d i (by rw [size_flatK] at h1; exact h1)
  have e2 := get_flatK encP 2 (d.map Subtype.val) i (by rw [size_flatK] at h2; exact h2)
  rw [getElem!_pos _ i h1] at e1
  rw [getElem!_pos _ i h2] at e2
  rw [e1, e2]
  have hi : i / 2 < d.size := by rw [size_flatK] at h1; omega
  rw [getElem!_pos d _ hi, getElem!_pos (d.map Subtype.val) _ (by simpa using hi), Array.getElem_map]
structure BdAll (xs : List Pt2) : Prop where
  all : ∀ p ∈ xs, Bd p
def bSort (xs : List Pt2) : List Pt2 := xs.mergeSort fun p q => !pLess q p
def hsortC : ConW := mkConW [.sl (.b .pt), .clo] 0 t_impl_Point (fun x => (0 < x.1.length ∧ x.1.length ≤ 1048576) ∧ BdAll x.1 ∧ x.2.1 = (n_impl_HullOf_1, [])) (fun _ => .tup []) fun x => ⟨.b .pt, bSort x.1, false⟩
theorem hsort_snd : SoundW Try.prog n_slices_SortFunc_impl_Point hsortC := by
  intro w F args vs a0 l ver (x : Args [.sl (.b .pt), .clo]) s k xs ys cells ha hoc hoth hpat hpre hcast hbase hF hlen hargs hw hrow hs hone
  have hpat : decs [.sl (.b .pt), .clo] (setA args 0 (ownAs a0 (.d (.sl none k xs)))) = some x := hpat
  have ha : nthA args 0 = some a0 := ha
  match args, vs, ha, hpat, hlen, hargs with
  | [], _, ha, _, _, _ => cases ha
  | [z], _, _, hpat, _, _ => simp only [setA, decs] at hpat; split at hpat <;> simp_all
  | z :: c :: e :: r, _, _, hpat, _, _ => simp only [setA, decs] at hpat; split at hpat <;> simp_all
  | [z, c], [v0, v1], ha, hpat, hlen, hargs =>
    obtain rfl : z = a0 := Option.some.inj ha
    have h0 := hargs 0 z v0 rfl rfl
    have h1 := hargs 1 c v1 rfl rfl
    have hd : decs [.sl (.b .pt), .clo] [ownAs z (.d (.sl none k xs)), c] = some x := hpat
    obtain ⟨x1, ⟨xf, xc⟩, ⟨⟩⟩ := x
    obtain ⟨⟨hp1, hp2⟩, hbd0, hp3⟩ := hpre
    have hp1 : 0 < x1.length := hp1
    have hp2 : x1.length ≤ 1048576 := hp2
    have hbd : ∀ p ∈ x1, Bd p := (show BdAll x1 from hbd0).all
    clear hbd0
    have hp3 : (xf, xc) = (n_impl_HullOf_1, ([] : List D)) := hp3
    injection hp3 with hf hc
    subst hf hc
    have hz : z = .one (.own l ver) := by
      unfold ownCell at hoc
      split at hoc
      · injection hoc with hoc; injection hoc with e1 e2; rw [e1, e2]
      · simp only [ownAs, decs, Ty.dec] at hd; cases hd
      · cases hoc
    subst hz
    obtain ⟨⟨ek, he⟩, hcc⟩ := decs_sort hd
    subst ek
    have he : xs = x1 := he
    subst he
    subst hcc
    -- the values
    have hv0 : v0 = s := h0
    subst hv0
    obtain rfl : v1 = .func (.func n_impl_HullOf_1) #[] #[] := by
      have h1 : DC w F (.clo n_impl_HullOf_1 []) v1 := h1
      cases h1 with
      | clo us hl h =>
        have : us = [] := List.eq_nil_of_length_eq_zero hl
        subst this
        rfl
    have hys : ys = bSort xs := by
      have : castL (.b .pt) (.b .pt) (bSort xs) = some ys := hcast
      exact (Option.some.inj this).symm
    subst hys
    have hw : w.ownsRow 0 t_impl_Point 2 v0 xs.length cells := hw
    obtain ⟨g, cap, cur, hv0, hh, hn, hm, hcs, hK⟩ := holds_of_own hw hrow hp1
    subst hv0
    obtain ⟨hg, hgF⟩ := hs g rfl
    have eg : ∀ args w, (callFunc n_impl_HullOf_1 args).run Try.prog w = .ok (.enter n_impl_HullOf_1 args) w := enters_of Try.func40 (by kernel_rfl) rfl
    have hmap : (xs.attachWith Bd hbd).map Subtype.val = xs := List.ext_getElem (by simp) fun i h1 h2 => by simp
    have hmapA : (xs.attachWith Bd hbd).toArray.map Subtype.val = xs.toArray := by rw [List.map_toArray, hmap]
    have hsz : (xs.attachWith Bd hbd).toArray.size = xs.length := by simp
    have hK' : HoldsK (fun x : BPt => encP x.1) 2 w g 0 (xs.attachWith Bd hbd).toArray := by
      unfold HoldsK at hK ⊢
      rw [flatB, hmapA]
      exact hK
    have hcmp : CmpLays Try.prog n_impl_HullOf_1 #[] (fun x : BPt => encP x.1) 2 (fun x y : BPt => hcCmp x.1 y.1) g 0 (xs.attachWith Bd hbd).toArray.size w := fun m os dk hdk x y => hc_k x.1 y.1 _
    have hmain := AnyQ.slices_SortFunc_total sort_lay 2 sort_agg sort_size (fun x : BPt => encP x.1) (fun x => encP_len x.1) (fun x => encP_one x.1) (fun x y : BPt => hcCmp x.1 y.1) hc_swo n_impl_HullOf_1 #[] g 0 cap (xs.attachWith Bd hbd).toArray w eg hcmp hK' hg (by rw [hsz]; omega) hc_tot
    rw [hsz] at hmain
    have hmain' : Calls Try.prog n_slices_SortFunc_impl_Point #[.slice (some ⟨g, 0, none⟩) xs.length cap, .func (.func n_impl_HullOf_1) #[] #[]] w fun e w' => e = .returned (.tuple #[]) ∧ ∃ n os, w' = sortWorldK (fun x : BPt => encP x.1) 2 w g 0 n ((xs.attachWith Bd hbd).mergeSort fun x y => !(ltOf (fun x y : BPt => hcCmp x.1 y.1)) y x).toArray os := hmain
    refine hmain'.mono ?_
    rintro e w' ⟨rfl, n, os, rfl⟩
    have hres : (((xs.attachWith Bd hbd).mergeSort fun x y => !(ltOf (fun x y : BPt => hcCmp x.1 y.1)) y x).toArray).map Subtype.val = (bSort xs).toArray := by
      rw [List.map_toArray, List.map_mergeSort (s := fun p q => !pLess q p) (fun a _ b _ => by rw [hc_lt]), hmap]
      rfl
    have hworld : sortWorldK (fun x : BPt => encP x.1) 2 w g 0 n ((xs.attachWith Bd hbd).mergeSort fun x y => !(ltOf (fun x y : BPt => hcCmp x.1 y.1)) y x).toArray os = sortWorldK encP 2 w g 0 n (bSort xs).toArray os := by
      unfold sortWorldK putRowK
      rw [flatB, hres]
    rw [hworld]
    have hdl : (bSort xs).length = xs.length := List.length_mergeSort _
    obtain ⟨ha1, ha2⟩ := after_sort (n := n) (os := os) (ys := bSort xs) hh (by rw [hdl]; exact hn) hm hcs
    rw [hdl] at ha2
    exact ⟨.tuple #[], .slice (some ⟨g, 0, none⟩) xs.length cap, _, rfl, ha1, fun b hb => .inl hb, by rw [hdl]; exact ha2, rowC_flat _ F _, rfl, rfl, [], rfl, rfl, fun j x u hx => by simp at hx⟩
theorem hsort_ok : GoodW Try.prog (n_slices_SortFunc_impl_Point) hsortC := by
  exact ⟨hsort_snd, _, Try.func39, by decide, rfl⟩
end Go.Proofs.Ytfjmlaciogmndaa
