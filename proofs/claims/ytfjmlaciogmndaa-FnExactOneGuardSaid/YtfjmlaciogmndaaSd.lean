/- The library's sort of points by distance, as a contract of this development. -/
import Derived.Test.YtfjmlaciogmndaaSc
import Derived.Shelf.SlSortCmp.SmallK
import Derived.Shelf.SlSortCmp.Xorshift
namespace Go.Proofs.Ytfjmlaciogmndaa
open Go.Shelf Go.RowKit Go.Lib Go.Sort Go.Proofs.Ytfjmlaciogmndaa.Nm
set_option linter.unusedSimpArgs false
set_option linter.unusedVariables false
/-- The points sorted by distance from a, as the library does it. -/
def distSort (a : Pt2) (xs : List Pt2) : List Pt2 := (Sort.insertionSort (ltOf (cbCmp a)) xs.toArray 0 xs.length).toList
def cloPt (f : FuncId × List D) : Pt2 := match f.2 with | [.ptr [.int _ x, .int _ y]] => (x, y) | _ => (0, 0)
def sortC : ConW := mkConW [.sl (.b .pt), .clo] 0 t_impl_Point (fun x => 0 < x.1.length ∧ x.1.length ≤ 12 ∧ ∃ a : Pt2, x.2.1 = (n_impl_cornersBetween_1, [.ptr [.int .i64 a.1, .int .i64 a.2]])) (fun _ => .tup []) fun x => ⟨.b .pt, distSort (cloPt x.2.1) x.1, false⟩
theorem cell_sortW {w : World} {g n : Nat} {d : Array Pt2} {os : Array Obj} {ad : Addr} (hne : ad.block ≠ g) (hl : ad.block < w.heap.size) : (sortWorldK encP 2 w g 0 n d os).cell? ad = w.cell? ad := by
  unfold sortWorldK
  rw [cell?_grow _ _ _ (by rw [size_putRowK]; exact hl), cell?_putRowK_other _ _ _ _ _ _ _ hne]
  rfl
theorem insInner_size (lt : Pt2 → Pt2 → Bool) (a : Nat) : ∀ (j : Nat) (d : Array Pt2), (insInner lt a j d).size = d.size
  | 0, _ => rfl
  | j + 1, d => by
    unfold insInner
    split
    · rw [insInner_size lt a j, size_swp]
    · rfl
theorem insOuter_size (lt : Pt2 → Pt2 → Bool) (a b : Nat) : ∀ (n i : Nat) (d : Array Pt2), b - i ≤ n → (insOuter lt a b i d).size = d.size
  | 0, i, d, h => by unfold insOuter; rw [if_neg (by omega)]
  | n + 1, i, d, h => by
    unfold insOuter
    split
    · rw [insOuter_size lt a b n (i + 1) _ (by omega), insInner_size]
    · rfl
theorem distSort_len (a : Pt2) (xs : List Pt2) : (distSort a xs).length = xs.length := by
  unfold distSort Sort.insertionSort
  rw [Array.length_toList, insOuter_size _ _ _ _ _ _ (Nat.le_refl _)]
  simp
theorem decs_sort {k : ElK} {xs : List k.T} {c : AV} {x : Args [.sl (.b .pt), .clo]} (h : decs [.sl (.b .pt), .clo] [.one (.d (.sl none k xs)), c] = some x) :
    (∃ e : k = .b .pt, e ▸ xs = x.1) ∧ c = .one (.d (.clo x.2.1.1 x.2.1.2)) := by
  simp only [decs] at h
  split at h
  next a b e1 e2 =>
    injection h with h
    subst h
    refine ⟨castL_ok e1, ?_⟩
    split at e2
    next a' b' e3 e4 =>
      injection e2 with e2
      subst e2
      cases c with
      | one cc =>
        cases cc with
        | d dd => cases dd <;> first | (cases e3; rfl) | (simp only [Ty.dec] at e3; cases e3; done)
        | own _ _ => simp only [Ty.dec] at e3; cases e3
        | ptr _ _ _ _ => simp only [Ty.dec] at e3; cases e3
        | sub _ _ _ _ => simp only [Ty.dec] at e3; cases e3
      | agg _ => simp only [Ty.dec] at e3; cases e3
      | tup _ => simp only [Ty.dec] at e3; cases e3
      | junk => simp only [Ty.dec] at e3; cases e3
    next => cases e2
  next => cases h
theorem sort_snd : SoundW Try.prog n_slices_SortFunc_impl_Point sortC := by
  intro w F args vs a0 l ver (x : Args [.sl (.b .pt), .clo]) s k xs ys cells ha hoc hoth hpat hpre hcast hbase hF hlen hargs hw hrow hs hone
  have hpat : decs [.sl (.b .pt), .clo] (setA args 0 (ownAs a0 (.d (.sl none k xs)))) = some x := hpat
  have ha : nthA args 0 = some a0 := ha
  match args, vs, ha, hpat, hlen, hargs with
  | [], _, ha, _, _, _ => cases ha
  | [z], _, _, hpat, _, _ => simp only [setA, decs] at hpat; split at hpat <;> simp_all
  | z :: c :: e :: r, _, _, hpat, _, _ => simp only [setA, decs] at hpat; split at hpat <;> simp_all
  | [z, c], [v0, v1], ha, hpat, hlen, hargs =>
    obtain rfl : z = a0 := Option.some.inj ha
    have h0 := hargs 0 z v0 rfl rfl
    have h1 := hargs 1 c v1 rfl rfl
    have hd : decs [.sl (.b .pt), .clo] [ownAs z (.d (.sl none k xs)), c] = some x := hpat
    obtain ⟨x1, ⟨xf, xc⟩, ⟨⟩⟩ := x
    obtain ⟨hp1, hp2, ⟨p, q⟩, hp3⟩ := hpre
    have hp1 : 0 < x1.length := hp1
    have hp2 : x1.length ≤ 12 := hp2
    have hp3 : (xf, xc) = (n_impl_cornersBetween_1, [D.ptr [.int .i64 p, .int .i64 q]]) := hp3
    injection hp3 with hf hc
    subst hf hc
    have hz : z = .one (.own l ver) := by
      unfold ownCell at hoc
      split at hoc
      · injection hoc with hoc; injection hoc with e1 e2; rw [e1, e2]
      · simp only [ownAs, decs, Ty.dec] at hd; cases hd
      · cases hoc
    subst hz
    obtain ⟨⟨ek, he⟩, hcc⟩ := decs_sort hd
    subst ek
    have he : xs = x1 := he
    subst he
    subst hcc
    -- the values
    have hv0 : v0 = s := h0
    subst hv0
    obtain ⟨us, hul, hud, rfl⟩ : ∃ us : List Value, us.length = 1 ∧ (∀ (j : Nat) x u, [D.ptr [.int .i64 p, .int .i64 q]][j]? = some x → us[j]? = some u → DC w F x u) ∧ v1 = .func (.func n_impl_cornersBetween_1) #[] us.toArray := by
      have h1 : DC w F (.clo n_impl_cornersBetween_1 [D.ptr [.int .i64 p, .int .i64 q]]) v1 := h1
      cases h1 with
      | clo us hl h => exact ⟨us, hl, h, rfl⟩
    match us, hul with
    | [u], _ =>
    have hu := hud 0 _ u rfl rfl
    obtain ⟨ad, rfl, hFa, hc0, hc1⟩ : ∃ ad, u = .pointer (some ad) ∧ F ad.block ∧ w.cell? (ad.add 0) = some (.int .i64 p) ∧ w.cell? (ad.add 1) = some (.int .i64 q) := by
      cases hu with
      | ptr ad us hl hF h1 h2 =>
        match us, hl with
        | [u0, u1], _ =>
          have k0 := h2 0 _ u0 rfl rfl
          have k1 := h2 1 _ u1 rfl rfl
          cases k0
          cases k1
          exact ⟨ad, rfl, hF, h1 0 _ rfl, h1 1 _ rfl⟩
    have e0 : ad.add 0 = ad := by unfold Addr.add; split <;> first | rfl | (exfalso; rename_i h; exact h rfl) | simp_all
    rw [e0] at hc0
    have hys : ys = distSort (p, q) xs := by
      have : castL (.b .pt) (.b .pt) (distSort (p, q) xs) = some ys := hcast
      exact (Option.some.inj this).symm
    subst hys
    have hw : w.ownsRow 0 t_impl_Point 2 v0 xs.length cells := hw
    obtain ⟨g, cap, cur, hv0, hh, hn, hm, hcs, hK⟩ := holds_of_own hw hrow hp1
    subst hv0
    obtain ⟨hg, hgF⟩ := hs g rfl
    have hne : ad.block ≠ g := fun e => hgF (e ▸ hFa)
    have hal := hF _ hFa
    have eg : ∀ args w, (callFunc n_impl_cornersBetween_1 args).run Try.prog w = .ok (.enter n_impl_cornersBetween_1 args) w := enters_of Try.func79 (by kernel_rfl) rfl
    have hcmp : CmpLays Try.prog n_impl_cornersBetween_1 #[.pointer (some ad)] encP 2 (cbCmp (p, q)) g 0 xs.toArray.size w := fun m os dk hdk x y => by
      have hsz := size_sortWorldK_c encP 2 w g 0 m dk os
      exact cb_k (p, q) x y ad _ (by rw [cell_sortW hne hal]; exact hc0) (by rw [cell_sortW (by rw [block_add]; exact hne) (by rw [block_add]; exact hal)]; exact hc1) (Nat.lt_of_lt_of_le hal hsz)
    have hlen2 : ∀ (n : Nat) (W : World), n ≤ 12 → Calls Try.prog (sort_ren.f 15) #[.int .u64 n] W fun e w' => (∃ l : Int, e = .returned (.int .i64 l)) ∧ w' = W := fun n W hn =>
      (Any.bits_Len (SlLaysF0.n15.bits (P := Try.prog) (ρ := sort_ren) { sort_lay with }) (n : Int) W (by omega) (by omega)).mono fun _ _ ⟨he, hw⟩ => ⟨⟨_, he⟩, hw⟩
    have hmain := AnyQ.slices_SortFunc_small sort_lay 2 sort_agg sort_size encP encP_len encP_one (cbCmp (p, q)) n_impl_cornersBetween_1 #[.pointer (some ad)] g 0 cap xs.toArray w eg hcmp hK hg (by simpa using hp2) hlen2
    have hmain' : Calls Try.prog n_slices_SortFunc_impl_Point #[.slice (some ⟨g, 0, none⟩) xs.length cap, .func (.func n_impl_cornersBetween_1) #[] #[.pointer (some ad)]] w fun e w' => e = .returned (.tuple #[]) ∧ ∃ n os, w' = sortWorldK encP 2 w g 0 n (Sort.insertionSort (ltOf (cbCmp (p, q))) xs.toArray 0 xs.toArray.size) os := hmain
    refine hmain'.mono ?_
    rintro e w' ⟨rfl, n, os, rfl⟩
    have hys : (Sort.insertionSort (ltOf (cbCmp (p, q))) xs.toArray 0 xs.toArray.size) = (distSort (p, q) xs).toArray := by unfold distSort; simp
    rw [hys]
    have hdl := distSort_len (p, q) xs
    obtain ⟨ha1, ha2⟩ := after_sort (n := n) (os := os) (ys := distSort (p, q) xs) hh (by rw [hdl]; exact hn) hm hcs
    rw [hdl] at ha2
    exact ⟨.tuple #[], .slice (some ⟨g, 0, none⟩) xs.length cap, _, rfl, ha1, fun b hb => .inl hb, by rw [hdl]; exact ha2, rowC_flat _ F _, rfl, rfl, [], rfl, rfl, fun j x u hx => by simp at hx⟩
theorem sortFunc_ok : GoodW Try.prog n_slices_SortFunc_impl_Point sortC := by
  exact ⟨sort_snd, _, Try.func39, by decide, rfl⟩
end Go.Proofs.Ytfjmlaciogmndaa
