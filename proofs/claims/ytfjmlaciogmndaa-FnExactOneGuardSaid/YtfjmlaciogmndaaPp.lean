/- Sight in rooms: what is seen has no point outside; the floor; kernels. -/
import Derived.Test.YtfjmlaciogmndaaPo
namespace Go.Proofs.Ytfjmlaciogmndaa.Geo
set_option linter.unusedSimpArgs false
set_option linter.unusedVariables false
/-! ### Sight and the outside -/
theorem out_iff {xs : List Pt} (hr : roomOk xs = true) {p : Pt} (hp : Bd p) : placeM xs p = 0 ↔ Outp (roomP xs) 1 p :=
  place_out hr (by decide) rfl (fun k => (smul_one _).symm) (bd_of_room hr) hp
theorem seesS_noout {xs : List Pt} (hr : roomOk xs = true) {a b : Pt} (ha : ptOk a = true) (hb : ptOk b = true) (ia : placeM xs a ≠ 0) (ib : placeM xs b ≠ 0) : seesS xs a b = true ↔ NoOut (roomP xs) a b :=
  (seesS_iff hr ha hb).trans ⟨noout_of hr ha hb (fun o => ia ((out_iff hr (bd_of_ok ha)).2 o)) fun o => ib ((out_iff hr (bd_of_ok hb)).2 o), sees_of hr ha hb⟩
theorem v_lt {xs : List Pt} {k : Nat} (hk : k < xs.length) : (roomP xs).v k = pAt xs k := pCy_lt hk
theorem corner_mem {xs : List Pt} {k : Nat} (hk : k < xs.length) : pAt xs k ∈ xs := by
  show xs.getD k _ ∈ xs
  rw [getD_lt _ hk]; exact List.getElem_mem hk
theorem corner_ok {xs : List Pt} (hr : roomOk xs = true) {k : Nat} (hk : k < xs.length) : ptOk (pAt xs k) = true := List.all_eq_true.1 (roomOk_iff.1 hr).2.1 _ (corner_mem hk)
theorem corner_in {xs : List Pt} (hr : roomOk xs = true) {k : Nat} (hk : k < xs.length) : placeM xs (pAt xs k) ≠ 0 := by
  intro h
  have := ((out_iff hr (bd_of_ok (corner_ok hr hk))).1 h).1 k hk
  rw [smul_one, smul_one, v_lt hk] at this
  exact (Off.ne this).1 rfl
/-! ### The floor -/
theorem out_half {P : Poly} {p : Pt} {f : Aff} (hf : ∀ k, k < P.n → f.ev p < f.ev (P.v k)) : Outp P 1 p := by
  have h1 : ∀ k, k < P.n → f.ev p < f.ev (P.v (k + 1)) := fun k hk => by
    rcases (show k + 1 < P.n ∨ k + 1 = P.n by omega) with e | e
    · exact hf _ e
    · rw [e, P.vn]; exact hf 0 (by omega)
  refine ⟨fun k hk => ?_, ⟨1, 0, 0⟩, .inl (by decide), ?_⟩
  · rw [smul_one, smul_one]
    have := hf k hk
    have := h1 k hk
    exact ⟨Aff.lc 2 f 0 f (-(2 * f.ev p + 1)), by rw [ev_lc]; omega, by rw [ev_lc]; omega, by rw [ev_lc]; omega⟩
  · rw [sc_one]; exact wnd_out _ f hf
theorem foldmin_le {g : Pt → Int} : ∀ (l : List Pt) (z : Int), l.foldl (fun m p => min m (g p)) z ≤ z ∧ ∀ q ∈ l, l.foldl (fun m p => min m (g p)) z ≤ g q
  | [], z => ⟨Int.le_refl _, fun q hq => by cases hq⟩
  | a :: l, z => by
    have ih := foldmin_le (g := g) l (min z (g a))
    refine ⟨by show l.foldl _ (min z (g a)) ≤ z; omega, fun q hq => ?_⟩
    show l.foldl _ (min z (g a)) ≤ g q
    rcases List.mem_cons.1 hq with rfl | hq
    · omega
    · exact ih.2 q hq
theorem foldmax_le {g : Pt → Int} : ∀ (l : List Pt) (z : Int), z ≤ l.foldl (fun m p => max m (g p)) z ∧ ∀ q ∈ l, g q ≤ l.foldl (fun m p => max m (g p)) z
  | [], z => ⟨Int.le_refl _, fun q hq => by cases hq⟩
  | a :: l, z => by
    have ih := foldmax_le (g := g) l (max z (g a))
    refine ⟨by show z ≤ l.foldl _ (max z (g a)); omega, fun q hq => ?_⟩
    show g q ≤ l.foldl _ (max z (g a))
    rcases List.mem_cons.1 hq with rfl | hq
    · omega
    · exact ih.2 q hq
theorem box {xs : List Pt} {q : Pt} (hq : q ∈ xs) : minX xs xs.length ≤ q.1 ∧ q.1 ≤ maxX xs xs.length ∧ minY xs xs.length ≤ q.2 ∧ q.2 ≤ maxY xs xs.length := by
  unfold minX maxX minY maxY
  rw [List.take_length]
  exact ⟨(foldmin_le (g := fun p => p.1) xs _).2 q hq, (foldmax_le (g := fun p => p.1) xs _).2 q hq, (foldmin_le (g := fun p => p.2) xs _).2 q hq, (foldmax_le (g := fun p => p.2) xs _).2 q hq⟩
theorem in_box {xs : List Pt} (hr : roomOk xs = true) {p : Pt} (hp : ptOk p = true) (hi : placeM xs p ≠ 0) : minX xs xs.length ≤ p.1 ∧ p.1 ≤ maxX xs xs.length ∧ minY xs xs.length ≤ p.2 ∧ p.2 ≤ maxY xs xs.length := by
  have no : ∀ f : Aff, (∀ q ∈ xs, f.ev p < f.ev q) → False := fun f hf => hi ((out_iff hr (bd_of_ok hp)).2 (out_half (f := f) fun k hk => by
    rw [v_lt hk]; exact hf _ (corner_mem hk)))
  have e : ∀ (u v : Int) (q : Pt), (⟨u, v, 0⟩ : Aff).ev q = u * q.1 + v * q.2 := fun u v q => by unfold Aff.ev; simp
  refine ⟨?_, ?_, ?_, ?_⟩ <;> (refine Int.not_lt.1 fun c => ?_)
  · exact no ⟨1, 0, 0⟩ fun q hq => by have := box hq; rw [e, e]; omega
  · exact no ⟨-1, 0, 0⟩ fun q hq => by have := box hq; rw [e, e]; omega
  · exact no ⟨0, 1, 0⟩ fun q hq => by have := box hq; rw [e, e]; omega
  · exact no ⟨0, -1, 0⟩ fun q hq => by have := box hq; rw [e, e]; omega
theorem mem_floor {xs : List Pt} {p : Pt} : p ∈ floorPts xs ↔ roomOk xs = true ∧ ptOk p = true ∧ placeM xs p ≠ 0 := by
  refine ⟨floor_mem, fun ⟨hr, hp, hi⟩ => ?_⟩
  have h := in_box hr hp hi
  unfold floorPts
  rw [if_pos hr]
  unfold floorBy
  refine mem_rowsN.2 ⟨?_, ⟨h.1, ?_⟩, h.2.2.1, ?_⟩
  · show (placeM xs p != 0) = true
    rw [bne_iff_ne]; exact hi
  · unfold spanX; omega
  · unfold spanY; omega
theorem corner_floor {xs : List Pt} (hr : roomOk xs = true) {k : Nat} (hk : k < xs.length) : pAt xs k ∈ floorPts xs := mem_floor.2 ⟨hr, corner_ok hr hk, corner_in hr hk⟩
/-! ### Kernels -/
theorem inKer_iff {xs : List Pt} (hr : roomOk xs = true) {p : Pt} (hp : ptOk p = true) : inKer xs p = true ↔ ∀ k, k < xs.length → 0 ≤ turnZ ((roomP xs).v k) ((roomP xs).v (k + 1)) p := by
  unfold inKer
  have e : ∀ k, k < xs.length → turn (pAt xs k) (pCy xs (k + 1)) p = turnZ ((roomP xs).v k) ((roomP xs).v (k + 1)) p := fun k hk => by
    rw [turn_exact (pAt_bd (bd_of_room hr) hk) (pCy_bd (bd_of_room hr) (room_pos hr)) (bd_of_ok hp), v_lt hk]; rfl
  rw [List.all_eq_true]
  constructor
  · intro h k hk
    have := of_decide_eq_true (h k (List.mem_range.2 hk))
    rwa [e k hk] at this
  · intro h k hk
    have hk := List.mem_range.1 hk
    exact decide_eq_true (by rw [e k hk]; exact h k hk)
theorem ker_sees {xs : List Pt} {p q : Pt} (hp : p ∈ floorPts xs) (hq : q ∈ floorPts xs) (hk : inKer xs p = true) : seesS xs p q = true := by
  obtain ⟨hr, hp, ip⟩ := mem_floor.1 hp
  obtain ⟨-, hq, iq⟩ := mem_floor.1 hq
  exact (seesS_noout hr hp hq ip iq).2 (star (room_simple hr) (room_turns hr) (room_area hr).2.1 ((inKer_iff hr hp).1 hk) fun o => iq ((out_iff hr (bd_of_ok hq)).2 o))
theorem ker_of_sees {xs : List Pt} {p : Pt} (hp : p ∈ floorPts xs) (h : ∀ k, k < xs.length → seesS xs p (pAt xs k) = true) : inKer xs p = true := by
  obtain ⟨hr, hp, ip⟩ := mem_floor.1 hp
  have hn := room_pos hr
  have hs : ∀ j, NoOut (roomP xs) p ((roomP xs).v j) := fun j => by
    have hm : j % xs.length < xs.length := Nat.mod_lt _ hn
    have := (seesS_noout hr hp (corner_ok hr hm) ip (corner_in hr hm)).1 (h _ hm)
    rwa [show (roomP xs).v j = pAt xs (j % xs.length) from rfl]
  refine (inKer_iff hr hp).2 fun k hk => ?_
  have := not_right (room_simple hr) (room_turns hr) (room_area hr).2.1 (p := p) (j := k + (xs.length - 1)) (hs _) (hs _)
  rwa [show k + (xs.length - 1) + 1 = k + (roomP xs).n by show _ = k + xs.length; omega, show k + (xs.length - 1) + 2 = k + 1 + (roomP xs).n by show _ = k + 1 + xs.length; omega, (roomP xs).per, (roomP xs).per] at this
theorem ker_iff_corners {xs : List Pt} {p : Pt} (hp : p ∈ floorPts xs) : inKer xs p = true ↔ ∀ k, k < xs.length → seesS xs p (pAt xs k) = true :=
  ⟨fun hk k hl => ker_sees hp (corner_floor (mem_floor.1 hp).1 hl) hk, ker_of_sees hp⟩
theorem ker_iff_all {xs : List Pt} {p : Pt} (hp : p ∈ floorPts xs) : inKer xs p = true ↔ ∀ q ∈ floorPts xs, seesS xs p q = true :=
  ⟨fun hk q hq => ker_sees hp hq hk, fun h => ker_of_sees hp fun k hk => h _ (corner_floor (mem_floor.1 hp).1 hk)⟩
end Go.Proofs.Ytfjmlaciogmndaa.Geo
