/- Arguments that came in, as abstract values. -/
import Derived.Test.YtfjmlaciogmndaaVm
import Derived.WideShapes
import Derived.ChangeSlices
import Derived.Deep.Strs
import Derived.ChangeOld
namespace Go.Proofs.Ytfjmlaciogmndaa
open Go.RowKit
open Go.ChangeShapes (trod_struct1 trod_struct2)

/-! ### What a type must be for a shape -/
def IntT (P : Program) (t : TypeId) : Prop := P.underlying t = some (.int .i64) ∧ P.cellsOf t = 1
def PtT (P : Program) (t : TypeId) : Prop := P.cellsOf t = 2 ∧ ∃ f0 f1 : Field, P.underlying t = some (.struct #[f0, f1]) ∧ (f0.offset = 0 ∧ IntT P f0.type) ∧ f1.offset = 1 ∧ IntT P f1.type
def TriT (P : Program) (t : TypeId) : Prop := P.cellsOf t = 3 ∧ ∃ f0 f1 f2 : Field, P.underlying t = some (.struct #[f0, f1, f2]) ∧ (f0.offset = 0 ∧ IntT P f0.type) ∧ (f1.offset = 1 ∧ IntT P f1.type) ∧ f2.offset = 2 ∧ IntT P f2.type
def SlPtT (P : Program) (t : TypeId) : Prop := P.cellsOf t = 1 ∧ ∃ e, P.underlying t = some (.slice e) ∧ PtT P e
def SlIntT (P : Program) (t : TypeId) : Prop := P.cellsOf t = 1 ∧ ∃ e, P.underlying t = some (.slice e) ∧ IntT P e
def RoomT (P : Program) (t : TypeId) : Prop := P.cellsOf t = 1 ∧ ∃ f0 : Field, P.underlying t = some (.struct #[f0]) ∧ f0.offset = 0 ∧ SlPtT P f0.type

section
variable {H : Type} {enc : TypeId × Value → H} {P : Program} {w : World} {base : Nat} {spare : Nat → Bool} {held : Bool} {fuel : Nat} {t : TypeId} {cs : List Value} {x : DataW H × List MemPlace} {F : Nat → Prop} {r : Reach}

theorem list_of {α : Type} {Q : Nat → α → Prop} : ∀ {n : Nat}, (∀ i, i < n → ∃ x, Q i x) → ∃ xs : List α, xs.length = n ∧ ∀ (i : Nat) x, xs[i]? = some x → Q i x
  | 0, _ => ⟨[], rfl, fun i x h => by simp at h⟩
  | n + 1, h => by
    obtain ⟨xs, hl, hx⟩ := list_of (n := n) fun i hi => h i (by omega)
    obtain ⟨y, hy⟩ := h n (by omega)
    refine ⟨xs ++ [y], by simp [hl], fun i x hi => ?_⟩
    rcases Nat.lt_or_ge i xs.length with h1 | h1
    · rw [List.getElem?_append_left h1] at hi; exact hx i x hi
    · rw [List.getElem?_append_right h1] at hi
      have : i - xs.length = 0 := by
        rcases Nat.eq_zero_or_pos (i - xs.length) with h2 | h2
        · exact h2
        · rw [List.getElem?_eq_none (by simp; omega)] at hi; cases hi
      rw [this] at hi
      simp at hi
      subst hi
      rw [show i = n by omega]
      exact hy

theorem int_cells (ht : IntT P t) (h : DataW.trod enc P w base spare held fuel t cs = some x) : ∃ n : Int, cs = [.int .i64 n] := by
  obtain ⟨n, h1, _⟩ := DataW.trod_int ht.1 h
  exact ⟨n, h1⟩

theorem one_of {cs : List Value} {j : Nat} {v : Value} (h : (cs.drop j).take 1 = [v]) : cs[j]? = some v := by
  have := congrArg (·[0]?) h
  simpa [List.getElem?_take, List.getElem?_drop] using this

theorem pt_cells (ht : PtT P t) (h : DataW.trod enc P w base spare held fuel t cs = some x) : ∃ p : Int × Int, cs = ElB.pt.encV p := by
  obtain ⟨h2, f0, f1, hu, ⟨h3, h4⟩, h5, h6⟩ := ht
  obtain ⟨y0, y1, n, _, hl, e0, e1⟩ := trod_struct2 hu h
  rw [h4.2, h3] at e0
  rw [h6.2, h5] at e1
  obtain ⟨a, ha⟩ := int_cells h4 e0
  obtain ⟨b, hb⟩ := int_cells h6 e1
  have ha := one_of ha
  have hb := one_of hb
  rw [h2] at hl
  match cs, hl with
  | [u, v], _ =>
    simp at ha hb
    exact ⟨(a, b), by simp [ElB.encV, ha, hb]⟩

theorem tri_cells (ht : TriT P t) (h : DataW.trod enc P w base spare held fuel t cs = some x) : ∃ p : Int × Int × Int, cs = ElB.tri.encV p := by
  obtain ⟨h2, f0, f1, f2, hu, ⟨h3, h4⟩, ⟨h5, h6⟩, h7, h8⟩ := ht
  obtain ⟨y0, y1, y2, n, _, hl, e0, e1, e2⟩ := Go.Deep.trod_struct3 hu h
  rw [h4.2, h3] at e0
  rw [h6.2, h5] at e1
  rw [h8.2, h7] at e2
  obtain ⟨a, ha⟩ := int_cells h4 e0
  obtain ⟨b, hb⟩ := int_cells h6 e1
  obtain ⟨c, hc⟩ := int_cells h8 e2
  have ha := one_of ha
  have hb := one_of hb
  have hc := one_of hc
  rw [h2] at hl
  match cs, hl with
  | [u, v, z], _ =>
    simp at ha hb hc
    exact ⟨(a, b, c), by simp [ElB.encV, ha, hb, hc]⟩

/-- A slice of elements that are read off their cells. -/
theorem sl_cells {e : TypeId} {k : ElB} (hu : P.underlying t = some (.slice e)) (hs : P.cellsOf e = k.size) (hel : ∀ {n : Nat} {cs : List Value} {x : DataW H × List MemPlace}, DataW.trod enc P w base spare held n e cs = some x → ∃ y : k.T, cs = k.encV y)
    (hF : ∀ a l c, cs = [.slice (some a) l c] → l = 0 ∨ F a.block) (h : DataW.trod enc P w base spare held fuel t cs = some x) :
    ∃ (v : Value) (xs : List k.T), cs = [v] ∧ SLK w F (.b k) xs v ∧ xs.length ≤ 9223372036854775807 := by
  rcases DataW.trod_slice hu h with ⟨rfl, _⟩ | ⟨a, len, cap, elems, rest, n, _, rfl, _, _, hl, hm, hlen, hE, _⟩
  · exact ⟨_, [], rfl, .inl ⟨rfl, rfl⟩, by simp⟩
  · have each : ∀ i, i < len → ∃ y : k.T, w.cells? base (a.add (i * k.size)) k.size = some (k.encV y) := by
      intro i hi
      have h1 := hE i hi
      obtain ⟨hlt⟩ : i < elems.length ∧ True := ⟨by omega, trivial⟩
      rw [List.getElem?_eq_getElem hlt, Option.bind_eq_some_iff] at h1
      obtain ⟨us, h2, h3⟩ := h1
      obtain ⟨y, rfl⟩ := hel h3
      rw [hs] at h2
      exact ⟨y, h2⟩
    obtain ⟨xs, hxl, hxs⟩ := list_of each
    refine ⟨_, xs, rfl, .inr ⟨a, cap, by rw [hxl], by omega, (hF a len cap rfl).imp (fun e => List.eq_nil_of_length_eq_zero (by omega)) id, fun i y hy => ?_⟩, by unfold maxLen at hm; omega⟩
    obtain ⟨_, h2, h3⟩ := World.cells?_some (hxs i y hy)
    refine ⟨k.encV y, h2, rfl, fun j u hj => ?_⟩
    have hlt := (List.getElem?_eq_some_iff.1 hj).1
    have := h3 j (by omega)
    rw [hj] at this
    rwa [add_add'] at this

theorem cell_lt {u : TypeId} {a : Addr} {l c : Nat} (h : Cell.okWide P w r base u (.slice (some a) l c)) : a.block < w.heap.size := by
  have h' : Cell.ok P w r base u (.slice (some a) l c) := by
    unfold Cell.okWide at h
    split at h <;> first | exact h | simp_all
  unfold Cell.ok at h'
  split at h' <;> first | exact h'.elim | skip
  all_goals simp_all
  rename_i he
  obtain ⟨rfl, rfl, rfl⟩ := he
  obtain ⟨_, _, _, _, row, cells, hs, _⟩ := h'
  unfold World.shape? at hs
  rcases Nat.lt_or_ge a.block w.heap.size with h1 | h1
  · exact h1
  · rw [Array.getElem?_eq_none h1] at hs; simp at hs

def SlSlIntT (P : Program) (t : TypeId) : Prop := P.cellsOf t = 1 ∧ ∃ e, P.underlying t = some (.slice e) ∧ SlIntT P e
/-- A slice of slices of numbers. -/
theorem slsl_cells {e : TypeId} (hu : P.underlying t = some (.slice e)) (hs : SlIntT P e)
    (hF : ∀ a l c, cs = [.slice (some a) l c] → a.block < w.heap.size) (h : DataW.trod enc P w base spare held fuel t cs = some x) :
    ∃ (v : Value) (xs : List (List Int)), cs = [v] ∧ SLK w (fun b => b < w.heap.size) (.s .int) xs v ∧ xs.length ≤ 9223372036854775807 ∧ ∀ c ∈ xs, c.length ≤ 9223372036854775807 := by
  obtain ⟨hs1, e', hue, hpe⟩ := hs
  rcases DataW.trod_slice hu h with ⟨rfl, _⟩ | ⟨a, len, cap, elems, rest, n, _, rfl, _, _, hl, hm, hlen, hE, _⟩
  · exact ⟨_, [], rfl, .inl ⟨rfl, rfl⟩, by simp, by simp⟩
  · have each : ∀ i, i < len → ∃ y : List Int, y.length ≤ 9223372036854775807 ∧ ∃ v : Value, w.cells? base (a.add (i * 1)) 1 = some [v] ∧ SLK w (fun b => b < w.heap.size) (.b .int) y v := by
      intro i hi
      have h1 := hE i hi
      have hlt : i < elems.length := by omega
      rw [List.getElem?_eq_getElem hlt, Option.bind_eq_some_iff] at h1
      obtain ⟨us, h2, h3⟩ := h1
      obtain ⟨v, xs, rfl, hsl, hxl0⟩ := sl_cells (k := .int) (F := fun b => b < w.heap.size) hue hpe.2 (fun h => int_cells hpe h) (fun a' l' c' he => by
        -- an inner slice that is not empty lies in a block that is there
        rcases Nat.eq_zero_or_pos l' with e | e
        · exact .inl e
        · refine .inr ?_
          subst he
          rcases DataW.trod_slice hue h3 with ⟨h4, _⟩ | ⟨a2, len2, cap2, elems2, rest2, n2, _, h4, _, _, hl2, hm2, hlen2, hE2, _⟩
          · simp at h4
          · simp at h4
            obtain ⟨rfl, rfl, rfl⟩ := h4
            have h5 := hE2 0 e
            rw [List.getElem?_eq_getElem (by omega), Option.bind_eq_some_iff] at h5
            obtain ⟨us2, h6, -⟩ := h5
            rw [hpe.2] at h6
            obtain ⟨_, h7, h8⟩ := World.cells?_some h6
            have hlt2 : 0 < us2.length := by omega
            have h9 := h8 0 (by omega)
            rw [List.getElem?_eq_getElem hlt2] at h9
            rcases Nat.lt_or_ge a'.block w.heap.size with h10 | h10
            · exact h10
            · exfalso
              have hb : ((a'.add (0 * 1)).add 0).block = a'.block := by rw [block_add, block_add]
              unfold World.cell? at h9
              rw [hb, Array.getElem?_eq_none h10] at h9
              simp at h9) h3
      rw [hs1] at h2
      exact ⟨xs, hxl0, v, h2, hsl⟩
    obtain ⟨xs, hxl, hxs⟩ := list_of each
    refine ⟨_, xs, rfl, .inr ⟨a, cap, by rw [hxl], by omega, .inr (hF a len cap rfl), fun i y hy => ?_⟩, by unfold maxLen at hm; omega, fun c hc => by obtain ⟨i, hi⟩ := List.mem_iff_getElem?.1 hc; exact (hxs i c hi).1⟩
    obtain ⟨_, v, h1, h2⟩ := hxs i y hy
    obtain ⟨_, h3, h4⟩ := World.cells?_some h1
    refine ⟨[v], rfl, ⟨v, rfl, ?_⟩, fun j u hj => ?_⟩
    · rcases h2 with h2 | ⟨ad, c, g1, g2, g3, g4⟩
      · exact .inl h2
      · exact .inr ⟨ad, c, g1, g2, g3, fun i x hx => by obtain ⟨us, u1, u2, u3⟩ := g4 i x hx; exact ⟨us, u1, u2, u3⟩⟩
    · have hlt := (List.getElem?_eq_some_iff.1 hj).1
      have := h4 j (by simpa using hlt)
      rw [hj] at this
      rwa [add_add'] at this
def ShT (P : Program) : Ty → TypeId → Prop
  | .int, t => IntT P t
  | .pt, t => PtT P t
  | .tri, t => TriT P t
  | .room, t => RoomT P t
  | .sl (.b .pt), t => SlPtT P t
  | .sl (.b .int), t => SlIntT P t
  | .sl (.s .int), t => SlSlIntT P t
  | _, _ => False
def Ty.lenOk : (t : Ty) → t.T → Prop
  | .room, xs => List.length xs ≤ 9223372036854775807
  | .sl (.b _), xs => List.length xs ≤ 9223372036854775807
  | .sl (.s k), xs => List.length xs ≤ 9223372036854775807 ∧ ∀ c ∈ (xs : List (List k.T)), List.length c ≤ 9223372036854775807
  | _, _ => True

theorem avc_agg {F : Nat → Prop} {cs : List Cell} {a : Array Value} (h : CellsC w F noRho deadOwn cs a.toList) : AVC w F noRho deadOwn (.agg cs) (.agg a) := ⟨a.toList, by simp, h⟩
theorem cells_nil {F : Nat → Prop} : CellsC w F noRho deadOwn [] [] := ⟨rfl, fun j c v h => by simp at h⟩

theorem open_ty {b0 : Nat} {v : Value} {d : DataW H} {p : List MemPlace} : ∀ {ty : Ty}, ShT P ty t → Value.okWide P w r b0 t v → DataW.Trod enc P w base spare held t v d p →
    ∃ x : ty.T, ty.lenOk x ∧ AVC w (fun b => b < w.heap.size) noRho deadOwn (ty.enc x) v := by
  intro ty hs hk ⟨fuel, hf⟩
  have slice : ∀ {k : ElB} {e : TypeId}, P.underlying t = some (.slice e) → (∀ a l c, v = .slice (some a) l c → a.block < w.heap.size) := by
    intro k e hu a l c hv
    subst hv
    refine cell_lt (u := t) (P := P) (r := r) (base := b0) (l := l) (c := c) ?_
    simpa only [Value.okWide, hu] using hk
  cases ty with
  | int =>
    obtain ⟨n, rfl⟩ := Go.WideShapes.okWide_int hs.1 hk
    exact ⟨n, trivial, DC.int _ _⟩
  | pt =>
    obtain ⟨f0, f1, hu, _⟩ := hs.2
    obtain ⟨cs, rfl, _⟩ := Go.WideShapes.okWide_struct hu hk
    obtain ⟨q, hq⟩ := pt_cells hs hf
    refine ⟨q, trivial, avc_agg ?_⟩
    simp only [Value.cells] at hq
    rw [hq]
    exact CellsC.cons (DC.int _ _) (CellsC.cons (DC.int _ _) cells_nil)
  | tri =>
    obtain ⟨f0, f1, f2, hu, _⟩ := hs.2
    obtain ⟨cs, rfl, _⟩ := Go.WideShapes.okWide_struct hu hk
    obtain ⟨q, hq⟩ := tri_cells hs hf
    refine ⟨q, trivial, avc_agg ?_⟩
    simp only [Value.cells] at hq
    rw [hq]
    exact CellsC.cons (DC.int _ _) (CellsC.cons (DC.int _ _) (CellsC.cons (DC.int _ _) cells_nil))
  | room =>
    obtain ⟨h1, f0, hu, h2, h3, e, hue, hpe⟩ := hs
    have hk' := hk
    simp only [Value.okWide, hu] at hk'
    obtain ⟨cs, rfl, hsz, ts, _, _, hrow⟩ := hk'
    obtain ⟨y0, n, _, hl, e0⟩ := trod_struct1 hu hf
    rw [h3, h2] at e0
    simp only [Value.cells] at e0 hl
    rw [h1] at hl
    obtain ⟨u, hu1⟩ : ∃ u, cs.toList = [u] := by
      match hc : cs.toList, hl with
      | [u], _ => exact ⟨u, rfl⟩
    rw [hu1] at e0
    obtain ⟨v, xs, hv, hsl, hlen⟩ := sl_cells (k := .pt) (F := fun b => b < w.heap.size) hue hpe.1 (fun h => pt_cells hpe h) (fun a l c he => by
      have he : u = .slice (some a) l c := by simpa using he
      subst he
      have h0 : cs[0]? = some (.slice (some a) l c) := by rw [← Array.getElem?_toList, hu1]; rfl
      obtain ⟨t', _, ht'⟩ := hrow 0 _ h0
      exact .inr (cell_lt ht')) e0
    have hv : u = v := by simpa using hv
    subst hv
    refine ⟨xs, hlen, avc_agg ?_⟩
    rw [hu1]
    exact CellsC.cons (dc_weak (k := .b .pt) hsl) cells_nil
  | sl k =>
    cases k with
    | b k =>
      cases k with
      | int =>
        obtain ⟨h1, e, hue, hpe⟩ := hs
        obtain ⟨a, l, c, rfl⟩ := Go.WideShapes.okWide_slice hue hk
        obtain ⟨v, xs, hv, hsl, hlen⟩ := sl_cells (k := .int) (F := fun b => b < w.heap.size) hue hpe.2 (fun h => int_cells hpe h) (fun a' l' c' he => by
          simp [Value.cells] at he
          exact .inr (slice (k := .int) hue a' l' c' (by rw [he.1, he.2.1, he.2.2]))) hf
        simp [Value.cells] at hv
        subst hv
        exact ⟨xs, hlen, dc_weak (k := .b .int) hsl⟩
      | pt =>
        obtain ⟨h1, e, hue, hpe⟩ := hs
        obtain ⟨a, l, c, rfl⟩ := Go.WideShapes.okWide_slice hue hk
        obtain ⟨v, xs, hv, hsl, hlen⟩ := sl_cells (k := .pt) (F := fun b => b < w.heap.size) hue hpe.1 (fun h => pt_cells hpe h) (fun a' l' c' he => by
          simp [Value.cells] at he
          exact .inr (slice (k := .pt) hue a' l' c' (by rw [he.1, he.2.1, he.2.2]))) hf
        simp [Value.cells] at hv
        subst hv
        exact ⟨xs, hlen, dc_weak (k := .b .pt) hsl⟩
      | _ => exact hs.elim
    | s k =>
      cases k with
      | int =>
        obtain ⟨h1, e, hue, hpe⟩ := hs
        obtain ⟨a, l, c, rfl⟩ := Go.WideShapes.okWide_slice hue hk
        obtain ⟨v, xs, hv, hsl, hlen, hin⟩ := slsl_cells hue hpe (fun a' l' c' he => by
          simp [Value.cells] at he
          exact slice (k := .int) hue a' l' c' (by rw [he.1, he.2.1, he.2.2])) hf
        simp [Value.cells] at hv
        subst hv
        exact ⟨xs, ⟨hlen, hin⟩, dc_weak (k := .s .int) hsl⟩
      | _ => exact hs.elim
  | _ => exact hs.elim
end

/-! ### From a contract to a call -/
theorem castL_self (k : ElK) (xs : List k.T) : castL k k xs = some xs := by rcases k with k | k <;> cases k <;> rfl
theorem dec_enc : ∀ (t : Ty) (x : t.T), t.dec (t.enc x) = some x
  | .sl k, xs => castL_self k xs
  | .rsl k, xs => castL_self k xs
  | .int, _ => rfl
  | .bool, _ => rfl
  | .pt, _ => rfl
  | .wall, _ => rfl
  | .tri, _ => rfl
  | .room, _ => rfl
  | .rpt, _ => rfl
  | .rint, _ => rfl
  | .clo, _ => rfl
theorem decs_encs : ∀ (ts : List Ty) (x : Args ts), decs ts (encs ts x) = some x
  | [], _ => rfl
  | t :: ts, x => by
    unfold encs decs
    rw [dec_enc, decs_encs ts]
theorem law_walk {P : Program} {f : FuncId} {ts : List Ty} {pre : Args ts → Prop} (h : Good1 P f (mkCon ts pre fun _ => .val (.one (.d (.bool true))))) (x : Args ts) (hx : pre x) (w : World) (vs : List Value)
    (hl : vs.length = ts.length) (hv : ∀ (j : Nat) y v, (encs ts x)[j]? = some y → vs[j]? = some v → AVC w (fun b => b < w.heap.size) noRho deadOwn y v) :
    Calls P f vs.toArray w fun e w' => e = .returned (.bool true) ∧ Below w.heap.size w w' :=
  (h.snd w (fun b => b < w.heap.size) (encs ts x) vs x (decs_encs ts x) hx (fun _ h => h) (by rw [hl, encs_len]) hv).mono fun e w' ⟨v, he, hb, hr⟩ => by
    have : v = .bool true := by
      have hr : DC _ _ _ v := hr
      cases hr
      rfl
    exact ⟨by rw [he, this], hb⟩
/-! ### What a law asks of its arguments: no list longer than any may be -/
def LensOk : (ts : List Ty) → Args ts → Prop
  | [], _ => True
  | t :: ts, x => t.lenOk x.1 ∧ LensOk ts x.2
def lawCon (ts : List Ty) : Con := mkCon ts (LensOk ts) fun _ => .val (.one (.d (.bool true)))
end Go.Proofs.Ytfjmlaciogmndaa
