/- Calls are sound; all quiet operations together. -/
import Derived.Test.YtfjmlaciogmndaaVd
namespace Go.Proofs.Ytfjmlaciogmndaa
open Go.RowKit
section
variable {P : Program} {c : Cfg} {w : World} {N F : Nat → Prop} {ρ : Nat → Value} {own : Nat → Loc} {slots : Nat → AV} {a : Act} {Q : Exit → Act → World → Prop} {o : Oper} {p : Prop} {y : AV}

theorem ext_sub {w : World} {F F' : Nat → Prop} (h : ∀ b, F b → F' b) : Ext w F w F' := ⟨rfl, rfl, rfl, Nat.le_refl _, fun _ _ => rfl, h⟩

/-- What is looked at as data may be read in more blocks. -/
def viewF (w : World) (F : Nat → Prop) (b : Bool) : Nat → Prop := fun n => F n ∨ (b = true ∧ n < w.heap.size)

theorem viewF_le {w : World} {F : Nat → Prop} {b b' : Bool} (h : b = true → b' = true) (n : Nat) (hn : viewF w F b n) : viewF w F b' n := hn.imp id fun ⟨h1, h2⟩ => ⟨h h1, h2⟩

theorem row_data {k : ElK} {xs : List k.T} {vs : List Value} {s : Value} {e base : Nat} {G : Nat → Prop} (h : w.ownsRow base e k.size s xs.length vs) (hr : RowC w F k xs vs) (hF : ∀ b, F b → G b) (hG : ∀ b, blk s = some b → G b) : SLK w G k xs s := by
  rcases h.2 with ⟨hs, hn⟩ | ⟨g, cap, cur, hs, _, _, hc, _⟩
  · exact .inl ⟨hs, List.eq_nil_of_length_eq_zero hn⟩
  · refine .inr ⟨⟨g, 0, none⟩, cap, hs, hc, .inr (hG g (by rw [hs]; rfl)), fun i x hx => ?_⟩
    obtain ⟨us, hl, he, hu⟩ := hr.2 i x hx
    exact ⟨us, hl, Elem.mono (ext_sub hF) k x us he, fun j u hj => h.cells (g := g) (by rw [hs]; rfl) _ _ (hu j u hj)⟩

theorem inner_data {l i : Nat} {ty ety : TypeId} {e : ElB} {xs : List (List e.T)} {g : Nat → Bool} (h : OwnOk w N F ρ own l (.deep ty ety e xs g)) {x : List e.T} (hx : xs[i]? = some x) (hg : g i = false) : SLK w (viewF w F true) (.b e) x (ρ (inn l i)) := by
  obtain ⟨vs, hw, h1, hn, hin⟩ := h
  obtain ⟨q1, ⟨us, hu, hr⟩, q3⟩ := hin i x hx hg
  exact row_data (k := .b e) hu hr (fun _ h => .inl h) fun b hb => .inr ⟨rfl, (hu.lt b (blk_own hu hb)).2⟩
theorem deep_data {l : Nat} {ty ety : TypeId} {e : ElB} {xs : List (List e.T)} {g : Nat → Bool} (h : OwnOk w N F ρ own l (.deep ty ety e xs g)) (hy : allG g xs.length) : SLK w (viewF w F true) (.s e) xs (ρ (pl l)) := by
  have h' := h
  obtain ⟨vs, hw, h1, hn, hin⟩ := h
  rcases hw.2 with ⟨hs, hn0⟩ | ⟨gg, cap, cur, hs, _, _, hc, _⟩
  · exact .inl ⟨hs, List.eq_nil_of_length_eq_zero hn0⟩
  · refine .inr ⟨⟨gg, 0, none⟩, cap, hs, hc, .inr (.inr ⟨rfl, (hw.lt gg (blk_own hw (by rw [hs]; rfl))).2⟩), fun i x hx => ?_⟩
    have hgi := hy i (List.getElem?_eq_some_iff.1 hx).1
    obtain ⟨q1, _, _⟩ := hin i x hx hgi
    refine ⟨[ρ (inn l i)], rfl, ⟨_, rfl, inner_data h' hx hgi⟩, fun j u hj => ?_⟩
    cases j with
    | zero =>
      simp only [List.getElem?_cons_zero, Option.some.injEq] at hj
      subst hj
      exact hw.cells (g := gg) (by rw [hs]; rfl) _ _ (by simpa using q1)
    | succ j => simp at hj
theorem viewC_ok (m : Mem w N F ρ own) {c c' : Cell} {b : Bool} {v : Value} (h : viewC own c = .ok p (c', b)) (hp : p) (hc : CellC w F ρ own c v) : ∃ x, c' = .d x ∧ DC w (viewF w F b) x v := by
  unfold viewC at h
  split at h
  · rename_i x
    injection h with h1 h2
    injection h2 with h2 h3
    subst h2; subst h3
    exact ⟨x, rfl, DC.mono (ext_sub fun _ h => .inl h) hc⟩
  · rename_i l ver
    unfold viewL at h
    split at h
    · rename_i ver' ty k xs hl
      injection h with h1 h2
      injection h2 with h2 h3
      subst h1; subst h2; subst h3
      have hok := m.ok l
      rw [hl] at hok
      obtain ⟨vs, hw, hr, hn⟩ := hok
      have hv := hc.2.2 ⟨by rw [hl]; exact hp.symm, by rw [hl]; trivial⟩
      subst hv
      refine ⟨_, rfl, DC.sl (fun b hb => by cases hb) (row_data hw hr (fun _ h => .inl h) fun b hb => .inr ⟨rfl, (hw.lt b (blk_own hw hb)).2⟩)⟩
    · rename_i ver' ty ety e xs g hl
      injection h with h1 h2
      injection h2 with h2 h3
      subst h1; subst h2; subst h3
      have hok := m.ok l
      rw [hl] at hok
      have hv := hc.2.2 ⟨by rw [hl]; exact hp.1.symm, by rw [hl]; trivial⟩
      subst hv
      exact ⟨_, rfl, DC.sl (fun b hb => by cases hb) (deep_data hok hp.2)⟩
    · cases h
  · cases h
  · rename_i l ver off n
    unfold viewI at h
    split at h
    · rename_i ver' ty ety e xs g hl
      injection h with h1 h2
      injection h2 with h2 h3
      subst h1; subst h2; subst h3
      have hok := m.ok l
      rw [hl] at hok
      have hx := getD_some (d := []) hp.2.1
      have hv := (hc.2.2 (by rw [hl]; exact hp.1.symm)).2 ty ety e xs g _ (by rw [hl]) hx hp.2.2
      subst hv
      exact ⟨_, rfl, DC.sl (fun b hb => by cases hb) (inner_data hok hx hp.2.2)⟩
    · cases h

theorem viewCs_ok (m : Mem w N F ρ own) : ∀ {p : Prop} {cs cs' : List Cell} {b : Bool} {vs : List Value}, viewCs own cs = .ok p (cs', b) → p → CellsC w F ρ own cs vs → ∀ ρ' own', CellsC w (viewF w F b) ρ' own' cs' vs
  | p, [], cs', b, vs, h, hp, hc => by
    simp only [viewCs] at h
    injection h with h1 h2
    injection h2 with h2 h3
    subst h2
    intro ρ' own'
    have : vs = [] := List.eq_nil_of_length_eq_zero (by simpa using hc.1)
    subst this
    exact CellsC.nil
  | p, c :: cs, cs', b, vs, h, hp, hc => by
    obtain ⟨v, vs', rfl, h0, hc'⟩ := hc.uncons
    unfold viewCs at h
    split at h
    · rename_i q c1 b1 q' cs1 b2 e1 e2
      injection h with h1 h2
      injection h2 with h2 h3
      subst h1; subst h2; subst h3
      intro ρ' own'
      obtain ⟨x, rfl, hx⟩ := viewC_ok m e1 hp.1 h0
      have ih := viewCs_ok m e2 hp.2 hc' ρ' own'
      exact CellsC.cons (DC.mono (ext_sub (viewF_le (by simp; intro h; exact .inl h))) hx) (ih.mono (ext_sub (viewF_le (by simp; intro h; exact .inr h))))
    · cases h

theorem view_ok (m : Mem w N F ρ own) {x x' : AV} {b : Bool} {v : Value} (h : view own x = .ok p (x', b)) (hp : p) (hc : AVC w F ρ own x v) : ∀ ρ' own', AVC w (viewF w F b) ρ' own' x' v := by
  intro ρ' own'
  unfold view at h
  split at h
  · rename_i cc
    split at h
    · rename_i q c' b' e1
      injection h with h1 h2
      injection h2 with h2 h3
      subst h1; subst h2; subst h3
      obtain ⟨x, rfl, hx⟩ := viewC_ok m e1 hp hc
      exact hx
    · cases h
  · rename_i cs
    split at h
    · rename_i q c' b' e1
      injection h with h1 h2
      injection h2 with h2 h3
      subst h1; subst h2; subst h3
      obtain ⟨vs, hv, hvs⟩ := hc
      exact ⟨vs, hv, viewCs_ok m e1 hp hvs ρ' own'⟩
    · cases h
  · cases h

theorem views_ok (m : Mem w N F ρ own) : ∀ {p : Prop} {xs xs' : List AV} {b : Bool} {vs : List Value}, views own xs = .ok p (xs', b) → p → vs.length = xs.length → (∀ (j : Nat) x v, xs[j]? = some x → vs[j]? = some v → AVC w F ρ own x v) →
    xs'.length = xs.length ∧ ∀ ρ' own' (j : Nat) x v, xs'[j]? = some x → vs[j]? = some v → AVC w (viewF w F b) ρ' own' x v
  | p, [], xs', b, vs, h, hp, hl, hc => by
    simp only [views] at h
    injection h with h1 h2
    injection h2 with h2 h3
    subst h2
    exact ⟨rfl, fun ρ' own' j x v hx => by simp at hx⟩
  | p, x :: xs, xs', b, vs, h, hp, hl, hc => by
    match vs, hl with
    | v :: vs, hl =>
      unfold views at h
      split at h
      · rename_i q x1 b1 q' xs1 b2 e1 e2
        injection h with h1 h2
        injection h2 with h2 h3
        subst h1; subst h2; subst h3
        have h0 := view_ok m e1 hp.1 (hc 0 x v rfl rfl)
        obtain ⟨ih1, ih2⟩ := views_ok (vs := vs) m e2 hp.2 (by simpa using hl) (fun j y u hy hu => hc (j + 1) y u (by simpa using hy) (by simpa using hu))
        refine ⟨by simp [ih1], fun ρ' own' j y u hy hu => ?_⟩
        cases j with
        | zero =>
          simp at hy hu
          subst hy; subst hu
          exact (h0 ρ' own').mono (ext_sub (viewF_le (by simp; intro h; exact .inl h)))
        | succ j =>
          simp at hy hu
          exact (ih2 ρ' own' j y u hy hu).mono (ext_sub (viewF_le (by simp; intro h; exact .inr h)))
      · cases h

theorem evL_ok (H : Here P c N F ρ own slots a w) (xs : List Operand) (j : Nat) (x : AV) (v : Value) (hx : (evL (evA slots) xs)[j]? = some x) (hv : (xs.map a.eval)[j]? = some v) : AVC w F ρ own x v := by
  unfold evL at hx
  rw [List.getElem?_map] at hx hv
  cases ho : xs[j]? with
  | none => rw [ho] at hx; cases hx
  | some z =>
    rw [ho] at hx hv
    simp only [Option.map_some, Option.some.injEq] at hx hv
    subst hx; subst hv
    exact H.ev z

theorem capsOf_get : ∀ (ds : List D) (j : Nat), (capsOf ds)[j]? = (ds[j]?).map fun x => AV.one (.d x)
  | [], j => by simp [capsOf]
  | d :: ds, 0 => by simp [capsOf]
  | d :: ds, j + 1 => by simp [capsOf, capsOf_get ds j]

theorem capsOf_len : ∀ (ds : List D), (capsOf ds).length = ds.length
  | [] => rfl
  | d :: ds => by simp [capsOf, capsOf_len ds]

/-- A cell is turned into another one, everywhere. -/
theorem AVG.ren {C C' : Cell → Value → Prop} {g : Cell} (h : ∀ z v, C z v → C' (renC g z) v) {x : AV} {v : Value} (hx : AVG C x v) : AVG C' (ren g x) v := by
  have hl : ∀ {cs : List Cell} {vs : List Value}, CellsG C cs vs → CellsG C' (cs.map (renC g)) vs := fun hc =>
    ⟨by simp [hc.1], fun j z u hz hu => by
      rw [List.getElem?_map] at hz
      cases hcj : (‹List Cell›)[j]? with
      | none => rw [hcj] at hz; cases hz
      | some z' =>
        rw [hcj] at hz
        simp only [Option.map_some, Option.some.injEq] at hz
        subst hz
        exact h _ _ (hc.2 j z' u hcj hu)⟩
  cases x with
  | one c => exact h _ _ hx
  | agg cs => obtain ⟨vs, hv, hvs⟩ := hx; exact ⟨vs, hv, hl hvs⟩
  | tup xs =>
    obtain ⟨vs, hv, hlen, hvs⟩ := hx
    refine ⟨vs, hv, by simp [hlen], fun j z u hz hu => ?_⟩
    rw [List.getElem?_map] at hz
    cases hcj : xs[j]? with
    | none => rw [hcj] at hz; cases hz
    | some z' =>
      rw [hcj] at hz
      simp only [Option.map_some, Option.some.injEq] at hz
      subst hz
      have := hvs j z' u hcj hu
      cases z' with
      | inl c => exact h _ _ this
      | inr cs => obtain ⟨us, e1, e2⟩ := this; exact ⟨us, e1, hl e2⟩
  | junk => trivial

theorem renC_id (x : Cell) : renC (.own 0 0) x = x ∨ ∃ l v, x = .own l v := by cases x <;> simp [renC]

theorem AVG.imp {C C' : Cell → Value → Prop} (h : ∀ z v, C z v → C' z v) {x : AV} {v : Value} (hx : AVG C x v) : AVG C' x v := by
  cases x with
  | one c => exact h _ _ hx
  | agg cs => obtain ⟨vs, hv, hvs⟩ := hx; exact ⟨vs, hv, hvs.imp fun c v _ => h c v⟩
  | tup xs =>
    obtain ⟨vs, hv, hlen, hvs⟩ := hx
    refine ⟨vs, hv, hlen, fun j z u hz hu => ?_⟩
    have := hvs j z u hz hu
    cases z with
    | inl c => exact h _ _ this
    | inr cs => obtain ⟨us, e1, e2⟩ := this; exact ⟨us, e1, e2.imp fun c v _ => h c v⟩
  | junk => trivial

theorem flatCs_all : ∀ {xs : List Cell}, flatCs xs = true → ∀ x ∈ xs, flatC x = true
  | [], _, x, hx => by simp at hx
  | y :: ys, h, x, hx => by
    unfold flatCs at h
    simp only [Bool.and_eq_true] at h
    rcases List.mem_cons.1 hx with rfl | hx
    · exact h.1
    · exact flatCs_all h.2 x hx

theorem flatT_all : ∀ {xs : List (Cell ⊕ List Cell)}, flatT xs = true → ∀ x ∈ xs, flatS x = true
  | [], _, x, hx => by simp at hx
  | y :: ys, h, x, hx => by
    unfold flatT at h
    simp only [Bool.and_eq_true] at h
    rcases List.mem_cons.1 hx with rfl | hx
    · exact h.1
    · exact flatT_all h.2 x hx

theorem flat_any {C C' : Cell → Value → Prop} (h : ∀ z v, flatC z = true → C z v → C' z v) {x : AV} {v : Value} (hf : flat x = true) (hx : AVG C x v) : AVG C' x v := by
  cases x with
  | one c => exact h _ _ hf hx
  | agg cs => obtain ⟨vs, hv, hvs⟩ := hx; exact ⟨vs, hv, hvs.imp fun c v hc => h c v (flatCs_all hf c hc)⟩
  | tup xs =>
    obtain ⟨vs, hv, hlen, hvs⟩ := hx
    refine ⟨vs, hv, hlen, fun j z u hz hu => ?_⟩
    have h1 := hvs j z u hz hu
    have h2 := flatT_all (xs := xs) hf z (List.mem_of_getElem? hz)
    cases z with
    | inl c => exact h _ _ h2 h1
    | inr cs => obtain ⟨us, e1, e2⟩ := h1; exact ⟨us, e1, e2.imp fun c v hc => h c v (flatCs_all h2 c hc)⟩
  | junk => trivial

theorem retCell_flat {w' : World} {G G' : Nat → Prop} {s : Option Value} {z : Cell} {v : Value} (hf : flatC z = true) (h : RetCell w' G s z v) : RetCell w' G' s z v := by
  cases z with
  | d x =>
    cases x with
    | int k n => have h : DC w' G (.int k n) v := h; cases h; exact DC.int _ _
    | bool b => have h : DC w' G (.bool b) v := h; cases h; exact DC.bool _
    | nil => have h : DC w' G .nil v := h; cases h; exact DC.nil
    | sl _ _ _ => cases hf
    | full _ _ => cases hf
    | ptr _ => cases hf
    | clo _ _ => cases hf
  | own l ver => exact h
  | ptr l ver i j => cases hf
  | sub l ver off n => cases hf

theorem retX_plain {w w' : World} {F : Nat → Prop} {dp : Option TypeId} {r : RV} {v : Value} (h : RetX w w' F dp r v) : RetC w w' F r v := by
  unfold RetX at h
  split at h
  · exact h
  · unfold RetD at h
    split at h
    · exact h
    · rename_i ety ty nl e xs hrow
      obtain ⟨s, inner, ⟨vs, hw, h1, hn, hin⟩, h3, h4⟩ := h
      unfold RetC
      rw [hrow]
      refine ⟨s, vs, ⟨hw.1, ?_⟩, ⟨h1, fun i x hx => ?_⟩, h3, AVG.imp (fun z v hz => ?_) h4⟩
      · rcases hw.2 with h | ⟨g, cap, cur, hv, hg, r⟩
        · exact .inl h
        · exact .inr ⟨g, cap, cur, hv, hn g (by rw [hv]; rfl), r⟩
      · obtain ⟨q1, ⟨us, hu, hr⟩, q3⟩ := hin i x hx
        refine ⟨[inner i], rfl, ⟨_, rfl, row_data (k := .b e) (F := fun _ => False) hu hr (fun _ h => h.elim) fun b hb => ?_⟩, fun j u hj => ?_⟩
        · exact ⟨.inr ⟨(q3 b hb).1, (hu.lt b (blk_own hu hb)).2⟩, (q3 b hb).2.1⟩
        · cases j with
          | zero => simp only [List.getElem?_cons_zero, Option.some.injEq] at hj; subst hj; simpa using q1
          | succ j => simp at hj
      · cases z with
        | d x => exact DC.mono (ext_sub fun b hb => ⟨hb.1, hb.2.1⟩) hz
        | own l ver => exact hz
        | ptr l ver i j => exact hz
        | sub l ver off n => exact hz
    · exact h
/-- A call, as the caller sees it: what it hands back is right in the blocks that the caller may read. -/
theorem call_okX (H : Here P c N F ρ own slots a w) {cl : Call} {g : Operand} (hcl : cl.callee = .value g) {f : FuncId} {caps : List D} (hg : evA slots g = .one (.d (.clo f caps))) {r : RV}
    (h : acall c own f (evL (evA slots) cl.args.toList ++ capsOf caps) = .ok p r) (hp : p) (ho : o.op = .call cl) {K : Act → World → Prop}
    (hK : ∀ v w', Below w.heap.size w w' → RetX w w' F (dpOf c f) r v → K (a.put o.dst v) w') : o.wp P a w K Q := by
  unfold acall at h
  split at h
  · cases h
  · rename_i con hcon
    obtain ⟨hs, fn, hfn, hname, hbody⟩ := H.cfg.con f con hcon
    split at h
    · cases h
    · rename_i pv args' b hv
      split at h
      · cases h
      · rename_i x hx
        have hclo : DC w F (.clo f caps) (a.eval g) := H.ev' hg
        generalize hge : a.eval g = vg at hclo
        cases hclo with
        | clo us hul hus =>
          have hpv : pv ∧ con.pre x ∧ (b = true → flatR con.dp (con.res x) = true) ∧ con.res x = r := by
            split at h
            · injection h with h1 h2
              subst h1
              exact ⟨hp.1, hp.2.1, fun _ => hp.2.2, h2⟩
            · injection h with h1 h2
              subst h1
              exact ⟨hp.1, hp.2, fun hb => by simp_all, h2⟩
          obtain ⟨hpv, hpre, hflat, rfl⟩ := hpv
          have hargs : ∀ (j : Nat) x v, (evL (evA slots) cl.args.toList ++ capsOf caps)[j]? = some x → (cl.args.toList.map a.eval ++ us)[j]? = some v → AVC w F ρ own x v := by
            intro j x v hx hv
            have hlen : (evL (evA slots) cl.args.toList).length = (cl.args.toList.map a.eval).length := by simp [evL]
            by_cases hj : j < (cl.args.toList.map a.eval).length
            · rw [List.getElem?_append_left (by omega)] at hx
              rw [List.getElem?_append_left hj] at hv
              exact evL_ok H _ j x v hx hv
            · rw [List.getElem?_append_right (by omega), capsOf_get, hlen] at hx
              rw [List.getElem?_append_right (by omega)] at hv
              cases hc : caps[j - (cl.args.toList.map a.eval).length]? with
              | none => rw [hc] at hx; cases hx
              | some d =>
                rw [hc] at hx
                simp only [Option.map_some, Option.some.injEq] at hx
                subst hx
                exact hus _ d v hc hv
          obtain ⟨hl', hvs⟩ := views_ok H.mem hv hpv (vs := cl.args.toList.map a.eval ++ us) (by simp [evL, capsOf_len, hul]) hargs
          have hcall := hs w (viewF w F b) args' (cl.args.toList.map a.eval ++ us) x hx hpre (fun n hn => hn.elim (H.mem.fin n) (fun h => h.2))
            (by rw [hl']; simp [evL, capsOf_len, hul]) (fun j y v hy hv => hvs noRho deadOwn j y v hy hv)
          unfold Oper.wp
          have hrun : (execOp a.eval o).run P w = .ok (.enter f (cl.args.toList.map a.eval ++ us).toArray) w := by
            have hargs' : (cl.args.map a.eval) ++ us.toArray = (cl.args.toList.map a.eval ++ us).toArray := by
              apply Array.ext'; simp
            have hname' : ¬ fn.name = "runtime.NumGoroutine" := by simpa using hname
            have hbody' : ¬ fn.body = none := by intro h; rw [h] at hbody; cases hbody
            simp [execOp, ho, resolve, hcl, hge, Deferred.ofValue, invoke, callFunc, hfn, hargs']
            rw [if_neg hname', if_neg hbody']
          rw [hrun]
          refine hcall.mono fun e w' he => ?_
          obtain ⟨v, rfl, hbel, hret⟩ := he
          refine hK v w' hbel ?_
          have hdp : dpOf c f = con.dp := by unfold dpOf; rw [hcon]
          rw [hdp]
          cases b with
          | false =>
            have e : viewF w F false = F := by funext n; simp [viewF]
            rw [e] at hret
            exact hret
          | true =>
            have hf := hflat rfl
            unfold flatR at hf
            simp only [Bool.and_eq_true] at hf
            have plain : ∀ {r : RV}, (flat r.av && match r.row with | none => true | some R => R.k.base) = true → RetC w w' (viewF w F true) r v → RetC w w' F r v := by
              intro r hf hret
              simp only [Bool.and_eq_true] at hf
              unfold RetC at hret ⊢
              split at hret
              · rename_i hrow
                exact flat_any (fun z v h1 h2 => retCell_flat h1 h2) hf.1 hret
              · rename_i R hrow
                obtain ⟨s, vs, h1, h2, h3, h4⟩ := hret
                rw [hrow] at hf
                refine ⟨s, vs, h1, ⟨h2.1, fun i x hx => ?_⟩, h3, flat_any (fun z v h1 h2 => retCell_flat h1 h2) hf.1 h4⟩
                obtain ⟨us, u1, u2, u3⟩ := h2.2 i x hx
                refine ⟨us, u1, ?_, u3⟩
                obtain ⟨ty, nl, k, xs⟩ := R
                cases k with
                | b e => exact u2
                | s e => cases hf.2
            unfold RetX at hret ⊢
            generalize con.dp = dp at hf hret
            generalize con.res x = r at hf hret
            obtain ⟨av, row⟩ := r
            cases dp with
            | none =>
              refine plain ?_ hret
              simp only [hf.1, Bool.true_and]
              cases row with
              | none => rfl
              | some R => simpa using hf.2
            | some ety =>
              simp only at hret ⊢
              unfold RetD at hret ⊢
              cases row with
              | none => exact plain (by simp only [hf.1, Bool.true_and]) hret
              | some R =>
                obtain ⟨ty, nl, k, xs⟩ := R
                cases k with
                | b e => exact plain (by simp only [hf.1, Bool.true_and]; rfl) hret
                | s e =>
                  obtain ⟨s, inner, h1, h2, h3⟩ := hret
                  exact ⟨s, inner, h1, h2, flat_any (fun z v h1 h2 => retCell_flat h1 h2) hf.1 h3⟩
theorem call_ok (H : Here P c N F ρ own slots a w) {cl : Call} {g : Operand} (hcl : cl.callee = .value g) {f : FuncId} {caps : List D} (hg : evA slots g = .one (.d (.clo f caps))) {r : RV}
    (h : acall c own f (evL (evA slots) cl.args.toList ++ capsOf caps) = .ok p r) (hp : p) (ho : o.op = .call cl) {K : Act → World → Prop}
    (hK : ∀ v w', Below w.heap.size w w' → RetC w w' F r v → K (a.put o.dst v) w') : o.wp P a w K Q :=
  call_okX H hcl hg h hp ho fun v w' hb hr => hK v w' hb (retX_plain hr)

/-- The result where the new row is looked at as data. -/
theorem ret_data {w w' : World} {F : Nat → Prop} {r : RV} {v : Value} (h : RetC w w' F r v) (ρ : Nat → Value) (own : Nat → Loc) : AVC w' (fun b => F b ∨ (w.heap.size ≤ b ∧ b < w'.heap.size)) ρ own r.data v := by
  unfold RetC at h
  unfold RV.data
  split at h
  · rename_i hrow
    rw [hrow]
    refine AVG.imp (fun z v hz => ?_) h
    cases z with
    | d x => exact hz
    | own l ver => cases hz
    | ptr l ver i j => exact hz.elim
    | sub l ver off n => exact hz.elim
  · rename_i R hrow
    rw [hrow]
    obtain ⟨s, vs, h1, h2, h3, h4⟩ := h
    refine AVG.ren (fun z v hz => ?_) h4
    cases z with
    | d x => exact DC.mono (ext_sub fun b hb => hb.1) hz
    | own l ver =>
      injection hz with hz
      subst hz
      have hlt := fun b hb => h1.lt b (blk_own h1 hb)
      exact DC.sl h3 (row_data h1 h2 (fun b hb => hb.1) fun b hb => .inr (hlt b hb))
    | ptr l ver i j => exact hz.elim
    | sub l ver off n => exact hz.elim

theorem evL_cons {ev : Operand → AV} {l : List Operand} {y : AV} {ys : List AV} (h : evL ev l = y :: ys) : ∃ x xs, l = x :: xs ∧ ev x = y ∧ evL ev xs = ys := by
  cases l with
  | nil => simp [evL] at h
  | cons x xs =>
    simp only [evL, List.map_cons, List.cons.injEq] at h
    exact ⟨x, xs, rfl, h.1, h.2⟩

theorem evL_nil {ev : Operand → AV} {l : List Operand} (h : evL ev l = []) : l = [] := by
  cases l with
  | nil => rfl
  | cons x xs => simp [evL] at h

theorem arr_of_list {α : Type} {xs : Array α} {l : List α} (h : xs.toList = l) : xs = l.toArray := by cases xs; simpa using h

theorem s_call (H : Here P c N F ρ own slots a w) {cl : Call} (ho : o.op = .call cl) (h : aval c (evA slots) own (.call cl) = .ok p y) (hp : p) : Yield P o a w F ρ own y Q := by
  dsimp only [aval] at h
  split at h
  · rename_i hcl
    split at h
    · rename_i t ts hat
      split at h
      · rename_i sz z e k b zz hty
        have hu : P.underlying t = some (.slice e) := (H.cfg.ty _ _ hty).2.2.2.2.1
        have hat' : cl.argTypes[0]? = some t := by rw [arr_of_list hat]; rfl
        have fin : ∀ {x : Operand} {pa : Option Addr} {n cap : Nat}, cl.args.toList = [x] → a.eval x = .slice pa n cap → Yield P o a w F ρ own (.one (.d (.int .i64 n))) Q := by
          intro x pa n cap hx he
          refine Yield.pure (u := .int .i64 n) ?_ (DC.int _ _)
          simp [execOp, ho, resolve, hcl, invoke, builtin, Builtin.len_, hat', arr_of_list hx, run_und hu, he, goInt]
        split at h
        · rename_i nl k' xs hev
          injection h with e1 e2
          subst e2
          obtain ⟨x, r, hx, hxe, hr⟩ := evL_cons hev
          rw [evL_nil hr] at hx
          have hd : DC w F (.sl nl k' xs) (a.eval x) := H.ev' hxe
          generalize he : a.eval x = v at hd
          cases hd with
          | sl _ hs =>
            rcases hs with ⟨rfl, rfl⟩ | ⟨ad, cap, rfl, _⟩
            · exact fin hx he
            · exact fin hx he
        · rename_i hev
          injection h with e1 e2
          subst e2
          obtain ⟨x, r, hx, hxe, hr⟩ := evL_cons hev
          rw [evL_nil hr] at hx
          exact fin hx (H.nil hxe)
        · rename_i l ver hev
          split at h
          · rename_i ver' ty k' xs hl
            injection h with e1 e2
            subst e1; subst e2
            obtain ⟨x, r, hx, hxe, hr⟩ := evL_cons hev
            rw [evL_nil hr] at hx
            have hd : CellC w F ρ own (.own l ver) (a.eval x) := H.ev' hxe
            have he := hd.2.2 ⟨by rw [hl]; exact hp.symm, by rw [hl]; trivial⟩
            have hok := H.mem.ok l
            rw [hl] at hok
            obtain ⟨vs, hw, _⟩ := hok
            rcases hw.2 with ⟨hs, hn⟩ | ⟨g, cap, cur, hs, _⟩
            · rw [hs] at he
              rw [hn]
              exact fin hx he
            · rw [hs] at he
              exact fin hx he
          · rename_i ver' ty k' xs hl
            injection h with e1 e2
            subst e1; subst e2
            obtain ⟨x, r, hx, hxe, hr⟩ := evL_cons hev
            rw [evL_nil hr] at hx
            have hd : CellC w F ρ own (.own l ver) (a.eval x) := H.ev' hxe
            have he := hd.2.2 ⟨by rw [hl]; exact hp.symm, by rw [hl]; trivial⟩
            have hok := H.mem.ok l
            rw [hl] at hok
            obtain ⟨vs, ⟨g, off, cap, cur, hs, _⟩, _⟩ := hok
            rw [hs] at he
            exact fin hx he
          · rename_i ver' ty ety ee xs gg hl
            injection h with e1 e2
            subst e1; subst e2
            obtain ⟨x, r, hx, hxe, hr⟩ := evL_cons hev
            rw [evL_nil hr] at hx
            have hd : CellC w F ρ own (.own l ver) (a.eval x) := H.ev' hxe
            have he := hd.2.2 ⟨by rw [hl]; exact hp.symm, by rw [hl]; trivial⟩
            have hok := H.mem.ok l
            rw [hl] at hok
            obtain ⟨vs, hw, _⟩ := hok
            rcases hw.2 with ⟨hs, hn⟩ | ⟨g, cap, cur, hs, _⟩
            · rw [hs] at he
              rw [hn]
              exact fin hx he
            · rw [hs] at he
              exact fin hx he
          · cases h
        · rename_i l ver off m hev
          split at h
          · rename_i ver' ty k' xs hl
            injection h with e1 e2
            subst e1; subst e2
            obtain ⟨x, r, hx, hxe, hr⟩ := evL_cons hev
            rw [evL_nil hr] at hx
            have hd : CellC w F ρ own (.sub l ver off m) (a.eval x) := H.ev' hxe
            obtain ⟨b, cp, _, _, he⟩ := (hd.2.2 (by rw [hl]; exact hp.symm)).1 ty k' xs (by rw [hl])
            exact fin hx he
          · rename_i ver' ty ety ee xs gg hl
            injection h with e1 e2
            subst e1; subst e2
            obtain ⟨x, r, hx, hxe, hr⟩ := evL_cons hev
            rw [evL_nil hr] at hx
            have hd : CellC w F ρ own (.sub l ver off m) (a.eval x) := H.ev' hxe
            have hxx := getD_some (d := []) hp.2.1
            have he := (hd.2.2 (by rw [hl]; exact hp.1.symm)).2 ty ety ee xs gg _ (by rw [hl]) hxx hp.2.2
            have hok := H.mem.ok l
            rw [hl] at hok
            obtain ⟨vs, _, _, _, hin⟩ := hok
            obtain ⟨q1, ⟨us, hw, _⟩, q3⟩ := hin off _ hxx hp.2.2
            rcases hw.2 with ⟨hs, hn⟩ | ⟨g, cap, cur, hs, _⟩
            · rw [hs] at he
              rw [hn]
              exact fin hx he
            · rw [hs] at he
              exact fin hx he
          · cases h
        · cases h
      · cases h
    · cases h
  · rename_i hcl
    split at h
    · rename_i m n hev
      injection h with e1 e2
      subst e2
      obtain ⟨x1, r, hx, h1, hr⟩ := evL_cons hev
      obtain ⟨x2, r, rfl, h2, hr⟩ := evL_cons hr
      rw [evL_nil hr] at hx
      refine Yield.pure (u := .int .i64 (min m n)) ?_ (DC.int _ _)
      simp [execOp, ho, resolve, hcl, invoke, builtin, Builtin.min_, Builtin.min2, arr_of_list hx, H.int h1, H.int h2]
      omega
    · rename_i m n q hev
      injection h with e1 e2
      subst e2
      obtain ⟨x1, r, hx, h1, hr⟩ := evL_cons hev
      obtain ⟨x2, r, rfl, h2, hr⟩ := evL_cons hr
      obtain ⟨x3, r, rfl, h3, hr⟩ := evL_cons hr
      rw [evL_nil hr] at hx
      refine Yield.pure (u := .int .i64 (min (min m n) q)) ?_ (DC.int _ _)
      simp [execOp, ho, resolve, hcl, invoke, builtin, Builtin.min_, Builtin.min2, arr_of_list hx, H.int h1, H.int h2, H.int h3]
      split <;> split <;> omega
    · cases h
  · rename_i hcl
    split at h
    · rename_i m n hev
      injection h with e1 e2
      subst e2
      obtain ⟨x1, r, hx, h1, hr⟩ := evL_cons hev
      obtain ⟨x2, r, rfl, h2, hr⟩ := evL_cons hr
      rw [evL_nil hr] at hx
      refine Yield.pure (u := .int .i64 (max m n)) ?_ (DC.int _ _)
      simp [execOp, ho, resolve, hcl, invoke, builtin, Builtin.max_, Builtin.max2, arr_of_list hx, H.int h1, H.int h2]
      omega
    · rename_i m n q hev
      injection h with e1 e2
      subst e2
      obtain ⟨x1, r, hx, h1, hr⟩ := evL_cons hev
      obtain ⟨x2, r, rfl, h2, hr⟩ := evL_cons hr
      obtain ⟨x3, r, rfl, h3, hr⟩ := evL_cons hr
      rw [evL_nil hr] at hx
      refine Yield.pure (u := .int .i64 (max (max m n) q)) ?_ (DC.int _ _)
      simp [execOp, ho, resolve, hcl, invoke, builtin, Builtin.max_, Builtin.max2, arr_of_list hx, H.int h1, H.int h2, H.int h3]
      split <;> split <;> omega
    · cases h
  · rename_i g hcl
    split at h
    · rename_i f caps hg
      unfold VR.bind at h
      split at h
      · cases h
      · rename_i p' r hac
        injection h with e1 e2
        subst e1; subst e2
        refine call_ok H hcl hg hac hp.1 ho fun v w' hb hret => ⟨v, _, rfl, hb, fun b hb => .inl hb, fun b hb => hb, ret_data hret ρ own⟩
    · cases h
  · cases h

/-- EVERY QUIET OPERATION. -/
theorem s_val (H : Here P c N F ρ own slots a w) (h : aval c (evA slots) own o.op = .ok p y) (hp : p) : Yield P o a w F ρ own y Q := by
  generalize ho : o.op = op at h
  cases op with
  | move x => injection h with e1 e2; subst e2; exact s_move H (.inl ho)
  | assign x => injection h with e1 e2; subst e2; exact s_move H (.inr ho)
  | pick q x z => exact s_pick H ho h hp
  | box t x => exact s_box H ho h
  | load t x => exact s_load H ho h hp
  | fieldAddr s x f => exact s_fieldAddr H ho h hp
  | field s x f => exact s_field H ho h
  | indexAddr t x i => exact s_indexAddr H ho h hp
  | binOp op t x z t' => exact s_binOp H ho h hp
  | unOp op t x => exact s_unOp H ho h
  | convert s d x => exact s_convert H ho h
  | extract x i => exact s_extract H ho h
  | makeFunc fn f cs => exact s_makeFunc H ho h
  | build t ps => exact s_build H ho h
  | buildSlice t n ps => exact s_buildSlice H ho h
  | slice t x lo hi mx =>
    cases mx with
    | none => exact s_slice H ho h hp
    | some m => cases lo with
      | some l => cases hi <;> cases h
      | none => cases hi with
        | none => cases h
        | some i => exact s_sliceF H ho h hp
  | call cl => exact s_call H ho h hp
  | _ => cases h
end
end Go.Proofs.Ytfjmlaciogmndaa
