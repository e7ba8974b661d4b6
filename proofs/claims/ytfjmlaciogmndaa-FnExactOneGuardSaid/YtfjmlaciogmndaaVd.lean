/- The quiet operations are sound, the rest of them. -/
import Derived.Test.YtfjmlaciogmndaaVc
namespace Go.Proofs.Ytfjmlaciogmndaa
open Go.RowKit
section
variable {P : Program} {c : Cfg} {w : World} {N F : Nat → Prop} {ρ : Nat → Value} {own : Nat → Loc} {slots : Nat → AV} {a : Act} {Q : Exit → Act → World → Prop} {o : Oper} {p : Prop} {y : AV}

theorem s_field (H : Here P c N F ρ own slots a w) {s : TypeId} {x : Operand} {f : Nat} (ho : o.op = .field s x f) (h : aval c (evA slots) own (.field s x f) = .ok p y) : Yield P o a w F ρ own y Q := by
  dsimp only [aval] at h
  split at h
  · rename_i sz0 z0 fs e0 hty
    have hfs := (H.cfg.ty _ _ hty).2.2.2.2.1
    split at h
    · rename_i off sz ag cs hf hx
      obtain ⟨fields, fld, hu, hfl, hoff, hsz, hag, hisS⟩ := field_at hfs hf
      obtain ⟨vs, he, hc⟩ := H.ev' hx
      have hun : ∀ w, (Instr.field s (.agg vs.toArray) f).run P w = (part fld.type vs.toArray off).run P w := fun w => by
        simp only [Instr.field, Sem.run_bind, run_und hu, Result.andThen_ok, hfl, asAgg, Sem.run_pure, hoff]
      split at h
      · split at h
        · rename_i l hz htk
          injection h with e1 e2
          subst e2
          obtain ⟨h1, h2⟩ := takeC_ok htk
          subst h1
          have hz : sz ≠ 0 := by rintro rfl; cases hz
          refine Yield.pure (u := .agg ((vs.drop off).take sz).toArray) ?_ ⟨_, rfl, CellsC.take (CellsC.drop hc off) sz⟩
          have hex : vs.toArray.extract off (off + sz) = ((vs.drop off).take sz).toArray := by
            apply Array.ext'
            simp only [Array.toList_extract, List.extract_eq_take_drop, Nat.add_sub_cancel_left]
          have : (part fld.type vs.toArray off).run P w = .ok (.agg ((vs.drop off).take sz).toArray) w := by
            unfold part
            simp only [Sem.run_bind, run_isAgg hisS, Result.andThen_ok, hag, if_true, run_size (size_of_cellsOf hsz hz), Sem.run_pure, hex]
          simp [execOp, ho, he, hun, this]
        · cases h
      · split at h
        · rename_i z zs hd
          injection h with e1 e2
          subst e2
          have hc' := CellsC.drop hc off
          rw [hd] at hc'
          obtain ⟨v, vs', hv, h0, _⟩ := hc'.uncons
          have hv0 : vs.toArray[off]? = some v := by
            have : (vs.drop off)[0]? = some v := by rw [hv]; rfl
            rw [List.getElem?_drop] at this
            simpa using this
          refine Yield.pure (u := v) ?_ h0
          have : (part fld.type vs.toArray off).run P w = .ok v w := by
            unfold part
            simp only [Sem.run_bind, run_isAgg hisS, Result.andThen_ok, hag, hv0]
            rfl
          simp [execOp, ho, he, hun, this]
        · cases h
    · cases h
  · cases h

theorem s_indexAddr (H : Here P c N F ρ own slots a w) {t : TypeId} {x i : Operand} (ho : o.op = .indexAddr t x i) (h : aval c (evA slots) own (.indexAddr t x i) = .ok p y) (hp : p) : Yield P o a w F ρ own y Q := by
  dsimp only [aval] at h
  split at h
  · rename_i sz0 z0 e k b0 zz hty
    obtain ⟨hu, hel, _⟩ := (H.cfg.ty _ _ hty).2.2.2.2
    have hes : (P.info? e).map (·.size) = some k.size := by
      cases hi : P.info? e with
      | none => rw [hi] at hel; cases hel
      | some ie => rw [hi] at hel; simp only [Option.map_some, Option.some.injEq, Prod.mk.injEq] at hel ⊢; exact hel.1
    have run : ∀ (ad : Addr) (len cap : Nat) (ki : IntKind) (n : Int), 0 ≤ n → n < (len : Int) →
        (Instr.indexAt t (.slice (some ad) len cap) (.int ki n)).run P w = .ok (.pointer (some (ad.add (n.toNat * k.size)))) w := fun ad len cap ki n h0 h1 => by
      simp [Instr.indexAt, asIntOf, run_und hu, run_size hes, h0, h1]
    split at h
    · rename_i nl k' xs ki n hx hn
      split at h
      · rename_i hk
        have := ElK.beq_eq hk
        subst this
        injection h with e1 e2
        subst e1; subst e2
        obtain ⟨h0, h1⟩ := hp
        have hd : DC w F (.sl nl k xs) (a.eval x) := H.ev' hx
        generalize he : a.eval x = v at hd
        cases hd with
        | sl _ hs =>
          rcases hs with ⟨_, rfl⟩ | ⟨ad, cap, rfl, hc, hF, hcell⟩
          · simp at h1; omega
          · have hlt : n.toNat < xs.length := by omega
            obtain ⟨us, hul, hel', hus⟩ := hcell _ _ (getD_some (d := k.dflt) hlt)
            refine Yield.pure (u := .pointer (some (ad.add (n.toNat * k.size)))) (by simp [execOp, ho, he, H.int hn, run ad _ cap ki n h0 h1]) ?_
            obtain ⟨hl, hc'⟩ := DC.ofCells (elem_enc (ρ := ρ) (own := own) hel')
            refine DC.ptr _ us hl (by rw [block_add]; exact hF.resolve_left (fun e => by rw [e] at hlt; simp at hlt)) (fun j u hj => ?_) hc'
            rw [add_add']
            exact hus j u hj
      · cases h
    · rename_i l ver ki n hx hn
      have hd : CellC w F ρ own (.own l ver) (a.eval x) := H.ev' hx
      have hok := H.mem.ok l
      split at h
      · rename_i ver' ty k' xs hl
        split at h
        · rename_i hk
          have := ElK.beq_eq hk
          subst this
          injection h with e1 e2
          subst e1; subst e2
          obtain ⟨hv, h0, h1⟩ := hp
          have he := hd.2.2 ⟨by rw [hl]; exact hv.symm, by rw [hl]; trivial⟩
          rw [hl] at hok
          obtain ⟨vs, hw, hrow, _⟩ := hok
          rcases hw.2 with ⟨_, hn0⟩ | ⟨g, cap, cur, hρ, _⟩
          · rw [hn0] at h1; simp at h1; omega
          · rw [hρ] at he
            have := run ⟨g, 0, none⟩ xs.length cap ki n h0 h1
            rw [add_lit', Nat.zero_add] at this
            refine Yield.pure (u := .pointer (some ⟨g, n.toNat * k.size, none⟩)) (by simp [execOp, ho, he, H.int hn, this]) ?_
            refine ⟨rfl, hd.2.1, fun _ => ?_⟩
            simp only [hl]
            exact ⟨g, by rw [hρ]; rfl, by rw [Nat.add_zero]⟩
        · cases h
      · rename_i ver' ty k' xs hl
        split at h
        · rename_i hk
          have := ElK.beq_eq hk
          subst this
          injection h with e1 e2
          subst e1; subst e2
          obtain ⟨hv, h0, h1⟩ := hp
          have he := hd.2.2 ⟨by rw [hl]; exact hv.symm, by rw [hl]; trivial⟩
          rw [hl] at hok
          obtain ⟨vs, ⟨g, off, cap, cur, hρ, _⟩, _⟩ := hok
          rw [hρ] at he
          have := run ⟨g, off, none⟩ xs.length cap ki n h0 h1
          rw [add_lit'] at this
          refine Yield.pure (u := .pointer (some ⟨g, off + n.toNat * k.size, none⟩)) (by simp [execOp, ho, he, H.int hn, this]) ?_
          refine ⟨rfl, hd.2.1, fun _ => ?_⟩
          simp only [hl]
          exact ⟨g, off, _, _, hρ, by rw [Nat.add_zero]⟩
        · cases h
      · rename_i ver' ty ety ee xs gg hl
        split at h
        · rename_i hk
          have hk := ElK.beq_eq hk
          subst hk
          injection h with e1 e2
          subst e1; subst e2
          obtain ⟨hv, h0, h1⟩ := hp
          have he := hd.2.2 ⟨by rw [hl]; exact hv.symm, by rw [hl]; trivial⟩
          rw [hl] at hok
          obtain ⟨vs, hw, _⟩ := hok
          rcases hw.2 with ⟨_, hn0⟩ | ⟨g, cap, cur, hρ, _⟩
          · rw [hn0] at h1; simp at h1; omega
          · rw [hρ] at he
            have := run ⟨g, 0, none⟩ xs.length cap ki n h0 h1
            rw [add_lit', Nat.zero_add] at this
            refine Yield.pure (u := .pointer (some ⟨g, n.toNat * 1, none⟩)) (by simp [execOp, ho, he, H.int hn, this]) ?_
            refine ⟨rfl, hd.2.1, fun _ => ?_⟩
            simp only [hl]
            exact ⟨g, by rw [hρ]; rfl, by rw [Nat.mul_one]⟩
        · cases h
      · cases h
    · rename_i l ver off m ki n hx hn
      have hd : CellC w F ρ own (.sub l ver off m) (a.eval x) := H.ev' hx
      split at h
      · rename_i ver' ty k' xs hl
        split at h
        · rename_i hk
          have := ElK.beq_eq hk
          subst this
          injection h with e1 e2
          subst e1; subst e2
          obtain ⟨hv, ⟨h0, h1⟩, hle⟩ := hp
          obtain ⟨b, cp, hb, _, he⟩ := (hd.2.2 (by rw [hl]; exact hv.symm)).1 ty k xs (by rw [hl])
          have := run ⟨b, off * k.size, none⟩ m cp ki n h0 h1
          rw [add_lit'] at this
          refine Yield.pure (u := .pointer (some ⟨b, off * k.size + n.toNat * k.size, none⟩)) (by simp [execOp, ho, he, H.int hn, this]) ?_
          refine ⟨rfl, hd.2.1, fun _ => ?_⟩
          simp only [hl]
          exact ⟨b, hb, by rw [Nat.add_zero, Nat.add_mul]⟩
        · cases h
      · rename_i ver' ty ety ee xs gg hl
        split at h
        · rename_i hk hee
          have hk := ElK.beq_eq hk
          have hee := ElB.beq_eq hee
          subst hk; subst hee
          injection h with e1 e2
          subst e1; subst e2
          obtain ⟨hv, ⟨hoff, hg⟩, h0, h1⟩ := hp
          have hx := getD_some (d := []) hoff
          have he := (hd.2.2 (by rw [hl]; exact hv.symm)).2 ty ety _ xs gg _ (by rw [hl]) hx hg
          have hok := H.mem.ok l
          rw [hl] at hok
          obtain ⟨vs, hw, _, _, hin⟩ := hok
          obtain ⟨q1, ⟨us, hu, hr⟩, q3⟩ := hin off _ hx hg
          rcases hu.2 with ⟨_, hn0⟩ | ⟨g, cap, cur, hρ, _⟩
          · rw [hn0] at h1; simp at h1; omega
          · rw [hρ] at he
            have := run ⟨g, 0, none⟩ _ cap ki n h0 h1
            rw [add_lit', Nat.zero_add] at this
            generalize (xs.getD off []).length = L at he this
            refine Yield.pure (u := .pointer (some ⟨g, n.toNat * 1, none⟩)) (by simp [execOp, ho, he, H.int hn, this]) ?_
            refine ⟨rfl, hd.2.1, fun _ => ?_⟩
            simp only [hl]
            exact fun x _ _ => ⟨g, by rw [hρ]; rfl, by rw [Nat.mul_one]⟩
        · cases h
      · cases h
    · cases h
  · cases h

theorem run_sliceB (t e : TypeId) (hu : P.underlying t = some (.slice e)) (sz : Nat) (hes : (P.info? e).map (·.size) = some sz) (pa : Option Addr) (len cap : Nat) (hlc : len ≤ cap) (lo hi : Option Value) (l h : Int)
    (hlo : (lo = none ∧ l = 0) ∨ ∃ k, lo = some (.int k l)) (hhi : (hi = none ∧ h = len) ∨ ∃ k, hi = some (.int k h)) (h0 : 0 ≤ l) (h1 : l ≤ h) (h2 : h ≤ len) (w : World) :
    (Instr.sliceAt t (.slice pa len cap) lo hi none).run P w = .ok (.slice (if cap = l.toNat then pa else pa.map (·.add (l.toNat * sz))) (h.toNat - l.toNat) (cap - l.toNat)) w := by
  have hb : ∀ (x : Int) (k : IntKind) (y : Nat) (cd : BoundsCode) (w : World), 0 ≤ x → x ≤ y → (Instr.sliceBound (.int k x) y cd).run P w = .ok x.toNat w := fun x k y cd w a b => by
    simp [Instr.sliceBound, asIntOf, a, b]
  have hh : h ≤ (cap : Int) := by omega
  have hl2 : l ≤ (h.toNat : Int) := by omega
  rcases hlo with ⟨rfl, rfl⟩ | ⟨k1, rfl⟩ <;> rcases hhi with ⟨rfl, rfl⟩ | ⟨k2, rfl⟩
  · simp [Instr.sliceAt, run_und hu, Instr.slice, Instr.sliceBounds, run_size hes]
  · simp [Instr.sliceAt, run_und hu, Instr.slice, Instr.sliceBounds, run_size hes, hb h k2 _ _ _ (by omega) hh]
  · simp [Instr.sliceAt, run_und hu, Instr.slice, Instr.sliceBounds, run_size hes, hb l k1 _ _ _ h0 h1]
  · simp [Instr.sliceAt, run_und hu, Instr.slice, Instr.sliceBounds, run_size hes, hb h k2 _ _ _ (by omega) hh, hb l k1 _ _ _ h0 hl2]

theorem asSl_ok {x : AV} {nl : Option Bool} {k : ElK} {xs : List k.T} (h : asSl x = some (nl, ⟨k, xs⟩)) : x = .one (.d (.sl nl k xs)) := by
  unfold asSl at h
  split at h
  · injection h with h
    simp only [Prod.mk.injEq, Sigma.mk.injEq] at h
    obtain ⟨rfl, rfl, h⟩ := h
    rw [eq_of_heq h]
  · cases h

theorem boundI_ok (H : Here P c N F ρ own slots a w) {lo : Option Operand} {d l : Int} (h : boundI (lo.map (evA slots)) d = some l) : (lo.map a.eval = none ∧ l = d) ∨ ∃ k, lo.map a.eval = some (.int k l) := by
  cases lo with
  | none => simp only [Option.map_none, boundI, Option.some.injEq] at h; exact .inl ⟨rfl, h.symm⟩
  | some x =>
    simp only [Option.map_some] at h ⊢
    unfold boundI at h
    split at h
    · cases ‹some _ = none›
    · rename_i k n hx
      injection h with h; injection hx with hx
      subst h
      exact .inr ⟨k, by rw [H.int hx]⟩
    · cases h

theorem s_slice (H : Here P c N F ρ own slots a w) {t : TypeId} {x : Operand} {lo hi : Option Operand} (ho : o.op = .slice t x lo hi none) (h : aval c (evA slots) own (.slice t x lo hi none) = .ok p y) (hp : p) : Yield P o a w F ρ own y Q := by
  dsimp only [aval] at h
  split at h
  · rename_i sz0 z0 e k' b0 zz nl k xs hty hx
    have hx := asSl_ok hx
    obtain ⟨hu, hel, _⟩ := (H.cfg.ty _ _ hty).2.2.2.2
    have hes : (P.info? e).map (·.size) = some k'.size := by
      cases hi : P.info? e with
      | none => rw [hi] at hel; cases hel
      | some ie => rw [hi] at hel; simp only [Option.map_some, Option.some.injEq, Prod.mk.injEq] at hel ⊢; exact hel.1
    split at h
    · rename_i l hh hk hlo hhi
      have := ElK.beq_eq hk
      subst this
      injection h with e1 e2
      subst e1; subst e2
      obtain ⟨h0, h1, h2⟩ := hp
      have hd : DC w F (.sl nl k' xs) (a.eval x) := H.ev' hx
      have hlo := boundI_ok H hlo
      have hhi := boundI_ok H hhi
      generalize he : a.eval x = v at hd
      cases hd with
      | sl hn hs =>
        rcases hs with ⟨rfl, rfl⟩ | ⟨ad, cap, rfl, hc, hF, hcell⟩
        · have hr := run_sliceB t e hu _ hes none 0 0 (Nat.le_refl _) _ _ l hh hlo hhi h0 h1 h2 w
          have hh0 : hh = 0 := by simp at h2; omega
          have hl0 : l = 0 := by omega
          subst hh0; subst hl0
          refine Yield.pure (u := .slice none 0 0) (by simp [execOp, ho, he, hr]) (DC.sl hn (.inl ⟨rfl, by simp⟩))
        · have hr := run_sliceB t e hu _ hes (some ad) xs.length cap hc _ _ l hh hlo hhi h0 h1 h2 w
          refine Yield.pure (u := .slice (if cap = l.toNat then some ad else (some ad).map (·.add (l.toNat * k'.size))) (hh.toNat - l.toNat) (cap - l.toNat)) (by simp [execOp, ho, he, hr]) (DC.sl (fun b hb => ?_) ?_)
          · have := hn b hb
            constructor
            · intro hb'; exact absurd (this.1 hb') (by simp)
            · intro hb'
              exfalso
              revert hb'
              split <;> simp
          · have hlen : ((xs.take hh.toNat).drop l.toNat).length = hh.toNat - l.toNat := by
              rw [List.length_drop, List.length_take]; omega
            refine .inr ⟨if cap = l.toNat then ad else ad.add (l.toNat * k'.size), cap - l.toNat, ?_, by rw [hlen]; omega, ?_, fun i z hz => ?_⟩
            · rw [hlen]
              split <;> rfl
            · rcases hF with e | hF
              · exact .inl (by rw [e]; simp)
              · refine .inr ?_
                split
                · exact hF
                · rw [block_add]; exact hF
            · rw [List.getElem?_drop, List.getElem?_take] at hz
              split at hz
              · rename_i hi
                obtain ⟨us, hul, hel', hus⟩ := hcell _ _ hz
                refine ⟨us, hul, hel', fun j u hj => ?_⟩
                have hlt := (List.getElem?_eq_some_iff.1 hz).1
                rw [if_neg (by omega), add_add']
                have := hus j u hj
                rw [show l.toNat * k'.size + (i * k'.size + j) = (l.toNat + i) * k'.size + j by rw [Nat.add_mul]; omega]
                exact this
              · cases hz
    · cases h
  · rename_i sz0 z0 e k' b0 zz hty hno
    obtain ⟨hu, hel, _⟩ := (H.cfg.ty _ _ hty).2.2.2.2
    have hes : (P.info? e).map (·.size) = some k'.size := by
      cases hi : P.info? e with
      | none => rw [hi] at hel; cases hel
      | some ie => rw [hi] at hel; simp only [Option.map_some, Option.some.injEq, Prod.mk.injEq] at hel ⊢; exact hel.1
    split at h
    · rename_i l ver hx
      have hd : CellC w F ρ own (.own l ver) (a.eval x) := H.ev' hx
      have hok := H.mem.ok l
      split at h
      · rename_i ver' ty k xs hl
        split at h
        · rename_i lo' hi' hk hlo hhi
          have := ElK.beq_eq hk
          subst this
          injection h with e1 e2
          subst e1; subst e2
          obtain ⟨hv, h0, h1, h2⟩ := hp
          have he := hd.2.2 ⟨by rw [hl]; exact hv.symm, by rw [hl]; trivial⟩
          have hlo := boundI_ok H hlo
          have hhi := boundI_ok H hhi
          rw [hl] at hok
          obtain ⟨vs, hw, hrow, _⟩ := hok
          rcases hw.2 with ⟨_, hn0⟩ | ⟨g, cap, cur, hρ, hbase, hh, hcap, _⟩
          · rw [hn0] at h2; simp at h2; omega
          · rw [hρ] at he
            have hr := run_sliceB t e hu _ hes (some ⟨g, 0, none⟩) xs.length cap hcap _ _ lo' hi' hlo hhi h0 (by omega) h2 w
            have e3 : (if cap = lo'.toNat then some (⟨g, 0, none⟩ : Addr) else (some (⟨g, 0, none⟩ : Addr)).map (·.add (lo'.toNat * k'.size))) = some ⟨g, lo'.toNat * k'.size, none⟩ := by
              rw [if_neg (by omega)]
              simp [add_lit']
            rw [e3] at hr
            refine Yield.pure (u := .slice (some ⟨g, lo'.toNat * k'.size, none⟩) (hi'.toNat - lo'.toNat) (cap - lo'.toNat)) (by simp [execOp, ho, he, hr]) ?_
            refine ⟨rfl, hd.2.1, fun _ => ⟨fun ty' k xs' hob => ?_, fun _ _ _ _ _ _ hob => by rw [hl] at hob; cases hob⟩⟩
            rw [hl] at hob
            cases hob
            exact ⟨g, _, by rw [hρ]; rfl, by omega, rfl⟩
        · cases h
      · cases h
    · cases h
  · cases h

theorem run_sliceF (t e : TypeId) (hu : P.underlying t = some (.slice e)) (sz : Nat) (hes : (P.info? e).map (·.size) = some sz) (pa : Option Addr) (len cap : Nat) (hlc : len ≤ cap) (kh km : IntKind) (h : Int) (h0 : 0 ≤ h) (h2 : h ≤ len) (w : World) :
    (Instr.sliceAt t (.slice pa len cap) none (some (.int kh h)) (some (.int km h))).run P w = .ok (.slice (if h.toNat = 0 then pa else pa.map (·.add (0 * sz))) h.toNat h.toNat) w := by
  have hb : ∀ (x : Int) (k : IntKind) (y : Nat) (cd : BoundsCode) (w : World), 0 ≤ x → x ≤ y → (Instr.sliceBound (.int k x) y cd).run P w = .ok x.toNat w := fun x k y cd w a b => by
    simp [Instr.sliceBound, asIntOf, a, b]
  have hh : h ≤ (cap : Int) := by omega
  have hh2 : h ≤ (h.toNat : Int) := by omega
  simp [Instr.sliceAt, run_und hu, Instr.slice, Instr.sliceBounds, run_size hes, hb h km _ _ _ h0 hh, hb h kh _ _ _ h0 hh2]
theorem s_sliceF (H : Here P c N F ρ own slots a w) {t : TypeId} {x hi mx : Operand} (ho : o.op = .slice t x none (some hi) (some mx)) (h : aval c (evA slots) own (.slice t x none (some hi) (some mx)) = .ok p y) (hp : p) : Yield P o a w F ρ own y Q := by
  dsimp only [aval] at h
  split at h
  · rename_i sz0 z0 e k' b0 zz nl k xs kh hh km m hty hx hhi hmx
    have hx := asSl_ok hx
    obtain ⟨hu, hel, _⟩ := (H.cfg.ty _ _ hty).2.2.2.2
    have hes : (P.info? e).map (·.size) = some k'.size := by
      cases hi : P.info? e with
      | none => rw [hi] at hel; cases hel
      | some ie => rw [hi] at hel; simp only [Option.map_some, Option.some.injEq, Prod.mk.injEq] at hel ⊢; exact hel.1
    split at h
    · rename_i hk
      have := ElK.beq_eq hk
      subst this
      injection h with e1 e2
      subst e1; subst e2
      obtain ⟨⟨h0, h1⟩, rfl⟩ := hp
      have hd : DC w F (.sl nl k' xs) (a.eval x) := H.ev' hx
      generalize he : a.eval x = v at hd
      cases hd with
      | sl hn hs =>
        rcases hs with ⟨rfl, rfl⟩ | ⟨ad, cap, rfl, hc, hF, hcell⟩
        · have hh0 : m = 0 := by simp at h1; omega
          subst hh0
          have hr := run_sliceF t e hu _ hes none 0 0 (Nat.le_refl _) kh km 0 (by omega) (by omega) w
          refine Yield.pure (u := .slice none 0 0) (by simp [execOp, ho, he, H.int hhi, H.int hmx, hr]) (DC.full (.inl ⟨rfl, by simp⟩) ⟨none, 0, rfl⟩)
        · have hr := run_sliceF t e hu _ hes (some ad) xs.length cap hc kh km m h0 h1 w
          have e3 : (if m.toNat = 0 then some ad else (some ad).map (·.add (0 * k'.size))) = some ad := by
            split
            · rfl
            · simp [Addr.add]
          rw [e3] at hr
          have hlen : (xs.take m.toNat).length = m.toNat := by rw [List.length_take]; omega
          refine Yield.pure (u := .slice (some ad) m.toNat m.toNat) (by simp [execOp, ho, he, H.int hhi, H.int hmx, hr]) (DC.full (.inr ⟨ad, m.toNat, by rw [hlen], by omega, ?_, fun i z hz => ?_⟩) ⟨_, _, rfl⟩)
          · rcases hF with e | hF
            · exact .inl (by rw [e]; simp)
            · exact .inr hF
          · rw [List.getElem?_take] at hz
            split at hz
            · exact hcell _ _ hz
            · cases hz
    · cases h
  · cases h

/-! ### struct and slice literals -/
def putV : List Value → Nat → List Value → List Value
  | vs, 0, [] => vs
  | _ :: vs, 0, x :: xs => x :: putV vs 0 xs
  | [], _, _ => []
  | v :: vs, n + 1, xs => v :: putV vs n xs

theorem putV_get : ∀ (vs : List Value) (n : Nat) (xs : List Value), n + xs.length ≤ vs.length → (putV vs n xs).length = vs.length ∧
    ∀ j, (putV vs n xs)[j]? = if n ≤ j ∧ j < n + xs.length then xs[j - n]? else vs[j]?
  | vs, 0, [], _ => by
    refine ⟨by cases vs <;> simp [putV], fun j => ?_⟩
    rw [if_neg (by simp)]
    cases vs <;> simp [putV]
  | v :: vs, 0, x :: xs, h => by
    obtain ⟨h1, h2⟩ := putV_get vs 0 xs (by simpa using h)
    refine ⟨by simp [putV, h1], fun j => ?_⟩
    cases j with
    | zero => simp [putV]
    | succ j =>
      simp only [putV, List.getElem?_cons_succ, h2]
      by_cases hj : j < xs.length
      · rw [if_pos (by omega), if_pos (by simp; omega)]; simp
      · rw [if_neg (by omega), if_neg (by simp; omega)]
  | [], 0, _ :: _, h => by simp at h
  | [], n + 1, xs, h => by simp at h
  | v :: vs, n + 1, xs, h => by
    obtain ⟨h1, h2⟩ := putV_get vs n xs (by simp at h; omega)
    refine ⟨by cases xs <;> simp [putV, h1], fun j => ?_⟩
    cases j with
    | zero => cases xs <;> simp [putV]
    | succ j =>
      have : putV (v :: vs) (n + 1) xs = v :: putV vs n xs := by cases xs <;> rfl
      rw [this]
      simp only [List.getElem?_cons_succ, h2]
      by_cases hj : n ≤ j ∧ j < n + xs.length
      · rw [if_pos hj, if_pos (by omega)]; congr 1; omega
      · rw [if_neg hj, if_neg (by omega)]

theorem putC_get : ∀ (vs : List Cell) (n : Nat) (xs : List Cell), n + xs.length ≤ vs.length → (putCells vs n xs).length = vs.length ∧
    ∀ j, (putCells vs n xs)[j]? = if n ≤ j ∧ j < n + xs.length then xs[j - n]? else vs[j]?
  | vs, 0, [], _ => by
    refine ⟨by cases vs <;> simp [putCells], fun j => ?_⟩
    rw [if_neg (by simp)]
    cases vs <;> simp [putCells]
  | v :: vs, 0, x :: xs, h => by
    obtain ⟨h1, h2⟩ := putC_get vs 0 xs (by simpa using h)
    refine ⟨by simp [putCells, h1], fun j => ?_⟩
    cases j with
    | zero => simp [putCells]
    | succ j =>
      simp only [putCells, List.getElem?_cons_succ, h2]
      by_cases hj : j < xs.length
      · rw [if_pos (by omega), if_pos (by simp; omega)]; simp
      · rw [if_neg (by omega), if_neg (by simp; omega)]
  | [], 0, _ :: _, h => by simp at h
  | [], n + 1, xs, h => by simp at h
  | v :: vs, n + 1, xs, h => by
    obtain ⟨h1, h2⟩ := putC_get vs n xs (by simp at h; omega)
    refine ⟨by cases xs <;> simp [putCells, h1], fun j => ?_⟩
    cases j with
    | zero => cases xs <;> simp [putCells]
    | succ j =>
      have : putCells (v :: vs) (n + 1) xs = v :: putCells vs n xs := by cases xs <;> rfl
      rw [this]
      simp only [List.getElem?_cons_succ, h2]
      by_cases hj : n ≤ j ∧ j < n + xs.length
      · rw [if_pos hj, if_pos (by omega)]; congr 1; omega
      · rw [if_neg hj, if_neg (by omega)]

theorem CellsC.put {cs xs : List Cell} {vs us : List Value} {n : Nat} (h : CellsC w F ρ own cs vs) (hx : CellsC w F ρ own xs us) (hn : n + xs.length ≤ cs.length) :
    CellsC w F ρ own (putCells cs n xs) (putV vs n us) := by
  have hl := h.1
  have hl' := hx.1
  obtain ⟨c1, c2⟩ := putC_get cs n xs hn
  obtain ⟨v1, v2⟩ := putV_get vs n us (by omega)
  refine ⟨by rw [c1, v1, hl], fun j c v hc hv => ?_⟩
  rw [c2] at hc
  rw [v2] at hv
  by_cases hj : n ≤ j ∧ j < n + xs.length
  · rw [if_pos hj] at hc
    rw [if_pos (by omega)] at hv
    exact hx.2 _ c v hc hv
  · rw [if_neg hj] at hc
    rw [if_neg (by omega)] at hv
    exact h.2 j c v hc hv

/-- The model's own store of one part. -/
theorem foldl_set (xs : List Value) : ∀ (n k : Nat) (cells : Array Value), ((xs.zipIdx k).foldl (fun cs (p : Value × Nat) => cs.setIfInBounds (n + p.2) p.1) cells).size = cells.size ∧
    ∀ j, ((xs.zipIdx k).foldl (fun cs (p : Value × Nat) => cs.setIfInBounds (n + p.2) p.1) cells)[j]? = if n + k ≤ j ∧ j < n + k + xs.length ∧ j < cells.size then xs[j - (n + k)]? else cells[j]? := by
  induction xs with
  | nil => intro n k cells; simp; intros; omega
  | cons x xs ih =>
    intro n k cells
    simp only [List.zipIdx_cons, List.foldl_cons]
    obtain ⟨h1, h2⟩ := ih n (k + 1) (cells.setIfInBounds (n + k) x)
    refine ⟨by rw [h1]; simp, fun j => ?_⟩
    rw [h2]
    simp only [Array.size_setIfInBounds, List.length_cons]
    by_cases hj : n + (k + 1) ≤ j ∧ j < n + (k + 1) + xs.length ∧ j < cells.size
    · rw [if_pos hj, if_pos (by omega)]
      rw [show j - (n + k) = (j - (n + (k + 1))) + 1 by omega]
      simp
    · rw [if_neg hj]
      by_cases he : j = n + k
      · subst he
        by_cases hs : n + k < cells.size
        · rw [if_pos (by omega)]
          simp [hs]
        · rw [if_neg (by omega)]
          rw [Array.getElem?_eq_none (by simpa using hs), Array.getElem?_eq_none (by simpa using hs)]
      · rw [if_neg (by omega), Array.getElem?_setIfInBounds_ne (by omega)]

theorem fold_put (u : Value) (n : Nat) (cells : Array Value) (h : n + u.cells.size ≤ cells.size) :
    (u.cells.zipIdx.foldl (fun cs (p : Value × Nat) => cs.setIfInBounds (n + p.2) p.1) cells).toList = putV cells.toList n u.cells.toList := by
  have e : u.cells.zipIdx = (u.cells.toList.zipIdx 0).toArray := by
    apply Array.ext'; simp
  rw [e, List.foldl_toArray]
  obtain ⟨h1, h2⟩ := foldl_set u.cells.toList n 0 cells
  obtain ⟨v1, v2⟩ := putV_get cells.toList n u.cells.toList (by simpa using h)
  apply List.ext_getElem?
  intro j
  rw [v2, Array.getElem?_toList, h2]
  simp only [Nat.add_zero, Array.length_toList]
  by_cases hj : n ≤ j ∧ j < n + u.cells.size
  · rw [if_pos (by omega), if_pos hj]
  · rw [if_neg (by omega), if_neg hj]; simp

/-- Parts of a literal, as the abstract run and the model see them. -/
theorem fill_ok (H : Here P c N F ρ own slots a w) {place : Nat → Option (Nat × Nat)} {fs : List (Nat × Nat × Bool)} (hpl : ∀ i : Nat, place i = fs[i]?.map fun x => (x.1, x.2.1)) :
    ∀ (parts : List (Nat × Operand)) (cs cs' : List Cell) (vs : Array Value), CellsC w F ρ own cs vs.toList → fillA fs (parts.map fun p => (p.1, evA slots p.2)) cs = some cs' →
      ∃ vs' : Array Value, Instr.fill place vs (parts.map fun p => (p.1, a.eval p.2)) = some vs' ∧ CellsC w F ρ own cs' vs'.toList
  | [], cs, cs', vs, hc, h => by
    simp only [List.map_nil, fillA, Option.some.injEq] at h
    subst h
    exact ⟨vs, rfl, hc⟩
  | (i, x) :: r, cs, cs', vs, hc, h => by
    simp only [List.map_cons] at h ⊢
    unfold fillA at h
    split at h
    · rename_i off sz ag xs hf hxs
      split at h
      · rename_i hb
        simp only [Bool.and_eq_true] at hb
        have hsz : xs.length = sz := Nat.eq_of_beq_eq_true hb.1
        have hle : off + sz ≤ cs.length := Nat.le_of_ble_eq_true hb.2
        have hx := cells_ok hxs (H.ev x)
        have hxl : (a.eval x).cells.size = sz := by have := hx.1; rw [Array.length_toList] at this; omega
        have hvl : vs.size = cs.length := by have := hc.1; rwa [Array.length_toList] at this
        have hp := CellsC.put hc hx (n := off) (by omega)
        rw [← fold_put (a.eval x) off vs (by omega)] at hp
        obtain ⟨vs', h1, h2⟩ := fill_ok H hpl r _ cs' _ hp h
        refine ⟨vs', ?_, h2⟩
        have hpi : place i = some (off, sz) := by rw [hpl, hf]; rfl
        unfold Instr.fill
        simp only [hpi, hxl]
        rw [if_neg (by simp; omega)]
        exact h1
      · cases h
    · cases h

theorem zero_ok {t : TypeId} {z : List ZK} (h : zeroB P t = some (z.map ZK.v)) : ∃ zv, (∀ w, (zeroValue t).run P w = .ok zv w) ∧ zv.cells.toList = z.map ZK.v := by
  unfold zeroB at h
  cases hi : P.info? t with
  | none => rw [hi] at h; cases h
  | some i =>
    rw [hi] at h
    simp only [Option.bind_some] at h
    cases hz : i.zero with
    | none => rw [hz] at h; cases h
    | some zv =>
      rw [hz] at h
      simp only [Option.map_some, Option.some.injEq] at h
      refine ⟨zv, fun w => ?_, h⟩
      simp [zeroValue, typeInfo, hi, hz]

theorem zk_ok (z : List ZK) : CellsC w F ρ own (z.map ZK.c) (z.map ZK.v) := by
  induction z with
  | nil => exact CellsC.nil
  | cons k z ih => exact CellsC.cons (by cases k <;> first | exact DC.int _ _ | exact DC.bool _ | exact DC.nil) ih

theorem run_places (w : World) : ∀ (l : List Field), (∀ f ∈ l, (P.underlying f.type).isSome = true) → (l.mapM fun f => (do pure (f.offset, ← sizeOf f.type) : Sem (Nat × Nat))).run P w = .ok (l.map fun f => (f.offset, P.cellsOf f.type)) w
  | [], _ => by simp
  | f :: l, h => by
    have hs : (sizeOf f.type).run P w = .ok (P.cellsOf f.type) w := by
      have := h f (by simp)
      unfold Program.underlying at this
      unfold Program.cellsOf
      cases hi : P.info? f.type with
      | none => rw [hi] at this; cases this
      | some i => simp [sizeOf, typeInfo, hi]
    have ih := run_places w l (fun g hg => h g (by simp [hg]))
    simp only [List.mapM_cons, Sem.run_bind, hs, Result.andThen_ok, Sem.run_pure, ih, List.map_cons]

theorem s_build (H : Here P c N F ρ own slots a w) {t : TypeId} {parts : Array (Nat × Operand)} (ho : o.op = .build t parts) (h : aval c (evA slots) own (.build t parts) = .ok p y) : Yield P o a w F ρ own y Q := by
  dsimp only [aval] at h
  split at h
  · rename_i sz z fs eqp hty
    have hti := H.cfg.ty _ _ hty
    obtain ⟨fields, hu, hfs, hall⟩ := fields_run hti.2.2.2.2.1
    obtain ⟨zv, hz, hzc⟩ := zero_ok hti.2.1
    split at h
    · rename_i cs hfill
      injection h with e1 e2
      subst e2
      have h0 : CellsC w F ρ own (z.map ZK.c) zv.cells.toList := by rw [hzc]; exact zk_ok z
      have hpl : ∀ i : Nat, ((fields.toList.map fun f => (f.offset, P.cellsOf f.type)).toArray[i]?) = fs[i]?.map fun x => (x.1, x.2.1) := fun i => by
        rw [hfs]; simp; rfl
      obtain ⟨vs', h1, h2⟩ := fill_ok H (place := fun i => (fields.toList.map fun f => (f.offset, P.cellsOf f.type)).toArray[i]?) hpl parts.toList _ cs zv.cells h0 hfill
      refine Yield.pure (u := .agg vs') ?_ ⟨vs'.toList, by simp, h2⟩
      have hr : (Instr.build t (parts.map fun (i, x) => (i, a.eval x))).run P w = .ok (.agg vs') w := by
        unfold Instr.build
        simp only [Sem.run_bind, hz, Result.andThen_ok, run_und hu, Array.mapM_eq_mapM_toList, Sem.run_map, run_places w fields.toList hall]
        have : (parts.map fun (x : Nat × Operand) => (x.1, a.eval x.2)).toList = parts.toList.map fun p => (p.1, a.eval p.2) := by simp
        simp only [this, h1]
        rfl
      simp only [execOp, ho, Sem.run_bind, hr, Result.andThen_ok, Sem.run_pure]
    · cases h
  · cases h

theorem flat_get {size : Nat} : ∀ (ls : List (List Value)) (i j : Nat), (∀ l ∈ ls, l.length = size) → j < size → ls.flatten[i * size + j]? = (ls[i]?).bind (·[j]?)
  | [], i, j, _, _ => by simp
  | l :: ls, 0, j, h, hj => by
    have := h l (by simp)
    rw [List.flatten_cons, List.getElem?_append_left (by omega)]
    simp
  | l :: ls, i + 1, j, h, hj => by
    have hl := h l (by simp)
    have ih := flat_get ls i j (fun l hl => h l (by simp [hl])) hj
    rw [List.flatten_cons, List.getElem?_append_right (by rw [hl, Nat.succ_mul]; omega)]
    rw [show (i + 1) * size + j - l.length = i * size + j by rw [hl, Nat.succ_mul]; omega, ih]
    simp

theorem flat_len {size : Nat} : ∀ (ls : List (List Value)), (∀ l ∈ ls, l.length = size) → ls.flatten.length = ls.length * size
  | [], _ => by simp
  | l :: ls, h => by
    rw [List.flatten_cons, List.length_append, h l (by simp), flat_len ls (fun l hl => h l (by simp [hl])), List.length_cons, Nat.succ_mul]; omega

theorem putV_flat {size : Nat} (ls : List (List Value)) (i : Nat) (us : List Value) (h : ∀ l ∈ ls, l.length = size) (hi : i < ls.length) (hu : us.length = size) :
    putV ls.flatten (i * size) us = (ls.set i us).flatten := by
  have hfl := flat_len ls h
  have hb : i * size + size ≤ ls.length * size := by rw [← Nat.succ_mul]; exact Nat.mul_le_mul_right _ hi
  have h' : ∀ l ∈ ls.set i us, l.length = size := fun l hl => by
    rcases List.mem_or_eq_of_mem_set hl with hl | hl
    · exact h l hl
    · rw [hl, hu]
  have hfl' := flat_len _ h'
  rw [List.length_set] at hfl'
  obtain ⟨v1, v2⟩ := putV_get ls.flatten (i * size) us (by rw [hfl, hu]; omega)
  rcases Nat.eq_zero_or_pos size with hz | hz
  · subst hz
    have e1 : (putV ls.flatten (i * 0) us) = [] := List.eq_nil_of_length_eq_zero (by rw [v1, hfl]; simp)
    have e2 : (ls.set i us).flatten = [] := List.eq_nil_of_length_eq_zero (by rw [hfl']; simp)
    rw [e1, e2]
  apply List.ext_getElem?
  intro j
  rw [v2]
  have hj : j = j / size * size + j % size := by rw [Nat.mul_comm]; exact (Nat.div_add_mod j size).symm
  have hm := Nat.mod_lt j hz
  generalize hq : j / size = q at hj
  generalize hr : j % size = r at hj hm
  subst hj
  rw [flat_get _ q r h' hm, hu]
  by_cases he : q = i
  · subst he
    rw [if_pos (by omega), List.getElem?_set_self hi, show q * size + r - q * size = r by omega]
    rfl
  · rw [if_neg, flat_get _ q r h hm, List.getElem?_set_ne (Ne.symm he)]
    intro ⟨h1, h2⟩
    rcases Nat.lt_or_gt_of_ne he with hlt | hgt
    · have := Nat.mul_le_mul_right size hlt
      rw [Nat.succ_mul] at this; omega
    · have := Nat.mul_le_mul_right size hgt
      rw [Nat.succ_mul] at this; omega

/-- Lists of cells, element by element. -/
def ListsC (w : World) (F : Nat → Prop) (ρ : Nat → Value) (own : Nat → Loc) (size : Nat) (cs : List (List Cell)) (vs : List (List Value)) : Prop :=
  vs.length = cs.length ∧ (∀ l ∈ vs, l.length = size) ∧ ∀ (i : Nat) c v, cs[i]? = some c → vs[i]? = some v → CellsC w F ρ own c v

theorem ListsC.set {size : Nat} {cs : List (List Cell)} {vs : List (List Value)} (h : ListsC w F ρ own size cs vs) {i : Nat} {x : List Cell} {u : List Value} (hx : CellsC w F ρ own x u) (hl : u.length = size) :
    ListsC w F ρ own size (cs.set i x) (vs.set i u) := by
  refine ⟨by simp [h.1], fun l hl' => ?_, fun j c v hc hv => ?_⟩
  · rcases List.mem_or_eq_of_mem_set hl' with h1 | h1
    · exact h.2.1 l h1
    · rw [h1, hl]
  · by_cases e : i = j
    · subst e
      have hlt : i < cs.length := by
        have := (List.getElem?_eq_some_iff.1 hc).1; simpa using this
      rw [List.getElem?_set_self hlt] at hc
      rw [List.getElem?_set_self (by rw [h.1]; exact hlt)] at hv
      injection hc with hc; injection hv with hv
      subst hc; subst hv
      exact hx
    · rw [List.getElem?_set_ne e] at hc hv
      exact h.2.2 j c v hc hv

theorem parts_ok (H : Here P c N F ρ own slots a w) {size : Nat} : ∀ (parts : List (Nat × Operand)) (cs cs' : List (List Cell)) (vs : List (List Value)) (row : Array Value), ListsC w F ρ own size cs vs → row.toList = vs.flatten →
    setParts size (parts.map fun p => (p.1, evA slots p.2)) cs = some cs' →
      ∃ vs' row', Instr.fill (fun i => some (i * size, size)) row (parts.map fun p => (p.1, a.eval p.2)) = some row' ∧ row'.toList = vs'.flatten ∧ ListsC w F ρ own size cs' vs'
  | [], cs, cs', vs, row, hc, hr, h => by
    simp only [List.map_nil, setParts, Option.some.injEq] at h
    subst h
    exact ⟨vs, row, rfl, hr, hc⟩
  | (i, x) :: r, cs, cs', vs, row, hc, hr, h => by
    simp only [List.map_cons] at h ⊢
    unfold setParts at h
    split at h
    · rename_i xs hxs
      split at h
      · rename_i hb
        simp only [Bool.and_eq_true] at hb
        have hsz : xs.length = size := Nat.eq_of_beq_eq_true hb.1
        have hle : i + 1 ≤ cs.length := Nat.le_of_ble_eq_true hb.2
        have hx := cells_ok hxs (H.ev x)
        have hxl : (a.eval x).cells.size = size := by have := hx.1; rw [Array.length_toList] at this; omega
        have hfl := flat_len vs hc.2.1
        have hrs : row.size = vs.length * size := by rw [← Array.length_toList, hr, hfl]
        have hb2 : i * size + size ≤ row.size := by rw [hrs, ← Nat.succ_mul, hc.1]; exact Nat.mul_le_mul_right _ hle
        have hput := fold_put (a.eval x) (i * size) row (by omega)
        rw [hr, putV_flat vs i _ hc.2.1 (by rw [hc.1]; omega) (by simpa using hxl)] at hput
        obtain ⟨vs', row', h1, h2, h3⟩ := parts_ok H r _ cs' _ _ (hc.set (i := i) hx (by simpa using hxl)) hput h
        refine ⟨vs', row', ?_, h2, h3⟩
        unfold Instr.fill
        simp only [hxl]
        rw [if_neg (by simp; omega)]
        exact h1
      · cases h
    · cases h

theorem dec_ok {k : ElK} {cs : List Cell} {x : k.T} {us : List Value} (h : k.dec cs = some x) (hc : CellsC w F ρ own cs us) : us.length = k.size ∧ Elem w F k x us := by
  unfold ElK.dec at h
  have one : ∀ {z : Cell}, CellsC w F ρ own [z] us → ∃ u, us = [u] ∧ CellC w F ρ own z u := fun hc => by
    obtain ⟨u, us', rfl, h1, h2⟩ := hc.uncons
    have : us' = [] := List.eq_nil_of_length_eq_zero (by simpa using h2.1)
    subst this
    exact ⟨u, rfl, h1⟩
  split at h
  · injection h with h; subst h
    obtain ⟨u, rfl, h1⟩ := one hc
    rw [intD h1]; exact ⟨rfl, rfl⟩
  · injection h with h; subst h
    obtain ⟨u, rfl, h1⟩ := one hc
    rw [boolD h1]; exact ⟨rfl, rfl⟩
  · injection h with h; subst h
    obtain ⟨u1, r1, rfl, h1, hc⟩ := hc.uncons
    obtain ⟨u2, r2, rfl, h2, hc⟩ := hc.uncons
    have : r2 = [] := List.eq_nil_of_length_eq_zero (by simpa using hc.1)
    subst this
    rw [intD h1, intD h2]; exact ⟨rfl, rfl⟩
  · injection h with h; subst h
    obtain ⟨u1, r1, rfl, h1, hc⟩ := hc.uncons
    obtain ⟨u2, r2, rfl, h2, hc⟩ := hc.uncons
    obtain ⟨u3, r3, rfl, h3, hc⟩ := hc.uncons
    obtain ⟨u4, r4, rfl, h4, hc⟩ := hc.uncons
    have : r4 = [] := List.eq_nil_of_length_eq_zero (by simpa using hc.1)
    subst this
    rw [intD h1, intD h2, intD h3, intD h4]; exact ⟨rfl, rfl⟩
  · injection h with h; subst h
    obtain ⟨u1, r1, rfl, h1, hc⟩ := hc.uncons
    obtain ⟨u2, r2, rfl, h2, hc⟩ := hc.uncons
    obtain ⟨u3, r3, rfl, h3, hc⟩ := hc.uncons
    have : r3 = [] := List.eq_nil_of_length_eq_zero (by simpa using hc.1)
    subst this
    rw [intD h1, intD h2, intD h3]; exact ⟨rfl, rfl⟩
  · injection h with h; subst h
    obtain ⟨u, rfl, h1⟩ := one hc
    refine ⟨rfl, u, rfl, ?_⟩
    cases h1 with | sl _ hs => exact hs
  · injection h with h; subst h
    obtain ⟨u, rfl, h1⟩ := one hc
    refine ⟨rfl, u, rfl, ?_⟩
    cases h1 with | sl _ hs => exact hs
  · injection h with h; subst h
    obtain ⟨u, rfl, h1⟩ := one hc
    exact ⟨rfl, u, rfl, .inl ⟨nilD h1, rfl⟩⟩
  · injection h with h; subst h
    obtain ⟨u, rfl, h1⟩ := one hc
    exact ⟨rfl, u, rfl, .inl ⟨nilD h1, rfl⟩⟩
  · cases h

theorem decAll_ok {k : ElK} : ∀ {cs : List (List Cell)} {xs : List k.T}, decAll k cs = some xs → xs.length = cs.length ∧ ∀ (i : Nat) x, xs[i]? = some x → ∃ l, cs[i]? = some l ∧ k.dec l = some x
  | [], xs, h => by
    simp only [decAll, Option.some.injEq] at h
    subst h
    exact ⟨rfl, fun i x hx => by simp at hx⟩
  | l :: cs, xs, h => by
    unfold decAll at h
    split at h
    · rename_i x r h1 h2
      injection h with h
      subst h
      obtain ⟨g1, g2⟩ := decAll_ok h2
      refine ⟨by simp [g1], fun i z hz => ?_⟩
      cases i with
      | zero => simp at hz; subst hz; exact ⟨l, rfl, h1⟩
      | succ i => simp at hz; obtain ⟨l', h3, h4⟩ := g2 i z hz; exact ⟨l', by simpa using h3, h4⟩
    · cases h

theorem one_of_cells {cs : List Cell} {vs : List Value} (h : CellsC w F ρ own cs vs) : ∀ v ∈ vs, v.oneCell' = true := by
  intro v hv
  obtain ⟨j, hj⟩ := List.getElem?_of_mem hv
  have hlt := (List.getElem?_eq_some_iff.1 hj).1
  exact (h.2 j _ v (List.getElem?_eq_getElem (by rw [← h.1]; exact hlt)) hj).oneCell

theorem zeros_row (zs : Array Value) (n : Nat) (hz : 0 < zs.size) : ((Array.range (n * zs.size)).map (zs[· % zs.size]!)).toList = (List.replicate n zs.toList).flatten := by
  apply List.ext_getElem?
  intro j
  have hj : j = j / zs.size * zs.size + j % zs.size := by rw [Nat.mul_comm]; exact (Nat.div_add_mod j zs.size).symm
  have hm := Nat.mod_lt j hz
  have hlen : ∀ l ∈ List.replicate n zs.toList, l.length = zs.size := fun l hl => by rw [List.eq_of_mem_replicate hl]; simp
  have h2 := flat_get (List.replicate n zs.toList) (j / zs.size) (j % zs.size) hlen hm
  rw [← hj] at h2
  rw [h2]
  by_cases hlt : j < n * zs.size
  · have hq : j / zs.size < n := (Nat.div_lt_iff_lt_mul hz).2 hlt
    simp [hlt, hq, hm]
  · have hq : ¬ j / zs.size < n := fun h => hlt ((Nat.div_lt_iff_lt_mul hz).1 h)
    simp [hlt, hq]

theorem replicate_ok (z : List ZK) (vs : List Value) (h : CellsC w F ρ own (z.map ZK.c) vs) (size n : Nat) (hs : vs.length = size) :
    ListsC w F ρ own size (List.replicate n (z.map ZK.c)) (List.replicate n vs) := by
  refine ⟨by simp, fun l hl => by rw [List.eq_of_mem_replicate hl, hs], fun i c v hc hv => ?_⟩
  rw [List.eq_of_mem_replicate (List.mem_of_getElem? hc), List.eq_of_mem_replicate (List.mem_of_getElem? hv)]
  exact h

/-- Lists of cells that are decoded are a row. -/
theorem row_of_lists {k : ElK} {l : List (List Cell)} {vs : List (List Value)} {xs : List k.T} (h : decAll k l = some xs) (hv : ListsC w F ρ own k.size l vs) : RowC w F k xs vs.flatten := by
  obtain ⟨d1, d2⟩ := decAll_ok h
  refine ⟨fun v hmem => ?_, fun i x hx => ?_⟩
  · obtain ⟨us, hus, hv'⟩ := List.mem_flatten.1 hmem
    obtain ⟨j, hj⟩ := List.getElem?_of_mem hus
    have hlt := (List.getElem?_eq_some_iff.1 hj).1
    exact one_of_cells (hv.2.2 j _ us (List.getElem?_eq_getElem (by rw [← hv.1]; exact hlt)) hj) v hv'
  · obtain ⟨cs, hcs, hdec⟩ := d2 i x hx
    have hlt := (List.getElem?_eq_some_iff.1 hcs).1
    have hus : vs[i]? = some (vs[i]'(by rw [hv.1]; exact hlt)) := List.getElem?_eq_getElem (by rw [hv.1]; exact hlt)
    obtain ⟨e1, e2⟩ := dec_ok hdec (hv.2.2 i cs _ hcs hus)
    refine ⟨_, e1, e2, fun j u hj => ?_⟩
    have hjl := (List.getElem?_eq_some_iff.1 hj).1
    rw [flat_get vs i j hv.2.1 (by omega), hus]
    exact hj

theorem elk_size (k : ElK) : k.size ≤ 4 ∧ 0 < k.size := by
  cases k with
  | b e => cases e <;> simp [ElK.size, ElB.size]
  | s e => simp [ElK.size]

theorem elem_size {t e : TypeId} {sz : Nat} {z0 : List ZK} {k : ElK} {b : Nat} {z : List ZK} (h : TIok P t ⟨sz, z0, .slice e k b z⟩) :
    P.underlying t = some (.slice e) ∧ (P.info? e).map (·.size) = some k.size ∧ (P.info? e).map (fun i => (i.size, i.bytes)) = some (k.size, b) ∧ ∃ zv, (∀ w, (zeroValue e).run P w = .ok zv w) ∧ zv.cells.toList = z.map ZK.v ∧ zv.cells.size = k.size ∧ ∃ ie, P.info? e = some ie ∧ ie.zero = some zv ∧ ie.size = k.size ∧ ie.bytes = b := by
  obtain ⟨hu, hel, hzero, hzl⟩ := h.2.2.2.2
  cases hi : P.info? e with
  | none => rw [hi] at hel; cases hel
  | some ie =>
    rw [hi] at hel
    simp only [Option.map_some, Option.some.injEq, Prod.mk.injEq] at hel
    unfold zeroB at hzero
    rw [hi] at hzero
    simp only [Option.bind_some] at hzero
    cases hz : ie.zero with
    | none => rw [hz] at hzero; cases hzero
    | some zv =>
      rw [hz] at hzero
      simp only [Option.map_some, Option.some.injEq] at hzero
      have hsz : zv.cells.size = k.size := by rw [← Array.length_toList, hzero, List.length_map, hzl]
      exact ⟨hu, by simp [hel.1], by simp [hel.1, hel.2], zv, fun w => by simp [zeroValue, typeInfo, hi, hz], hzero, hsz, ie, rfl, hz, hel.1, hel.2⟩

/-- What a slice literal has made. -/
theorem buildSlice_ok (H : Here P c N F ρ own slots a w) {t : TypeId} {len : Nat} {parts : Array (Nat × Operand)} {sz : Nat} {z0 : List ZK} {e : TypeId} {k : ElK} {b : Nat} {z : List ZK} {xs : List k.T}
    (hty : c.ty t = some ⟨sz, z0, .slice e k b z⟩) (hlen : len ≤ 1024) (h : elems k (z.map ZK.c) (parts.toList.map fun p => (p.1, evA slots p.2)) len = some xs) :
    xs.length = len ∧ ∃ row : Array Value, row.size = len * k.size ∧
      (Instr.buildSlice t len (parts.map fun (i, x) => (i, a.eval x))).run P w = .ok (.slice (some ⟨w.heap.size, 0, none⟩) len len) (w.alloc (.cells row e)) ∧ RowC w F k xs row.toList := by
  obtain ⟨hu, hes, _, zv, hz, hzc, hzs, _⟩ := elem_size (H.cfg.ty _ _ hty)
  have hk4 := elk_size k
  unfold elems at h
  split at h
  · rename_i l hset
    obtain ⟨d1, d2⟩ := decAll_ok h
    have hmul : len * k.size ≤ 4096 := Nat.mul_le_mul hlen hk4.1
    have hz0 : CellsC w F ρ own (z.map ZK.c) zv.cells.toList := by rw [hzc]; exact zk_ok z
    have hr0 := replicate_ok (w := w) (F := F) (ρ := ρ) (own := own) z zv.cells.toList hz0 k.size len (by simpa using hzs)
    have hrow : ∃ row0 : Array Value, row0.toList = (List.replicate len zv.cells.toList).flatten ∧
        ((len * k.size = 0 ∧ (Array.range (len * k.size)).map ((#[] : Array Value)[· % (#[] : Array Value).size]!) = row0) ∨ (len * k.size ≠ 0 ∧ (Array.range (len * k.size)).map (zv.cells[· % zv.cells.size]!) = row0)) := by
      by_cases hl0 : len * k.size = 0
      · have : len = 0 := by
          rcases Nat.mul_eq_zero.1 hl0 with h | h
          · exact h
          · omega
        subst this
        exact ⟨#[], by simp, .inl ⟨hl0, by simp⟩⟩
      · refine ⟨(Array.range (len * k.size)).map (zv.cells[· % zv.cells.size]!), ?_, .inr ⟨hl0, rfl⟩⟩
        rw [← hzs]
        exact zeros_row zv.cells len (by omega)
    obtain ⟨row0, hrow0, hrun0⟩ := hrow
    obtain ⟨vs', row', h1, h2, h3⟩ := parts_ok H parts.toList _ l _ row0 hr0 hrow0 hset
    have hlsize : l.length = len := by
      have hset' : ∀ (ps : List (Nat × AV)) (a b : List (List Cell)), setParts k.size ps a = some b → b.length = a.length := by
        intro ps
        induction ps with
        | nil => intro a b hab; simp only [setParts, Option.some.injEq] at hab; rw [hab]
        | cons p ps ih =>
          intro a b hab
          unfold setParts at hab
          split at hab
          · split at hab
            · have := ih _ _ hab; simpa using this
            · cases hab
          · cases hab
      simpa using hset' _ _ _ hset
    refine ⟨by omega, row', ?_, ?_, by rw [h2]; exact row_of_lists h h3⟩
    · rw [← Array.length_toList, h2, flat_len vs' h3.2.1, h3.1, hlsize]
    · unfold Instr.buildSlice
      have hgt : ¬ (len * k.size > 2 ^ 24) := by have : (4096 : Nat) < 2 ^ 24 := by decide
                                                 omega
      have hpl : (parts.map fun (x : Nat × Operand) => (x.1, a.eval x.2)).toList = parts.toList.map fun p => (p.1, a.eval p.2) := by simp
      simp only [Sem.run_bind, run_und hu, Result.andThen_ok, run_size hes, if_neg hgt]
      rcases hrun0 with ⟨hl0, hrow⟩ | ⟨hl0, hrow⟩
      · simp only [if_pos hl0, Sem.run_bind, Sem.run_pure, Result.andThen_ok, hrow, hpl, h1, newRow, run_newObj]
        rfl
      · simp only [if_neg hl0, Sem.run_bind, Sem.run_pure, hz, Result.andThen_ok, hrow, hpl, h1, newRow, run_newObj]
        rfl
  · cases h

theorem s_buildSlice (H : Here P c N F ρ own slots a w) {t : TypeId} {len : Nat} {parts : Array (Nat × Operand)} (ho : o.op = .buildSlice t len parts) (h : aval c (evA slots) own (.buildSlice t len parts) = .ok p y) : Yield P o a w F ρ own y Q := by
  dsimp only [aval] at h
  split at h
  · rename_i sz z0 e k b z hty
    split at h
    · rename_i xs hlen hel
      injection h with e1 e2
      subst e2
      obtain ⟨hl, row, hrs, hrun, hrow⟩ := buildSlice_ok H hty (Nat.le_of_ble_eq_true hlen) hel
      refine Yield.new (u := .slice (some ⟨w.heap.size, 0, none⟩) len len) (ob := .cells row e) (by simp only [execOp, ho, Sem.run_bind, hrun, Result.andThen_ok, Sem.run_pure]) ?_
      refine DC.sl (fun b hb => ?_) (.inr ⟨⟨w.heap.size, 0, none⟩, len, by rw [hl], by omega, .inr (.inr rfl), fun i x hx => ?_⟩)
      · injection hb with hb; subst hb; simp
      · obtain ⟨us, hul, hel', hus⟩ := (hrow.mono (fin_new H.mem (.cells row e))).2 i x hx
        refine ⟨us, hul, hel', fun j u hj => ?_⟩
        rw [add_lit', Nat.zero_add, cell_new]
        simpa using hus j u hj
    · cases h
  · cases h
end
end Go.Proofs.Ytfjmlaciogmndaa
