/- Every operation; regions in whatever order. -/
import Derived.Test.YtfjmlaciogmndaaVp
namespace Go.Proofs.Ytfjmlaciogmndaa
open Go.RowKit
set_option linter.unusedVariables false
set_option linter.unusedSimpArgs false
section
variable {P : Program} {c : Cfg} {w : World} {N F : Nat → Prop} {ρ : Nat → Value} {own : Nat → Loc} {slots : Nat → AV} {a : Act} {Q : Exit → Act → World → Prop} {o : Oper} {p : Prop} {y : AV}

theorem asYs_ok {k : ElK} {x : AV} {ys : List k.T} {v : Value} {ρ' : Nat → Value} {own' : Nat → Loc} (h : asYs k x = some ys) (hx : AVC w F ρ' own' x v) : SLK w F k ys v := by
  unfold asYs at h
  split at h
  · rename_i nl k' zs
    obtain ⟨e, he⟩ := castL_ok h
    subst e
    subst he
    have hd : DC w F (.sl nl k' zs) v := hx
    cases hd with
    | sl _ hs => exact hs
  · injection h with h
    subst h
    have hd : DC w F .nil v := hx
    exact .inl ⟨nilD hd, rfl⟩
  · cases h

theorem base_or {bv : Bool} {k : ElK} (h : (bv && !k.base) = false) : k.base = true ∨ ∀ n, viewF w F bv n → F n := by
  cases bv with
  | false => exact .inr fun n hn => hn.elim id (fun h => by cases h.1)
  | true => cases hk : k.base with
    | true => exact .inl rfl
    | false => rw [hk] at h; cases h

theorem s_eff (H : Here P c N F ρ own slots a w) (hN : ∀ b, w.heap.size ≤ b → N b) (hd : ∀ d, o.dst = some d → d < a.tmps.size) {r : AV × (Nat → Loc)} (h : aeff c o (evA slots) own = .ok p r) (hp : p) {K : St → Prop} (hK : K ⟨(St.put ⟨slots, own⟩ o.dst r.1).slots, r.2⟩) : Eff P c N F ρ own o a w K Q := by
  unfold aeff at h
  split at h
  · rename_i t d ho hdst
    rw [hdst] at hK
    split at h
    · rename_i i hi
      injection h with e1 e2
      subst e2
      exact e_alloc H hN (hd d hdst) hdst ho hi hK
    · cases h
  · rename_i t x d ho hdst
    rw [hdst] at hK
    split at h
    · rename_i cs hcs
      injection h with e1 e2
      subst e2
      exact e_box H hN (hd d hdst) hdst ho hcs hK
    · cases h
  · rename_i t len parts d ho hdst
    rw [hdst] at hK
    split at h
    · rename_i sz z0 e k b z hty
      split at h
      · rename_i xs hlen hel
        injection h with e1 e2
        subst e2
        exact e_buildSlice H hN (hd d hdst) hdst ho hty (Nat.le_of_ble_eq_true hlen) hel hK
      · cases h
    · cases h
  · rename_i t len cap d ho hdst
    rw [hdst] at hK
    split at h
    · rename_i sz z0 e k b z n n' hty hn hn'
      split at h
      · rename_i x hx
        injection h with e1 e2
        subst e1; subst e2
        obtain ⟨rfl, h0, h1, hb⟩ := hp
        exact e_makeSlice H hN (hd d hdst) hdst ho hty hn hn' hx h0 h1 hb hK
      · cases h
    · cases h
  · rename_i t x z ho hdst
    rw [hdst] at hK
    split at h
    · rename_i l ver i j cs ti hx hz hti
      split at h
      · rename_i ver' ty cs' hsz hl
        injection h with e1 e2
        subst e1; subst e2
        obtain ⟨rfl, hle⟩ := hp
        exact e_store_box H hdst ho hx hz hti (Nat.eq_of_beq_eq_true hsz) hl hle hK
      · rename_i ver' ty k xs hsz hl
        split at h
        · rename_i xs' hset
          injection h with e1 e2
          subst e1; subst e2
          obtain ⟨rfl, hle, hi⟩ := hp
          unfold setElem at hset
          split at hset
          · rename_i y hy
            injection hset with hset
            subst hset
            exact e_store_row H hdst ho hx hz hti (Nat.eq_of_beq_eq_true hsz) hl hle hi hy hK
          · cases hset
        · cases h
      · cases h
    · cases h
  · rename_i t x hi d ho hdst
    rw [hdst] at hK
    split at h
    · rename_i sz z0 e k' b z l ver ki hh hty hx hhi
      split at h
      · rename_i ver' ty k xs hl
        split at h
        · rename_i hk
          injection h with e1 e2
          subst e1; subst e2
          obtain ⟨rfl, h0, h1⟩ := hp
          exact e_trunc H hN (hd d hdst) hdst ho hty (ElK.beq_eq hk) hx hhi hl h0 h1 hK
        · cases h
      · cases h
    · cases h
  · rename_i t x lo d ho hdst
    rw [hdst] at hK
    split at h
    · rename_i sz z0 e k' b z l ver ki hh hty hx hlo
      split at h
      · rename_i ver' ty k xs hl
        split at h
        · rename_i hk
          injection h with e1 e2
          subst e1; subst e2
          obtain ⟨rfl, -, hpos, h0, h1⟩ := hp
          have hok := H.mem.ok l
          rw [hl] at hok
          obtain ⟨vs, hw, hrow, hn⟩ := hok
          have hd' : CellC w F ρ own (.own l ver) (a.eval x) := H.ev' hx
          have he := hd'.2.2 ⟨by rw [hl], by rw [hl]; trivial⟩
          exact e_tail H hN (hd d hdst) hdst ho hty (ElK.beq_eq hk) he hlo (by rw [hl]) (by rw [hl]; rfl) (TailOk.ofRow hw hpos) hrow h0 h1 hK
        · cases h
      · rename_i ver' ty k xs hl
        split at h
        · rename_i hk
          injection h with e1 e2
          subst e1; subst e2
          obtain ⟨rfl, -, h0, h1⟩ := hp
          have hok := H.mem.ok l
          rw [hl] at hok
          obtain ⟨vs, hw, hrow, hn⟩ := hok
          have hd' : CellC w F ρ own (.own l ver) (a.eval x) := H.ev' hx
          have he := hd'.2.2 ⟨by rw [hl], by rw [hl]; trivial⟩
          exact e_tail H hN (hd d hdst) hdst ho hty (ElK.beq_eq hk) he hlo (by rw [hl]) (by rw [hl]; rfl) hw hrow h0 h1 hK
        · cases h
      · cases h
    · cases h
  · rename_i cl d ho hdst
    rw [hdst] at hK
    split at h
    · rename_i hcl
      split at h
      · rename_i s x t t' hargs hat
        split at h
        · rename_i sz z0 e k b z htt hty
          have := Nat.eq_of_beq_eq_true htt
          subst this
          obtain ⟨s0, r0, hargs', hs0, hr⟩ := evL_cons hargs
          obtain ⟨x0, r0, rfl, hx0, hr⟩ := evL_cons hr
          rw [evL_nil hr] at hargs'
          split at h
          · cases h
          · rename_i pv x' bv hv
            split at h
            · cases h
            · rename_i ys hys
              split at h
              · rename_i l ver
                split at h
                · rename_i ver' ty k' xs0 hl
                  split at h
                  · rename_i xs hcast
                    injection h with e1 e2
                    subst e1; subst e2
                    obtain ⟨hp, hb, rfl, rfl, hlen, hb4⟩ := hp
                    obtain ⟨e', he'⟩ := castL_ok hcast
                    subst e'
                    subst he'
                    have hxd := view_ok H.mem hv hp (hx0 ▸ H.ev x0) noRho deadOwn
                    have hok := H.mem.ok l
                    rw [hl] at hok
                    obtain ⟨vs, hw, hrow, hn⟩ := hok
                    have hsd : CellC w F ρ own (.own l ver) (a.eval s0) := H.ev' hs0
                    have he := hsd.2.2 ⟨by rw [hl], by rw [hl]; trivial⟩
                    refine e_append H hN (l := l) (hd d hdst) hdst ho hcl hargs' hat hty (by rw [he]; exact hw) hrow (fun g hg => ⟨by rw [hl]; rfl, by rw [← he]; exact hg⟩) (asYs_ok hys hxd) (base_or hb) hlen hb4 ?_
                    have hver : (own l).ver = ver := by rw [hl]
                    rw [hver]
                    exact hK
                  · cases h
                · rename_i ver' ty k' xs0 hl
                  split at h
                  · rename_i xs hcast
                    injection h with e1 e2
                    subst e1; subst e2
                    obtain ⟨hp, hb, rfl, rfl, hne, hlen, hb4⟩ := hp
                    obtain ⟨e', he'⟩ := castL_ok hcast
                    subst e'
                    subst he'
                    have hxd := view_ok H.mem hv hp (hx0 ▸ H.ev x0) noRho deadOwn
                    have hok := H.mem.ok l
                    rw [hl] at hok
                    obtain ⟨vs, hw, hrow, hn⟩ := hok
                    have hsd : CellC w F ρ own (.own l ver) (a.eval s0) := H.ev' hs0
                    have he := hsd.2.2 ⟨by rw [hl], by rw [hl]; trivial⟩
                    refine e_apptail H hN (l := l) (hd d hdst) hdst ho hcl hargs' hat hty he hw hrow (by rw [hl]; rfl) (asYs_ok hys hxd) (base_or hb) hne hlen hb4 ?_
                    have hver : (own l).ver = ver := by rw [hl]
                    rw [hver]
                    exact hK
                  · cases h
                · cases h
              · rename_i k' xs0
                split at h
                · rename_i xs hcast
                  injection h with e1 e2
                  subst e1; subst e2
                  obtain ⟨hp, hb, hne, hlen, hb4⟩ := hp
                  obtain ⟨e', he'⟩ := castL_ok hcast
                  subst e'
                  subst he'
                  have hxd := view_ok H.mem hv hp (hx0 ▸ H.ev x0) noRho deadOwn
                  have hsd : DC w F (.full k' xs0) (a.eval s0) := H.ev' hs0
                  generalize hev : a.eval s0 = sv at hsd
                  cases hsd with
                  | full hs hc => exact e_appfull H hN (hd d hdst) hdst ho hcl hargs' hat hty (by rw [hev]; exact hs) (by rw [hev]; exact hc) (asYs_ok hys hxd) (base_or hb) hne hlen hb4 hK
                · cases h
              · injection h with e1 e2
                subst e1; subst e2
                obtain ⟨hp, hb, hlen, hb4⟩ := hp
                have hxd := view_ok H.mem hv hp (hx0 ▸ H.ev x0) noRho deadOwn
                have he := H.nil hs0
                refine e_append H hN (l := d) (hd d hdst) hdst ho hcl hargs' hat hty (xs := []) (vs := []) (by rw [he]; exact World.ownsRow_nil w 0 _ _) ⟨fun v hv => by simp at hv, fun i x hx => by simp at hx⟩ (fun g hg => by rw [he] at hg; simp [blk] at hg) (asYs_ok hys hxd) (base_or hb) (by simpa using hlen) hb4 ?_
                exact hK
              · cases h
        · cases h
      · cases h
    · rename_i g hcl
      split at h
      · rename_i f caps hg
        split at h
        · rename_i p' l ver ty k ys av hac
          injection h with e1 e2
          subst e1; subst e2
          exact e_callwT H hN (hd d hdst) hdst hcl hg hac hp ho hK
        · rename_i p' l ver ty k ys av hac
          injection h with e1 e2
          subst e1; subst e2
          exact e_callwF H (hd d hdst) hdst hcl hg hac hp ho hK
        · split at h
          · cases h
          · rename_i p' r' hac
            split at h
            · rename_i R hR
              injection h with e1 e2
              subst e1; subst e2
              exact e_callrow H hN (hd d hdst) hdst hcl hg hac hp ho hR hK
            · injection h with e1 e2
              subst e1; subst e2
              have hv : aval c (evA slots) own o.op = .ok (p' ∧ True) r'.data := by
                rw [ho]
                dsimp only [aval]
                rw [hcl]
                simp only [hg, hac, VR.bind]
              refine Oper.wp_mono (fun a' w' h => ?_) (s_val (Q := Q) H hv ⟨hp, trivial⟩)
              obtain ⟨u, F', rfl, hb, hs, hn, hx⟩ := h
              have hext : Ext w F w' F' := ⟨hb.os, hb.tape, hb.output, hb.size, fun b h => hb.block b (H.mem.fin b h), hs⟩
              have hown : upd own d (own d) = own := by
                funext n
                by_cases e : n = d
                · subst e; rw [upd_eq]
                · rw [upd_ne _ _ e]
              refine ⟨_, F', ρ, hK, ⟨H.cfg, ?_, ?_⟩, hext, fun b h _ => hb.block b h, fun b h => (hn b h).imp id (fun h => hN b h.1), put_size _ _ _, put_defers' _ _ _, fun l => by show _ ≤ (upd own d (own d) l).ver; rw [hown]; exact Nat.le_refl _, fun _ _ => ⟨rfl, fun _ => rfl⟩⟩
              · show ∀ t, AVC w' F' ρ (upd own d (own d)) _ _
                rw [hown, hdst]
                exact slots_put (fun z v hz => CellC.mono hext hz) H.sl (hd d hdst) hx
              · show Mem w' N F' ρ (upd own d (own d))
                rw [hown]
                exact H.mem.grow hb hn hs
      · cases h
    · rename_i hcl
      split at h
      · rename_i x s t t' hargs hat
        obtain ⟨x0, r0, hargs', hx0, hr⟩ := evL_cons hargs
        obtain ⟨s0, r0, rfl, hs0, hr⟩ := evL_cons hr
        rw [evL_nil hr] at hargs'
        split at h
        · rename_i sz z0 e k b z l ver off n hty
          split at h
          · rename_i ver' ty k' xs hl
            split at h
            · rename_i q k'' ys hrd
              split at h
              · rename_i ys' hcast
                injection h with e1 e2
                subst e1; subst e2
                obtain ⟨hq, hne, rfl, rfl, rfl, hoff⟩ := hp
                obtain ⟨e', he'⟩ := castL_ok hcast
                subst e'
                subst he'
                have hsd : CellC w F ρ own (.sub l ver off n) (a.eval x0) := H.ev' hx0
                obtain ⟨g, cp, hb, _, he⟩ := (hsd.2.2 (by rw [hl])).1 ty _ xs (by rw [hl])
                have hok := H.mem.ok l
                rw [hl] at hok
                obtain ⟨vs, hw, hrow, hn⟩ := hok
                rcases hw.2 with ⟨h0, _⟩ | ⟨g', cap, cur, hρ, _⟩
                · rw [h0] at hb; simp [blk] at hb
                · have hgg : g' = g := by rw [hρ] at hb; simpa [blk] using hb
                  subst hgg
                  rw [show off * ElK.size (.b .int) = off from Nat.mul_one _] at he
                  rw [← hs0] at hrd
                  exact e_copy H (hd d hdst) hdst ho hcl hargs' hat hty he hl hρ hrd hq hne hoff hK
              · cases h
            · cases h
          · cases h
        · rename_i sz z0 e k b z l ver hty
          split at h
          · rename_i ver' ty k' xs hl
            split at h
            · rename_i q k'' ys hrd
              split at h
              · rename_i ys' hcast
                injection h with e1 e2
                subst e1; subst e2
                obtain ⟨hq, hne, rfl, rfl, rfl, hpos⟩ := hp
                obtain ⟨e', he'⟩ := castL_ok hcast
                subst e'
                subst he'
                have hsd : CellC w F ρ own (.own l ver) (a.eval x0) := H.ev' hx0
                have he := hsd.2.2 ⟨by rw [hl], by rw [hl]; trivial⟩
                have hok := H.mem.ok l
                rw [hl] at hok
                obtain ⟨vs, hw, hrow, hn⟩ := hok
                rcases hw.2 with ⟨_, h0⟩ | ⟨g, cap, cur, hρ, _⟩
                · omega
                · rw [hρ] at he
                  rw [← hs0] at hrd
                  exact e_copy H (hd d hdst) hdst ho hcl hargs' hat hty he hl hρ hrd hq hne (by omega) hK
              · cases h
            · cases h
          · cases h
        · cases h
      · cases h
    · cases h
  · rename_i cl ho hdst
    rw [hdst] at hK
    split at h
    · rename_i hcl
      split at h
      · rename_i x t hargs hat
        obtain ⟨x0, r0, hargs', hx0, hr⟩ := evL_cons hargs
        rw [evL_nil hr] at hargs'
        split at h
        · rename_i sz z0 e k b z l ver off n hty
          split at h
          · rename_i ver' ty k' xs hl
            split at h
            · rename_i zv hz
              injection h with e1 e2
              subst e1; subst e2
              obtain ⟨rfl, rfl, hoff⟩ := hp
              exact e_clear H hdst ho hcl hargs' hat hty hx0 hl hz hoff hK
            · cases h
          · cases h
        · cases h
      · cases h
    · cases h
  · cases h

/-- EVERY OPERATION. -/
theorem AVC.imp {C C' : Cell → Value → Prop} (h : ∀ c v, C c v → C' c v) {x : AV} {v : Value} (s : AVG C x v) : AVG C' x v := by
  cases x with
  | one c => exact h _ _ s
  | agg cs => obtain ⟨vs, hv, hs⟩ := s; exact ⟨vs, hv, hs.imp fun c v _ => h c v⟩
  | tup xs =>
    obtain ⟨vs, hv, hl, hs⟩ := s
    refine ⟨vs, hv, hl, fun j x u hx hu => ?_⟩
    have := hs j x u hx hu
    cases x with
    | inl c => exact h _ _ this
    | inr cs => obtain ⟨us, e, hc⟩ := this; exact ⟨us, e, hc.imp fun c v _ => h c v⟩
  | junk => trivial
theorem RelL.cells {R : Cell → Cell → Prop} {C C' : Cell → Value → Prop} (h : ∀ x y v, R x y → C x v → C' y v) : ∀ {xs ys : List Cell} {vs : List Value}, RelL R xs ys → CellsG C xs vs → CellsG C' ys vs
  | [], [], vs, _, s => ⟨s.1, fun j c v hc => by simp at hc⟩
  | x :: xs, y :: ys, [], _, s => by have := s.1; simp at this
  | x :: xs, y :: ys, v :: vs, hf, s => by
    have hr : CellsG C' ys vs := RelL.cells h (xs := xs) hf.2 ⟨by have := s.1; simp at this; exact this, fun j c v hc hv => s.2 (j + 1) c v hc hv⟩
    refine ⟨by simp [hr.1], fun j c u hc hu => ?_⟩
    cases j with
    | zero => simp at hc hu; subst hc; subst hu; exact h _ _ _ hf.1 (s.2 0 x v rfl rfl)
    | succ j => exact hr.2 j c u hc hu
  | [], _ :: _, _, hf, _ => hf.elim
  | _ :: _, [], _, hf, _ => hf.elim
theorem RelA.ok {R : Cell → Cell → Prop} (hrefl : ∀ x, R x x) {C C' : Cell → Value → Prop} (h : ∀ x y v, R x y → C x v → C' y v) {x y : AV} {v : Value} (hf : RelA R x y) (s : AVG C x v) : AVG C' y v := by
  have same : AVG C' x v := AVC.imp (fun c v hc => h c c v (hrefl c) hc) s
  cases x with
  | one x => cases y with
    | one y => exact h _ _ _ hf s
    | _ => cases hf
  | agg xs => cases y with
    | agg ys => obtain ⟨vs, hv, hs⟩ := s; exact ⟨vs, hv, hf.cells h hs⟩
    | _ => cases hf
  | tup xs => have hf : AV.tup xs = y := by cases y <;> exact hf
              subst hf; exact same
  | junk => have hf : AV.junk = y := by cases y <;> exact hf
            subst hf; exact same
/-- A state may be weakened. -/
theorem Here.wk {σ σ' : St} {a : Act} {w : World} {ρ : Nat → Value} (hk : Wk c σ σ') (H : Here P c N F ρ σ.own σ.slots a w) : ∃ F', Here P c N F' ρ σ'.own σ'.slots a w ∧ (∀ b, F b → F' b) ∧ ∀ b, F' b → F b ∨ N b := by
  obtain ⟨Z, hs, ho⟩ := hk
  have hsub : Ext w F w (fun b => F b ∨ ∃ l, Z l = true ∧ (σ.own l).obj.live = true ∧ blk (ρ (pl l)) = some b) := ⟨rfl, rfl, rfl, Nat.le_refl _, fun _ _ => rfl, fun _ h => .inl h⟩
  generalize hFF : (fun b => F b ∨ ∃ l, Z l = true ∧ (σ.own l).obj.live = true ∧ blk (ρ (pl l)) = some b) = F' at hsub
  have hF' : ∀ b, F' b → F b ∨ ∃ l, Z l = true ∧ (σ.own l).obj.live = true ∧ blk (ρ (pl l)) = some b := fun b hb => by rw [← hFF] at hb; exact hb
  have hcell : ∀ x y v, FrzC Z σ.own x y → CellC w F ρ σ.own x v → CellC w F' ρ σ'.own y v := by
    intro x y v hf hc
    rcases hf with rfl | ⟨l, ver, ty, k, xs, rfl, hZ, hl, rfl⟩ | ⟨l, ver, ty, cs, ds, rfl, hZ, hl, hds, rfl⟩
    · cases y with
      | d x => exact DC.mono hsub hc
      | own l ver =>
        obtain ⟨g1, g2, g3⟩ := hc
        obtain ⟨e1, e2⟩ := ho l
        refine ⟨g1, by rw [e1]; exact g2, ?_⟩
        rintro ⟨e, hr⟩
        rcases e2 with e2 | ⟨-, e2⟩
        · rw [e2] at hr; exact hr.elim
        · refine g3 ⟨by rw [← e1, e], ?_⟩
          generalize (σ.own l).obj = q at e2 ⊢
          generalize (σ'.own l).obj = q' at e2 hr
          cases q <;> cases q' <;> first | trivial | (cases e2; done) | exact hr.elim
      | ptr l ver i j =>
        obtain ⟨g1, g2, g3⟩ := hc
        obtain ⟨e1, e2⟩ := ho l
        refine ⟨g1, by rw [e1]; exact g2, fun e => ?_⟩
        have g3 := g3 (by rw [← e1]; exact e)
        rcases e2 with e2 | ⟨-, e2⟩
        · rw [e2]; trivial
        · generalize (σ.own l).obj = q at e2 g3
          generalize (σ'.own l).obj = q' at e2
          cases q with
          | dead => have e2 : Own.dead = q' := by cases q' <;> exact e2
                    subst e2; trivial
          | box ty cs => cases q' with
            | box ty' cs' => exact g3
            | _ => cases e2
          | row ty k xs => have e2 : Own.row ty k xs = q' := by cases q' <;> exact e2
                           subst e2; exact g3
          | tail ty k xs => have e2 : Own.tail ty k xs = q' := by cases q' <;> exact e2
                            subst e2; exact g3
          | deep ty ety el xs gg => have e2 : Own.deep ty ety el xs gg = q' := by cases q' <;> exact e2
                                    subst e2; exact g3
      | sub l ver off m =>
        obtain ⟨g1, g2, g3⟩ := hc
        obtain ⟨e1, e2⟩ := ho l
        refine ⟨g1, by rw [e1]; exact g2, fun e => ?_⟩
        rcases e2 with e2 | ⟨-, e2⟩
        · rw [e2]; exact ⟨fun _ _ _ hx => (by cases hx), fun _ _ _ _ _ _ hx => (by cases hx)⟩
        · have g3 := g3 (by rw [← e1]; exact e)
          refine ⟨fun ty k xs hr => g3.1 ty k xs ?_, fun ty ety ee xs gg x hr => g3.2 ty ety ee xs gg x ?_⟩
          · rw [hr] at e2
            generalize (σ.own l).obj = q at e2
            cases q <;> first | (cases e2; done) | exact e2
          · rw [hr] at e2
            generalize (σ.own l).obj = q at e2
            cases q <;> first | (cases e2; done) | exact e2
    · obtain ⟨g1, g2, g3⟩ := hc
      have hv : v = ρ (pl l) := g3 ⟨by rw [hl], by rw [hl]; trivial⟩
      subst hv
      have hok := H.mem.ok l
      rw [hl] at hok
      obtain ⟨vs, hw, hr, hn⟩ := hok
      exact DC.sl (fun b hb => by cases hb) (row_data hw hr (fun b hb => hsub.sub b hb) fun b hb => by rw [← hFF]; exact .inr ⟨l, hZ, by rw [hl]; rfl, hb⟩)
    · obtain ⟨g1, g2, g3⟩ := hc
      have g3 := g3 (by rw [hl])
      rw [hl] at g3
      obtain ⟨b, hb, rfl, -⟩ := g3
      have hok := H.mem.ok l
      rw [hl] at hok
      obtain ⟨b', vs, r1, r2, r3, r4⟩ := hok
      have hbb : b' = b := by rw [r1] at hb; simpa [blk] using hb
      subst hbb
      have hcs := dOf_ok hds
      subst hcs
      refine DC.ptr ⟨b', 0, none⟩ vs.toList (by rw [r3.1, List.length_map]) (by rw [← hFF]; exact .inr ⟨l, hZ, by rw [hl]; rfl, hb⟩) (fun j u hu => ?_) fun j x u hx hu => ?_
      · rw [add_lit', Nat.zero_add]
        simp only [World.cell?, r2]
        simpa using hu
      · have h0 : CellC w F ρ σ.own (.d x) u := r3.2 j (.d x) u (by rw [List.getElem?_map, hx]; rfl) hu
        exact DC.mono hsub h0
  refine ⟨F', ⟨H.cfg, fun t => (hs t).ok (fun _ => .inl rfl) hcell (H.sl t), ⟨fun l => ?_, fun l l' b hne a1 a2 => ?_, fun b hb => ?_⟩⟩, hsub.sub, fun b hb => ?_⟩
  · obtain ⟨e1, e2⟩ := ho l
    have hok := H.mem.ok l
    have hnF : Z l = false → (σ.own l).obj.live = true → ∀ b, holds ρ l (σ.own l).obj b → ¬ F b → ¬ F' b := fun hZ hlive b hb hn hf => by
      rcases hF' b hf with hf | ⟨l', hZ', hr, hb'⟩
      · exact hn hf
      · refine H.mem.apart l l' b (fun e => ?_) hlive hr hb (holds_of hb')
        rw [e, hZ'] at hZ; cases hZ
    rcases e2 with e2 | ⟨hZ, e2⟩
    · rw [e2]; trivial
    · generalize (σ.own l).obj = q at e2 hok hnF
      generalize (σ'.own l).obj = q' at e2
      cases q with
      | dead => have e2 : Own.dead = q' := by cases q' <;> exact e2
                subst e2; trivial
      | box ty cs => cases q' with
        | box ty' cs' =>
          obtain ⟨rfl, hfl⟩ := e2
          obtain ⟨b, vs, r1, r2, r3, r4, r5, r6⟩ := hok
          exact ⟨b, vs, r1, r2, hfl.cells hcell r3, r4, r5, hnF hZ rfl b (show blk (ρ (pl l)) = some b by rw [r1]; rfl) r6⟩
        | _ => cases e2
      | row ty k xs =>
        have e2 : Own.row ty k xs = q' := by cases q' <;> exact e2
        subst e2
        obtain ⟨vs, hw, hr, hn⟩ := hok
        exact ⟨vs, hw, hr.mono hsub, fun b hb => ⟨(hn b hb).1, hnF hZ rfl b hb (hn b hb).2⟩⟩
      | tail ty k xs =>
        have e2 : Own.tail ty k xs = q' := by cases q' <;> exact e2
        subst e2
        obtain ⟨vs, hw, hr, hn⟩ := hok
        exact ⟨vs, hw, hr.mono hsub, fun b hb => ⟨(hn b hb).1, hnF hZ rfl b hb (hn b hb).2⟩⟩
      | deep ty ety el xs gg =>
        have e2 : Own.deep ty ety el xs gg = q' := by cases q' <;> exact e2
        subst e2
        obtain ⟨vs, hw, h1, hn, hin⟩ := hok
        refine ⟨vs, hw, h1, fun b hb => ⟨(hn b hb).1, hnF hZ rfl b (.inl hb) (hn b hb).2⟩, fun i x hx hgi => ?_⟩
        obtain ⟨q1, ⟨us, hu, hr⟩, q3⟩ := hin i x hx hgi
        exact ⟨q1, ⟨us, hu, hr.mono hsub⟩, fun b hb => ⟨(q3 b hb).1, hnF hZ rfl b (.inr ⟨i, x, hx, hgi, hb⟩) (q3 b hb).2.1, (q3 b hb).2.2⟩⟩
  · have hol : ∀ l, (σ'.own l).obj.live = true → holds ρ l (σ'.own l).obj b → holds ρ l (σ.own l).obj b := fun l h hh => by
      rcases (ho l).2 with e2 | ⟨-, e2⟩
      · rw [e2] at h; cases h
      · generalize (σ.own l).obj = q at e2 ⊢
        generalize (σ'.own l).obj = q' at e2 h hh
        cases q with
        | box ty cs => cases q' with
          | box ty' cs' => exact hh
          | _ => cases e2
        | dead => have e2 : Own.dead = q' := by cases q' <;> exact e2
                  subst e2; exact hh
        | row ty k xs => have e2 : Own.row ty k xs = q' := by cases q' <;> exact e2
                         subst e2; exact hh
        | tail ty k xs => have e2 : Own.tail ty k xs = q' := by cases q' <;> exact e2
                          subst e2; exact hh
        | deep ty ety el xs gg => have e2 : Own.deep ty ety el xs gg = q' := by cases q' <;> exact e2
                                  subst e2; exact hh
    have live : ∀ l, (σ'.own l).obj.live = true → (σ.own l).obj.live = true := fun l h => by
      rcases (ho l).2 with e2 | ⟨-, e2⟩
      · rw [e2] at h; cases h
      · generalize (σ.own l).obj = q at e2
        generalize (σ'.own l).obj = q' at e2 h
        cases q with
        | dead => have e2 : Own.dead = q' := by cases q' <;> exact e2
                  subst e2; exact h
        | _ => rfl
    exact fun b1 b2 => H.mem.apart l l' b hne (live l a1) (live l' a2) (hol l a1 b1) (hol l' a2 b2)
  · rcases hF' b hb with hb | ⟨l, -, hr, hb⟩
    · exact H.mem.fin b hb
    · exact (blk_lt H.mem hr (holds_of hb)).1
  · rcases hF' b hb with hb | ⟨l, hZ, hr, hb⟩
    · exact .inl hb
    · exact .inr (blk_lt H.mem hr (holds_of hb)).2.1

/-- A row that is not empty may be looked at as the tail of one. -/
theorem Here.tl {σ σ' : St} {a : Act} {w : World} {ρ : Nat → Value} (hk : Tl σ σ') (H : Here P c N F ρ σ.own σ.slots a w) : Here P c N F ρ σ'.own σ'.slots a w := by
  obtain ⟨l, ty, k, xs, hne, hl, rfl⟩ := hk
  have hok := H.mem.ok l
  rw [hl] at hok
  obtain ⟨vs, hw, hr, hn⟩ := hok
  have ht := TailOk.ofRow hw (List.length_pos_iff.2 hne)
  have hC : ∀ x v, CellC w F ρ σ.own x v → CellC w F ρ (upd σ.own l ⟨(σ.own l).ver, .tail ty k xs⟩) x v := by
    intro x v hc
    cases x with
    | d x => exact hc
    | own l' ver =>
      obtain ⟨g1, g2, g3⟩ := hc
      by_cases e : l' = l
      · subst e
        refine ⟨g1, by rw [upd_eq]; exact g2, fun h => g3 ⟨?_, by rw [hl]; trivial⟩⟩
        have := h.1
        rw [upd_eq] at this
        exact this
      · refine ⟨g1, by rw [upd_ne _ _ e]; exact g2, fun h => g3 ?_⟩
        rw [upd_ne _ _ e] at h
        exact h
    | ptr l' ver i j =>
      obtain ⟨g1, g2, g3⟩ := hc
      by_cases e : l' = l
      · subst e
        refine ⟨g1, by rw [upd_eq]; exact g2, fun e => ?_⟩
        rw [upd_eq] at e ⊢
        have g3 := g3 e
        rw [hl] at g3
        obtain ⟨b, hb, rfl⟩ := g3
        obtain ⟨g, off, cap, cur, hρ, -⟩ := ht
        rcases hw.2 with ⟨_, h0⟩ | ⟨g', cap', cur', hρ', -⟩
        · exact absurd (List.eq_nil_of_length_eq_zero h0) hne
        · rw [hρ'] at hb
          simp only [blk, Option.some.injEq] at hb
          subst hb
          exact ⟨g', 0, _, _, hρ', by rw [Nat.zero_add]⟩
      · refine ⟨g1, by rw [upd_ne _ _ e]; exact g2, fun h => ?_⟩
        rw [upd_ne _ _ e] at h ⊢
        exact g3 h
    | sub l' ver off m =>
      obtain ⟨g1, g2, g3⟩ := hc
      by_cases e : l' = l
      · subst e
        refine ⟨g1, by rw [upd_eq]; exact g2, fun e => ?_⟩
        rw [upd_eq]
        exact ⟨fun _ _ _ h => (by cases h), fun _ _ _ _ _ _ h => (by cases h)⟩
      · refine ⟨g1, by rw [upd_ne _ _ e]; exact g2, fun h => ?_⟩
        rw [upd_ne _ _ e] at h ⊢
        exact g3 h
  refine ⟨H.cfg, fun t => AVC.imp hC (H.sl t), ?_⟩
  refine H.mem.step (l := l) (Ext.refl w F) (fun l' h => ⟨upd_ne _ _ h, rfl⟩) (fun _ _ _ => rfl) hC (fun l' b hne' h1 h2 h3 h4 => ⟨rfl, h4⟩) ?_ (fun l' b hne' h1 h2 h3 => ?_) H.mem.fin
  · show OwnOk w N F ρ _ l (upd σ.own l ⟨(σ.own l).ver, .tail ty k xs⟩ l).obj
    rw [upd_eq]
    exact ⟨vs, ht, hr, hn⟩
  · have h2 : holds ρ l (upd σ.own l ⟨(σ.own l).ver, .tail ty k xs⟩ l).obj b := h2
    rw [upd_eq] at h2
    exact H.mem.apart l l' b (Ne.symm hne') (by rw [hl]; rfl) h1 (holds_of h2) h3
/-- The new row is data at once. -/
theorem next_frz {K : St → Prop} {a' : Act} {w' : World} {F' : Nat → Prop} {ρ' : Nat → Value} {r r' : AV × (Nat → Loc)} {q : Prop} (hn : Next' P c N F ρ own a w ⟨(St.put ⟨slots, own⟩ o.dst r.1).slots, r.2⟩ a' w' F' ρ') (hf : frzR c r = .ok q r') (hq : q)
    (hK : K ⟨(St.put ⟨slots, own⟩ o.dst r'.1).slots, r'.2⟩) : ∃ σ' F' ρ', K σ' ∧ Next' P c N F ρ own a w σ' a' w' F' ρ' := by
  obtain ⟨x, own1⟩ := r
  unfold frzR at hf
  split at hf
  · rename_i l ver own2 hr
    injection hr with e1 e2
    subst e1
    subst e2
    split at hf
    · rename_i ver' ty k xs hl
      injection hf with e1 e2
      subst e1
      subst e2
      obtain ⟨rfl, -⟩ := hq
      have hw : Wk c ⟨(St.put ⟨slots, own⟩ o.dst (.one (.own l ver))).slots, own1⟩ ⟨(St.put ⟨slots, own⟩ o.dst (.one (.d (.sl none k xs)))).slots, upd own1 l ⟨ver, .dead⟩⟩ := by
        have hrefl : ∀ (Z : Nat → Bool) (ow : Nat → Loc) (x : AV), RelA (FrzC Z ow) x x := fun Z ow x => by
          have hL : ∀ (xs : List Cell), RelL (FrzC Z ow) xs xs := fun xs => by
            induction xs with
            | nil => trivial
            | cons x xs ih => exact ⟨.inl rfl, ih⟩
          cases x <;> first | exact .inl rfl | exact hL _ | rfl
        have hreflO : ∀ (Z : Nat → Bool) (ow : Nat → Loc) (x : Own), RelO (FrzC Z ow) x x := fun Z ow x => by
          have hL : ∀ (xs : List Cell), RelL (FrzC Z ow) xs xs := fun xs => by
            induction xs with
            | nil => trivial
            | cons x xs ih => exact ⟨.inl rfl, ih⟩
          cases x <;> first | exact ⟨rfl, hL _⟩ | rfl
        refine ⟨fun m => Nat.beq m l, fun t => ?_, fun m => ?_⟩
        · cases hd : o.dst with
          | none => exact hrefl _ _ _
          | some d =>
            show RelA _ (upd slots d _ t) (upd slots d _ t)
            rw [upd_get, upd_get]
            by_cases e : t = d
            · rw [if_pos e, if_pos e]
              exact .inr (.inl ⟨l, ver, ty, k, xs, rfl, by simp, hl, rfl⟩)
            · rw [if_neg e, if_neg e]; exact hrefl _ _ _
        · show (upd own1 l ⟨ver, .dead⟩ m).ver = (own1 m).ver ∧ ((upd own1 l ⟨ver, .dead⟩ m).obj = .dead ∨ _)
          by_cases e : m = l
          · subst e; rw [upd_eq, hl]; exact ⟨rfl, .inl rfl⟩
          · rw [upd_ne _ _ e]
            refine ⟨rfl, .inr ⟨?_, ?_⟩⟩
            · cases hb : Nat.beq m l
              · exact hb
              · exact absurd (Nat.eq_of_beq_eq_true hb) e
            · show RelO _ _ (upd own1 l ⟨ver, .dead⟩ m).obj
              rw [upd_ne _ _ e]
              exact hreflO _ _ _
      obtain ⟨F'', h1, h2, h3⟩ := Here.wk hw hn.here
      refine ⟨_, F'', ρ', hK, ⟨h1, hn.ext.trans (ext_sub h2), hn.fr, fun b hb => (h3 b hb).elim (hn.new b) .inr, hn.size, hn.defers, fun m => ?_, fun m hm => ?_⟩⟩
      · rw [(hw.choose_spec.2 m).1]; exact hn.mono m
      · rw [(hw.choose_spec.2 m).1] at hm; exact hn.keep m hm
    · cases hf
  · cases hf

theorem s_op (H : Here P c N F ρ own slots a w) (hN : ∀ b, w.heap.size ≤ b → N b) (hd : ∀ d, o.dst = some d → d < a.tmps.size) {K : St → Prop} (h : aop c o ⟨slots, own⟩ K) : Eff P c N F ρ own o a w K Q := by
  unfold aop at h
  split at h
  · unfold VR.run at h
    split at h
    · cases h
    · rename_i p r hv
      unfold aeffS at hv
      split at hv
      · exact s_deep H hN hd hv h.1 h.2
      split at hv
      · cases hv2 : aeff c o (evA slots) own with
        | no => rw [hv2] at hv; cases hv
        | ok p0 r0 =>
          rw [hv2] at hv
          cases hf : frzR c r0 with
          | no => simp only [VR.bind, hf] at hv; cases hv
          | ok q r' =>
            simp only [VR.bind, hf] at hv
            injection hv with e1 e2
            subst e1
            subst e2
            refine Oper.wp_mono (fun a' w' h' => ?_) (s_eff (K := fun σ => σ = ⟨(St.put ⟨slots, own⟩ o.dst r0.1).slots, r0.2⟩) (Q := Q) H hN hd hv2 h.1.1 rfl)
            obtain ⟨σ', F', ρ', rfl, hnx⟩ := h'
            exact next_frz hnx hf h.1.2 h.2
      · exact s_eff H hN hd hv h.1 h.2
  · have h : (aval c (evA slots) own o.op).run fun x => K (St.put ⟨slots, own⟩ o.dst x) := by
      split at h
      · exact h.2
      · split at h
        · exact h.2
        · exact h
    unfold VR.run at h
    split at h
    · cases h
    · rename_i p x hv
      obtain ⟨hp, hK⟩ := h
      refine Oper.wp_mono (fun a' w' h => ?_) (s_val (Q := Q) H hv hp)
      obtain ⟨u, F', rfl, hb, hs, hn, hx⟩ := h
      have hext : Ext w F w' F' := ⟨hb.os, hb.tape, hb.output, hb.size, fun b h => hb.block b (H.mem.fin b h), hs⟩
      refine ⟨_, F', ρ, hK, ⟨H.cfg, ?_, ?_⟩, hext, fun b h _ => hb.block b h, fun b h => (hn b h).imp id (fun h => hN b h.1), put_size _ _ _, put_defers' _ _ _, fun l => by cases o.dst <;> exact Nat.le_refl _, fun _ _ => ⟨rfl, fun _ => rfl⟩⟩
      · cases hdst : o.dst with
        | none => exact fun t => (H.sl t).mono hext
        | some d => exact slots_put (fun z v hz => CellC.mono hext hz) H.sl (hd d hdst) hx
      · cases hdst : o.dst <;> exact H.mem.grow hb hn hs

theorem s_junk (H : Here P c N F ρ own slots a w) (hd : ∀ d, o.dst = some d → d < a.tmps.size) : Here P c N F ρ (St.put ⟨slots, own⟩ o.dst (.tup [])).own (St.put ⟨slots, own⟩ o.dst (.tup [])).slots (a.put o.dst undef) w := by
  cases hdst : o.dst with
  | none => exact H
  | some d => exact ⟨H.cfg, slots_put (fun z v hz => hz) H.sl (hd d hdst) ⟨[], rfl, rfl, fun j x u hx => by simp at hx⟩, H.mem⟩
end

/-- The state of a running activation: what it may read, what it owns; of what was there nothing has turned. -/
def Good (P : Program) (c : Cfg) (w0 : World) (N F0 : Nat → Prop) (ρ0 : Nat → Value) (own0 : Nat → Loc) (n : Nat) (σ : St) (a : Act) (w : World) : Prop :=
  ∃ F ρ, Here P c N F ρ σ.own σ.slots a w ∧ Ext w0 F0 w F ∧ (∀ b, b < w0.heap.size → ¬ N b → w.heap[b]? = w0.heap[b]?) ∧ (∀ b, F b → F0 b ∨ N b) ∧ a.tmps.size = n ∧ a.defers = [] ∧ ∀ l, (own0 l).ver ≤ (σ.own l).ver ∧ ((σ.own l).ver = (own0 l).ver → ρ (pl l) = ρ0 (pl l) ∧ ∀ i, ρ (inn l i) = ρ0 (inn l i))

section
variable {P : Program} {c : Cfg} {w0 : World} {N F0 : Nat → Prop} {ρ0 : Nat → Value} {own0 : Nat → Loc} {n : Nat}

theorem Good.next {σ' : St} {a a' : Act} {w w' : World} {F F' : Nat → Prop} {ρ ρ' : Nat → Value} {own : Nat → Loc} (hx : Ext w0 F0 w F) (hfr : ∀ b, b < w0.heap.size → ¬ N b → w.heap[b]? = w0.heap[b]?) (hF : ∀ b, F b → F0 b ∨ N b) (hn : a.tmps.size = n)
    (hdf : a.defers = [] ∧ ∀ l, (own0 l).ver ≤ (own l).ver ∧ ((own l).ver = (own0 l).ver → ρ (pl l) = ρ0 (pl l) ∧ ∀ i, ρ (inn l i) = ρ0 (inn l i))) (h : Next' P c N F ρ own a w σ' a' w' F' ρ') : Good P c w0 N F0 ρ0 own0 n σ' a' w' :=
  ⟨F', ρ', h.here, hx.trans h.ext, fun b hb hnb => (h.fr b (Nat.lt_of_lt_of_le hb hx.size) hnb).trans (hfr b hb hnb), fun b hb => (h.new b hb).elim (hF b) .inr, by rw [h.size, hn], by rw [h.defers, hdf.1],
    fun l => ⟨Nat.le_trans (hdf.2 l).1 (h.mono l), fun e => by
      have h1 := (hdf.2 l).1
      have h2 := h.mono l
      have k1 := h.keep l (by omega)
      have k2 := (hdf.2 l).2 (by omega)
      exact ⟨k1.1.trans k2.1, fun i => (k1.2 i).trans (k2.2 i)⟩⟩⟩

theorem Good.kill {σ : St} {a : Act} {w : World} (D : Nat → Bool) (h : Good P c w0 N F0 ρ0 own0 n σ a w) : Good P c w0 N F0 ρ0 own0 n ⟨σ.slots, killW D σ.own⟩ a w := by
  obtain ⟨F, ρ, H, hx, h1, h2, h3, h4, h5⟩ := h
  exact ⟨F, ρ, ⟨H.cfg, fun t => AVC.imp (fun _ _ h => h.kill D) (H.sl t), H.mem.kill D⟩, hx, h1, h2, h3, h4, fun l => by rw [killW_ver]; exact h5 l⟩

theorem Good.drew {σ : St} {a : Act} {w : World} (h : Good P c w0 N F0 ρ0 own0 n σ a w) : Good P c w0 N F0 ρ0 own0 n σ a { w with drawn := w.drawn + 1 } := by
  obtain ⟨F, ρ, H, hx, h1, h2, h3, h4⟩ := h
  have hext : Ext w F { w with drawn := w.drawn + 1 } F := ⟨rfl, rfl, rfl, Nat.le_refl _, fun _ _ => rfl, fun _ h => h⟩
  exact ⟨F, ρ, ⟨H.cfg, fun t => (H.sl t).mono hext, H.mem.grow ⟨rfl, rfl, rfl, Nat.le_refl _, fun _ _ => rfl⟩ (fun b h => .inl h) (fun _ h => h)⟩, hx.trans hext, h1, h2, h3, h4⟩

/-- One operation of a region, its guard seen to. -/
def run1 (c : Cfg) (ops : List Oper) (o : Oper) (σ : St) (K : St → Prop) : Prop :=
  aguard ops o σ fun wd σ' => match wd with
    | true => aop c o σ' K
    | false => K (σ'.put o.dst (.tup []))

theorem arun_cons (ops : List Oper) (o : Oper) (rest : List Oper) (σ : St) (K : St → Prop) : arun c ops (o :: rest) σ K = run1 c ops o σ (fun σ' => arun c ops rest σ' K) := rfl

/-- What a guard's slot says of whether an operation is wanted. -/
def WantV (v : AV) (want wd : Bool) : Prop := (∃ b, v = .one (.d (.bool b)) ∧ wd = (b == want)) ∨ (v = .tup [] ∧ wd = false)

/-- What the guard says. -/
theorem guard_ok {ops : List Oper} {o : Oper} {σ : St} {K : Bool → St → Prop} (h : aguard ops o σ K) :
    ∃ wd, K wd σ ∧ ((o.guard = none ∧ wd = true) ∨ ∃ j want oj d v, o.guard = some (j, want) ∧ ops[j]? = some oj ∧ oj.dst = some d ∧ σ.slots d = v ∧ WantV v want wd) := by
  unfold aguard at h
  split at h
  · rename_i hg
    exact ⟨true, h, .inl ⟨hg, rfl⟩⟩
  · rename_i j want hg
    split at h
    · rename_i oj hoj
      split at h
      · rename_i d hd
        split at h
        · rename_i b hb
          cases b with
          | true =>
            refine ⟨true == want, ?_, .inr ⟨j, want, oj, d, _, hg, hoj, hd, hb, .inl ⟨true, rfl, rfl⟩⟩⟩
            have := h.1 rfl
            rwa [upd_self hb] at this
          | false =>
            refine ⟨false == want, ?_, .inr ⟨j, want, oj, d, _, hg, hoj, hd, hb, .inl ⟨false, rfl, rfl⟩⟩⟩
            have := h.2 rfl
            rwa [upd_self hb] at this
        · rename_i hb
          exact ⟨false, h, .inr ⟨j, want, oj, d, _, hg, hoj, hd, hb, .inr ⟨rfl, rfl⟩⟩⟩
        · cases h
      · cases h
    · cases h

theorem guard_mk {ops : List Oper} {o : Oper} {σ : St} {K : Bool → St → Prop} {wd : Bool} (hK : K wd σ) (h : (o.guard = none ∧ wd = true) ∨ ∃ j want oj d v, o.guard = some (j, want) ∧ ops[j]? = some oj ∧ oj.dst = some d ∧ σ.slots d = v ∧ WantV v want wd) : aguard ops o σ K := by
  unfold aguard
  rcases h with ⟨h1, rfl⟩ | ⟨j, want, oj, d, v, h1, h2, h3, h4, ⟨b, rfl, rfl⟩ | ⟨rfl, rfl⟩⟩
  · simp only [h1]; exact hK
  rotate_left
  · simp only [h1, h2, h3, h4]; exact hK
  · simp only [h1, h2, h3, h4]
    refine ⟨fun hb => ?_, fun hb => ?_⟩
    · subst hb
      rw [upd_self h4]; exact hK
    · subst hb
      rw [upd_self h4]; exact hK

theorem wanted_ok {ops : Array Oper} {o : Oper} {σ : St} {a : Act} {w : World} {F : Nat → Prop} {ρ : Nat → Value} (H : Here P c N F ρ σ.own σ.slots a w) {wd : Bool}
    (h : (o.guard = none ∧ wd = true) ∨ ∃ j want oj d v, o.guard = some (j, want) ∧ ops.toList[j]? = some oj ∧ oj.dst = some d ∧ σ.slots d = v ∧ WantV v want wd) : Region.wanted o (yielded ops a.tmps) = wd := by
  unfold Region.wanted
  rcases h with ⟨h1, rfl⟩ | ⟨j, want, oj, d, v, h1, h2, h3, h4, ⟨b, rfl, rfl⟩ | ⟨rfl, rfl⟩⟩
  · rw [h1]
  rotate_left
  · rw [h1]
    have hb : a.tmps.getD d undef = undef := by
      have := H.sl d
      rw [h4] at this
      obtain ⟨vs, e, hl, -⟩ := this
      rw [e, List.eq_nil_of_length_eq_zero hl]; rfl
    have h2' : ops[j]? = some oj := by simpa using h2
    rcases Nat.lt_or_ge d a.tmps.size with hlt | hge
    · simp [hlt] at hb
      simp [yielded, h2', h3, hlt, hb, undef]
    · simp [yielded, h2', h3, Array.getElem?_eq_none hge]
  · rw [h1]
    have hb : a.tmps.getD d undef = .bool b := boolD (F := F) (w := w) (by have := H.sl d; rw [h4] at this; exact this)
    have hb' : a.tmps[d]? = some (.bool b) := by
      rcases Nat.lt_or_ge d a.tmps.size with hlt | hge
      · simp [hlt] at hb ⊢; exact hb
      · simp [Array.getElem?_eq_none hge, undef] at hb
    have h2' : ops[j]? = some oj := by simpa using h2
    simp [yielded, h2', h3, hb']

/-- One operation comes up. -/
theorem step1 {ops : Array Oper} {o : Oper} {i : Nat} (hi : ops[i]? = some o) (hN : ∀ b, w0.heap.size ≤ b → N b) (hd : ∀ d, o.dst = some d → d < n) {σ : St} {a : Act} {w : World} {K : St → Prop} {Q : Exit → Act → World → Prop} {R : Act → World → Prop}
    (hg : Good P c w0 N F0 ρ0 own0 n σ a w) (h : run1 c ops.toList o σ K) (hR : ∀ σ' a' w', K σ' → Good P c w0 N F0 ρ0 own0 n σ' a' w' → R a' w') : wpOp P ops Q i R a w := by
  obtain ⟨F, ρ, H, hx, h1, h2, h3, h4⟩ := hg
  obtain ⟨wd, hwd, hw⟩ := guard_ok h
  have hwant := wanted_ok (ops := ops) H hw
  unfold wpOp
  simp only [hi]
  rw [hwant]
  cases wd with
  | true =>
    simp only [if_true]
    refine .inl (Oper.wp_mono (fun a' w' hh => ?_) (s_op (Q := Q) H (fun b hb => hN b (Nat.le_trans hx.size hb)) (fun d hdd => by rw [h3]; exact hd d hdd) hwd))
    obtain ⟨σ', F', ρ', hK, hnx⟩ := hh
    exact hR σ' a' w' hK (Good.next hx h1 h2 h3 h4 hnx)
  | false =>
    simp only [Bool.false_eq_true, if_false]
    refine hR _ _ _ hwd ⟨F, ρ, s_junk H (fun d hdd => by rw [h3]; exact hd d hdd), hx, h1, h2, ?_, ?_⟩
    · rw [put_size, h3]
    · exact ⟨by rw [put_defers', h4.1], fun l => by cases o.dst <;> exact h4.2 l⟩

/-- A region in the order of its text. -/
theorem wp_text {ops : Array Oper} (hN : ∀ b, w0.heap.size ≤ b → N b) (hd : ∀ (i : Nat) o d, ops[i]? = some o → o.dst = some d → d < n) {K : St → Prop} {Q : Exit → Act → World → Prop} (hK : ∀ σ' a' w', K σ' → Good P c w0 N F0 ρ0 own0 n σ' a' w' → Q .normal a' w') :
    ∀ (m i : Nat) (σ : St) (a : Act) (w : World), m + i = ops.size → Good P c w0 N F0 ρ0 own0 n σ a w → arun c ops.toList (ops.toList.drop i) σ K → wpOps P ops Q (List.range' i m) a w
  | 0, i, σ, a, w, hm, hg, h => by
    have : ops.toList.drop i = [] := List.drop_eq_nil_of_le (by simp; omega)
    rw [this] at h
    exact hK σ a w h hg
  | m + 1, i, σ, a, w, hm, hg, h => by
    have hlt : i < ops.size := by omega
    have hi : ops[i]? = some ops[i] := by simp [hlt]
    have hdrop : ops.toList.drop i = ops[i] :: ops.toList.drop (i + 1) := by
      rw [List.drop_eq_getElem_cons (by simpa using hlt)]; simp
    rw [hdrop, arun_cons] at h
    rw [List.range'_succ, wpOps_cons]
    exact step1 hi hN (fun d hdd => hd i _ d hi hdd) hg h fun σ' a' w' h1 h2 => wp_text hN hd hK m (i + 1) σ' a' w' (by omega) h2 h1
end
end Go.Proofs.Ytfjmlaciogmndaa
