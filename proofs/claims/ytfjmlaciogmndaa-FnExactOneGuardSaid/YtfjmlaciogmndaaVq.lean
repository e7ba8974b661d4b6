/- Contracts with rows of rows: as results, and as arguments that are written. -/
import Derived.Test.YtfjmlaciogmndaaVj
namespace Go.Proofs.Ytfjmlaciogmndaa
open Go.RowKit

def srcIsD (own : Nat → Loc) (R : RowR) (ety : TypeId) : Option (Nat × Nat) → Prop
  | some (l, ver) => match own l with
    | ⟨ver', .deep ty ety' e xs g⟩ => ver = ver' ∧ ty = R.ty ∧ ety' = ety ∧ allG g xs.length ∧ castL R.k (.s e) xs = some R.xs ∧ (R.nl = none ∨ (R.nl = some false ∧ R.xs ≠ []))
    | _ => False
  | none => R.xs = [] ∧ R.k.base = false ∧ (R.nl = none ∨ R.nl = some true)
def RetIsD (own : Nat → Loc) (x : AV) (r : RV) (ety : TypeId) : Prop :=
  match r.row with
  | none => False
  | some R => srcIsD own R ety (firstOwn x) ∧ avIs own true (firstOwn x) x r.av
/-- The post of a body whose result is a row of new rows. -/
def FinD (c : Cfg) (rs : List ResultVar) (ety : TypeId) (r : RV) : Exit → St → Prop
  | .normal, σ | .ret, σ => (resV c σ rs).run fun x => RetIsD σ.own x r ety
  | _, _ => False
def mkConD (ts : List Ty) (pre : Args ts → Prop) (res : Args ts → RV) (ety : TypeId) : Con := ⟨Args ts, decs ts, pre, res, some ety⟩
def rowOfD (ty ety : TypeId) : AV → Own
  | .one (.d (.sl _ (.s .int) xs)) => .deep ty ety .int xs noG
  | _ => .dead
def ownDW (wi : Nat) (ty ety : TypeId) (ts : List Ty) (x : Args ts) : Nat → Loc := match nthA (encs ts x) wi with
  | some y => upd deadOwn 1000 ⟨0, rowOfD ty ety y⟩
  | none => deadOwn
def mkConDW (ts : List Ty) (wi : Nat) (ty ety : TypeId) (pre : Args ts → Prop) (av : Args ts → AV) (out : Args ts → List (List Int)) : ConD := ⟨Args ts, decs ts, pre, wi, ty, ety, av, out⟩
/-- The post of a body that writes the inner rows of an argument. -/
def FinDW (c : Cfg) (rs : List ResultVar) (ty ety : TypeId) (av : AV) (ys : List (List Int)) : Exit → St → Prop
  | .normal, σ | .ret, σ => (resV c σ rs).run fun y => match σ.own 1000 with
    | ⟨ver, .deep ty' ety' .int zs g⟩ => ver = 0 ∧ ty' = ty ∧ ety' = ety ∧ zs = ys ∧ allG g zs.length ∧ flat av = true ∧ avIs σ.own false none y av
    | _ => False
  | _, _ => False
theorem dec_ownD {a : AV} {l ver : Nat} (ho : ownCell a = some (l, ver)) {xs : List (List Int)} {t : Ty} {u : t.T} (h : t.dec (ownAs a (.d (.sl none (.s .int) xs))) = some u) (ty ety : TypeId) :
    toOwn (t.enc u) = ownAs a (.own 1000 0) ∧ rowOfD ty ety (t.enc u) = .deep ty ety .int xs noG := by
  unfold ownCell at ho
  split at ho
  · simp only [ownAs] at h ⊢
    cases t <;> simp only [Ty.dec] at h <;> first | (cases h; done) | skip
    obtain ⟨e, he⟩ := castL_ok h
    subst e
    subst he
    exact ⟨rfl, rfl⟩
  · simp only [ownAs] at h ⊢
    cases t <;> unfold Ty.dec at h <;> simp only at h <;> first | (cases h; done) | skip
  · cases ho

section
variable {P : Program} {c : Cfg} {w : World} {N F : Nat → Prop} {ρ : Nat → Value} {own : Nat → Loc} {slots : Nat → AV} {a : Act}

/-- From a run of the body to a contract whose result is a row of new rows. -/
theorem sound_of_runD {f : FuncId} {fn : Func} {body : Code} {ts : List Ty} {pre : Args ts → Prop} {res : Args ts → RV} {ety : TypeId} (hm : P.follows .mixedOrders = true) (hc : CfgOk P c) (hf : P.funcs[f]? = some fn) (hb : fn.body = some body)
    (hn : ts.length ≤ fn.ntmps) (hcode : codeB c fn.ntmps body = true) (hrun : ∀ x, pre x → awp c body (FinD c fn.results.toList ety (res x)) ⟨initS (encs ts x), deadOwn⟩) : Sound P f (mkConD ts pre res ety) := by
  intro w F args vs x hpat hpre hF hlen hargs
  obtain ⟨hl, henc⟩ := decs_weak hpat hargs
  refine calls_of_wp hf hb ?_
  have hinit : Good P c w (fun b => w.heap.size ≤ b) F noRho deadOwn fn.ntmps ⟨initS (encs ts x), deadOwn⟩ { tmps := vs.toArray ++ Array.replicate (fn.ntmps - vs.toArray.size) undef, defers := [] } w := by
    refine ⟨F, noRho, ⟨hc, fun t => ?_, ⟨fun l => trivial, (fun l l' b _ h => by cases h), hF⟩⟩, Ext.refl w F, fun _ _ _ => rfl, fun b h => .inl h, ?_, rfl, fun l => ⟨Nat.le_refl _, fun _ => ⟨rfl, fun _ => rfl⟩⟩⟩
    · show AVC w F noRho deadOwn (initS (encs ts x) t) _
      unfold initS
      cases ht : (encs ts x)[t]? with
      | none => trivial
      | some y =>
        have hlt : t < vs.length := by
          have := (List.getElem?_eq_some_iff.1 ht).1
          have he : (encs ts x).length = ts.length := encs_len ts x
          omega
        have hv : vs[t]? = some vs[t] := List.getElem?_eq_getElem hlt
        have := henc t y _ ht hv
        simp only [Option.getD_some]
        have hg : (vs.toArray ++ Array.replicate (fn.ntmps - vs.toArray.size) undef).getD t undef = vs[t] := by
          simp [hlt, Array.getElem?_append]
        rw [hg]
        exact this
    · simp; omega
  refine wp_code hm (w0 := w) (N := fun b => w.heap.size ≤ b) (fun b h => h) body _ _ _ _ _ hcode (fun e σ' a' w' h1 h2 => ?_) hinit (hrun x hpre)
  -- the end
  have hfin : ∀ {σ' : St} {a' : Act} {w' : World}, Good P c w (fun b => w.heap.size ≤ b) F noRho deadOwn fn.ntmps σ' a' w' → ((resV c σ' fn.results.toList).run fun y => RetIsD σ'.own y (res x) ety) → a'.defers = [] ∧ ∃ v, (results fn a'.tmps).run P w' = .ok v w' ∧ (∃ v', (Ending.returned v) = .returned v' ∧ Below w.heap.size w w' ∧ RetX w w' F (some ety) (res x) v') := by
    intro σ' a' w' hg h
    obtain ⟨F', ρ, H, hext, hfr, hnew, hsz, hdf⟩ := hg
    unfold VR.run at h
    split at h
    · cases h
    · rename_i p y hv
      obtain ⟨hp, h⟩ := h
      obtain ⟨v, r1, r2⟩ := resV_ok H hv hp
      refine ⟨hdf.1, v, r1, v, rfl, ⟨hext.os, hext.tape, hext.output, hext.size, fun b hb => hfr b hb (by omega)⟩, ?_⟩
      have hnb : ∀ l b, (σ'.own l).obj.live = true → blk (ρ (pl l)) = some b → w.heap.size ≤ b ∧ b < w'.heap.size := fun l b hl hb => by
        obtain ⟨g1, g2, _⟩ := blk_lt H.mem hl (holds_of hb)
        exact ⟨g2, g1⟩
      have hFn : ∀ b, F' b → F b ∨ (w.heap.size ≤ b ∧ b < w'.heap.size) := fun b hb => (hnew b hb).imp id (fun h => ⟨h, H.mem.fin b hb⟩)
      unfold RetIsD at h
      split at h
      · cases h
      · rename_i R hrow
        obtain ⟨hsrc, hav⟩ := h
        have hfinal : ∀ (ty : TypeId) (nl : Option Bool) (e : ElB) (xs : List (List e.T)) (s : Value) (inner : Nat → Value), (res x).row = some ⟨ty, nl, .s e, xs⟩ → DeepAt w' (fun b => w.heap.size ≤ b) (fun _ => False) ty ety e xs s inner → nilOk nl s → (∀ b, F' b → newD w w' F s inner xs.length b) →
            (match firstOwn y with | some (l, ver) => (σ'.own l).ver = ver ∧ (σ'.own l).obj.rowy ∧ s = ρ (pl l) | none => s = .slice none 0 0) → RetX w w' F (some ety) (res x) v := by
          intro ty nl e xs s inner g0 g1 g2 g4 g5
          unfold RetX RetD
          simp only [g0]
          exact ⟨s, inner, g1, g2, avIs_ok H.mem (row := true) (s := s) g4 (fun h => by cases h) (fun _ => g5) hav r2⟩
        unfold srcIsD at hsrc
        split at hsrc
        · rename_i l ver hfo
          split at hsrc
          · rename_i ver' ty ety' e xs g hl
            obtain ⟨rfl, rfl, rfl, hg, hcast, hnl⟩ := hsrc
            obtain ⟨e', he⟩ := castL_ok hcast
            obtain ⟨Rty, Rnl, Rk, Rxs⟩ := R
            simp only at e' he hcast hnl hfinal ⊢
            subst e'
            simp only at he
            subst he
            obtain ⟨vs, hw, h1, hn, hin⟩ := deep_at H hl hg
            refine hfinal _ _ _ _ (ρ (pl l)) (fun i => ρ (inn l i)) hrow ⟨vs, hw, h1, fun b hb => (hn b hb).1.1, fun i x hx => ?_⟩ ?_ (fun b hb => ⟨hFn b hb, fun e => (hn b e).1.2 hb, fun i hi e => ?_⟩) ?_
            · obtain ⟨q1, q2, q3⟩ := hin i x hx
              exact ⟨q1, q2, fun b hb => ⟨(q3 b hb).1.1.1, (q3 b hb).2⟩⟩
            · have hok := H.mem.ok l
              rw [hl] at hok
              exact nil_or (deep_data hok hg) hnl
            · exact ((hin i _ (List.getElem?_eq_getElem hi)).2.2 b e).1.1.2 hb
            · rw [hfo]
              exact ⟨by rw [hl], by rw [hl]; trivial, rfl⟩
          · cases hsrc
        · rename_i hfo
          obtain ⟨hxs, hkb, hnl⟩ := hsrc
          obtain ⟨Rty, Rnl, Rk, Rxs⟩ := R
          cases Rk with
          | b e => cases hkb
          | s e =>
            simp only at hxs hnl hfinal ⊢
            subst hxs
            refine hfinal _ _ _ _ (.slice none 0 0) (fun _ => undef) hrow ⟨[], World.ownsRow_nil _ _ _ _, fun v hv => by simp at hv, fun b hb => by simp [blk] at hb, fun i x hx => by simp at hx⟩ ?_ (fun b hb => ⟨hFn b hb, by simp [blk], fun i hi => by simp at hi⟩) (by rw [hfo])
            rintro b rfl
            rcases hnl with h | h
            · cases h
            · injection h with h; subst h; simp
  cases e with
  | normal => exact hfin h2 h1
  | ret => exact hfin h2 h1
  | exit id => exact h1
  | goto l => exact h1
  | panic ch => exact h1.elim
  | outgrown => exact h1.elim

theorem sound_of_runDW {f : FuncId} {fn : Func} {body : Code} {ts : List Ty} {wi : Nat} {ty ety : TypeId} {pre : Args ts → Prop} {av : Args ts → AV} {out : Args ts → List (List Int)} (hm : P.follows .mixedOrders = true) (hc : CfgOk P c) (hf : P.funcs[f]? = some fn) (hb : fn.body = some body)
    (hn : ts.length ≤ fn.ntmps) (hcode : codeB c fn.ntmps body = true) (hrun : ∀ x, pre x → awp c body (FinDW c fn.results.toList ty ety (av x) (out x)) ⟨initS (encW wi ts x), ownDW wi ty ety ts x⟩) : SoundD P f (mkConDW ts wi ty ety pre av out) := by
  intro w F args vs a l ver (x : Args ts) s xs inner ha hoc hoth hpat hpre hout hF hlen hargs hdp hone
  have hpat : decs ts (setA args wi (ownAs a (.d (.sl none (.s .int) xs)))) = some x := hpat
  have ha : nthA args wi = some a := ha
  rw [setA_eq] at hpat
  rw [nthA_eq] at ha
  obtain ⟨hl, hat⟩ := decs_at hpat
  have hwi : wi < args.length := (List.getElem?_eq_some_iff.1 ha).1
  obtain ⟨t0, u0, he0, hd0⟩ := hat wi (ownAs a (.d (.sl none (.s .int) xs))) (by rw [List.getElem?_set_self hwi])
  obtain ⟨hto, hrw⟩ := dec_ownD hoc hd0 ty ety
  have hencW : encW wi ts x = (encs ts x).set wi (ownAs a (.own 1000 0)) := by unfold encW; rw [nthA_eq, he0]; simp only [setA_eq, hto]
  have hownW : ownDW wi ty ety ts x = upd deadOwn 1000 ⟨0, .deep ty ety .int xs noG⟩ := by unfold ownDW; rw [nthA_eq, he0]; simp only [hrw]
  have hrun := hrun x hpre
  rw [hencW, hownW] at hrun
  refine calls_of_wp hf hb ?_
  have hel : (encs ts x).length = args.length := by have h0 : (encs ts x).length = ts.length := encs_len ts x; rw [h0, ← hl]; simp
  have hinit : Good P c w (fun b => w.heap.size ≤ b ∨ blk s = some b ∨ ∃ i, i < xs.length ∧ blk (inner i) = some b) F (setD noRho 1000 s inner) (upd deadOwn 1000 ⟨0, .deep ty ety .int xs noG⟩) fn.ntmps ⟨initS ((encs ts x).set wi (ownAs a (.own 1000 0))), upd deadOwn 1000 ⟨0, .deep ty ety .int xs noG⟩⟩
      { tmps := vs.toArray ++ Array.replicate (fn.ntmps - vs.toArray.size) undef, defers := [] } w := by
    refine ⟨F, setD noRho 1000 s inner, ⟨hc, fun t => ?_, ⟨fun l => ?_, fun l l' b hne h1 h2 => ?_, hF⟩⟩, Ext.refl w F, fun _ _ _ => rfl, fun b h => .inl h, ?_, rfl, fun l => ⟨Nat.le_refl _, fun _ => ⟨rfl, fun _ => rfl⟩⟩⟩
    · show AVC w F _ _ (initS _ t) _
      unfold initS
      cases ht : ((encs ts x).set wi (ownAs a (.own 1000 0)))[t]? with
      | none => trivial
      | some y =>
        have hlt : t < vs.length := by
          have := (List.getElem?_eq_some_iff.1 ht).1
          rw [List.length_set] at this
          omega
        have hv : vs[t]? = some vs[t] := List.getElem?_eq_getElem hlt
        simp only [Option.getD_some]
        have hg : (vs.toArray ++ Array.replicate (fn.ntmps - vs.toArray.size) undef).getD t undef = vs[t] := by
          simp [hlt, Array.getElem?_append]
        rw [hg]
        by_cases htw : t = wi
        · subst htw
          rw [List.getElem?_set_self (by omega)] at ht
          injection ht with ht
          subst ht
          have h1 := hargs t a _ ha hv
          have hcell : ∀ v, v = s → CellC w F (setD noRho 1000 s inner) (upd deadOwn 1000 ⟨0, .deep ty ety .int xs noG⟩) (.own 1000 0) v := fun v e => by
            subst e
            exact ⟨hone, by rw [upd_eq]; exact Nat.le_refl _, fun _ => (setD_pl _ _ _ _).symm⟩
          unfold ownCell at hoc
          split at hoc
          · exact hcell _ h1
          · obtain ⟨us, hus, hc1⟩ := h1
            refine ⟨us, hus, by rw [hc1.1]; rfl, fun j z v hz hv => ?_⟩
            cases j with
            | zero => simp at hz; subst hz; exact hcell v (hc1.2 0 _ v rfl hv)
            | succ j => simp at hz
          · cases hoc
        · rw [List.getElem?_set_ne (Ne.symm htw)] at ht
          have hta : t < args.length := by omega
          have hya : args[t]? = some args[t] := List.getElem?_eq_getElem hta
          obtain ⟨t1, u1, he1, hd1⟩ := hat t args[t] (by rw [List.getElem?_set_ne (Ne.symm htw), hya])
          rw [ht] at he1
          injection he1 with he1
          subst he1
          have hst := othersD_get hoth t _ htw hya
          refine dec_weak hd1 ?_
          have h1 := hargs t _ _ hya hv
          revert h1 hst
          generalize args[t] = y
          intro hst h1
          match y, hst with
          | .one (.d z), _ => exact h1
          | .agg cs, hst =>
            obtain ⟨us, hus, hc1⟩ := h1
            refine ⟨us, hus, hc1.imp fun z u hz hc => ?_⟩
            have := List.all_eq_true.1 hst z hz
            cases z with
            | d x => exact hc
            | own _ _ => cases this
            | ptr _ _ _ _ => cases this
            | sub _ _ _ _ => cases this
    · by_cases h : l = 1000
      · subst h
        show OwnOk _ _ _ _ _ _ (upd deadOwn 1000 _ 1000).obj
        rw [upd_eq]
        obtain ⟨vs0, hw, h1, hn0, hin⟩ := hdp
        refine ⟨vs0, by rw [setD_pl]; exact hw, h1, fun b hb => by rw [setD_pl] at hb; exact ⟨.inr (.inl hb), (hn0 b hb).2⟩, fun i y hy _ => ?_⟩
        obtain ⟨q1, ⟨us, hu, hr⟩, q3⟩ := hin i y hy
        rw [setD_inn, setD_pl]
        exact ⟨q1, ⟨us, hu, rowCb hr⟩, fun b hb => ⟨.inr (.inr ⟨i, (List.getElem?_eq_some_iff.1 hy).1, hb⟩), (q3 b hb).1.2, (q3 b hb).2.1, fun j z hj hz _ => by rw [setD_inn]; exact (q3 b hb).2.2 j z hj hz⟩⟩
      · show OwnOk _ _ _ _ _ _ (upd deadOwn 1000 _ l).obj
        rw [upd_ne _ _ h]
        trivial
    · have key : ∀ l, (upd deadOwn 1000 ⟨0, .deep ty ety .int xs noG⟩ l).obj.live = true → l = 1000 := fun l h => by
        by_cases h' : l = 1000
        · exact h'
        · rw [upd_ne _ _ h'] at h; cases h
      exact fun _ _ => hne (by rw [key l h1, key l' h2])
    · have : args.length = ts.length := by rw [← hl]; simp
      simp; omega
  refine wp_code hm (w0 := w) (N := fun b => w.heap.size ≤ b ∨ blk s = some b ∨ ∃ i, i < xs.length ∧ blk (inner i) = some b) (fun b h => .inl h) body _ _ _ _ _ hcode (fun e σ' a' w' h1 h2 => ?_) hinit hrun
  have hfin : ∀ {σ' : St} {a' : Act} {w' : World}, Good P c w (fun b => w.heap.size ≤ b ∨ blk s = some b ∨ ∃ i, i < xs.length ∧ blk (inner i) = some b) F (setD noRho 1000 s inner) (upd deadOwn 1000 ⟨0, .deep ty ety .int xs noG⟩) fn.ntmps σ' a' w' → FinDW c fn.results.toList ty ety (av x) (out x) .ret σ' → a'.defers = [] ∧ ∃ v, (results fn a'.tmps).run P w' = .ok v w' ∧
      (∃ v', (Ending.returned v) = .returned v' ∧ w'.os = w.os ∧ w'.tape = w.tape ∧ w'.output = w.output ∧ w.heap.size ≤ w'.heap.size ∧
        (∀ b, b < w.heap.size → blk s ≠ some b → (∀ i, i < xs.length → blk (inner i) ≠ some b) → w'.heap[b]? = w.heap[b]?) ∧
        DeepAt w' (fun b => b < w.heap.size ∧ ¬ F b) (fun _ => False) ty ety .int (out x) s inner ∧ AVG (RetCell w' (fun _ => False) none) (av x) v') := by
    intro σ' a' w' hg h
    obtain ⟨F', ρ, H, hext, hfr, hnew, hsz, hdf⟩ := hg
    have h : (resV c σ' fn.results.toList).run _ := h
    unfold VR.run at h
    split at h
    · cases h
    · rename_i p y hv
      obtain ⟨hp, h⟩ := h
      obtain ⟨v, r1, r2⟩ := resV_ok H hv hp
      refine ⟨hdf.1, v, r1, v, ?_⟩
      split at h
      · rename_i ver' ty' ety' zs g hl1
        obtain ⟨rfl, rfl, rfl, hzs, hgg, hfl, hav⟩ := h
        have hver : (σ'.own 1000).ver = 0 := by rw [hl1]
        obtain ⟨k1, k2⟩ := (hdf.2 1000).2 (by rw [upd_eq, hver])
        rw [setD_pl] at k1
        have k2 : ∀ i, ρ (inn 1000 i) = inner i := fun i => by rw [k2, setD_inn]
        obtain ⟨vs', hw', h1', hn', hin'⟩ := deep_at H hl1 hgg
        rw [k1] at hw' hn'
        have hout : (out x).length = xs.length := hout
        obtain ⟨_, _, _, hs0, hin0⟩ := hdp
        refine ⟨by trivial, hext.os, hext.tape, hext.output, hext.size, fun b hb hne hni => hfr b hb fun hN => ?_, ⟨vs', by rw [← hzs]; exact hw', h1', fun b hb => hs0 b hb, fun i y hy => ?_⟩, ?_⟩
        · rcases hN with h | h | ⟨i, hi, h⟩
          · omega
          · exact hne h
          · exact hni i hi h
        · rw [← hzs] at hy
          obtain ⟨q1, q2, q3⟩ := hin' i y hy
          simp only [k2] at q1 q2 q3
          have hlt : i < xs.length := by rw [← hout, ← hzs]; exact (List.getElem?_eq_some_iff.1 hy).1
          refine ⟨q1, q2, fun b hb => ⟨((hin0 i _ (List.getElem?_eq_getElem hlt)).2.2 b hb).1, by rw [← k1]; exact (q3 b hb).2.1, fun j z hj hz => ?_⟩⟩
          rw [← hzs] at hz
          exact (q3 b hb).2.2 j z hj hz
        · have := avIs_ok H.mem (row := false) (s := .bool false) (G := fun _ => True) (fun _ _ => trivial) (fun _ _ _ _ _ => trivial) (fun h => by cases h) hav r2
          exact flat_any (fun z v h1 h2 => retCell_flat h1 h2) hfl this
      · cases h
  cases e with
  | normal => exact hfin h2 h1
  | ret => exact hfin h2 h1
  | exit id => exact h1
  | goto l => exact h1
  | panic ch => exact h1.elim
  | outgrown => exact h1.elim
end
end Go.Proofs.Ytfjmlaciogmndaa
