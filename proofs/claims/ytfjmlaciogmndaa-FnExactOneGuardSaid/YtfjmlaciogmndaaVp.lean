/- Rows of rows whose inner rows are the call's own: the operations that make, join and write them are sound. -/
import Derived.Test.YtfjmlaciogmndaaVf
namespace Go.Proofs.Ytfjmlaciogmndaa
open Go.RowKit
set_option linter.unusedVariables false
set_option linter.unusedSimpArgs false
theorem CellC.kill {w : World} {F : Nat → Prop} {ρ : Nat → Value} {own : Nat → Loc} (D : Nat → Bool) {x : Cell} {v : Value} (h : CellC w F ρ own x v) : CellC w F ρ (killW D own) x v := by
  cases x with
  | d x => exact h
  | own l ver =>
    obtain ⟨h1, h2, h3⟩ := h
    refine ⟨h1, by rw [killW_ver]; exact h2, ?_⟩
    rintro ⟨e, hx⟩
    rcases killW_obj D own l with hk | hk
    · rw [hk] at hx; exact hx.elim
    · rw [hk] at e hx; exact h3 ⟨e, hx⟩
  | ptr l ver i j =>
    obtain ⟨h1, h2, h3⟩ := h
    refine ⟨h1, by rw [killW_ver]; exact h2, fun e => ?_⟩
    rcases killW_obj D own l with hk | hk
    · rw [hk]; trivial
    · rw [hk] at e ⊢; exact h3 e
  | sub l ver off n =>
    obtain ⟨h1, h2, h3⟩ := h
    refine ⟨h1, by rw [killW_ver]; exact h2, fun e => ?_⟩
    rcases killW_obj D own l with hk | hk
    · rw [hk]; exact ⟨fun _ _ _ hx => (by cases hx), fun _ _ _ _ _ _ hx => (by cases hx)⟩
    · rw [hk] at e ⊢; exact h3 e
theorem Mem.kill {w : World} {N F : Nat → Prop} {ρ : Nat → Value} {own : Nat → Loc} (D : Nat → Bool) (m : Mem w N F ρ own) : Mem w N F ρ (killW D own) := by
  have live : ∀ l, (killW D own l).obj.live = true → (own l).obj.live = true := fun l h => by
    rcases killW_obj D own l with hk | hk
    · rw [hk] at h; cases h
    · rw [hk] at h; exact h
  have hol : ∀ l b, (killW D own l).obj.live = true → holds ρ l (killW D own l).obj b → holds ρ l (own l).obj b := fun l b h hh => by
    rcases killW_obj D own l with hk | hk
    · rw [hk] at h; cases h
    · rw [hk] at hh; exact hh
  refine ⟨fun l => ?_, fun l l' b hne h1 h2 b1 b2 => m.apart l l' b hne (live l h1) (live l' h2) (hol l b h1 b1) (hol l' b h2 b2), m.fin⟩
  rcases killW_obj D own l with hk | hk
  · rw [hk]; trivial
  · rw [hk]
    have := m.ok l
    generalize (own l).obj = ob at this
    cases ob with
    | dead => trivial
    | box ty cs => obtain ⟨b, vs, h1, h2, h3, h4⟩ := this; exact ⟨b, vs, h1, h2, h3.imp fun c v _ h => h.kill D, h4⟩
    | row ty k xs => exact this
    | tail ty k xs => exact this
    | deep ty ety el xs g => exact this

section
variable {P : Program} {c : Cfg} {w : World} {N F : Nat → Prop} {ρ : Nat → Value} {own : Nat → Loc} {slots : Nat → AV} {a : Act} {Q : Exit → Act → World → Prop} {o : Oper} {p : Prop} {y : AV}

theorem kill1 (own : Nat → Loc) (l : Nat) : upd own l ⟨(own l).ver, .dead⟩ = killW (fun n => Nat.beq n l) own := by
  funext n
  unfold upd killW
  cases h : Nat.beq n l
  · simp only [h, cond_false]
  · simp only [h, cond_true]
    rw [Nat.eq_of_beq_eq_true h]
theorem Here.kill1 (H : Here P c N F ρ own slots a w) (l : Nat) : Here P c N F ρ (upd own l ⟨(own l).ver, .dead⟩) slots a w := by
  rw [Go.Proofs.Ytfjmlaciogmndaa.kill1]
  exact ⟨H.cfg, fun t => AVG.imp (fun z v h => h.kill _) (H.sl t), H.mem.kill _⟩
theorem Next'.base {own1 : Nat → Loc} {σ' : St} {a' : Act} {w' : World} {F' : Nat → Prop} {ρ' : Nat → Value} (hv : ∀ l, (own1 l).ver = (own l).ver) (h : Next' P c N F ρ own1 a w σ' a' w' F' ρ') : Next' P c N F ρ own a w σ' a' w' F' ρ' :=
  ⟨h.here, h.ext, h.fr, h.new, h.size, h.defers, fun l => by rw [← hv]; exact h.mono l, fun l hl => h.keep l (by rw [hv]; exact hl)⟩
theorem Eff.base {own1 : Nat → Loc} {K : St → Prop} (hv : ∀ l, (own1 l).ver = (own l).ver) (h : Eff P c N F ρ own1 o a w K Q) : Eff P c N F ρ own o a w K Q :=
  Oper.wp_mono (fun a' w' h => let ⟨σ', F', ρ', hK, hn⟩ := h; ⟨σ', F', ρ', hK, hn.base hv⟩) h

/-- A row of a deep place is moved away: it is no longer looked at. -/
theorem CellC.gone {l ver : Nat} {ty ety : TypeId} {e : ElB} {xs : List (List e.T)} {g g' : Nat → Bool} (hl : own l = ⟨ver, .deep ty ety e xs g⟩) (hg : ∀ i, g' i = false → g i = false) {x : Cell} {v : Value} (h : CellC w F ρ own x v) :
    CellC w F ρ (upd own l ⟨ver, .deep ty ety e xs g'⟩) x v := by
  have hver : ∀ m, (upd own l ⟨ver, .deep ty ety e xs g'⟩ m).ver = (own m).ver := fun m => by
    rw [upd_get]; split
    · rename_i e; rw [e, hl]
    · rfl
  cases x with
  | d x => exact h
  | own m ver' =>
    obtain ⟨h1, h2, h3⟩ := h
    refine ⟨h1, by rw [hver]; exact h2, fun hv => h3 ⟨by rw [← hver]; exact hv.1, ?_⟩⟩
    by_cases hm : m = l
    · subst hm; rw [hl]; trivial
    · have := hv.2; rw [upd_ne _ _ hm] at this; exact this
  | ptr m ver' i j =>
    obtain ⟨h1, h2, h3⟩ := h
    refine ⟨h1, by rw [hver]; exact h2, fun hv => ?_⟩
    have h3 := h3 (by rw [← hver]; exact hv)
    by_cases hm : m = l
    · subst hm
      rw [upd_eq]
      rw [hl] at h3
      cases j with
      | zero => exact h3
      | succ j => exact fun x hx hgi => h3 x hx (hg i hgi)
    · rw [upd_ne _ _ hm]; exact h3
  | sub m ver' off n =>
    obtain ⟨h1, h2, h3⟩ := h
    refine ⟨h1, by rw [hver]; exact h2, fun hv => ?_⟩
    have h3 := h3 (by rw [← hver]; exact hv)
    by_cases hm : m = l
    · subst hm
      rw [upd_eq]
      rw [hl] at h3
      refine ⟨fun ty k xs hob => (by cases hob), fun ty0 ety0 e0 xs0 g0 x0 hob hx hgi => ?_⟩
      injection hob with q1 q2 q3 q4 q5
      subst q1 q2 q3
      have q4 := eq_of_heq q4
      subst q4 q5
      exact h3.2 _ _ _ _ _ _ rfl hx (hg _ hgi)
    · rw [upd_ne _ _ hm]; exact h3
theorem Here.gone (H : Here P c N F ρ own slots a w) {l ver : Nat} {ty ety : TypeId} {e : ElB} {xs : List (List e.T)} {g g' : Nat → Bool} (hl : own l = ⟨ver, .deep ty ety e xs g⟩) (hg : ∀ i, g' i = false → g i = false) :
    Here P c N F ρ (upd own l ⟨ver, .deep ty ety e xs g'⟩) slots a w := by
  have hh : ∀ m b, holds ρ m (upd own l ⟨ver, .deep ty ety e xs g'⟩ m).obj b → holds ρ m (own m).obj b := fun m b h => by
    by_cases hm : m = l
    · subst hm
      rw [upd_eq] at h
      rw [hl]
      rcases h with h | ⟨i, x, hx, hgi, h⟩
      · exact .inl h
      · exact .inr ⟨i, x, hx, hg i hgi, h⟩
    · rw [upd_ne _ _ hm] at h; exact h
  have live : ∀ m, (upd own l ⟨ver, .deep ty ety e xs g'⟩ m).obj.live = true → (own m).obj.live = true := fun m h => by
    by_cases hm : m = l
    · subst hm; rw [hl]; rfl
    · rw [upd_ne _ _ hm] at h; exact h
  refine ⟨H.cfg, fun t => AVG.imp (fun z v h => h.gone hl hg) (H.sl t), fun m => ?_, fun m m' b hne h1 h2 e1 e2 => H.mem.apart m m' b hne (live m h1) (live m' h2) (hh m b e1) (hh m' b e2), H.mem.fin⟩
  have hok := H.mem.ok m
  by_cases hm : m = l
  · subst hm
    rw [upd_eq]
    rw [hl] at hok
    obtain ⟨vs, hw, h1, hn, hin⟩ := hok
    refine ⟨vs, hw, h1, hn, fun i x hx hgi => ?_⟩
    obtain ⟨q1, q2, q3⟩ := hin i x hx (hg i hgi)
    exact ⟨q1, q2, fun b hb => ⟨(q3 b hb).1, (q3 b hb).2.1, (q3 b hb).2.2.1, fun j y hj hy hgj => (q3 b hb).2.2.2 j y hj hy (hg j hgj)⟩⟩
  · rw [upd_ne _ _ hm]
    generalize (own m).obj = ob at hok
    cases ob with
    | box ty cs => obtain ⟨b, vs, h1, h2, h3, h4⟩ := hok; exact ⟨b, vs, h1, h2, h3.imp fun c v _ h => h.gone hl hg, h4⟩
    | dead => trivial
    | row ty k xs => exact hok
    | tail ty k xs => exact hok
    | deep ty ety el xs g => exact hok

/-- The values of a place and of its inner rows. -/
noncomputable def setD (ρ : Nat → Value) (l : Nat) (s : Value) (inner : Nat → Value) : Nat → Value :=
  open Classical in fun n => if n = pl l then s else if h : ∃ i, n = inn l i then inner h.choose else ρ n
theorem setD_pl (ρ : Nat → Value) (l : Nat) (s : Value) (inner : Nat → Value) : setD ρ l s inner (pl l) = s := by simp [setD]
theorem setD_inn (ρ : Nat → Value) (l : Nat) (s : Value) (inner : Nat → Value) (i : Nat) : setD ρ l s inner (inn l i) = inner i := by
  have h : ∃ j, inn l i = inn l j := ⟨i, rfl⟩
  unfold setD
  rw [if_neg (inn_pl l i l), dif_pos h, ← (inn_inj h.choose_spec).2]
theorem setD_ple (ρ : Nat → Value) (l : Nat) (s : Value) (inner : Nat → Value) {m : Nat} (h : m ≠ l) : setD ρ l s inner (pl m) = ρ (pl m) := by
  unfold setD
  rw [if_neg (pl_ne h), dif_neg (fun ⟨i, e⟩ => inn_pl l i m e.symm)]
theorem setD_inne (ρ : Nat → Value) (l : Nat) (s : Value) (inner : Nat → Value) {m : Nat} (i : Nat) (h : m ≠ l) : setD ρ l s inner (inn m i) = ρ (inn m i) := by
  unfold setD
  rw [if_neg (inn_pl m i l), dif_neg (fun ⟨j, e⟩ => h (inn_inj e).1)]

theorem rowCb {w w' : World} {F G : Nat → Prop} {e : ElB} {x : List e.T} {us : List Value} (h : RowC w F (.b e) x us) : RowC w' G (.b e) x us := h

/-- Place l becomes a row of new rows. -/
theorem next_deep (H : Here P c N F ρ own slots a w) {d l : Nat} (hd : d < a.tmps.size) (hdst : o.dst = some d) {w' : World} {F' : Nat → Prop} {s u : Value} {inner : Nat → Value} {ty ety : TypeId} {e : ElB} {xs : List (List e.T)} {x : AV}
    (hos : w'.os = w.os) (htape : w'.tape = w.tape) (hout : w'.output = w.output) (hsz : w.heap.size ≤ w'.heap.size)
    (hoth : ∀ b, b < w.heap.size → ¬ ((own l).obj.live = true ∧ holds ρ l (own l).obj b) → w'.heap[b]? = w.heap[b]?)
    (hFF : ∀ b, F b → F' b) (hF' : ∀ b, F' b → F b ∨ (w.heap.size ≤ b ∧ b < w'.heap.size)) (hN : ∀ b, w.heap.size ≤ b → N b)
    (hdeep : DeepAt w' (fun b => N b ∧ ¬ F' b) (fun _ => False) ty ety e xs s inner)
    (hap : ∀ b, (blk s = some b ∨ ∃ i x, xs[i]? = some x ∧ blk (inner i) = some b) → ∀ l', l' ≠ l → (own l').obj.live = true → ¬ holds ρ l' (own l').obj b)
    (hx : ∀ ρ' own', ρ' (pl l) = s → own' l = ⟨(own l).ver + 1, .deep ty ety e xs noG⟩ → (∀ z v, CellC w F ρ own z v → CellC w' F' ρ' own' z v) → AVC w' F' ρ' own' x u)
    {K : St → Prop} (hK : K ⟨upd slots d x, upd own l ⟨(own l).ver + 1, .deep ty ety e xs noG⟩⟩) : ∃ σ' F' ρ', K σ' ∧ Next' P c N F ρ own a w σ' (a.put o.dst u) w' F' ρ' := by
  have hext : Ext w F w' F' := ⟨hos, htape, hout, hsz, fun b hb => hoth b (H.mem.fin b hb) (fun h => (blk_lt H.mem h.1 h.2).2.2 hb), hFF⟩
  have ho : ∀ l', l' ≠ l → upd own l ⟨(own l).ver + 1, .deep ty ety e xs noG⟩ l' = own l' ∧ setD ρ l s inner (pl l') = ρ (pl l') := fun l' h => ⟨upd_ne _ _ h, setD_ple _ _ _ _ h⟩
  have hi : ∀ l', l' ≠ l → ∀ i, setD ρ l s inner (inn l' i) = ρ (inn l' i) := fun l' h i => setD_inne _ _ _ _ i h
  have hC : ∀ z v, CellC w F ρ own z v → CellC w' F' (setD ρ l s inner) (upd own l ⟨(own l).ver + 1, .deep ty ety e xs noG⟩) z v := fun z v h =>
    h.step (l := l) hext ho (.inl (by rw [upd_eq]; exact Nat.lt_succ_self _)) hi
  obtain ⟨vs, hw, h1, hn, hin⟩ := hdeep
  refine ⟨_, F', setD ρ l s inner, hK, ⟨H.cfg, ?_, ?_⟩, hext, fun b hb hnb => hoth b hb (fun h => hnb (blk_lt H.mem h.1 h.2).2.1), fun b hb => (hF' b hb).imp id (fun h => hN b h.1), ?_, ?_, ver_two own l _, fun m hm => ?_⟩
  · rw [hdst]
    exact slots_put hC H.sl hd (hx _ _ (setD_pl _ _ _ _) (upd_eq _ _ _) hC)
  · refine H.mem.step (l := l) hext ho hi hC (fun l' b hne hl' hb hlt hnF => ⟨hoth b hlt (fun h => H.mem.apart l l' b (Ne.symm hne) h.1 hl' h.2 hb), fun hf => ?_⟩) ?_ (fun l' b hne hl' e1 e2 => ?_) (fun b hb => ?_)
    · rcases hF' b hf with h | h
      · exact hnF h
      · omega
    · show OwnOk _ N _ _ _ l (upd own l _ l).obj
      rw [upd_eq]
      refine ⟨vs, by rw [setD_pl]; exact hw, h1, fun b hb => hn b (by rwa [setD_pl] at hb), fun i x hx _ => ?_⟩
      obtain ⟨q1, ⟨us, hu, hr⟩, q3⟩ := hin i x hx
      rw [setD_inn, setD_pl]
      exact ⟨q1, ⟨us, hu, rowCb hr⟩, fun b hb => ⟨(q3 b hb).1.1, (q3 b hb).1.2, (q3 b hb).2.1, fun j y hj hy _ => by rw [setD_inn]; exact (q3 b hb).2.2 j y hj hy⟩⟩
    · have e1 : holds (setD ρ l s inner) l (upd own l ⟨(own l).ver + 1, .deep ty ety e xs noG⟩ l).obj b := e1
      rw [upd_eq] at e1
      refine hap b ?_ l' hne hl' e2
      rcases e1 with e1 | ⟨i, x, hx, _, e1⟩
      · exact .inl (by rwa [setD_pl] at e1)
      · exact .inr ⟨i, x, hx, by rwa [setD_inn] at e1⟩
    · rcases hF' b hb with h | h
      · exact Nat.lt_of_lt_of_le (H.mem.fin b h) hsz
      · exact h.2
  · rw [hdst]; exact put_size _ _ _
  · rw [hdst]; exact put_defers' _ _ _
  · have hm' : m ≠ l := fun h => by
      subst h
      have hm : (upd own m ⟨(own m).ver + 1, .deep ty ety e xs noG⟩ m).ver = (own m).ver := hm
      rw [upd_eq] at hm
      simp at hm
    exact ⟨setD_ple _ _ _ _ hm', fun i => setD_inne _ _ _ _ i hm'⟩

theorem run_build1 {t e : TypeId} {zv : Value} (hu : P.underlying t = some (.slice e)) (hes : (P.info? e).map (·.size) = some 1) (hz : ∀ w, (zeroValue e).run P w = .ok zv w) (hzs : zv.cells.size = 1) {v : Value} (hv : v.oneCell' = true) (w : World) :
    (Instr.buildSlice t 1 #[(0, v)]).run P w = .ok (.slice (some ⟨w.heap.size, 0, none⟩) 1 1) (w.alloc (.cells #[v] e)) := by
  have hvc := cells_one hv
  unfold Instr.buildSlice
  have hgt : ¬ (1 * 1 > 2 ^ 24) := by decide
  simp only [Sem.run_bind, run_und hu, Result.andThen_ok, run_size hes, if_neg hgt]
  simp only [show ¬ (1 * 1 = 0) by decide, if_false, Sem.run_bind, hz, Result.andThen_ok, Sem.run_pure]
  have hf : Instr.fill (fun i => some (i * 1, 1)) ((Array.range (1 * 1)).map (zv.cells[· % zv.cells.size]!)) [(0, v)] = some #[v] := by
    unfold Instr.fill
    have hr : ((Array.range (1 * 1)).map (zv.cells[· % zv.cells.size]!)).size = 1 := by simp
    obtain ⟨q, hq⟩ : ∃ q, (Array.range (1 * 1)).map (zv.cells[· % zv.cells.size]!) = #[q] := by
      generalize (Array.range (1 * 1)).map (zv.cells[· % zv.cells.size]!) = A at hr
      obtain ⟨L⟩ := A
      match L, hr with
      | [q], _ => exact ⟨q, rfl⟩
    rw [hq]
    simp [hvc, Instr.fill]
  rw [hf]
  simp only [newRow, Sem.run_bind, run_newObj, Result.andThen_ok, Sem.run_pure]
  rfl

theorem own_one {base : Nat} {e : TypeId} {size : Nat} {v : Value} {n : Nat} {vs : List Value} {w : World} (h : w.ownsRow base e size v n vs) : v.oneCell' = true := by
  rcases h.2 with ⟨rfl, _⟩ | ⟨g, cap, cur, rfl, _⟩ <;> rfl
theorem owns_of {w w' : World} {base : Nat} {e : TypeId} {size : Nat} {v : Value} {n : Nat} {vs : List Value} (h : w.ownsRow base e size v n vs) (hb : ∀ b, blk v = some b → w'.heap[b]? = w.heap[b]?) : w'.ownsRow base e size v n vs := by
  refine ⟨h.1, h.2.imp id ?_⟩
  rintro ⟨g, cap, cur, hv, hg, hh, r⟩
  exact ⟨g, cap, cur, hv, hg, (hb g (by rw [hv]; rfl)).trans hh, r⟩

/-- A row of one own row. -/
theorem e_deep1 (H : Here P c N F ρ own slots a w) (hN : ∀ b, w.heap.size ≤ b → N b) {d : Nat} (hd : d < a.tmps.size) (hdst : o.dst = some d) {t : TypeId} {parts : Array (Nat × Operand)} {x : Operand} (ho : o.op = .buildSlice t 1 parts) (hp : parts.toList = [(0, x)])
    {sz : Nat} {z0 : List ZK} {ty ety : TypeId} {e : ElB} {b : Nat} {z : List ZK} {xs : List e.T} {us : List Value} (hty : c.ty t = some ⟨sz, z0, .slice ty (.s e) b z⟩)
    (hw : w.ownsRow 0 ety (ElK.b e).size (a.eval x) xs.length us) (hr : RowC w F (.b e) xs us) (hb : ∀ b, blk (a.eval x) = some b → N b ∧ ¬ F b)
    (hap : ∀ b, blk (a.eval x) = some b → ∀ l', l' ≠ d → (own l').obj.live = true → ¬ holds ρ l' (own l').obj b)
    {K : St → Prop} (hK : K ⟨upd slots d (.one (.own d ((own d).ver + 1))), upd own d ⟨(own d).ver + 1, .deep ty ety e [xs] noG⟩⟩) : Eff P c N F ρ own o a w K Q := by
  obtain ⟨hu, hes, _, zv, hzr, hzc, hzs, _⟩ := elem_size (H.cfg.ty _ _ hty)
  have hone := own_one hw
  have hrun := run_build1 (P := P) hu hes hzr hzs hone w
  have hpa : (parts.map fun (x : Nat × Operand) => (x.1, a.eval x.2)) = #[(0, a.eval x)] := by apply Array.ext'; simp [hp]
  unfold Eff Oper.wp
  have hexec : (execOp a.eval o).run P w = .ok (.value (.slice (some ⟨w.heap.size, 0, none⟩) 1 1)) (w.alloc (.cells #[a.eval x] ty)) := by
    simp only [execOp, ho, Sem.run_bind]
    rw [show (parts.map fun (i, x) => (i, a.eval x)) = #[(0, a.eval x)] from hpa, hrun]
    simp only [Result.andThen_ok, Sem.run_pure]
  rw [hexec]
  have hold : ∀ b, b < w.heap.size → (w.alloc (.cells #[a.eval x] ty)).heap[b]? = w.heap[b]? := fun b hb => Below.heap_alloc w _ b hb
  have hlt : ∀ b, blk (a.eval x) = some b → b < w.heap.size := fun b hb => (hw.lt b (blk_own hw hb)).2
  refine next_deep H (w' := w.alloc (.cells #[a.eval x] ty)) (l := d) (s := .slice (some ⟨w.heap.size, 0, none⟩) 1 1) (inner := fun _ => a.eval x) (F' := F) hd hdst rfl rfl rfl (by simp) (fun b hb _ => hold b hb) (fun _ h => h) (fun _ h => .inl h) hN ?_ ?_ (fun ρ' own' h1 h2 _ => ?_) hK
  · refine ⟨[a.eval x], World.ownsRow_lit w #[a.eval x] 1 (Nat.zero_le _) (by decide) (by simp), fun v hv => by rw [List.mem_singleton.1 hv]; exact hone, fun b hb => ?_, fun i y hi => ?_⟩
    · simp only [blk, Option.some.injEq] at hb
      subst hb
      exact ⟨hN _ (Nat.le_refl _), fun hf => Nat.lt_irrefl _ (H.mem.fin _ hf)⟩
    · cases i with
      | zero =>
        simp only [List.getElem?_cons_zero, Option.some.injEq] at hi
        subst hi
        refine ⟨rfl, ⟨us, owns_of hw (fun b hb => hold b (hlt b hb)), rowCb hr⟩, fun b' hb' => ⟨hb b' hb', ?_, fun j y hj hy => ?_⟩⟩
        · intro e
          simp only [blk, Option.some.injEq] at e
          have := hlt b' hb'
          omega
        · exfalso
          cases j with
          | zero => exact hj rfl
          | succ j => simp at hy
      | succ i => simp at hi
  · rintro b' (e | ⟨i, y, hi, e⟩) l' hne hl' hh
    · simp only [blk, Option.some.injEq] at e
      have := (blk_lt H.mem hl' hh).1
      omega
    · exact hap b' e l' hne hl' hh
  · exact ⟨rfl, by rw [h2]; exact Nat.le_refl _, fun _ => h1.symm⟩

/-- An empty row of rows. -/
theorem e_deep0 (H : Here P c N F ρ own slots a w) (hN : ∀ b, w.heap.size ≤ b → N b) {d : Nat} (hd : d < a.tmps.size) (hdst : o.dst = some d) {t : TypeId} {parts : Array (Nat × Operand)} (ho : o.op = .buildSlice t 0 parts) (hp : parts.toList = [])
    {sz : Nat} {z0 : List ZK} {ty ety : TypeId} {e : ElB} {b : Nat} {z : List ZK} (hty : c.ty t = some ⟨sz, z0, .slice ty (.s e) b z⟩)
    {K : St → Prop} (hK : K ⟨upd slots d (.one (.own d ((own d).ver + 1))), upd own d ⟨(own d).ver + 1, .deep ty ety e [] noG⟩⟩) : Eff P c N F ρ own o a w K Q := by
  obtain ⟨_, row, hrs, hrun, _⟩ := buildSlice_ok (len := 0) (parts := parts) (xs := []) H hty (by decide) (by rw [hp]; rfl)
  have hr0 : row = #[] := by
    have : row.size = 0 := by rw [hrs]; simp
    exact Array.eq_empty_of_size_eq_zero this
  subst hr0
  unfold Eff Oper.wp
  have hexec : (execOp a.eval o).run P w = .ok (.value (.slice (some ⟨w.heap.size, 0, none⟩) 0 0)) (w.alloc (.cells #[] ty)) := by
    simp only [execOp, ho, Sem.run_bind, hrun, Result.andThen_ok, Sem.run_pure]
  rw [hexec]
  refine next_deep H (w' := w.alloc (.cells #[] ty)) (l := d) (s := .slice (some ⟨w.heap.size, 0, none⟩) 0 0) (inner := fun _ => undef) (F' := F) hd hdst rfl rfl rfl (by simp) (fun b hb _ => Below.heap_alloc w _ b hb) (fun _ h => h) (fun _ h => .inl h) hN ?_ ?_ (fun ρ' own' h1 h2 _ => ?_) hK
  · refine ⟨[], World.ownsRow_lit w #[] 0 (Nat.zero_le _) (by decide) (by simp), fun v hv => by simp at hv, fun b hb => ?_, fun i y hi => by simp at hi⟩
    simp only [blk, Option.some.injEq] at hb
    subst hb
    exact ⟨hN _ (Nat.le_refl _), fun hf => Nat.lt_irrefl _ (H.mem.fin _ hf)⟩
  · rintro b' (e | ⟨i, y, hi, e⟩) l' hne hl' hh
    · simp only [blk, Option.some.injEq] at e
      have := (blk_lt H.mem hl' hh).1
      omega
    · simp at hi
  · exact ⟨rfl, by rw [h2]; exact Nat.le_refl _, fun _ => h1.symm⟩

/-- What is known of a deep place. -/
theorem deep_at (H : Here P c N F ρ own slots a w) {l ver : Nat} {ty ety : TypeId} {e : ElB} {xs : List (List e.T)} {g : Nat → Bool} (hl : own l = ⟨ver, .deep ty ety e xs g⟩) (hg : allG g xs.length) :
    DeepAt w (fun b => (N b ∧ ¬ F b) ∧ b < w.heap.size ∧ ∀ l', l' ≠ l → (own l').obj.live = true → ¬ holds ρ l' (own l').obj b) (fun _ => False) ty ety e xs (ρ (pl l)) (fun i => ρ (inn l i)) := by
  have hlive : (own l).obj.live = true := by rw [hl]; rfl
  have hok := H.mem.ok l
  rw [hl] at hok
  obtain ⟨vs, hw, h1, hn, hin⟩ := hok
  have hap : ∀ b, holds ρ l (.deep ty ety e xs g) b → ∀ l', l' ≠ l → (own l').obj.live = true → ¬ holds ρ l' (own l').obj b := fun b hb l' hne hl' h => H.mem.apart l l' b (Ne.symm hne) hlive hl' (by rw [hl]; exact hb) h
  refine ⟨vs, hw, h1, fun b hb => ⟨hn b hb, (hw.lt b (blk_own hw hb)).2, hap b (.inl hb)⟩, fun i x hx => ?_⟩
  have hgi := hg i (List.getElem?_eq_some_iff.1 hx).1
  obtain ⟨q1, ⟨us, hu, hr⟩, q3⟩ := hin i x hx hgi
  exact ⟨q1, ⟨us, hu, rowCb hr⟩, fun b hb => ⟨⟨⟨(q3 b hb).1, (q3 b hb).2.1⟩, (hu.lt b (blk_own hu hb)).2, hap b (.inr ⟨i, x, hx, hgi, hb⟩)⟩, (q3 b hb).2.2.1, fun j y hj hy => (q3 b hb).2.2.2 j y hj hy (hg j (List.getElem?_eq_some_iff.1 hy).1)⟩⟩

theorem getElem?_app_r {α : Type} {xs ys : List α} (i : Nat) : (xs ++ ys)[xs.length + i]? = ys[i]? := by
  rw [List.getElem?_append_right (by omega)]; congr 1; omega

/-- One deep place is appended to another one. -/
theorem e_deepApp (H : Here P c N F ρ own slots a w) (hN : ∀ b, w.heap.size ≤ b → N b) {d l q ver verq : Nat} (hd : d < a.tmps.size) (hdst : o.dst = some d) {cl : Call} (ho : o.op = .call cl) (hcl : cl.callee = .builtin .append) {t : TypeId} {s x : Operand} (hargs : cl.args.toList = [s, x]) (hat : cl.argTypes.toList = [t, t])
    {sz b : Nat} {z0 z : List ZK} {te ty' ety : TypeId} {e : ElB} {xs ys : List (List e.T)} {g g' : Nat → Bool} (hty : c.ty t = some ⟨sz, z0, .slice te (.s e) b z⟩)
    (hs : evA slots s = .one (.own l ver)) (hx : evA slots x = .one (.own q verq)) (hne : l ≠ q) (hl : own l = ⟨ver, .deep te ety e xs g⟩) (hq : own q = ⟨verq, .deep ty' ety e ys g'⟩) (hg : allG g xs.length) (hg' : allG g' ys.length)
    (hlen : xs.length + ys.length ≤ 1073741824) (hb : b ≤ 4096)
    {K : St → Prop} (hK : K ⟨upd slots d (.one (.own l (ver + 1))), upd (upd own q ⟨verq, .dead⟩) l ⟨ver + 1, .deep te ety e (xs ++ ys) noG⟩⟩) : Eff P c N F ρ own o a w K Q := by
  obtain ⟨hu, hes, _, zv, hzr, hzc, hzs, ie, hie, hiz, hisz, hib⟩ := elem_size (H.cfg.ty _ _ hty)
  have hk1 := H.kill1 q
  have hvq : (own q).ver = verq := by rw [hq]
  rw [hvq] at hk1
  have hvers : ∀ m, (upd own q ⟨verq, .dead⟩ m).ver = (own m).ver := fun m => by
    rw [upd_get]; split
    · rename_i e; rw [e, hq]
    · rfl
  have hl1 : upd own q ⟨verq, .dead⟩ l = ⟨ver, .deep te ety e xs g⟩ := by rw [upd_ne _ _ hne, hl]
  refine Eff.base hvers ?_
  have hsd : CellC w F ρ own (.own l ver) (a.eval s) := H.ev' hs
  have hse := hsd.2.2 ⟨by rw [hl], by rw [hl]; trivial⟩
  have hxd : CellC w F ρ own (.own q verq) (a.eval x) := H.ev' hx
  have hxe := hxd.2.2 ⟨by rw [hq], by rw [hq]; trivial⟩
  obtain ⟨vs, hw, v1, vn, vin⟩ := deep_at H hl hg
  obtain ⟨us, hwq, u1, un, uin⟩ := deep_at H hq hg'
  have hexec : ∀ {r : Value} {w' : World}, (Builtin.append_ #[t, t] o.type #[a.eval s, a.eval x]).run P w = .ok r w' → (execOp a.eval o).run P w = .ok (.value r) w' := by
    intro r w' hr
    simp [execOp, ho, resolve, hcl, invoke, builtin, arr_of_list hargs, arr_of_list hat, hr]
  have hlive : (upd own q ⟨verq, .dead⟩ l).obj.live = true := by rw [hl1]; rfl
  have hver1 : (upd own q ⟨verq, .dead⟩ l).ver = ver := by rw [hl1]
  have liveq : ∀ m, m ≠ l → (upd own q ⟨verq, .dead⟩ m).obj.live = true → m ≠ q ∧ (own m).obj.live = true ∧ (upd own q ⟨verq, .dead⟩ m) = own m := fun m hm h => by
    have hmq : m ≠ q := fun e => by subst e; rw [upd_eq] at h; cases h
    rw [upd_ne _ _ hmq] at h
    exact ⟨hmq, h, upd_ne _ _ hmq⟩
  have hlq : ∀ b, holds ρ l (own l).obj b → holds ρ q (own q).obj b → False := fun b h1 h2 => H.mem.apart l q b hne (by rw [hl]; rfl) (by rw [hq]; rfl) h1 h2
  have holdl : ∀ b, (blk (ρ (pl l)) = some b ∨ ∃ i x, xs[i]? = some x ∧ blk (ρ (inn l i)) = some b) → holds ρ l (own l).obj b := fun b h => by
    rw [hl]
    rcases h with h | ⟨i, x, hx, h⟩
    · exact .inl h
    · exact .inr ⟨i, x, hx, hg i (List.getElem?_eq_some_iff.1 hx).1, h⟩
  have holdq : ∀ b, (blk (ρ (pl q)) = some b ∨ ∃ i x, ys[i]? = some x ∧ blk (ρ (inn q i)) = some b) → holds ρ q (own q).obj b := fun b h => by
    rw [hq]
    rcases h with h | ⟨i, x, hx, h⟩
    · exact .inl h
    · exact .inr ⟨i, x, hx, hg' i (List.getElem?_eq_some_iff.1 hx).1, h⟩
  -- what comes out in both cases
  have fin : ∀ (v' : Value) (w' : World), (execOp a.eval o).run P w = .ok (.value v') w' → w'.ownsRow 0 te 1 v' (xs.length + ys.length) (vs ++ us) → w.grownBy w' (blk (ρ (pl l))) → (∀ b, blk v' = some b → blk (ρ (pl l)) = some b ∨ w.heap.size ≤ b) →
      Eff P c N F ρ (upd own q ⟨verq, .dead⟩) o a w K Q := by
    intro v' w' hrun hown hgr hbl
    unfold Eff Oper.wp
    rw [hrun]
    have keepb : ∀ b, b < w.heap.size → blk (ρ (pl l)) ≠ some b → w'.heap[b]? = w.heap[b]? := fun b hb h => hgr.block b hb (fun e => h e.symm)
    refine next_deep hk1 (l := l) (w' := w') (s := v') (u := v') (inner := fun i => if i < xs.length then ρ (inn l i) else ρ (inn q (i - xs.length))) (F' := F) hd hdst hgr.os hgr.tape hgr.output hgr.size
      (fun b hb h => keepb b hb (fun e => h ⟨hlive, by rw [hl1]; exact .inl e⟩)) (fun _ h => h) (fun _ h => .inl h) hN ?_ ?_ (fun ρ' own' h1 h2 _ => ?_) (by rw [hver1]; exact hK)
    · have hNF : ∀ b, w.heap.size ≤ b → N b ∧ ¬ F b := fun b h => ⟨hN b h, fun hf => by have := H.mem.fin b hf; omega⟩
      refine ⟨vs ++ us, by rw [List.length_append]; exact hown, fun v hv => (List.mem_append.1 hv).elim (v1 v) (u1 v), fun b hb => ?_, fun i x hi => ?_⟩
      · rcases hbl b hb with h | h
        · exact (vn b h).1
        · exact hNF b h
      · by_cases hlt : i < xs.length
        · rw [List.getElem?_append_left hlt] at hi
          obtain ⟨q1, ⟨es, hw', hr⟩, q3⟩ := vin i x hi
          simp only [if_pos hlt]
          refine ⟨by rw [List.getElem?_append_left (by have := (List.getElem?_eq_some_iff.1 q1).1; exact this)]; exact q1, ⟨es, owns_of hw' fun b hb => keepb b (q3 b hb).1.2.1 (q3 b hb).2.1, rowCb hr⟩, fun b hb => ⟨(q3 b hb).1.1, fun e => ?_, fun j y hj hy => ?_⟩⟩
          · rcases hbl b e with h | h
            · exact (q3 b hb).2.1 h
            · have := (q3 b hb).1.2.1; omega
          · by_cases hjl : j < xs.length
            · rw [if_pos hjl]
              rw [List.getElem?_append_left hjl] at hy
              exact (q3 b hb).2.2 j y hj hy
            · rw [if_neg hjl]
              rw [List.getElem?_append_right (by omega)] at hy
              exact fun e => hlq b (holdl b (.inr ⟨i, x, hi, hb⟩)) (holdq b (.inr ⟨_, y, hy, e⟩))
        · rw [List.getElem?_append_right (by omega)] at hi
          obtain ⟨q1, ⟨es, hw', hr⟩, q3⟩ := uin _ x hi
          simp only [if_neg hlt]
          have hvl : vs.length = xs.length := by have := hw.1; rw [this, Nat.mul_one]
          refine ⟨by rw [List.getElem?_append_right (by omega), hvl]; exact q1, ⟨es, owns_of hw' fun b hb => keepb b (q3 b hb).1.2.1 (fun e => hlq b (holdl b (.inl e)) (holdq b (.inr ⟨_, x, hi, hb⟩))), rowCb hr⟩, fun b hb => ⟨(q3 b hb).1.1, fun e => ?_, fun j y hj hy => ?_⟩⟩
          · rcases hbl b e with h | h
            · exact hlq b (holdl b (.inl h)) (holdq b (.inr ⟨_, x, hi, hb⟩))
            · have := (q3 b hb).1.2.1; omega
          · by_cases hjl : j < xs.length
            · rw [if_pos hjl]
              rw [List.getElem?_append_left hjl] at hy
              exact fun e => hlq b (holdl b (.inr ⟨j, y, hy, e⟩)) (holdq b (.inr ⟨_, x, hi, hb⟩))
            · rw [if_neg hjl]
              rw [List.getElem?_append_right (by omega)] at hy
              exact (q3 b hb).2.2 _ y (by omega) hy
    · intro b hbb m hm hml hh
      obtain ⟨m1, m2, m3⟩ := liveq m hm hml
      rw [m3] at hh
      rcases hbb with h | ⟨i, x, hi, h⟩
      · rcases hbl b h with h | h
        · exact H.mem.apart l m b (Ne.symm hm) (by rw [hl]; rfl) m2 (holdl b (.inl h)) hh
        · have := (blk_lt H.mem m2 hh).1; omega
      · by_cases hlt : i < xs.length
        · rw [List.getElem?_append_left hlt] at hi
          simp only [if_pos hlt] at h
          exact H.mem.apart l m b (Ne.symm hm) (by rw [hl]; rfl) m2 (holdl b (.inr ⟨i, x, hi, h⟩)) hh
        · rw [List.getElem?_append_right (by omega)] at hi
          simp only [if_neg hlt] at h
          exact H.mem.apart q m b (Ne.symm m1) (by rw [hq]; rfl) m2 (holdq b (.inr ⟨_, x, hi, h⟩)) hh
    · rw [hver1] at h2
      exact ⟨own_one hown, by rw [h2]; exact Nat.le_refl _, fun _ => h1.symm⟩
  rw [hse, hxe] at hexec
  have hown' : w.ownsRow 0 te ie.size (ρ (pl l)) xs.length vs := by rw [hisz]; exact hw
  rcases hwq.2 with ⟨hqn, hq0⟩ | ⟨gq, cap, cur, hqv, _, hh, hcap, _, hcs, htake⟩
  · have hu0 : us = [] := List.eq_nil_of_length_eq_zero (by rw [hwq.1, hq0])
    have hr := run_append_owned_none (P := P) w 0 t o.type te ie 1 hu hie (ρ (pl l)) xs.length vs hw
    rw [← hqn] at hr
    exact fin _ _ (hexec hr) (by rw [hq0, hu0, List.append_nil]; exact hw) (World.grownBy.refl w _) (fun b h => .inl h)
  · have hbytes : (xs.length + ys.length) * b ≤ 140737488355328 := by
      have : (xs.length + ys.length) * b ≤ 1073741824 * 4096 := Nat.mul_le_mul hlen hb
      omega
    obtain ⟨v', w', hr, hown2, hg2, _, hat'⟩ := run_append_own_at (P := P) w 0 t o.type te ie zv 1 b hu hie hiz hisz hib hzs (by omega) (ρ (pl l)) xs.length vs hw ⟨gq, 0, none⟩ ys.length cap us hwq.1
      (fun j u hj => hwq.cells (g := gq) (by rw [hqv]; rfl) j u hj) u1 (by unfold maxLen; omega) hbytes (Nat.zero_le _)
    rw [← hqv] at hr
    have hblk : ∀ b, Value.ownBlock (ρ (pl l)) = some b ↔ blk (ρ (pl l)) = some b := fun b => ⟨own_blk hw, blk_own hw⟩
    refine fin _ _ (hexec hr) hown2 ⟨hg2.os, hg2.tape, hg2.output, hg2.size, fun k hk hne' => hg2.block k hk (fun e => hne' ((hblk k).1 e.symm).symm)⟩ (fun b hbv => ?_)
    have := blk_own hown2 hbv
    rcases hat' with e | e
    · exact .inl ((hblk b).1 (by rw [← e]; exact this))
    · rw [this] at e
      injection e with e
      exact .inr (by omega)

/-- A call whose result is a row of new rows. -/
theorem e_deepCall (H : Here P c N F ρ own slots a w) (hN : ∀ b, w.heap.size ≤ b → N b) {d : Nat} (hd : d < a.tmps.size) (hdst : o.dst = some d) {cl : Call} {g : Operand} (hcl : cl.callee = .value g) {f : FuncId} {caps : List D} (hg : evA slots g = .one (.d (.clo f caps))) {r : RV} {ty ety : TypeId} {nl : Option Bool} {e : ElB} {xs : List (List e.T)}
    (h : acall c own f (evL (evA slots) cl.args.toList ++ capsOf caps) = .ok p r) (hp : p) (ho : o.op = .call cl) (hR : r.row = some ⟨ty, nl, .s e, xs⟩) (hdp : dpOf c f = some ety)
    {K : St → Prop} (hK : K ⟨upd slots d (ren (.own d ((own d).ver + 1)) r.av), upd own d ⟨(own d).ver + 1, .deep ty ety e xs noG⟩⟩) : Eff P c N F ρ own o a w K Q := by
  unfold Eff
  refine call_okX H hcl hg h hp ho fun v w' hbel hret => ?_
  rw [hdp] at hret
  unfold RetX RetD at hret
  simp only [hR] at hret
  obtain ⟨s, inner, hdeep, hn, hav⟩ := hret
  obtain ⟨vs, hw, h1, hns, hin⟩ := hdeep
  have hFn : ∀ b, F b → newD w w' F s inner xs.length b := fun b hb => by
    have hlt := H.mem.fin b hb
    refine ⟨.inl hb, fun e => by have := hns b e; omega, fun i hi e => ?_⟩
    have := ((hin i _ (List.getElem?_eq_getElem hi)).2.2 b e).1
    omega
  refine next_deep H (l := d) (w' := w') (s := s) (u := v) (inner := inner) (F' := newD w w' F s inner xs.length) hd hdst hbel.os hbel.tape hbel.output hbel.size (fun b hb _ => hbel.block b hb) hFn (fun b hb => hb.1) hN ?_ ?_ (fun ρ' own' h1 h2 hC => ?_) hK
  · refine ⟨vs, hw, h1, fun b hb => ⟨hN b (hns b hb), fun hf => hf.2.1 hb⟩, fun i x hx => ?_⟩
    obtain ⟨q1, q2, q3⟩ := hin i x hx
    exact ⟨q1, q2, fun b hb => ⟨⟨hN b (q3 b hb).1, fun hf => hf.2.2 i (List.getElem?_eq_some_iff.1 hx).1 hb⟩, (q3 b hb).2⟩⟩
  · intro b hb l' hne hl' hh
    have := (blk_lt H.mem hl' hh).1
    rcases hb with hb | ⟨i, x, hx, hb⟩
    · have := hns b hb; omega
    · have := ((hin i x hx).2.2 b hb).1; omega
  · refine AVG.ren (fun z v hz => ?_) hav
    cases z with
    | d x => exact hz
    | own l ver =>
      injection hz with hz
      subst hz
      exact ⟨own_one hw, by rw [h2]; exact Nat.le_refl _, fun _ => h1.symm⟩
    | ptr l ver i j => exact hz.elim
    | sub l ver off n => exact hz.elim

theorem nthA_set {xs : List AV} {i : Nat} {a b : AV} (h : nthA xs i = some a) : nthA (setA xs i b) i = some b := by
  induction xs generalizing i with
  | nil => simp [nthA] at h
  | cons x xs ih => cases i with
    | zero => rfl
    | succ i => exact ih h
theorem setA_set : ∀ (xs : List AV) (i : Nat) (a b : AV), setA (setA xs i a) i b = setA xs i b
  | [], _, _, _ => rfl
  | _ :: _, 0, _, _ => rfl
  | x :: r, i + 1, a, b => by simp [setA, setA_set r i a b]
theorem setA_len : ∀ (xs : List AV) (i : Nat) (a : AV), (setA xs i a).length = xs.length
  | [], _, _ => rfl
  | _ :: _, 0, _ => rfl
  | x :: r, i + 1, a => by simp [setA, setA_len r i a]
theorem setA_get : ∀ (xs : List AV) (i j : Nat) (a : AV), j ≠ i → (setA xs i a)[j]? = xs[j]?
  | [], _, _, _, _ => rfl
  | _ :: _, 0, 0, _, h => absurd rfl h
  | _ :: _, 0, j + 1, _, _ => rfl
  | x :: r, i + 1, 0, a, _ => rfl
  | x :: r, i + 1, j + 1, a, h => by simpa [setA] using setA_get r i j a (by omega)
theorem othersD_set : ∀ {xs : List AV} {i : Nat} {a : AV}, othersD i xs = true → othersD i (setA xs i a) = true
  | [], _, _, h => h
  | _ :: _, 0, _, h => h
  | x :: r, i + 1, a, h => by
    simp only [othersD, setA, Bool.and_eq_true] at h ⊢
    exact ⟨h.1, othersD_set h.2⟩
theorem args_ok (H : Here P c N F ρ own slots a w) {cl : Call} {caps : List D} {us : List Value} (hul : us.length = caps.length) (hus : ∀ (j : Nat) x u, caps[j]? = some x → us[j]? = some u → DC w F x u) :
    ∀ (j : Nat) x v, (evL (evA slots) cl.args.toList ++ capsOf caps)[j]? = some x → (cl.args.toList.map a.eval ++ us)[j]? = some v → AVC w F ρ own x v := by
  intro j x v hx hv
  have hlen : (evL (evA slots) cl.args.toList).length = (cl.args.toList.map a.eval).length := by simp [evL]
  by_cases hj : j < (cl.args.toList.map a.eval).length
  · rw [List.getElem?_append_left (by omega)] at hx
    rw [List.getElem?_append_left hj] at hv
    exact evL_ok H _ j x v hx hv
  · rw [List.getElem?_append_right (by omega), capsOf_get, hlen] at hx
    rw [List.getElem?_append_right (by omega)] at hv
    cases hc : caps[j - (cl.args.toList.map a.eval).length]? with
    | none => rw [hc] at hx; cases hx
    | some d =>
      rw [hc] at hx
      simp only [Option.map_some, Option.some.injEq] at hx
      subst hx
      exact hus _ d v hc hv
theorem enter_run {cl : Call} {g : Operand} {f : FuncId} {us : List Value} {fn : Func} (hcl : cl.callee = .value g) (hge : a.eval g = .func (.func f) #[] us.toArray) (ho : o.op = .call cl) (hfn : P.funcs[f]? = some fn) (hname : (fn.name == "runtime.NumGoroutine") = false) (hbody : fn.body.isNone = false) :
    (execOp a.eval o).run P w = .ok (.enter f (cl.args.toList.map a.eval ++ us).toArray) w := by
  have hargs' : (cl.args.map a.eval) ++ us.toArray = (cl.args.toList.map a.eval ++ us).toArray := by
    apply Array.ext'; simp
  have hname' : ¬ fn.name = "runtime.NumGoroutine" := by simpa using hname
  have hbody' : ¬ fn.body = none := by intro h; rw [h] at hbody; cases hbody
  simp [execOp, ho, resolve, hcl, hge, Deferred.ofValue, invoke, callFunc, hfn, hargs']
  rw [if_neg hname', if_neg hbody']

/-- The rows of place l are written in place. -/
theorem next_inner (H : Here P c N F ρ own slots a w) {d l ver : Nat} (hd : d < a.tmps.size) (hdst : o.dst = some d) {w' : World} {v : Value} {ty ety : TypeId} {e : ElB} {xs ys : List (List e.T)} {g : Nat → Bool} {av : AV}
    (hl : own l = ⟨ver, .deep ty ety e xs g⟩) (hlen : ys.length = xs.length)
    (hos : w'.os = w.os) (htape : w'.tape = w.tape) (hout : w'.output = w.output) (hsz : w.heap.size ≤ w'.heap.size)
    (hoth : ∀ b, b < w.heap.size → ¬ holds ρ l (own l).obj b → w'.heap[b]? = w.heap[b]?)
    (hdeep : OwnOk w' N F ρ own l (.deep ty ety e ys g)) (hav : AVG (RetCell w' (fun _ => False) none) av v)
    {K : St → Prop} (hK : K ⟨upd slots d av, upd own l ⟨ver, .deep ty ety e ys g⟩⟩) : ∃ σ' F' ρ', K σ' ∧ Next' P c N F ρ own a w σ' (a.put o.dst v) w' F' ρ' := by
  have hlive : (own l).obj.live = true := by rw [hl]; rfl
  have hext : Ext w F w' F := ⟨hos, htape, hout, hsz, fun b hb => hoth b (H.mem.fin b hb) (fun h => (blk_lt H.mem hlive h).2.2 hb), fun _ h => h⟩
  have hother : ∀ l', l' ≠ l → upd own l ⟨ver, .deep ty ety e ys g⟩ l' = own l' ∧ ρ (pl l') = ρ (pl l') := fun l' h => ⟨upd_ne _ _ h, rfl⟩
  have hC : ∀ z v, CellC w F ρ own z v → CellC w' F ρ (upd own l ⟨ver, .deep ty ety e ys g⟩) z v := fun z v h =>
    h.step (l := l) hext hother (.inr (by rw [upd_eq]; exact ⟨by rw [hl], rfl, .inr (.inr ⟨ty, ety, e, xs, ys, g, by rw [hl], rfl, hlen, fun _ _ => rfl⟩)⟩))
  have hsame : ∀ b, holds ρ l (.deep ty ety e ys g) b → holds ρ l (own l).obj b := fun b h => by
    rw [hl]
    rcases h with h | ⟨i, x, hx, hgi, h⟩
    · exact .inl h
    · have hlt := (List.getElem?_eq_some_iff.1 hx).1
      exact .inr ⟨i, _, List.getElem?_eq_getElem (by omega), hgi, h⟩
  refine ⟨_, F, ρ, hK, ⟨H.cfg, ?_, ?_⟩, hext, fun b h hn => hoth b h (fun e => hn (blk_lt H.mem hlive e).2.1), fun b h => .inl h, ?_, ?_, fun l' => ?_, fun _ _ => ⟨rfl, fun _ => rfl⟩⟩
  · rw [hdst]
    refine slots_put hC H.sl hd (AVG.imp (fun z v hz => ?_) hav)
    cases z with
    | d x => exact DC.mono (ext_sub fun b hb => hb.elim) hz
    | own _ _ => cases hz
    | ptr _ _ _ _ => exact hz.elim
    | sub _ _ _ _ => exact hz.elim
  · refine H.mem.step (l := l) hext hother (fun _ _ _ => rfl) hC (fun l' b hne hl' hb hlt hn => ⟨hoth b hlt (fun e => H.mem.apart l l' b (Ne.symm hne) hlive hl' e hb), hn⟩) ?_ (fun l' b hne hl' e1 e2 => ?_) (fun b h => Nat.lt_of_lt_of_le (H.mem.fin b h) hsz)
    · show OwnOk _ N F _ _ l (upd own l _ l).obj
      rw [upd_eq]
      exact hdeep
    · have e1 : holds ρ l (upd own l ⟨ver, .deep ty ety e ys g⟩ l).obj b := e1
      rw [upd_eq] at e1
      exact H.mem.apart l l' b (Ne.symm hne) hlive hl' (hsame b e1) e2
  · rw [hdst]; exact put_size _ _ _
  · rw [hdst]; exact put_defers' _ _ _
  · show _ ≤ (upd own l ⟨ver, .deep ty ety e ys g⟩ l').ver
    rw [upd_get]; split
    · rename_i e; rw [e, hl]; exact Nat.le_refl _
    · exact Nat.le_refl _

theorem sub_some {x : AV} {l ver off : Nat} (h : subCell x = some (l, ver, off)) : ∃ n, x = .one (.sub l ver off n) := by
  unfold subCell at h
  split at h
  · injection h with h
    simp only [Prod.mk.injEq] at h
    obtain ⟨rfl, rfl, rfl⟩ := h
    exact ⟨_, rfl⟩
  · cases h

/-- A callee writes one inner row. -/
theorem e_callI (H : Here P c N F ρ own slots a w) {d : Nat} (hd : d < a.tmps.size) (hdst : o.dst = some d) {cl : Call} {g : Operand} (hcl : cl.callee = .value g) {f : FuncId} {caps : List D} (hg : evA slots g = .one (.d (.clo f caps))) {r : AV × (Nat → Loc)}
    (h : acallI c own f (evL (evA slots) cl.args.toList ++ capsOf caps) = .ok p r) (hp : p) (ho : o.op = .call cl)
    {K : St → Prop} (hK : K ⟨upd slots d r.1, r.2⟩) : Eff P c N F ρ own o a w K Q := by
  unfold acallI at h
  split at h
  · cases h
  · rename_i con hcon
    obtain ⟨hs, fn, hfn, hname, hbody⟩ := H.cfg.conw f con hcon
    split at h
    · cases h
    · rename_i a0 ha0
      split at h
      · cases h
      · rename_i l ver off hoc
        split at h
        · rename_i ver' ty ety e xs gg hl
          split at h
          · rename_i x hoth hpat
            split at h
            · rename_i ys hcast
              injection h with e1 e2
              subst e1; subst e2
              obtain ⟨hv1, hty, hoff, hgo, hpre, htr⟩ := hp
              subst hv1; subst hty
              obtain ⟨n, rfl⟩ := sub_some hoc
              have hx0 := getD_some (d := []) hoff
              have hok := H.mem.ok l
              rw [hl] at hok
              have hok0 := hok
              obtain ⟨vs, hw, v1, vn, hin⟩ := hok
              obtain ⟨q1, ⟨us0, hu, hr⟩, q3⟩ := hin off _ hx0 hgo
              have hlive : (own l).obj.live = true := by rw [hl]; rfl
              have hclo : DC w F (.clo f caps) (a.eval g) := H.ev' hg
              generalize hge : a.eval g = vg at hclo
              cases hclo with
              | clo us hul hus =>
                have hargs := args_ok H (cl := cl) hul hus
                have hcall := hs w F (setA (evL (evA slots) cl.args.toList ++ capsOf caps) con.wi (.one (.own 0 0))) (cl.args.toList.map a.eval ++ us) (.one (.own 0 0)) 0 0 x (ρ (inn l off)) (.b e) (xs.getD off []) ys us0 (nthA_set ha0) rfl (othersD_set hoth) (by rw [setA_set]; exact hpat) hpre hcast rfl H.mem.fin
                  (by rw [setA_len]; simp [evL, capsOf_len, hul]) (fun j y v hy hv => by
                    by_cases hj : j = con.wi
                    · subst hj
                      rw [nthA_eq] at ha0
                      have h1 := nthA_set (b := .one (.own 0 0)) (by rw [nthA_eq]; exact ha0)
                      rw [nthA_eq, hy] at h1
                      injection h1 with h1
                      subst h1
                      have hc : CellC w F ρ own (.sub l ver off n) v := hargs _ _ v ha0 hv
                      exact (hc.2.2 (by rw [hl])).2 _ _ _ _ _ _ (by rw [hl]) hx0 hgo
                    · rw [setA_get _ _ _ _ hj] at hy
                      exact strict_arg (othersD_get hoth j y hj hy) (hargs j y v hy hv)) hu hr
                  (fun b hb => ⟨(hu.lt b (blk_own hu hb)).2, (q3 b hb).2.1⟩) (own_one hu)
                unfold Eff Oper.wp
                rw [enter_run hcl hge ho hfn hname hbody]
                refine hcall.mono fun e' w' he => ?_
                obtain ⟨v, s', cells', rfl, hgr, q2, q3', q4, q5, q6⟩ := he
                rw [htr] at q6
                obtain ⟨rfl, hav⟩ := q6
                have hbl : ∀ b, blk (ρ (inn l off)) = some b → holds ρ l (own l).obj b := fun b hb => by rw [hl]; exact .inr ⟨off, _, hx0, hgo, hb⟩
                refine next_inner H hd hdst (ty := ty) (ety := con.ty) (e := e) (xs := xs) (ys := xs.set off ys) (g := gg) (w' := w') hl (by simp) hgr.os hgr.tape hgr.output hgr.size (fun b hb hnh => hgr.block b hb (fun e => hnh (hbl b e.symm))) ?_ hav hK
                have keepb : ∀ b, b < w.heap.size → blk (ρ (inn l off)) ≠ some b → w'.heap[b]? = w.heap[b]? := fun b hb h => hgr.block b hb (fun e => h e.symm)
                refine ⟨vs, owns_of (by rw [List.length_set]; exact hw) (fun b hb => keepb b (hw.lt b (blk_own hw hb)).2 (fun e => (q3 b e).2.2.1 hb)), v1, vn, fun i y hi hgi => ?_⟩
                have hlt : i < xs.length := by have := (List.getElem?_eq_some_iff.1 hi).1; simpa using this
                have hrest : ∀ b, blk (ρ (inn l i)) = some b → N b ∧ ¬ F b ∧ blk (ρ (pl l)) ≠ some b ∧ ∀ j y, j ≠ i → (xs.set off ys)[j]? = some y → gg j = false → blk (ρ (inn l j)) ≠ some b := fun b hb => by
                  obtain ⟨_, _, r3⟩ := hin i _ (List.getElem?_eq_getElem hlt) hgi
                  refine ⟨(r3 b hb).1, (r3 b hb).2.1, (r3 b hb).2.2.1, fun j y hj hy hgj => ?_⟩
                  have hjl : j < xs.length := by have := (List.getElem?_eq_some_iff.1 hy).1; simpa using this
                  exact (r3 b hb).2.2.2 j _ hj (List.getElem?_eq_getElem hjl) hgj
                by_cases hio : i = off
                · subst hio
                  rw [List.getElem?_set_self hlt] at hi
                  injection hi with hi
                  subst hi
                  exact ⟨q1, ⟨_, q3', rowCb q4⟩, hrest⟩
                · rw [List.getElem?_set_ne (Ne.symm hio)] at hi
                  obtain ⟨r1, ⟨us1, hu1, hr1⟩, r3⟩ := hin i y hi hgi
                  exact ⟨r1, ⟨us1, owns_of hu1 (fun b hb => keepb b (hu1.lt b (blk_own hu1 hb)).2 (fun e => (q3 b e).2.2.2 i y hio hi hgi hb)), rowCb hr1⟩, hrest⟩
            · cases h
          · cases h
        · cases h

/-- A callee writes all inner rows. -/
theorem e_callD (H : Here P c N F ρ own slots a w) {d : Nat} (hd : d < a.tmps.size) (hdst : o.dst = some d) {cl : Call} {g : Operand} (hcl : cl.callee = .value g) {f : FuncId} {caps : List D} (hg : evA slots g = .one (.d (.clo f caps))) {r : AV × (Nat → Loc)}
    (h : acallD c own f (evL (evA slots) cl.args.toList ++ capsOf caps) = .ok p r) (hp : p) (ho : o.op = .call cl)
    {K : St → Prop} (hK : K ⟨upd slots d r.1, r.2⟩) : Eff P c N F ρ own o a w K Q := by
  unfold acallD at h
  split at h
  · cases h
  · rename_i con hcon
    obtain ⟨hs, fn, hfn, hname, hbody⟩ := H.cfg.cond f con hcon
    split at h
    · cases h
    · rename_i a0 ha0
      split at h
      · cases h
      · rename_i l ver hoc
        split at h
        · rename_i ver' ty ety xs gg hl
          split at h
          · rename_i x hoth hpat
            injection h with e1 e2
            subst e1; subst e2
            obtain ⟨hv1, hty, hety, hgg, hpre, hlen⟩ := hp
            subst hv1; subst hty; subst hety
            have hlive : (own l).obj.live = true := by rw [hl]; rfl
            obtain ⟨vs, hw, v1, vn, vin⟩ := deep_at H hl hgg
            have hclo : DC w F (.clo f caps) (a.eval g) := H.ev' hg
            generalize hge : a.eval g = vg at hclo
            cases hclo with
            | clo us hul hus =>
              have hargs := args_ok H (cl := cl) hul hus
              have hcall := hs w F (evL (evA slots) cl.args.toList ++ capsOf caps) (cl.args.toList.map a.eval ++ us) a0 l ver x (ρ (pl l)) xs (fun i => ρ (inn l i)) ha0 hoc hoth hpat hpre hlen H.mem.fin
                (by simp [evL, capsOf_len, hul]) (fun j y v hy hv => by
                  by_cases hj : j = con.wi
                  · subst hj
                    rw [nthA_eq, hy] at ha0
                    injection ha0 with ha0
                    subst ha0
                    exact own_arg hoc ⟨by rw [hl], by rw [hl]; trivial⟩ (hargs _ y v hy hv)
                  · exact strict_arg (othersD_get hoth j y hj hy) (hargs j y v hy hv))
                ⟨vs, hw, v1, fun b hb => ⟨(vn b hb).2.1, (vn b hb).1.2⟩, fun i y hi => ⟨(vin i y hi).1, (vin i y hi).2.1, fun b hb => ⟨⟨((vin i y hi).2.2 b hb).1.2.1, ((vin i y hi).2.2 b hb).1.1.2⟩, ((vin i y hi).2.2 b hb).2⟩⟩⟩ (own_one hw)
              unfold Eff Oper.wp
              rw [enter_run hcl hge ho hfn hname hbody]
              refine hcall.mono fun e' w' he => ?_
              obtain ⟨v, rfl, hos, htape, hout, hsz, hoth', hdeep, hav⟩ := he
              refine next_inner H hd hdst (ty := con.ty) (ety := con.ety) (e := .int) (xs := xs) (ys := con.out x) (g := gg) (w' := w') hl hlen hos htape hout hsz (fun b hb hnh => hoth' b hb (fun e => hnh (by rw [hl]; exact .inl e)) (fun i hi e => hnh (by rw [hl]; exact .inr ⟨i, _, List.getElem?_eq_getElem hi, hgg i hi, e⟩))) ?_ hav hK
              obtain ⟨vs', hw', v1', vn', vin'⟩ := hdeep
              have hNb : ∀ b, (blk (ρ (pl l)) = some b ∨ ∃ i x, xs[i]? = some x ∧ blk (ρ (inn l i)) = some b) → N b ∧ ¬ F b := fun b hb => by
                rcases hb with hb | ⟨i, x, hx, hb⟩
                · exact (vn b hb).1
                · exact ((vin i x hx).2.2 b hb).1.1
              refine ⟨vs', hw', v1', fun b hb => hNb b (.inl hb), fun i y hi hgi => ?_⟩
              obtain ⟨r1, r2, r3⟩ := vin' i y hi
              have hlt : i < xs.length := by have := (List.getElem?_eq_some_iff.1 hi).1; omega
              obtain ⟨us1, hu1, hr1⟩ := r2
              exact ⟨r1, ⟨us1, hu1, rowCb hr1⟩, fun b hb => ⟨(hNb b (.inr ⟨i, _, List.getElem?_eq_getElem hlt, hb⟩)).1, (hNb b (.inr ⟨i, _, List.getElem?_eq_getElem hlt, hb⟩)).2, (r3 b hb).2.1, fun j y hj hy _ => (r3 b hb).2.2 j y hj hy⟩⟩
          · cases h
        · cases h

/-- EVERY OPERATION ON ROWS OF ROWS. -/
theorem s_deep (H : Here P c N F ρ own slots a w) (hN : ∀ b, w.heap.size ≤ b → N b) (hd : ∀ d, o.dst = some d → d < a.tmps.size) {r : AV × (Nat → Loc)} (h : aeffD c o (evA slots) own = .ok p r) (hp : p) {K : St → Prop} (hK : K ⟨(St.put ⟨slots, own⟩ o.dst r.1).slots, r.2⟩) : Eff P c N F ρ own o a w K Q := by
  unfold aeffD at h
  split at h
  · rename_i t len parts d ho hdst
    rw [hdst] at hK
    split at h
    · rename_i sz z0 ty e b z hty hparts
      split at h
      · split at h
        · injection h with e1 e2
          subst e2
          exact e_deep0 H hN (hd d hdst) hdst ho hparts hty hK
        · cases h
      · cases h
    · rename_i sz z0 ty e b z x hty hparts
      split at h
      · rename_i l ver hx
        split at h
        · rename_i ver' ety e' xs hl
          split at h
          · rename_i xs' hcast
            obtain ⟨ee, he⟩ := castB_ok hcast
            subst ee
            subst he
            injection h with e1 e2
            subst e1; subst e2
            obtain ⟨rfl, hne⟩ := hp
            have hok := H.mem.ok l
            rw [hl] at hok
            obtain ⟨us, hw, hr, hn⟩ := hok
            have hxd : CellC w F ρ own (.own l ver) (a.eval x) := H.ev' hx
            have hxe := hxd.2.2 ⟨by rw [hl], by rw [hl]; trivial⟩
            have hvl : (own l).ver = ver := by rw [hl]
            have hk1 := H.kill1 l
            rw [hvl] at hk1
            refine Eff.base (own1 := upd own l ⟨ver, .dead⟩) (fun m => ?_) ?_
            · rw [upd_get]; split
              · rename_i e; rw [e, hl]
              · rfl
            · refine e_deep1 hk1 hN (hd d hdst) hdst ho hparts hty (by rw [hxe]; exact hw) hr (fun b hb => hn b (by rw [← hxe]; exact hb)) (fun b hb l' hne' hl' hh => ?_) (by rw [upd_ne _ _ hne]; exact hK)
              rw [hxe] at hb
              have hll : l' ≠ l := fun e => by subst e; rw [upd_eq] at hl'; cases hl'
              rw [upd_ne _ _ hll] at hl' hh
              exact H.mem.apart l l' b (Ne.symm hll) (by rw [hl]; rfl) hl' (by rw [hl]; exact hb) hh
          · cases h
        · cases h
      · rename_i l ver off n hx
        split at h
        · rename_i ver' ty' ety e' xs g hl
          split at h
          · rename_i x' hcast
            obtain ⟨ee, he⟩ := castB_ok hcast
            subst ee
            subst he
            injection h with e1 e2
            subst e1; subst e2
            obtain ⟨rfl, hne, hoff, hgo⟩ := hp
            have hx0 := getD_some (d := []) hoff
            have hok := H.mem.ok l
            rw [hl] at hok
            obtain ⟨vs, hw, v1, vn, hin⟩ := hok
            obtain ⟨q1, ⟨us, hu, hr⟩, q3⟩ := hin off _ hx0 hgo
            have hxd : CellC w F ρ own (.sub l ver off n) (a.eval x) := H.ev' hx
            have hxe := (hxd.2.2 (by rw [hl])).2 _ _ _ _ _ _ (by rw [hl]) hx0 hgo
            have hmono : ∀ i, upd g off true i = false → g i = false := fun i h => by
              rw [upd_get] at h
              split at h
              · cases h
              · exact h
            have hk1 := H.gone hl hmono
            refine Eff.base (own1 := upd own l ⟨ver, .deep ty' ety _ xs (upd g off true)⟩) (fun m => ?_) ?_
            · rw [upd_get]; split
              · rename_i e; rw [e, hl]
              · rfl
            · refine e_deep1 hk1 hN (hd d hdst) hdst ho hparts hty (by rw [hxe]; exact hu) hr (fun b hb => ⟨(q3 b (by rw [← hxe]; exact hb)).1, (q3 b (by rw [← hxe]; exact hb)).2.1⟩) (fun b hb l' hne' hl' hh => ?_) (by rw [upd_ne _ _ hne]; exact hK)
              rw [hxe] at hb
              by_cases hll : l' = l
              · subst hll
                rw [upd_eq] at hh
                rcases hh with hh | ⟨i, y, hi, hgi, hh⟩
                · exact (q3 b hb).2.2.1 hh
                · have hio : i ≠ off := fun e => by subst e; rw [upd_eq] at hgi; cases hgi
                  exact (q3 b hb).2.2.2 i y hio hi (hmono i hgi) hh
              · rw [upd_ne _ _ hll] at hl' hh
                exact H.mem.apart l l' b (Ne.symm hll) (by rw [hl]; rfl) hl' (by rw [hl]; exact .inr ⟨off, _, hx0, hgo, hb⟩) hh
          · cases h
        · cases h
      · cases h
    · cases h
  · rename_i cl d0 ho hdst0
    split at h
    · rename_i hcl
      split at h
      · rename_i l ver q verq t t' hargs hat
        split at h
        · rename_i sz z0 te e b z htt hty
          have := Nat.eq_of_beq_eq_true htt
          subst this
          obtain ⟨s0, r0, hargs', hs0, hr⟩ := evL_cons hargs
          obtain ⟨x0, r0, rfl, hx0, hr⟩ := evL_cons hr
          rw [evL_nil hr] at hargs'
          split at h
          · rename_i ver' ty ety e1 xs g verq' ty2 ety' e2 ys g' hl hq
            split at h
            · rename_i xs' ys' hc1 hc2
              obtain ⟨ee, he⟩ := castBB_ok hc1
              subst ee
              subst he
              obtain ⟨ee, he⟩ := castBB_ok hc2
              subst ee
              subst he
              injection h with k1 k2
              subst k1; subst k2
              obtain ⟨hne, rfl, rfl, rfl, rfl, hg, hg', hlen, hb⟩ := hp
              rw [hdst0] at hK
              exact e_deepApp H hN (hd _ hdst0) hdst0 ho hcl hargs' hat hty hs0 hx0 hne hl hq hg hg' hlen hb hK
            · cases h
          · cases h
        · cases h
      · cases h
    · rename_i gf hcl
      split at h
      · rename_i f caps d hg hdst
        rw [hdst] at hK
        split at h
        · rename_i p' r' hac
          injection h with e1 e2
          subst e1; subst e2
          exact e_callI H (hd d hdst) hdst hcl hg hac hp ho hK
        · split at h
          · rename_i p' r' hac
            injection h with e1 e2
            subst e1; subst e2
            exact e_callD H (hd d hdst) hdst hcl hg hac hp ho hK
          · split at h
            · rename_i ety p' r' hdp hac
              split at h
              · rename_i ty nl e xs hrow
                injection h with e1 e2
                subst e1; subst e2
                exact e_deepCall H hN (hd d hdst) hdst hcl hg hac hp ho hrow hdp hK
              · cases h
            · cases h
      · cases h
    · cases h
  · cases h
end
end Go.Proofs.Ytfjmlaciogmndaa
