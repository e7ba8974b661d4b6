/- Contracts: guards, masks, witnesses, hidden corners. -/
import Derived.Test.YtfjmlaciogmndaaGg
namespace Go.Proofs.Ytfjmlaciogmndaa
open Go.RowKit Go.Proofs.Ytfjmlaciogmndaa.Nm
set_option maxRecDepth 10000
set_option maxHeartbeats 2000000
set_option linter.unusedSimpArgs false
set_option linter.unusedVariables false
theorem floor_pt {xs : List Pt} {k : Nat} (hk : k < (floorPts xs).length) : ptOk (pAt (floorPts xs) k) = true := (floor_mem (pAt_mem hk)).2.1
theorem sub_len {α : Type} {l : List α} {f : α → Bool} {n : Nat} (h : l.length ≤ n) (k : Nat) : ((l.take k).filter f).length ≤ n := Nat.le_trans (List.length_filter_le _ _) (by rw [List.length_take]; omega)
/-! ### Guards -/
def seesAny (xs gs : List Pt) (p : Pt) : Bool := gs.any fun g => seesS xs g p
theorem any_succ {α : Type} {f : α → Bool} {xs : List α} {k : Nat} (d : α) (h : k < xs.length) : (xs.take (k + 1)).any f = ((xs.take k).any f || f (xs.getD k d)) := by
  rw [List.take_succ_eq_append_getElem h, List.any_append, getD_lt _ h]; simp
theorem any_yes {α : Type} {f : α → Bool} {xs : List α} {k : Nat} (d : α) (h : k < xs.length) (hf : f (xs.getD k d) = true) : xs.any f = true := List.any_eq_true.2 ⟨_, by rw [getD_lt _ h]; exact List.getElem_mem h, hf⟩
theorem any_take {α : Type} {f : α → Bool} {xs : List α} {k : Nat} (h : (xs.take k).any f = true) : xs.any f = true := by
  obtain ⟨x, hx, hf⟩ := List.any_eq_true.1 h
  exact List.any_eq_true.2 ⟨x, List.mem_of_mem_take hx, hf⟩
theorem any_full {α : Type} {f : α → Bool} {xs : List α} {k : Nat} {b : Bool} (hk : xs.length ≤ k) (h : (xs.take k).any f = b) : xs.any f = b := by rwa [List.take_of_length_le hk] at h
def notSeen (xs gs : List Pt) (p : Pt) : Bool := !seesAny xs gs p
theorem notSeen_t {xs gs : List Pt} {p : Pt} (h : seesAny xs gs p = false) : notSeen xs gs p = true := by unfold notSeen; rw [h]; rfl
theorem notSeen_f {xs gs : List Pt} {p : Pt} (h : seesAny xs gs p = true) : ¬ notSeen xs gs p = true := by unfold notSeen; rw [h]; decide
def unseenM (xs gs : List Pt) : List Pt := if allInM xs gs then (floorPts xs).filter (notSeen xs gs) else []
def seesAllM (xs gs : List Pt) : Bool := allInM xs gs && (floorPts xs).all (seesAny xs gs)
def unseenC : Con := mkCon [.room, .sl (.b .pt)] (fun x => x.1.length ≤ 1048576 ∧ x.2.1.length ≤ 1048576) fun x => ptRow (unseenM x.1 x.2.1)
def seesAllC : Con := mkCon [.room, .sl (.b .pt)] (fun x => x.1.length ≤ 1048576 ∧ x.2.1.length ≤ 1048576) fun x => vB (seesAllM x.1 x.2.1)
theorem unseen_bad {xs gs : List Pt} (h : allInM xs gs = false) : unseenM xs gs = [] := by unfold unseenM; rw [h]; rfl
theorem unseen_ok {xs gs : List Pt} (h : allInM xs gs = true) : unseenM xs gs = (floorPts xs).filter (notSeen xs gs) := by unfold unseenM; rw [h]; rfl
/-! ### The nearest guard -/
theorem sqd_small {a b : Pt} (ha : ptOk a = true) (hb : ptOk b = true) : IntKind.i64.wrap (IntKind.i64.wrap (IntKind.i64.wrap (a.1 - b.1) * IntKind.i64.wrap (a.1 - b.1)) + IntKind.i64.wrap (IntKind.i64.wrap (a.2 - b.2) * IntKind.i64.wrap (a.2 - b.2))) = sqd a b ∧ 0 ≤ sqd a b ∧ sqd a b ≤ 8000000 := by
  have h := sqM_exact (bd_of_ok ha) (bd_of_ok hb)
  rw [ptOk_iff] at ha hb
  have e1 := sq_bd (x := a.1 - b.1) (by omega) (by omega)
  have e2 := sq_bd (x := a.2 - b.2) (by omega) (by omega)
  refine ⟨?_, h.2⟩
  rw [W_in (n := a.1 - b.1) (by omega) (by omega), W_in (n := a.2 - b.2) (by omega) (by omega), W_in (n := (a.1 - b.1) * _) (by omega) (by omega), W_in (n := (a.2 - b.2) * _) (by omega) (by omega), W_in (by omega) (by omega)]
  rfl
theorem sqd_comm (a b : Pt) : sqd a b = sqd b a := by unfold sqd; grind
def squareC : Con := mkCon [.pt, .pt] (fun x => ptOk x.1 = true ∧ ptOk x.2.1 = true) fun x => vI (sqd x.1 x.2.1)
theorem square_ok : Good1 Try.prog n_impl_square squareC := by
  refine good_ofG (tys := tyL) (env := []) (envw := []) (envd := []) [] [] [] [] [] mixed tys trivial trivial trivial Try.func80 rfl (by kernel_rfl) (by decide) (by kernel_rfl) ?_
  have hG_ := kpz [(0, [2, 3]), (1, [4])] [] [] []
  rintro ⟨⟨(a : Int), (b : Int)⟩, ⟨(c : Int), (d : Int)⟩, ⟨⟩⟩ ⟨(h1 : ptOk (a, b) = true), (h2 : ptOk (c, d) = true)⟩
  (repeat' (first | with_reducible exact True.intro | with_reducible refine st_seq ?_ | (with_reducible refine st_regionG hG_ ?_; intro K_ hK_) | (with_reducible refine st_region ?_; intro K_ hK_) | (with_reducible refine hK_ _ _ ?_; try clear hK_ K_) | ((with_reducible refine st_cond (b := ?b_) ?hb_ ?_ ?_); case hb_ => rfl) | with_reducible refine sq_n ?_ | with_reducible refine sq_r ?_ | with_reducible refine sq_e ?_ | with_reducible refine bq_n ?_ | with_reducible refine bq_r ?_ | with_reducible refine bq_q ?_ | with_reducible refine st_block ?_ | with_reducible refine st_exit ?_ | with_reducible refine st_ret ?_ | with_reducible refine st_skip ?_ | with_reducible refine gq_n ?_ | with_reducible refine gq_r ?_ | with_reducible refine gq_e ?_ | with_reducible refine lq_n ?_ | with_reducible refine lq_r ?_ | with_reducible refine lq_e ?_ | with_reducible refine bq_e (by decide) ?_ | ((conv => whnf); first | (with_reducible refine hK_ _ _ ?_; try clear hK_ K_) | (with_reducible refine fun (g_ : Sl) (o_ : Ow) => ?_) | with_reducible exact True.intro | with_reducible refine And.intro trivial ?_ | with_reducible refine And.intro ?_ ?_ | exact Nat.le_of_ble_eq_true rfl | exact Or.inl rfl | (intro h_; cases h_) | (intro h_; (try simp only [cond_true, cond_false, decide_eq_true_eq, decide_eq_false_iff_not, Bool.not_eq_true', Bool.not_eq_false', Int.toNat_natCast, prodEta] at h_)) | rfl))) <;> (try (conv => whnf)) <;> (try first | change (_ : Int) ≤ _ | change (_ : Nat) ≤ _)
  exact (sqd_small h1 h2).1
def squareOfC : Con := mkCon [.pt, .pt] (fun x => ptOk x.1 = true ∧ ptOk x.2.1 = true) fun x => vI (sqd x.1 x.2.1)
theorem squareOf_ok : Good1 Try.prog n_spec_SquareOf squareOfC := by
  refine good_ofG (tys := tyL) (env := [(n_spec_PointOk, ptOkC)]) (envw := []) (envd := []) [] [] [] [] [] mixed tys ⟨sPointOk_ok, trivial⟩ trivial trivial Try.func55 rfl (by kernel_rfl) (by decide) (by kernel_rfl) ?_
  have hG_ := kpz [(0, [2, 3]), (1, [2, 3, 12]), (2, [4]), (3, [4])] [] [] []
  rintro ⟨⟨(a : Int), (b : Int)⟩, ⟨(c : Int), (d : Int)⟩, ⟨⟩⟩ ⟨(h1 : ptOk (a, b) = true), (h2 : ptOk (c, d) = true)⟩
  (repeat' (first | with_reducible exact True.intro | with_reducible refine st_seq ?_ | (with_reducible refine st_regionG hG_ ?_; intro K_ hK_) | (with_reducible refine st_region ?_; intro K_ hK_) | (with_reducible refine hK_ _ _ ?_; try clear hK_ K_) | ((with_reducible refine st_cond (b := ?b_) ?hb_ ?_ ?_); case hb_ => rfl) | with_reducible refine sq_n ?_ | with_reducible refine sq_r ?_ | with_reducible refine sq_e ?_ | with_reducible refine bq_n ?_ | with_reducible refine bq_r ?_ | with_reducible refine bq_q ?_ | with_reducible refine st_block ?_ | with_reducible refine st_exit ?_ | with_reducible refine st_ret ?_ | with_reducible refine st_skip ?_ | with_reducible refine gq_n ?_ | with_reducible refine gq_r ?_ | with_reducible refine gq_e ?_ | with_reducible refine lq_n ?_ | with_reducible refine lq_r ?_ | with_reducible refine lq_e ?_ | with_reducible refine bq_e (by decide) ?_ | ((conv => whnf); first | (with_reducible refine hK_ _ _ ?_; try clear hK_ K_) | (with_reducible refine fun (g_ : Sl) (o_ : Ow) => ?_) | with_reducible exact True.intro | with_reducible refine And.intro trivial ?_ | with_reducible refine And.intro ?_ ?_ | exact Nat.le_of_ble_eq_true rfl | exact Or.inl rfl | (intro h_; cases h_) | (intro h_; (try simp only [cond_true, cond_false, decide_eq_true_eq, decide_eq_false_iff_not, Bool.not_eq_true', Bool.not_eq_false', Int.toNat_natCast, prodEta] at h_)) | rfl))) <;> (try (conv => whnf)) <;> (try first | change (_ : Int) ≤ _ | change (_ : Nat) ≤ _) <;> (try ((fail_if_success (with_reducible apply Exists.intro)); (try dsimp only); (try simp only [cond_true, cond_false, decide_eq_true_eq, decide_eq_false_iff_not, Bool.not_eq_true', Bool.not_eq_false', Int.toNat_natCast, prodEta])))
  · rw [h1] at h_; cases h_
  · rw [h2] at h_; cases h_
  · rw [sqd_comm]; exact (sqd_small h2 h1).1
def nearTo (xs gs : List Pt) (p : Pt) : Nat → Int
  | 0 => -1
  | k + 1 => if seesS xs (pAt gs k) p && (decide (nearTo xs gs p k < 0) || decide (sqd p (pAt gs k) < sqd p (pI gs (nearTo xs gs p k)))) then (k : Int) else nearTo xs gs p k
theorem nearTo_bd (xs gs : List Pt) (p : Pt) : ∀ k, -1 ≤ nearTo xs gs p k ∧ nearTo xs gs p k < k
  | 0 => by simp [nearTo]
  | k + 1 => by
    have := nearTo_bd xs gs p k
    unfold nearTo
    split <;> omega
theorem nearTo_t {xs gs : List Pt} {p : Pt} {k : Nat} (h : seesS xs (pAt gs k) p = true) (h2 : nearTo xs gs p k < 0 ∨ sqd p (pAt gs k) < sqd p (pI gs (nearTo xs gs p k))) : (k : Int) = nearTo xs gs p (k + 1) := by
  refine (if_pos ?_).symm
  rw [h, Bool.true_and, Bool.or_eq_true, decide_eq_true_eq, decide_eq_true_eq]; exact h2
theorem nearTo_f1 {xs gs : List Pt} {p : Pt} {k : Nat} (h : seesS xs (pAt gs k) p = false) : nearTo xs gs p k = nearTo xs gs p (k + 1) := by
  refine (if_neg ?_).symm
  rw [h]; simp
theorem nearTo_f2 {xs gs : List Pt} {p : Pt} {k : Nat} (h : ¬ nearTo xs gs p k < 0) (h2 : ¬ sqd p (pAt gs k) < sqd p (pI gs (nearTo xs gs p k))) : nearTo xs gs p k = nearTo xs gs p (k + 1) := by
  refine (if_neg ?_).symm
  rw [decide_eq_false h, decide_eq_false h2]; simp
theorem sq_flip {a b c : Pt} (h : sqd a c < sqd b c) : sqd c a < sqd c b := by rw [sqd_comm c a, sqd_comm c b]; exact h
def nearM (xs gs : List Pt) (p : Pt) : Int := if allInM xs gs && isIn xs p then nearTo xs gs p gs.length else -1
def nearC : Con := mkCon [.room, .sl (.b .pt), .pt] (fun x => x.1.length ≤ 1048576 ∧ x.2.1.length ≤ 1048576) fun x => vI (nearM x.1 x.2.1 x.2.2.1)
/-! ### Masks -/
def maskM (xs : List Pt) (k : Int) : List Bool := if hasCor xs k then (floorPts xs).map (seesS xs (pI xs k)) else []
def rowB (xs : List Bool) : RV := ⟨.one (.own 0 0), some ⟨t_bool, none, .b .bool, xs⟩⟩
def maskC : Con := mkCon [.room, .int] (fun x => x.1.length ≤ 1048576) fun x => rowB (maskM x.1 x.2.1)
theorem mask_bad {xs : List Pt} {k : Int} (h : hasCor xs k = false) : maskM xs k = [] := by unfold maskM; rw [h]; rfl
theorem mask_ok {xs : List Pt} {k : Int} (h : hasCor xs k = true) : maskM xs k = (floorPts xs).map (seesS xs (pI xs k)) := by unfold maskM; rw [h]; rfl
theorem hasCor_ok {xs : List Pt} {k : Int} : hasCor xs k = true ↔ (0 ≤ k ∧ k ≤ xs.length - 1) ∧ roomOk xs = true := by unfold hasCor; rw [Bool.and_eq_true, btw_iff]
theorem map_len_le {α β : Type} {l : List α} {f : α → β} {n : Nat} (h : l.length ≤ n) (k : Nat) : ((l.take k).map f).length ≤ n := by rw [List.length_map, List.length_take]; omega
end Go.Proofs.Ytfjmlaciogmndaa
