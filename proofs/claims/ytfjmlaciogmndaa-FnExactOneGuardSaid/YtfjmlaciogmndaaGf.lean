/- Contracts: lists of points in a room, who sees all corners, walks, hidden points. -/
import Derived.Test.YtfjmlaciogmndaaGe
import Derived.Test.YtfjmlaciogmndaaGy
import Derived.Test.YtfjmlaciogmndaaLd
namespace Go.Proofs.Ytfjmlaciogmndaa
open Go.RowKit Go.Proofs.Ytfjmlaciogmndaa.Nm
set_option maxRecDepth 10000
set_option maxHeartbeats 2000000
set_option linter.unusedSimpArgs false
set_option linter.unusedVariables false
def sees2C : Con := mkCon [.room, .pt, .pt] (fun x => roomOk x.1 = true ∧ ptOk x.2.1 = true ∧ ptOk x.2.2.1 = true) fun x => vB (seesS x.1 x.2.1 x.2.2.1)
theorem sees2_ok : Good1 Try.prog n_impl_sees sees2C := by
  exact Good1.imp sees_ok fun x h => ⟨(room_len h.1).2, congrArg vB (sees_eq h.1 h.2.1 h.2.2).symm⟩
def inP (xs : List Pt) (p : Pt) : Bool := ptOk p && inB xs p
def allInM (xs l : List Pt) : Bool := roomOk xs && l.all (inP xs)
theorem inP_iff {xs : List Pt} {p : Pt} : inP xs p = true ↔ ptOk p = true ∧ placeM xs p ≠ 0 := by unfold inP; rw [Bool.and_eq_true, bne_iff_ne]
theorem isIn_iff {xs : List Pt} {p : Pt} : isIn xs p = true ↔ roomOk xs = true ∧ inP xs p = true := by
  unfold isIn placeIn inP
  cases ptOk p <;> cases roomOk xs <;> simp
theorem isIn_pt {xs : List Pt} {p : Pt} (h : isIn xs p = true) : ptOk p = true := (inP_iff.1 (isIn_iff.1 h).2).1
theorem isIn_room {xs : List Pt} {p : Pt} (h : isIn xs p = true) : roomOk xs = true := (isIn_iff.1 h).1
theorem allIn_iff {xs l : List Pt} : allInM xs l = true ↔ roomOk xs = true ∧ ∀ k, k < l.length → inP xs (pAt l k) = true := by
  unfold allInM
  rw [Bool.and_eq_true, List.all_eq_true]
  refine and_congr_right fun _ => ⟨fun h k hk => h _ (pAt_mem hk), fun h p hp => ?_⟩
  obtain ⟨k, hk, rfl⟩ := List.getElem_of_mem hp
  rw [← getD_lt (0, 0) hk]
  exact h k hk
theorem allIn_pt {xs l : List Pt} (h : allInM xs l = true) {k : Nat} (hk : k < l.length) : ptOk (pAt l k) = true := (inP_iff.1 ((allIn_iff.1 h).2 k hk)).1
theorem hold_out {xs : List Pt} {p : Pt} (hr : roomOk xs = true) (hp : ptOk p = true) : holdsM xs p < 0 ↔ placeM xs p = 0 := by
  rw [place_holds (bd_of_room hr) (bd_of_ok hp)]
  rcases hold_vals xs p with h | h | h <;> rw [h] <;> omega
def allInC : Con := mkCon [.room, .sl (.b .pt)] (fun x => x.1.length ≤ 1048576 ∧ x.2.1.length ≤ 1048576) fun x => vB (allInM x.1 x.2.1)
/-! ### Who sees all corners -/
def seesCs (xs : List Pt) (p : Pt) : Bool := (List.range xs.length).all fun k => seesS xs p (pAt xs k)
theorem seesCs_iff {xs : List Pt} {p : Pt} : seesCs xs p = true ↔ ∀ k, k < xs.length → seesS xs p (pAt xs k) = true := by
  unfold seesCs
  simp only [List.all_eq_true, List.mem_range]
def seesCsC : Con := mkCon [.room, .pt] (fun x => roomOk x.1 = true ∧ ptOk x.2.1 = true) fun x => vB (seesCs x.1 x.2.1)
theorem seesCorners_ok : Good1 Try.prog n_impl_seesCorners seesCsC := by
  refine good_ofG (tys := tyL) (env := [(n_impl_sees, sees2C)]) (envw := []) (envd := []) [] [] [] [] [] mixed tys ⟨sees2_ok, trivial⟩ trivial trivial Try.func28 rfl (by kernel_rfl) (by decide) (by kernel_rfl) ?_
  have hG_ := kpz [(0, [2, 3]), (1, [2, 3, 8, 9, 10]), (2, [2, 3, 8, 9, 10, 11]), (3, [2, 3, 6, 8, 9, 10]), (4, [2, 3, 8, 9, 10, 18]), (5, [4]), (6, [2, 3, 8, 9, 10]), (7, [4])] [(3, [6])] [] []
  rintro ⟨(xs : List Pt), ⟨(p : Int), (q : Int)⟩, ⟨⟩⟩ ⟨(hr : roomOk xs = true), (hp : ptOk (p, q) = true)⟩
  have hl := room_len hr
  have hpt : ∀ k, k < xs.length → ptOk (pAt xs k) = true := fun k hk => room_pt hr hk
  (repeat' (first | with_reducible exact True.intro | with_reducible refine st_seq ?_ | (with_reducible refine st_regionG hG_ ?_; intro K_ hK_) | (with_reducible refine st_region ?_; intro K_ hK_) | (with_reducible refine hK_ _ _ ?_; try clear hK_ K_) | ((with_reducible refine st_cond (b := ?b_) ?hb_ ?_ ?_); case hb_ => rfl) | with_reducible refine sq_n ?_ | with_reducible refine sq_r ?_ | with_reducible refine sq_e ?_ | with_reducible refine bq_n ?_ | with_reducible refine bq_r ?_ | with_reducible refine bq_q ?_ | with_reducible refine st_block ?_ | with_reducible refine st_exit ?_ | with_reducible refine st_ret ?_ | with_reducible refine st_skip ?_ | with_reducible refine gq_n ?_ | with_reducible refine gq_r ?_ | with_reducible refine gq_e ?_ | with_reducible refine lq_n ?_ | with_reducible refine lq_r ?_ | with_reducible refine lq_e ?_ | with_reducible refine bq_e (by decide) ?_ | ((conv => whnf); first | (with_reducible refine hK_ _ _ ?_; try clear hK_ K_) | (with_reducible refine fun (g_ : Sl) (o_ : Ow) => ?_) | with_reducible exact True.intro | with_reducible refine And.intro trivial ?_ | with_reducible refine And.intro ?_ ?_ | exact Nat.le_of_ble_eq_true rfl | exact Or.inl rfl | (intro h_; cases h_) | (intro h_; (try simp only [cond_true, cond_false, decide_eq_true_eq, decide_eq_false_iff_not, Bool.not_eq_true', Bool.not_eq_false', Int.toNat_natCast, prodEta] at h_)) | rfl))) <;> (try (conv => whnf)) <;> (try first | change (_ : Int) ≤ _ | change (_ : Nat) ≤ _) <;> (try ((fail_if_success (with_reducible apply Exists.intro)); (try dsimp only); (try simp only [cond_true, cond_false, decide_eq_true_eq, decide_eq_false_iff_not, Bool.not_eq_true', Bool.not_eq_false', Int.toNat_natCast, prodEta]))) <;> (try simp (disch := omega) only [ptEq2, cond_true, cond_false, decide_eq_true_eq, decide_eq_false_iff_not, List.length_drop, List.take_length, Int.toNat_zero, List.drop_zero, Nat.zero_add, List.nil_append, mod_nat1, mod_nat2, tm1, tm2, tmj, W_in, Int.add_sub_cancel, tn1, tnp, tnc, List.length_append, List.length_take, List.length_replicate, List.length_set, List.length_map, List.length_cons, List.length_nil, prodEta, Int.toNat_natCast, beq_iff_eq, beq_eq_false_iff_ne, bne_iff_ne, bne_eq_false_iff_eq, ne_eq, Int.natCast_inj, Int.ofNat_lt, Int.ofNat_le] at *)
  all_goals (try (fail_if_success (with_reducible apply Exists.intro)); first | with_reducible assumption | omega | exact mdl (by omega) | exact ilo1 (by omega) | exact ilo2 (by omega) | exact ihi1 (by omega) (by omega) | exact ihi2 (by omega) (by omega))
  refine awp'_loopG (α := Nat) (fun k ver_ => [(10, vInt k)]) (fun k ver_ => []) (fun k ver_ => []) (fun k => k ≤ xs.length ∧ ∀ j, j < k → seesS xs (p, q) (pAt xs j) = true) (fun k => xs.length - k) [2, 3, 8, 9] [] (0) ?_
  conv => whnf
  refine ⟨⟨?inv1_, ?vals1_, ?own1_, ?fix1_⟩, ?body1_⟩
  case' vals1_ => (repeat' (first | with_reducible exact True.intro | with_reducible refine And.intro ?_ ?_ | with_reducible refine Head.mk ?_ ?_ ?_ ?_ | ((conv => lhs; whnf); first | with_reducible rfl | with_reducible exact vInt_s (by omega) | exact rfl) | ((conv => whnf); first | with_reducible exact True.intro | with_reducible refine And.intro ?_ ?_))) <;> (try (conv => lhs; whnf))
  case' own1_ => (repeat' (first | with_reducible exact True.intro | with_reducible refine And.intro ?_ ?_ | with_reducible refine Head.mk ?_ ?_ ?_ ?_ | ((conv => lhs; whnf); first | with_reducible rfl | with_reducible exact vInt_s (by omega) | exact rfl) | ((conv => whnf); first | with_reducible exact True.intro | with_reducible refine And.intro ?_ ?_))) <;> (try (conv => lhs; whnf))
  case' fix1_ => (repeat' (first | with_reducible exact True.intro | with_reducible refine And.intro ?_ ?_ | with_reducible refine Head.mk ?_ ?_ ?_ ?_ | ((conv => lhs; whnf); first | with_reducible rfl | with_reducible exact vInt_s (by omega) | exact rfl) | ((conv => whnf); first | with_reducible exact True.intro | with_reducible refine And.intro ?_ ?_))) <;> (try (conv => lhs; whnf))
  · exact ⟨Nat.zero_le _, fun j hj => absurd hj (by omega)⟩
  rintro k g_ o_ v_ ⟨hk, hall⟩
  (repeat' (first | with_reducible exact True.intro | with_reducible refine st_seq ?_ | (with_reducible refine st_regionG hG_ ?_; intro K_ hK_) | (with_reducible refine st_region ?_; intro K_ hK_) | (with_reducible refine hK_ _ _ ?_; try clear hK_ K_) | ((with_reducible refine st_cond (b := ?b_) ?hb_ ?_ ?_); case hb_ => rfl) | with_reducible refine sq_n ?_ | with_reducible refine sq_r ?_ | with_reducible refine sq_e ?_ | with_reducible refine bq_n ?_ | with_reducible refine bq_r ?_ | with_reducible refine bq_q ?_ | with_reducible refine st_block ?_ | with_reducible refine st_exit ?_ | with_reducible refine st_ret ?_ | with_reducible refine st_skip ?_ | with_reducible refine gq_n ?_ | with_reducible refine gq_r ?_ | with_reducible refine gq_e ?_ | with_reducible refine lq_n ?_ | with_reducible refine lq_r ?_ | with_reducible refine lq_e ?_ | with_reducible refine bq_e (by decide) ?_ | ((conv => whnf); first | (with_reducible refine hK_ _ _ ?_; try clear hK_ K_) | (with_reducible refine fun (g_ : Sl) (o_ : Ow) => ?_) | with_reducible exact True.intro | with_reducible refine And.intro trivial ?_ | with_reducible refine And.intro ?_ ?_ | exact Nat.le_of_ble_eq_true rfl | exact Or.inl rfl | (intro h_; cases h_) | (intro h_; (try simp only [cond_true, cond_false, decide_eq_true_eq, decide_eq_false_iff_not, Bool.not_eq_true', Bool.not_eq_false', Int.toNat_natCast, prodEta] at h_)) | rfl))) <;> (try (conv => whnf)) <;> (try first | change (_ : Int) ≤ _ | change (_ : Nat) ≤ _) <;> (try ((fail_if_success (with_reducible apply Exists.intro)); (try dsimp only); (try simp only [cond_true, cond_false, decide_eq_true_eq, decide_eq_false_iff_not, Bool.not_eq_true', Bool.not_eq_false', Int.toNat_natCast, prodEta]))) <;> (try simp (disch := omega) only [ptEq2, cond_true, cond_false, decide_eq_true_eq, decide_eq_false_iff_not, List.length_drop, List.take_length, Int.toNat_zero, List.drop_zero, Nat.zero_add, List.nil_append, mod_nat1, mod_nat2, tm1, tm2, tmj, W_in, Int.add_sub_cancel, tn1, tnp, tnc, List.length_append, List.length_take, List.length_replicate, List.length_set, List.length_map, List.length_cons, List.length_nil, prodEta, Int.toNat_natCast, beq_iff_eq, beq_eq_false_iff_ne, bne_iff_ne, bne_eq_false_iff_eq, ne_eq, Int.natCast_inj, Int.ofNat_lt, Int.ofNat_le] at *)
  all_goals (try (fail_if_success (with_reducible apply Exists.intro)); first | with_reducible assumption | omega | exact mdl (by omega) | exact ilo1 (by omega) | exact ilo2 (by omega) | exact ihi1 (by omega) (by omega) | exact ihi2 (by omega) (by omega))
  all_goals first
    | exact hpt _ (by omega)
    | exact eq_true_of (seesCs_iff.2 fun j hj => hall j (by omega))
    | exact eq_false_of fun hc => absurd (seesCs_iff.1 hc k (by omega)) (by simp_all)
    | exact ⟨k + 1, by omega, ⟨by omega, lt_succ_all hall (by assumption)⟩, by (repeat' (first | with_reducible exact True.intro | with_reducible refine And.intro ?_ ?_ | with_reducible refine Head.mk ?_ ?_ ?_ ?_ | ((conv => lhs; whnf); first | with_reducible rfl | with_reducible exact vInt_s (by omega) | exact rfl) | ((conv => whnf); first | with_reducible exact True.intro | with_reducible refine And.intro ?_ ?_))) <;> (try (conv => lhs; whnf))⟩
def seesCornersM (xs : List Pt) (p : Pt) : Bool := isIn xs p && seesCs xs p
def seesCornersC : Con := mkCon [.room, .pt] (fun x => x.1.length ≤ 1048576) fun x => vB (seesCornersM x.1 x.2.1)
def seenCs (xs : List Pt) (p : Pt) (k : Nat) : List Int := ((List.range k).filter fun j => seesS xs p (pAt xs j)).map fun j : Nat => (j : Int)
theorem seenCs_succ (xs : List Pt) (p : Pt) (k : Nat) : seenCs xs p (k + 1) = seenCs xs p k ++ (if seesS xs p (pAt xs k) then [(k : Int)] else []) := by
  unfold seenCs
  rw [List.range_succ, List.filter_append, List.map_append]
  congr 1
  rw [List.filter_cons]
  by_cases h : seesS xs p (pAt xs k) = true
  · rw [if_pos h, if_pos h]; rfl
  · rw [if_neg h, if_neg h]; rfl
theorem seenCs_len (xs : List Pt) (p : Pt) (k : Nat) : (seenCs xs p k).length ≤ k := by
  unfold seenCs
  rw [List.length_map]
  exact Nat.le_trans (List.length_filter_le _ _) (by simp)
theorem seenCs_full {xs : List Pt} {p : Pt} {k : Nat} : (seenCs xs p k).length = k ↔ ∀ j, j < k → seesS xs p (pAt xs j) = true := by
  have h : (seenCs xs p k).length = ((List.range k).filter fun j => seesS xs p (pAt xs j)).length := by unfold seenCs; rw [List.length_map]
  rw [h]
  constructor
  · intro h j hj
    have := List.length_filter_eq_length_iff.1 (h.trans (List.length_range (n := k)).symm)
    exact this j (List.mem_range.2 hj)
  · intro h
    exact (List.length_filter_eq_length_iff.2 fun j hj => h j (List.mem_range.1 hj)).trans List.length_range
def cornersSeenM (xs : List Pt) (p : Pt) : List Int := if isIn xs p then seenCs xs p xs.length else []
/-! ### Walks -/
def walkM (xs l : List Pt) : Bool := decide (l.length ≤ 40) && (allInM xs l && (List.range (l.length - 1)).all fun i => seesS xs (pAt l i) (pAt l (i + 1)))
theorem walkM_iff {xs l : List Pt} : walkM xs l = true ↔ l.length ≤ 40 ∧ allInM xs l = true ∧ ∀ i, i + 1 < l.length → seesS xs (pAt l i) (pAt l (i + 1)) = true := by
  unfold walkM
  simp only [Bool.and_eq_true, decide_eq_true_eq, List.all_eq_true, List.mem_range]
  exact and_congr_right fun _ => and_congr_right fun _ => ⟨fun h i hi => h i (by omega), fun h i hi => h i (by omega)⟩
def walkC : Con := mkCon [.room, .sl (.b .pt)] (fun x => x.1.length ≤ 1048576 ∧ x.2.1.length ≤ 1048576) fun x => vB (walkM x.1 x.2.1)
/-! ### Hidden points -/
def hidM (xs l : List Pt) : Bool := decide (l.length ≤ 10) && (allInM xs l && (List.range l.length).all fun i => (List.range i).all fun k => !seesS xs (pAt l i) (pAt l k))
theorem hidM_iff {xs l : List Pt} : hidM xs l = true ↔ l.length ≤ 10 ∧ allInM xs l = true ∧ ∀ i, i < l.length → ∀ k, k < i → seesS xs (pAt l i) (pAt l k) = false := by
  unfold hidM
  simp only [Bool.and_eq_true, decide_eq_true_eq, List.all_eq_true, List.mem_range, Bool.not_eq_true']
def hidC : Con := mkCon [.room, .sl (.b .pt)] (fun x => x.1.length ≤ 1048576 ∧ x.2.1.length ≤ 1048576) fun x => vB (hidM x.1 x.2.1)
theorem pAt_take {l : List Pt} {i k : Nat} (h : k < i) : pAt (l.take i) k = pAt l k := by
  simp only [pAt, List.getD, List.getElem?_take, if_pos h]
end Go.Proofs.Ytfjmlaciogmndaa
