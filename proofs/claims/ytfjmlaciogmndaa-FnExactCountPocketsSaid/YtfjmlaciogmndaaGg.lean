/- Contracts: diagonals and ears. -/
import Derived.Test.YtfjmlaciogmndaaGf
namespace Go.Proofs.Ytfjmlaciogmndaa
open Go.RowKit Go.Proofs.Ytfjmlaciogmndaa.Nm
set_option maxRecDepth 10000
set_option maxHeartbeats 2000000
set_option linter.unusedSimpArgs false
set_option linter.unusedVariables false
/-! ### Which corners are neighbours -/
def neighZ (n i k : Int) : Bool := decide (Int.tmod (i + 1) n = k) || decide (Int.tmod (k + 1) n = i)
def neighC : Con := mkCon [.room, .int, .int] (fun x => 0 < x.1.length ∧ x.1.length ≤ 1048576 ∧ (-1000 ≤ x.2.1 ∧ x.2.1 ≤ 1000) ∧ (-1000 ≤ x.2.2.1 ∧ x.2.2.1 ≤ 1000)) fun x => vB (neighZ x.1.length x.2.1 x.2.2.1)
theorem neighbors_ok : Good1 Try.prog n_impl_neighbors neighC := by
  refine good_ofG (tys := tyL) (env := []) (envw := []) (envd := []) [] [] [] [] [] mixed tys trivial trivial trivial Try.func23 rfl (by kernel_rfl) (by decide) (by kernel_rfl) ?_
  have hG_ := kpz [(0, [1, 2, 3]), (1, [1, 2, 7]), (2, [6])] [] [] []
  rintro ⟨(xs : List Pt), (i : Int), (k : Int), ⟨⟩⟩ ⟨(h0 : 0 < xs.length), (h1 : xs.length ≤ _), ⟨(h2 : -1000 ≤ i), (h3 : i ≤ 1000)⟩, (h4 : -1000 ≤ k), (h5 : k ≤ 1000)⟩
  (repeat' (first | with_reducible exact True.intro | with_reducible refine st_seq ?_ | (with_reducible refine st_regionG hG_ ?_; intro K_ hK_) | (with_reducible refine st_region ?_; intro K_ hK_) | (with_reducible refine hK_ _ _ ?_; try clear hK_ K_) | ((with_reducible refine st_cond (b := ?b_) ?hb_ ?_ ?_); case hb_ => rfl) | with_reducible refine sq_n ?_ | with_reducible refine sq_r ?_ | with_reducible refine sq_e ?_ | with_reducible refine bq_n ?_ | with_reducible refine bq_r ?_ | with_reducible refine bq_q ?_ | with_reducible refine st_block ?_ | with_reducible refine st_exit ?_ | with_reducible refine st_ret ?_ | with_reducible refine st_skip ?_ | with_reducible refine gq_n ?_ | with_reducible refine gq_r ?_ | with_reducible refine gq_e ?_ | with_reducible refine lq_n ?_ | with_reducible refine lq_r ?_ | with_reducible refine lq_e ?_ | with_reducible refine bq_e (by decide) ?_ | ((conv => whnf); first | (with_reducible refine hK_ _ _ ?_; try clear hK_ K_) | (with_reducible refine fun (g_ : Sl) (o_ : Ow) => ?_) | with_reducible exact True.intro | with_reducible refine And.intro trivial ?_ | with_reducible refine And.intro ?_ ?_ | exact Nat.le_of_ble_eq_true rfl | exact Or.inl rfl | (intro h_; cases h_) | (intro h_; (try simp only [cond_true, cond_false, decide_eq_true_eq, decide_eq_false_iff_not, Bool.not_eq_true', Bool.not_eq_false', Int.toNat_natCast, prodEta] at h_)) | rfl))) <;> (try (conv => whnf)) <;> (try first | change (_ : Int) ≤ _ | change (_ : Nat) ≤ _) <;> (try ((fail_if_success (with_reducible apply Exists.intro)); (try dsimp only); (try simp only [cond_true, cond_false, decide_eq_true_eq, decide_eq_false_iff_not, Bool.not_eq_true', Bool.not_eq_false', Int.toNat_natCast, prodEta]))) <;> (try simp (disch := omega) only [ptEq2, cond_true, cond_false, decide_eq_true_eq, decide_eq_false_iff_not, List.length_drop, List.take_length, Int.toNat_zero, List.drop_zero, Nat.zero_add, List.nil_append, mod_nat1, mod_nat2, tm1, tm2, tmj, W_in, Int.add_sub_cancel, tn1, tnp, tnc, List.length_append, List.length_take, List.length_replicate, List.length_set, List.length_map, List.length_cons, List.length_nil, prodEta, Int.toNat_natCast, beq_iff_eq, beq_eq_false_iff_ne, bne_iff_ne, bne_eq_false_iff_eq, ne_eq, Int.natCast_inj, Int.ofNat_lt, Int.ofNat_le] at *)
  all_goals (try (fail_if_success (with_reducible apply Exists.intro)); first | with_reducible assumption | omega | exact mdl (by omega) | exact ilo1 (by omega) | exact ilo2 (by omega) | exact ihi1 (by omega) (by omega) | exact ihi2 (by omega) (by omega))
  · unfold neighZ; rw [decide_eq_true h_]; rfl
  · unfold neighZ; rw [decide_eq_false h_]; rfl
/-! ### Diagonals -/
def diagC (xs : List Pt) (i k : Nat) : Bool := seesS xs (pAt xs i) (pAt xs k) && (freeTo xs i k xs.length && decide (midM xs (pAt xs i) (pAt xs k) = 2))
def diagM (xs : List Pt) (i k : Int) : Bool := btw i 0 (xs.length - 1) && (btw k 0 (xs.length - 1) && (!decide (i = k) && (!neighZ xs.length i k && diagC xs i.toNat k.toNat)))
theorem diagC_iff {xs : List Pt} {i k : Nat} : diagC xs i k = true ↔ seesS xs (pAt xs i) (pAt xs k) = true ∧ freeTo xs i k xs.length = true ∧ midM xs (pAt xs i) (pAt xs k) = 2 := by
  unfold diagC; simp only [Bool.and_eq_true, decide_eq_true_eq]
theorem diagM_iff {xs : List Pt} {i k : Int} : diagM xs i k = true ↔ btw i 0 (xs.length - 1) = true ∧ btw k 0 (xs.length - 1) = true ∧ i ≠ k ∧ neighZ xs.length i k = false ∧ diagC xs i.toNat k.toNat = true := by
  unfold diagM; simp only [Bool.and_eq_true, Bool.not_eq_true', decide_eq_false_iff_not, ne_eq]
theorem room_inj {xs : List Pt} (hr : roomOk xs = true) {i j : Nat} (hi : i < xs.length) (hj : j < xs.length) (e : pAt xs i = pAt xs j) : i = j := by
  rw [show pAt xs i = xs[i] from getD_lt _ hi, show pAt xs j = xs[j] from getD_lt _ hj] at e
  exact (List.getElem_inj (room_nodup hr)).1 e
theorem two_iff {xs : List Pt} (hr : roomOk xs = true) {i k : Nat} (hi : i < xs.length) (hk : k < xs.length) : (cutsOf xs (pAt xs i) (pAt xs k)).length = 2 ↔ freeTo xs i k xs.length = true := by
  have h1 : (cutsOf xs (pAt xs i) (pAt xs k)).length = 2 ↔ xs.filter (amid (pAt xs i) (pAt xs k)) = [] := by
    simp only [cutsOf, List.cons_append, List.nil_append, List.length_cons]
    rw [← List.length_eq_zero_iff]
    omega
  rw [h1, freeTo_iff, List.filter_eq_nil_iff]
  constructor
  · intro h j hj
    by_cases e1 : j = i
    · exact .inl e1
    · by_cases e2 : j = k
      · exact .inr (.inl e2)
      · refine .inr (.inr ?_)
        have := h (pAt xs j) (pAt_mem hj)
        rw [amid_iff] at this
        rw [← Bool.not_eq_true]
        exact fun h3 => this ⟨fun e => e1 (room_inj hr hj hi e), fun e => e2 (room_inj hr hj hk e), h3⟩
  · intro h c hc hm
    obtain ⟨j, hj, rfl⟩ := List.getElem_of_mem hc
    rw [← getD_lt (0, 0) hj] at hm
    obtain ⟨m1, m2, m3⟩ := amid_iff.1 hm
    rcases h j hj with e | e | e
    · exact m1 (by rw [e])
    · exact m2 (by rw [e])
    · rw [m3] at e; cases e
theorem neigh_nat {n i k : Nat} : neighZ n i k = false ↔ (i + 1) % n ≠ k ∧ (k + 1) % n ≠ i := by
  unfold neighZ
  rw [tm1, tm1, Bool.or_eq_false_iff, decide_eq_false_iff_not, decide_eq_false_iff_not, Int.natCast_inj, Int.natCast_inj]
theorem diagN_iff {xs : List Pt} {i k : Nat} (hi : i < xs.length) (hk : k < xs.length) : diagM xs i k = true ↔ i ≠ k ∧ (i + 1) % xs.length ≠ k ∧ (k + 1) % xs.length ≠ i ∧ diagC xs i k = true := by
  rw [diagM_iff, neigh_nat, btw_iff, btw_iff]
  constructor
  · rintro ⟨-, -, h3, h4, h5⟩
    exact ⟨fun e => h3 (by rw [e]), h4.1, h4.2, h5⟩
  · rintro ⟨h3, h4, h5, h6⟩
    exact ⟨by omega, by omega, fun e => h3 (Int.natCast_inj.1 e), ⟨h4, h5⟩, h6⟩
def earM (xs : List Pt) (k : Int) : Bool := roomOk xs && (btw k 0 (xs.length - 1) && (decide ((xs.length : Int) = 3) || diagM xs (Int.tmod (k + xs.length - 1) xs.length) (Int.tmod (k + 1) xs.length)))
def earC : Con := mkCon [.room, .int] (fun x => x.1.length ≤ 1048576) fun x => vB (earM x.1 x.2.1)
theorem earM_iff {xs : List Pt} {k : Int} : earM xs k = true ↔ roomOk xs = true ∧ btw k 0 (xs.length - 1) = true ∧ ((xs.length : Int) = 3 ∨ diagM xs (Int.tmod (k + xs.length - 1) xs.length) (Int.tmod (k + 1) xs.length) = true) := by
  unfold earM; simp only [Bool.and_eq_true, Bool.or_eq_true, decide_eq_true_eq]
theorem tmod_in {a n : Int} (ha : 0 ≤ a) (hn : 0 < n) : 0 ≤ Int.tmod a n ∧ Int.tmod a n ≤ n - 1 := by
  rw [Int.tmod_eq_emod_of_nonneg ha]
  have := Int.emod_nonneg a (show n ≠ 0 by omega)
  have := Int.emod_lt_of_pos a hn
  omega
end Go.Proofs.Ytfjmlaciogmndaa
