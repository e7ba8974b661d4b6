/- Contracts: corners left out, straight corners taken away, ears cut off, guards that are needed. -/
import Derived.Test.YtfjmlaciogmndaaGh
import Derived.Test.YtfjmlaciogmndaaMt
namespace Go.Proofs.Ytfjmlaciogmndaa
open Go.RowKit Go.Proofs.Ytfjmlaciogmndaa.Nm
set_option maxRecDepth 10000
set_option maxHeartbeats 2000000
set_option linter.unusedSimpArgs false
set_option linter.unusedVariables false
/-! ### Copies of lists of points -/
def copyC : Con := mkCon [.sl (.b .pt)] (fun x => x.1.length ≤ 1048576) fun x => ptRow x.1
theorem copyPoints_ok : Good1 Try.prog n_impl_copyPoints copyC := by
  refine good_ofG (tys := tyL) (env := []) (envw := []) (envd := []) [3] [] [] [] [] mixed tys trivial trivial trivial Try.func38 rfl (by kernel_rfl) (by decide) (by kernel_rfl) ?_
  have hG_ := kpz [(0, [0]), (1, [2])] [(1, [3])] [] []
  rintro ⟨(xs : List Pt), ⟨⟩⟩ (h1 : xs.length ≤ _)
  (repeat' (first | with_reducible exact True.intro | with_reducible refine st_seq ?_ | (with_reducible refine st_regionG hG_ ?_; intro K_ hK_) | (with_reducible refine st_region ?_; intro K_ hK_) | (with_reducible refine hK_ _ _ ?_; try clear hK_ K_) | ((with_reducible refine st_cond (b := ?b_) ?hb_ ?_ ?_); case hb_ => rfl) | with_reducible refine sq_n ?_ | with_reducible refine sq_r ?_ | with_reducible refine sq_e ?_ | with_reducible refine bq_n ?_ | with_reducible refine bq_r ?_ | with_reducible refine bq_q ?_ | with_reducible refine st_block ?_ | with_reducible refine st_exit ?_ | with_reducible refine st_ret ?_ | with_reducible refine st_skip ?_ | with_reducible refine gq_n ?_ | with_reducible refine gq_r ?_ | with_reducible refine gq_e ?_ | with_reducible refine lq_n ?_ | with_reducible refine lq_r ?_ | with_reducible refine lq_e ?_ | with_reducible refine bq_e (by decide) ?_ | ((conv => whnf); first | (with_reducible refine hK_ _ _ ?_; try clear hK_ K_) | (with_reducible refine fun (g_ : Sl) (o_ : Ow) => ?_) | with_reducible exact True.intro | with_reducible refine And.intro trivial ?_ | with_reducible refine And.intro ?_ ?_ | exact Nat.le_of_ble_eq_true rfl | exact Or.inl rfl | (intro h_; cases h_) | (intro h_; (try simp only [cond_true, cond_false, decide_eq_true_eq, decide_eq_false_iff_not, Bool.not_eq_true', Bool.not_eq_false', Int.toNat_natCast, prodEta] at h_)) | rfl))) <;> (try (conv => whnf)) <;> (try first | change (_ : Int) ≤ _ | change (_ : Nat) ≤ _) <;> (try ((fail_if_success (with_reducible apply Exists.intro)); (try dsimp only); (try simp only [cond_true, cond_false, decide_eq_true_eq, decide_eq_false_iff_not, Bool.not_eq_true', Bool.not_eq_false', Int.toNat_natCast, prodEta]))) <;> (try simp (disch := omega) only [ptEq2, cond_true, cond_false, decide_eq_true_eq, decide_eq_false_iff_not, List.length_drop, List.take_length, Int.toNat_zero, List.drop_zero, Nat.zero_add, List.nil_append, mod_nat1, mod_nat2, tm1, tm2, tmj, W_in, Int.add_sub_cancel, tn1, tnp, tnc, List.length_append, List.length_take, List.length_replicate, List.length_set, List.length_map, List.length_cons, List.length_nil, prodEta, Int.toNat_natCast, beq_iff_eq, beq_eq_false_iff_ne, bne_iff_ne, bne_eq_false_iff_eq, ne_eq, Int.natCast_inj, Int.ofNat_lt, Int.ofNat_le] at *)
  all_goals (try (fail_if_success (with_reducible apply Exists.intro)); first | with_reducible assumption | omega | exact mdl (by omega) | exact ilo1 (by omega) | exact ilo2 (by omega) | exact ihi1 (by omega) (by omega) | exact ihi2 (by omega) (by omega))
/-! ### A list without one place -/
def withoutC : Con := mkCon [.sl (.b .pt), .int] (fun x => x.1.length ≤ 1048576 ∧ 0 ≤ x.2.1 ∧ x.2.1 < x.1.length) fun x => ptRow (x.1.eraseIdx x.2.1.toNat)
/-! ### Straight corners -/
def strAt (l : List Pt) (i : Nat) : Bool := decide (turn (pAt l (prvN l.length i)) (pAt l i) (pAt l (nxtN l.length i)) = 0)
def firstStr (l : List Pt) : Option Nat := if 2 < l.length then (List.range l.length).find? (strAt l) else none
def strRun : Nat → List Pt → List Pt
  | 0, l => l
  | f + 1, l => match firstStr l with
    | none => l
    | some i => strRun f (l.eraseIdx i)
def straightM (l : List Pt) : List Pt := strRun l.length l
structure StrSt (xs l : List Pt) : Prop where
  run : strRun l.length l = straightM xs
  len : l.length ≤ xs.length
theorem strSt_start (xs : List Pt) : StrSt xs xs := ⟨rfl, Nat.le_refl _⟩
theorem StrSt.step {xs l : List Pt} (h : StrSt xs l) {i : Nat} (hi : i < l.length) (hf : firstStr l = some i) : StrSt xs (l.eraseIdx i) := by
  have hl := List.length_eraseIdx_of_lt hi
  have hr := h.run
  have := h.len
  refine ⟨?_, by omega⟩
  rw [hl]
  rw [show l.length = (l.length - 1) + 1 by omega] at hr
  unfold strRun at hr
  rw [hf] at hr
  exact hr
theorem StrSt.done {xs l : List Pt} (h : StrSt xs l) (hf : firstStr l = none) : straightM xs = l := by
  rw [← h.run]
  cases hn : l.length with
  | zero => rfl
  | succ n => unfold strRun; rw [hf]
theorem strRun_len : ∀ (f : Nat) (l : List Pt), (strRun f l).length ≤ l.length
  | 0, l => Nat.le_refl _
  | f + 1, l => by
    unfold strRun
    split
    · exact Nat.le_refl _
    · exact Nat.le_trans (strRun_len f _) (List.length_eraseIdx_le _ _)
theorem straight_len (l : List Pt) : (straightM l).length ≤ l.length := strRun_len _ l
theorem str_none {l : List Pt} {a : Int} (h : FirstFrom (strAt l) l.length 0 a) (ha : a < 0) : firstStr l = none := by
  unfold firstStr
  split
  · rcases ff_find h with h | h
    · exact h.2
    · omega
  · rfl
theorem str_some {l : List Pt} {a : Int} (h : FirstFrom (strAt l) l.length 0 a) (ha : ¬ a < 0) (hl : 2 < l.length) : firstStr l = some a.toNat ∧ a.toNat < l.length := by
  unfold firstStr
  rw [if_pos hl]
  rcases ff_find h with h | h
  · omega
  · exact ⟨h.2.2, by omega⟩
theorem str_small {l : List Pt} (hl : ¬ 2 < l.length) : firstStr l = none := by unfold firstStr; rw [if_neg hl]
def straightC : Con := mkCon [.sl (.b .pt)] (fun x => x.1.length ≤ 1048576) fun x => .val (vPts (straightM x.1))
/-! ### Guards that are needed -/
theorem pts_len (xs : List Pt) (gs : List Int) : (ptsOf xs gs).length ≤ gs.length := by
  unfold ptsOf
  split <;> simp
def needM (xs : List Pt) (gs : List Int) (k : Int) : Bool := btw k 0 ((ptsOf xs gs).length - 1) && (seesAllM xs (ptsOf xs gs) && !seesAllM xs ((ptsOf xs gs).eraseIdx k.toNat))
def needC : Con := mkCon [.room, .sl (.b .int), .int] (fun x => x.1.length ≤ 1048576 ∧ x.2.1.length ≤ 1048576) fun x => vB (needM x.1 x.2.1 x.2.2.1)
end Go.Proofs.Ytfjmlaciogmndaa
