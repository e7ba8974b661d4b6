/- Contracts: triangles' areas, and the law on them. -/
import Derived.Test.YtfjmlaciogmndaaLa
namespace Go.Proofs.Ytfjmlaciogmndaa
open Go.RowKit Nm
set_option maxRecDepth 10000
set_option linter.unusedSimpArgs false
set_option linter.unusedVariables false
abbrev Tri := Int × Int × Int
def triOk (xs : List Pt) (t : Tri) : Bool := decide (0 ≤ t.1 ∧ t.1 < t.2.1 ∧ t.2.1 < t.2.2 ∧ t.2.2 < xs.length) && roomOk xs
abbrev pI (xs : List Pt) (k : Int) : Pt := xs.getD k.toNat (0, 0)
def triArea (xs : List Pt) (t : Tri) : Int := if triOk xs t then turn (pI xs t.1) (pI xs t.2.1) (pI xs t.2.2) else 0
def triOkC : Con := mkCon [.room, .tri] (fun x => x.1.length ≤ 1048576) fun x => vB (triOk x.1 x.2.1)
def triAreaC : Con := mkCon [.room, .tri] (fun x => x.1.length ≤ 1048576) fun x => vI (triArea x.1 x.2.1)
def eqRC : Con := mkCon [.room, .room] (fun x => x.1.length ≤ 1048576) fun x => vB (decide (x.1 = x.2.1))
theorem eqRoom_ok : Good1 Try.prog n_laws_eqRoom eqRC := by
  refine good_ofG (tys := tyL) (env := [(n_laws_eqPointS, eqPsC)]) (envw := []) (envd := []) [] [] [] [] [] mixed tys ⟨eqPointS_ok, trivial⟩ trivial trivial Try.func9 rfl (by kernel_rfl) (by decide) (by kernel_rfl) ?_
  have hG_ := kpz [(0, [2, 3]), (1, [10]), (2, [4]), (3, [4])] [] [] []
  rintro ⟨(xs : List Pt), (ys : List Pt), ⟨⟩⟩ (h1 : xs.length ≤ _)
  (repeat' (first | with_reducible exact True.intro | with_reducible refine st_seq ?_ | (with_reducible refine st_regionG hG_ ?_; intro K_ hK_) | (with_reducible refine st_region ?_; intro K_ hK_) | (with_reducible refine hK_ _ _ ?_; try clear hK_ K_) | ((with_reducible refine st_cond (b := ?b_) ?hb_ ?_ ?_); case hb_ => rfl) | with_reducible refine sq_n ?_ | with_reducible refine sq_r ?_ | with_reducible refine sq_e ?_ | with_reducible refine bq_n ?_ | with_reducible refine bq_r ?_ | with_reducible refine bq_q ?_ | with_reducible refine st_block ?_ | with_reducible refine st_exit ?_ | with_reducible refine st_ret ?_ | with_reducible refine st_skip ?_ | with_reducible refine gq_n ?_ | with_reducible refine gq_r ?_ | with_reducible refine gq_e ?_ | with_reducible refine lq_n ?_ | with_reducible refine lq_r ?_ | with_reducible refine lq_e ?_ | with_reducible refine bq_e (by decide) ?_ | ((conv => whnf); first | (with_reducible refine hK_ _ _ ?_; try clear hK_ K_) | (with_reducible refine fun (g_ : Sl) (o_ : Ow) => ?_) | with_reducible exact True.intro | with_reducible refine And.intro trivial ?_ | with_reducible refine And.intro ?_ ?_ | exact Nat.le_of_ble_eq_true rfl | exact Or.inl rfl | (intro h_; cases h_) | (intro h_; (try simp only [cond_true, cond_false, decide_eq_true_eq, decide_eq_false_iff_not, Bool.not_eq_true', Bool.not_eq_false', Int.toNat_natCast, prodEta] at h_)) | rfl))) <;> (try (conv => whnf)) <;> (try first | change (_ : Int) ≤ _ | change (_ : Nat) ≤ _) <;> (try ((fail_if_success (with_reducible apply Exists.intro)); (try dsimp only); (try simp only [cond_true, cond_false, decide_eq_true_eq, decide_eq_false_iff_not, Bool.not_eq_true', Bool.not_eq_false', Int.toNat_natCast, prodEta])))
  all_goals (try (fail_if_success (with_reducible apply Exists.intro)); first | with_reducible assumption | omega | exact mdl (by omega) | exact ilo1 (by omega) | exact ilo2 (by omega) | exact ihi1 (by omega) (by omega) | exact ihi2 (by omega) (by omega))
  all_goals (simp_all)
theorem szF_le {n : Int} {m : Nat} (hn : n ≤ 1048576) (h : ¬ szF n m < 0) : m ≤ 1048576 := by unfold szF at h; split at h <;> omega
theorem szF_le1 {m : Nat} (h : ¬ szF 1048576 m < 0) : m ≤ 1048576 := szF_le (by decide) h
theorem szF_ge1 {m : Nat} (h : 0 ≤ szF 1048576 m) : m ≤ 1048576 := szF_le (by decide) (Int.not_lt.2 h)
end Go.Proofs.Ytfjmlaciogmndaa
