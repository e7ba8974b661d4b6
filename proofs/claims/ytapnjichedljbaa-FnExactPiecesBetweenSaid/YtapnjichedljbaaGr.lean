/- The library's Repeat, Index and Min at rows of numbers, and bits.Mul, as contracts of this development. -/
import Derived.Test.YtapnjichedljbaaGy
import Derived.Shelf.Bits.Mul64
namespace Go.Proofs.Ytapnjichedljbaa
open Go.Shelf Go.RowKit Go.Lib Go.Proofs.Ytapnjichedljbaa.Nm
set_option maxRecDepth 10000
set_option maxHeartbeats 2000000
set_option linter.unusedSimpArgs false
set_option linter.unusedVariables false
def mul_ren : Go.Shelf.Ren := ⟨fun | 212 => 113 | 263 => 123 | 264 => 124 | n => n, fun | 46 => 85 | 51 => 108 | 53 => 110 | 146 => 124 | 148 => 126 | n => n, fun n => n⟩
theorem mul_lay : Lays.n212 Try.prog mul_ren := {
  mixed := by kernel_rfl
  f212 := Try.func113.trans (congrArg some (by kernel_rfl))
  f263 := Try.func123.trans (congrArg some (by kernel_rfl))
  f264 := Try.func124.trans (congrArg some (by kernel_rfl))
  t46 := Try.underlying85
  a46 := Try.isAgg85
  z46 := Try.sizeOf85
  v46 := Try.zeroValue85
  t51 := Try.underlying108
  a51 := Try.isAgg108
  z51 := Try.sizeOf108
  v51 := Try.zeroValue108
  t53 := Try.underlying110
  a53 := Try.isAgg110
  z53 := Try.sizeOf110
  v53 := Try.zeroValue110
  t146 := Try.underlying124
  a146 := Try.isAgg124
  z146 := Try.sizeOf124
  v146 := Try.zeroValue124
  t148 := Try.underlying126
  a148 := Try.isAgg126
  z148 := Try.sizeOf126
  v148 := Try.zeroValue126
}
def mulC : Con := ⟨Int × Int, fun | [.one (.d (.int .u64 a)), .one (.d (.int .u64 b))] => some (a, b) | _ => none, fun x => (0 ≤ x.1 ∧ x.1 < 18446744073709551616) ∧ 0 ≤ x.2 ∧ x.2 < 18446744073709551616,
  fun x => .val (.tup [.inl (.d (.int .u64 (x.1 * x.2 / 18446744073709551616))), .inl (.d (.int .u64 (x.1 * x.2 % 18446744073709551616)))])⟩
theorem mul_snd : Sound Try.prog n_math_bits_Mul mulC := by
  intro w F args vs x hp hpre hF hlen hargs
  obtain ⟨a, b⟩ := x
  obtain ⟨⟨ha0, ha1⟩, hb0, hb1⟩ := hpre
  have hp2 : ∃ a' b', args = [.one (.d (.int .u64 a')), .one (.d (.int .u64 b'))] ∧ some (a', b') = some (a, b) := by
    have hp : mulC.pat args = some (a, b) := hp
    unfold mulC at hp
    simp only at hp
    split at hp
    · exact ⟨_, _, rfl, hp⟩
    · cases hp
  clear hp
  obtain ⟨a', b', rfl, hp⟩ := hp2
  obtain ⟨rfl, rfl⟩ := Prod.mk.inj (Option.some.inj hp)
  · skip
    match vs, hlen with
    | [v0, v1], _ =>
      have h0 : v0 = .int .u64 a' := intD (hargs 0 _ v0 rfl rfl)
      have h1 : v1 = .int .u64 b' := intD (hargs 1 _ v1 rfl rfl)
      subst h0; subst h1
      have ha0 : 0 ≤ a' := ha0
      have ha1 : a' < 18446744073709551616 := ha1
      have hb0 : 0 ≤ b' := hb0
      have hb1 : b' < 18446744073709551616 := hb1
      obtain ⟨a, rfl⟩ := Int.eq_ofNat_of_zero_le ha0
      obtain ⟨b, rfl⟩ := Int.eq_ofNat_of_zero_le hb0
      have hmain : Calls Try.prog n_math_bits_Mul #[.int .u64 a, .int .u64 b] w fun e w' => e = .returned (.tuple #[.int .u64 ((a * b / 18446744073709551616 : Nat) : Int), .int .u64 ((a * b % 18446744073709551616 : Nat) : Int)]) ∧ w' = w :=
        Any.bits_Mul mul_lay a b (by omega) (by omega) w
      refine hmain.mono ?_
      rintro e w' ⟨rfl, rfl⟩
      refine ⟨_, rfl, Below.refl _ _, ?_⟩
      refine ⟨[.int .u64 ((a * b / 18446744073709551616 : Nat) : Int), .int .u64 ((a * b % 18446744073709551616 : Nat) : Int)], rfl, rfl, fun j x u hx hu => ?_⟩
      match j with
      | 0 => simp at hx hu; subst hx; subst hu; exact DC.int _ _
      | 1 => simp at hx hu; subst hx; subst hu; exact DC.int _ _
      | j + 2 => simp at hx
theorem mul_ok : Good1 Try.prog n_math_bits_Mul mulC := by
  exact ⟨mul_snd, _, Try.func113, by decide, rfl⟩
theorem wrapU {n : Int} (h1 : 0 ≤ n) (h2 : n < 18446744073709551616) : IntKind.u64.wrap n = n := by rw [IntKind.wrap_u64]; omega
/-! ### Repeat -/
abbrev repR (v : Int) (n k : Nat) : List Int := List.replicate k v ++ List.replicate (n - k) 0
theorem rep_len (v : Int) {n k : Nat} (h : k ≤ n) : (repR v n k).length = n := by simp [repR]; omega
theorem rep_put (v : Int) {n k m : Nat} (hk : k ≤ n) (hm : m ≤ k) (hmn : m ≤ n - k) : putL (repR v n k) k (List.replicate m v) = repR v n (k + m) := by
  unfold putL repR
  refine List.ext_getElem? fun i => ?_
  simp only [List.getElem?_append, List.getElem?_replicate, List.getElem?_take, List.getElem?_drop, List.length_replicate, List.length_take, List.length_append]
  repeat' split
  all_goals first | rfl | omega | (congr 1; omega) | skip
theorem rep_take (v : Int) {n k : Nat} (hk : k ≤ n) (m : Nat) : ((repR v n k).take k).take m = List.replicate (min m k) v := by
  unfold repR
  rw [List.take_left' (by simp), List.take_replicate]
theorem rep_step (v : Int) {n k : Nat} (hk : k ≤ n) : putL (repR v n k) k (List.take (k + (n - k) - k) (List.take (k - 0) (repR v n k))) = repR v n (k + min k (n - k)) := by
  rw [Nat.sub_zero, show k + (n - k) - k = n - k by omega, rep_take v hk, show min (n - k) k = min k (n - k) by omega]
  exact rep_put v hk (by omega) (by omega)
theorem rep_start {xs : List Int} {n : Nat} (h1 : xs.length = 1) (hn : 1 ≤ n) : putL (List.replicate n (0 : Int)) 0 (xs.take n) = repR (xs.getD 0 0) n 1 := by
  obtain ⟨v, rfl⟩ := List.length_eq_one_iff.1 h1
  rw [List.take_of_length_le (by simpa using hn)]
  unfold putL repR
  simp only [List.take_zero, List.nil_append, List.drop_replicate, List.length_cons, List.length_nil, Nat.zero_add]
  rfl
def repC : Con := mkCon [.sl (.b .int), .int] (fun x => x.1.length = 1 ∧ 1 ≤ x.2.1 ∧ x.2.1 ≤ 1048576) fun x => rowI (List.replicate x.2.1.toNat (x.1.getD 0 0))
theorem repeat_ok : Good1 Try.prog n_slices_Repeat_int repC := by
  refine good_ofG (tys := tyL) (env := [(n_math_bits_Mul, mulC)]) (envw := []) [30] [] [] [] mixed tys ⟨mul_ok, trivial⟩ trivial Try.func86 rfl (by kernel_rfl) (by decide) (by kernel_rfl) ?_
  have hG_ := kpz [(0, [0, 1]), (1, [0, 1, 10]), (2, [0, 1]), (3, [0, 5, 6]), (4, [0, 6, 26]), (5, [0, 6]), (6, [0, 7]), (7, [7, 8]), (8, [7, 8, 37]), (9, [7, 8]), (10, [4])] [(6, [30]), (7, [30]), (8, [30]), (9, [30]), (10, [30])] [] []
  rintro ⟨(xs : List Int), (c : Int), ⟨⟩⟩ ⟨(h1 : xs.length = 1), (h2 : 1 ≤ c), (h3 : c ≤ _)⟩
  obtain ⟨n, rfl⟩ := Int.eq_ofNat_of_zero_le (Int.le_trans (by decide) h2)
  have hw1 : IntKind.u64.wrap (xs.length : Int) = 1 := by rw [h1]; exact wrapU (n := 1) (by omega) (by omega)
  have hwi : IntKind.i64.wrap (n : Int) = n := W_in (by omega) (by omega)
  have hmin : min xs.length n = 1 := by omega
  generalize hv : xs.getD 0 0 = v
  have hwn : IntKind.u64.wrap (n : Int) = n := wrapU (by omega) (by omega)
  have hq : (n : Int) / 18446744073709551616 = 0 := by omega
  have hm : (n : Int) % 18446744073709551616 = n := by omega
  (repeat' (first | with_reducible exact True.intro | with_reducible refine st_seq ?_ | (with_reducible refine st_regionG hG_ ?_; intro K_ hK_) | (with_reducible refine st_region ?_; intro K_ hK_) | (with_reducible refine hK_ _ _ ?_; try clear hK_ K_) | ((with_reducible refine st_cond (b := ?b_) ?hb_ ?_ ?_); case hb_ => rfl) | with_reducible refine sq_n ?_ | with_reducible refine sq_r ?_ | with_reducible refine sq_e ?_ | with_reducible refine bq_n ?_ | with_reducible refine bq_r ?_ | with_reducible refine bq_q ?_ | with_reducible refine st_block ?_ | with_reducible refine st_exit ?_ | with_reducible refine st_ret ?_ | with_reducible refine st_skip ?_ | with_reducible refine gq_n ?_ | with_reducible refine gq_r ?_ | with_reducible refine gq_e ?_ | with_reducible refine lq_n ?_ | with_reducible refine lq_r ?_ | with_reducible refine lq_e ?_ | with_reducible refine bq_e (by decide) ?_ | ((conv => whnf); first | (with_reducible refine hK_ _ _ ?_; try clear hK_ K_) | (with_reducible refine fun (g_ : Sl) (o_ : Ow) => ?_) | with_reducible exact True.intro | with_reducible refine And.intro trivial ?_ | with_reducible refine And.intro ?_ ?_ | exact Nat.le_of_ble_eq_true rfl | exact Or.inl rfl | (intro h_; cases h_) | (intro h_; (try simp only [cond_true, cond_false, decide_eq_true_eq, decide_eq_false_iff_not, Bool.not_eq_true', Bool.not_eq_false', Int.toNat_natCast, prodEta] at h_)) | rfl))) <;> (try (conv => whnf)) <;> (try first | change (_ : Int) ≤ _ | change (_ : Nat) ≤ _) <;> (try simp only [hw1, hwn, hwi, hq, hm, hmin, Int.one_mul, Int.toNat_natCast] at *) <;> (try ((fail_if_success (with_reducible apply Exists.intro)); (try dsimp only); (try simp only [cond_true, cond_false, decide_eq_true_eq, decide_eq_false_iff_not, Bool.not_eq_true', Bool.not_eq_false', Int.toNat_natCast, prodEta]))) <;> (try simp (disch := omega) only [ptEq2, cond_true, cond_false, decide_eq_true_eq, decide_eq_false_iff_not, List.length_drop, List.take_length, Int.toNat_zero, List.drop_zero, Nat.zero_add, List.nil_append, mod_nat1, mod_nat2, tm1, tm2, tmj, W_in, Int.add_sub_cancel, tn1, tnp, tnc, List.length_append, List.length_take, List.length_replicate, List.length_set, List.length_map, List.length_cons, List.length_nil, prodEta, Int.toNat_natCast, beq_iff_eq, beq_eq_false_iff_ne, bne_iff_ne, bne_eq_false_iff_eq, ne_eq, Int.natCast_inj, Int.ofNat_lt, Int.ofNat_le] at *)
  all_goals (try (fail_if_success (with_reducible apply Exists.intro)); first | with_reducible assumption | omega | exact mdl (by omega) | exact ilo1 (by omega) | exact ilo2 (by omega) | exact ihi1 (by omega) (by omega) | exact ihi2 (by omega) (by omega))
  refine awp'_loopG (α := Nat) (fun k ver_ => [(8, vInt k)]) (fun k ver_ => [(7, 30, false, .row t_int (.b .int) (repR v n k))]) (fun k ver_ => []) (fun k => 1 ≤ k ∧ k ≤ n) (fun k => n - k) [] [] (1) ?_
  conv => whnf
  refine ⟨⟨?inv1_, ?vals1_, ?own1_, ?fix1_⟩, ?body1_⟩
  case' vals1_ => (repeat' (first | with_reducible exact True.intro | with_reducible refine And.intro ?_ ?_ | with_reducible refine Head.mk ?_ ?_ ?_ ?_ | ((conv => lhs; whnf); first | with_reducible rfl | with_reducible exact vInt_s (by omega) | exact rfl) | ((conv => whnf); first | with_reducible exact True.intro | with_reducible refine And.intro ?_ ?_))) <;> (try (conv => lhs; whnf))
  case' own1_ => (repeat' (first | with_reducible exact True.intro | with_reducible refine And.intro ?_ ?_ | with_reducible refine Head.mk ?_ ?_ ?_ ?_ | ((conv => lhs; whnf); first | with_reducible rfl | with_reducible exact vInt_s (by omega) | exact rfl) | ((conv => whnf); first | with_reducible exact True.intro | with_reducible refine And.intro ?_ ?_))) <;> (try (conv => lhs; whnf))
  case' fix1_ => (repeat' (first | with_reducible exact True.intro | with_reducible refine And.intro ?_ ?_ | with_reducible refine Head.mk ?_ ?_ ?_ ?_ | ((conv => lhs; whnf); first | with_reducible rfl | with_reducible exact vInt_s (by omega) | exact rfl) | ((conv => whnf); first | with_reducible exact True.intro | with_reducible refine And.intro ?_ ?_))) <;> (try (conv => lhs; whnf))
  · exact congrArg (Own.row _ _) (by rw [← hv]; exact rep_start h1 (by omega))
  · exact congrArg vInt (by omega)
  · omega
  rintro k g_ o_ v_ ⟨hk1, hkn⟩
  have hl := rep_len v hkn
  (repeat' (first | with_reducible exact True.intro | with_reducible refine st_seq ?_ | (with_reducible refine st_regionG hG_ ?_; intro K_ hK_) | (with_reducible refine st_region ?_; intro K_ hK_) | (with_reducible refine hK_ _ _ ?_; try clear hK_ K_) | ((with_reducible refine st_cond (b := ?b_) ?hb_ ?_ ?_); case hb_ => rfl) | with_reducible refine sq_n ?_ | with_reducible refine sq_r ?_ | with_reducible refine sq_e ?_ | with_reducible refine bq_n ?_ | with_reducible refine bq_r ?_ | with_reducible refine bq_q ?_ | with_reducible refine st_block ?_ | with_reducible refine st_exit ?_ | with_reducible refine st_ret ?_ | with_reducible refine st_skip ?_ | with_reducible refine gq_n ?_ | with_reducible refine gq_r ?_ | with_reducible refine gq_e ?_ | with_reducible refine lq_n ?_ | with_reducible refine lq_r ?_ | with_reducible refine lq_e ?_ | with_reducible refine bq_e (by decide) ?_ | ((conv => whnf); first | (with_reducible refine hK_ _ _ ?_; try clear hK_ K_) | (with_reducible refine fun (g_ : Sl) (o_ : Ow) => ?_) | with_reducible exact True.intro | with_reducible refine And.intro trivial ?_ | with_reducible refine And.intro ?_ ?_ | exact Nat.le_of_ble_eq_true rfl | exact Or.inl rfl | (intro h_; cases h_) | (intro h_; (try simp only [cond_true, cond_false, decide_eq_true_eq, decide_eq_false_iff_not, Bool.not_eq_true', Bool.not_eq_false', Int.toNat_natCast, prodEta] at h_)) | rfl))) <;> (try (conv => whnf)) <;> (try first | change (_ : Int) ≤ _ | change (_ : Nat) ≤ _) <;> (try ((fail_if_success (with_reducible apply Exists.intro)); (try dsimp only); (try simp only [cond_true, cond_false, decide_eq_true_eq, decide_eq_false_iff_not, Bool.not_eq_true', Bool.not_eq_false', Int.toNat_natCast, prodEta]))) <;> (try simp (disch := omega) only [ptEq2, cond_true, cond_false, decide_eq_true_eq, decide_eq_false_iff_not, List.length_drop, List.take_length, Int.toNat_zero, List.drop_zero, Nat.zero_add, List.nil_append, mod_nat1, mod_nat2, tm1, tm2, tmj, W_in, Int.add_sub_cancel, tn1, tnp, tnc, List.length_append, List.length_take, List.length_replicate, List.length_set, List.length_map, List.length_cons, List.length_nil, prodEta, Int.toNat_natCast, beq_iff_eq, beq_eq_false_iff_ne, bne_iff_ne, bne_eq_false_iff_eq, ne_eq, Int.natCast_inj, Int.ofNat_lt, Int.ofNat_le] at *)
  all_goals (try (fail_if_success (with_reducible apply Exists.intro)); first | with_reducible assumption | omega | exact mdl (by omega) | exact ilo1 (by omega) | exact ilo2 (by omega) | exact ihi1 (by omega) (by omega) | exact ihi2 (by omega) (by omega))
  · refine ⟨k + min k (n - k), by omega, by omega, ?_⟩
    (repeat' (first | with_reducible exact True.intro | with_reducible refine And.intro ?_ ?_ | with_reducible refine Head.mk ?_ ?_ ?_ ?_ | ((conv => lhs; whnf); first | with_reducible rfl | with_reducible exact vInt_s (by omega) | exact rfl) | ((conv => whnf); first | with_reducible exact True.intro | with_reducible refine And.intro ?_ ?_))) <;> (try (conv => lhs; whnf))
    all_goals first
      | exact congrArg vInt (by omega)
      | exact congrArg (Own.row _ _) (rep_step v hkn)
      | skip
  · rw [show k = n by omega]; unfold repR; rw [Nat.sub_self, List.replicate_zero, List.append_nil]; rfl
/-! ### Index, Min -/
def idxOf (l : List Int) (v : Int) : Int := match (List.range l.length).find? (fun i => decide (l.getD i 0 = v)) with
  | some i => i
  | none => -1
theorem idx_some {l : List Int} {v : Int} {i : Nat} (hi : i < l.length) (h : l.getD i 0 = v) (hall : ∀ j, j < i → l.getD j 0 ≠ v) : idxOf l v = i := by
  unfold idxOf
  rw [List.find?_range_eq_some.2 ⟨decide_eq_true h, List.mem_range.2 hi, fun j hj => by rw [decide_eq_false (hall j hj)]; rfl⟩]
theorem idx_none {l : List Int} {v : Int} (hall : ∀ j, j < l.length → l.getD j 0 ≠ v) : idxOf l v = -1 := by
  unfold idxOf
  rw [List.find?_eq_none.2 fun j hj => by rw [decide_eq_false (hall j (List.mem_range.1 hj))]; decide]
def idxC : Con := mkCon [.sl (.b .int), .int] (fun x => x.1.length ≤ 1048576) fun x => vI (idxOf x.1 x.2.1)
def minTo (l : List Int) : Nat → Int
  | 0 => l.getD 0 0
  | k + 1 => min (minTo l k) (l.getD (k + 1) 0)
def minC : Con := mkCon [.sl (.b .int)] (fun x => 0 < x.1.length ∧ x.1.length ≤ 1048576) fun x => vI (minTo x.1 (x.1.length - 1))
end Go.Proofs.Ytapnjichedljbaa
