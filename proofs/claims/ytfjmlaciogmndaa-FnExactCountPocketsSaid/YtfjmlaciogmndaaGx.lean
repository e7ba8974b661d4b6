/- Contracts: hulls. -/
import Derived.Test.YtfjmlaciogmndaaHa
import Derived.Test.YtfjmlaciogmndaaSe
import Derived.Test.YtfjmlaciogmndaaGh
import Derived.Test.YtfjmlaciogmndaaGn
namespace Go.Proofs.Ytfjmlaciogmndaa
open Go.RowKit Go.Proofs.Ytfjmlaciogmndaa.Nm
set_option maxRecDepth 10000
set_option maxHeartbeats 4000000
set_option linter.unusedSimpArgs false
set_option linter.unusedVariables false
theorem rev_top {α : Type} (d b : α) (t : List α) : ((b :: t).reverse).getD t.length d = b := by
  rw [List.reverse_cons, List.getD_eq_getElem?_getD, List.getElem?_append_right (by simp)]; simp
theorem rev_snd {α : Type} (d b a : α) (r : List α) : ((b :: a :: r).reverse).getD r.length d = a := by
  rw [List.reverse_cons, List.getD_eq_getElem?_getD, List.getElem?_append_left (by simp), List.reverse_cons, List.getElem?_append_right (by simp)]; simp
theorem rev_take {α : Type} (b : α) (t : List α) : ((b :: t).reverse).take t.length = t.reverse := by
  rw [List.reverse_cons, List.take_left' (by simp)]
theorem stackOf_succ {l : List Pt} {k : Nat} (h : k < l.length) : stackOf (l.take (k + 1)) = pAt l k :: popS (stackOf (l.take k)) (pAt l k) := by
  rw [take_snoc' h]
  unfold stackOf
  rw [List.foldl_append]
  rfl
theorem half_take (l : List Pt) : halfM l = (stackOf l).reverse.take ((stackOf l).length - 1) := by
  rw [half_drop, List.dropLast_eq_take, List.length_reverse]
/-- Where the least point stands. -/
def lowTo (xs : List Pt) : Nat → Int
  | 0 => -1
  | k + 1 => if lowTo xs k < 0 ∨ pLess (pAt xs k) (pAt xs (lowTo xs k).toNat) = true then k else lowTo xs k
theorem lowTo_spec (xs : List Pt) : ∀ k, 0 < k → ∃ j : Nat, j < k ∧ lowTo xs k = j ∧ ∀ i, i < k → ¬ Lt 1 (pAt xs i) (pAt xs j)
  | 0, h => absurd h (by omega)
  | k + 1, _ => by
    rcases Nat.eq_zero_or_pos k with h | h
    · subst h
      refine ⟨0, by omega, by rw [lowTo, if_pos (.inl (by simp [lowTo]))], fun i hi => ?_⟩
      obtain rfl : i = 0 := by omega
      exact lt_irrefl (.inl rfl)
    · obtain ⟨j, h1, h2, h3⟩ := lowTo_spec xs k h
      rw [lowTo]
      split
      · rename_i hc
        have hl : Lt 1 (pAt xs k) (pAt xs j) := by
          rw [h2] at hc
          rcases hc with hc | hc
          · omega
          · exact pLess_iff.1 hc
        refine ⟨k, by omega, rfl, fun i hi hlt => ?_⟩
        rcases Nat.lt_or_ge i k with h5 | h5
        · exact h3 i h5 (lt_trans (.inl rfl) hlt hl)
        · obtain rfl : i = k := by omega
          exact lt_irrefl (.inl rfl) hlt
      · rename_i hc
        refine ⟨j, by omega, h2, fun i hi hlt => ?_⟩
        rcases Nat.lt_or_ge i k with h5 | h5
        · exact h3 i h5 hlt
        · obtain rfl : i = k := by omega
          exact hc (.inr (by rw [h2]; exact pLess_iff.2 hlt))
theorem low_bd (xs : List Pt) (k : Nat) : -1 ≤ lowTo xs k ∧ lowTo xs k < k := by
  rcases Nat.eq_zero_or_pos k with h | h
  · subst h; simp [lowTo]
  · obtain ⟨j, h1, h2, -⟩ := lowTo_spec xs k h
    omega
/-- The least point heads the order. -/
theorem ord_low {xs : List Pt} (h : 0 < xs.length) : (ordP xs).head? = some (pAt xs (lowTo xs xs.length).toNat) := by
  obtain ⟨j, h1, h2, h3⟩ := lowTo_spec xs xs.length h
  have hj : pAt xs j ∈ ordP xs := ordP_mem.2 (by rw [show pAt xs j = xs[j] from getD_lt _ h1]; exact List.getElem_mem _)
  rw [h2, Int.toNat_natCast]
  cases ho : ordP xs with
  | nil => rw [ho] at hj; cases hj
  | cons a r =>
    rw [ho] at hj
    have hs := ordP_sorted xs
    rw [ho] at hs
    rcases List.mem_cons.1 hj with e | e
    · rw [e]; rfl
    · exfalso
      have hlt := (List.pairwise_cons.1 hs).1 _ e
      have ha : a ∈ xs := ordP_mem.1 (by rw [ho]; exact List.mem_cons_self)
      obtain ⟨i, hi, hie⟩ := List.getElem_of_mem ha
      exact h3 i hi (by rw [show pAt xs i = xs[i] from getD_lt _ hi, hie]; exact hlt)
theorem bd_all {xs : List Pt} (h : xs.all ptOk = true) : ∀ q ∈ xs, Bd q := fun q hq => bd_of_ok (List.all_eq_true.1 h q hq)
/-- All that the walk round a list of points needs. -/
structure WayP (xs P : List Pt) : Prop where
  pos : 0 < P.length
  raw : P.dropLast = rawHull (ordP xs)
  low : P.head? = some (pAt xs (lowTo xs xs.length).toNat)
  mem : ∀ j, j < P.length → P.getD j (0, 0) ∈ xs
  step : ∀ i, i + 1 < P.length → xs.foldl (wstep (P.getD i (0, 0))) (P.getD i (0, 0)) = P.getD (i + 1) (0, 0) ∧ P.getD (i + 1) (0, 0) ≠ P.getD i (0, 0)
  last : P.getD (P.length - 1) (0, 0) = P.getD 0 (0, 0)
  once : ∀ j, 0 < j → j + 1 < P.length → P.getD j (0, 0) ≠ P.getD 0 (0, 0)
  len : P.length ≤ 2 * xs.length + 1
  one : P.length = 1 → ∀ q ∈ xs, q = P.getD 0 (0, 0)
theorem stack_two {l : List Pt} (hl : l.Pairwise (Lt 1)) (h : (stackOf l).length ≤ 1) : l.length ≤ 1 := by
  cases l with
  | nil => simp
  | cons a l =>
    have h1 : (stackOf (a :: l)).getLast? = some a := stack_last
    rcases List.eq_nil_or_concat l with e | ⟨r, b, e⟩
    · subst e; simp
    · exfalso
      rw [List.concat_eq_append] at e
      have hs : stackOf (a :: l) = b :: popS (stackOf (a :: r)) b := by
        rw [e]
        unfold stackOf
        rw [show a :: (r ++ [b]) = (a :: r) ++ [b] from rfl, List.foldl_append]
        rfl
      rw [hs] at h h1
      simp only [List.length_cons] at h
      have hn : popS (stackOf (a :: r)) b = [] := List.eq_nil_of_length_eq_zero (by omega)
      rw [hn] at h1
      have hab : b = a := by simpa using h1
      rw [e] at hl
      have := (List.pairwise_cons.1 hl).1 b (by simp)
      rw [hab] at this
      exact lt_irrefl (.inl rfl) this
theorem wayP {xs : List Pt} (h : 0 < xs.length) (hok : xs.all ptOk = true) : WayP xs (wayR (ordP xs)) := by
  have hbd := bd_all hok
  have hne : ordP xs ≠ [] := fun e => by
    have := ord_low h
    rw [e] at this; cases this
  have hbo : ∀ q ∈ ordP xs, Bd q := fun q hq => hbd q (ordP_mem.1 hq)
  obtain ⟨⟨r1, r2, r3⟩, r4, r5⟩ := round_of hne (ordP_sorted xs) hbo
  have hlow := ord_low h
  generalize hP : wayR (ordP xs) = P at *
  have hpos : 0 < P.length := by
    cases P with
    | nil => rw [hlow] at r4; cases r4
    | cons a l => simp
  have h0 : P.head? = some (P.getD 0 (0, 0)) := by
    cases P with
    | nil => simp at hpos
    | cons a l => rfl
  have hget : ∀ j, j < P.length → P[j]? = some (P.getD j (0, 0)) := fun j hj => by rw [List.getElem?_eq_getElem hj, getD_lt _ hj]
  have hedge : ∀ i, i + 1 < P.length → Edge (· ∈ ordP xs) (P.getD i (0, 0)) (P.getD (i + 1) (0, 0)) := fun i hi => by
    refine r1 (P.take i) _ _ (P.drop (i + 2)) ?_
    rw [show P.getD i (0, 0) = P[i] from getD_lt _ (by omega), show P.getD (i + 1) (0, 0) = P[i + 1] from getD_lt _ hi]
    rw [← List.drop_eq_getElem_cons hi, ← List.drop_eq_getElem_cons (show i < P.length by omega), List.take_append_drop]
  have hraw : P.length = (rawHull (ordP xs)).length + 1 := by
    rw [← r5, List.length_dropLast]; omega
  refine ⟨hpos, r5, by rw [r4, hlow], fun j hj => ?_, fun i hi => ⟨?_, ?_⟩, ?_, fun j hj hj2 e => ?_, ?_, ?_⟩
  · rcases Nat.lt_or_ge (j + 1) P.length with h5 | h5
    · exact ordP_mem.1 (hedge j h5).1
    · rcases Nat.eq_zero_or_pos j with h6 | h6
      · subst h6
        have : P.head? = some (P.getD 0 (0, 0)) := h0
        rw [r4, hlow] at this
        injection this with this
        rw [← this]
        obtain ⟨j, h1, h2, -⟩ := lowTo_spec xs xs.length h
        rw [h2, Int.toNat_natCast, show pAt xs j = xs[j] from getD_lt _ h1]
        exact List.getElem_mem _
      · have := (hedge (j - 1) (by omega)).2.1
        rw [show j - 1 + 1 = j by omega] at this
        exact ordP_mem.1 this
  · refine wfold hbo (hedge i hi) xs _ (fun q hq => ordP_mem.2 hq) (.inr ⟨ordP_mem.1 (hedge i hi).2.1, .inl rfl⟩)
  · exact (hedge i hi).2.2.1.symm
  · have := r2 _ h0
    rw [List.getLast?_eq_getElem?, hget _ (by omega)] at this
    exact Option.some.inj this
  · exact r3 _ j h0 hj hj2 (by rw [hget j (by omega), e])
  · have := raw_len (ordP xs)
    have := ordP_len xs
    omega
  · intro h1 q hq
    have hr0 : (rawHull (ordP xs)).length = 0 := by omega
    have hh : (halfM (ordP xs)).length = 0 := by unfold rawHull at hr0; rw [List.length_append] at hr0; omega
    have hs : (stackOf (ordP xs)).length ≤ 1 := by unfold halfM at hh; rw [List.length_reverse, List.length_tail] at hh; omega
    have ho := stack_two (ordP_sorted xs) hs
    have hq' := ordP_mem.2 hq
    have hP0 : P.getD 0 (0, 0) ∈ ordP xs := by
      have h2 : P.head? = some (P.getD 0 (0, 0)) := h0
      rw [r4] at h2
      exact List.mem_of_mem_head? h2
    match hoo : ordP xs, ho with
    | [], _ => rw [hoo] at hq'; cases hq'
    | [a], _ =>
      rw [hoo] at hq' hP0
      rw [List.mem_singleton.1 hq', List.mem_singleton.1 hP0]
theorem nx_mem {xs : List Pt} {a : Pt} (ha : a ∈ xs) : ∀ k, (xs.take k).foldl (wstep a) a ∈ xs := by
  have : ∀ (l : List Pt) (st : Pt), (∀ q ∈ l, q ∈ xs) → st ∈ xs → l.foldl (wstep a) st ∈ xs := by
    intro l
    induction l with
    | nil => intro st _ h; exact h
    | cons q l ih =>
      intro st hl hst
      rw [List.foldl_cons]
      refine ih _ (fun x hx => hl x (by simp [hx])) ?_
      unfold wstep
      split
      · exact hl q (by simp)
      · exact hst
  exact fun k => this _ _ (fun q hq => List.mem_of_mem_take hq) ha
theorem nx_succ {xs : List Pt} {a st : Pt} {k : Nat} (h : k < xs.length) : (xs.take (k + 1)).foldl (wstep a) st = wstep a ((xs.take k).foldl (wstep a) st) (pAt xs k) := by
  rw [take_snoc' h, List.foldl_append]; rfl
theorem nx_same {xs : List Pt} {a : Pt} (h : ∀ q ∈ xs, q = a) : xs.foldl (wstep a) a = a := by
  have : ∀ (l : List Pt), (∀ q ∈ l, q = a) → l.foldl (wstep a) a = a := by
    intro l
    induction l with
    | nil => intro _; rfl
    | cons q l ih =>
      intro hl
      rw [List.foldl_cons]
      have : wstep a a q = a := by unfold wstep; rw [if_neg (fun h => h.1 (hl q (by simp)))]
      rw [this]
      exact ih fun x hx => hl x (by simp [hx])
  exact this xs h
theorem hull_btw {xs : List Pt} (h : btw xs.length 3 30 = false) : hullM xs = [] := by
  rw [← Bool.not_eq_true, btw_iff] at h
  rcases Nat.lt_or_ge 30 xs.length with h1 | h1
  · unfold hullM; rw [decide_eq_false (by omega)]; rfl
  · have hr : (rawHull (ordP xs)).length < 3 := by have := raw_len (ordP xs); have := ordP_len xs; omega
    unfold hullM; rw [decide_eq_false (show ¬ 3 ≤ (rawHull (ordP xs)).length by omega)]; simp
theorem ord_pos {xs : List Pt} (h : 0 < xs.length) : 0 < (ordP xs).length := by
  refine List.length_pos_iff.2 fun e => ?_
  have := ord_low h
  rw [e] at this; cases this
theorem bs_len (xs : List Pt) : (bSort xs).length = xs.length := List.length_mergeSort _
def hullC : Con := mkCon [.sl (.b .pt)] (fun x => x.1.length ≤ 1048576) fun x => ptRow (hullM x.1)
theorem hull_long {xs : List Pt} (h : 30 < xs.length) : hullM xs = [] := by unfold hullM; rw [decide_eq_false (by omega)]; rfl
theorem hull_bad {xs : List Pt} (h : xs.all ptOk = false) : hullM xs = [] := by unfold hullM; rw [h]; simp
theorem hull_short {xs : List Pt} (h : (rawHull (ordP xs)).length < 3) : hullM xs = [] := by unfold hullM; rw [decide_eq_false (show ¬ 3 ≤ (rawHull (ordP xs)).length by omega)]; simp
theorem hull_two {xs : List Pt} (h : xs.length < 3) : hullM xs = [] := hull_short (by have := raw_len (ordP xs); have := ordP_len xs; omega)
theorem hull_yes {xs : List Pt} (h1 : xs.length ≤ 30) (h2 : xs.all ptOk = true) (h3 : 3 ≤ (rawHull (ordP xs)).length) : hullM xs = rawHull (ordP xs) := by
  unfold hullM
  rw [decide_eq_true h1, h2, decide_eq_true h3]; rfl
theorem hull_len (xs : List Pt) : (hullM xs).length ≤ 60 := by
  unfold hullM
  split
  · rename_i h
    have h1 : xs.length ≤ 30 := by
      have := (Bool.and_eq_true _ _ ▸ h).1
      exact of_decide_eq_true this
    have := raw_len (ordP xs)
    have := ordP_len xs
    omega
  · simp
def halfC : Con := mkCon [.sl (.b .pt)] (fun x => 0 < x.1.length ∧ x.1.length ≤ 1048576) fun x => ptRow (halfM x.1)
theorem half_ok : Good1 Try.prog n_impl_HullOf_2 halfC := by
  refine good_ofG (tys := tyL) (env := [(n_impl_turn, turnC)]) (envw := []) (envd := []) [6, 37, 41, 47] [5] [] [] [] mixed tys ⟨turn_ok, trivial⟩ trivial trivial Try.func42 rfl (by kernel_rfl) (by decide) (by kernel_rfl) ?_
  have hG_ := kpz [(0, [0]), (1, [0, 3]), (2, [3, 7, 8, 9]), (3, [3, 7, 8, 9, 10]), (4, [3, 5, 7, 8, 9]), (5, [3, 5, 7, 8, 9, 32]), (6, [3, 5, 7, 8, 9]), (7, [3, 7, 8, 9]), (8, [3, 7, 8, 9]), (9, [2])] [(1, [6]), (2, [6]), (3, [6]), (4, [5, 6]), (5, [5, 6]), (6, [5, 6]), (7, [6]), (8, [6]), (9, [6])] [] []
  rintro ⟨(l : List Pt), ⟨⟩⟩ ⟨(h0 : 0 < l.length), (h1 : l.length ≤ _)⟩
  (repeat' (first | with_reducible exact True.intro | with_reducible refine st_seq ?_ | (with_reducible refine st_regionG hG_ ?_; intro K_ hK_) | (with_reducible refine st_region ?_; intro K_ hK_) | (with_reducible refine hK_ _ _ ?_; try clear hK_ K_) | ((with_reducible refine st_cond (b := ?b_) ?hb_ ?_ ?_); case hb_ => rfl) | with_reducible refine sq_n ?_ | with_reducible refine sq_r ?_ | with_reducible refine sq_e ?_ | with_reducible refine bq_n ?_ | with_reducible refine bq_r ?_ | with_reducible refine bq_q ?_ | with_reducible refine st_block ?_ | with_reducible refine st_exit ?_ | with_reducible refine st_ret ?_ | with_reducible refine st_skip ?_ | with_reducible refine gq_n ?_ | with_reducible refine gq_r ?_ | with_reducible refine gq_e ?_ | with_reducible refine lq_n ?_ | with_reducible refine lq_r ?_ | with_reducible refine lq_e ?_ | with_reducible refine bq_e (by decide) ?_ | ((conv => whnf); first | (with_reducible refine hK_ _ _ ?_; try clear hK_ K_) | (with_reducible refine fun (g_ : Sl) (o_ : Ow) => ?_) | with_reducible exact True.intro | with_reducible refine And.intro trivial ?_ | with_reducible refine And.intro ?_ ?_ | exact Nat.le_of_ble_eq_true rfl | exact Or.inl rfl | (intro h_; cases h_) | (intro h_; (try simp only [cond_true, cond_false, decide_eq_true_eq, decide_eq_false_iff_not, Bool.not_eq_true', Bool.not_eq_false', Int.toNat_natCast, prodEta] at h_)) | rfl))) <;> (try (conv => whnf)) <;> (try first | change (_ : Int) ≤ _ | change (_ : Nat) ≤ _) <;> (try ((fail_if_success (with_reducible apply Exists.intro)); (try dsimp only); (try simp only [cond_true, cond_false, decide_eq_true_eq, decide_eq_false_iff_not, Bool.not_eq_true', Bool.not_eq_false', Int.toNat_natCast, prodEta]))) <;> (try simp (disch := omega) only [ptEq2, cond_true, cond_false, decide_eq_true_eq, decide_eq_false_iff_not, List.length_drop, List.take_length, Int.toNat_zero, List.drop_zero, Nat.zero_add, List.nil_append, mod_nat1, mod_nat2, tm1, tm2, tmj, W_in, Int.add_sub_cancel, tn1, tnp, tnc, List.length_append, List.length_take, List.length_replicate, List.length_set, List.length_map, List.length_cons, List.length_nil, prodEta, Int.toNat_natCast, beq_iff_eq, beq_eq_false_iff_ne, bne_iff_ne, bne_eq_false_iff_eq, ne_eq, Int.natCast_inj, Int.ofNat_lt, Int.ofNat_le] at *)
  all_goals (try (fail_if_success (with_reducible apply Exists.intro)); first | with_reducible assumption | omega | exact mdl (by omega) | exact ilo1 (by omega) | exact ilo2 (by omega) | exact ihi1 (by omega) (by omega) | exact ihi2 (by omega) (by omega))
  refine awp'_loopG (α := Nat) (fun k ver_ => [(9, vInt k)]) (fun k ver_ => [(3, 6, false, .row t_impl_Point (.b .pt) (stackOf (l.take k)).reverse)]) (fun k ver_ => [(5, ⟨ver_ 5, .dead⟩)]) (fun k => k ≤ l.length) (fun k => l.length - k) [7, 8] [] (0) ?_
  conv => whnf
  refine ⟨⟨?inv1_, ?vals1_, ?own1_, ?fix1_⟩, ?body1_⟩
  case' vals1_ => (repeat' (first | with_reducible exact True.intro | with_reducible refine And.intro ?_ ?_ | with_reducible refine Head.mk ?_ ?_ ?_ ?_ | ((conv => lhs; whnf); first | with_reducible rfl | with_reducible exact vInt_s (by omega) | exact rfl) | ((conv => whnf); first | with_reducible exact True.intro | with_reducible refine And.intro ?_ ?_))) <;> (try (conv => lhs; whnf))
  case' own1_ => (repeat' (first | with_reducible exact True.intro | with_reducible refine And.intro ?_ ?_ | with_reducible refine Head.mk ?_ ?_ ?_ ?_ | ((conv => lhs; whnf); first | with_reducible rfl | with_reducible exact vInt_s (by omega) | exact rfl) | ((conv => whnf); first | with_reducible exact True.intro | with_reducible refine And.intro ?_ ?_))) <;> (try (conv => lhs; whnf))
  case' fix1_ => (repeat' (first | with_reducible exact True.intro | with_reducible refine And.intro ?_ ?_ | with_reducible refine Head.mk ?_ ?_ ?_ ?_ | ((conv => lhs; whnf); first | with_reducible rfl | with_reducible exact vInt_s (by omega) | exact rfl) | ((conv => whnf); first | with_reducible exact True.intro | with_reducible refine And.intro ?_ ?_))) <;> (try (conv => lhs; whnf))
  · exact Nat.zero_le _
  rintro k g_ o_ v_ hk
  have hsl : (stackOf (l.take k)).length ≤ k := Nat.le_trans (stack_len _) (by rw [List.length_take]; exact Nat.min_le_left _ _)
  have hend : k = l.length → 0 < (stackOf (l.take k)).length ∧ halfM l = (stackOf (l.take k)).reverse.take ((stackOf (l.take k)).length - 1) := fun e => by
    subst e
    rw [List.take_length]
    exact ⟨List.length_pos_iff.2 (stack_ne (by intro e; rw [e] at h0; simp at h0)), half_take l⟩
  have hnext : k < l.length → stackOf (l.take (k + 1)) = pAt l k :: popS (stackOf (l.take k)) (pAt l k) := stackOf_succ
  generalize stackOf (l.take k) = st at *
  generalize hrv0 : st.reverse = rv0 at *
  have hrl0 : rv0.length = st.length := by rw [← hrv0, List.length_reverse]
  rcases Nat.lt_or_ge k l.length with hkl | hkl
  · clear hend
    have hnext := hnext hkl
    (repeat' (first | with_reducible exact True.intro | with_reducible refine st_seq ?_ | (with_reducible refine st_regionG hG_ ?_; intro K_ hK_) | (with_reducible refine st_region ?_; intro K_ hK_) | (with_reducible refine hK_ _ _ ?_; try clear hK_ K_) | ((with_reducible refine st_cond (b := ?b_) ?hb_ ?_ ?_); case hb_ => rfl) | with_reducible refine sq_n ?_ | with_reducible refine sq_r ?_ | with_reducible refine sq_e ?_ | with_reducible refine bq_n ?_ | with_reducible refine bq_r ?_ | with_reducible refine bq_q ?_ | with_reducible refine st_block ?_ | with_reducible refine st_exit ?_ | with_reducible refine st_ret ?_ | with_reducible refine st_skip ?_ | with_reducible refine gq_n ?_ | with_reducible refine gq_r ?_ | with_reducible refine gq_e ?_ | with_reducible refine lq_n ?_ | with_reducible refine lq_r ?_ | with_reducible refine lq_e ?_ | with_reducible refine bq_e (by decide) ?_ | ((conv => whnf); first | (with_reducible refine hK_ _ _ ?_; try clear hK_ K_) | (with_reducible refine fun (g_ : Sl) (o_ : Ow) => ?_) | with_reducible exact True.intro | with_reducible refine And.intro trivial ?_ | with_reducible refine And.intro ?_ ?_ | exact Nat.le_of_ble_eq_true rfl | exact Or.inl rfl | (intro h_; cases h_) | (intro h_; (try simp only [cond_true, cond_false, decide_eq_true_eq, decide_eq_false_iff_not, Bool.not_eq_true', Bool.not_eq_false', Int.toNat_natCast, prodEta] at h_)) | rfl))) <;> (try (conv => whnf)) <;> (try first | change (_ : Int) ≤ _ | change (_ : Nat) ≤ _) <;> (try ((fail_if_success (with_reducible apply Exists.intro)); (try dsimp only); (try simp only [cond_true, cond_false, decide_eq_true_eq, decide_eq_false_iff_not, Bool.not_eq_true', Bool.not_eq_false', Int.toNat_natCast, prodEta]))) <;> (try simp (disch := omega) only [ptEq2, cond_true, cond_false, decide_eq_true_eq, decide_eq_false_iff_not, List.length_drop, List.take_length, Int.toNat_zero, List.drop_zero, Nat.zero_add, List.nil_append, mod_nat1, mod_nat2, tm1, tm2, tmj, W_in, Int.add_sub_cancel, tn1, tnp, tnc, List.length_append, List.length_take, List.length_replicate, List.length_set, List.length_map, List.length_cons, List.length_nil, prodEta, Int.toNat_natCast, beq_iff_eq, beq_eq_false_iff_ne, bne_iff_ne, bne_eq_false_iff_eq, ne_eq, Int.natCast_inj, Int.ofNat_lt, Int.ofNat_le] at *)
    all_goals (try (fail_if_success (with_reducible apply Exists.intro)); first | with_reducible assumption | omega | exact mdl (by omega) | exact ilo1 (by omega) | exact ilo2 (by omega) | exact ihi1 (by omega) (by omega) | exact ihi2 (by omega) (by omega))
    ·
     refine awp'_loopG (α := List Pt) (fun s ver_ => []) (fun s ver_ => [(3, 6, false, .row t_impl_Point (.b .pt) s.reverse)]) (fun s ver_ => []) (fun s => s.length ≤ k ∧ popS s (pAt l k) = popS st (pAt l k)) (fun s => s.length) [5, 7, 8, 9] [5] (st) ?_
     conv => whnf
     refine ⟨⟨?inv2_, ?vals2_, ?own2_, ?fix2_⟩, ?body2_⟩
     case' vals2_ => (repeat' (first | with_reducible exact True.intro | with_reducible refine And.intro ?_ ?_ | with_reducible refine Head.mk ?_ ?_ ?_ ?_ | ((conv => lhs; whnf); first | with_reducible rfl | with_reducible exact vInt_s (by omega) | exact rfl) | ((conv => whnf); first | with_reducible exact True.intro | with_reducible refine And.intro ?_ ?_))) <;> (try (conv => lhs; whnf))
     case' own2_ => (repeat' (first | with_reducible exact True.intro | with_reducible refine And.intro ?_ ?_ | with_reducible refine Head.mk ?_ ?_ ?_ ?_ | ((conv => lhs; whnf); first | with_reducible rfl | with_reducible exact vInt_s (by omega) | exact rfl) | ((conv => whnf); first | with_reducible exact True.intro | with_reducible refine And.intro ?_ ?_))) <;> (try (conv => lhs; whnf))
     case' fix2_ => (repeat' (first | with_reducible exact True.intro | with_reducible refine And.intro ?_ ?_ | with_reducible refine Head.mk ?_ ?_ ?_ ?_ | ((conv => lhs; whnf); first | with_reducible rfl | with_reducible exact vInt_s (by omega) | exact rfl) | ((conv => whnf); first | with_reducible exact True.intro | with_reducible refine And.intro ?_ ?_))) <;> (try (conv => lhs; whnf))
     · exact congrArg (Own.row t_impl_Point (.b .pt)) hrv0.symm
     · exact ⟨hsl, rfl⟩
     rintro s g_ o_ v_ ⟨hs, hpop⟩
     generalize hrv : s.reverse = rv at *
     have hrl : rv.length = s.length := by rw [← hrv, List.length_reverse]
     rcases Nat.lt_or_ge s.length 2 with h2 | h2
     · have hps : popS s (pAt l k) = s := by
         match s, h2 with
         | [], _ => rfl
         | [_], _ => rfl
       (repeat' (first | with_reducible exact True.intro | with_reducible refine st_seq ?_ | (with_reducible refine st_regionG hG_ ?_; intro K_ hK_) | (with_reducible refine st_region ?_; intro K_ hK_) | (with_reducible refine hK_ _ _ ?_; try clear hK_ K_) | ((with_reducible refine st_cond (b := ?b_) ?hb_ ?_ ?_); case hb_ => rfl) | with_reducible refine sq_n ?_ | with_reducible refine sq_r ?_ | with_reducible refine sq_e ?_ | with_reducible refine bq_n ?_ | with_reducible refine bq_r ?_ | with_reducible refine bq_q ?_ | with_reducible refine st_block ?_ | with_reducible refine st_exit ?_ | with_reducible refine st_ret ?_ | with_reducible refine st_skip ?_ | with_reducible refine gq_n ?_ | with_reducible refine gq_r ?_ | with_reducible refine gq_e ?_ | with_reducible refine lq_n ?_ | with_reducible refine lq_r ?_ | with_reducible refine lq_e ?_ | with_reducible refine bq_e (by decide) ?_ | ((conv => whnf); first | (with_reducible refine hK_ _ _ ?_; try clear hK_ K_) | (with_reducible refine fun (g_ : Sl) (o_ : Ow) => ?_) | with_reducible exact True.intro | with_reducible refine And.intro trivial ?_ | with_reducible refine And.intro ?_ ?_ | exact Nat.le_of_ble_eq_true rfl | exact Or.inl rfl | (intro h_; cases h_) | (intro h_; (try simp only [cond_true, cond_false, decide_eq_true_eq, decide_eq_false_iff_not, Bool.not_eq_true', Bool.not_eq_false', Int.toNat_natCast, prodEta] at h_)) | rfl))) <;> (try (conv => whnf)) <;> (try first | change (_ : Int) ≤ _ | change (_ : Nat) ≤ _) <;> (try ((fail_if_success (with_reducible apply Exists.intro)); (try dsimp only); (try simp only [cond_true, cond_false, decide_eq_true_eq, decide_eq_false_iff_not, Bool.not_eq_true', Bool.not_eq_false', Int.toNat_natCast, prodEta]))) <;> (try simp (disch := omega) only [ptEq2, cond_true, cond_false, decide_eq_true_eq, decide_eq_false_iff_not, List.length_drop, List.take_length, Int.toNat_zero, List.drop_zero, Nat.zero_add, List.nil_append, mod_nat1, mod_nat2, tm1, tm2, tmj, W_in, Int.add_sub_cancel, tn1, tnp, tnc, List.length_append, List.length_take, List.length_replicate, List.length_set, List.length_map, List.length_cons, List.length_nil, prodEta, Int.toNat_natCast, beq_iff_eq, beq_eq_false_iff_ne, bne_iff_ne, bne_eq_false_iff_eq, ne_eq, Int.natCast_inj, Int.ofNat_lt, Int.ofNat_le] at *)
       all_goals (try (fail_if_success (with_reducible apply Exists.intro)); first | with_reducible assumption | omega | exact mdl (by omega) | exact ilo1 (by omega) | exact ilo2 (by omega) | exact ihi1 (by omega) (by omega) | exact ihi2 (by omega) (by omega))
       · exfalso; omega
       · exfalso; omega
       · refine ⟨k + 1, by omega, by omega, ?_⟩
         (repeat' (first | with_reducible exact True.intro | with_reducible refine And.intro ?_ ?_ | with_reducible refine Head.mk ?_ ?_ ?_ ?_ | ((conv => lhs; whnf); first | with_reducible rfl | with_reducible exact vInt_s (by omega) | exact rfl) | ((conv => whnf); first | with_reducible exact True.intro | with_reducible refine And.intro ?_ ?_))) <;> (try (conv => lhs; whnf))
         exact congrArg (Own.row t_impl_Point (.b .pt)) (by rw [hnext, ← hpop, hps, List.reverse_cons, hrv])
     · obtain ⟨b, a, r, rfl⟩ : ∃ b a r, s = b :: a :: r := by
         match s, h2 with
         | b :: a :: r, _ => exact ⟨b, a, r, rfl⟩
       have f0 : rv.length = r.length + 2 := by rw [hrl]; rfl
       have f1p : PLift (rv.getD (((rv.length : Int) - 2).toNat) (ElK.b ElB.pt).dflt = a) := ⟨by rw [f0, show (((r.length + 2 : Nat) : Int) - 2).toNat = r.length by omega, ← hrv]; exact rev_snd _ _ _ _⟩
       have f2p : PLift (rv.getD (rv.length - 1) (ElK.b ElB.pt).dflt = b) := ⟨by rw [f0, show r.length + 2 - 1 = (a :: r).length from rfl, ← hrv]; exact rev_top _ _ _⟩
       have f3p : PLift (rv.take (rv.length - 1) = (a :: r).reverse) := ⟨by rw [f0, show r.length + 2 - 1 = (a :: r).length from rfl, ← hrv]; exact rev_take _ _⟩
       (repeat' (first | with_reducible exact True.intro | with_reducible refine st_seq ?_ | (with_reducible refine st_regionG hG_ ?_; intro K_ hK_) | (with_reducible refine st_region ?_; intro K_ hK_) | (with_reducible refine hK_ _ _ ?_; try clear hK_ K_) | ((with_reducible refine st_cond (b := ?b_) ?hb_ ?_ ?_); case hb_ => rfl) | with_reducible refine sq_n ?_ | with_reducible refine sq_r ?_ | with_reducible refine sq_e ?_ | with_reducible refine bq_n ?_ | with_reducible refine bq_r ?_ | with_reducible refine bq_q ?_ | with_reducible refine st_block ?_ | with_reducible refine st_exit ?_ | with_reducible refine st_ret ?_ | with_reducible refine st_skip ?_ | with_reducible refine gq_n ?_ | with_reducible refine gq_r ?_ | with_reducible refine gq_e ?_ | with_reducible refine lq_n ?_ | with_reducible refine lq_r ?_ | with_reducible refine lq_e ?_ | with_reducible refine bq_e (by decide) ?_ | ((conv => whnf); first | (with_reducible refine hK_ _ _ ?_; try clear hK_ K_) | (with_reducible refine fun (g_ : Sl) (o_ : Ow) => ?_) | with_reducible exact True.intro | with_reducible refine And.intro trivial ?_ | with_reducible refine And.intro ?_ ?_ | exact Nat.le_of_ble_eq_true rfl | exact Or.inl rfl | (intro h_; cases h_) | (intro h_; (try simp only [cond_true, cond_false, decide_eq_true_eq, decide_eq_false_iff_not, Bool.not_eq_true', Bool.not_eq_false', Int.toNat_natCast, prodEta] at h_)) | rfl))) <;> (try (conv => whnf)) <;> (try first | change (_ : Int) ≤ _ | change (_ : Nat) ≤ _) <;> (try ((fail_if_success (with_reducible apply Exists.intro)); (try dsimp only); (try simp only [cond_true, cond_false, decide_eq_true_eq, decide_eq_false_iff_not, Bool.not_eq_true', Bool.not_eq_false', Int.toNat_natCast, prodEta]))) <;> (try simp (disch := omega) only [ptEq2, cond_true, cond_false, decide_eq_true_eq, decide_eq_false_iff_not, List.length_drop, List.take_length, Int.toNat_zero, List.drop_zero, Nat.zero_add, List.nil_append, mod_nat1, mod_nat2, tm1, tm2, tmj, W_in, Int.add_sub_cancel, tn1, tnp, tnc, List.length_append, List.length_take, List.length_replicate, List.length_set, List.length_map, List.length_cons, List.length_nil, prodEta, Int.toNat_natCast, beq_iff_eq, beq_eq_false_iff_ne, bne_iff_ne, bne_eq_false_iff_eq, ne_eq, Int.natCast_inj, Int.ofNat_lt, Int.ofNat_le] at *)
       all_goals (try (fail_if_success (with_reducible apply Exists.intro)); first | with_reducible assumption | omega | exact mdl (by omega) | exact ilo1 (by omega) | exact ilo2 (by omega) | exact ihi1 (by omega) (by omega) | exact ihi2 (by omega) (by omega))
       · rw [f1p.down, f2p.down] at h_
         have hpp : popS (b :: a :: r) (pAt l k) = popS (a :: r) (pAt l k) := by rw [popS]; exact if_pos h_
         refine ⟨a :: r, by simp, ⟨by simp only [List.length_cons] at hs ⊢; omega, by rw [← hpp, hpop]⟩, ?_⟩
         (repeat' (first | with_reducible exact True.intro | with_reducible refine And.intro ?_ ?_ | with_reducible refine Head.mk ?_ ?_ ?_ ?_ | ((conv => lhs; whnf); first | with_reducible rfl | with_reducible exact vInt_s (by omega) | exact rfl) | ((conv => whnf); first | with_reducible exact True.intro | with_reducible refine And.intro ?_ ?_))) <;> (try (conv => lhs; whnf))
         exact congrArg (Own.row t_impl_Point (.b .pt)) f3p.down
       · rw [f1p.down, f2p.down] at h_
         have hpp : popS (b :: a :: r) (pAt l k) = b :: a :: r := by rw [popS]; exact if_neg h_
         refine ⟨k + 1, by omega, by omega, ?_⟩
         (repeat' (first | with_reducible exact True.intro | with_reducible refine And.intro ?_ ?_ | with_reducible refine Head.mk ?_ ?_ ?_ ?_ | ((conv => lhs; whnf); first | with_reducible rfl | with_reducible exact vInt_s (by omega) | exact rfl) | ((conv => whnf); first | with_reducible exact True.intro | with_reducible refine And.intro ?_ ?_))) <;> (try (conv => lhs; whnf))
         exact congrArg (Own.row t_impl_Point (.b .pt)) (by rw [hnext, ← hpop, hpp, List.reverse_cons, hrv])
       · exfalso; omega
  · obtain ⟨hpos, hhalf⟩ := hend (by omega)
    (repeat' (first | with_reducible exact True.intro | with_reducible refine st_seq ?_ | (with_reducible refine st_regionG hG_ ?_; intro K_ hK_) | (with_reducible refine st_region ?_; intro K_ hK_) | (with_reducible refine hK_ _ _ ?_; try clear hK_ K_) | ((with_reducible refine st_cond (b := ?b_) ?hb_ ?_ ?_); case hb_ => rfl) | with_reducible refine sq_n ?_ | with_reducible refine sq_r ?_ | with_reducible refine sq_e ?_ | with_reducible refine bq_n ?_ | with_reducible refine bq_r ?_ | with_reducible refine bq_q ?_ | with_reducible refine st_block ?_ | with_reducible refine st_exit ?_ | with_reducible refine st_ret ?_ | with_reducible refine st_skip ?_ | with_reducible refine gq_n ?_ | with_reducible refine gq_r ?_ | with_reducible refine gq_e ?_ | with_reducible refine lq_n ?_ | with_reducible refine lq_r ?_ | with_reducible refine lq_e ?_ | with_reducible refine bq_e (by decide) ?_ | ((conv => whnf); first | (with_reducible refine hK_ _ _ ?_; try clear hK_ K_) | (with_reducible refine fun (g_ : Sl) (o_ : Ow) => ?_) | with_reducible exact True.intro | with_reducible refine And.intro trivial ?_ | with_reducible refine And.intro ?_ ?_ | exact Nat.le_of_ble_eq_true rfl | exact Or.inl rfl | (intro h_; cases h_) | (intro h_; (try simp only [cond_true, cond_false, decide_eq_true_eq, decide_eq_false_iff_not, Bool.not_eq_true', Bool.not_eq_false', Int.toNat_natCast, prodEta] at h_)) | rfl))) <;> (try (conv => whnf)) <;> (try first | change (_ : Int) ≤ _ | change (_ : Nat) ≤ _) <;> (try ((fail_if_success (with_reducible apply Exists.intro)); (try dsimp only); (try simp only [cond_true, cond_false, decide_eq_true_eq, decide_eq_false_iff_not, Bool.not_eq_true', Bool.not_eq_false', Int.toNat_natCast, prodEta]))) <;> (try simp (disch := omega) only [ptEq2, cond_true, cond_false, decide_eq_true_eq, decide_eq_false_iff_not, List.length_drop, List.take_length, Int.toNat_zero, List.drop_zero, Nat.zero_add, List.nil_append, mod_nat1, mod_nat2, tm1, tm2, tmj, W_in, Int.add_sub_cancel, tn1, tnp, tnc, List.length_append, List.length_take, List.length_replicate, List.length_set, List.length_map, List.length_cons, List.length_nil, prodEta, Int.toNat_natCast, beq_iff_eq, beq_eq_false_iff_ne, bne_iff_ne, bne_eq_false_iff_eq, ne_eq, Int.natCast_inj, Int.ofNat_lt, Int.ofNat_le] at *)
    all_goals (try (fail_if_success (with_reducible apply Exists.intro)); first | with_reducible assumption | omega | exact mdl (by omega) | exact ilo1 (by omega) | exact ilo2 (by omega) | exact ihi1 (by omega) (by omega) | exact ihi2 (by omega) (by omega))
    · exfalso; omega
    · exact congrArg some (by rw [hhalf, hrl0])
theorem iHullOf_ok : Good1 Try.prog n_impl_HullOf hullC := by
  refine good_ofG (tys := tyL) (env := [(n_impl_between, btwC), (n_impl_pointsOk, pointsOkC), (n_impl_copyPoints, copyC), (n_impl_HullOf_2, halfC)]) (envw := [(n_slices_SortFunc_impl_Point, hsortC), (n_slices_Compact_impl_Point, compC), (n_slices_Reverse_impl_Point, revPtC)]) (envd := []) [17, 19, 21, 24, 26, 31] [] [] [] [] mixed tys ⟨between_ok, pointsOk_ok, copyPoints_ok, half_ok, trivial⟩ ⟨hsort_ok, compact_ok, revPt_ok, trivial⟩ trivial Try.func22 rfl (by kernel_rfl) (by decide) (by kernel_rfl) ?_
  have hG_ := kpz [(0, [0]), (1, [0, 15]), (2, [2]), (3, [3]), (4, [3]), (5, [3]), (6, [3, 4]), (7, [3, 4, 5]), (8, [3, 4, 5]), (9, [6]), (10, [6, 34]), (11, [2]), (12, [2])] [(3, [17]), (4, [17]), (5, [17]), (6, [17]), (7, [17, 24]), (8, [17, 24]), (9, [17, 24]), (10, [17, 24]), (11, [17, 24]), (12, [17, 24])] [] []
  rintro ⟨(xs : List Pt), ⟨⟩⟩ (h1 : xs.length ≤ _)
  (repeat' (first | with_reducible exact True.intro | with_reducible refine st_seq ?_ | (with_reducible refine st_regionG hG_ ?_; intro K_ hK_) | (with_reducible refine st_region ?_; intro K_ hK_) | (with_reducible refine hK_ _ _ ?_; try clear hK_ K_) | ((with_reducible refine st_cond (b := ?b_) ?hb_ ?_ ?_); case hb_ => rfl) | with_reducible refine sq_n ?_ | with_reducible refine sq_r ?_ | with_reducible refine sq_e ?_ | with_reducible refine bq_n ?_ | with_reducible refine bq_r ?_ | with_reducible refine bq_q ?_ | with_reducible refine st_block ?_ | with_reducible refine st_exit ?_ | with_reducible refine st_ret ?_ | with_reducible refine st_skip ?_ | with_reducible refine gq_n ?_ | with_reducible refine gq_r ?_ | with_reducible refine gq_e ?_ | with_reducible refine lq_n ?_ | with_reducible refine lq_r ?_ | with_reducible refine lq_e ?_ | with_reducible refine bq_e (by decide) ?_ | ((conv => whnf); first | (with_reducible refine hK_ _ _ ?_; try clear hK_ K_) | (with_reducible refine fun (g_ : Sl) (o_ : Ow) => ?_) | with_reducible exact True.intro | with_reducible refine And.intro trivial ?_ | with_reducible refine And.intro ?_ ?_ | exact Nat.le_of_ble_eq_true rfl | exact Or.inl rfl | (intro h_; cases h_) | (intro h_; (try simp only [cond_true, cond_false, decide_eq_true_eq, decide_eq_false_iff_not, Bool.not_eq_true', Bool.not_eq_false', Int.toNat_natCast, prodEta] at h_)) | rfl))) <;> (try (conv => whnf)) <;> (try first | change (_ : Int) ≤ _ | change (_ : Nat) ≤ _) <;> (try ((fail_if_success (with_reducible apply Exists.intro)); (try dsimp only); (try simp only [cond_true, cond_false, decide_eq_true_eq, decide_eq_false_iff_not, Bool.not_eq_true', Bool.not_eq_false', Int.toNat_natCast, prodEta]))) <;> (try simp (disch := omega) only [ptEq2, cond_true, cond_false, decide_eq_true_eq, decide_eq_false_iff_not, List.length_drop, List.take_length, Int.toNat_zero, List.drop_zero, Nat.zero_add, List.nil_append, mod_nat1, mod_nat2, tm1, tm2, tmj, W_in, Int.add_sub_cancel, tn1, tnp, tnc, List.length_append, List.length_take, List.length_replicate, List.length_set, List.length_map, List.length_cons, List.length_nil, prodEta, Int.toNat_natCast, beq_iff_eq, beq_eq_false_iff_ne, bne_iff_ne, bne_eq_false_iff_eq, ne_eq, Int.natCast_inj, Int.ofNat_lt, Int.ofNat_le] at *)
  all_goals (try (fail_if_success (with_reducible apply Exists.intro)); first | with_reducible assumption | omega | exact mdl (by omega) | exact ilo1 (by omega) | exact ilo2 (by omega) | exact ihi1 (by omega) (by omega) | exact ihi2 (by omega) (by omega))
  all_goals first
    | exact hull_btw (by assumption)
    | exact hull_bad (by assumption)
    | exact ⟨bd_all (by assumption)⟩
    | (have hb := btw_iff.1 ‹btw _ 3 30 = true›; have hbl := bs_len xs; have hol := ordP_len xs; have hop := ord_pos (xs := xs) (by omega); first
        | omega
        | (show (bSort xs).length ≤ 1048576; omega)
        | (show 1 ≤ (bSort xs).length; omega)
        | (show 1 ≤ (ordP xs).length; omega)
        | (show (ordP xs).length ≤ 1048576; omega)
        | (show 1 ≤ (ordP xs).reverse.length; rw [List.length_reverse]; omega)
        | (show (ordP xs).reverse.length ≤ 1048576; rw [List.length_reverse]; omega)
        | skip)
  · show (halfM (ordP xs)).length + (halfM (ordP xs).reverse).length ≤ _
    have h2 := half_len (ordP xs)
    have h3 := half_len (ordP xs).reverse
    rw [List.length_reverse] at h3
    have h4 := ordP_len xs
    omega
  · refine hull_short ?_
    have h2 : (((halfM (ordP xs)).length + (halfM (ordP xs).reverse).length : Nat) : Int) < 3 := h_
    unfold rawHull
    rw [List.length_append]
    omega
  · have hb := btw_iff.1 ‹btw _ 3 30 = true›
    refine congrArg some (Eq.symm (hull_yes (by omega) (by assumption) ?_))
    have h2 : ¬ (((halfM (ordP xs)).length + (halfM (ordP xs).reverse).length : Nat) : Int) < 3 := h_
    unfold rawHull
    rw [List.length_append]
    omega
theorem low_y1 {xs : List Pt} {k : Nat} (h : lowTo xs k < 0) : (k : Int) = lowTo xs (k + 1) := by rw [lowTo, if_pos (.inl h)]
theorem low_y2 {xs : List Pt} {k : Nat} (h : (pAt xs k).2 < (pAt xs (lowTo xs k).toNat).2) : (k : Int) = lowTo xs (k + 1) := by rw [lowTo, if_pos (.inr (by unfold pLess; exact decide_eq_true (.inl h)))]
theorem low_y3 {xs : List Pt} {k : Nat} (h : (pAt xs k).2 = (pAt xs (lowTo xs k).toNat).2) (h2 : (pAt xs k).1 < (pAt xs (lowTo xs k).toNat).1) : (k : Int) = lowTo xs (k + 1) := by rw [lowTo, if_pos (.inr (by unfold pLess; exact decide_eq_true (.inr ⟨h, h2⟩)))]
theorem low_n1 {xs : List Pt} {k : Nat} (h : ¬ lowTo xs k < 0) (h1 : ¬ (pAt xs k).2 < (pAt xs (lowTo xs k).toNat).2) (h2 : ¬ (pAt xs k).1 < (pAt xs (lowTo xs k).toNat).1) : lowTo xs k = lowTo xs (k + 1) := by
  rw [lowTo, if_neg]
  unfold pLess
  rw [decide_eq_true_eq]
  omega
theorem low_n2 {xs : List Pt} {k : Nat} (h : ¬ lowTo xs k < 0) (h1 : ¬ (pAt xs k).2 < (pAt xs (lowTo xs k).toNat).2) (h2 : ¬ (pAt xs k).2 = (pAt xs (lowTo xs k).toNat).2) : lowTo xs k = lowTo xs (k + 1) := by
  rw [lowTo, if_neg]
  unfold pLess
  rw [decide_eq_true_eq]
  omega
theorem all_bad {xs : List Pt} {k : Nat} (hk : k < xs.length) (h : ptOk (pAt xs k) = false) : xs.all ptOk = false := by
  rw [List.all_eq_false]
  exact ⟨xs[k], List.getElem_mem _, by rw [← show pAt xs k = xs[k] from getD_lt _ hk, h]; decide⟩
theorem all_good {xs : List Pt} (h : ∀ j, j < xs.length → ptOk (pAt xs j) = true) : xs.all ptOk = true := by
  rw [List.all_eq_true]
  intro q hq
  obtain ⟨j, hj, rfl⟩ := List.getElem_of_mem hq
  rw [← show pAt xs j = xs[j] from getD_lt _ hj]
  exact h j hj
theorem ws_y {a st q : Pt} (h : q ≠ a) (h2 : st = a ∨ turn a st q < 0 ∨ (turn a st q = 0 ∧ sqd a st < sqd a q)) : wstep a st q = q := if_pos ⟨h, h2⟩
theorem ws_n {a st q : Pt} (h : ¬ (q ≠ a ∧ (st = a ∨ turn a st q < 0 ∨ (turn a st q = 0 ∧ sqd a st < sqd a q)))) : wstep a st q = st := if_neg h
theorem sHullOf_ok : Good1 Try.prog n_spec_HullOf hullC := by
  refine good_ofG (tys := tyL) (env := [(n_spec_PointOk, ptOkC), (n_spec_l02Turn, turnC), (n_spec_SquareOf, squareOfC)]) (envw := []) (envd := []) [11, 78, 147] [7, 8] [] [] [] mixed tys ⟨sPointOk_ok, l02Turn_ok, squareOf_ok, trivial⟩ trivial trivial Try.func31 rfl (by kernel_rfl) (by decide) (by kernel_rfl) ?_
  have hG_ := kpz [(0, [0]), (1, [0, 3]), (2, [0, 3, 14]), (3, [2]), (4, [0, 3, 4]), (5, [0, 3, 4, 5]), (6, [0, 3, 4, 5, 19]), (7, [0, 3, 4, 5]), (8, [0, 3, 4, 5, 27]), (9, [2]), (10, [0, 3, 4, 5, 69]), (11, [0, 3, 4, 5]), (12, [0, 3, 4, 72]), (13, [2]), (14, [0, 3, 6]), (15, [0, 3, 6, 7]), (16, [0, 3, 6, 7, 8]), (17, [0, 3, 6, 7, 8, 9]), (18, [0, 3, 6, 7, 8, 9, 89]), (19, [0, 3, 6, 7, 8, 9]), (20, [0, 3, 6, 7, 8, 9, 10]), (21, [0, 3, 6, 7, 8, 9, 129]), (22, [0, 3, 6, 7, 8, 9]), (23, [0, 3, 6, 8, 143]), (24, [0, 3, 6]), (25, [3, 6, 150]), (26, [2]), (27, [2])] [(1, [11]), (2, [11]), (3, [11]), (4, [11]), (5, [11]), (6, [11]), (7, [11]), (8, [11]), (9, [11]), (10, [11]), (11, [11]), (12, [11]), (13, [11]), (14, [11, 78]), (15, [7, 11, 78]), (16, [7, 8, 11, 78]), (17, [7, 8, 11, 78]), (18, [7, 8, 11, 78]), (19, [7, 8, 11, 78]), (20, [7, 8, 11, 78]), (21, [7, 8, 11, 78]), (22, [7, 8, 11, 78]), (23, [8, 11, 78]), (24, [11, 78]), (25, [11, 78]), (26, [11, 78]), (27, [11, 78])] [] []
  rintro ⟨(xs : List Pt), ⟨⟩⟩ (h1 : xs.length ≤ _)
  (repeat' (first | with_reducible exact True.intro | with_reducible refine st_seq ?_ | (with_reducible refine st_regionG hG_ ?_; intro K_ hK_) | (with_reducible refine st_region ?_; intro K_ hK_) | (with_reducible refine hK_ _ _ ?_; try clear hK_ K_) | ((with_reducible refine st_cond (b := ?b_) ?hb_ ?_ ?_); case hb_ => rfl) | with_reducible refine sq_n ?_ | with_reducible refine sq_r ?_ | with_reducible refine sq_e ?_ | with_reducible refine bq_n ?_ | with_reducible refine bq_r ?_ | with_reducible refine bq_q ?_ | with_reducible refine st_block ?_ | with_reducible refine st_exit ?_ | with_reducible refine st_ret ?_ | with_reducible refine st_skip ?_ | with_reducible refine gq_n ?_ | with_reducible refine gq_r ?_ | with_reducible refine gq_e ?_ | with_reducible refine lq_n ?_ | with_reducible refine lq_r ?_ | with_reducible refine lq_e ?_ | with_reducible refine bq_e (by decide) ?_ | ((conv => whnf); first | (with_reducible refine hK_ _ _ ?_; try clear hK_ K_) | (with_reducible refine fun (g_ : Sl) (o_ : Ow) => ?_) | with_reducible exact True.intro | with_reducible refine And.intro trivial ?_ | with_reducible refine And.intro ?_ ?_ | exact Nat.le_of_ble_eq_true rfl | exact Or.inl rfl | (intro h_; cases h_) | (intro h_; (try simp only [cond_true, cond_false, decide_eq_true_eq, decide_eq_false_iff_not, Bool.not_eq_true', Bool.not_eq_false', Int.toNat_natCast, prodEta] at h_)) | rfl))) <;> (try (conv => whnf)) <;> (try first | change (_ : Int) ≤ _ | change (_ : Nat) ≤ _) <;> (try ((fail_if_success (with_reducible apply Exists.intro)); (try dsimp only); (try simp only [cond_true, cond_false, decide_eq_true_eq, decide_eq_false_iff_not, Bool.not_eq_true', Bool.not_eq_false', Int.toNat_natCast, prodEta]))) <;> (try simp (disch := omega) only [ptEq2, cond_true, cond_false, decide_eq_true_eq, decide_eq_false_iff_not, List.length_drop, List.take_length, Int.toNat_zero, List.drop_zero, Nat.zero_add, List.nil_append, mod_nat1, mod_nat2, tm1, tm2, tmj, W_in, Int.add_sub_cancel, tn1, tnp, tnc, List.length_append, List.length_take, List.length_replicate, List.length_set, List.length_map, List.length_cons, List.length_nil, prodEta, Int.toNat_natCast, beq_iff_eq, beq_eq_false_iff_ne, bne_iff_ne, bne_eq_false_iff_eq, ne_eq, Int.natCast_inj, Int.ofNat_lt, Int.ofNat_le] at *)
  all_goals (try (fail_if_success (with_reducible apply Exists.intro)); first | with_reducible assumption | omega | exact mdl (by omega) | exact ilo1 (by omega) | exact ilo2 (by omega) | exact ihi1 (by omega) (by omega) | exact ihi2 (by omega) (by omega))
  · exact congrArg some (hull_long (by omega)).symm
  refine awp'_loopG (α := Nat) (fun k ver_ => [(4, vInt (lowTo xs k)), (5, vInt k)]) (fun k ver_ => []) (fun k ver_ => [(7, ⟨ver_ 7, .dead⟩), (8, ⟨ver_ 8, .dead⟩)]) (fun k => k ≤ xs.length ∧ ∀ j, j < k → ptOk (pAt xs j) = true) (fun k => xs.length - k) [0, 3] [11] (0) ?_
  conv => whnf
  refine ⟨⟨?inv3_, ?vals3_, ?own3_, ?fix3_⟩, ?body3_⟩
  case' vals3_ => (repeat' (first | with_reducible exact True.intro | with_reducible refine And.intro ?_ ?_ | with_reducible refine Head.mk ?_ ?_ ?_ ?_ | ((conv => lhs; whnf); first | with_reducible rfl | with_reducible exact vInt_s (by omega) | exact rfl) | ((conv => whnf); first | with_reducible exact True.intro | with_reducible refine And.intro ?_ ?_))) <;> (try (conv => lhs; whnf))
  case' own3_ => (repeat' (first | with_reducible exact True.intro | with_reducible refine And.intro ?_ ?_ | with_reducible refine Head.mk ?_ ?_ ?_ ?_ | ((conv => lhs; whnf); first | with_reducible rfl | with_reducible exact vInt_s (by omega) | exact rfl) | ((conv => whnf); first | with_reducible exact True.intro | with_reducible refine And.intro ?_ ?_))) <;> (try (conv => lhs; whnf))
  case' fix3_ => (repeat' (first | with_reducible exact True.intro | with_reducible refine And.intro ?_ ?_ | with_reducible refine Head.mk ?_ ?_ ?_ ?_ | ((conv => lhs; whnf); first | with_reducible rfl | with_reducible exact vInt_s (by omega) | exact rfl) | ((conv => whnf); first | with_reducible exact True.intro | with_reducible refine And.intro ?_ ?_))) <;> (try (conv => lhs; whnf))
  · exact ⟨Nat.zero_le _, fun j hj => absurd hj (by omega)⟩
  rintro k g_ o_ v_ ⟨hk, hall⟩
  have hlb := low_bd xs k
  (repeat' (first | with_reducible exact True.intro | with_reducible refine st_seq ?_ | (with_reducible refine st_regionG hG_ ?_; intro K_ hK_) | (with_reducible refine st_region ?_; intro K_ hK_) | (with_reducible refine hK_ _ _ ?_; try clear hK_ K_) | ((with_reducible refine st_cond (b := ?b_) ?hb_ ?_ ?_); case hb_ => rfl) | with_reducible refine sq_n ?_ | with_reducible refine sq_r ?_ | with_reducible refine sq_e ?_ | with_reducible refine bq_n ?_ | with_reducible refine bq_r ?_ | with_reducible refine bq_q ?_ | with_reducible refine st_block ?_ | with_reducible refine st_exit ?_ | with_reducible refine st_ret ?_ | with_reducible refine st_skip ?_ | with_reducible refine gq_n ?_ | with_reducible refine gq_r ?_ | with_reducible refine gq_e ?_ | with_reducible refine lq_n ?_ | with_reducible refine lq_r ?_ | with_reducible refine lq_e ?_ | with_reducible refine bq_e (by decide) ?_ | ((conv => whnf); first | (with_reducible refine hK_ _ _ ?_; try clear hK_ K_) | (with_reducible refine fun (g_ : Sl) (o_ : Ow) => ?_) | with_reducible exact True.intro | with_reducible refine And.intro trivial ?_ | with_reducible refine And.intro ?_ ?_ | exact Nat.le_of_ble_eq_true rfl | exact Or.inl rfl | (intro h_; cases h_) | (intro h_; (try simp only [cond_true, cond_false, decide_eq_true_eq, decide_eq_false_iff_not, Bool.not_eq_true', Bool.not_eq_false', Int.toNat_natCast, prodEta] at h_)) | rfl))) <;> (try (conv => whnf)) <;> (try first | change (_ : Int) ≤ _ | change (_ : Nat) ≤ _) <;> (try ((fail_if_success (with_reducible apply Exists.intro)); (try dsimp only); (try simp only [cond_true, cond_false, decide_eq_true_eq, decide_eq_false_iff_not, Bool.not_eq_true', Bool.not_eq_false', Int.toNat_natCast, prodEta]))) <;> (try simp (disch := omega) only [ptEq2, cond_true, cond_false, decide_eq_true_eq, decide_eq_false_iff_not, List.length_drop, List.take_length, Int.toNat_zero, List.drop_zero, Nat.zero_add, List.nil_append, mod_nat1, mod_nat2, tm1, tm2, tmj, W_in, Int.add_sub_cancel, tn1, tnp, tnc, List.length_append, List.length_take, List.length_replicate, List.length_set, List.length_map, List.length_cons, List.length_nil, prodEta, Int.toNat_natCast, beq_iff_eq, beq_eq_false_iff_ne, bne_iff_ne, bne_eq_false_iff_eq, ne_eq, Int.natCast_inj, Int.ofNat_lt, Int.ofNat_le] at *)
  all_goals (try (fail_if_success (with_reducible apply Exists.intro)); first | with_reducible assumption | omega | exact mdl (by omega) | exact ilo1 (by omega) | exact ilo2 (by omega) | exact ihi1 (by omega) (by omega) | exact ihi2 (by omega) (by omega))
  · exact congrArg some (hull_bad (all_bad h_ (by assumption))).symm
  · refine ⟨k + 1, by omega, ⟨by omega, lt_succ_all hall (by assumption)⟩, ?_⟩
    (repeat' (first | with_reducible exact True.intro | with_reducible refine And.intro ?_ ?_ | with_reducible refine Head.mk ?_ ?_ ?_ ?_ | ((conv => lhs; whnf); first | with_reducible rfl | with_reducible exact vInt_s (by omega) | exact rfl) | ((conv => whnf); first | with_reducible exact True.intro | with_reducible refine And.intro ?_ ?_))) <;> (try (conv => lhs; whnf))
    exact congrArg vInt (low_y1 (by assumption))
  · refine ⟨k + 1, by omega, ⟨by omega, lt_succ_all hall (by assumption)⟩, ?_⟩
    (repeat' (first | with_reducible exact True.intro | with_reducible refine And.intro ?_ ?_ | with_reducible refine Head.mk ?_ ?_ ?_ ?_ | ((conv => lhs; whnf); first | with_reducible rfl | with_reducible exact vInt_s (by omega) | exact rfl) | ((conv => whnf); first | with_reducible exact True.intro | with_reducible refine And.intro ?_ ?_))) <;> (try (conv => lhs; whnf))
    exact congrArg vInt (low_y2 (by assumption))
  · refine ⟨k + 1, by omega, ⟨by omega, lt_succ_all hall (by assumption)⟩, ?_⟩
    (repeat' (first | with_reducible exact True.intro | with_reducible refine And.intro ?_ ?_ | with_reducible refine Head.mk ?_ ?_ ?_ ?_ | ((conv => lhs; whnf); first | with_reducible rfl | with_reducible exact vInt_s (by omega) | exact rfl) | ((conv => whnf); first | with_reducible exact True.intro | with_reducible refine And.intro ?_ ?_))) <;> (try (conv => lhs; whnf))
    exact congrArg vInt (low_y3 (by assumption) (by assumption))
  · refine ⟨k + 1, by omega, ⟨by omega, lt_succ_all hall (by assumption)⟩, ?_⟩
    (repeat' (first | with_reducible exact True.intro | with_reducible refine And.intro ?_ ?_ | with_reducible refine Head.mk ?_ ?_ ?_ ?_ | ((conv => lhs; whnf); first | with_reducible rfl | with_reducible exact vInt_s (by omega) | exact rfl) | ((conv => whnf); first | with_reducible exact True.intro | with_reducible refine And.intro ?_ ?_))) <;> (try (conv => lhs; whnf))
    exact congrArg vInt (low_n1 (by assumption) (by assumption) (by assumption))
  · refine ⟨k + 1, by omega, ⟨by omega, lt_succ_all hall (by assumption)⟩, ?_⟩
    (repeat' (first | with_reducible exact True.intro | with_reducible refine And.intro ?_ ?_ | with_reducible refine Head.mk ?_ ?_ ?_ ?_ | ((conv => lhs; whnf); first | with_reducible rfl | with_reducible exact vInt_s (by omega) | exact rfl) | ((conv => whnf); first | with_reducible exact True.intro | with_reducible refine And.intro ?_ ?_))) <;> (try (conv => lhs; whnf))
    exact congrArg vInt (low_n2 (by assumption) (by assumption) (by assumption))
  · have hl0 : xs.length = 0 := by
      rcases Nat.eq_zero_or_pos k with e | e
      · omega
      · obtain ⟨j, -, h2, -⟩ := lowTo_spec xs k e
        omega
    exact congrArg some (hull_two (by omega)).symm
  obtain rfl : k = xs.length := by omega
  have hpos : 0 < xs.length := by
    rcases Nat.eq_zero_or_pos xs.length with e | e
    · exfalso
      have : lowTo xs xs.length = -1 := by rw [e]; rfl
      omega
    · exact e
  have hok := all_good hall
  have hW := wayP hpos hok
  have hP0 : [xs.getD (lowTo xs xs.length).toNat (ElK.b ElB.pt).dflt] = (wayR (ordP xs)).take 1 := by
    have h2 := hW.low
    cases hp : wayR (ordP xs) with
    | nil => rw [hp] at h2; cases h2
    | cons a r =>
      rw [hp] at h2
      injection h2 with h2
      rw [h2]; rfl
  generalize wayR (ordP xs) = P at hW hP0
  refine awp'_loopG (α := Nat) (fun i ver_ => []) (fun i ver_ => [(6, 78, false, .row t_impl_Point (.b .pt) (P.take (i + 1)))]) (fun i ver_ => [(7, ⟨ver_ 7, .dead⟩), (8, ⟨ver_ 8, .dead⟩)]) (fun i => i < P.length ∧ (i = 0 ∨ i + 1 < P.length)) (fun i => P.length - i) [0, 3] [11] (0) ?_
  conv => whnf
  refine ⟨⟨?inv4_, ?vals4_, ?own4_, ?fix4_⟩, ?body4_⟩
  case' vals4_ => (repeat' (first | with_reducible exact True.intro | with_reducible refine And.intro ?_ ?_ | with_reducible refine Head.mk ?_ ?_ ?_ ?_ | ((conv => lhs; whnf); first | with_reducible rfl | with_reducible exact vInt_s (by omega) | exact rfl) | ((conv => whnf); first | with_reducible exact True.intro | with_reducible refine And.intro ?_ ?_))) <;> (try (conv => lhs; whnf))
  case' own4_ => (repeat' (first | with_reducible exact True.intro | with_reducible refine And.intro ?_ ?_ | with_reducible refine Head.mk ?_ ?_ ?_ ?_ | ((conv => lhs; whnf); first | with_reducible rfl | with_reducible exact vInt_s (by omega) | exact rfl) | ((conv => whnf); first | with_reducible exact True.intro | with_reducible refine And.intro ?_ ?_))) <;> (try (conv => lhs; whnf))
  case' fix4_ => (repeat' (first | with_reducible exact True.intro | with_reducible refine And.intro ?_ ?_ | with_reducible refine Head.mk ?_ ?_ ?_ ?_ | ((conv => lhs; whnf); first | with_reducible rfl | with_reducible exact vInt_s (by omega) | exact rfl) | ((conv => whnf); first | with_reducible exact True.intro | with_reducible refine And.intro ?_ ?_))) <;> (try (conv => lhs; whnf))
  · exact congrArg (Own.row t_impl_Point (.b .pt)) hP0
  · exact ⟨hW.pos, .inl rfl⟩
  rintro i g_ o_ v_ ⟨hi, hi2⟩
  have hol : (P.take (i + 1)).length = i + 1 := by rw [List.length_take]; omega
  have hla : (P.take (i + 1)).getD i (0, 0) = P.getD i (0, 0) := by rw [List.getD_eq_getElem?_getD, List.getElem?_take_of_lt (by omega), ← List.getD_eq_getElem?_getD]
  have hl0 : (P.take (i + 1)).getD 0 (0, 0) = P.getD 0 (0, 0) := by rw [List.getD_eq_getElem?_getD, List.getElem?_take_of_lt (by omega), ← List.getD_eq_getElem?_getD]
  have hmem := hW.mem i hi
  have hstep := hW.step i
  have hone := hW.one
  have hPl := hW.len
  have haok : ptOk (P.getD i (0, 0)) = true := List.all_eq_true.1 hok _ hmem
  generalize hout : P.take (i + 1) = out at *
  generalize hpa : P.getD i (0, 0) = a at *
  have hlap : PLift (out.getD (out.length - 1) (ElK.b ElB.pt).dflt = a) := ⟨by rw [hol]; exact hla⟩
  (repeat' (first | with_reducible exact True.intro | with_reducible refine st_seq ?_ | (with_reducible refine st_regionG hG_ ?_; intro K_ hK_) | (with_reducible refine st_region ?_; intro K_ hK_) | (with_reducible refine hK_ _ _ ?_; try clear hK_ K_) | ((with_reducible refine st_cond (b := ?b_) ?hb_ ?_ ?_); case hb_ => rfl) | with_reducible refine sq_n ?_ | with_reducible refine sq_r ?_ | with_reducible refine sq_e ?_ | with_reducible refine bq_n ?_ | with_reducible refine bq_r ?_ | with_reducible refine bq_q ?_ | with_reducible refine st_block ?_ | with_reducible refine st_exit ?_ | with_reducible refine st_ret ?_ | with_reducible refine st_skip ?_ | with_reducible refine gq_n ?_ | with_reducible refine gq_r ?_ | with_reducible refine gq_e ?_ | with_reducible refine lq_n ?_ | with_reducible refine lq_r ?_ | with_reducible refine lq_e ?_ | with_reducible refine bq_e (by decide) ?_ | ((conv => whnf); first | (with_reducible refine hK_ _ _ ?_; try clear hK_ K_) | (with_reducible refine fun (g_ : Sl) (o_ : Ow) => ?_) | with_reducible exact True.intro | with_reducible refine And.intro trivial ?_ | with_reducible refine And.intro ?_ ?_ | exact Nat.le_of_ble_eq_true rfl | exact Or.inl rfl | (intro h_; cases h_) | (intro h_; (try simp only [cond_true, cond_false, decide_eq_true_eq, decide_eq_false_iff_not, Bool.not_eq_true', Bool.not_eq_false', Int.toNat_natCast, prodEta] at h_)) | rfl))) <;> (try (conv => whnf)) <;> (try first | change (_ : Int) ≤ _ | change (_ : Nat) ≤ _) <;> (try ((fail_if_success (with_reducible apply Exists.intro)); (try dsimp only); (try simp only [cond_true, cond_false, decide_eq_true_eq, decide_eq_false_iff_not, Bool.not_eq_true', Bool.not_eq_false', Int.toNat_natCast, prodEta]))) <;> (try simp (disch := omega) only [ptEq2, cond_true, cond_false, decide_eq_true_eq, decide_eq_false_iff_not, List.length_drop, List.take_length, Int.toNat_zero, List.drop_zero, Nat.zero_add, List.nil_append, mod_nat1, mod_nat2, tm1, tm2, tmj, W_in, Int.add_sub_cancel, tn1, tnp, tnc, List.length_append, List.length_take, List.length_replicate, List.length_set, List.length_map, List.length_cons, List.length_nil, prodEta, Int.toNat_natCast, beq_iff_eq, beq_eq_false_iff_ne, bne_iff_ne, bne_eq_false_iff_eq, ne_eq, Int.natCast_inj, Int.ofNat_lt, Int.ofNat_le] at *)
  all_goals (try (fail_if_success (with_reducible apply Exists.intro)); first | with_reducible assumption | omega | exact mdl (by omega) | exact ilo1 (by omega) | exact ilo2 (by omega) | exact ihi1 (by omega) (by omega) | exact ihi2 (by omega) (by omega))
  ·
   refine awp'_loopG (α := Nat) (fun k ver_ => [(9, vInt k)]) (fun k ver_ => [(8, 8, true, .box t_impl_Point (cPt ((xs.take k).foldl (wstep a) a)))]) (fun k ver_ => []) (fun k => k ≤ xs.length) (fun k => xs.length - k) [0, 3, 6, 7] [7, 11, 78] (0) ?_
   conv => whnf
   refine ⟨⟨?inv5_, ?vals5_, ?own5_, ?fix5_⟩, ?body5_⟩
   case' vals5_ => (repeat' (first | with_reducible exact True.intro | with_reducible refine And.intro ?_ ?_ | with_reducible refine Head.mk ?_ ?_ ?_ ?_ | ((conv => lhs; whnf); first | with_reducible rfl | with_reducible exact vInt_s (by omega) | exact rfl) | ((conv => whnf); first | with_reducible exact True.intro | with_reducible refine And.intro ?_ ?_))) <;> (try (conv => lhs; whnf))
   case' own5_ => (repeat' (first | with_reducible exact True.intro | with_reducible refine And.intro ?_ ?_ | with_reducible refine Head.mk ?_ ?_ ?_ ?_ | ((conv => lhs; whnf); first | with_reducible rfl | with_reducible exact vInt_s (by omega) | exact rfl) | ((conv => whnf); first | with_reducible exact True.intro | with_reducible refine And.intro ?_ ?_))) <;> (try (conv => lhs; whnf))
   case' fix5_ => (repeat' (first | with_reducible exact True.intro | with_reducible refine And.intro ?_ ?_ | with_reducible refine Head.mk ?_ ?_ ?_ ?_ | ((conv => lhs; whnf); first | with_reducible rfl | with_reducible exact vInt_s (by omega) | exact rfl) | ((conv => whnf); first | with_reducible exact True.intro | with_reducible refine And.intro ?_ ?_))) <;> (try (conv => lhs; whnf))
   · rw [hlap.down]; rfl
   · exact Nat.zero_le _
   rintro k g_ o_ v_ hk
   have hnm := nx_mem hmem k
   have hnok : ptOk ((xs.take k).foldl (wstep a) a) = true := List.all_eq_true.1 hok _ hnm
   have hns : k < xs.length → (xs.take (k + 1)).foldl (wstep a) a = wstep a ((xs.take k).foldl (wstep a) a) (pAt xs k) := nx_succ
   have hfull : k = xs.length → (xs.take k).foldl (wstep a) a = xs.foldl (wstep a) a := fun e => by rw [e, List.take_length]
   have hkey : k = xs.length → (i + 1 = P.length ∧ (xs.take k).foldl (wstep a) a = a) ∨ (i + 1 < P.length ∧ (xs.take k).foldl (wstep a) a = P.getD (i + 1) (0, 0) ∧ (xs.take k).foldl (wstep a) a ≠ a) := fun e => by
     rw [hfull e]
     rcases Nat.lt_or_ge (i + 1) P.length with h5 | h5
     · obtain ⟨s1, s2⟩ := hstep h5
       rw [s1]
       exact .inr ⟨h5, rfl, s2⟩
     · have hp1 : P.length = 1 := by omega
       refine .inl ⟨by omega, ?_⟩
       have hi0 : i = 0 := by omega
       have : P.getD 0 (0, 0) = a := by rw [← hpa, hi0]
       exact nx_same fun q hq => (hone hp1 q hq).trans this
   have hrawo : i + 2 = P.length → out = rawHull (ordP xs) := fun e => by
     rw [← hout, ← hW.raw, List.dropLast_eq_take]
     congr 1; omega
   have hraw1 : i + 1 = P.length → (rawHull (ordP xs)).length = 0 := fun e => by
     rw [← hW.raw, List.length_dropLast]; omega
   have honce := hW.once (i + 1) (by omega)
   have hlast : i + 2 = P.length → P.getD (i + 1) (0, 0) = P.getD 0 (0, 0) := fun e => by
     have := hW.last
     rwa [show P.length - 1 = i + 1 by omega] at this
   have hnext : i + 1 < P.length → out ++ [P.getD (i + 1) (0, 0)] = P.take (i + 1 + 1) := fun e => by
     rw [← hout, List.take_succ_eq_append_getElem e, show P.getD (i + 1) (0, 0) = P[i + 1] from getD_lt _ e]
   have hl0' : out.getD 0 (ElK.b ElB.pt).dflt = P.getD 0 (0, 0) := hl0
   have hl0p : PLift (out.getD 0 (ElK.b ElB.pt).dflt = P.getD 0 (0, 0)) := ⟨hl0⟩
   generalize (xs.take k).foldl (wstep a) a = nx at *
   (repeat' (first | with_reducible exact True.intro | with_reducible refine st_seq ?_ | (with_reducible refine st_regionG hG_ ?_; intro K_ hK_) | (with_reducible refine st_region ?_; intro K_ hK_) | (with_reducible refine hK_ _ _ ?_; try clear hK_ K_) | ((with_reducible refine st_cond (b := ?b_) ?hb_ ?_ ?_); case hb_ => rfl) | with_reducible refine sq_n ?_ | with_reducible refine sq_r ?_ | with_reducible refine sq_e ?_ | with_reducible refine bq_n ?_ | with_reducible refine bq_r ?_ | with_reducible refine bq_q ?_ | with_reducible refine st_block ?_ | with_reducible refine st_exit ?_ | with_reducible refine st_ret ?_ | with_reducible refine st_skip ?_ | with_reducible refine gq_n ?_ | with_reducible refine gq_r ?_ | with_reducible refine gq_e ?_ | with_reducible refine lq_n ?_ | with_reducible refine lq_r ?_ | with_reducible refine lq_e ?_ | with_reducible refine bq_e (by decide) ?_ | ((conv => whnf); first | (with_reducible refine hK_ _ _ ?_; try clear hK_ K_) | (with_reducible refine fun (g_ : Sl) (o_ : Ow) => ?_) | with_reducible exact True.intro | with_reducible refine And.intro trivial ?_ | with_reducible refine And.intro ?_ ?_ | exact Nat.le_of_ble_eq_true rfl | exact Or.inl rfl | (intro h_; cases h_) | (intro h_; (try simp only [cond_true, cond_false, decide_eq_true_eq, decide_eq_false_iff_not, Bool.not_eq_true', Bool.not_eq_false', Int.toNat_natCast, prodEta] at h_)) | rfl))) <;> (try (conv => whnf)) <;> (try first | change (_ : Int) ≤ _ | change (_ : Nat) ≤ _) <;> (try ((fail_if_success (with_reducible apply Exists.intro)); (try dsimp only); (try simp only [cond_true, cond_false, decide_eq_true_eq, decide_eq_false_iff_not, Bool.not_eq_true', Bool.not_eq_false', Int.toNat_natCast, prodEta]))) <;> (try simp (disch := omega) only [ptEq2, cond_true, cond_false, decide_eq_true_eq, decide_eq_false_iff_not, List.length_drop, List.take_length, Int.toNat_zero, List.drop_zero, Nat.zero_add, List.nil_append, mod_nat1, mod_nat2, tm1, tm2, tmj, W_in, Int.add_sub_cancel, tn1, tnp, tnc, List.length_append, List.length_take, List.length_replicate, List.length_set, List.length_map, List.length_cons, List.length_nil, prodEta, Int.toNat_natCast, beq_iff_eq, beq_eq_false_iff_ne, bne_iff_ne, bne_eq_false_iff_eq, ne_eq, Int.natCast_inj, Int.ofNat_lt, Int.ofNat_le] at *) <;> (try simp only [hlap.down] at *)
   all_goals (try (fail_if_success (with_reducible apply Exists.intro)); first | with_reducible assumption | omega | exact mdl (by omega) | exact ilo1 (by omega) | exact ilo2 (by omega) | exact ihi1 (by omega) (by omega) | exact ihi2 (by omega) (by omega))
   · refine ⟨k + 1, by omega, by omega, ?_⟩
     (repeat' (first | with_reducible exact True.intro | with_reducible refine And.intro ?_ ?_ | with_reducible refine Head.mk ?_ ?_ ?_ ?_ | ((conv => lhs; whnf); first | with_reducible rfl | with_reducible exact vInt_s (by omega) | exact rfl) | ((conv => whnf); first | with_reducible exact True.intro | with_reducible refine And.intro ?_ ?_))) <;> (try (conv => lhs; whnf))
     rw [hns (by omega), ws_y (by assumption) (.inl (by assumption))]
   · refine ⟨k + 1, by omega, by omega, ?_⟩
     (repeat' (first | with_reducible exact True.intro | with_reducible refine And.intro ?_ ?_ | with_reducible refine Head.mk ?_ ?_ ?_ ?_ | ((conv => lhs; whnf); first | with_reducible rfl | with_reducible exact vInt_s (by omega) | exact rfl) | ((conv => whnf); first | with_reducible exact True.intro | with_reducible refine And.intro ?_ ?_))) <;> (try (conv => lhs; whnf))
     rw [hns (by omega), ws_y (by assumption) (.inr (.inl (by assumption)))]
   all_goals (try first | exact haok | exact hall k (by assumption))
   · refine ⟨k + 1, by omega, by omega, ?_⟩
     (repeat' (first | with_reducible exact True.intro | with_reducible refine And.intro ?_ ?_ | with_reducible refine Head.mk ?_ ?_ ?_ ?_ | ((conv => lhs; whnf); first | with_reducible rfl | with_reducible exact vInt_s (by omega) | exact rfl) | ((conv => whnf); first | with_reducible exact True.intro | with_reducible refine And.intro ?_ ?_))) <;> (try (conv => lhs; whnf))
     rw [hns (by omega), ws_y (by assumption) (.inr (.inr ⟨by assumption, by assumption⟩))]
   · refine ⟨k + 1, by omega, by omega, ?_⟩
     (repeat' (first | with_reducible exact True.intro | with_reducible refine And.intro ?_ ?_ | with_reducible refine Head.mk ?_ ?_ ?_ ?_ | ((conv => lhs; whnf); first | with_reducible rfl | with_reducible exact vInt_s (by omega) | exact rfl) | ((conv => whnf); first | with_reducible exact True.intro | with_reducible refine And.intro ?_ ?_))) <;> (try (conv => lhs; whnf))
     rw [hns (by omega), ws_n (by rintro ⟨-, h | h | ⟨-, h⟩⟩ <;> contradiction)]
   · refine ⟨k + 1, by omega, by omega, ?_⟩
     (repeat' (first | with_reducible exact True.intro | with_reducible refine And.intro ?_ ?_ | with_reducible refine Head.mk ?_ ?_ ?_ ?_ | ((conv => lhs; whnf); first | with_reducible rfl | with_reducible exact vInt_s (by omega) | exact rfl) | ((conv => whnf); first | with_reducible exact True.intro | with_reducible refine And.intro ?_ ?_))) <;> (try (conv => lhs; whnf))
     rw [hns (by omega), ws_n (by rintro ⟨-, h | h | ⟨h, -⟩⟩ <;> contradiction)]
   · refine ⟨k + 1, by omega, by omega, ?_⟩
     (repeat' (first | with_reducible exact True.intro | with_reducible refine And.intro ?_ ?_ | with_reducible refine Head.mk ?_ ?_ ?_ ?_ | ((conv => lhs; whnf); first | with_reducible rfl | with_reducible exact vInt_s (by omega) | exact rfl) | ((conv => whnf); first | with_reducible exact True.intro | with_reducible refine And.intro ?_ ?_))) <;> (try (conv => lhs; whnf))
     rw [hns (by omega), ws_n (by rintro ⟨h, -⟩; contradiction)]
   · have hkl : k = xs.length := by omega
     refine congrArg some (Eq.symm (hull_short ?_))
     rcases hkey hkl with ⟨e1, e2⟩ | ⟨e1, e2, e3⟩
     · rw [hraw1 e1]; omega
     · have hnx : nx = P.getD 0 (0, 0) := by rw [h_]; exact hl0p.down
       rcases Nat.lt_or_ge (i + 2) P.length with h5 | h5
       · exact absurd (e2.symm.trans hnx) (honce h5)
       · rw [← hrawo (by omega)]; omega
   · have hkl : k = xs.length := by omega
     rcases hkey hkl with ⟨e1, e2⟩ | ⟨e1, e2, e3⟩
     · exfalso; omega
     · have hnx : nx = P.getD 0 (0, 0) := by rw [h_]; exact hl0p.down
       rcases Nat.lt_or_ge (i + 2) P.length with h5 | h5
       · exact absurd (e2.symm.trans hnx) (honce h5)
       · have hro := hrawo (by omega)
         exact congrArg some (by rw [hull_yes (by omega) hok (by rw [← hro]; omega), hro])
   · have hkl : k = xs.length := by omega
     rcases hkey hkl with ⟨e1, e2⟩ | ⟨e1, e2, e3⟩
     · exact congrArg some (Eq.symm (hull_short (by rw [hraw1 e1]; omega)))
     · exact absurd h_ e3
   · have hkl : k = xs.length := by omega
     rcases hkey hkl with ⟨e1, e2⟩ | ⟨e1, e2, e3⟩
     · exfalso; omega
     · exact absurd h_ e3
   · have hkl : k = xs.length := by omega
     rcases hkey hkl with ⟨e1, e2⟩ | ⟨e1, e2, e3⟩
     · exact absurd e2 h_
     · have h5 : i + 2 < P.length := by
         rcases Nat.lt_or_ge (i + 2) P.length with h5 | h5
         · exact h5
         · exfalso
           have h6 : nx = out.getD 0 (ElK.b ElB.pt).dflt := by rw [hl0p.down, e2]; exact hlast (by omega)
           contradiction
       refine ⟨i + 1, by omega, ⟨by omega, .inr (by omega)⟩, ?_⟩
       (repeat' (first | with_reducible exact True.intro | with_reducible refine And.intro ?_ ?_ | with_reducible refine Head.mk ?_ ?_ ?_ ?_ | ((conv => lhs; whnf); first | with_reducible rfl | with_reducible exact vInt_s (by omega) | exact rfl) | ((conv => whnf); first | with_reducible exact True.intro | with_reducible refine And.intro ?_ ?_))) <;> (try (conv => lhs; whnf))
       exact congrArg (Own.row t_impl_Point (.b .pt)) ((congrArg (fun z => out ++ [z]) e2).trans (hnext e1))
def hullRoomM (xs : List Pt) : List Pt := if roomOk xs then hullM xs else []
theorem hr_no {xs : List Pt} (h : roomOk xs = false) : hullRoomM xs = [] := by unfold hullRoomM; rw [h]; rfl
theorem hr_yes {xs : List Pt} (h : roomOk xs = true) : hullRoomM xs = hullM xs := by unfold hullRoomM; rw [h]; rfl
def hullRoomC : Con := mkCon [.room] (fun x => x.1.length ≤ 1048576) fun x => rRoom (hullRoomM x.1)
theorem sHullRoom_ok : Good1 Try.prog n_spec_HullRoom hullRoomC := by
  refine good_ofG (tys := tyL) (env := [(n_spec_RoomOk, roomOkC), (n_spec_HullOf, hullC)]) (envw := []) (envd := []) [9] [] [] [] [] mixed tys ⟨sRoomOk_ok, sHullOf_ok, trivial⟩ trivial trivial Try.func17 rfl (by kernel_rfl) (by decide) (by kernel_rfl) ?_
  have hG_ := kpz [(0, [1, 2]), (1, [1, 2, 5]), (2, [2]), (3, [2])] [(0, [2]), (1, [2]), (2, [2]), (3, [2, 9])] [] []
  rintro ⟨(xs : List Pt), ⟨⟩⟩ (h1 : xs.length ≤ _)
  (repeat' (first | with_reducible exact True.intro | with_reducible refine st_seq ?_ | (with_reducible refine st_regionG hG_ ?_; intro K_ hK_) | (with_reducible refine st_region ?_; intro K_ hK_) | (with_reducible refine hK_ _ _ ?_; try clear hK_ K_) | ((with_reducible refine st_cond (b := ?b_) ?hb_ ?_ ?_); case hb_ => rfl) | with_reducible refine sq_n ?_ | with_reducible refine sq_r ?_ | with_reducible refine sq_e ?_ | with_reducible refine bq_n ?_ | with_reducible refine bq_r ?_ | with_reducible refine bq_q ?_ | with_reducible refine st_block ?_ | with_reducible refine st_exit ?_ | with_reducible refine st_ret ?_ | with_reducible refine st_skip ?_ | with_reducible refine gq_n ?_ | with_reducible refine gq_r ?_ | with_reducible refine gq_e ?_ | with_reducible refine lq_n ?_ | with_reducible refine lq_r ?_ | with_reducible refine lq_e ?_ | with_reducible refine bq_e (by decide) ?_ | ((conv => whnf); first | (with_reducible refine hK_ _ _ ?_; try clear hK_ K_) | (with_reducible refine fun (g_ : Sl) (o_ : Ow) => ?_) | with_reducible exact True.intro | with_reducible refine And.intro trivial ?_ | with_reducible refine And.intro ?_ ?_ | exact Nat.le_of_ble_eq_true rfl | exact Or.inl rfl | (intro h_; cases h_) | (intro h_; (try simp only [cond_true, cond_false, decide_eq_true_eq, decide_eq_false_iff_not, Bool.not_eq_true', Bool.not_eq_false', Int.toNat_natCast, prodEta] at h_)) | rfl))) <;> (try (conv => whnf)) <;> (try first | change (_ : Int) ≤ _ | change (_ : Nat) ≤ _) <;> (try ((fail_if_success (with_reducible apply Exists.intro)); (try dsimp only); (try simp only [cond_true, cond_false, decide_eq_true_eq, decide_eq_false_iff_not, Bool.not_eq_true', Bool.not_eq_false', Int.toNat_natCast, prodEta]))) <;> (try simp (disch := omega) only [ptEq2, cond_true, cond_false, decide_eq_true_eq, decide_eq_false_iff_not, List.length_drop, List.take_length, Int.toNat_zero, List.drop_zero, Nat.zero_add, List.nil_append, mod_nat1, mod_nat2, tm1, tm2, tmj, W_in, List.length_append, List.length_take, List.length_replicate, List.length_set, List.length_map, List.length_cons, List.length_nil, prodEta, Int.toNat_natCast, beq_iff_eq, beq_eq_false_iff_ne, bne_iff_ne, bne_eq_false_iff_eq, ne_eq, Int.natCast_inj, Int.ofNat_lt, Int.ofNat_le] at *)
  all_goals (try (fail_if_success (with_reducible apply Exists.intro)); first | with_reducible assumption | omega | exact mdl (by omega) | exact ilo1 (by omega) | exact ilo2 (by omega) | exact ihi1 (by omega) (by omega) | exact ihi2 (by omega) (by omega))
  · exact hr_no h_
  · exact congrArg some (hr_yes h_).symm
def pocM (xs : List Pt) : Int := if roomOk xs then IntKind.i64.wrap (IntKind.i64.wrap (dbl (hullM xs)) - IntKind.i64.wrap (dbl xs)) else 0
def pocC : Con := mkCon [.room] (fun x => x.1.length ≤ 1048576) fun x => vI (pocM x.1)
end Go.Proofs.Ytfjmlaciogmndaa
