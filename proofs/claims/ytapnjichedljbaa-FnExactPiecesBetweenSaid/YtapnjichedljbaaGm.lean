/- The mathematics of numbers of straight pieces: searching breadth first among points that see each other. -/
import Derived.Test.YtapnjichedljbaaGh
import Derived.Test.YtapnjichedljbaaGn
import Derived.Test.YtapnjichedljbaaGr
namespace Go.Proofs.Ytapnjichedljbaa
open Go.RowKit Go.Proofs.Ytapnjichedljbaa.Nm
set_option maxRecDepth 10000
set_option maxHeartbeats 4000000
set_option linter.unusedSimpArgs false
set_option linter.unusedVariables false
/-! ### Reached in so many steps -/
def Rch (S : Pt → Pt → Bool) (N : List Pt) (q : Pt) : Nat → Pt → Prop
  | 0, x => x = q
  | n + 1, x => ∃ y, Rch S N q n y ∧ (y = q ∨ y ∈ N) ∧ S y x = true
/-- Reached in v steps, and in no fewer; or -1 and never reached. -/
def IsD (S : Pt → Pt → Bool) (N : List Pt) (q x : Pt) (v : Int) : Prop :=
  (v = -1 ∧ ∀ n, ¬ Rch S N q n x) ∨ ∃ n : Nat, v = n ∧ Rch S N q n x ∧ ∀ m, m < n → ¬ Rch S N q m x
theorem IsD.inj {S : Pt → Pt → Bool} {N : List Pt} {q x : Pt} {v v' : Int} (h : IsD S N q x v) (h' : IsD S N q x v') : v = v' := by
  rcases h with ⟨rfl, h⟩ | ⟨n, rfl, h1, h2⟩ <;> rcases h' with ⟨rfl, h'⟩ | ⟨n', rfl, h1', h2'⟩
  · rfl
  · exact absurd h1' (h _)
  · exact absurd h1 (h' _)
  · rcases Nat.lt_trichotomy n n' with e | e | e
    · exact absurd h1 (h2' n e)
    · rw [e]
    · exact absurd h1' (h2 n' e)
theorem Rch.mono {S : Pt → Pt → Bool} {N N' : List Pt} {q : Pt} (h : ∀ y ∈ N, y ∈ N') : ∀ {n x}, Rch S N q n x → Rch S N' q n x
  | 0, x, h0 => h0
  | n + 1, x, ⟨y, h1, h2, h3⟩ => ⟨y, Rch.mono h h1, h2.imp id (h y), h3⟩
/-- The point itself as a further node shortens nothing. -/
theorem Rch.without {S : Pt → Pt → Bool} {N : List Pt} {q p : Pt} : ∀ {n x}, Rch S (N ++ [p]) q n x → Rch S N q n x ∨ ∃ m, m < n ∧ Rch S (N ++ [p]) q m p
  | 0, x, h0 => .inl h0
  | n + 1, x, ⟨y, h1, h2, h3⟩ => by
    by_cases e : y = p
    · subst e; exact .inr ⟨n, by omega, h1⟩
    · rcases Rch.without h1 with h4 | ⟨m, hm, h4⟩
      · refine .inl ⟨y, h4, h2.imp id fun h5 => ?_, h3⟩
        rcases List.mem_append.1 h5 with h5 | h5
        · exact h5
        · exact absurd (List.mem_singleton.1 h5) e
      · exact .inr ⟨m, by omega, h4⟩
theorem IsD.without {S : Pt → Pt → Bool} {N : List Pt} {q p : Pt} {v : Int} (h : IsD S (N ++ [p]) q p v) : IsD S N q p v := by
  have hm : ∀ {n x}, Rch S N q n x → Rch S (N ++ [p]) q n x := Rch.mono fun y hy => List.mem_append_left _ hy
  rcases h with ⟨rfl, h⟩ | ⟨n, rfl, h1, h2⟩
  · exact .inl ⟨rfl, fun n h3 => h n (hm h3)⟩
  · refine .inr ⟨n, rfl, ?_, fun m hmn h3 => h2 m hmn (hm h3)⟩
    rcases Rch.without h1 with h3 | ⟨m, hmn, h3⟩
    · exact h3
    · exact absurd h3 (h2 m hmn)
theorem IsD.same {S : Pt → Pt → Bool} {N : List Pt} {q p x : Pt} {v : Int} (hp : p ∈ N) (h : IsD S (N ++ [p]) q x v) : IsD S N q x v := by
  have hm : ∀ {n x}, Rch S N q n x ↔ Rch S (N ++ [p]) q n x := fun {n x} => ⟨Rch.mono fun y hy => List.mem_append_left _ hy, Rch.mono fun y hy => by
    rcases List.mem_append.1 hy with h | h
    · exact h
    · rw [List.mem_singleton.1 h]; exact hp⟩
  rcases h with ⟨rfl, h⟩ | ⟨n, rfl, h1, h2⟩
  · exact .inl ⟨rfl, fun n h3 => h n (hm.1 h3)⟩
  · exact .inr ⟨n, rfl, hm.2 h1, fun m hmn h3 => h2 m hmn (hm.1 h3)⟩
/-! ### The search -/
abbrev gD (d : List Int) (i : Nat) : Int := d.getD i 0
abbrev nd (N : List Pt) (i : Nat) : Pt := N.getD i (0, 0)
/-- All that sees y has been found, at most a step further. -/
def Prc (S : Pt → Pt → Bool) (N : List Pt) (d : List Int) (y : Pt) (k : Int) : Prop := ∀ j, j < N.length → S y (nd N j) = true → 0 ≤ gD d j ∧ gD d j ≤ k + 1
def fnd (d : List Int) : Nat := d.countP fun x => decide (0 ≤ x)
structure Bp (S : Pt → Pt → Bool) (N : List Pt) (q : Pt) (d : List Int) (Q : List (Pt × Int)) : Prop where
  len : d.length = N.length
  ge : ∀ i, i < N.length → -1 ≤ gD d i
  zero : ∀ i, i < N.length → nd N i = q → gD d i = 0
  zero' : ∀ i, i < N.length → gD d i = 0 → nd N i = q
  sound : ∀ i, i < N.length → 0 ≤ gD d i → Rch S N q (gD d i).toNat (nd N i)
  qs : ∀ e ∈ Q, 0 ≤ e.2 ∧ Rch S N q e.2.toNat e.1 ∧ (e.1 = q ∨ e.1 ∈ N)
  ord : Q.Pairwise fun a b => a.2 ≤ b.2
  near : ∀ e ∈ Q, ∀ e' ∈ Q, e'.2 ≤ e.2 + 1
  top : ∀ e ∈ Q, ∀ i, i < N.length → gD d i ≤ e.2 + 1
  pq : (q, 0) ∈ Q ∨ Prc S N d q 0
  pn : ∀ i, i < N.length → 0 < gD d i → (nd N i, gD d i) ∈ Q ∨ Prc S N d (nd N i) (gD d i)
  cn : ∀ i, i < N.length → gD d i ≤ fnd d
  cq : ∀ e ∈ Q, e.2 ≤ fnd d
theorem gD_set {d : List Int} {k v : Nat} {x : Int} (hk : k < d.length) : gD (d.set k x) v = if v = k then x else gD d v := by
  unfold gD
  by_cases h : v = k
  · subst h; rw [if_pos rfl, List.getD_eq_getElem?_getD, List.getElem?_set_self hk]; rfl
  · rw [if_neg h, List.getD_eq_getElem?_getD, List.getElem?_set_ne (fun e => h e.symm), ← List.getD_eq_getElem?_getD]
theorem fnd_set {u : Int} (hu : 0 ≤ u) : ∀ {d : List Int} {k : Nat}, k < d.length → gD d k < 0 → fnd (d.set k u) = fnd d + 1
  | [], k, hk, h0 => absurd hk (by simp)
  | x :: d, 0, hk, h0 => by
    have h0 : x < 0 := h0
    unfold fnd
    rw [List.set_cons_zero, List.countP_cons, List.countP_cons, if_pos (by simpa using hu), if_neg (by simpa using h0)]
  | x :: d, k + 1, hk, h0 => by
    have := fnd_set hu (d := d) (k := k) (by simpa using hk) h0
    unfold fnd at this ⊢
    rw [List.set_cons_succ, List.countP_cons, List.countP_cons]
    omega
theorem fnd_le (d : List Int) : fnd d ≤ d.length := List.countP_le_length
/-- One more found, from the head of those that wait. -/
theorem Bp.step {S : Pt → Pt → Bool} {N : List Pt} {q : Pt} {d : List Int} {y : Pt} {l : Int} {Q : List (Pt × Int)} (h : Bp S N q d ((y, l) :: Q)) {i : Nat} (hi : i < N.length) (hd : gD d i < 0) (hs : S y (nd N i) = true) :
    Bp S N q (d.set i (l + 1)) ((y, l) :: (Q ++ [(nd N i, l + 1)])) := by
  have hil : i < d.length := by rw [h.len]; exact hi
  obtain ⟨l0, l1, l2⟩ := h.qs (y, l) List.mem_cons_self
  have l0 : 0 ≤ l := l0
  have hiq : nd N i ≠ q := fun e => by rw [h.zero i hi e] at hd; omega
  have hf : fnd (d.set i (l + 1)) = fnd d + 1 := fnd_set (by omega) hil hd
  have hg : ∀ j, gD (d.set i (l + 1)) j = if j = i then l + 1 else gD d j := fun j => gD_set hil
  have hr : Rch S N q (l + 1).toNat (nd N i) := by
    rw [show (l + 1).toNat = l.toNat + 1 by omega]
    exact ⟨y, l1, l2, hs⟩
  have hprc : ∀ z k, Prc S N d z k → Prc S N (d.set i (l + 1)) z k := fun z k hp j hj hz => by
    have := hp j hj hz
    rw [hg]
    split
    · rename_i e; subst e; omega
    · exact this
  have hmem : ∀ e, e ∈ (y, l) :: (Q ++ [(nd N i, l + 1)]) ↔ e ∈ (y, l) :: Q ∨ e = (nd N i, l + 1) := fun e => by
    simp only [List.mem_cons, List.mem_append, List.not_mem_nil, or_false]
    exact or_assoc.symm
  have hll : l ≤ fnd d := h.cq _ List.mem_cons_self
  refine ⟨by rw [List.length_set, h.len], fun j hj => ?_, fun j hj e => ?_, fun j hj e => ?_, fun j hj e => ?_, fun e he => ?_, ?_, fun e he e' he' => ?_, fun e he j hj => ?_, ?_, fun j hj e => ?_, fun j hj => ?_, fun e he => ?_⟩
  · rw [hg]; split
    · omega
    · exact h.ge j hj
  · rw [hg]; split
    · rename_i e'; subst e'; exact absurd e hiq
    · exact h.zero j hj e
  · rw [hg] at e; split at e
    · omega
    · exact h.zero' j hj e
  · rw [hg] at e ⊢; split at e
    · rename_i e'; subst e'; rw [if_pos rfl]; exact hr
    · rename_i e'; rw [if_neg e']; exact h.sound j hj e
  · rcases (hmem e).1 he with he | rfl
    · exact h.qs e he
    · refine ⟨by show 0 ≤ l + 1; omega, hr, .inr ?_⟩
      show nd N i ∈ N
      rw [show nd N i = N[i] from getD_lt _ hi]
      exact List.getElem_mem _
  · show ((y, l) :: Q ++ [(nd N i, l + 1)]).Pairwise _
    refine List.pairwise_append.2 ⟨h.ord, by simp, fun a ha b hb => ?_⟩
    rw [List.mem_singleton.1 hb]
    exact h.near (y, l) List.mem_cons_self a ha
  · rcases (hmem e).1 he with he | rfl <;> rcases (hmem e').1 he' with he' | rfl
    · exact h.near e he e' he'
    · have : l ≤ e.2 := by
        rcases List.mem_cons.1 he with rfl | he
        · exact Int.le_refl _
        · exact (List.pairwise_cons.1 h.ord).1 e he
      show l + 1 ≤ e.2 + 1; omega
    · have := h.near (y, l) List.mem_cons_self e' he'
      show e'.2 ≤ l + 1 + 1
      have : e'.2 ≤ l + 1 := this
      omega
    · show l + 1 ≤ l + 1 + 1; omega
  · have hle : l ≤ e.2 := by
      rcases (hmem e).1 he with he | rfl
      · rcases List.mem_cons.1 he with rfl | he
        · exact Int.le_refl _
        · exact (List.pairwise_cons.1 h.ord).1 e he
      · show l ≤ l + 1; omega
    rw [hg]; split
    · omega
    · have : gD d j ≤ l + 1 := h.top (y, l) List.mem_cons_self j hj
      omega
  · rcases h.pq with hp | hp
    · exact .inl ((hmem _).2 (.inl hp))
    · exact .inr (hprc _ _ hp)
  · by_cases hji : j = i
    · subst hji
      rw [hg, if_pos rfl]
      exact .inl ((hmem _).2 (.inr rfl))
    · rw [hg, if_neg hji] at e ⊢
      rcases h.pn j hj e with hp | hp
      · exact .inl ((hmem _).2 (.inl hp))
      · exact .inr (hprc _ _ hp)
  · rw [hg, hf]; split
    · omega
    · have := h.cn j hj; omega
  · rw [hf]
    rcases (hmem e).1 he with he | rfl
    · have := h.cq e he; omega
    · show l + 1 ≤ _; omega
/-- The head has been dealt with. -/
theorem Bp.pop {S : Pt → Pt → Bool} {N : List Pt} {q : Pt} {d : List Int} {y : Pt} {l : Int} {Q : List (Pt × Int)} (h : Bp S N q d ((y, l) :: Q)) (hall : ∀ j, j < N.length → S y (nd N j) = true → 0 ≤ gD d j) : Bp S N q d Q := by
  have hP : Prc S N d y l := fun j hj hs => ⟨hall j hj hs, h.top (y, l) List.mem_cons_self j hj⟩
  refine ⟨h.len, h.ge, h.zero, h.zero', h.sound, fun e he => h.qs e (List.mem_cons_of_mem _ he), (List.pairwise_cons.1 h.ord).2, fun e he e' he' => h.near e (List.mem_cons_of_mem _ he) e' (List.mem_cons_of_mem _ he'), fun e he => h.top e (List.mem_cons_of_mem _ he), ?_, fun j hj e => ?_, h.cn, fun e he => h.cq e (List.mem_cons_of_mem _ he)⟩
  · rcases h.pq with hp | hp
    · rcases List.mem_cons.1 hp with e | e
      · injection e with e1 e2; subst e1; subst e2; exact .inr hP
      · exact .inl e
    · exact .inr hp
  · rcases h.pn j hj e with hp | hp
    · rcases List.mem_cons.1 hp with e | e
      · injection e with e1 e2; rw [e1, e2]; exact .inr hP
      · exact .inl e
    · exact .inr hp
/-- Nobody waits any more: the numbers are right. -/
theorem Bp.done {S : Pt → Pt → Bool} {N : List Pt} {q : Pt} {d : List Int} (h : Bp S N q d []) {i : Nat} (hi : i < N.length) : IsD S N q (nd N i) (gD d i) := by
  have hq : Prc S N d q 0 := h.pq.resolve_left (by simp)
  have hn : ∀ j, j < N.length → 0 < gD d j → Prc S N d (nd N j) (gD d j) := fun j hj e => (h.pn j hj e).resolve_left (by simp)
  have key : ∀ m j, j < N.length → Rch S N q m (nd N j) → 0 ≤ gD d j ∧ gD d j ≤ m := by
    intro m
    induction m with
    | zero => intro j hj hr; rw [h.zero j hj hr]; omega
    | succ m ih =>
      rintro j hj ⟨y, h1, h2, h3⟩
      have fromq : S q (nd N j) = true → 0 ≤ gD d j ∧ gD d j ≤ (m + 1 : Nat) := fun hs => by
        have := hq j hj hs; omega
      rcases h2 with rfl | h2
      · exact fromq h3
      · obtain ⟨t, ht, rfl⟩ := List.getElem_of_mem h2
        have e : nd N t = N[t] := getD_lt _ ht
        rw [← e] at h1 h3
        have h4 := ih t ht h1
        rcases Int.lt_or_eq_of_le h4.1 with h5 | h5
        · have := hn t ht h5 j hj h3; omega
        · rw [h.zero' t ht h5.symm] at h3
          exact fromq h3
  have hge := h.ge i hi
  rcases Int.lt_or_le (gD d i) 0 with h0 | h0
  · exact .inl ⟨by omega, fun n hr => by have := (key n i hi hr).1; omega⟩
  · exact .inr ⟨(gD d i).toNat, by omega, h.sound i hi h0, fun m hm hr => by have := (key m i hi hr).2; omega⟩
/-! ### The beginning, and that there is an end -/
def f0 (q x : Pt) : Int := if x = q then 0 else -1
theorem bp_start {S : Pt → Pt → Bool} {N : List Pt} {q : Pt} {Z : List (Pt × Int)} (hZ : ∀ e ∈ Z, e = (q, 0)) : Bp S N q (N.map (f0 q)) ((q, 0) :: Z) := by
  have hg : ∀ i, i < N.length → gD (N.map (f0 q)) i = f0 q (nd N i) := fun i hi => by
    unfold gD nd
    rw [getD_lt _ (by simpa using hi), getD_lt _ hi, List.getElem_map]
  have hv : ∀ x, f0 q x = 0 ∨ f0 q x = -1 := fun x => by unfold f0; split <;> simp
  have hy : ∀ x, f0 q x = 0 ↔ x = q := fun x => by unfold f0; split <;> simp_all
  have hQ : ∀ e ∈ (q, (0 : Int)) :: Z, e = (q, 0) := fun e he => (List.mem_cons.1 he).elim id (hZ e)
  refine ⟨by simp, fun i hi => ?_, fun i hi e => ?_, fun i hi e => ?_, fun i hi e => ?_, fun e he => ?_, ?_, fun e he e' he' => ?_, fun e he i hi => ?_, .inl List.mem_cons_self, fun i hi e => ?_, fun i hi => ?_, fun e he => ?_⟩
  · rw [hg i hi]; rcases hv (nd N i) with h | h <;> omega
  · rw [hg i hi]; exact (hy _).2 e
  · rw [hg i hi] at e; exact (hy _).1 e
  · rw [hg i hi] at e ⊢
    rcases hv (nd N i) with h | h
    · rw [h]; exact (hy _).1 h
    · omega
  · rw [hQ e he]; exact ⟨Int.le_refl _, rfl, .inl rfl⟩
  · refine List.pairwise_of_forall_mem_list fun a ha b hb => ?_
    rw [hQ a ha, hQ b hb]; exact Int.le_refl _
  · rw [hQ e he, hQ e' he']; show (0 : Int) ≤ 0 + 1; omega
  · rw [hQ e he, hg i hi]; show f0 q _ ≤ 0 + 1; rcases hv (nd N i) with h | h <;> omega
  · rw [hg i hi] at e; rcases hv (nd N i) with h | h <;> omega
  · rw [hg i hi]; rcases hv (nd N i) with h | h <;> omega
  · rw [hQ e he]; show (0 : Int) ≤ _; omega
theorem Bp.run {S : Pt → Pt → Bool} {N : List Pt} {q : Pt} : ∀ (n : Nat) (d : List Int) (Q : List (Pt × Int)), Bp S N q d Q → (N.length - fnd d) * 2 + Q.length ≤ n → ∃ d', Bp S N q d' []
  | n, d, [], h, _ => ⟨d, h⟩
  | 0, d, _ :: _, h, hn => absurd hn (by simp)
  | n + 1, d, (y, l) :: Q, h, hn => by
    by_cases hc : ∃ i, i < N.length ∧ gD d i < 0 ∧ S y (nd N i) = true
    · obtain ⟨i, hi, hd, hs⟩ := hc
      obtain ⟨l0, -, -⟩ := h.qs (y, l) List.mem_cons_self
      have l0 : 0 ≤ l := l0
      have hf : fnd (d.set i (l + 1)) = fnd d + 1 := fnd_set (by omega) (by rw [h.len]; exact hi) hd
      have hle := fnd_le (d.set i (l + 1))
      rw [List.length_set, h.len] at hle
      refine Bp.run n _ _ (h.step hi hd hs) ?_
      simp only [List.length_cons, List.length_append, List.length_nil] at hn ⊢
      omega
    · refine Bp.run n d Q (h.pop fun j hj hs => ?_) (by simp only [List.length_cons] at hn; omega)
      rcases Int.lt_or_le (gD d j) 0 with e | e
      · exact absurd ⟨j, hj, e, hs⟩ hc
      · exact e
def lev (S : Pt → Pt → Bool) (N : List Pt) (q : Pt) : Nat → Pt → Bool
  | 0, x => decide (x = q)
  | n + 1, x => (q :: N).any fun y => lev S N q n y && S y x
theorem lev_iff {S : Pt → Pt → Bool} {N : List Pt} {q : Pt} : ∀ {n x}, lev S N q n x = true ↔ Rch S N q n x
  | 0, x => by unfold lev Rch; exact decide_eq_true_iff
  | n + 1, x => by
    unfold lev Rch
    rw [List.any_eq_true]
    constructor
    · rintro ⟨y, h1, h2⟩
      rw [Bool.and_eq_true] at h2
      exact ⟨y, lev_iff.1 h2.1, List.mem_cons.1 h1, h2.2⟩
    · rintro ⟨y, h1, h2, h3⟩
      exact ⟨y, List.mem_cons.2 h2, by rw [Bool.and_eq_true]; exact ⟨lev_iff.2 h1, h3⟩⟩
/-- The number of pieces from x to q. -/
def dstM (S : Pt → Pt → Bool) (N : List Pt) (q x : Pt) : Int := match (List.range (N.length + 2)).find? (fun n => lev S N q n x) with
  | some n => n
  | none => -1
theorem dst_of {S : Pt → Pt → Bool} {N : List Pt} {q x : Pt} {v : Int} (h : IsD S N q x v) (hv : v ≤ N.length + 1) : dstM S N q x = v := by
  unfold dstM
  rcases h with ⟨rfl, h⟩ | ⟨n, rfl, h1, h2⟩
  · rw [List.find?_eq_none.2 fun n _ hn => h n (lev_iff.1 hn)]
  · rw [List.find?_range_eq_some.2 ⟨lev_iff.2 h1, List.mem_range.2 (by omega), fun m hm => by
      rw [Bool.not_eq_true', ← Bool.not_eq_true]
      exact fun e => h2 m hm (lev_iff.1 e)⟩]
theorem dst_node {S : Pt → Pt → Bool} {N : List Pt} {q x : Pt} (hx : x ∈ N) : IsD S N q x (dstM S N q x) ∧ dstM S N q x ≤ N.length := by
  obtain ⟨d, hd⟩ := Bp.run _ _ _ (bp_start (S := S) (N := N) (q := q) (Z := []) (fun e he => by cases he)) (Nat.le_refl _)
  obtain ⟨i, hi, rfl⟩ := List.getElem_of_mem hx
  have h1 := hd.done hi
  have h2 := hd.cn i hi
  have h3 := fnd_le d
  rw [hd.len] at h3
  rw [show nd N i = N[i] from getD_lt _ hi] at h1
  rw [dst_of h1 (by omega)]
  exact ⟨h1, by omega⟩
theorem dst_is (S : Pt → Pt → Bool) (N : List Pt) (q p : Pt) : IsD S N q p (dstM S N q p) := by
  obtain ⟨h1, h2⟩ := dst_node (S := S) (N := N ++ [p]) (q := q) (x := p) (by simp)
  have h3 := h1.without
  rw [List.length_append, List.length_singleton] at h2
  rw [dst_of h3 (by omega)]
  exact h3
theorem dst_bd (S : Pt → Pt → Bool) (N : List Pt) (q p : Pt) : -1 ≤ dstM S N q p ∧ dstM S N q p ≤ N.length + 1 := by
  unfold dstM
  split
  · rename_i n h
    rw [List.find?_range_eq_some] at h
    have := List.mem_range.1 h.2.1
    omega
  · omega
theorem dst_without (S : Pt → Pt → Bool) (N : List Pt) (q p : Pt) : dstM S (N ++ [p]) q p = dstM S N q p := (dst_is S (N ++ [p]) q p).without.inj (dst_is S N q p)
theorem dst_same {S : Pt → Pt → Bool} {N : List Pt} {q p : Pt} (hp : p ∈ N) (x : Pt) : dstM S (N ++ [p]) q x = dstM S N q x := ((dst_is S (N ++ [p]) q x).same hp).inj (dst_is S N q x)
/-- What the search ends with. -/
theorem Bp.all {S : Pt → Pt → Bool} {N : List Pt} {q : Pt} {d : List Int} (h : Bp S N q d []) : d = N.map (dstM S N q) := by
  refine List.ext_getElem (by simp [h.len]) fun i h1 h2 => ?_
  have hi : i < N.length := by rw [← h.len]; exact h1
  have := (h.done hi).inj (dst_is S N q (nd N i))
  rw [List.getElem_map, ← getD_lt (0 : Int) h1, ← show nd N i = N[i] from getD_lt _ hi]
  exact this
/-- Both ways round the same, among the nodes. -/
theorem rch_front {S : Pt → Pt → Bool} {N : List Pt} {q x y : Pt} (hx : x ∈ N) (hs : S q x = true) : ∀ {n}, Rch S N x n y → Rch S N q (n + 1) y
  | 0, h => by
    have h : y = x := h
    subst h
    exact ⟨q, rfl, .inl rfl, hs⟩
  | n + 1, ⟨z, h1, h2, h3⟩ => ⟨z, rch_front hx hs h1, .inr (h2.elim (fun e => by rw [e]; exact hx) id), h3⟩
theorem rch_swap {S : Pt → Pt → Bool} {N : List Pt} {q : Pt} (hq : q ∈ N) (hS : ∀ a ∈ N, ∀ b ∈ N, S a b = S b a) : ∀ {n x}, x ∈ N → Rch S N q n x → Rch S N x n q
  | 0, x, hx, h => h.symm
  | n + 1, x, hx, ⟨y, h1, h2, h3⟩ => by
    have hy : y ∈ N := h2.elim (fun e => by rw [e]; exact hq) id
    exact rch_front hy (by rw [hS x hx y hy]; exact h3) (rch_swap hq hS hy h1)
theorem dst_comm {S : Pt → Pt → Bool} {N : List Pt} {p q : Pt} (hp : p ∈ N) (hq : q ∈ N) (hS : ∀ a ∈ N, ∀ b ∈ N, S a b = S b a) : dstM S N q p = dstM S N p q := by
  refine (dst_is S N q p).inj ?_
  rcases dst_is S N p q with ⟨e, h⟩ | ⟨n, e, h1, h2⟩
  · exact .inl ⟨e, fun n hr => h n (rch_swap hq hS hp hr)⟩
  · exact .inr ⟨n, e, rch_swap hp hS hq h1, fun m hm hr => h2 m hm (rch_swap hq hS hp hr)⟩
theorem dst_self (S : Pt → Pt → Bool) (N : List Pt) (q : Pt) : dstM S N q q = 0 := dst_of (.inr ⟨0, rfl, rfl, fun m hm => absurd hm (by omega)⟩) (by omega)
theorem dst_one {S : Pt → Pt → Bool} {N : List Pt} {q p : Pt} (hne : p ≠ q) (hs : S q p = true) : dstM S N q p = 1 :=
  dst_of (.inr ⟨1, rfl, ⟨q, rfl, .inl rfl, hs⟩, fun m hm hr => by
    obtain rfl : m = 0 := by omega
    exact hne hr⟩) (by omega)
/-- The best of the corners so far. -/
def bestTo (S : Pt → Pt → Bool) (N : List Pt) (q p : Pt) : Nat → Int
  | 0 => -1
  | k + 1 => if (0 ≤ dstM S N q (nd N k) ∧ S (nd N k) p = true) ∧ (bestTo S N q p k < 0 ∨ dstM S N q (nd N k) + 1 < bestTo S N q p k) then dstM S N q (nd N k) + 1 else bestTo S N q p k
theorem best_spec (S : Pt → Pt → Bool) (N : List Pt) (q p : Pt) : ∀ k, k ≤ N.length → (bestTo S N q p k = -1 ∨ ∃ j, j < k ∧ 0 ≤ dstM S N q (nd N j) ∧ S (nd N j) p = true ∧ bestTo S N q p k = dstM S N q (nd N j) + 1) ∧
    ∀ j, j < k → 0 ≤ dstM S N q (nd N j) → S (nd N j) p = true → 0 ≤ bestTo S N q p k ∧ bestTo S N q p k ≤ dstM S N q (nd N j) + 1
  | 0, _ => ⟨.inl rfl, fun j hj => absurd hj (by omega)⟩
  | k + 1, hk => by
    obtain ⟨h1, h2⟩ := best_spec S N q p k (by omega)
    rw [bestTo]
    split
    · rename_i hc
      refine ⟨.inr ⟨k, by omega, hc.1.1, hc.1.2, rfl⟩, fun j hj h3 h4 => ?_⟩
      rcases Nat.lt_or_ge j k with h5 | h5
      · have := h2 j h5 h3 h4
        have := hc.2
        have := hc.1.1
        omega
      · obtain rfl : j = k := by omega
        have := hc.1.1
        omega
    · rename_i hc
      refine ⟨h1.imp id fun ⟨j, h3, h4⟩ => ⟨j, by omega, h4⟩, fun j hj h3 h4 => ?_⟩
      rcases Nat.lt_or_ge j k with h5 | h5
      · exact h2 j h5 h3 h4
      · obtain rfl : j = k := by omega
        rcases Int.lt_or_le (bestTo S N q p j) 0 with h6 | h6
        · exact absurd ⟨⟨h3, h4⟩, .inl h6⟩ hc
        · refine ⟨h6, Int.not_lt.1 fun h7 => hc ⟨⟨h3, h4⟩, .inr h7⟩⟩
theorem best_all {S : Pt → Pt → Bool} {N : List Pt} {q p : Pt} (hne : p ≠ q) (hs : S q p = false) : bestTo S N q p N.length = dstM S N q p := by
  obtain ⟨h1, h2⟩ := best_spec S N q p N.length (Nat.le_refl _)
  refine IsD.inj (S := S) (N := N) (q := q) (x := p) ?_ (dst_is S N q p)
  have key : ∀ n, Rch S N q n p → ∃ j m, j < N.length ∧ n = m + 1 ∧ Rch S N q m (nd N j) ∧ S (nd N j) p = true := fun n hr => by
    match n, hr with
    | 0, hr => exact absurd hr hne
    | m + 1, ⟨y, h3, h4, h5⟩ =>
      rcases h4 with rfl | h4
      · rw [hs] at h5; cases h5
      · obtain ⟨j, hj, rfl⟩ := List.getElem_of_mem h4
        have e : nd N j = N[j] := getD_lt _ hj
        exact ⟨j, m, hj, rfl, by rw [e]; exact h3, by rw [e]; exact h5⟩
  have low : ∀ j m, j < N.length → Rch S N q m (nd N j) → S (nd N j) p = true → 0 ≤ bestTo S N q p N.length ∧ bestTo S N q p N.length ≤ (m : Int) + 1 := fun j m hj hr h5 => by
    rcases dst_is S N q (nd N j) with ⟨e, h⟩ | ⟨n, e, h3, h4⟩
    · exact absurd hr (h m)
    · have := h2 j hj (by omega) h5
      have : n ≤ m := by
        rcases Nat.lt_or_ge m n with h6 | h6
        · exact absurd hr (h4 m h6)
        · exact h6
      omega
  rcases h1 with e | ⟨j, hj, h3, h4, e⟩
  · refine .inl ⟨e, fun n hr => ?_⟩
    obtain ⟨j, m, hj, -, h5, h6⟩ := key n hr
    have := low j m hj h5 h6
    omega
  · rcases dst_is S N q (nd N j) with ⟨e', h⟩ | ⟨n, e', h5, h6⟩
    · omega
    · refine .inr ⟨n + 1, by omega, ⟨nd N j, h5, .inr ?_, h4⟩, fun m hm hr => ?_⟩
      · rw [show nd N j = N[j] from getD_lt _ hj]; exact List.getElem_mem _
      · obtain ⟨j', m', hj', rfl, h7, h8⟩ := key m hr
        have := low j' m' hj' h7 h8
        omega
end Go.Proofs.Ytapnjichedljbaa
