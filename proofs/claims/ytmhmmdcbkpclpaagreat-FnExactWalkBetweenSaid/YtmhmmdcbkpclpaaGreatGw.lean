/- Ways between triangles: the mathematics of searching a tree breadth first (each point but the last has one later neighbour, the triangles of a room are such a tree), the contracts, the laws TreeWay and WalkBetween. -/
import Derived.Test.YtmhmmdcbkpclpaaGreatGs
import Derived.Test.YtmhmmdcbkpclpaaGreatLk
namespace Go.Proofs.YtmhmmdcbkpclpaaGreat
open Go.RowKit Go.Proofs.YtmhmmdcbkpclpaaGreat.Nm
set_option maxRecDepth 10000
set_option maxHeartbeats 4000000
set_option linter.unusedSimpArgs false
set_option linter.unusedVariables false
/-! ### Ways -/
def IsPar (m : Nat) (par : Nat → Nat) : Prop := ∀ i, i + 1 < m → i < par i ∧ par i < m
def pthF (par : Nat → Nat) : Nat → Nat → Nat → List Nat
  | 0, v, a => [a]
  | f + 1, v, a => if v = a then [a] else if v < a then v :: pthF par f (par v) a else pthF par f v (par a) ++ [a]
theorem pthF_succ {m : Nat} {par : Nat → Nat} (h : IsPar m par) : ∀ (f v a : Nat), v < m → a < m → (m - v) + (m - a) ≤ f → pthF par f v a = pthF par (f + 1) v a
  | 0, v, a, hv, ha, hf => absurd hf (by omega)
  | f + 1, v, a, hv, ha, hf => by
    rw [pthF, pthF]
    split
    · rfl
    · split
      · have := h v (by omega)
        rw [pthF_succ h f (par v) a this.2 ha (by omega)]
      · have := h a (by omega)
        rw [pthF_succ h f v (par a) hv this.2 (by omega)]
def pth (m : Nat) (par : Nat → Nat) (v a : Nat) : List Nat := pthF par (2 * m) v a
theorem pth_self {m : Nat} {par : Nat → Nat} {v : Nat} (hv : v < m) : pth m par v v = [v] := by
  unfold pth
  rw [show 2 * m = (2 * m - 1) + 1 by omega, pthF, if_pos rfl]
theorem pth_lt {m : Nat} {par : Nat → Nat} (h : IsPar m par) {v a : Nat} (hva : v < a) (ha : a < m) : pth m par v a = v :: pth m par (par v) a := by
  unfold pth
  rw [pthF_succ h (2 * m) v a (by omega) ha (by omega), pthF, if_neg (by omega), if_pos hva]
theorem pth_gt {m : Nat} {par : Nat → Nat} (h : IsPar m par) {v a : Nat} (hva : a < v) (hv : v < m) : pth m par v a = pth m par v (par a) ++ [a] := by
  unfold pth
  rw [pthF_succ h (2 * m) v a hv (by omega) (by omega), pthF, if_neg (by omega), if_neg (by omega)]
theorem pth_ind {m : Nat} {par : Nat → Nat} (h : IsPar m par) {Q : Nat → Nat → Prop} (h0 : ∀ v, v < m → Q v v) (h1 : ∀ v a, v < a → a < m → Q (par v) a → Q v a) (h2 : ∀ v a, a < v → v < m → Q v (par a) → Q v a) : ∀ v a, v < m → a < m → Q v a := by
  have : ∀ n v a, v < m → a < m → (m - v) + (m - a) ≤ n → Q v a := by
    intro n
    induction n with
    | zero => intro v a hv ha hn; omega
    | succ n ih =>
      intro v a hv ha hn
      rcases Nat.lt_trichotomy v a with e | e | e
      · have := h v (by omega)
        exact h1 v a e ha (ih _ _ this.2 ha (by omega))
      · subst e; exact h0 v hv
      · have := h a (by omega)
        exact h2 v a e hv (ih _ _ hv this.2 (by omega))
  exact fun v a hv ha => this _ v a hv ha (Nat.le_refl _)
theorem pth_rev {m : Nat} {par : Nat → Nat} (h : IsPar m par) : ∀ v a, v < m → a < m → (pth m par v a).reverse = pth m par a v := by
  refine pth_ind h (fun v hv => by rw [pth_self hv]; rfl) (fun v a hva ha ih => ?_) (fun v a hva hv ih => ?_)
  · rw [pth_lt h hva ha, pth_gt h hva ha, List.reverse_cons, ih]
  · rw [pth_gt h hva hv, pth_lt h hva hv, List.reverse_append, ih]; rfl
theorem pth_hd {m : Nat} {par : Nat → Nat} (h : IsPar m par) : ∀ v a, v < m → a < m → ∃ r, pth m par v a = v :: r := by
  refine pth_ind h (fun v hv => ⟨[], pth_self hv⟩) (fun v a hva ha ih => ⟨_, pth_lt h hva ha⟩) (fun v a hva hv ⟨r, ih⟩ => ⟨r ++ [a], by rw [pth_gt h hva hv, ih]; rfl⟩)
theorem pth_ge {m : Nat} {par : Nat → Nat} (h : IsPar m par) : ∀ v a, v < m → a < m → ∀ x ∈ pth m par v a, min v a ≤ x ∧ x < m := by
  refine pth_ind h (fun v hv x hx => ?_) (fun v a hva ha ih x hx => ?_) (fun v a hva hv ih x hx => ?_)
  · rw [pth_self hv, List.mem_singleton] at hx; omega
  · have := h v (by omega)
    rw [pth_lt h hva ha] at hx
    rcases List.mem_cons.1 hx with rfl | hx
    · omega
    · have := ih x hx; omega
  · have := h a (by omega)
    rw [pth_gt h hva hv] at hx
    rcases List.mem_append.1 hx with hx | hx
    · have := ih x hx; omega
    · rw [List.mem_singleton] at hx; omega
theorem pth_len {m : Nat} {par : Nat → Nat} (h : IsPar m par) {v a : Nat} (hv : v < m) (ha : a < m) : 0 < (pth m par v a).length := by
  obtain ⟨r, e⟩ := pth_hd h v a hv ha
  rw [e]; simp
/-- Beside each other: the one is the other's parent. -/
def TAdj (m : Nat) (par : Nat → Nat) (u k : Nat) : Prop := (u + 1 < m ∧ k = par u) ∨ (k + 1 < m ∧ u = par k)
theorem pth_tail {m : Nat} {par : Nat → Nat} (h : IsPar m par) : ∀ v a, v < m → a < m → v ≠ a → ∃ y r, y < m ∧ pth m par v a = v :: y :: r ∧ pth m par y a = y :: r ∧ TAdj m par v y := by
  refine pth_ind h (fun v hv hne => absurd rfl hne) (fun v a hva ha ih hne => ?_) (fun v a hva hv ih hne => ?_)
  · have hp := h v (by omega)
    obtain ⟨r, e⟩ := pth_hd h (par v) a hp.2 ha
    exact ⟨par v, r, hp.2, by rw [pth_lt h hva ha, e], e, .inl ⟨by omega, rfl⟩⟩
  · have hp := h a (by omega)
    by_cases e : v = par a
    · refine ⟨a, [], by omega, by rw [pth_gt h hva hv, ← e, pth_self hv]; rfl, pth_self (by omega), .inr ⟨by omega, e⟩⟩
    · obtain ⟨y, r, y1, y2, y3, y4⟩ := ih e
      have hy : y ∈ pth m par v (par a) := by rw [y2]; simp
      have hge := (pth_ge h v (par a) hv hp.2 y hy).1
      refine ⟨y, r ++ [a], y1, by rw [pth_gt h hva hv, y2]; rfl, by rw [pth_gt h (by omega) y1, y3]; rfl, y4⟩
theorem pth_edge {m : Nat} {par : Nat → Nat} (h : IsPar m par) {u : Nat} (hu : u + 1 < m) : ∀ n a, a < m → m - a ≤ n → pth m par u a = u :: pth m par (par u) a ∨ pth m par (par u) a = par u :: pth m par u a
  | 0, a, ha, hn => absurd hn (by omega)
  | n + 1, a, ha, hn => by
    have hp := h u hu
    rcases Nat.lt_trichotomy u a with e | e | e
    · exact .inl (pth_lt h e ha)
    · subst e
      exact .inr (by rw [pth_gt h hp.1 hp.2, pth_self hp.2, pth_self ha]; rfl)
    · have ha' := h a (by omega)
      rcases pth_edge h hu n (par a) ha'.2 (by omega) with i | i
      · exact .inl (by rw [pth_gt h e (by omega), pth_gt h (show a < par u by omega) hp.2, i]; rfl)
      · exact .inr (by rw [pth_gt h e (by omega), pth_gt h (show a < par u by omega) hp.2, i]; rfl)
theorem TAdj.lt {m : Nat} {par : Nat → Nat} (h : IsPar m par) {u k : Nat} (e : TAdj m par u k) : u < m ∧ k < m := by
  rcases e with ⟨e1, e2⟩ | ⟨e1, e2⟩
  · have := h u e1; omega
  · have := h k e1; omega
theorem TAdj.symm {m : Nat} {par : Nat → Nat} {u k : Nat} (e : TAdj m par u k) : TAdj m par k u := e.elim .inr .inl
theorem TAdj.way {m : Nat} {par : Nat → Nat} (h : IsPar m par) {u k a : Nat} (ha : a < m) (e : TAdj m par u k) : pth m par u a = u :: pth m par k a ∨ pth m par k a = k :: pth m par u a := by
  rcases e with ⟨e1, rfl⟩ | ⟨e1, rfl⟩
  · exact pth_edge h e1 _ a ha (Nat.le_refl _)
  · exact (pth_edge h e1 _ a ha (Nat.le_refl _)).symm
/-! ### Searching breadth first -/
abbrev gV (fr : List Int) (v : Nat) : Int := fr.getD v 0
/-- Who has been found from a, and from where; each but the waiting ones and the one at hand has only found neighbors. -/
structure Bfs (m : Nat) (par : Nat → Nat) (a : Nat) (fr : List Int) (W : Nat → Prop) : Prop where
  len : fr.length = m
  root : gV fr a = a
  up : ∀ v, v < m → v ≠ a → 0 ≤ gV fr v → ∃ w, w < m ∧ gV fr v = (w : Int) ∧ 0 ≤ gV fr w ∧ pth m par v a = v :: pth m par w a
  cl : ∀ v, v < m → 0 ≤ gV fr v → W v ∨ ∀ k, TAdj m par v k → 0 ≤ gV fr k
theorem Bfs.imp {m : Nat} {par : Nat → Nat} {a : Nat} {fr : List Int} {W W' : Nat → Prop} (h : Bfs m par a fr W) (hW : ∀ v, v < m → W v → W' v ∨ ∀ k, TAdj m par v k → 0 ≤ gV fr k) : Bfs m par a fr W' :=
  ⟨h.len, h.root, h.up, fun v hv h0 => (h.cl v hv h0).elim (fun w => hW v hv w) .inr⟩
theorem gV_set {fr : List Int} {k v : Nat} {x : Int} (hk : k < fr.length) : gV (fr.set k x) v = if v = k then x else gV fr v := by
  unfold gV
  by_cases h : v = k
  · subst h; rw [if_pos rfl, List.getD_eq_getElem?_getD, List.getElem?_set_self hk]; rfl
  · rw [if_neg h, List.getD_eq_getElem?_getD, List.getElem?_set_ne (fun e => h e.symm), ← List.getD_eq_getElem?_getD]
theorem bfs_start {m : Nat} {par : Nat → Nat} {a : Nat} (ha : a < m) {W : Nat → Prop} (hW : W a) : Bfs m par a ((List.replicate m (-1 : Int)).set a a) W := by
  have hg : ∀ v, v < m → gV ((List.replicate m (-1 : Int)).set a a) v = if v = a then (a : Int) else -1 := fun v hv => by
    rw [gV_set (by simpa using ha)]
    congr 1
    unfold gV
    rw [getD_lt _ (by simpa using hv), List.getElem_replicate]
  refine ⟨by simp, by rw [hg a ha, if_pos rfl], fun v hv hne h0 => ?_, fun v hv h0 => ?_⟩
  · rw [hg v hv, if_neg hne] at h0; omega
  · by_cases e : v = a
    · subst e; exact .inl hW
    · rw [hg v hv, if_neg e] at h0; omega
theorem Bfs.step {m : Nat} {par : Nat → Nat} {a : Nat} {fr : List Int} {W W' : Nat → Prop} (h : Bfs m par a fr W) (hp : IsPar m par) (ha : a < m) {u k : Nat} (hu : 0 ≤ gV fr u) (e : TAdj m par u k) (hk : gV fr k < 0) (hW : ∀ v, W v → W' v) (hWk : W' k) : Bfs m par a (fr.set k u) W' := by
  obtain ⟨hum, hkm⟩ := e.lt hp
  have hkl : k < fr.length := by rw [h.len]; exact hkm
  have hka : k ≠ a := fun e => by rw [e, h.root] at hk; omega
  have hmono : ∀ v, 0 ≤ gV fr v → 0 ≤ gV (fr.set k u) v := fun v hv => by rw [gV_set hkl]; split <;> omega
  have huk : u ≠ k := fun e => by rw [e] at hu; omega
  refine ⟨by rw [List.length_set, h.len], by rw [gV_set hkl, if_neg (Ne.symm hka), h.root], fun v hv hne h0 => ?_, fun v hv h0 => ?_⟩
  · by_cases hvk : v = k
    · subst hvk
      refine ⟨u, hum, by rw [gV_set hkl, if_pos rfl], hmono u hu, ?_⟩
      rcases e.way hp ha with i | i
      · exfalso
        obtain ⟨r, hr⟩ := pth_hd hp v a hkm ha
        by_cases hua : u = a
        · subst hua
          rw [pth_self hum, hr] at i
          cases i
        · obtain ⟨w, w1, w2, w3, w4⟩ := h.up u hum hua hu
          obtain ⟨r', hr'⟩ := pth_hd hp w a w1 ha
          rw [w4, hr, hr'] at i
          injection i with _ i
          injection i with i _
          rw [i] at w3
          omega
      · exact i
    · rw [gV_set hkl, if_neg hvk] at h0
      obtain ⟨w, w1, w2, w3, w4⟩ := h.up v hv hne h0
      exact ⟨w, w1, by rw [gV_set hkl, if_neg hvk, w2], hmono w w3, w4⟩
  · by_cases hvk : v = k
    · subst hvk; exact .inl hWk
    · rw [gV_set hkl, if_neg hvk] at h0
      rcases h.cl v hv h0 with i | i
      · exact .inl (hW v i)
      · exact .inr fun j hj => hmono j (i j hj)
/-- Nobody waits any more: all have been found. -/
theorem Bfs.all {m : Nat} {par : Nat → Nat} {a : Nat} {fr : List Int} {W : Nat → Prop} (h : Bfs m par a fr W) (hp : IsPar m par) (ha : a < m) (hW : ∀ v, v < m → ¬ W v) : ∀ v, v < m → 0 ≤ gV fr v := by
  have : ∀ n v, v < m → (pth m par v a).length ≤ n → 0 ≤ gV fr v := by
    intro n
    induction n with
    | zero => intro v hv hn; have := pth_len hp hv ha; omega
    | succ n ih =>
      intro v hv hn
      by_cases e : v = a
      · subst e; rw [h.root]; omega
      · obtain ⟨y, r, y1, y2, y3, y4⟩ := pth_tail hp v a hv ha e
        have hy := ih y y1 (by rw [y3]; rw [y2] at hn; simpa using hn)
        rcases h.cl y y1 hy with i | i
        · exact absurd i (hW y y1)
        · exact i v y4.symm
  exact fun v hv => this _ v hv (Nat.le_refl _)
/-- How many have not been found. -/
def unf (fr : List Int) : Nat := fr.countP fun x => decide (x < 0)
theorem unf_le (fr : List Int) : unf fr ≤ fr.length := List.countP_le_length
theorem unf_set {u : Int} (hu : 0 ≤ u) : ∀ {fr : List Int} {k : Nat}, k < fr.length → gV fr k < 0 → unf (fr.set k u) + 1 = unf fr
  | [], k, hk, h0 => absurd hk (by simp)
  | x :: fr, 0, hk, h0 => by
    have h0 : x < 0 := h0
    unfold unf
    rw [List.set_cons_zero, List.countP_cons, List.countP_cons, if_neg (by simpa using hu), if_pos (by simpa using h0)]
  | x :: fr, k + 1, hk, h0 => by
    have := unf_set hu (fr := fr) (k := k) (by simpa using hk) h0
    unfold unf at this ⊢
    rw [List.set_cons_succ, List.countP_cons, List.countP_cons]
    omega
theorem unf_start {m a : Nat} (ha : a < m) : unf ((List.replicate m (-1 : Int)).set a a) + 1 = m := by
  rw [unf_set (by omega) (by simpa using ha) (by unfold gV; rw [getD_lt _ (by simpa using ha), List.getElem_replicate]; omega)]
  unfold unf
  rw [List.countP_replicate]
  rfl
/-! ### The triangles of a room are such a tree -/
theorem inT_triS {x p c q : Int} : inT x (triS p c q) = true ↔ x = p ∨ x = c ∨ x = q := by
  rw [inT_iff]
  rcases triS_six p c q with e | e | e | e | e | e <;> rw [e] <;> simp only <;> omega
theorem common_eq (s t : Tri) : commonM s t = (if inT s.1 t then 1 else 0) + ((if inT s.2.1 t then 1 else 0) + (if inT s.2.2 t then 1 else 0)) := by
  have e0 : [s.1, s.2.1, s.2.2].getD 0 0 = s.1 := rfl
  have e1 : [s.1, s.2.1, s.2.2].getD 1 0 = s.2.1 := rfl
  have e2 : [s.1, s.2.1, s.2.2].getD 2 0 = s.2.2 := rfl
  unfold commonM
  simp only [cmTo, e0, e1, e2]
  repeat' split
  all_goals rfl
theorem common_comm {n : Nat} {s t : Tri} (hs : TriIn n s) (ht : TriIn n t) : commonM s t = commonM t s := by
  obtain ⟨a, b, c⟩ := s
  obtain ⟨d, e, f⟩ := t
  obtain ⟨-, h1, h2, -⟩ := hs
  obtain ⟨-, h3, h4, -⟩ := ht
  simp only at h1 h2 h3 h4
  rw [common_eq, common_eq]
  simp only [inT, Bool.or_eq_true, decide_eq_true_eq]
  repeat' split
  all_goals omega
/-- Next to each other before, and neither is cut off: next to each other in what is left. -/
theorem nxt_erase {l : List Int} {i k : Nat} (h4 : 3 < l.length) (hi : i < l.length) (hk : k < l.length) (hki : k ≠ i) (hni : nxtN l.length k ≠ i) :
    ∃ j, j < (l.eraseIdx i).length ∧ gI (l.eraseIdx i) j = gI l k ∧ gI (l.eraseIdx i) (nxtN (l.eraseIdx i).length j) = gI l (nxtN l.length k) := by
  have hlen := List.length_eraseIdx_of_lt hi
  rcases Nat.lt_or_ge k i with h1 | h1
  · refine ⟨k, by omega, by rw [gI_erase (by omega), if_pos h1], ?_⟩
    rcases nxt_eq hk with ⟨g1, g2⟩ | ⟨g1, g2⟩
    · omega
    · rcases nxt_eq (n := (l.eraseIdx i).length) (i := k) (by omega) with ⟨g3, g4⟩ | ⟨g3, g4⟩
      · omega
      · rw [g2, g4, gI_erase (by omega), if_pos (by omega)]
  · refine ⟨k - 1, by omega, by rw [gI_erase (by omega), if_neg (by omega), show k - 1 + 1 = k by omega], ?_⟩
    rcases nxt_eq hk with ⟨g1, g2⟩ | ⟨g1, g2⟩
    · rcases nxt_eq (n := (l.eraseIdx i).length) (i := k - 1) (by omega) with ⟨g3, g4⟩ | ⟨g3, g4⟩
      · rw [g2, g4, gI_erase (by omega), if_pos (by omega)]
      · omega
    · rcases nxt_eq (n := (l.eraseIdx i).length) (i := k - 1) (by omega) with ⟨g3, g4⟩ | ⟨g3, g4⟩
      · omega
      · rw [g2, g4, gI_erase (by omega), if_neg (by omega)]; congr 1; omega
/-- The two beside the one that is cut off stand next to each other in what is left. -/
theorem cut_erase {l : List Int} {i : Nat} (h4 : 3 < l.length) (hi : i < l.length) :
    ∃ k, k < (l.eraseIdx i).length ∧ gI (l.eraseIdx i) k = gI l (prvN l.length i) ∧ gI (l.eraseIdx i) (nxtN (l.eraseIdx i).length k) = gI l (nxtN l.length i) := by
  have hlen := List.length_eraseIdx_of_lt hi
  rcases prv_eq hi with ⟨h1, h2⟩ | ⟨h1, h2⟩
  · refine ⟨l.length - 2, by omega, by rw [gI_erase (by omega), if_neg (by omega), h2]; congr 1; omega, ?_⟩
    rcases nxt_eq (n := (l.eraseIdx i).length) (i := l.length - 2) (by omega) with ⟨g1, g2⟩ | ⟨g1, g2⟩
    · rcases nxt_eq hi with ⟨g3, g4⟩ | ⟨g3, g4⟩
      · omega
      · rw [g2, g4, gI_erase (by omega), if_neg (by omega)]; congr 1; omega
    · omega
  · refine ⟨i - 1, by omega, by rw [gI_erase (by omega), if_pos (by omega), h2], ?_⟩
    rcases nxt_eq hi with ⟨g3, g4⟩ | ⟨g3, g4⟩
    · rcases nxt_eq (n := (l.eraseIdx i).length) (i := i - 1) (by omega) with ⟨g1, g2⟩ | ⟨g1, g2⟩
      · rw [g2, g4, gI_erase (by omega), if_pos (by omega)]
      · omega
    · rcases nxt_eq (n := (l.eraseIdx i).length) (i := i - 1) (by omega) with ⟨g1, g2⟩ | ⟨g1, g2⟩
      · omega
      · rw [g2, g4, gI_erase (by omega), if_neg (by omega)]; congr 1; omega
/-- The corners of the triangles are those that are left. -/
theorem Cutd.corner {n : Nat} {l : List Int} {ts : List Tri} (h : Cutd l ts) (hl : Left n l) : ∀ t ∈ ts, ∀ x, inT x t = true → x ∈ l := by
  induction h with
  | last h3 =>
    intro t ht x hx
    rw [List.mem_singleton.1 ht, inT_triS] at hx
    rcases hx with rfl | rfl | rfl <;> exact gI_mem (by omega)
  | step h4 hi hr ih =>
    rename_i l ts i
    intro t ht x hx
    rcases List.mem_cons.1 ht with rfl | ht
    · unfold triAt at hx
      rw [inT_triS] at hx
      rcases hx with rfl | rfl | rfl
      · exact gI_mem (prv_lt (by omega))
      · exact gI_mem hi
      · exact gI_mem (nxt_lt (by omega))
    · exact ((hl.mem_erase hi).1 (ih (hl.erase h4 hi) t ht x hx)).1
/-- Just one triangle has two corners that stand next to each other. -/
theorem Cutd.one {n : Nat} {l : List Int} {ts : List Tri} (h : Cutd l ts) (hl : Left n l) : ∀ k, k < l.length → ∃ j, j < ts.length ∧ (∀ j', j' < ts.length → ((inT (gI l k) (ts.getD j' (0, 0, 0)) = true ∧ inT (gI l (nxtN l.length k)) (ts.getD j' (0, 0, 0)) = true) ↔ j' = j)) := by
  induction h with
  | last h3 =>
    rename_i l
    intro k hk
    refine ⟨0, by simp, fun j' hj' => ⟨fun _ => by simpa using hj', fun e => ?_⟩⟩
    subst e
    show inT _ (triS _ _ _) = true ∧ inT _ (triS _ _ _) = true
    rw [inT_triS, inT_triS]
    have : k = 0 ∨ k = 1 ∨ k = 2 := by omega
    rw [h3]
    rcases this with rfl | rfl | rfl
    · exact ⟨.inl rfl, .inr (.inl rfl)⟩
    · exact ⟨.inr (.inl rfl), .inr (.inr rfl)⟩
    · exact ⟨.inr (.inr rfl), .inl rfl⟩
  | step h4 hi hr ih =>
    rename_i l ts i
    intro k hk
    have hnk := nxt_lt (n := l.length) (i := k) (by omega)
    have hlen := List.length_eraseIdx_of_lt hi
    have hno : ∀ j', j' < ts.length → inT (gI l i) (ts.getD j' (0, 0, 0)) = true → False := fun j' hj' hx => by
      rw [getD_lt _ hj'] at hx
      exact ((hl.mem_erase hi).1 (hr.corner (hl.erase h4 hi) _ (List.getElem_mem _) _ hx)).2 rfl
    by_cases hki : k = i
    · subst hki
      refine ⟨0, by simp, fun j' hj' => ⟨fun hx => ?_, fun e => ?_⟩⟩
      · cases j' with
        | zero => rfl
        | succ j' => exact (hno j' (by simpa using hj') hx.1).elim
      · subst e
        show inT _ (triS _ _ _) = true ∧ inT _ (triS _ _ _) = true
        rw [inT_triS, inT_triS]
        exact ⟨.inr (.inl rfl), .inr (.inr rfl)⟩
    · by_cases hni : nxtN l.length k = i
      · refine ⟨0, by simp, fun j' hj' => ⟨fun hx => ?_, fun e => ?_⟩⟩
        · cases j' with
          | zero => rfl
          | succ j' => exact (hno j' (by simpa using hj') (by rw [← hni]; exact hx.2)).elim
        · subst e
          have hkp : k = prvN l.length i := by
            rcases nxt_eq hk with ⟨g1, g2⟩ | ⟨g1, g2⟩ <;> rcases prv_eq hi with ⟨g3, g4⟩ | ⟨g3, g4⟩ <;> omega
          show inT _ (triS _ _ _) = true ∧ inT _ (triS _ _ _) = true
          rw [inT_triS, inT_triS, hni, hkp]
          exact ⟨.inl rfl, .inr (.inl rfl)⟩
      · obtain ⟨j0, j1, j2, j3⟩ := nxt_erase h4 hi hk hki hni
        obtain ⟨j, hj, hu⟩ := ih (hl.erase h4 hi) j0 j1
        rw [j2, j3] at hu
        refine ⟨j + 1, by simpa using hj, fun j' hj' => ?_⟩
        cases j' with
        | zero =>
          refine ⟨fun hx => ?_, fun e => by omega⟩
          exfalso
          have hx : inT _ (triS _ _ _) = true ∧ inT _ (triS _ _ _) = true := hx
          rw [inT_triS, inT_triS] at hx
          have hp := prv_lt (n := l.length) (i := i) (by omega)
          have hq := nxt_lt (n := l.length) (i := i) (by omega)
          have e1 : k = prvN l.length i ∨ k = nxtN l.length i := by
            rcases hx.1 with e | e | e
            · exact .inl (hl.inj hk hp e)
            · exact absurd (hl.inj hk hi e) hki
            · exact .inr (hl.inj hk hq e)
          have e2 : nxtN l.length k = prvN l.length i ∨ nxtN l.length k = nxtN l.length i := by
            rcases hx.2 with e | e | e
            · exact .inl (hl.inj hnk hp e)
            · exact absurd (hl.inj hnk hi e) hni
            · exact .inr (hl.inj hnk hq e)
          rcases nxt_eq hk with ⟨g1, g2⟩ | ⟨g1, g2⟩ <;> rcases prv_eq hi with ⟨g3, g4⟩ | ⟨g3, g4⟩ <;> rcases nxt_eq hi with ⟨g5, g6⟩ | ⟨g5, g6⟩ <;> omega
        | succ j' => exact (hu j' (by simpa using hj')).trans ⟨fun e => by omega, fun e => by omega⟩
/-- Each triangle but the last has just one later one beside it. -/
theorem tris_later {xs : List Pt} {i : Nat} (hi : i + 1 < (trisM xs).length) : ∃ j, i < j ∧ j < (trisM xs).length ∧ ∀ j', i < j' → j' < (trisM xs).length → (commonM ((trisM xs).getD i (0, 0, 0)) ((trisM xs).getD j' (0, 0, 0)) = 2 ↔ j' = j) := by
  rcases tris_cutd xs with e | ⟨hr, hd⟩
  · rw [e] at hi; simp at hi
  · have hL := left_all (room_len hr).1
    obtain ⟨l, hl, hc⟩ := hd.drop hL i (by omega)
    have he : (trisM xs).drop i = (trisM xs).getD i (0, 0, 0) :: (trisM xs).drop (i + 1) := by
      rw [List.drop_eq_getElem_cons (by omega : i < (trisM xs).length), getD_lt _ (by omega)]
    rw [he] at hc
    generalize hts : (trisM xs).drop (i + 1) = ts at hc
    have htl : ts.length = (trisM xs).length - (i + 1) := by rw [← hts, List.length_drop]
    have hgd : ∀ j, ts.getD j (0, 0, 0) = (trisM xs).getD (i + 1 + j) (0, 0, 0) := fun j => by
      rw [← hts, List.getD_eq_getElem?_getD, List.getElem?_drop, ← List.getD_eq_getElem?_getD]
    generalize (trisM xs).getD i (0, 0, 0) = t0 at *
    cases hc with
    | last h3 => simp only [List.length_nil] at htl; omega
    | step h4 hi' hr' =>
      rename_i c
      obtain ⟨k, k1, k2, k3⟩ := cut_erase h4 hi'
      obtain ⟨j, hj, hu⟩ := hr'.one (hl.erase h4 hi') k k1
      rw [k2, k3] at hu
      refine ⟨i + 1 + j, by omega, by omega, fun j' h1 h2 => ?_⟩
      have hjj := hu (j' - (i + 1)) (by omega)
      have hno : inT (gI l c) (ts.getD (j' - (i + 1)) (0, 0, 0)) = true → False := fun hx => by
        rw [getD_lt _ (show j' - (i + 1) < ts.length by omega)] at hx
        exact ((hl.mem_erase hi').1 (hr'.corner (hl.erase h4 hi') _ (List.getElem_mem _) _ hx)).2 rfl
      rw [hgd, show i + 1 + (j' - (i + 1)) = j' by omega] at hjj hno
      generalize (trisM xs).getD j' (0, 0, 0) = t1 at *
      have hcm : commonM (triAt l c) t1 = 2 ↔ (inT (gI l (prvN l.length c)) t1 = true ∧ inT (gI l (nxtN l.length c)) t1 = true) := by
        rw [common_eq]
        unfold triAt
        rcases triS_six (gI l (prvN l.length c)) (gI l c) (gI l (nxtN l.length c)) with e | e | e | e | e | e <;> rw [e] <;> simp only [show inT (gI l c) t1 = false from Bool.eq_false_iff.2 fun h => hno h] <;>
          cases inT (gI l (prvN l.length c)) t1 <;> cases inT (gI l (nxtN l.length c)) t1 <;> decide
      rw [hcm, hjj]
      omega
def parL (l : List Tri) (i : Nat) : Nat := ((List.range l.length).find? fun j => decide (i < j) && decide (commonM (l.getD i (0, 0, 0)) (l.getD j (0, 0, 0)) = 2)).getD 0
abbrev parT (xs : List Pt) : Nat → Nat := parL (trisM xs)
theorem parT_spec {xs : List Pt} {i : Nat} (hi : i + 1 < (trisM xs).length) : i < parT xs i ∧ parT xs i < (trisM xs).length ∧ ∀ j', i < j' → j' < (trisM xs).length → (commonM ((trisM xs).getD i (0, 0, 0)) ((trisM xs).getD j' (0, 0, 0)) = 2 ↔ j' = parT xs i) := by
  obtain ⟨j, h1, h2, h3⟩ := tris_later hi
  have : parT xs i = j := by
    unfold parT parL
    have hf : ((List.range (trisM xs).length).find? fun j => decide (i < j) && decide (commonM ((trisM xs).getD i (0, 0, 0)) ((trisM xs).getD j (0, 0, 0)) = 2)) = some j := by
      refine List.find?_range_eq_some.2 ⟨by rw [Bool.and_eq_true]; exact ⟨decide_eq_true h1, decide_eq_true ((h3 j h1 h2).2 rfl)⟩, List.mem_range.2 h2, fun j' hj' => ?_⟩
      by_cases h4 : i < j'
      · have : ¬ commonM ((trisM xs).getD i (0, 0, 0)) ((trisM xs).getD j' (0, 0, 0)) = 2 := fun e => by have := (h3 j' h4 (by omega)).1 e; omega
        rw [decide_eq_false this, Bool.and_false]; rfl
      · rw [decide_eq_false h4]; rfl
    rw [hf]; rfl
  rw [this]
  exact ⟨h1, h2, h3⟩
theorem parT_is (xs : List Pt) : IsPar (trisM xs).length (parT xs) := fun i hi => ⟨(parT_spec hi).1, (parT_spec hi).2.1⟩
theorem tri_at_in {xs : List Pt} {k : Nat} (hk : k < (trisM xs).length) : TriIn xs.length ((trisM xs).getD k (0, 0, 0)) := by
  rw [getD_lt _ hk]; exact tris_in (List.getElem_mem _)
theorem adj_iff {xs : List Pt} {u k : Nat} (hu : u < (trisM xs).length) (hk : k < (trisM xs).length) : besAt (trisM xs) (u : Int) k = true ↔ TAdj (trisM xs).length (parT xs) u k := by
  have hcc : commonM ((trisM xs).getD k (0, 0, 0)) ((trisM xs).getD u (0, 0, 0)) = commonM ((trisM xs).getD u (0, 0, 0)) ((trisM xs).getD k (0, 0, 0)) := common_comm (tri_at_in hk) (tri_at_in hu)
  unfold besAt TAdj
  rw [Bool.and_eq_true, decide_eq_true_eq, decide_eq_true_eq, Int.toNat_natCast]
  rcases Nat.lt_trichotomy u k with h | h | h
  · have := (parT_spec (xs := xs) (i := u) (by omega)).2.2 k h hk
    rw [hcc, this]
    constructor
    · rintro ⟨-, e⟩; exact .inl ⟨by omega, e⟩
    · rintro (⟨-, e⟩ | ⟨e1, e2⟩)
      · exact ⟨by omega, e⟩
      · have := (parT_spec (xs := xs) (i := k) e1).1; omega
  · subst h
    constructor
    · rintro ⟨e, -⟩; exact absurd rfl e
    · rintro (⟨e1, e2⟩ | ⟨e1, e2⟩) <;> (have := (parT_spec (xs := xs) (i := u) e1).1; omega)
  · have := (parT_spec (xs := xs) (i := k) (by omega)).2.2 u h hu
    rw [this]
    constructor
    · rintro ⟨-, e⟩; exact .inr ⟨by omega, e⟩
    · rintro (⟨e1, e2⟩ | ⟨-, e⟩)
      · have := (parT_spec (xs := xs) (i := u) e1).1; omega
      · exact ⟨by omega, e⟩
/-- The way between two triangles of a list. -/
def wayL (l : List Tri) (a b : Nat) : List Int := (pth l.length (parL l) a b).map fun j : Nat => (j : Int)
theorem pthF_len (par : Nat → Nat) : ∀ (f v a : Nat), (pthF par f v a).length ≤ f + 1
  | 0, v, a => by simp [pthF]
  | f + 1, v, a => by
    rw [pthF]
    split
    · simp
    · split
      · have := pthF_len par f (par v) a
        rw [List.length_cons]; omega
      · have := pthF_len par f v (par a)
        rw [List.length_append, List.length_singleton]; omega
theorem wayL_len (l : List Tri) (a b : Nat) : (wayL l a b).length ≤ 2 * l.length + 1 := by
  unfold wayL
  rw [List.length_map]
  exact pthF_len _ _ _ _
theorem bes_mem {l : List Tri} {u : Int} {n : Nat} {x : Int} : x ∈ besTo l u n ↔ ∃ j : Nat, j < n ∧ x = j ∧ besAt l u j = true := by
  unfold besTo
  rw [List.mem_map]
  constructor
  · rintro ⟨j, hj, rfl⟩
    obtain ⟨h1, h2⟩ := List.mem_filter.1 hj
    exact ⟨j, List.mem_range.1 h1, rfl, h2⟩
  · rintro ⟨j, h1, rfl, h2⟩
    exact ⟨j, List.mem_filter.2 ⟨List.mem_range.2 h1, h2⟩, rfl⟩
theorem wayL_rev {xs : List Pt} {a b : Nat} (ha : a < (trisM xs).length) (hb : b < (trisM xs).length) : ((pth (trisM xs).length (parT xs) b a).map fun j : Nat => (j : Int)).reverse = wayL (trisM xs) a b := by
  rw [← List.map_reverse, pth_rev (parT_is xs) b a hb ha]
  rfl
def revIC : ConW := mkConW [.sl (.b .int)] 0 t_int (fun x => x.1.length ≤ 1048576) (fun _ => .tup []) fun x => ⟨.b .int, x.1.reverse, false⟩
theorem revI_ok : GoodW Tryz.prog n_slices_Reverse_int revIC := by
  refine good_ofW (tys := tyL) (env := []) (envw := []) [] [] [] [] mixed tys trivial trivial Tryz.func67 rfl (by kernel_rfl) (by decide) (by kernel_rfl) ?_
  have hG_ := kpz [(0, [0, 2, 3]), (1, [0, 2, 3, 9]), (2, [0, 2, 3]), (3, [0, 2, 3])] [(0, [1000]), (1, [1000]), (2, [1000]), (3, [1000])] [] []
  rintro ⟨(xs : List Int), ⟨⟩⟩ (h1 : xs.length ≤ _)
  (repeat' (first | with_reducible exact True.intro | with_reducible refine st_seq ?_ | (with_reducible refine st_regionG hG_ ?_; intro K_ hK_) | (with_reducible refine st_region ?_; intro K_ hK_) | (with_reducible refine hK_ _ _ ?_; try clear hK_ K_) | ((with_reducible refine st_cond (b := ?b_) ?hb_ ?_ ?_); case hb_ => rfl) | with_reducible refine sq_n ?_ | with_reducible refine sq_r ?_ | with_reducible refine sq_e ?_ | with_reducible refine bq_n ?_ | with_reducible refine bq_r ?_ | with_reducible refine bq_q ?_ | with_reducible refine st_block ?_ | with_reducible refine st_exit ?_ | with_reducible refine st_ret ?_ | with_reducible refine st_skip ?_ | with_reducible refine gq_n ?_ | with_reducible refine gq_r ?_ | with_reducible refine gq_e ?_ | with_reducible refine lq_n ?_ | with_reducible refine lq_r ?_ | with_reducible refine lq_e ?_ | with_reducible refine bq_e (by decide) ?_ | ((conv => whnf); first | (with_reducible refine hK_ _ _ ?_; try clear hK_ K_) | (with_reducible refine fun (g_ : Sl) (o_ : Ow) => ?_) | with_reducible exact True.intro | with_reducible refine And.intro trivial ?_ | with_reducible refine And.intro ?_ ?_ | exact Nat.le_of_ble_eq_true rfl | exact Or.inl rfl | (intro h_; cases h_) | (intro h_; (try simp only [cond_true, cond_false, decide_eq_true_eq, decide_eq_false_iff_not, Bool.not_eq_true', Bool.not_eq_false', Int.toNat_natCast, prodEta] at h_)) | rfl))) <;> (try (conv => whnf)) <;> (try first | change (_ : Int) ≤ _ | change (_ : Nat) ≤ _) <;> (try ((fail_if_success (with_reducible apply Exists.intro)); (try dsimp only); (try simp only [cond_true, cond_false, decide_eq_true_eq, decide_eq_false_iff_not, Bool.not_eq_true', Bool.not_eq_false', Int.toNat_natCast, prodEta]))) <;> (try simp (disch := omega) only [ptEq2, cond_true, cond_false, decide_eq_true_eq, decide_eq_false_iff_not, List.length_drop, List.take_length, Int.toNat_zero, List.drop_zero, Nat.zero_add, List.nil_append, mod_nat1, mod_nat2, tm1, tm2, tmj, W_in, List.length_append, List.length_take, List.length_replicate, List.length_set, List.length_map, List.length_cons, List.length_nil, prodEta, Int.toNat_natCast, beq_iff_eq, beq_eq_false_iff_ne, bne_iff_ne, bne_eq_false_iff_eq, ne_eq, Int.natCast_inj, Int.ofNat_lt, Int.ofNat_le] at *)
  refine awp'_loopG (α := Nat) (fun i ver_ => [(2, vInt i), (3, vInt ((xs.length : Int) - 1 - i))]) (fun i ver_ => []) (fun i ver_ => [(1000, ⟨0, .row t_int (.b .int) (revTo 0 xs i)⟩)]) (fun i => 2 * i ≤ xs.length + 1) (fun i => xs.length - i) [0] [] (0) ?_
  conv => whnf
  refine ⟨⟨?inv1_, ?vals1_, ?own1_, ?fix1_⟩, ?body1_⟩
  case' vals1_ => (repeat' (first | with_reducible exact True.intro | with_reducible refine And.intro ?_ ?_ | with_reducible refine Head.mk ?_ ?_ ?_ ?_ | ((conv => lhs; whnf); first | with_reducible rfl | with_reducible exact vInt_s (by omega) | exact rfl) | ((conv => whnf); first | with_reducible exact True.intro | with_reducible refine And.intro ?_ ?_))) <;> (try (conv => lhs; whnf))
  case' own1_ => (repeat' (first | with_reducible exact True.intro | with_reducible refine And.intro ?_ ?_ | with_reducible refine Head.mk ?_ ?_ ?_ ?_ | ((conv => lhs; whnf); first | with_reducible rfl | with_reducible exact vInt_s (by omega) | exact rfl) | ((conv => whnf); first | with_reducible exact True.intro | with_reducible refine And.intro ?_ ?_))) <;> (try (conv => lhs; whnf))
  case' fix1_ => (repeat' (first | with_reducible exact True.intro | with_reducible refine And.intro ?_ ?_ | with_reducible refine Head.mk ?_ ?_ ?_ ?_ | ((conv => lhs; whnf); first | with_reducible rfl | with_reducible exact vInt_s (by omega) | exact rfl) | ((conv => whnf); first | with_reducible exact True.intro | with_reducible refine And.intro ?_ ?_))) <;> (try (conv => lhs; whnf))
  all_goals (try exact congrArg vInt (by omega))
  · exact locRow_eq (revTo_zero _ xs).symm
  · omega
  rintro i g_ o_ v_ hi
  have hl := revTo_len 0 xs i
  (repeat' (first | with_reducible exact True.intro | with_reducible refine st_seq ?_ | (with_reducible refine st_regionG hG_ ?_; intro K_ hK_) | (with_reducible refine st_region ?_; intro K_ hK_) | (with_reducible refine hK_ _ _ ?_; try clear hK_ K_) | ((with_reducible refine st_cond (b := ?b_) ?hb_ ?_ ?_); case hb_ => rfl) | with_reducible refine sq_n ?_ | with_reducible refine sq_r ?_ | with_reducible refine sq_e ?_ | with_reducible refine bq_n ?_ | with_reducible refine bq_r ?_ | with_reducible refine bq_q ?_ | with_reducible refine st_block ?_ | with_reducible refine st_exit ?_ | with_reducible refine st_ret ?_ | with_reducible refine st_skip ?_ | with_reducible refine gq_n ?_ | with_reducible refine gq_r ?_ | with_reducible refine gq_e ?_ | with_reducible refine lq_n ?_ | with_reducible refine lq_r ?_ | with_reducible refine lq_e ?_ | with_reducible refine bq_e (by decide) ?_ | ((conv => whnf); first | (with_reducible refine hK_ _ _ ?_; try clear hK_ K_) | (with_reducible refine fun (g_ : Sl) (o_ : Ow) => ?_) | with_reducible exact True.intro | with_reducible refine And.intro trivial ?_ | with_reducible refine And.intro ?_ ?_ | exact Nat.le_of_ble_eq_true rfl | exact Or.inl rfl | (intro h_; cases h_) | (intro h_; (try simp only [cond_true, cond_false, decide_eq_true_eq, decide_eq_false_iff_not, Bool.not_eq_true', Bool.not_eq_false', Int.toNat_natCast, prodEta] at h_)) | rfl))) <;> (try (conv => whnf)) <;> (try first | change (_ : Int) ≤ _ | change (_ : Nat) ≤ _) <;> (try ((fail_if_success (with_reducible apply Exists.intro)); (try dsimp only); (try simp only [cond_true, cond_false, decide_eq_true_eq, decide_eq_false_iff_not, Bool.not_eq_true', Bool.not_eq_false', Int.toNat_natCast, prodEta]))) <;> (try simp (disch := omega) only [ptEq2, cond_true, cond_false, decide_eq_true_eq, decide_eq_false_iff_not, List.length_drop, List.take_length, Int.toNat_zero, List.drop_zero, Nat.zero_add, List.nil_append, mod_nat1, mod_nat2, tm1, tm2, tmj, W_in, List.length_append, List.length_take, List.length_replicate, List.length_set, List.length_map, List.length_cons, List.length_nil, prodEta, Int.toNat_natCast, beq_iff_eq, beq_eq_false_iff_ne, bne_iff_ne, bne_eq_false_iff_eq, ne_eq, Int.natCast_inj, Int.ofNat_lt, Int.ofNat_le] at *)
  all_goals (try (fail_if_success (with_reducible apply Exists.intro)); first | with_reducible assumption | omega | exact mdl (by omega) | exact ilo1 (by omega) | exact ilo2 (by omega) | exact ihi1 (by omega) (by omega) | exact ihi2 (by omega) (by omega))
  · refine ⟨i + 1, by omega, by omega, ?_⟩
    (repeat' (first | with_reducible exact True.intro | with_reducible refine And.intro ?_ ?_ | with_reducible refine Head.mk ?_ ?_ ?_ ?_ | ((conv => lhs; whnf); first | with_reducible rfl | with_reducible exact vInt_s (by omega) | exact rfl) | ((conv => whnf); first | with_reducible exact True.intro | with_reducible refine And.intro ?_ ?_))) <;> (try (conv => lhs; whnf))
    · exact congrArg vInt (by omega)
    · rw [show ((xs.length : Int) - 1 - i).toNat = xs.length - 1 - i by omega]
      exact locRow_eq (revTo_step 0 (by omega))
  · exact congrArg some (revTo_end 0 (by omega))
theorem rep_set {n k : Nat} (h : k < n) : (repR (-1) n k).set k (-1) = repR (-1) n (k + 1) := by
  unfold repR
  refine List.ext_getElem? fun i => ?_
  rw [List.getElem?_set]
  simp only [List.length_append, List.length_replicate, List.getElem?_append, List.getElem?_replicate]
  repeat' split
  all_goals first | rfl | omega | skip
theorem rep_full (v : Int) (n : Nat) : repR v n n = List.replicate n v := by unfold repR; rw [Nat.sub_self, List.replicate_zero, List.append_nil]
theorem tri_len11 (xs : List Pt) : (trisM xs).length ≤ 11 := by
  rcases tris_or xs with e | e
  · omega
  · have := tris_len xs; omega
/-- Those that wait: places on the list, in range and found. -/
def InQ (m : Nat) (fr : List Int) (Q : List Int) : Prop := ∀ x ∈ Q, ∃ v : Nat, x = v ∧ v < m ∧ 0 ≤ gV fr v
theorem InQ.tail {m : Nat} {fr : List Int} {q : Int} {Q : List Int} (h : InQ m fr (q :: Q)) : InQ m fr Q := fun x hx => h x (List.mem_cons_of_mem _ hx)
theorem InQ.step {m : Nat} {fr : List Int} {Q : List Int} {k : Nat} {u : Int} (h : InQ m fr Q) (hu : 0 ≤ u) (hk : k < m) (hl : fr.length = m) : InQ m (fr.set k u) (Q ++ [(k : Int)]) := fun x hx => by
  rcases List.mem_append.1 hx with hx | hx
  · obtain ⟨v, e, h1, h2⟩ := h x hx
    refine ⟨v, e, h1, ?_⟩
    rw [gV_set (by omega)]
    split
    · exact hu
    · exact h2
  · refine ⟨k, List.mem_singleton.1 hx, hk, ?_⟩
    rw [gV_set (by omega), if_pos rfl]
    exact hu
/-- The list that the closure of TreeWay holds. -/
def triL (f : FuncId × List D) : List Tri := match f.2 with
  | [.ptr [.sl _ (.b .tri) l]] => l
  | _ => []
def twcC : Con := mkCon [.int, .rsl (.b .tri)] (fun x => x.2.1.length ≤ 1048577 ∧ 0 ≤ x.1 ∧ x.1 < x.2.1.length) fun x => rowI (besTo x.2.1 x.1 x.2.1.length)
theorem twc_ok : Good1 Tryz.prog n_impl_TreeWay_1 twcC := by
  refine good_ofG (tys := tyL) (env := [(n_impl_beside, besideC)]) (envw := []) [6] [] [] [] mixed tys ⟨beside_ok, trivial⟩ trivial Tryz.func54 rfl (by kernel_rfl) (by decide) (by kernel_rfl) ?_
  have hG_ := kpz [(0, [0, 1]), (1, [3])] [(1, [6])] [] []
  rintro ⟨(k : Int), (l : List Tri), ⟨⟩⟩ ⟨(h1 : l.length ≤ _), (h2 : 0 ≤ k), (h3 : k < _)⟩
  (repeat' (first | with_reducible exact True.intro | with_reducible refine st_seq ?_ | (with_reducible refine st_regionG hG_ ?_; intro K_ hK_) | (with_reducible refine st_region ?_; intro K_ hK_) | (with_reducible refine hK_ _ _ ?_; try clear hK_ K_) | ((with_reducible refine st_cond (b := ?b_) ?hb_ ?_ ?_); case hb_ => rfl) | with_reducible refine sq_n ?_ | with_reducible refine sq_r ?_ | with_reducible refine sq_e ?_ | with_reducible refine bq_n ?_ | with_reducible refine bq_r ?_ | with_reducible refine bq_q ?_ | with_reducible refine st_block ?_ | with_reducible refine st_exit ?_ | with_reducible refine st_ret ?_ | with_reducible refine st_skip ?_ | with_reducible refine gq_n ?_ | with_reducible refine gq_r ?_ | with_reducible refine gq_e ?_ | with_reducible refine lq_n ?_ | with_reducible refine lq_r ?_ | with_reducible refine lq_e ?_ | with_reducible refine bq_e (by decide) ?_ | ((conv => whnf); first | (with_reducible refine hK_ _ _ ?_; try clear hK_ K_) | (with_reducible refine fun (g_ : Sl) (o_ : Ow) => ?_) | with_reducible exact True.intro | with_reducible refine And.intro trivial ?_ | with_reducible refine And.intro ?_ ?_ | exact Nat.le_of_ble_eq_true rfl | exact Or.inl rfl | (intro h_; cases h_) | (intro h_; (try simp only [cond_true, cond_false, decide_eq_true_eq, decide_eq_false_iff_not, Bool.not_eq_true', Bool.not_eq_false', Int.toNat_natCast, prodEta] at h_)) | rfl))) <;> (try (conv => whnf)) <;> (try first | change (_ : Int) ≤ _ | change (_ : Nat) ≤ _) <;> (try ((fail_if_success (with_reducible apply Exists.intro)); (try dsimp only); (try simp only [cond_true, cond_false, decide_eq_true_eq, decide_eq_false_iff_not, Bool.not_eq_true', Bool.not_eq_false', Int.toNat_natCast, prodEta]))) <;> (try simp (disch := omega) only [ptEq2, cond_true, cond_false, decide_eq_true_eq, decide_eq_false_iff_not, List.length_drop, List.take_length, Int.toNat_zero, List.drop_zero, Nat.zero_add, List.nil_append, mod_nat1, mod_nat2, tm1, tm2, tmj, W_in, Int.add_sub_cancel, tn1, tnp, tnc, List.length_append, List.length_take, List.length_replicate, List.length_set, List.length_map, List.length_cons, List.length_nil, prodEta, Int.toNat_natCast, beq_iff_eq, beq_eq_false_iff_ne, bne_iff_ne, bne_eq_false_iff_eq, ne_eq, Int.natCast_inj, Int.ofNat_lt, Int.ofNat_le] at *)
  all_goals (try (fail_if_success (with_reducible apply Exists.intro)); first | with_reducible assumption | omega | exact mdl (by omega) | exact ilo1 (by omega) | exact ilo2 (by omega) | exact ihi1 (by omega) (by omega) | exact ihi2 (by omega) (by omega))
def ShOk (n a b : Int) (f : FuncId × List D) : Prop := ∃ xs, f = (n_impl_TreeWay_1, [.ptr [.sl none (.b .tri) (trisM xs)]]) ∧ n = (trisM xs).length ∧ (0 ≤ a ∧ a < n) ∧ 0 ≤ b ∧ b < n
def shC : Con := mkCon [.int, .int, .int, .clo] (fun x => ShOk x.1 x.2.1 x.2.2.1 x.2.2.2.1) fun x => rowI (wayL (triL x.2.2.2.1) x.2.1.toNat x.2.2.1.toNat)
theorem shortest_ok : Good1 Tryz.prog n_impl_shortest shC := by
  refine good_ofG (tys := tyL) (env := [(n_slices_Repeat_int, repC), (n_impl_TreeWay_1, twcC)]) (envw := [(n_slices_Reverse_int, revIC)]) [16, 22, 27, 52, 60, 71, 73] [] [] [32] mixed tys ⟨repeat_ok, twc_ok, trivial⟩ ⟨revI_ok, trivial⟩ Tryz.func53 rfl (by kernel_rfl) (by decide) (by kernel_rfl) ?_
  have hG_ := kpz [(0, [0, 1, 2, 3]), (1, [1, 2, 3, 9]), (2, [1, 2, 3, 9]), (3, [1, 2, 3, 9, 10]), (4, [1, 2, 3, 9, 10, 25]), (5, [1, 2, 3, 9, 10]), (6, [1, 2, 3, 9, 10, 32, 33, 34]), (7, [1, 2, 3, 9, 10, 32, 33, 34, 35]), (8, [1, 2, 3, 9, 10, 12, 32, 33, 34]), (9, [1, 2, 3, 9, 10, 12, 32, 33, 34, 42]), (10, [1, 2, 3, 9, 10, 12, 32, 33, 34]), (11, [1, 2, 3, 9, 10, 32, 33, 34]), (12, [1, 2, 3, 9, 10, 32, 33, 34]), (13, [1, 2, 9, 58]), (14, [8]), (15, [1, 2, 9, 13]), (16, [1, 2, 9, 13, 63]), (17, [1, 2, 9, 13]), (18, [1, 2, 9, 13]), (19, [13]), (20, [8])] [(1, [16]), (2, [16]), (3, [16, 22]), (4, [16, 22]), (5, [16, 22, 27]), (6, [16, 22]), (7, [16, 22]), (8, [16, 22]), (9, [16, 22]), (10, [16, 22]), (11, [16, 22, 52]), (12, [16, 22]), (13, [16, 22]), (14, [16, 22]), (15, [16, 22, 60]), (16, [16, 22, 60]), (17, [16, 22, 60]), (18, [16, 22, 60, 71]), (19, [16, 22, 60]), (20, [16, 22, 60])] [] []
  rintro ⟨(n : Int), (a : Int), (b : Int), (f : FuncId × List D), ⟨⟩⟩ ⟨xs, rfl, rfl, ⟨ha0, ha1⟩, hb0, hb1⟩
  obtain ⟨a, rfl⟩ := Int.eq_ofNat_of_zero_le ha0
  obtain ⟨b, rfl⟩ := Int.eq_ofNat_of_zero_le hb0
  have htl := tri_len11 xs
  have hpar := parT_is xs
  have ha : a < (trisM xs).length := by have h : (a : Int) < ((trisM xs).length : Int) := ha1; omega
  have hb : b < (trisM xs).length := by have h : (b : Int) < ((trisM xs).length : Int) := hb1; omega
  have hadj : ∀ u k, u < (trisM xs).length → k < (trisM xs).length → (besAt (trisM xs) (u : Int) k = true ↔ TAdj (trisM xs).length (parT xs) u k) := fun u k => adj_iff
  have hrev := wayL_rev (a := a) (b := b) ha hb
  show awp' _ _ (Fin' _ _ (rowI (wayL (trisM xs) a b))) _ _
  generalize wayL (trisM xs) a b = way at hrev ⊢
  generalize parT xs = par at *
  generalize trisM xs = ts at *
  (repeat' (first | with_reducible exact True.intro | with_reducible refine st_seq ?_ | (with_reducible refine st_regionG hG_ ?_; intro K_ hK_) | (with_reducible refine st_region ?_; intro K_ hK_) | (with_reducible refine hK_ _ _ ?_; try clear hK_ K_) | ((with_reducible refine st_cond (b := ?b_) ?hb_ ?_ ?_); case hb_ => rfl) | with_reducible refine sq_n ?_ | with_reducible refine sq_r ?_ | with_reducible refine sq_e ?_ | with_reducible refine bq_n ?_ | with_reducible refine bq_r ?_ | with_reducible refine bq_q ?_ | with_reducible refine st_block ?_ | with_reducible refine st_exit ?_ | with_reducible refine st_ret ?_ | with_reducible refine st_skip ?_ | with_reducible refine gq_n ?_ | with_reducible refine gq_r ?_ | with_reducible refine gq_e ?_ | with_reducible refine lq_n ?_ | with_reducible refine lq_r ?_ | with_reducible refine lq_e ?_ | with_reducible refine bq_e (by decide) ?_ | ((conv => whnf); first | (with_reducible refine hK_ _ _ ?_; try clear hK_ K_) | (with_reducible refine fun (g_ : Sl) (o_ : Ow) => ?_) | with_reducible exact True.intro | with_reducible refine And.intro trivial ?_ | with_reducible refine And.intro ?_ ?_ | exact Nat.le_of_ble_eq_true rfl | exact Or.inl rfl | (intro h_; cases h_) | (intro h_; (try simp only [cond_true, cond_false, decide_eq_true_eq, decide_eq_false_iff_not, Bool.not_eq_true', Bool.not_eq_false', Int.toNat_natCast, prodEta] at h_)) | rfl))) <;> (try (conv => whnf)) <;> (try first | change (_ : Int) ≤ _ | change (_ : Nat) ≤ _) <;> (try ((fail_if_success (with_reducible apply Exists.intro)); (try dsimp only); (try simp only [cond_true, cond_false, decide_eq_true_eq, decide_eq_false_iff_not, Bool.not_eq_true', Bool.not_eq_false', Int.toNat_natCast, prodEta]))) <;> (try simp (disch := omega) only [ptEq2, cond_true, cond_false, decide_eq_true_eq, decide_eq_false_iff_not, List.length_drop, List.take_length, Int.toNat_zero, List.drop_zero, Nat.zero_add, List.nil_append, mod_nat1, mod_nat2, tm1, tm2, tmj, W_in, Int.add_sub_cancel, tn1, tnp, tnc, List.length_append, List.length_take, List.length_replicate, List.length_set, List.length_map, List.length_cons, List.length_nil, prodEta, Int.toNat_natCast, beq_iff_eq, beq_eq_false_iff_ne, bne_iff_ne, bne_eq_false_iff_eq, ne_eq, Int.natCast_inj, Int.ofNat_lt, Int.ofNat_le] at *)
  all_goals (try (fail_if_success (with_reducible apply Exists.intro)); first | with_reducible assumption | omega | exact mdl (by omega) | exact ilo1 (by omega) | exact ilo2 (by omega) | exact ihi1 (by omega) (by omega) | exact ihi2 (by omega) (by omega))
  refine st_tl 22 ?_
  conv => whnf
  refine ⟨by simp, ?_⟩
  refine awp'_loopG (α := List Int × List Int) (fun s ver_ => []) (fun s ver_ => [(9, 16, false, .row t_int (.b .int) s.1), (10, 22, false, .tail t_int (.b .int) s.2)]) (fun s ver_ => []) (fun s => Bfs ts.length par a s.1 (fun v => (v : Int) ∈ s.2) ∧ InQ ts.length s.1 s.2 ∧ s.2.length + unf s.1 ≤ ts.length) (fun s => s.2.length + unf s.1) [1, 2, 3] [] (((List.replicate ts.length (-1)).set a a, [(a : Int)])) ?_
  conv => whnf
  refine ⟨⟨?inv2_, ?vals2_, ?own2_, ?fix2_⟩, ?body2_⟩
  case' vals2_ => (repeat' (first | with_reducible exact True.intro | with_reducible refine And.intro ?_ ?_ | with_reducible refine Head.mk ?_ ?_ ?_ ?_ | ((conv => lhs; whnf); first | with_reducible rfl | with_reducible exact vInt_s (by omega) | exact rfl) | ((conv => whnf); first | with_reducible exact True.intro | with_reducible refine And.intro ?_ ?_))) <;> (try (conv => lhs; whnf))
  case' own2_ => (repeat' (first | with_reducible exact True.intro | with_reducible refine And.intro ?_ ?_ | with_reducible refine Head.mk ?_ ?_ ?_ ?_ | ((conv => lhs; whnf); first | with_reducible rfl | with_reducible exact vInt_s (by omega) | exact rfl) | ((conv => whnf); first | with_reducible exact True.intro | with_reducible refine And.intro ?_ ?_))) <;> (try (conv => lhs; whnf))
  case' fix2_ => (repeat' (first | with_reducible exact True.intro | with_reducible refine And.intro ?_ ?_ | with_reducible refine Head.mk ?_ ?_ ?_ ?_ | ((conv => lhs; whnf); first | with_reducible rfl | with_reducible exact vInt_s (by omega) | exact rfl) | ((conv => whnf); first | with_reducible exact True.intro | with_reducible refine And.intro ?_ ?_))) <;> (try (conv => lhs; whnf))
  · exact ⟨bfs_start ha (List.mem_singleton.2 rfl), fun x hx => ⟨a, List.mem_singleton.1 hx, ha, by show 0 ≤ gV _ a; rw [gV_set (by simpa using ha), if_pos rfl]; omega⟩, by have := unf_start ha; show 1 + unf ((List.replicate ts.length (-1)).set a a) ≤ _; omega⟩
  rintro ⟨fr, Q⟩ g_ o_ v_ ⟨(hB : Bfs _ _ _ fr _), (hQ : InQ _ fr Q), (hlen : Q.length + unf fr ≤ _)⟩
  have hfl := hB.len
  rcases Q with _ | ⟨q, Q⟩
  · have hall := hB.all hpar ha (fun v _ hv => by cases hv)
    have hbv : 0 ≤ fr.getD b 0 := hall b hb
    (repeat' (first | with_reducible exact True.intro | with_reducible refine st_seq ?_ | (with_reducible refine st_regionG hG_ ?_; intro K_ hK_) | (with_reducible refine st_region ?_; intro K_ hK_) | (with_reducible refine hK_ _ _ ?_; try clear hK_ K_) | ((with_reducible refine st_cond (b := ?b_) ?hb_ ?_ ?_); case hb_ => rfl) | with_reducible refine sq_n ?_ | with_reducible refine sq_r ?_ | with_reducible refine sq_e ?_ | with_reducible refine bq_n ?_ | with_reducible refine bq_r ?_ | with_reducible refine bq_q ?_ | with_reducible refine st_block ?_ | with_reducible refine st_exit ?_ | with_reducible refine st_ret ?_ | with_reducible refine st_skip ?_ | with_reducible refine gq_n ?_ | with_reducible refine gq_r ?_ | with_reducible refine gq_e ?_ | with_reducible refine lq_n ?_ | with_reducible refine lq_r ?_ | with_reducible refine lq_e ?_ | with_reducible refine bq_e (by decide) ?_ | ((conv => whnf); first | (with_reducible refine hK_ _ _ ?_; try clear hK_ K_) | (with_reducible refine fun (g_ : Sl) (o_ : Ow) => ?_) | with_reducible exact True.intro | with_reducible refine And.intro trivial ?_ | with_reducible refine And.intro ?_ ?_ | exact Nat.le_of_ble_eq_true rfl | exact Or.inl rfl | (intro h_; cases h_) | (intro h_; (try simp only [cond_true, cond_false, decide_eq_true_eq, decide_eq_false_iff_not, Bool.not_eq_true', Bool.not_eq_false', Int.toNat_natCast, prodEta] at h_)) | rfl))) <;> (try (conv => whnf)) <;> (try first | change (_ : Int) ≤ _ | change (_ : Nat) ≤ _) <;> (try ((fail_if_success (with_reducible apply Exists.intro)); (try dsimp only); (try simp only [cond_true, cond_false, decide_eq_true_eq, decide_eq_false_iff_not, Bool.not_eq_true', Bool.not_eq_false', Int.toNat_natCast, prodEta]))) <;> (try simp (disch := omega) only [ptEq2, cond_true, cond_false, decide_eq_true_eq, decide_eq_false_iff_not, List.length_drop, List.take_length, Int.toNat_zero, List.drop_zero, Nat.zero_add, List.nil_append, mod_nat1, mod_nat2, tm1, tm2, tmj, W_in, Int.add_sub_cancel, tn1, tnp, tnc, List.length_append, List.length_take, List.length_replicate, List.length_set, List.length_map, List.length_cons, List.length_nil, prodEta, Int.toNat_natCast, beq_iff_eq, beq_eq_false_iff_ne, bne_iff_ne, bne_eq_false_iff_eq, ne_eq, Int.natCast_inj, Int.ofNat_lt, Int.ofNat_le] at *)
    all_goals (try (fail_if_success (with_reducible apply Exists.intro)); first | with_reducible assumption | omega | exact mdl (by omega) | exact ilo1 (by omega) | exact ilo2 (by omega) | exact ihi1 (by omega) (by omega) | exact ihi2 (by omega) (by omega))
    · exact absurd hbv (Int.not_le.2 ‹_›)
    refine awp'_loopG (α := Nat × List Int) (fun s ver_ => [(2, vInt s.1)]) (fun s ver_ => [(13, 60, false, .row t_int (.b .int) s.2)]) (fun s ver_ => []) (fun s => s.1 < ts.length ∧ ∃ pre : List Nat, s.2 = (pre ++ [s.1]).map (fun j : Nat => (j : Int)) ∧ pre ++ pth ts.length par s.1 a = pth ts.length par b a) (fun s => (pth ts.length par s.1 a).length) [1, 9] [16, 22] ((b, [(b : Int)])) ?_
    conv => whnf
    refine ⟨⟨?inv3_, ?vals3_, ?own3_, ?fix3_⟩, ?body3_⟩
    case' vals3_ => (repeat' (first | with_reducible exact True.intro | with_reducible refine And.intro ?_ ?_ | with_reducible refine Head.mk ?_ ?_ ?_ ?_ | ((conv => lhs; whnf); first | with_reducible rfl | with_reducible exact vInt_s (by omega) | exact rfl) | ((conv => whnf); first | with_reducible exact True.intro | with_reducible refine And.intro ?_ ?_))) <;> (try (conv => lhs; whnf))
    case' own3_ => (repeat' (first | with_reducible exact True.intro | with_reducible refine And.intro ?_ ?_ | with_reducible refine Head.mk ?_ ?_ ?_ ?_ | ((conv => lhs; whnf); first | with_reducible rfl | with_reducible exact vInt_s (by omega) | exact rfl) | ((conv => whnf); first | with_reducible exact True.intro | with_reducible refine And.intro ?_ ?_))) <;> (try (conv => lhs; whnf))
    case' fix3_ => (repeat' (first | with_reducible exact True.intro | with_reducible refine And.intro ?_ ?_ | with_reducible refine Head.mk ?_ ?_ ?_ ?_ | ((conv => lhs; whnf); first | with_reducible rfl | with_reducible exact vInt_s (by omega) | exact rfl) | ((conv => whnf); first | with_reducible exact True.intro | with_reducible refine And.intro ?_ ?_))) <;> (try (conv => lhs; whnf))
    · exact ⟨hb, [], rfl, rfl⟩
    rintro ⟨c, w⟩ g_ o_ v_ ⟨(hc : c < _), pre, (hw : w = _), hpre⟩
    have hcv : 0 ≤ fr.getD c 0 := hall c hc
    have hpl : (pth ts.length par b a).length ≤ 2 * ts.length + 1 := pthF_len _ _ _ _
    have hwl : w.length ≤ 2 * ts.length + 1 := by
      have h9 : (pre ++ pth ts.length par c a).length = (pth ts.length par b a).length := congrArg List.length hpre
      have h0 := pth_len hpar hc ha
      rw [List.length_append] at h9
      rw [hw, List.length_map, List.length_append, List.length_singleton]
      omega
    (repeat' (first | with_reducible exact True.intro | with_reducible refine st_seq ?_ | (with_reducible refine st_regionG hG_ ?_; intro K_ hK_) | (with_reducible refine st_region ?_; intro K_ hK_) | (with_reducible refine hK_ _ _ ?_; try clear hK_ K_) | ((with_reducible refine st_cond (b := ?b_) ?hb_ ?_ ?_); case hb_ => rfl) | with_reducible refine sq_n ?_ | with_reducible refine sq_r ?_ | with_reducible refine sq_e ?_ | with_reducible refine bq_n ?_ | with_reducible refine bq_r ?_ | with_reducible refine bq_q ?_ | with_reducible refine st_block ?_ | with_reducible refine st_exit ?_ | with_reducible refine st_ret ?_ | with_reducible refine st_skip ?_ | with_reducible refine gq_n ?_ | with_reducible refine gq_r ?_ | with_reducible refine gq_e ?_ | with_reducible refine lq_n ?_ | with_reducible refine lq_r ?_ | with_reducible refine lq_e ?_ | with_reducible refine bq_e (by decide) ?_ | ((conv => whnf); first | (with_reducible refine hK_ _ _ ?_; try clear hK_ K_) | (with_reducible refine fun (g_ : Sl) (o_ : Ow) => ?_) | with_reducible exact True.intro | with_reducible refine And.intro trivial ?_ | with_reducible refine And.intro ?_ ?_ | exact Nat.le_of_ble_eq_true rfl | exact Or.inl rfl | (intro h_; cases h_) | (intro h_; (try simp only [cond_true, cond_false, decide_eq_true_eq, decide_eq_false_iff_not, Bool.not_eq_true', Bool.not_eq_false', Int.toNat_natCast, prodEta] at h_)) | rfl))) <;> (try (conv => whnf)) <;> (try first | change (_ : Int) ≤ _ | change (_ : Nat) ≤ _) <;> (try ((fail_if_success (with_reducible apply Exists.intro)); (try dsimp only); (try simp only [cond_true, cond_false, decide_eq_true_eq, decide_eq_false_iff_not, Bool.not_eq_true', Bool.not_eq_false', Int.toNat_natCast, prodEta]))) <;> (try simp (disch := omega) only [ptEq2, cond_true, cond_false, decide_eq_true_eq, decide_eq_false_iff_not, List.length_drop, List.take_length, Int.toNat_zero, List.drop_zero, Nat.zero_add, List.nil_append, mod_nat1, mod_nat2, tm1, tm2, tmj, W_in, Int.add_sub_cancel, tn1, tnp, tnc, List.length_append, List.length_take, List.length_replicate, List.length_set, List.length_map, List.length_cons, List.length_nil, prodEta, Int.toNat_natCast, beq_iff_eq, beq_eq_false_iff_ne, bne_iff_ne, bne_eq_false_iff_eq, ne_eq, Int.natCast_inj, Int.ofNat_lt, Int.ofNat_le] at *)
    all_goals (try (fail_if_success (with_reducible apply Exists.intro)); first | with_reducible assumption | omega | exact mdl (by omega) | exact ilo1 (by omega) | exact ilo2 (by omega) | exact ihi1 (by omega) (by omega) | exact ihi2 (by omega) (by omega))
    · obtain ⟨d, hd, hde, -, hdp⟩ := hB.up c hc h_ hcv
      refine ⟨(d, w ++ [(d : Int)]), by show (pth _ _ d a).length < _; rw [hdp, List.length_cons]; omega, ⟨hd, pre ++ [c], by rw [hw]; simp, by rw [← hpre, hdp]; simp⟩, ?_⟩
      (repeat' (first | with_reducible exact True.intro | with_reducible refine And.intro ?_ ?_ | with_reducible refine Head.mk ?_ ?_ ?_ ?_ | ((conv => lhs; whnf); first | with_reducible rfl | with_reducible exact vInt_s (by omega) | exact rfl) | ((conv => whnf); first | with_reducible exact True.intro | with_reducible refine And.intro ?_ ?_))) <;> (try (conv => lhs; whnf))
      all_goals first
        | exact congrArg vInt hde
        | exact congrArg (Own.row t_int (.b .int)) (by show _ ++ [fr.getD c 0] = _; rw [show fr.getD c 0 = (d : Int) from hde])
    · obtain rfl : c = a := by omega
      refine congrArg some ?_
      show w.reverse = way
      rw [← hrev, ← hpre, pth_self hc, hw]
  · obtain ⟨u, rfl, hu, huv⟩ := hQ q List.mem_cons_self
    have hbl := besTo_len ts (u : Int) ts.length
    have hq0 : ((u : Int) :: Q).getD 0 (ElK.b ElB.int).dflt = u := rfl
    (repeat' (first | with_reducible exact True.intro | with_reducible refine st_seq ?_ | (with_reducible refine st_regionG hG_ ?_; intro K_ hK_) | (with_reducible refine st_region ?_; intro K_ hK_) | (with_reducible refine hK_ _ _ ?_; try clear hK_ K_) | ((with_reducible refine st_cond (b := ?b_) ?hb_ ?_ ?_); case hb_ => rfl) | with_reducible refine sq_n ?_ | with_reducible refine sq_r ?_ | with_reducible refine sq_e ?_ | with_reducible refine bq_n ?_ | with_reducible refine bq_r ?_ | with_reducible refine bq_q ?_ | with_reducible refine st_block ?_ | with_reducible refine st_exit ?_ | with_reducible refine st_ret ?_ | with_reducible refine st_skip ?_ | with_reducible refine gq_n ?_ | with_reducible refine gq_r ?_ | with_reducible refine gq_e ?_ | with_reducible refine lq_n ?_ | with_reducible refine lq_r ?_ | with_reducible refine lq_e ?_ | with_reducible refine bq_e (by decide) ?_ | ((conv => whnf); first | (with_reducible refine hK_ _ _ ?_; try clear hK_ K_) | (with_reducible refine fun (g_ : Sl) (o_ : Ow) => ?_) | with_reducible exact True.intro | with_reducible refine And.intro trivial ?_ | with_reducible refine And.intro ?_ ?_ | exact Nat.le_of_ble_eq_true rfl | exact Or.inl rfl | (intro h_; cases h_) | (intro h_; (try simp only [cond_true, cond_false, decide_eq_true_eq, decide_eq_false_iff_not, Bool.not_eq_true', Bool.not_eq_false', Int.toNat_natCast, prodEta] at h_)) | rfl))) <;> (try (conv => whnf)) <;> (try first | change (_ : Int) ≤ _ | change (_ : Nat) ≤ _) <;> (try ((fail_if_success (with_reducible apply Exists.intro)); (try dsimp only); (try simp only [cond_true, cond_false, decide_eq_true_eq, decide_eq_false_iff_not, Bool.not_eq_true', Bool.not_eq_false', Int.toNat_natCast, prodEta]))) <;> (try simp (disch := omega) only [ptEq2, cond_true, cond_false, decide_eq_true_eq, decide_eq_false_iff_not, List.length_drop, List.take_length, Int.toNat_zero, List.drop_zero, Nat.zero_add, List.nil_append, mod_nat1, mod_nat2, tm1, tm2, tmj, W_in, Int.add_sub_cancel, tn1, tnp, tnc, List.length_append, List.length_take, List.length_replicate, List.length_set, List.length_map, List.length_cons, List.length_nil, prodEta, Int.toNat_natCast, beq_iff_eq, beq_eq_false_iff_ne, bne_iff_ne, bne_eq_false_iff_eq, ne_eq, Int.natCast_inj, Int.ofNat_lt, Int.ofNat_le] at *) <;> (try simp only [hq0, Int.toNat_natCast] at *)
    all_goals (try (fail_if_success (with_reducible apply Exists.intro)); first | with_reducible assumption | omega | exact mdl (by omega) | exact ilo1 (by omega) | exact ilo2 (by omega) | exact ihi1 (by omega) (by omega) | exact ihi2 (by omega) (by omega))
    ·
     refine awp'_loopG (α := Nat × List Int × List Int) (fun s ver_ => [(34, vInt s.1)]) (fun s ver_ => [(9, 16, false, .row t_int (.b .int) s.2.1), (10, 22, false, .tail t_int (.b .int) ((u : Int) :: s.2.2))]) (fun s ver_ => []) (fun s => s.1 ≤ (besTo ts u ts.length).length ∧ Bfs ts.length par a s.2.1 (fun v => v = u ∨ (v : Int) ∈ s.2.2) ∧ InQ ts.length s.2.1 s.2.2 ∧ 0 ≤ gV s.2.1 u ∧ (∀ j, j < s.1 → 0 ≤ gV s.2.1 ((besTo ts u ts.length).getD j 0).toNat) ∧ s.2.2.length + unf s.2.1 = Q.length + unf fr) (fun s => (besTo ts u ts.length).length - s.1) [1, 2, 3, 32, 33] [] ((0, fr, Q)) ?_
     conv => whnf
     refine ⟨⟨?inv4_, ?vals4_, ?own4_, ?fix4_⟩, ?body4_⟩
     case' vals4_ => (repeat' (first | with_reducible exact True.intro | with_reducible refine And.intro ?_ ?_ | with_reducible refine Head.mk ?_ ?_ ?_ ?_ | ((conv => lhs; whnf); first | with_reducible rfl | with_reducible exact vInt_s (by omega) | exact rfl) | ((conv => whnf); first | with_reducible exact True.intro | with_reducible refine And.intro ?_ ?_))) <;> (try (conv => lhs; whnf))
     case' own4_ => (repeat' (first | with_reducible exact True.intro | with_reducible refine And.intro ?_ ?_ | with_reducible refine Head.mk ?_ ?_ ?_ ?_ | ((conv => lhs; whnf); first | with_reducible rfl | with_reducible exact vInt_s (by omega) | exact rfl) | ((conv => whnf); first | with_reducible exact True.intro | with_reducible refine And.intro ?_ ?_))) <;> (try (conv => lhs; whnf))
     case' fix4_ => (repeat' (first | with_reducible exact True.intro | with_reducible refine And.intro ?_ ?_ | with_reducible refine Head.mk ?_ ?_ ?_ ?_ | ((conv => lhs; whnf); first | with_reducible rfl | with_reducible exact vInt_s (by omega) | exact rfl) | ((conv => whnf); first | with_reducible exact True.intro | with_reducible refine And.intro ?_ ?_))) <;> (try (conv => lhs; whnf))
     · exact ⟨Nat.zero_le _, hB.imp fun v _ hv => .inl ((List.mem_cons.1 hv).imp (fun e => by exact_mod_cast e) id), hQ.tail, huv, fun j hj => absurd hj (by omega), rfl⟩
     rintro ⟨j, fr', Q'⟩ g_ o_ v_ ⟨(hj : j ≤ _), (hB' : Bfs _ _ _ fr' _), (hQ' : InQ _ fr' Q'), (huv' : 0 ≤ gV fr' u), hdone, (hlen' : Q'.length + unf fr' = _)⟩
     have hfl' := hB'.len
     have hq0' : ((u : Int) :: Q').getD 0 (ElK.b ElB.int).dflt = u := rfl
     have hkk : j < (besTo ts u ts.length).length → ∃ k : Nat, (besTo ts u ts.length).getD j (ElK.b ElB.int).dflt = k ∧ k < ts.length ∧ TAdj ts.length par u k := fun hjl => by
       have hm : (besTo ts u ts.length).getD j 0 ∈ besTo ts u ts.length := by rw [getD_lt _ hjl]; exact List.getElem_mem _
       obtain ⟨k, hk1, hk2, hk3⟩ := bes_mem.1 hm
       exact ⟨k, hk2, hk1, (hadj u k hu hk1).1 hk3⟩
     rcases Nat.lt_or_ge j (besTo ts u ts.length).length with hjl | hjl
     · obtain ⟨k, hk2, hk1, hkt⟩ := hkk hjl
       have hk2p : PLift ((besTo ts u ts.length).getD j 0 = (k : Int)) := ⟨hk2⟩
       clear hkk
       (repeat' (first | with_reducible exact True.intro | with_reducible refine st_seq ?_ | (with_reducible refine st_regionG hG_ ?_; intro K_ hK_) | (with_reducible refine st_region ?_; intro K_ hK_) | (with_reducible refine hK_ _ _ ?_; try clear hK_ K_) | ((with_reducible refine st_cond (b := ?b_) ?hb_ ?_ ?_); case hb_ => rfl) | with_reducible refine sq_n ?_ | with_reducible refine sq_r ?_ | with_reducible refine sq_e ?_ | with_reducible refine bq_n ?_ | with_reducible refine bq_r ?_ | with_reducible refine bq_q ?_ | with_reducible refine st_block ?_ | with_reducible refine st_exit ?_ | with_reducible refine st_ret ?_ | with_reducible refine st_skip ?_ | with_reducible refine gq_n ?_ | with_reducible refine gq_r ?_ | with_reducible refine gq_e ?_ | with_reducible refine lq_n ?_ | with_reducible refine lq_r ?_ | with_reducible refine lq_e ?_ | with_reducible refine bq_e (by decide) ?_ | ((conv => whnf); first | (with_reducible refine hK_ _ _ ?_; try clear hK_ K_) | (with_reducible refine fun (g_ : Sl) (o_ : Ow) => ?_) | with_reducible exact True.intro | with_reducible refine And.intro trivial ?_ | with_reducible refine And.intro ?_ ?_ | exact Nat.le_of_ble_eq_true rfl | exact Or.inl rfl | (intro h_; cases h_) | (intro h_; (try simp only [cond_true, cond_false, decide_eq_true_eq, decide_eq_false_iff_not, Bool.not_eq_true', Bool.not_eq_false', Int.toNat_natCast, prodEta] at h_)) | rfl))) <;> (try (conv => whnf)) <;> (try first | change (_ : Int) ≤ _ | change (_ : Nat) ≤ _) <;> (try ((fail_if_success (with_reducible apply Exists.intro)); (try dsimp only); (try simp only [cond_true, cond_false, decide_eq_true_eq, decide_eq_false_iff_not, Bool.not_eq_true', Bool.not_eq_false', Int.toNat_natCast, prodEta]))) <;> (try simp (disch := omega) only [ptEq2, cond_true, cond_false, decide_eq_true_eq, decide_eq_false_iff_not, List.length_drop, List.take_length, Int.toNat_zero, List.drop_zero, Nat.zero_add, List.nil_append, mod_nat1, mod_nat2, tm1, tm2, tmj, W_in, Int.add_sub_cancel, tn1, tnp, tnc, List.length_append, List.length_take, List.length_replicate, List.length_set, List.length_map, List.length_cons, List.length_nil, prodEta, Int.toNat_natCast, beq_iff_eq, beq_eq_false_iff_ne, bne_iff_ne, bne_eq_false_iff_eq, ne_eq, Int.natCast_inj, Int.ofNat_lt, Int.ofNat_le] at *) <;> (try simp only [hq0', hk2, Int.toNat_natCast] at *)
       all_goals (try (fail_if_success (with_reducible apply Exists.intro)); first | with_reducible assumption | omega | exact mdl (by omega) | exact ilo1 (by omega) | exact ilo2 (by omega) | exact ihi1 (by omega) (by omega) | exact ihi2 (by omega) (by omega))
       · have hfk : gV fr' k < 0 := h_
         have hk2' := hk2p.down
         have hcnt := unf_set (u := (u : Int)) (by omega) (fr := fr') (k := k) (by omega) hfk
         refine ⟨(j + 1, fr'.set k u, Q' ++ [(k : Int)]), by show _ - (j + 1) < _; omega, ⟨by show j + 1 ≤ _; omega, ?_, hQ'.step (by omega) hk1 hfl', ?_, fun i hi => ?_, ?_⟩, ?_⟩
         · exact hB'.step hpar ha huv' hkt hfk (fun v hv => hv.imp id fun hv => List.mem_append_left _ hv) (.inr (List.mem_append_right _ (List.mem_singleton.2 rfl)))
         · show 0 ≤ gV (fr'.set k u) u
           rw [gV_set (by omega)]
           split <;> omega
         · show 0 ≤ gV (fr'.set k u) ((besTo ts u ts.length).getD i 0).toNat
           have hi : i < j + 1 := hi
           rw [gV_set (by omega)]
           split
           · omega
           · rename_i hne
             rcases Nat.lt_or_ge i j with h5 | h5
             · exact hdone i h5
             · obtain rfl : i = j := by omega
               exact absurd (by rw [hk2']; rfl) hne
         · show (Q' ++ [(k : Int)]).length + unf (fr'.set k u) = _
           rw [List.length_append, List.length_singleton]
           omega
         · (repeat' (first | with_reducible exact True.intro | with_reducible refine And.intro ?_ ?_ | with_reducible refine Head.mk ?_ ?_ ?_ ?_ | ((conv => lhs; whnf); first | with_reducible rfl | with_reducible exact vInt_s (by omega) | exact rfl) | ((conv => whnf); first | with_reducible exact True.intro | with_reducible refine And.intro ?_ ?_))) <;> (try (conv => lhs; whnf))
       · have hfk : ¬ gV fr' k < 0 := h_
         have hk2' := hk2p.down
         refine ⟨(j + 1, fr', Q'), by show _ - (j + 1) < _; omega, ⟨by show j + 1 ≤ _; omega, hB', hQ', huv', fun i hi => ?_, hlen'⟩, by (repeat' (first | with_reducible exact True.intro | with_reducible refine And.intro ?_ ?_ | with_reducible refine Head.mk ?_ ?_ ?_ ?_ | ((conv => lhs; whnf); first | with_reducible rfl | with_reducible exact vInt_s (by omega) | exact rfl) | ((conv => whnf); first | with_reducible exact True.intro | with_reducible refine And.intro ?_ ?_))) <;> (try (conv => lhs; whnf))⟩
         have hi : i < j + 1 := hi
         rcases Nat.lt_or_ge i j with h5 | h5
         · exact hdone i h5
         · obtain rfl : i = j := by omega
           show 0 ≤ gV fr' ((besTo ts u ts.length).getD i 0).toNat
           rw [hk2']
           exact Int.not_lt.1 hfk
       · exfalso; omega
     · clear hkk
       (repeat' (first | with_reducible exact True.intro | with_reducible refine st_seq ?_ | (with_reducible refine st_regionG hG_ ?_; intro K_ hK_) | (with_reducible refine st_region ?_; intro K_ hK_) | (with_reducible refine hK_ _ _ ?_; try clear hK_ K_) | ((with_reducible refine st_cond (b := ?b_) ?hb_ ?_ ?_); case hb_ => rfl) | with_reducible refine sq_n ?_ | with_reducible refine sq_r ?_ | with_reducible refine sq_e ?_ | with_reducible refine bq_n ?_ | with_reducible refine bq_r ?_ | with_reducible refine bq_q ?_ | with_reducible refine st_block ?_ | with_reducible refine st_exit ?_ | with_reducible refine st_ret ?_ | with_reducible refine st_skip ?_ | with_reducible refine gq_n ?_ | with_reducible refine gq_r ?_ | with_reducible refine gq_e ?_ | with_reducible refine lq_n ?_ | with_reducible refine lq_r ?_ | with_reducible refine lq_e ?_ | with_reducible refine bq_e (by decide) ?_ | ((conv => whnf); first | (with_reducible refine hK_ _ _ ?_; try clear hK_ K_) | (with_reducible refine fun (g_ : Sl) (o_ : Ow) => ?_) | with_reducible exact True.intro | with_reducible refine And.intro trivial ?_ | with_reducible refine And.intro ?_ ?_ | exact Nat.le_of_ble_eq_true rfl | exact Or.inl rfl | (intro h_; cases h_) | (intro h_; (try simp only [cond_true, cond_false, decide_eq_true_eq, decide_eq_false_iff_not, Bool.not_eq_true', Bool.not_eq_false', Int.toNat_natCast, prodEta] at h_)) | rfl))) <;> (try (conv => whnf)) <;> (try first | change (_ : Int) ≤ _ | change (_ : Nat) ≤ _) <;> (try ((fail_if_success (with_reducible apply Exists.intro)); (try dsimp only); (try simp only [cond_true, cond_false, decide_eq_true_eq, decide_eq_false_iff_not, Bool.not_eq_true', Bool.not_eq_false', Int.toNat_natCast, prodEta]))) <;> (try simp (disch := omega) only [ptEq2, cond_true, cond_false, decide_eq_true_eq, decide_eq_false_iff_not, List.length_drop, List.take_length, Int.toNat_zero, List.drop_zero, Nat.zero_add, List.nil_append, mod_nat1, mod_nat2, tm1, tm2, tmj, W_in, Int.add_sub_cancel, tn1, tnp, tnc, List.length_append, List.length_take, List.length_replicate, List.length_set, List.length_map, List.length_cons, List.length_nil, prodEta, Int.toNat_natCast, beq_iff_eq, beq_eq_false_iff_ne, bne_iff_ne, bne_eq_false_iff_eq, ne_eq, Int.natCast_inj, Int.ofNat_lt, Int.ofNat_le] at *)
       all_goals (try (fail_if_success (with_reducible apply Exists.intro)); first | with_reducible assumption | omega | exact mdl (by omega) | exact ilo1 (by omega) | exact ilo2 (by omega) | exact ihi1 (by omega) (by omega) | exact ihi2 (by omega) (by omega))
       · exfalso; omega
       · exfalso; omega
       · refine ⟨(fr', Q'), by show Q'.length + unf fr' < _; omega, ⟨hB'.imp fun v hv hW => ?_, hQ', by show Q'.length + unf fr' ≤ _; omega⟩, by (repeat' (first | with_reducible exact True.intro | with_reducible refine And.intro ?_ ?_ | with_reducible refine Head.mk ?_ ?_ ?_ ?_ | ((conv => lhs; whnf); first | with_reducible rfl | with_reducible exact vInt_s (by omega) | exact rfl) | ((conv => whnf); first | with_reducible exact True.intro | with_reducible refine And.intro ?_ ?_))) <;> (try (conv => lhs; whnf))⟩
         rcases hW with rfl | hW
         · refine .inr fun k hk => ?_
           have hkm := (hk.lt hpar).2
           obtain ⟨i, hi, hie⟩ := List.getElem_of_mem (bes_mem.2 ⟨k, hkm, rfl, (hadj v k hv hkm).2 hk⟩ : (k : Int) ∈ besTo ts v ts.length)
           have := hdone i (by show i < j; omega)
           rw [getD_lt _ hi, hie] at this
           exact this
         · exact .inl hW
    · exfalso; omega
def wayC : Con := mkCon [.sl (.b .tri), .int, .int] (fun x => ∃ xs, x.1 = trisM xs ∧ (0 ≤ x.2.1 ∧ x.2.1 < x.1.length) ∧ 0 ≤ x.2.2.1 ∧ x.2.2.1 < x.1.length) fun x => rowI (wayL x.1 x.2.1.toNat x.2.2.1.toNat)
theorem l20Way_ok : Good1 Tryz.prog n_spec_l20Way wayC := by
  refine good_ofG (tys := tyL) (env := [(n_spec_l20Common, commonC)]) (envw := []) [15, 30, 73, 74, 87, 95] [] [] [] mixed tys ⟨l20Common_ok, trivial⟩ trivial Tryz.func51 rfl (by kernel_rfl) (by decide) (by kernel_rfl) ?_
  have hG_ := kpz [(0, [0, 1, 2]), (1, [0, 1, 2, 7]), (2, [0, 1, 2, 7, 8]), (3, [0, 1, 2, 7, 8, 19]), (4, [0, 1, 2, 7, 8]), (5, [0, 1, 2, 7, 8]), (6, [0, 1, 2, 7]), (7, [0, 1, 2, 7, 9]), (8, [0, 1, 2, 7, 9, 10]), (9, [0, 1, 2, 7, 9, 10, 34]), (10, [0, 1, 2, 7, 9, 10]), (11, [0, 1, 2, 7, 9, 10, 11]), (12, [0, 1, 2, 7, 9, 10, 11, 40]), (13, [0, 1, 2, 7, 9, 10, 11]), (14, [0, 1, 2, 7, 9, 10, 11, 62]), (15, [0, 1, 2, 7, 9, 10, 11]), (16, [0, 1, 2, 7, 9, 10, 11]), (17, [1, 2, 7, 12]), (18, [1, 2, 7, 12, 79]), (19, [6]), (20, [1, 2, 7, 12, 83]), (21, [1, 2, 7, 12]), (22, [1, 2, 7, 12]), (23, [6])] [(1, [15]), (2, [15]), (3, [15]), (4, [15]), (5, [15]), (6, [15]), (7, [15, 30]), (8, [15, 30]), (9, [15, 30]), (10, [15, 30]), (11, [15, 30]), (12, [15, 30]), (13, [15, 30]), (14, [15, 30]), (15, [15, 30]), (16, [15, 30, 73]), (17, [15, 30, 74]), (18, [15, 30, 74]), (19, [15, 30, 74]), (20, [15, 30, 74]), (21, [15, 30, 74, 87]), (22, [15, 30, 74, 87]), (23, [15, 30, 74, 95])] [] []
  rintro ⟨(ts : List Tri), (a : Int), (b : Int), ⟨⟩⟩ ⟨xs, (rfl : ts = trisM xs), ⟨(ha0 : 0 ≤ a), (ha1 : a < _)⟩, (hb0 : 0 ≤ b), (hb1 : b < _)⟩
  obtain ⟨a, rfl⟩ := Int.eq_ofNat_of_zero_le ha0
  obtain ⟨b, rfl⟩ := Int.eq_ofNat_of_zero_le hb0
  have htl := tri_len11 xs
  have hpar := parT_is xs
  have ha : a < (trisM xs).length := by have h : (a : Int) < ((trisM xs).length : Int) := ha1; omega
  have hb : b < (trisM xs).length := by have h : (b : Int) < ((trisM xs).length : Int) := hb1; omega
  have hadj : ∀ u k, u < (trisM xs).length → k < (trisM xs).length → (besAt (trisM xs) (u : Int) k = true ↔ TAdj (trisM xs).length (parT xs) u k) := fun u k => adj_iff
  have hway : wayL (trisM xs) a b = (pth (trisM xs).length (parT xs) a b).map fun j : Nat => (j : Int) := rfl
  show awp' _ _ (Fin' _ _ (rowI (wayL (trisM xs) a b))) _ _
  generalize wayL (trisM xs) a b = way at hway ⊢
  generalize parT xs = par at *
  generalize trisM xs = ts at *
  (repeat' (first | with_reducible exact True.intro | with_reducible refine st_seq ?_ | (with_reducible refine st_regionG hG_ ?_; intro K_ hK_) | (with_reducible refine st_region ?_; intro K_ hK_) | (with_reducible refine hK_ _ _ ?_; try clear hK_ K_) | ((with_reducible refine st_cond (b := ?b_) ?hb_ ?_ ?_); case hb_ => rfl) | with_reducible refine sq_n ?_ | with_reducible refine sq_r ?_ | with_reducible refine sq_e ?_ | with_reducible refine bq_n ?_ | with_reducible refine bq_r ?_ | with_reducible refine bq_q ?_ | with_reducible refine st_block ?_ | with_reducible refine st_exit ?_ | with_reducible refine st_ret ?_ | with_reducible refine st_skip ?_ | with_reducible refine gq_n ?_ | with_reducible refine gq_r ?_ | with_reducible refine gq_e ?_ | with_reducible refine lq_n ?_ | with_reducible refine lq_r ?_ | with_reducible refine lq_e ?_ | with_reducible refine bq_e (by decide) ?_ | ((conv => whnf); first | (with_reducible refine hK_ _ _ ?_; try clear hK_ K_) | (with_reducible refine fun (g_ : Sl) (o_ : Ow) => ?_) | with_reducible exact True.intro | with_reducible refine And.intro trivial ?_ | with_reducible refine And.intro ?_ ?_ | exact Nat.le_of_ble_eq_true rfl | exact Or.inl rfl | (intro h_; cases h_) | (intro h_; (try simp only [cond_true, cond_false, decide_eq_true_eq, decide_eq_false_iff_not, Bool.not_eq_true', Bool.not_eq_false', Int.toNat_natCast, prodEta] at h_)) | rfl))) <;> (try (conv => whnf)) <;> (try first | change (_ : Int) ≤ _ | change (_ : Nat) ≤ _) <;> (try ((fail_if_success (with_reducible apply Exists.intro)); (try dsimp only); (try simp only [cond_true, cond_false, decide_eq_true_eq, decide_eq_false_iff_not, Bool.not_eq_true', Bool.not_eq_false', Int.toNat_natCast, prodEta]))) <;> (try simp (disch := omega) only [ptEq2, cond_true, cond_false, decide_eq_true_eq, decide_eq_false_iff_not, List.length_drop, List.take_length, Int.toNat_zero, List.drop_zero, Nat.zero_add, List.nil_append, mod_nat1, mod_nat2, tm1, tm2, tmj, W_in, Int.add_sub_cancel, tn1, tnp, tnc, List.length_append, List.length_take, List.length_replicate, List.length_set, List.length_map, List.length_cons, List.length_nil, prodEta, Int.toNat_natCast, beq_iff_eq, beq_eq_false_iff_ne, bne_iff_ne, bne_eq_false_iff_eq, ne_eq, Int.natCast_inj, Int.ofNat_lt, Int.ofNat_le] at *)
  all_goals (try (fail_if_success (with_reducible apply Exists.intro)); first | with_reducible assumption | omega | exact mdl (by omega) | exact ilo1 (by omega) | exact ilo2 (by omega) | exact ihi1 (by omega) (by omega) | exact ihi2 (by omega) (by omega))
  refine awp'_loopG (α := Nat) (fun k ver_ => [(8, vInt k)]) (fun k ver_ => [(7, 15, false, .row t_int (.b .int) (repR (-1) ts.length k))]) (fun k ver_ => []) (fun k => k ≤ ts.length) (fun k => ts.length - k) [0, 1, 2] [] (0) ?_
  conv => whnf
  refine ⟨⟨?inv5_, ?vals5_, ?own5_, ?fix5_⟩, ?body5_⟩
  case' vals5_ => (repeat' (first | with_reducible exact True.intro | with_reducible refine And.intro ?_ ?_ | with_reducible refine Head.mk ?_ ?_ ?_ ?_ | ((conv => lhs; whnf); first | with_reducible rfl | with_reducible exact vInt_s (by omega) | exact rfl) | ((conv => whnf); first | with_reducible exact True.intro | with_reducible refine And.intro ?_ ?_))) <;> (try (conv => lhs; whnf))
  case' own5_ => (repeat' (first | with_reducible exact True.intro | with_reducible refine And.intro ?_ ?_ | with_reducible refine Head.mk ?_ ?_ ?_ ?_ | ((conv => lhs; whnf); first | with_reducible rfl | with_reducible exact vInt_s (by omega) | exact rfl) | ((conv => whnf); first | with_reducible exact True.intro | with_reducible refine And.intro ?_ ?_))) <;> (try (conv => lhs; whnf))
  case' fix5_ => (repeat' (first | with_reducible exact True.intro | with_reducible refine And.intro ?_ ?_ | with_reducible refine Head.mk ?_ ?_ ?_ ?_ | ((conv => lhs; whnf); first | with_reducible rfl | with_reducible exact vInt_s (by omega) | exact rfl) | ((conv => whnf); first | with_reducible exact True.intro | with_reducible refine And.intro ?_ ?_))) <;> (try (conv => lhs; whnf))
  · exact Nat.zero_le _
  rintro k g_ o_ v_ hk
  have hrl := rep_len (-1) hk
  (repeat' (first | with_reducible exact True.intro | with_reducible refine st_seq ?_ | (with_reducible refine st_regionG hG_ ?_; intro K_ hK_) | (with_reducible refine st_region ?_; intro K_ hK_) | (with_reducible refine hK_ _ _ ?_; try clear hK_ K_) | ((with_reducible refine st_cond (b := ?b_) ?hb_ ?_ ?_); case hb_ => rfl) | with_reducible refine sq_n ?_ | with_reducible refine sq_r ?_ | with_reducible refine sq_e ?_ | with_reducible refine bq_n ?_ | with_reducible refine bq_r ?_ | with_reducible refine bq_q ?_ | with_reducible refine st_block ?_ | with_reducible refine st_exit ?_ | with_reducible refine st_ret ?_ | with_reducible refine st_skip ?_ | with_reducible refine gq_n ?_ | with_reducible refine gq_r ?_ | with_reducible refine gq_e ?_ | with_reducible refine lq_n ?_ | with_reducible refine lq_r ?_ | with_reducible refine lq_e ?_ | with_reducible refine bq_e (by decide) ?_ | ((conv => whnf); first | (with_reducible refine hK_ _ _ ?_; try clear hK_ K_) | (with_reducible refine fun (g_ : Sl) (o_ : Ow) => ?_) | with_reducible exact True.intro | with_reducible refine And.intro trivial ?_ | with_reducible refine And.intro ?_ ?_ | exact Nat.le_of_ble_eq_true rfl | exact Or.inl rfl | (intro h_; cases h_) | (intro h_; (try simp only [cond_true, cond_false, decide_eq_true_eq, decide_eq_false_iff_not, Bool.not_eq_true', Bool.not_eq_false', Int.toNat_natCast, prodEta] at h_)) | rfl))) <;> (try (conv => whnf)) <;> (try first | change (_ : Int) ≤ _ | change (_ : Nat) ≤ _) <;> (try ((fail_if_success (with_reducible apply Exists.intro)); (try dsimp only); (try simp only [cond_true, cond_false, decide_eq_true_eq, decide_eq_false_iff_not, Bool.not_eq_true', Bool.not_eq_false', Int.toNat_natCast, prodEta]))) <;> (try simp (disch := omega) only [ptEq2, cond_true, cond_false, decide_eq_true_eq, decide_eq_false_iff_not, List.length_drop, List.take_length, Int.toNat_zero, List.drop_zero, Nat.zero_add, List.nil_append, mod_nat1, mod_nat2, tm1, tm2, tmj, W_in, Int.add_sub_cancel, tn1, tnp, tnc, List.length_append, List.length_take, List.length_replicate, List.length_set, List.length_map, List.length_cons, List.length_nil, prodEta, Int.toNat_natCast, beq_iff_eq, beq_eq_false_iff_ne, bne_iff_ne, bne_eq_false_iff_eq, ne_eq, Int.natCast_inj, Int.ofNat_lt, Int.ofNat_le] at *)
  all_goals (try (fail_if_success (with_reducible apply Exists.intro)); first | with_reducible assumption | omega | exact mdl (by omega) | exact ilo1 (by omega) | exact ilo2 (by omega) | exact ihi1 (by omega) (by omega) | exact ihi2 (by omega) (by omega))
  · refine ⟨k + 1, by omega, by omega, ?_⟩
    (repeat' (first | with_reducible exact True.intro | with_reducible refine And.intro ?_ ?_ | with_reducible refine Head.mk ?_ ?_ ?_ ?_ | ((conv => lhs; whnf); first | with_reducible rfl | with_reducible exact vInt_s (by omega) | exact rfl) | ((conv => whnf); first | with_reducible exact True.intro | with_reducible refine And.intro ?_ ?_))) <;> (try (conv => lhs; whnf))
    exact congrArg (Own.row t_int (.b .int)) (rep_set (by assumption))
  obtain rfl : k = ts.length := by omega
  refine awp'_loopG (α := Nat × List Int × List Int) (fun s ver_ => [(10, vInt s.1)]) (fun s ver_ => [(7, 15, false, .row t_int (.b .int) s.2.1), (9, 30, false, .row t_int (.b .int) s.2.2)]) (fun s ver_ => []) (fun s => s.1 ≤ s.2.2.length ∧ Bfs ts.length par b s.2.1 (fun v => (v : Int) ∈ s.2.2.drop s.1) ∧ InQ ts.length s.2.1 s.2.2 ∧ s.2.2.length + unf s.2.1 ≤ ts.length) (fun s => ts.length - s.1) [0, 1, 2] [] ((0, (List.replicate ts.length (-1)).set b b, [(b : Int)])) ?_
  conv => whnf
  refine ⟨⟨?inv6_, ?vals6_, ?own6_, ?fix6_⟩, ?body6_⟩
  case' vals6_ => (repeat' (first | with_reducible exact True.intro | with_reducible refine And.intro ?_ ?_ | with_reducible refine Head.mk ?_ ?_ ?_ ?_ | ((conv => lhs; whnf); first | with_reducible rfl | with_reducible exact vInt_s (by omega) | exact rfl) | ((conv => whnf); first | with_reducible exact True.intro | with_reducible refine And.intro ?_ ?_))) <;> (try (conv => lhs; whnf))
  case' own6_ => (repeat' (first | with_reducible exact True.intro | with_reducible refine And.intro ?_ ?_ | with_reducible refine Head.mk ?_ ?_ ?_ ?_ | ((conv => lhs; whnf); first | with_reducible rfl | with_reducible exact vInt_s (by omega) | exact rfl) | ((conv => whnf); first | with_reducible exact True.intro | with_reducible refine And.intro ?_ ?_))) <;> (try (conv => lhs; whnf))
  case' fix6_ => (repeat' (first | with_reducible exact True.intro | with_reducible refine And.intro ?_ ?_ | with_reducible refine Head.mk ?_ ?_ ?_ ?_ | ((conv => lhs; whnf); first | with_reducible rfl | with_reducible exact vInt_s (by omega) | exact rfl) | ((conv => whnf); first | with_reducible exact True.intro | with_reducible refine And.intro ?_ ?_))) <;> (try (conv => lhs; whnf))
  · exact congrArg (Own.row t_int (.b .int)) (by rw [rep_full])
  · exact ⟨Nat.zero_le _, bfs_start hb (List.mem_singleton.2 rfl), fun x hx => ⟨b, List.mem_singleton.1 hx, hb, by show 0 ≤ gV _ b; rw [gV_set (by simpa using hb), if_pos rfl]; omega⟩, by have := unf_start hb; show 1 + unf ((List.replicate ts.length (-1)).set b b) ≤ _; omega⟩
  rintro ⟨k, fr, Q⟩ g_ o_ v_ ⟨(hk : k ≤ Q.length), (hB : Bfs _ _ _ fr _), (hQ : InQ _ fr Q), (hlen : Q.length + unf fr ≤ _)⟩
  have hfl := hB.len
  (repeat' (first | with_reducible exact True.intro | with_reducible refine st_seq ?_ | (with_reducible refine st_regionG hG_ ?_; intro K_ hK_) | (with_reducible refine st_region ?_; intro K_ hK_) | (with_reducible refine hK_ _ _ ?_; try clear hK_ K_) | ((with_reducible refine st_cond (b := ?b_) ?hb_ ?_ ?_); case hb_ => rfl) | with_reducible refine sq_n ?_ | with_reducible refine sq_r ?_ | with_reducible refine sq_e ?_ | with_reducible refine bq_n ?_ | with_reducible refine bq_r ?_ | with_reducible refine bq_q ?_ | with_reducible refine st_block ?_ | with_reducible refine st_exit ?_ | with_reducible refine st_ret ?_ | with_reducible refine st_skip ?_ | with_reducible refine gq_n ?_ | with_reducible refine gq_r ?_ | with_reducible refine gq_e ?_ | with_reducible refine lq_n ?_ | with_reducible refine lq_r ?_ | with_reducible refine lq_e ?_ | with_reducible refine bq_e (by decide) ?_ | ((conv => whnf); first | (with_reducible refine hK_ _ _ ?_; try clear hK_ K_) | (with_reducible refine fun (g_ : Sl) (o_ : Ow) => ?_) | with_reducible exact True.intro | with_reducible refine And.intro trivial ?_ | with_reducible refine And.intro ?_ ?_ | exact Nat.le_of_ble_eq_true rfl | exact Or.inl rfl | (intro h_; cases h_) | (intro h_; (try simp only [cond_true, cond_false, decide_eq_true_eq, decide_eq_false_iff_not, Bool.not_eq_true', Bool.not_eq_false', Int.toNat_natCast, prodEta] at h_)) | rfl))) <;> (try (conv => whnf)) <;> (try first | change (_ : Int) ≤ _ | change (_ : Nat) ≤ _) <;> (try ((fail_if_success (with_reducible apply Exists.intro)); (try dsimp only); (try simp only [cond_true, cond_false, decide_eq_true_eq, decide_eq_false_iff_not, Bool.not_eq_true', Bool.not_eq_false', Int.toNat_natCast, prodEta]))) <;> (try simp (disch := omega) only [ptEq2, cond_true, cond_false, decide_eq_true_eq, decide_eq_false_iff_not, List.length_drop, List.take_length, Int.toNat_zero, List.drop_zero, Nat.zero_add, List.nil_append, mod_nat1, mod_nat2, tm1, tm2, tmj, W_in, Int.add_sub_cancel, tn1, tnp, tnc, List.length_append, List.length_take, List.length_replicate, List.length_set, List.length_map, List.length_cons, List.length_nil, prodEta, Int.toNat_natCast, beq_iff_eq, beq_eq_false_iff_ne, bne_iff_ne, bne_eq_false_iff_eq, ne_eq, Int.natCast_inj, Int.ofNat_lt, Int.ofNat_le] at *)
  all_goals (try (fail_if_success (with_reducible apply Exists.intro)); first | with_reducible assumption | omega | exact mdl (by omega) | exact ilo1 (by omega) | exact ilo2 (by omega) | exact ihi1 (by omega) (by omega) | exact ihi2 (by omega) (by omega))
  · obtain ⟨u, hqu, hu, huv⟩ := hQ (Q.getD k 0) (by rw [getD_lt _ h_]; exact List.getElem_mem _)
    refine awp'_loopG (α := Nat × List Int × List Int) (fun s ver_ => [(11, vInt s.1)]) (fun s ver_ => [(7, 15, false, .row t_int (.b .int) s.2.1), (9, 30, false, .row t_int (.b .int) s.2.2)]) (fun s ver_ => []) (fun s => s.1 ≤ ts.length ∧ Bfs ts.length par b s.2.1 (fun v => v = u ∨ (v : Int) ∈ s.2.2.drop (k + 1)) ∧ InQ ts.length s.2.1 s.2.2 ∧ (k < s.2.2.length ∧ s.2.2.getD k 0 = (u : Int)) ∧ 0 ≤ gV s.2.1 u ∧ (∀ j, j < s.1 → TAdj ts.length par u j → 0 ≤ gV s.2.1 j) ∧ s.2.2.length + unf s.2.1 ≤ ts.length) (fun s => ts.length - s.1) [0, 1, 2, 10] [] ((0, fr, Q)) ?_
    conv => whnf
    refine ⟨⟨?inv7_, ?vals7_, ?own7_, ?fix7_⟩, ?body7_⟩
    case' vals7_ => (repeat' (first | with_reducible exact True.intro | with_reducible refine And.intro ?_ ?_ | with_reducible refine Head.mk ?_ ?_ ?_ ?_ | ((conv => lhs; whnf); first | with_reducible rfl | with_reducible exact vInt_s (by omega) | exact rfl) | ((conv => whnf); first | with_reducible exact True.intro | with_reducible refine And.intro ?_ ?_))) <;> (try (conv => lhs; whnf))
    case' own7_ => (repeat' (first | with_reducible exact True.intro | with_reducible refine And.intro ?_ ?_ | with_reducible refine Head.mk ?_ ?_ ?_ ?_ | ((conv => lhs; whnf); first | with_reducible rfl | with_reducible exact vInt_s (by omega) | exact rfl) | ((conv => whnf); first | with_reducible exact True.intro | with_reducible refine And.intro ?_ ?_))) <;> (try (conv => lhs; whnf))
    case' fix7_ => (repeat' (first | with_reducible exact True.intro | with_reducible refine And.intro ?_ ?_ | with_reducible refine Head.mk ?_ ?_ ?_ ?_ | ((conv => lhs; whnf); first | with_reducible rfl | with_reducible exact vInt_s (by omega) | exact rfl) | ((conv => whnf); first | with_reducible exact True.intro | with_reducible refine And.intro ?_ ?_))) <;> (try (conv => lhs; whnf))
    · refine ⟨Nat.zero_le _, hB.imp fun v _ hv => .inl ?_, hQ, ⟨h_, hqu⟩, huv, fun j hj => absurd hj (by omega), hlen⟩
      rw [List.drop_eq_getElem_cons h_] at hv
      refine (List.mem_cons.1 hv).imp (fun e => ?_) id
      rw [getD_lt _ h_] at hqu
      omega
    rintro ⟨i, fr', Q'⟩ g_ o_ v_ ⟨(hi : i ≤ _), (hB' : Bfs _ _ _ fr' _), (hQ' : InQ _ fr' Q'), ⟨(hkQ : k < Q'.length), (hqk : Q'.getD k (ElK.b ElB.int).dflt = (u : Int))⟩, (huv' : 0 ≤ gV fr' u), hdone, (hlen' : Q'.length + unf fr' ≤ _)⟩
    have hfl' := hB'.len
    have hqkp : PLift (Q'.getD k 0 = (u : Int)) := ⟨hqk⟩
    (repeat' (first | with_reducible exact True.intro | with_reducible refine st_seq ?_ | (with_reducible refine st_regionG hG_ ?_; intro K_ hK_) | (with_reducible refine st_region ?_; intro K_ hK_) | (with_reducible refine hK_ _ _ ?_; try clear hK_ K_) | ((with_reducible refine st_cond (b := ?b_) ?hb_ ?_ ?_); case hb_ => rfl) | with_reducible refine sq_n ?_ | with_reducible refine sq_r ?_ | with_reducible refine sq_e ?_ | with_reducible refine bq_n ?_ | with_reducible refine bq_r ?_ | with_reducible refine bq_q ?_ | with_reducible refine st_block ?_ | with_reducible refine st_exit ?_ | with_reducible refine st_ret ?_ | with_reducible refine st_skip ?_ | with_reducible refine gq_n ?_ | with_reducible refine gq_r ?_ | with_reducible refine gq_e ?_ | with_reducible refine lq_n ?_ | with_reducible refine lq_r ?_ | with_reducible refine lq_e ?_ | with_reducible refine bq_e (by decide) ?_ | ((conv => whnf); first | (with_reducible refine hK_ _ _ ?_; try clear hK_ K_) | (with_reducible refine fun (g_ : Sl) (o_ : Ow) => ?_) | with_reducible exact True.intro | with_reducible refine And.intro trivial ?_ | with_reducible refine And.intro ?_ ?_ | exact Nat.le_of_ble_eq_true rfl | exact Or.inl rfl | (intro h_; cases h_) | (intro h_; (try simp only [cond_true, cond_false, decide_eq_true_eq, decide_eq_false_iff_not, Bool.not_eq_true', Bool.not_eq_false', Int.toNat_natCast, prodEta] at h_)) | rfl))) <;> (try (conv => whnf)) <;> (try first | change (_ : Int) ≤ _ | change (_ : Nat) ≤ _) <;> (try ((fail_if_success (with_reducible apply Exists.intro)); (try dsimp only); (try simp only [cond_true, cond_false, decide_eq_true_eq, decide_eq_false_iff_not, Bool.not_eq_true', Bool.not_eq_false', Int.toNat_natCast, prodEta]))) <;> (try simp (disch := omega) only [ptEq2, cond_true, cond_false, decide_eq_true_eq, decide_eq_false_iff_not, List.length_drop, List.take_length, Int.toNat_zero, List.drop_zero, Nat.zero_add, List.nil_append, mod_nat1, mod_nat2, tm1, tm2, tmj, W_in, Int.add_sub_cancel, tn1, tnp, tnc, List.length_append, List.length_take, List.length_replicate, List.length_set, List.length_map, List.length_cons, List.length_nil, prodEta, Int.toNat_natCast, beq_iff_eq, beq_eq_false_iff_ne, bne_iff_ne, bne_eq_false_iff_eq, ne_eq, Int.natCast_inj, Int.ofNat_lt, Int.ofNat_le] at *) <;> (try simp only [hqk, Int.toNat_natCast] at *)
    all_goals (try (fail_if_success (with_reducible apply Exists.intro)); first | with_reducible assumption | omega | exact mdl (by omega) | exact ilo1 (by omega) | exact ilo2 (by omega) | exact ihi1 (by omega) (by omega) | exact ihi2 (by omega) (by omega))
    · have him : i < ts.length := ‹i < ts.length›
      have hcm : commonM (ts.getD i (0, 0, 0)) (ts.getD u (0, 0, 0)) = 2 := h_
      have hfi : gV fr' i < 0 := ‹fr'.getD i _ < 0›
      have hadji : TAdj ts.length par u i := (hadj u i hu him).1 (by
        unfold besAt
        rw [Bool.and_eq_true, decide_eq_true_eq, decide_eq_true_eq]
        refine ⟨fun e => ?_, hcm⟩
        obtain rfl : i = u := by omega
        omega)
      have hcnt := unf_set (u := (u : Int)) (by omega) (fr := fr') (k := i) (by omega) hfi
      refine ⟨(i + 1, fr'.set i u, Q' ++ [(i : Int)]), by show _ - (i + 1) < _; omega, ⟨by show i + 1 ≤ _; omega, ?_, hQ'.step (by omega) him hfl', ⟨by show k < (Q' ++ [(i : Int)]).length; rw [List.length_append]; omega, ?_⟩, ?_, fun j hj hju => ?_, ?_⟩, ?_⟩
      · refine hB'.step hpar hb huv' hadji hfi (fun v hv => hv.imp id fun hv => ?_) (.inr ?_)
        · show (v : Int) ∈ (Q' ++ [(i : Int)]).drop (k + 1)
          rw [List.drop_append_of_le_length (by omega)]
          exact List.mem_append_left _ hv
        · show (i : Int) ∈ (Q' ++ [(i : Int)]).drop (k + 1)
          rw [List.drop_append_of_le_length (by omega)]
          exact List.mem_append_right _ (List.mem_singleton.2 rfl)
      · show (Q' ++ [(i : Int)]).getD k 0 = _
        rw [List.getD_eq_getElem?_getD, List.getElem?_append_left hkQ, ← List.getD_eq_getElem?_getD]
        exact hqkp.down
      · show 0 ≤ gV (fr'.set i u) u
        rw [gV_set (by omega)]
        split <;> omega
      · show 0 ≤ gV (fr'.set i u) j
        have hj : j < i + 1 := hj
        rw [gV_set (by omega)]
        split
        · omega
        · exact hdone j (by omega) hju
      · show (Q' ++ [(i : Int)]).length + unf (fr'.set i u) ≤ _
        rw [List.length_append, List.length_singleton]
        omega
      · (repeat' (first | with_reducible exact True.intro | with_reducible refine And.intro ?_ ?_ | with_reducible refine Head.mk ?_ ?_ ?_ ?_ | ((conv => lhs; whnf); first | with_reducible rfl | with_reducible exact vInt_s (by omega) | exact rfl) | ((conv => whnf); first | with_reducible exact True.intro | with_reducible refine And.intro ?_ ?_))) <;> (try (conv => lhs; whnf))
        all_goals first
          | rfl
          | exact congrArg (Own.row t_int (.b .int)) (by rw [hqkp.down])
    · have him : i < ts.length := ‹i < ts.length›
      have hcm : ¬ commonM (ts.getD i (0, 0, 0)) (ts.getD u (0, 0, 0)) = 2 := h_
      refine ⟨(i + 1, fr', Q'), by show _ - (i + 1) < _; omega, ⟨by show i + 1 ≤ _; omega, hB', hQ', ⟨hkQ, hqkp.down⟩, huv', fun j hj hju => ?_, hlen'⟩, by (repeat' (first | with_reducible exact True.intro | with_reducible refine And.intro ?_ ?_ | with_reducible refine Head.mk ?_ ?_ ?_ ?_ | ((conv => lhs; whnf); first | with_reducible rfl | with_reducible exact vInt_s (by omega) | exact rfl) | ((conv => whnf); first | with_reducible exact True.intro | with_reducible refine And.intro ?_ ?_))) <;> (try (conv => lhs; whnf))⟩
      have hj : j < i + 1 := hj
      rcases Nat.lt_or_ge j i with h5 | h5
      · exact hdone j h5 hju
      · obtain rfl : j = i := by omega
        have := (hadj u j hu him).2 hju
        unfold besAt at this
        rw [Bool.and_eq_true, decide_eq_true_eq, decide_eq_true_eq] at this
        exact absurd this.2 hcm
    · have hfi : ¬ gV fr' i < 0 := ‹¬ fr'.getD i _ < 0›
      have him : i < ts.length := ‹i < ts.length›
      refine ⟨(i + 1, fr', Q'), by show _ - (i + 1) < _; omega, ⟨by show i + 1 ≤ _; omega, hB', hQ', ⟨hkQ, hqkp.down⟩, huv', fun j hj hju => ?_, hlen'⟩, by (repeat' (first | with_reducible exact True.intro | with_reducible refine And.intro ?_ ?_ | with_reducible refine Head.mk ?_ ?_ ?_ ?_ | ((conv => lhs; whnf); first | with_reducible rfl | with_reducible exact vInt_s (by omega) | exact rfl) | ((conv => whnf); first | with_reducible exact True.intro | with_reducible refine And.intro ?_ ?_))) <;> (try (conv => lhs; whnf))⟩
      have hj : j < i + 1 := hj
      rcases Nat.lt_or_ge j i with h5 | h5
      · exact hdone j h5 hju
      · obtain rfl : j = i := by omega
        exact Int.not_lt.1 hfi
    · refine ⟨(k + 1, fr', Q'), by show _ - (k + 1) < _; omega, ⟨by show k + 1 ≤ Q'.length; omega, hB'.imp fun v _ hv => ?_, hQ', hlen'⟩, by (repeat' (first | with_reducible exact True.intro | with_reducible refine And.intro ?_ ?_ | with_reducible refine Head.mk ?_ ?_ ?_ ?_ | ((conv => lhs; whnf); first | with_reducible rfl | with_reducible exact vInt_s (by omega) | exact rfl) | ((conv => whnf); first | with_reducible exact True.intro | with_reducible refine And.intro ?_ ?_))) <;> (try (conv => lhs; whnf))⟩
      rcases hv with rfl | hv
      · exact .inr fun j hju => hdone j (by have := (hju.lt hpar).2; omega) hju
      · exact .inl hv
  · have h5 := hB.all hpar hb (fun v _ hv => by rw [List.drop_of_length_le (by omega)] at hv; cases hv) a ha
    exact absurd h5 (by show ¬ 0 ≤ fr.getD a 0; exact Int.not_le.2 ‹_›)
  · have hall := hB.all hpar hb (fun v _ hv => by rw [List.drop_of_length_le (by omega)] at hv; cases hv)
    refine awp'_loopG (α := Nat × List Int) (fun s ver_ => [(1, vInt s.1)]) (fun s ver_ => [(12, 74, false, .row t_int (.b .int) s.2)]) (fun s ver_ => []) (fun s => s.1 < ts.length ∧ ∃ pre : List Nat, s.2 = pre.map (fun j : Nat => (j : Int)) ∧ pre ++ pth ts.length par s.1 b = pth ts.length par a b) (fun s => (pth ts.length par s.1 b).length) [2, 7] [15, 30] ((a, [])) ?_
    conv => whnf
    refine ⟨⟨?inv8_, ?vals8_, ?own8_, ?fix8_⟩, ?body8_⟩
    case' vals8_ => (repeat' (first | with_reducible exact True.intro | with_reducible refine And.intro ?_ ?_ | with_reducible refine Head.mk ?_ ?_ ?_ ?_ | ((conv => lhs; whnf); first | with_reducible rfl | with_reducible exact vInt_s (by omega) | exact rfl) | ((conv => whnf); first | with_reducible exact True.intro | with_reducible refine And.intro ?_ ?_))) <;> (try (conv => lhs; whnf))
    case' own8_ => (repeat' (first | with_reducible exact True.intro | with_reducible refine And.intro ?_ ?_ | with_reducible refine Head.mk ?_ ?_ ?_ ?_ | ((conv => lhs; whnf); first | with_reducible rfl | with_reducible exact vInt_s (by omega) | exact rfl) | ((conv => whnf); first | with_reducible exact True.intro | with_reducible refine And.intro ?_ ?_))) <;> (try (conv => lhs; whnf))
    case' fix8_ => (repeat' (first | with_reducible exact True.intro | with_reducible refine And.intro ?_ ?_ | with_reducible refine Head.mk ?_ ?_ ?_ ?_ | ((conv => lhs; whnf); first | with_reducible rfl | with_reducible exact vInt_s (by omega) | exact rfl) | ((conv => whnf); first | with_reducible exact True.intro | with_reducible refine And.intro ?_ ?_))) <;> (try (conv => lhs; whnf))
    · exact ⟨ha, [], rfl, rfl⟩
    rintro ⟨c, w⟩ g_ o_ v_ ⟨(hc : c < _), pre, (hw : w = _), hpre⟩
    have hcv : 0 ≤ fr.getD c 0 := hall c hc
    have hpl : (pth ts.length par a b).length ≤ 2 * ts.length + 1 := pthF_len _ _ _ _
    have hwl : w.length ≤ 2 * ts.length + 1 := by
      have h9 : (pre ++ pth ts.length par c b).length = (pth ts.length par a b).length := congrArg List.length hpre
      rw [List.length_append] at h9
      rw [hw, List.length_map]
      omega
    (repeat' (first | with_reducible exact True.intro | with_reducible refine st_seq ?_ | (with_reducible refine st_regionG hG_ ?_; intro K_ hK_) | (with_reducible refine st_region ?_; intro K_ hK_) | (with_reducible refine hK_ _ _ ?_; try clear hK_ K_) | ((with_reducible refine st_cond (b := ?b_) ?hb_ ?_ ?_); case hb_ => rfl) | with_reducible refine sq_n ?_ | with_reducible refine sq_r ?_ | with_reducible refine sq_e ?_ | with_reducible refine bq_n ?_ | with_reducible refine bq_r ?_ | with_reducible refine bq_q ?_ | with_reducible refine st_block ?_ | with_reducible refine st_exit ?_ | with_reducible refine st_ret ?_ | with_reducible refine st_skip ?_ | with_reducible refine gq_n ?_ | with_reducible refine gq_r ?_ | with_reducible refine gq_e ?_ | with_reducible refine lq_n ?_ | with_reducible refine lq_r ?_ | with_reducible refine lq_e ?_ | with_reducible refine bq_e (by decide) ?_ | ((conv => whnf); first | (with_reducible refine hK_ _ _ ?_; try clear hK_ K_) | (with_reducible refine fun (g_ : Sl) (o_ : Ow) => ?_) | with_reducible exact True.intro | with_reducible refine And.intro trivial ?_ | with_reducible refine And.intro ?_ ?_ | exact Nat.le_of_ble_eq_true rfl | exact Or.inl rfl | (intro h_; cases h_) | (intro h_; (try simp only [cond_true, cond_false, decide_eq_true_eq, decide_eq_false_iff_not, Bool.not_eq_true', Bool.not_eq_false', Int.toNat_natCast, prodEta] at h_)) | rfl))) <;> (try (conv => whnf)) <;> (try first | change (_ : Int) ≤ _ | change (_ : Nat) ≤ _) <;> (try ((fail_if_success (with_reducible apply Exists.intro)); (try dsimp only); (try simp only [cond_true, cond_false, decide_eq_true_eq, decide_eq_false_iff_not, Bool.not_eq_true', Bool.not_eq_false', Int.toNat_natCast, prodEta]))) <;> (try simp (disch := omega) only [ptEq2, cond_true, cond_false, decide_eq_true_eq, decide_eq_false_iff_not, List.length_drop, List.take_length, Int.toNat_zero, List.drop_zero, Nat.zero_add, List.nil_append, mod_nat1, mod_nat2, tm1, tm2, tmj, W_in, Int.add_sub_cancel, tn1, tnp, tnc, List.length_append, List.length_take, List.length_replicate, List.length_set, List.length_map, List.length_cons, List.length_nil, prodEta, Int.toNat_natCast, beq_iff_eq, beq_eq_false_iff_ne, bne_iff_ne, bne_eq_false_iff_eq, ne_eq, Int.natCast_inj, Int.ofNat_lt, Int.ofNat_le] at *)
    all_goals (try (fail_if_success (with_reducible apply Exists.intro)); first | with_reducible assumption | omega | exact mdl (by omega) | exact ilo1 (by omega) | exact ilo2 (by omega) | exact ihi1 (by omega) (by omega) | exact ihi2 (by omega) (by omega))
    · obtain ⟨d, hd, hde, -, hdp⟩ := hB.up c hc h_ hcv
      refine ⟨(d, w ++ [(c : Int)]), by show (pth _ _ d b).length < _; rw [hdp, List.length_cons]; omega, ⟨hd, pre ++ [c], by rw [hw]; simp, by rw [← hpre, hdp]; simp⟩, ?_⟩
      (repeat' (first | with_reducible exact True.intro | with_reducible refine And.intro ?_ ?_ | with_reducible refine Head.mk ?_ ?_ ?_ ?_ | ((conv => lhs; whnf); first | with_reducible rfl | with_reducible exact vInt_s (by omega) | exact rfl) | ((conv => whnf); first | with_reducible exact True.intro | with_reducible refine And.intro ?_ ?_))) <;> (try (conv => lhs; whnf))
      all_goals first
        | exact congrArg vInt hde
        | rfl
    · obtain rfl : c = b := by omega
      refine congrArg some ?_
      show w ++ [(c : Int)] = way
      rw [hway, ← hpre, pth_self hc, hw]
      simp
def wayM (xs : List Pt) (a b : Int) : List Int := if btw a 0 ((trisM xs).length - 1) && btw b 0 ((trisM xs).length - 1) then wayL (trisM xs) a.toNat b.toNat else []
theorem wayM_no {xs : List Pt} {a b : Int} (h : btw a 0 ((trisM xs).length - 1) = false ∨ btw b 0 ((trisM xs).length - 1) = false) : wayM xs a b = [] := by
  unfold wayM
  rcases h with h | h <;> rw [h] <;> simp
theorem wayM_yes {xs : List Pt} {a b : Int} (h1 : btw a 0 ((trisM xs).length - 1) = true) (h2 : btw b 0 ((trisM xs).length - 1) = true) : wayM xs a b = wayL (trisM xs) a.toNat b.toNat := by
  unfold wayM
  rw [h1, h2]; rfl
theorem wayM_len (xs : List Pt) (a b : Int) : (wayM xs a b).length ≤ 23 := by
  unfold wayM
  split
  · have := wayL_len (trisM xs) a.toNat b.toNat
    have := tri_len11 xs
    omega
  · simp
def treeWayC : Con := mkCon [.room, .int, .int] (fun x => x.1.length ≤ 1048576) fun x => rowI (wayM x.1 x.2.1 x.2.2.1)
theorem iTreeWay_ok : Good1 Tryz.prog n_impl_TreeWay treeWayC := by
  refine good_ofG (tys := tyL) (env := [(n_impl_TrianglesOf, trisC), (n_impl_between, btwC), (n_impl_TreeWay_1, twcC), (n_impl_shortest, shC)]) (envw := []) [9, 29] [7] [] [9] mixed tys ⟨iTrianglesOf_ok, between_ok, twc_ok, shortest_ok, trivial⟩ trivial Tryz.func32 rfl (by kernel_rfl) (by decide) (by kernel_rfl) ?_
  have hG_ := kpz [(0, [1, 2, 3]), (1, [1, 2, 7]), (2, [1, 2, 7, 23]), (3, [6]), (4, [6])] [(1, [7, 9]), (2, [7, 9]), (3, [9]), (4, [9, 29])] [(1, [7])] []
  rintro ⟨(xs : List Pt), (a : Int), (b : Int), ⟨⟩⟩ (h1 : xs.length ≤ _)
  have htl := tri_len11 xs
  (repeat' (first | with_reducible exact True.intro | with_reducible refine st_seq ?_ | (with_reducible refine st_regionG hG_ ?_; intro K_ hK_) | (with_reducible refine st_region ?_; intro K_ hK_) | (with_reducible refine hK_ _ _ ?_; try clear hK_ K_) | ((with_reducible refine st_cond (b := ?b_) ?hb_ ?_ ?_); case hb_ => rfl) | with_reducible refine sq_n ?_ | with_reducible refine sq_r ?_ | with_reducible refine sq_e ?_ | with_reducible refine bq_n ?_ | with_reducible refine bq_r ?_ | with_reducible refine bq_q ?_ | with_reducible refine st_block ?_ | with_reducible refine st_exit ?_ | with_reducible refine st_ret ?_ | with_reducible refine st_skip ?_ | with_reducible refine gq_n ?_ | with_reducible refine gq_r ?_ | with_reducible refine gq_e ?_ | with_reducible refine lq_n ?_ | with_reducible refine lq_r ?_ | with_reducible refine lq_e ?_ | with_reducible refine bq_e (by decide) ?_ | ((conv => whnf); first | (with_reducible refine hK_ _ _ ?_; try clear hK_ K_) | (with_reducible refine fun (g_ : Sl) (o_ : Ow) => ?_) | with_reducible exact True.intro | with_reducible refine And.intro trivial ?_ | with_reducible refine And.intro ?_ ?_ | exact Nat.le_of_ble_eq_true rfl | exact Or.inl rfl | (intro h_; cases h_) | (intro h_; (try simp only [cond_true, cond_false, decide_eq_true_eq, decide_eq_false_iff_not, Bool.not_eq_true', Bool.not_eq_false', Int.toNat_natCast, prodEta] at h_)) | rfl))) <;> (try (conv => whnf)) <;> (try first | change (_ : Int) ≤ _ | change (_ : Nat) ≤ _) <;> (try ((fail_if_success (with_reducible apply Exists.intro)); (try dsimp only); (try simp only [cond_true, cond_false, decide_eq_true_eq, decide_eq_false_iff_not, Bool.not_eq_true', Bool.not_eq_false', Int.toNat_natCast, prodEta]))) <;> (try simp (disch := omega) only [ptEq2, cond_true, cond_false, decide_eq_true_eq, decide_eq_false_iff_not, List.length_drop, List.take_length, Int.toNat_zero, List.drop_zero, Nat.zero_add, List.nil_append, mod_nat1, mod_nat2, tm1, tm2, tmj, W_in, Int.add_sub_cancel, tn1, tnp, tnc, List.length_append, List.length_take, List.length_replicate, List.length_set, List.length_map, List.length_cons, List.length_nil, prodEta, Int.toNat_natCast, beq_iff_eq, beq_eq_false_iff_ne, bne_iff_ne, bne_eq_false_iff_eq, ne_eq, Int.natCast_inj, Int.ofNat_lt, Int.ofNat_le] at *)
  all_goals (try (fail_if_success (with_reducible apply Exists.intro)); first | with_reducible assumption | omega | exact mdl (by omega) | exact ilo1 (by omega) | exact ilo2 (by omega) | exact ihi1 (by omega) (by omega) | exact ihi2 (by omega) (by omega))
  · exact wayM_no (.inl h_)
  · exact wayM_no (.inr h_)
  · have h2 := btw_iff.1 ‹btw a 0 _ = true›
    have h3 := btw_iff.1 h_
    exact ⟨xs, rfl, rfl, ⟨h2.1, by omega⟩, h3.1, by omega⟩
  · exact congrArg some (wayM_yes ‹btw a 0 _ = true› h_).symm
theorem sTreeWay_ok : Good1 Tryz.prog n_spec_TreeWay treeWayC := by
  refine good_ofG (tys := tyL) (env := [(n_spec_TrianglesOf, sTrisC), (n_spec_l01In, btwC), (n_spec_l20Way, wayC)]) (envw := []) [24, 28] [] [] [] mixed tys ⟨sTrianglesOf_ok, l01In_ok, l20Way_ok, trivial⟩ trivial Tryz.func31 rfl (by kernel_rfl) (by decide) (by kernel_rfl) ?_
  have hG_ := kpz [(0, [1, 2, 3]), (1, [1, 2, 7]), (2, [1, 2, 7, 23]), (3, [6]), (4, [6])] [(3, [24]), (4, [28])] [] []
  rintro ⟨(xs : List Pt), (a : Int), (b : Int), ⟨⟩⟩ (h1 : xs.length ≤ _)
  have htl := tri_len11 xs
  (repeat' (first | with_reducible exact True.intro | with_reducible refine st_seq ?_ | (with_reducible refine st_regionG hG_ ?_; intro K_ hK_) | (with_reducible refine st_region ?_; intro K_ hK_) | (with_reducible refine hK_ _ _ ?_; try clear hK_ K_) | ((with_reducible refine st_cond (b := ?b_) ?hb_ ?_ ?_); case hb_ => rfl) | with_reducible refine sq_n ?_ | with_reducible refine sq_r ?_ | with_reducible refine sq_e ?_ | with_reducible refine bq_n ?_ | with_reducible refine bq_r ?_ | with_reducible refine bq_q ?_ | with_reducible refine st_block ?_ | with_reducible refine st_exit ?_ | with_reducible refine st_ret ?_ | with_reducible refine st_skip ?_ | with_reducible refine gq_n ?_ | with_reducible refine gq_r ?_ | with_reducible refine gq_e ?_ | with_reducible refine lq_n ?_ | with_reducible refine lq_r ?_ | with_reducible refine lq_e ?_ | with_reducible refine bq_e (by decide) ?_ | ((conv => whnf); first | (with_reducible refine hK_ _ _ ?_; try clear hK_ K_) | (with_reducible refine fun (g_ : Sl) (o_ : Ow) => ?_) | with_reducible exact True.intro | with_reducible refine And.intro trivial ?_ | with_reducible refine And.intro ?_ ?_ | exact Nat.le_of_ble_eq_true rfl | exact Or.inl rfl | (intro h_; cases h_) | (intro h_; (try simp only [cond_true, cond_false, decide_eq_true_eq, decide_eq_false_iff_not, Bool.not_eq_true', Bool.not_eq_false', Int.toNat_natCast, prodEta] at h_)) | rfl))) <;> (try (conv => whnf)) <;> (try first | change (_ : Int) ≤ _ | change (_ : Nat) ≤ _) <;> (try ((fail_if_success (with_reducible apply Exists.intro)); (try dsimp only); (try simp only [cond_true, cond_false, decide_eq_true_eq, decide_eq_false_iff_not, Bool.not_eq_true', Bool.not_eq_false', Int.toNat_natCast, prodEta]))) <;> (try simp (disch := omega) only [ptEq2, cond_true, cond_false, decide_eq_true_eq, decide_eq_false_iff_not, List.length_drop, List.take_length, Int.toNat_zero, List.drop_zero, Nat.zero_add, List.nil_append, mod_nat1, mod_nat2, tm1, tm2, tmj, W_in, Int.add_sub_cancel, tn1, tnp, tnc, List.length_append, List.length_take, List.length_replicate, List.length_set, List.length_map, List.length_cons, List.length_nil, prodEta, Int.toNat_natCast, beq_iff_eq, beq_eq_false_iff_ne, bne_iff_ne, bne_eq_false_iff_eq, ne_eq, Int.natCast_inj, Int.ofNat_lt, Int.ofNat_le] at *)
  all_goals (try (fail_if_success (with_reducible apply Exists.intro)); first | with_reducible assumption | omega | exact mdl (by omega) | exact ilo1 (by omega) | exact ilo2 (by omega) | exact ihi1 (by omega) (by omega) | exact ihi2 (by omega) (by omega))
  · exact congrArg some (wayM_no (.inl h_)).symm
  · exact congrArg some (wayM_no (.inr h_)).symm
  · have h2 := btw_iff.1 ‹btw a 0 _ = true›
    have h3 := btw_iff.1 h_
    have h4 : a < ((trisM xs).length : Int) := by omega
    have h5 : b < ((trisM xs).length : Int) := by omega
    exact ⟨xs, rfl, ⟨h2.1, h4⟩, h3.1, h5⟩
  · exact congrArg some (wayM_yes ‹btw a 0 _ = true› h_).symm
def wbM (xs : List Pt) (p q : Pt) : List Int := wayM xs (triOfM xs p) (triOfM xs q)
def wbC : Con := mkCon [.room, .pt, .pt] (fun x => x.1.length ≤ 1048576) fun x => rowI (wbM x.1 x.2.1 x.2.2.1)
theorem wb_no {xs : List Pt} {p q : Pt} (h : triOfM xs p < 0 ∨ triOfM xs q < 0) : wbM xs p q = [] := by
  refine wayM_no (h.imp (fun h => ?_) fun h => ?_) <;> rw [← Bool.not_eq_true, btw_iff] <;> omega
theorem iWalkBetween_ok : Good1 Tryz.prog n_impl_WalkBetween wbC := by
  refine good_ofG (tys := tyL) (env := [(n_impl_TriangleOf, triOfC), (n_impl_TreeWay, treeWayC)]) (envw := []) [24] [] [] [] mixed tys ⟨iTriangleOf_ok, iTreeWay_ok, trivial⟩ trivial Tryz.func37 rfl (by kernel_rfl) (by decide) (by kernel_rfl) ?_
  have hG_ := kpz [(0, [3, 4, 5]), (1, [3, 7, 8]), (2, [3, 7, 8, 20]), (3, [6]), (4, [6])] [(4, [24])] [] []
  rintro ⟨(xs : List Pt), ⟨(px : Int), (py : Int)⟩, ⟨(qx : Int), (qy : Int)⟩, ⟨⟩⟩ (h1 : xs.length ≤ _)
  (repeat' (first | with_reducible exact True.intro | with_reducible refine st_seq ?_ | (with_reducible refine st_regionG hG_ ?_; intro K_ hK_) | (with_reducible refine st_region ?_; intro K_ hK_) | (with_reducible refine hK_ _ _ ?_; try clear hK_ K_) | ((with_reducible refine st_cond (b := ?b_) ?hb_ ?_ ?_); case hb_ => rfl) | with_reducible refine sq_n ?_ | with_reducible refine sq_r ?_ | with_reducible refine sq_e ?_ | with_reducible refine bq_n ?_ | with_reducible refine bq_r ?_ | with_reducible refine bq_q ?_ | with_reducible refine st_block ?_ | with_reducible refine st_exit ?_ | with_reducible refine st_ret ?_ | with_reducible refine st_skip ?_ | with_reducible refine gq_n ?_ | with_reducible refine gq_r ?_ | with_reducible refine gq_e ?_ | with_reducible refine lq_n ?_ | with_reducible refine lq_r ?_ | with_reducible refine lq_e ?_ | with_reducible refine bq_e (by decide) ?_ | ((conv => whnf); first | (with_reducible refine hK_ _ _ ?_; try clear hK_ K_) | (with_reducible refine fun (g_ : Sl) (o_ : Ow) => ?_) | with_reducible exact True.intro | with_reducible refine And.intro trivial ?_ | with_reducible refine And.intro ?_ ?_ | exact Nat.le_of_ble_eq_true rfl | exact Or.inl rfl | (intro h_; cases h_) | (intro h_; (try simp only [cond_true, cond_false, decide_eq_true_eq, decide_eq_false_iff_not, Bool.not_eq_true', Bool.not_eq_false', Int.toNat_natCast, prodEta] at h_)) | rfl))) <;> (try (conv => whnf)) <;> (try first | change (_ : Int) ≤ _ | change (_ : Nat) ≤ _) <;> (try ((fail_if_success (with_reducible apply Exists.intro)); (try dsimp only); (try simp only [cond_true, cond_false, decide_eq_true_eq, decide_eq_false_iff_not, Bool.not_eq_true', Bool.not_eq_false', Int.toNat_natCast, prodEta]))) <;> (try simp (disch := omega) only [ptEq2, cond_true, cond_false, decide_eq_true_eq, decide_eq_false_iff_not, List.length_drop, List.take_length, Int.toNat_zero, List.drop_zero, Nat.zero_add, List.nil_append, mod_nat1, mod_nat2, tm1, tm2, tmj, W_in, Int.add_sub_cancel, tn1, tnp, tnc, List.length_append, List.length_take, List.length_replicate, List.length_set, List.length_map, List.length_cons, List.length_nil, prodEta, Int.toNat_natCast, beq_iff_eq, beq_eq_false_iff_ne, bne_iff_ne, bne_eq_false_iff_eq, ne_eq, Int.natCast_inj, Int.ofNat_lt, Int.ofNat_le] at *)
  all_goals (try (fail_if_success (with_reducible apply Exists.intro)); first | with_reducible assumption | omega | exact mdl (by omega) | exact ilo1 (by omega) | exact ilo2 (by omega) | exact ihi1 (by omega) (by omega) | exact ihi2 (by omega) (by omega))
  all_goals first
    | exact wb_no (.inl (by assumption))
    | exact wb_no (.inr (by assumption))
    | skip
theorem sWalkBetween_ok : Good1 Tryz.prog n_spec_WalkBetween wbC := by
  refine good_ofG (tys := tyL) (env := [(n_spec_TriangleOf, triOfC), (n_spec_TreeWay, treeWayC)]) (envw := []) [14] [7, 8, 9, 10, 11, 12, 13] [] [] mixed tys ⟨sTriangleOf_ok, sTreeWay_ok, trivial⟩ trivial Tryz.func35 rfl (by kernel_rfl) (by decide) (by kernel_rfl) ?_
  have hG_ := kpz [(0, [3, 4, 5]), (1, [6])] [(1, [14])] [] []
  rintro ⟨(xs : List Pt), ⟨(px : Int), (py : Int)⟩, ⟨(qx : Int), (qy : Int)⟩, ⟨⟩⟩ (h1 : xs.length ≤ _)
  (repeat' (first | with_reducible exact True.intro | with_reducible refine st_seq ?_ | (with_reducible refine st_regionG hG_ ?_; intro K_ hK_) | (with_reducible refine st_region ?_; intro K_ hK_) | (with_reducible refine hK_ _ _ ?_; try clear hK_ K_) | ((with_reducible refine st_cond (b := ?b_) ?hb_ ?_ ?_); case hb_ => rfl) | with_reducible refine sq_n ?_ | with_reducible refine sq_r ?_ | with_reducible refine sq_e ?_ | with_reducible refine bq_n ?_ | with_reducible refine bq_r ?_ | with_reducible refine bq_q ?_ | with_reducible refine st_block ?_ | with_reducible refine st_exit ?_ | with_reducible refine st_ret ?_ | with_reducible refine st_skip ?_ | with_reducible refine gq_n ?_ | with_reducible refine gq_r ?_ | with_reducible refine gq_e ?_ | with_reducible refine lq_n ?_ | with_reducible refine lq_r ?_ | with_reducible refine lq_e ?_ | with_reducible refine bq_e (by decide) ?_ | ((conv => whnf); first | (with_reducible refine hK_ _ _ ?_; try clear hK_ K_) | (with_reducible refine fun (g_ : Sl) (o_ : Ow) => ?_) | with_reducible exact True.intro | with_reducible refine And.intro trivial ?_ | with_reducible refine And.intro ?_ ?_ | exact Nat.le_of_ble_eq_true rfl | exact Or.inl rfl | (intro h_; cases h_) | (intro h_; (try simp only [cond_true, cond_false, decide_eq_true_eq, decide_eq_false_iff_not, Bool.not_eq_true', Bool.not_eq_false', Int.toNat_natCast, prodEta] at h_)) | rfl))) <;> (try (conv => whnf)) <;> (try first | change (_ : Int) ≤ _ | change (_ : Nat) ≤ _) <;> (try ((fail_if_success (with_reducible apply Exists.intro)); (try dsimp only); (try simp only [cond_true, cond_false, decide_eq_true_eq, decide_eq_false_iff_not, Bool.not_eq_true', Bool.not_eq_false', Int.toNat_natCast, prodEta]))) <;> (try simp (disch := omega) only [ptEq2, cond_true, cond_false, decide_eq_true_eq, decide_eq_false_iff_not, List.length_drop, List.take_length, Int.toNat_zero, List.drop_zero, Nat.zero_add, List.nil_append, mod_nat1, mod_nat2, tm1, tm2, tmj, W_in, Int.add_sub_cancel, tn1, tnp, tnc, List.length_append, List.length_take, List.length_replicate, List.length_set, List.length_map, List.length_cons, List.length_nil, prodEta, Int.toNat_natCast, beq_iff_eq, beq_eq_false_iff_ne, bne_iff_ne, bne_eq_false_iff_eq, ne_eq, Int.natCast_inj, Int.ofNat_lt, Int.ofNat_le] at *)
  all_goals (try (fail_if_success (with_reducible apply Exists.intro)); first | with_reducible assumption | omega | exact mdl (by omega) | exact ilo1 (by omega) | exact ilo2 (by omega) | exact ihi1 (by omega) (by omega) | exact ihi2 (by omega) (by omega))
theorem fnExactTreeWay_ok : Good1 Tryz.prog n_laws_FnExactTreeWay (lawCon [.room, .int, .int]) := by
  refine good_ofG (tys := tyL) (env := [(n_laws_szRoom, szRC), (n_laws_toRoom, toRoomC), (n_spec_TreeWay, treeWayC), (n_impl_TreeWay, treeWayC), (n_laws_eqIntS, eqIsC), (n_laws_eqRoom, eqRC), (n_laws_heldIntS, heldIsC)]) (envw := [(n_laws_markRoom, markRC), (n_laws_markIntS, markIsC)]) [26, 30, 42, 53] [] [] [] mixed tys ⟨szRoom_ok, toRoom_ok, sTreeWay_ok, iTreeWay_ok, eqIntS_ok, eqRoom_ok, heldIntS_ok, trivial⟩ ⟨markRoom_ok, markIntS_ok, trivial⟩ Tryz.func8 rfl (by kernel_rfl) (by decide) (by kernel_rfl) ?_
  have hG_ := kpz [(0, [1, 2, 3]), (1, [1, 2, 3, 7]), (2, [1, 2, 3, 7]), (3, [1, 2, 3, 19]), (4, [6]), (5, [1, 2, 3, 8]), (6, [1, 2, 3, 8, 9]), (7, [1, 2, 3, 8, 9, 10]), (8, [1, 2, 3, 8, 9, 10, 34]), (9, [6]), (10, [1, 2, 3, 8, 9, 10, 39]), (11, [6]), (12, [1, 2, 3, 8, 9, 10, 11]), (13, [1, 2, 3, 8, 10, 11]), (14, [1, 2, 3, 8, 10, 50]), (15, [6]), (16, [1, 2, 3, 8, 10, 12]), (17, [1, 2, 3, 8, 10, 12]), (18, [1, 2, 3, 8, 10, 12, 13]), (19, [1, 2, 3, 8, 10, 12, 13]), (20, [1, 2, 3, 8, 10, 12, 13, 58]), (21, [6]), (22, [1, 2, 3, 8, 10, 12, 61]), (23, [6]), (24, [8, 10, 12, 14]), (25, [10, 12, 70]), (26, [6]), (27, [10, 12, 13]), (28, [12, 13]), (29, [12, 13, 75]), (30, [6]), (31, [78]), (32, [6]), (33, [6])] [(6, [9, 26]), (7, [9, 26, 30]), (8, [9, 26, 30]), (9, [26, 30]), (10, [9, 26, 30]), (11, [26, 30]), (12, [9, 26, 30]), (13, [26, 30]), (14, [26, 30]), (15, [26, 30]), (16, [26, 30]), (17, [26, 30]), (18, [26, 30]), (19, [26, 30]), (20, [26, 30]), (21, [26, 30]), (22, [26, 30]), (23, [26, 30]), (24, [26, 30]), (25, [26, 30]), (26, [26, 30]), (27, [26, 30]), (28, [26, 30]), (29, [26, 30]), (30, [26, 30]), (31, [26, 30]), (32, [26, 30]), (33, [26, 30])] [] []
  rintro ⟨(xs : List Pt), (a : Int), (b : Int), ⟨⟩⟩ ⟨(h1 : xs.length ≤ _), -⟩
  have ht := wayM_len xs a b
  (repeat' (first | with_reducible exact True.intro | with_reducible refine st_seq ?_ | (with_reducible refine st_regionG hG_ ?_; intro K_ hK_) | (with_reducible refine st_region ?_; intro K_ hK_) | (with_reducible refine hK_ _ _ ?_; try clear hK_ K_) | ((with_reducible refine st_cond (b := ?b_) ?hb_ ?_ ?_); case hb_ => rfl) | with_reducible refine sq_n ?_ | with_reducible refine sq_r ?_ | with_reducible refine sq_e ?_ | with_reducible refine bq_n ?_ | with_reducible refine bq_r ?_ | with_reducible refine bq_q ?_ | with_reducible refine st_block ?_ | with_reducible refine st_exit ?_ | with_reducible refine st_ret ?_ | with_reducible refine st_skip ?_ | with_reducible refine gq_n ?_ | with_reducible refine gq_r ?_ | with_reducible refine gq_e ?_ | with_reducible refine lq_n ?_ | with_reducible refine lq_r ?_ | with_reducible refine lq_e ?_ | with_reducible refine bq_e (by decide) ?_ | ((conv => whnf); first | (with_reducible refine hK_ _ _ ?_; try clear hK_ K_) | (with_reducible refine fun (g_ : Sl) (o_ : Ow) => ?_) | with_reducible exact True.intro | with_reducible refine And.intro trivial ?_ | with_reducible refine And.intro ?_ ?_ | exact Nat.le_of_ble_eq_true rfl | exact Or.inl rfl | (intro h_; cases h_) | (intro h_; (try simp only [cond_true, cond_false, decide_eq_true_eq, decide_eq_false_iff_not, Bool.not_eq_true', Bool.not_eq_false', Int.toNat_natCast, prodEta] at h_)) | rfl))) <;> (try (conv => whnf)) <;> (try first | change (_ : Int) ≤ _ | change (_ : Nat) ≤ _) <;> (try ((fail_if_success (with_reducible apply Exists.intro)); (try dsimp only); (try simp only [cond_true, cond_false, decide_eq_true_eq, decide_eq_false_iff_not, Bool.not_eq_true', Bool.not_eq_false', Int.toNat_natCast, prodEta])))
  all_goals (try (fail_if_success (with_reducible apply Exists.intro)); first | with_reducible assumption | omega | exact mdl (by omega) | exact ilo1 (by omega) | exact ilo2 (by omega) | exact ihi1 (by omega) (by omega) | exact ihi2 (by omega) (by omega))
  all_goals ((try simp only [szF_neg1, szF_neg2, szF_nn, szF_hi1, bne_self_eq_false, beq_self_eq_true, Bool.true_eq_false, markRC, markPsC, markIsC, markBsC, mkConW, heldF_marks, heldI_marks, heldB_marks, marks_len, marksI_len, marksB_len, decide_true, Bool.not_true, List.length_map, not_true_eq_false, Bool.false_eq_true, reduceCtorEq, not_false_eq_true] at *); (try omega))
theorem fnExactWalkBetween_ok : Good1 Tryz.prog n_laws_FnExactWalkBetween (lawCon [.room, .pt, .pt]) := by
  refine good_ofG (tys := tyL) (env := [(n_laws_szRoom, szRC), (n_laws_toRoom, toRoomC), (n_laws_toPoint, toPtC), (n_spec_WalkBetween, wbC), (n_impl_WalkBetween, wbC), (n_laws_eqIntS, eqIsC), (n_laws_eqRoom, eqRC), (n_laws_heldIntS, heldIsC)]) (envw := [(n_laws_markRoom, markRC), (n_laws_markIntS, markIsC)]) [28, 34, 46, 57] [30, 31, 32, 33] [] [] mixed tys ⟨szRoom_ok, toRoom_ok, toPoint_ok, sWalkBetween_ok, iWalkBetween_ok, eqIntS_ok, eqRoom_ok, heldIntS_ok, trivial⟩ ⟨markRoom_ok, markIntS_ok, trivial⟩ Tryz.func10 rfl (by kernel_rfl) (by decide) (by kernel_rfl) ?_
  have hG_ := kpz [(0, [3, 4, 5]), (1, [3, 4, 5, 7]), (2, [3, 4, 5, 7]), (3, [3, 4, 5, 19]), (4, [6]), (5, [3, 4, 5, 8]), (6, [3, 4, 5, 8, 9]), (7, [3, 4, 5, 8, 9, 10]), (8, [3, 4, 5, 8, 9, 10, 38]), (9, [6]), (10, [3, 4, 5, 8, 9, 10, 43]), (11, [6]), (12, [3, 4, 5, 8, 9, 10, 11]), (13, [3, 4, 5, 8, 10, 11]), (14, [3, 4, 5, 8, 10, 54]), (15, [6]), (16, [3, 4, 5, 8, 10, 12]), (17, [3, 4, 5, 8, 10, 12]), (18, [3, 4, 5, 8, 10, 12, 13]), (19, [3, 4, 5, 8, 10, 12, 13]), (20, [3, 4, 5, 8, 10, 12, 13, 62]), (21, [6]), (22, [3, 4, 5, 8, 10, 12, 65]), (23, [6]), (24, [8, 10, 12, 14]), (25, [10, 12, 76]), (26, [6]), (27, [10, 12, 13]), (28, [12, 13]), (29, [12, 13, 81]), (30, [6]), (31, [84]), (32, [6]), (33, [6])] [(6, [9, 28]), (7, [9, 28, 34]), (8, [9, 28, 34]), (9, [28, 34]), (10, [9, 28, 34]), (11, [28, 34]), (12, [9, 28, 34]), (13, [28, 34]), (14, [28, 34]), (15, [28, 34]), (16, [28, 34]), (17, [28, 34]), (18, [28, 34]), (19, [28, 34]), (20, [28, 34]), (21, [28, 34]), (22, [28, 34]), (23, [28, 34]), (24, [28, 34]), (25, [28, 34]), (26, [28, 34]), (27, [28, 34]), (28, [28, 34]), (29, [28, 34]), (30, [28, 34]), (31, [28, 34]), (32, [28, 34]), (33, [28, 34])] [] []
  rintro ⟨(xs : List Pt), ⟨(px : Int), (py : Int)⟩, ⟨(qx : Int), (qy : Int)⟩, ⟨⟩⟩ ⟨(h1 : xs.length ≤ _), -⟩
  have ht : (wbM xs (px, py) (qx, qy)).length ≤ 23 := wayM_len xs _ _
  (repeat' (first | with_reducible exact True.intro | with_reducible refine st_seq ?_ | (with_reducible refine st_regionG hG_ ?_; intro K_ hK_) | (with_reducible refine st_region ?_; intro K_ hK_) | (with_reducible refine hK_ _ _ ?_; try clear hK_ K_) | ((with_reducible refine st_cond (b := ?b_) ?hb_ ?_ ?_); case hb_ => rfl) | with_reducible refine sq_n ?_ | with_reducible refine sq_r ?_ | with_reducible refine sq_e ?_ | with_reducible refine bq_n ?_ | with_reducible refine bq_r ?_ | with_reducible refine bq_q ?_ | with_reducible refine st_block ?_ | with_reducible refine st_exit ?_ | with_reducible refine st_ret ?_ | with_reducible refine st_skip ?_ | with_reducible refine gq_n ?_ | with_reducible refine gq_r ?_ | with_reducible refine gq_e ?_ | with_reducible refine lq_n ?_ | with_reducible refine lq_r ?_ | with_reducible refine lq_e ?_ | with_reducible refine bq_e (by decide) ?_ | ((conv => whnf); first | (with_reducible refine hK_ _ _ ?_; try clear hK_ K_) | (with_reducible refine fun (g_ : Sl) (o_ : Ow) => ?_) | with_reducible exact True.intro | with_reducible refine And.intro trivial ?_ | with_reducible refine And.intro ?_ ?_ | exact Nat.le_of_ble_eq_true rfl | exact Or.inl rfl | (intro h_; cases h_) | (intro h_; (try simp only [cond_true, cond_false, decide_eq_true_eq, decide_eq_false_iff_not, Bool.not_eq_true', Bool.not_eq_false', Int.toNat_natCast, prodEta] at h_)) | rfl))) <;> (try (conv => whnf)) <;> (try first | change (_ : Int) ≤ _ | change (_ : Nat) ≤ _) <;> (try ((fail_if_success (with_reducible apply Exists.intro)); (try dsimp only); (try simp only [cond_true, cond_false, decide_eq_true_eq, decide_eq_false_iff_not, Bool.not_eq_true', Bool.not_eq_false', Int.toNat_natCast, prodEta])))
  all_goals (try (fail_if_success (with_reducible apply Exists.intro)); first | with_reducible assumption | omega | exact mdl (by omega) | exact ilo1 (by omega) | exact ilo2 (by omega) | exact ihi1 (by omega) (by omega) | exact ihi2 (by omega) (by omega))
  all_goals ((try simp only [szF_neg1, szF_neg2, szF_nn, szF_hi1, bne_self_eq_false, beq_self_eq_true, Bool.true_eq_false, markRC, markPsC, markIsC, markBsC, mkConW, heldF_marks, heldI_marks, heldB_marks, marks_len, marksI_len, marksB_len, decide_true, Bool.not_true, List.length_map, not_true_eq_false, Bool.false_eq_true, reduceCtorEq, not_false_eq_true] at *); (try omega))
end Go.Proofs.YtmhmmdcbkpclpaaGreat
