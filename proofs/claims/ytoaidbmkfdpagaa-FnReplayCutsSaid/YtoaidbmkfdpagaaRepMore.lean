import Derived.Test.YtoaidbmkfdpagaaRepRes
/- Plain laws of replays: pours exchanged, idle pours left out, loops cut; no program in sight. -/
namespace Go.Proofs.Ytoaidbmkfdpagaa.AM
open Go
set_option maxRecDepth 1000000
set_option linter.unusedSimpArgs false
set_option linter.unusedVariables false
theorem cZ_takeN (l : List (Int × Int)) (n : Nat) : (cZ l).take (n * 2) = cZ (l.take n) := by
  by_cases h : n ≤ l.length
  · have := congrArg (List.take (n * 2)) (show cZ l = cZ (l.take n) ++ cZ (l.drop n) by rw [← cZ_app, List.take_append_drop])
    rw [this, List.take_append_of_le_length (by simp; omega), List.take_of_length_le (by simp; omega)]
  · rw [List.take_of_length_le (by simp; omega), List.take_of_length_le (show l.length ≤ n by omega)]
theorem cZ_set2 : ∀ (l : List (Int × Int)) (k : Nat) (p : Int × Int), ((cZ l).set (k * 2) (C.int .i64 p.1)).set (k * 2 + 1) (C.int .i64 p.2) = cZ (l.set k p)
  | [], k, p => by simp [cZ_nil]
  | q :: l, 0, p => by simp [cZ_cons]
  | q :: l, k + 1, p => by
    have ih := cZ_set2 l k p
    rw [show (k + 1) * 2 = k * 2 + 1 + 1 by omega]
    simp only [cZ_cons, List.set_cons_succ, ih]
@[simp] theorem z25_dead (i : Nat) : noDead (z25 i) = true := rfl
@[simp] theorem z25_all (i : Nat) : (z25 i).take 25 = z25 i := rfl
@[simp] theorem z25_mp (g : Nat → Nat) (i : Nat) : cmp g (z25 i) = z25 (g i) := rfl
/-! ### one pour more -/
theorem repB_iff {r : List Int} {l : List (Int × Int)} : repB r l = true ↔ okRack r = true ∧ l.length ≤ 60 ∧ ∀ j, j < l.length → canAt r l j = true := by
  unfold repB allCan
  simp only [Bool.and_eq_true, decide_eq_true_eq, List.all_eq_true, List.mem_range, and_assoc]
theorem canAt_app_lt (r : List Int) {l : List (Int × Int)} (m : List (Int × Int)) {j : Nat} (hj : j < l.length) : canAt r (l ++ m) j = canAt r l j := by
  unfold canAt
  rw [List.take_append_of_le_length (by omega), List.getD_eq_getElem?_getD, List.getD_eq_getElem?_getD, List.getElem?_append_left hj]
theorem canAt_app_len (r : List Int) (l : List (Int × Int)) (p : Int × Int) : canAt r (l ++ [p]) l.length = canZ (rackF r l) p := by
  unfold canAt
  rw [List.take_append_of_le_length (Nat.le_refl _), List.take_of_length_le (Nat.le_refl _), List.getD_eq_getElem?_getD, List.getElem?_append_right (Nat.le_refl _)]
  simp
def adB (r : List Int) (l : List (Int × Int)) (p : Int × Int) : Bool := repB r l && decide (l.length < 60) && canZ (rackF r l) p
theorem add_rep (r : List Int) (l : List (Int × Int)) (p : Int × Int) : repB r (l ++ [p]) = adB r l p := by
  rw [Bool.eq_iff_iff, repB_iff]
  unfold adB
  rw [Bool.and_eq_true, Bool.and_eq_true, repB_iff, decide_eq_true_eq, List.length_append]
  constructor
  · rintro ⟨h1, h2, h3⟩
    have h2' : l.length + 1 ≤ 60 := h2
    refine ⟨⟨⟨h1, by omega, fun j hj => ?_⟩, by omega⟩, ?_⟩
    · have := h3 j (by simp; omega)
      rwa [canAt_app_lt r _ hj] at this
    · have := h3 l.length (by simp)
      rwa [canAt_app_len] at this
  · rintro ⟨⟨⟨h1, h2, h3⟩, h4⟩, h5⟩
    refine ⟨h1, by simp; omega, fun j hj => ?_⟩
    have hj' : j < l.length + 1 := hj
    by_cases h : j < l.length
    · rw [canAt_app_lt r _ h]; exact h3 j h
    · have : j = l.length := by omega
      subst this
      rw [canAt_app_len]; exact h5
/-! ### exchanged -/
def swapL (l : List (Int × Int)) (k : Nat) : List (Int × Int) := (l.set k (l.getD (k + 1) (0, 0))).set (k + 1) (l.getD k (0, 0))
@[simp] theorem swapL_len (l : List (Int × Int)) (k : Nat) : (swapL l k).length = l.length := by simp [swapL]
/-! ### idle pours left out -/
def idleZ (r : List Int) (p : Int × Int) : Bool := idleP r p.1.toNat p.2.toNat
def dropStep (s : List Int × List (Int × Int)) (p : Int × Int) : List Int × List (Int × Int) := if canZ s.1 p = true ∧ idleZ s.1 p = false then (pourZ s.1 p, s.2 ++ [p]) else s
def dropF (r : List Int) (l : List (Int × Int)) : List Int × List (Int × Int) := l.foldl dropStep (r, [])
theorem dropF_succ (r : List Int) {l : List (Int × Int)} {k : Nat} (hk : k < l.length) : dropF r (l.take (k + 1)) = dropStep (dropF r (l.take k)) (l[k]'hk) := by
  unfold dropF
  rw [take_snoc hk, List.foldl_append]
  rfl
theorem dropStep_ok {s : List Int × List (Int × Int)} {p : Int × Int} (h : RackOK s.1) : RackOK (dropStep s p).1 := by
  unfold dropStep
  split
  · rename_i hc
    obtain ⟨i, j, _, _, hi, hj, hcan, e1, e2⟩ := canZ_facts hc.1
    show RackOK (pourZ s.1 p)
    unfold pourZ
    rw [e1, e2]
    exact h.pour hi hj (canP_ne hcan)
  · exact h
theorem dropF_ok {r : List Int} (h : RackOK r) (l : List (Int × Int)) : RackOK (dropF r l).1 := by
  have : ∀ (l : List (Int × Int)) (s : List Int × List (Int × Int)), RackOK s.1 → RackOK (l.foldl dropStep s).1 := by
    intro l
    induction l with
    | nil => intro s h; exact h
    | cons p l ih => intro s h; exact ih _ (dropStep_ok h)
  exact this l (r, []) h
theorem dropF_len (r : List Int) (l : List (Int × Int)) : (dropF r l).2.length ≤ l.length := by
  have : ∀ (l : List (Int × Int)) (s : List Int × List (Int × Int)), (l.foldl dropStep s).2.length ≤ s.2.length + l.length := by
    intro l
    induction l with
    | nil => intro s; simp
    | cons p l ih =>
      intro s
      have h1 := ih (dropStep s p)
      have h2 : (dropStep s p).2.length ≤ s.2.length + 1 := by unfold dropStep; split <;> simp
      simp only [List.foldl_cons, List.length_cons]
      omega
  have h := this l (r, [])
  simpa [dropF] using h
/-! ### loops cut -/
theorem innerTo_mem {r : List Int} {l : List (Int × Int)} {k j : Nat} {p : Nat × Nat} (h : p ∈ innerTo r l k j) : p.1 = k ∧ k < p.2 ∧ p.2 < j ∧ rkA r l k = rkA r l p.2 := by
  unfold innerTo at h
  obtain ⟨m, hm, rfl⟩ := List.mem_map.1 h
  obtain ⟨h1, h2⟩ := List.mem_filter.1 hm
  simp only [Bool.and_eq_true, decide_eq_true_eq] at h2
  exact ⟨rfl, h2.1, List.mem_range.1 h1, h2.2⟩
theorem outerTo_mem {r : List Int} {l : List (Int × Int)} {n : Nat} {p : Nat × Nat} (h : p ∈ outerTo r l n) : p.1 < n ∧ p.1 < p.2 ∧ p.2 ≤ l.length ∧ rkA r l p.1 = rkA r l p.2 := by
  unfold outerTo at h
  obtain ⟨q, hq, hp⟩ := List.mem_flatMap.1 h
  obtain ⟨h1, h2, h3, h4⟩ := innerTo_mem hp
  have := List.mem_range.1 hq
  subst h1
  exact ⟨this, h2, by omega, h4⟩
theorem outerTo_sorted (r : List Int) (l : List (Int × Int)) : ∀ n, (outerTo r l n).Pairwise fun a b => a.1 ≤ b.1
  | 0 => by simp [outerTo]
  | n + 1 => by
    rw [outerTo_succ, List.pairwise_append]
    refine ⟨outerTo_sorted r l n, ?_, fun a ha b hb => ?_⟩
    · refine List.Pairwise.imp_of_mem (R := fun _ _ => True) (fun {a b} ha hb _ => ?_) ?_
      · rw [(innerTo_mem ha).1, (innerTo_mem hb).1]; exact Nat.le_refl _
      · exact List.pairwise_of_forall fun _ _ => trivial
    · rw [(innerTo_mem hb).1]
      exact Nat.le_of_lt (outerTo_mem ha).1
def bestStep (b o : Nat × Nat) : Nat × Nat := if o.1 = b.1 then o else b
def bestTo (L : List (Nat × Nat)) (j : Nat) : Nat × Nat := (L.take j).foldl bestStep (L.headD (0, 0))
def loopBest (L : List (Nat × Nat)) : Nat × Nat := bestTo L L.length
theorem bestTo_zero (L : List (Nat × Nat)) : bestTo L 0 = L.headD (0, 0) := rfl
theorem bestTo_succ (L : List (Nat × Nat)) {j : Nat} (hj : j < L.length) : bestTo L (j + 1) = bestStep (bestTo L j) (L[j]'hj) := by
  unfold bestTo
  rw [List.take_succ_eq_append_getElem hj, List.foldl_append]
  rfl
theorem bestTo_facts (L : List (Nat × Nat)) (hL : L ≠ []) : ∀ j, j ≤ L.length → (bestTo L j).1 = (L.headD (0, 0)).1 ∧ bestTo L j ∈ L
  | 0, _ => by
    cases L with
    | nil => exact absurd rfl hL
    | cons p L => exact ⟨rfl, by simp [bestTo]⟩
  | j + 1, h => by
    obtain ⟨h1, h2⟩ := bestTo_facts L hL j (by omega)
    rw [bestTo_succ L (by omega)]
    unfold bestStep
    split
    · rename_i e
      exact ⟨by rw [e, h1], List.getElem_mem _⟩
    · exact ⟨h1, h2⟩
theorem bestTo_stop {L : List (Nat × Nat)} (hs : L.Pairwise fun a b => a.1 ≤ b.1) {K : Nat} (hK : K < L.length) (h0 : 0 < K) (hne : (L[K]'hK).1 ≠ (L.headD (0, 0)).1) : ∀ d, K + d ≤ L.length → bestTo L (K + d) = bestTo L K
  | 0, _ => rfl
  | d + 1, h => by
    have ih := bestTo_stop hs hK h0 hne d (by omega)
    rw [show K + (d + 1) = K + d + 1 by omega, bestTo_succ L (by omega), ih]
    have hL : L ≠ [] := by intro e; subst e; simp at hK
    have hf := (bestTo_facts L hL K (by omega)).1
    have h1 : (L[K]'hK).1 ≤ (L[K + d]'(by omega)).1 := by
      by_cases hd : d = 0
      · subst hd; exact Nat.le_refl _
      · exact List.pairwise_iff_getElem.1 hs K (K + d) hK (by omega) (by omega)
    have h2 : (L.headD (0, 0)).1 ≤ (L[K]'hK).1 := by
      have hh : L.headD (0, 0) = L[0]'(by omega) := by cases L with
        | nil => exact absurd rfl hL
        | cons p L => rfl
      rw [hh]
      exact List.pairwise_iff_getElem.1 hs 0 K (by omega) hK h0
    unfold bestStep
    rw [if_neg (by rw [hf]; omega)]
def loopsA (r : List Int) (l : List (Int × Int)) : List (Nat × Nat) := outerTo r l (l.length + 1)
def cutStep (r : List Int) (l : List (Int × Int)) : List (Int × Int) := l.take (loopBest (loopsA r l)).1 ++ l.drop (loopBest (loopsA r l)).2
def cutIt (r : List Int) (l : List (Int × Int)) : Nat → List (Int × Int)
  | 0 => l
  | t + 1 => cutStep r (cutIt r l t)
theorem best_facts {r : List Int} {l : List (Int × Int)} (h : loopsA r l ≠ []) : (loopBest (loopsA r l)).1 < (loopBest (loopsA r l)).2 ∧ (loopBest (loopsA r l)).2 ≤ l.length ∧ rkA r l (loopBest (loopsA r l)).1 = rkA r l (loopBest (loopsA r l)).2 := by
  have hm := (bestTo_facts _ h _ (Nat.le_refl _)).2
  obtain ⟨_, h1, h2, h3⟩ := outerTo_mem hm
  exact ⟨h1, h2, h3⟩
theorem cutStep_len {r : List Int} {l : List (Int × Int)} (h : loopsA r l ≠ []) : (cutStep r l).length < l.length := by
  obtain ⟨h1, h2, _⟩ := best_facts h
  unfold cutStep
  rw [List.length_append, List.length_take, List.length_drop]
  omega
theorem rackF_app (r : List Int) (a b : List (Int × Int)) : rackF r (a ++ b) = rackF (rackF r a) b := List.foldl_append
/-- the rack behind the pours that are left -/
theorem cut_rack {r : List Int} {l : List (Int × Int)} {k m : Nat} (hk : k < m) (hm : m ≤ l.length) (he : rkA r l k = rkA r l m) {j : Nat} (hj : k ≤ j) : rackF r ((l.take k ++ l.drop m).take j) = rackF r (l.take (m + (j - k))) := by
  have hlen : (l.take k).length = k := by simp; omega
  have e1 : (l.take k ++ l.drop m).take j = l.take k ++ (l.drop m).take (j - k) := by
    rw [List.take_append, hlen, List.take_of_length_le (by omega)]
  have e2 : l.take (m + (j - k)) = l.take m ++ (l.drop m).take (j - k) := List.take_add
  have he' : rackF r (l.take k) = rackF r (l.take m) := he
  rw [e1, e2, rackF_app, rackF_app, he']
theorem cut_rep {r : List Int} {l : List (Int × Int)} (h : repB r l = true) {k m : Nat} (hk : k < m) (hm : m ≤ l.length) (he : rkA r l k = rkA r l m) : repB r (l.take k ++ l.drop m) = true := by
  rw [repB_iff] at h ⊢
  obtain ⟨h1, h2, h3⟩ := h
  have hlen : (l.take k ++ l.drop m).length = k + (l.length - m) := by simp; omega
  refine ⟨h1, by omega, fun j hj => ?_⟩
  rw [hlen] at hj
  by_cases hjk : j < k
  · have := h3 j (by omega)
    unfold canAt at this ⊢
    have e1 : (l.take k ++ l.drop m).take j = l.take j := by
      rw [List.take_append_of_le_length (by simp; omega), List.take_take, Nat.min_eq_left (by omega)]
    have e2 : (l.take k ++ l.drop m).getD j (0, 0) = l.getD j (0, 0) := by
      rw [List.getD_eq_getElem?_getD, List.getD_eq_getElem?_getD, List.getElem?_append_left (by simp; omega), List.getElem?_take_of_lt hjk]
    rw [e1, e2]
    exact this
  · have := h3 (m + (j - k)) (by omega)
    unfold canAt at this ⊢
    rw [cut_rack hk hm he (by omega)]
    have e2 : (l.take k ++ l.drop m).getD j (0, 0) = l.getD (m + (j - k)) (0, 0) := by
      have hl : (l.take k).length = k := by simp; omega
      rw [List.getD_eq_getElem?_getD, List.getD_eq_getElem?_getD, List.getElem?_append_right (by omega), hl, List.getElem?_drop]
    rw [e2]
    exact this
theorem cutStep_rep {r : List Int} {l : List (Int × Int)} (h : repB r l = true) (hL : loopsA r l ≠ []) : repB r (cutStep r l) = true := by
  obtain ⟨h1, h2, h3⟩ := best_facts hL
  exact cut_rep h h1 h2 h3
theorem cutStep_rack {r : List Int} {l : List (Int × Int)} (hL : loopsA r l ≠ []) : rackF r (cutStep r l) = rackF r l := by
  obtain ⟨h1, h2, h3⟩ := best_facts hL
  have h := cut_rack h1 h2 h3 (j := (cutStep r l).length) (by unfold cutStep; rw [List.length_append, List.length_take, List.length_drop]; omega)
  have e : (cutStep r l).take (cutStep r l).length = cutStep r l := List.take_of_length_le (Nat.le_refl _)
  have e2 : l.take ((loopBest (loopsA r l)).2 + ((cutStep r l).length - (loopBest (loopsA r l)).1)) = l := List.take_of_length_le (by unfold cutStep; rw [List.length_append, List.length_take, List.length_drop]; omega)
  rw [e2] at h
  rw [← h]
  unfold cutStep at e ⊢
  rw [e]
theorem loopsA_nil (r : List Int) : loopsA r [] = [] := by
  unfold loopsA
  show outerTo r [] 1 = []
  rw [show (1 : Nat) = 0 + 1 from rfl, outerTo_succ]
  show outerTo r [] 0 ++ innerTo r [] 0 1 = []
  rw [innerTo_zero]
  rfl
/-- the first turn at which no loop is left -/
theorem cut_end (r : List Int) (l : List (Int × Int)) : ∃ K, K ≤ l.length ∧ loopsA r (cutIt r l K) = [] ∧ ∀ j, j < K → loopsA r (cutIt r l j) ≠ [] := by
  obtain ⟨K, h1, h2, h3⟩ := first_exit (fun t => (loopsA r (cutIt r l t)).isEmpty) l.length
  have h3' : ∀ j, j < K → loopsA r (cutIt r l j) ≠ [] := fun j hj e => by
    have := h3 j hj
    rw [e] at this
    simp at this
  refine ⟨K, h1, ?_, h3'⟩
  have hlen : ∀ j, j ≤ K → (cutIt r l j).length + j ≤ l.length := by
    intro j
    induction j with
    | zero => intro _; simp [cutIt]
    | succ j ih =>
      intro hj
      have h1 := ih (by omega)
      have h2 := cutStep_len (h3' j (by omega))
      have e : cutIt r l (j + 1) = cutStep r (cutIt r l j) := rfl
      rw [e]
      omega
  rcases h2 with e | e
  · have := hlen K (Nat.le_refl _)
    have hz : cutIt r l K = [] := List.eq_nil_of_length_eq_zero (by omega)
    rw [hz]
    exact loopsA_nil r
  · simpa using e
noncomputable def cutK (r : List Int) (l : List (Int × Int)) : Nat := (cut_end r l).choose
/-- the pours of a replay without its loops -/
noncomputable def cutR (r : List Int) (l : List (Int × Int)) : List (Int × Int) := cutIt r l (cutK r l)
theorem cutK_le (r : List Int) (l : List (Int × Int)) : cutK r l ≤ l.length := (cut_end r l).choose_spec.1
theorem cutR_loops (r : List Int) (l : List (Int × Int)) : loopsA r (cutR r l) = [] := (cut_end r l).choose_spec.2.1
theorem cutK_more (r : List Int) (l : List (Int × Int)) {j : Nat} (hj : j < cutK r l) : loopsA r (cutIt r l j) ≠ [] := (cut_end r l).choose_spec.2.2 j hj
theorem cutIt_rep {r : List Int} {l : List (Int × Int)} (h : repB r l = true) : ∀ j, j ≤ cutK r l → repB r (cutIt r l j) = true ∧ rackF r (cutIt r l j) = rackF r l
  | 0, _ => ⟨h, rfl⟩
  | j + 1, hj => by
    obtain ⟨h1, h2⟩ := cutIt_rep h j (by omega)
    have h3 := cutK_more r l (show j < cutK r l by omega)
    exact ⟨cutStep_rep h1 h3, by rw [← h2]; exact cutStep_rack h3⟩
theorem cutR_rep {r : List Int} {l : List (Int × Int)} (h : repB r l = true) : repB r (cutR r l) = true ∧ rackF r (cutR r l) = rackF r l := cutIt_rep h _ (Nat.le_refl _)
end Go.Proofs.Ytoaidbmkfdpagaa.AM
