import Derived.Test.YtafphbegpjjolaaPlaysA
import Derived.Test.YtafphbegpjjolaaEndsLaw
/- Plain laws of plays: the numbers that the law meets. -/
namespace Go.Proofs.Ytafphbegpjjolaa.AM
open Go
set_option maxRecDepth 1000000
set_option linter.unusedSimpArgs false
set_option linter.unusedVariables false
/-- what all means of a play have in common -/
theorem mean_den {r : List Int} (h : RackOK r) {m : Nat} (hm : m ≤ 2) : ∃ M, 0 < M ∧ M ≤ 69872686884000 ∧ (m ≤ 1 → M ≤ 30) ∧ ∀ w : List Int → Nat, (∀ r : List Int, r.length = 24 → rackP r = true → w r ≤ 24) → (meanV w endB m r).2 ∣ M := by
  have one : ∀ w : List Int → Nat, (meanV w endB m r) = (w r, 1) → (meanV w endB m r).2 ∣ 1 := fun w e => by rw [e]; exact ⟨1, rfl⟩
  cases m with
  | zero => exact ⟨1, by omega, by omega, fun _ => by omega, fun w _ => one w rfl⟩
  | succ m =>
    cases he : endB r with
    | true => exact ⟨1, by omega, by omega, fun _ => by omega, fun w _ => one w (by simp [meanV, he])⟩
    | false =>
      have hl := endB_useful r he
      have hl30 := usefulL_len30 r
      have e1 : ∀ w, meanV w endB (m + 1) r = meanTo (fun p => meanV w endB m (pourR r p.1 p.2)) (usefulL r).length (usefulL r) := fun w => by simp [meanV, he]
      have hm1 : m = 0 ∨ m = 1 := by omega
      rcases hm1 with rfl | rfl
      · refine ⟨(usefulL r).length, hl, by omega, fun _ => hl30, fun w hw => ?_⟩
        rw [e1]
        have := (meanTo_ok (m := fun p => meanV w endB 0 (pourR r p.1 p.2)) (M := 1) hl _ (usefulL r) rfl fun p hp => by
          obtain ⟨_, _, hq⟩ := useful_pour h hp
          exact ⟨by simp [meanV], ⟨1, rfl⟩, by have := hw _ hq.len hq.val; simpa [meanV] using this⟩).2.1
        simpa using this
      · refine ⟨lcm30 * (usefulL r).length, Nat.mul_pos (by decide) hl, ?_, fun h => by omega, fun w hw => ?_⟩
        · calc lcm30 * (usefulL r).length ≤ lcm30 * 30 := Nat.mul_le_mul_left _ hl30
            _ = 69872686884000 := by decide
        · rw [e1]
          exact (meanTo_ok (m := fun p => meanV w endB 1 (pourR r p.1 p.2)) (M := lcm30) hl _ (usefulL r) rfl fun p hp => by
            obtain ⟨_, _, hq⟩ := useful_pour h hp
            exact (mean_ok hw endB_useful (Nat.le_refl 1) hq.len hq.val).1).2.1
theorem mean_pos (w : List Int → Nat) (m : Nat) (r : List Int) : 0 < (meanV w endB m r).2 := (mean_sc w m r).pos
theorem mean_most {w : List Int → Nat} {m c : Nat} {r : List Int} (h : scal w m r ≤ c * lcm30 ^ m) : (meanV w endB m r).1 ≤ c * (meanV w endB m r).2 := by
  have hs := mean_sc w m r
  have : (meanV w endB m r).1 * lcm30 ^ m ≤ c * (meanV w endB m r).2 * lcm30 ^ m := by
    rw [hs.eq]
    calc scal w m r * (meanV w endB m r).2 ≤ c * lcm30 ^ m * (meanV w endB m r).2 := Nat.mul_le_mul_right _ h
      _ = c * (meanV w endB m r).2 * lcm30 ^ m := by ac_rfl
  exact Nat.le_of_mul_le_mul_right this (lcm_pos m)
theorem chance_le1 (m : Nat) (r : List Int) : (meanV w1 endB m r).1 ≤ (meanV w1 endB m r).2 := by
  have := mean_most (w := w1) (m := m) (r := r) (c := 1) (by have := scal_sum m r; omega)
  omega
theorem chance_le2 (m : Nat) (r : List Int) : (meanV w2 endB m r).1 ≤ (meanV w2 endB m r).2 := by
  have := mean_most (w := w2) (m := m) (r := r) (c := 1) (by have := scal_sum m r; omega)
  omega
theorem chance_sum (m : Nat) (r : List Int) : (meanV w1 endB m r).1 * (meanV w2 endB m r).2 + (meanV w2 endB m r).1 * (meanV w1 endB m r).2 ≤ (meanV w1 endB m r).2 * (meanV w2 endB m r).2 := by
  have h1 := mean_sc w1 m r
  have h2 := mean_sc w2 m r
  have hs := scal_sum m r
  generalize meanV w1 endB m r = x at *
  generalize meanV w2 endB m r = y at *
  have : (x.1 * y.2 + y.1 * x.2) * lcm30 ^ m ≤ x.2 * y.2 * lcm30 ^ m := by
    calc (x.1 * y.2 + y.1 * x.2) * lcm30 ^ m = (x.1 * lcm30 ^ m) * y.2 + (y.1 * lcm30 ^ m) * x.2 := by rw [Nat.add_mul]; ac_rfl
      _ = (scal w1 m r * x.2) * y.2 + (scal w2 m r * y.2) * x.2 := by rw [h1.eq, h2.eq]
      _ = (scal w1 m r + scal w2 m r) * (x.2 * y.2) := by rw [Nat.add_mul]; ac_rfl
      _ ≤ lcm30 ^ m * (x.2 * y.2) := Nat.mul_le_mul_right _ hs
      _ = x.2 * y.2 * lcm30 ^ m := by ac_rfl
  exact Nat.le_of_mul_le_mul_right this (lcm_pos m)
theorem chance_grow {w : List Int → Nat} (hw : ∀ r, endB r = false → w r = 0) (m : Nat) (r : List Int) : (meanV w endB m r).1 * (meanV w endB (m + 1) r).2 ≤ (meanV w endB (m + 1) r).1 * (meanV w endB m r).2 := by
  have h1 := (mean_sc w m r).scale lcm30
  have h2 := mean_sc w (m + 1) r
  have e : lcm30 ^ m * lcm30 = lcm30 ^ (m + 1) := (Nat.pow_succ ..).symm
  rw [e] at h1
  exact Sc.le (lcm_pos (m + 1)) h1 h2 (scal_grow hw m r)
theorem mean_runs (m : Nat) {r : List Int} (h : RackOK r) : (meanV w3 endB m r).1 ≤ w3 r * (meanV w3 endB m r).2 := mean_most (scal_le (fun r hr p hp => runs_pour hr hp) m r h)
/-- the least common multiple of two denominators -/
theorem den_lcm {b d M : Nat} (hb : b ∣ M) (hd : d ∣ M) (hM : 0 < M) : b / Nat.gcd b d * d ≤ M := by
  have h1 : Nat.lcm b d ∣ M := Nat.lcm_dvd hb hd
  have h2 : b / Nat.gcd b d * d = Nat.lcm b d := by
    unfold Nat.lcm
    exact Nat.div_mul_right_comm (Nat.gcd_dvd_left b d) d
  rw [h2]
  exact Nat.le_of_dvd hM h1
theorem den_lcm2 {b d M : Nat} (hb : b ∣ M) (hd : d ∣ M) (hM : 0 < M) : b * (d / Nat.gcd b d) ≤ M := by
  have := den_lcm hd hb hM
  rw [Nat.gcd_comm] at this
  rw [Nat.mul_comm]
  exact this
/-- the best first pour -/
theorem best_nat {n : Nat} (hn : n ≤ 1) {r : List Int} (h : RackOK r) (f : Nat × Nat) : ∀ k, 0 < k → k ≤ (usefulL r).length → ∃ p ∈ (usefulL r).take k, bestTo n r f k = (p, (((partM w1 n r p).1 : Int), ((partM w1 n r p).2 : Int))) ∧ ∀ q ∈ (usefulL r).take k, (partM w1 n r q).1 * (partM w1 n r p).2 ≤ (partM w1 n r p).1 * (partM w1 n r q).2
  | 0, h0, _ => by omega
  | k + 1, _, hk => by
    have hkl : k < (usefulL r).length := by omega
    have htk : (usefulL r).take (k + 1) = (usefulL r).take k ++ [(usefulL r)[k]'hkl] := List.take_succ_eq_append_getElem hkl
    have hpos := (part_num hn h (List.getElem_mem hkl)).1
    rw [bestTo_succ n r f hkl, htk]
    by_cases h0 : k = 0
    · subst h0
      rw [bestTo_zero]
      obtain ⟨a, b, c⟩ := part_num hn h (List.getElem_mem hkl)
      have hlt : (-1 : Int) * ((partM w1 n r ((usefulL r)[0]'hkl)).2 : Int) < ((partM w1 n r ((usefulL r)[0]'hkl)).1 : Int) * 1 := by omega
      refine ⟨(usefulL r)[0]'hkl, by simp, ?_, fun q hq => ?_⟩
      · unfold bestStep
        simp only [if_pos hlt]
      · simp at hq
        subst hq
        exact Nat.le_refl _
    · obtain ⟨p, hp, hb, hall⟩ := best_nat hn h f k (by omega) (by omega)
      rw [hb]
      generalize hq0 : (usefulL r)[k]'hkl = q0 at *
      have hpp := (part_num hn h (List.mem_of_mem_take hp)).1
      unfold bestStep
      by_cases hlt : (partM w1 n r p).1 * (partM w1 n r q0).2 < (partM w1 n r q0).1 * (partM w1 n r p).2
      · have hlt' : ((partM w1 n r p).1 : Int) * ((partM w1 n r q0).2 : Int) < ((partM w1 n r q0).1 : Int) * ((partM w1 n r p).2 : Int) := by
          rw [← Int.natCast_mul, ← Int.natCast_mul]; omega
        simp only [if_pos hlt']
        refine ⟨q0, by simp, rfl, fun q hq => ?_⟩
        rcases List.mem_append.1 hq with hq | hq
        · have h1 := hall q hq
          generalize partM w1 n r q = y at *
          generalize partM w1 n r p = x at *
          generalize partM w1 n r q0 = z at *
          have : y.1 * z.2 * x.2 ≤ z.1 * y.2 * x.2 := by
            calc y.1 * z.2 * x.2 = (y.1 * x.2) * z.2 := by ac_rfl
              _ ≤ (x.1 * y.2) * z.2 := Nat.mul_le_mul_right _ h1
              _ = (x.1 * z.2) * y.2 := by ac_rfl
              _ ≤ (z.1 * x.2) * y.2 := Nat.mul_le_mul_right _ (Nat.le_of_lt hlt)
              _ = z.1 * y.2 * x.2 := by ac_rfl
          exact Nat.le_of_mul_le_mul_right this hpp
        · simp at hq
          subst hq
          exact Nat.le_refl _
      · have hlt' : ¬ ((partM w1 n r p).1 : Int) * ((partM w1 n r q0).2 : Int) < ((partM w1 n r q0).1 : Int) * ((partM w1 n r p).2 : Int) := by
          rw [← Int.natCast_mul, ← Int.natCast_mul]; omega
        simp only [if_neg hlt']
        refine ⟨p, List.mem_append_left _ hp, rfl, fun q hq => ?_⟩
        rcases List.mem_append.1 hq with hq | hq
        · exact hall q hq
        · simp at hq
          subst hq
          omega
theorem best_all {n : Nat} (hn : n ≤ 1) {r : List Int} (h : RackOK r) (f : Nat × Nat) (hl : 0 < (usefulL r).length) : ∃ p ∈ usefulL r, bestTo n r f (usefulL r).length = (p, (((partM w1 n r p).1 : Int), ((partM w1 n r p).2 : Int))) ∧ ∀ q ∈ usefulL r, (partM w1 n r q).1 * (partM w1 n r p).2 ≤ (partM w1 n r p).1 * (partM w1 n r q).2 := by
  have := best_nat hn h f (usefulL r).length hl (Nat.le_refl _)
  rwa [List.take_length] at this
theorem ends_one {r : List Int} (h : RackOK r) (m : Nat) : 1 ≤ (endsX r m).length := by
  have : ∀ m, endsX r m ≠ [] := by
    intro m
    induction m with
    | zero => simp [endsX]
    | succ m ih =>
      obtain ⟨x, hx⟩ := List.exists_mem_of_ne_nil _ ih
      have hne : ∃ y, y ∈ nexts x := by
        unfold nexts
        cases he : endB x with
        | true => exact ⟨x, by simp⟩
        | false =>
          have := endB_useful x he
          exact ⟨pourR x ((usefulL x)[0]'this).1 ((usefulL x)[0]'this).2, by
            simp only [Bool.false_eq_true, if_false]
            exact List.mem_map.2 ⟨_, List.getElem_mem this, rfl⟩⟩
      obtain ⟨y, hy⟩ := hne
      intro e
      have : y ∈ stepX (endsX r m) := mem_stepX.2 ⟨x, hx, hy⟩
      have e2 : stepX (endsX r m) = [] := e
      rw [e2] at this
      simp at this
  exact List.length_pos_iff.2 (this m)
theorem ends_first {r : List Int} (he : endB r = false) : (endsX r 1).length ≤ (usefulL r).length := by
  have h1 := fold_len (([r] : List (List Int)).flatMap nexts) []
  have e : endsX r 1 = stepX [r] := rfl
  rw [e]
  unfold stepX
  have h2 : (([r] : List (List Int)).flatMap nexts).length = (usefulL r).length := by simp [nexts, he]
  simp only [List.length_nil] at h1
  omega
end Go.Proofs.Ytafphbegpjjolaa.AM
