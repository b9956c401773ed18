import Derived.Test.YtoaidbmkfdpagaaDealG
import Derived.Test.YtoaidbmkfdpagaaVFrac
/- Plain laws of deals: bounds of the mean of runs, sums of tops, pairs of tops. -/
namespace Go.Proofs.Ytoaidbmkfdpagaa.AM
open Go
set_option maxRecDepth 1000000
set_option linter.unusedSimpArgs false
set_option linter.unusedVariables false
theorem dr_bounds {M N : List Nat} (lm : M.length = 6) (lc : N.length = 6) (hs : M.sum = N.sum) (hle : N.sum ≤ 24) :
    tubTo M 6 * (drF M N).2 ≤ (drF M N).1 ∧ (drF M N).1 ≤ M.sum * (drF M N).2 ∧ (drF M N).1 ≤ 100000 ∧ (drF M N).2 ≤ 100000 := by
  have htb := tub_bes lm
  have ht6 := tubTo_le M 6
  unfold drF
  by_cases hb : besTo M 6 = 0
  · rw [if_pos hb]
    refine ⟨?_, ?_, ?_, ?_⟩ <;> simp <;> omega
  · rw [if_neg hb]
    obtain ⟨z1, z2, z3, z4, z5, z6⟩ := dr_ok lm lc hs hle hb
    generalize hA : N.sum * (N.sum - 1) = A at *
    generalize sqTo N 6 = q at *
    have r1 := cutF_ratio (besTo M 6 * (A - q)) A
    have p1 := cutF_pos (a := besTo M 6 * (A - q)) z1
    have l1 := cutF_le (besTo M 6 * (A - q)) A
    have hBA : besTo M 6 * (A - q) ≤ besTo M 6 * A := Nat.mul_le_mul_left _ (by omega)
    generalize besTo M 6 * (A - q) = X at *
    generalize hF : cutF X A = F at *
    have hP : plusF (tubTo M 6, 1) F = cutF (tubTo M 6 * F.2 + F.1 * 1) (1 * F.2) := rfl
    rw [hP]
    have hF2 : 0 < 1 * F.2 := by omega
    have r2 := cutF_ratio (tubTo M 6 * F.2 + F.1 * 1) (1 * F.2)
    have l2 := cutF_le (tubTo M 6 * F.2 + F.1 * 1) (1 * F.2)
    have hm : tubTo M 6 * F.2 ≤ 6 * 552 := Nat.mul_le_mul ht6 (by omega)
    have hFB : F.1 ≤ besTo M 6 * F.2 := by
      apply Nat.le_of_mul_le_mul_right _ z1
      calc F.1 * A = X * F.2 := r1
        _ ≤ besTo M 6 * A * F.2 := Nat.mul_le_mul_right _ hBA
        _ = besTo M 6 * F.2 * A := by ac_rfl
    generalize hG : cutF (tubTo M 6 * F.2 + F.1 * 1) (1 * F.2) = G at *
    rw [Nat.mul_one, Nat.one_mul] at r2
    refine ⟨?_, ?_, by omega, by omega⟩
    · apply Nat.le_of_mul_le_mul_right _ p1
      calc tubTo M 6 * G.2 * F.2 = tubTo M 6 * F.2 * G.2 := by ac_rfl
        _ ≤ (tubTo M 6 * F.2 + F.1) * G.2 := Nat.mul_le_mul_right _ (by omega)
        _ = G.1 * F.2 := r2.symm
    · apply Nat.le_of_mul_le_mul_right _ p1
      calc G.1 * F.2 = (tubTo M 6 * F.2 + F.1) * G.2 := r2
        _ ≤ (tubTo M 6 * F.2 + besTo M 6 * F.2) * G.2 := Nat.mul_le_mul_right _ (by omega)
        _ = (tubTo M 6 + besTo M 6) * F.2 * G.2 := by rw [← Nat.add_mul (tubTo M 6) (besTo M 6) F.2]
        _ = M.sum * G.2 * F.2 := by rw [htb]; ac_rfl
theorem cutF_int (t : Nat) : cutF t 1 = (t, 1) := by
  unfold cutF
  rw [Nat.gcd_one_right, Nat.div_one, Nat.div_one]
theorem bes_big {M : List Nat} (h : besTo M 6 ≠ 0) : ∃ m, m ∈ M ∧ 2 ≤ m := by
  have key : ∀ k, besTo M k ≠ 0 → ∃ j, 2 ≤ M.getD j 0 := by
    intro k
    induction k with
    | zero => intro h; simp [besTo] at h
    | succ k ih =>
      intro h
      rw [besTo_succ] at h
      by_cases h0 : besTo M k = 0
      · exact ⟨k, by omega⟩
      · exact ih h0
  obtain ⟨j, hj⟩ := key 6 h
  have hjl : j < M.length := by
    apply Nat.lt_of_not_le
    intro hle
    rw [List.getD_eq_getElem?_getD, List.getElem?_eq_none hle] at hj
    simp at hj
  exact ⟨_, getD_mem hjl, hj⟩
/-- where all layers have one color, all pairs are alike -/
theorem sq_all {N : List Nat} (lc : N.length = 6) (h : ¬ ∃ a b, a < 6 ∧ b < 6 ∧ a ≠ b ∧ 1 ≤ N.getD a 0 ∧ 1 ≤ N.getD b 0) : sqTo N 6 = N.sum * (N.sum - 1) := by
  have e : N.sum = S6 (fun j => N.getD j 0) := by
    match N, lc with
    | [a, b, c, d, e, f], _ => simp [S6]; omega
  have e2 : sqTo N 6 = S6 (fun j => N.getD j 0 * (N.getD j 0 - 1)) := by
    match N, lc with
    | [a, b, c, d, e, f], _ => simp [S6, sqTo, List.range_succ]; omega
  have e3 : N.sum * (N.sum - 1) = S6 (fun j => N.getD j 0 * (N.sum - 1)) := by
    rw [← S6_mul, ← e]
  rw [e2, e3]
  refine S6_congr fun j hj => ?_
  by_cases h0 : N.getD j 0 = 0
  · rw [h0, Nat.zero_mul, Nat.zero_mul]
  · have : N.sum = N.getD j 0 := by
      have hz : ∀ k, k < 6 → k ≠ j → N.getD k 0 = 0 := by
        intro k hk hkj
        apply Nat.eq_zero_of_not_pos
        intro hp
        exact h ⟨j, k, hj, hk, fun e => hkj e.symm, by omega, by omega⟩
      rw [e]
      rcases six_cases hj with rfl | rfl | rfl | rfl | rfl | rfl <;> simp only [S6] <;>
        (first
          | (have h0' := hz 0 (by decide) (by decide)) | skip) <;>
        (first
          | (have h1' := hz 1 (by decide) (by decide)) | skip) <;>
        (first
          | (have h2' := hz 2 (by decide) (by decide)) | skip) <;>
        (first
          | (have h3' := hz 3 (by decide) (by decide)) | skip) <;>
        (first
          | (have h4' := hz 4 (by decide) (by decide)) | skip) <;>
        (first
          | (have h5' := hz 5 (by decide) (by decide)) | skip) <;> omega
    rw [this]
theorem dr_same {M N : List Nat} (lm : M.length = 6) (lc : N.length = 6) (hs : M.sum = N.sum) (hle : N.sum ≤ 24) (h : cutF (plainN M N) (ways N) = (1, 1)) : drF M N = (tubTo M 6, 1) := by
  have hp := cutF_is_one (ways_pos N) h
  unfold drF
  by_cases hb : besTo M 6 = 0
  · rw [if_pos hb]
  · rw [if_neg hb]
    obtain ⟨z1, z2, z3, z4, z5, z6⟩ := dr_ok lm lc hs hle hb
    have hone : ¬ ∃ a b, a < 6 ∧ b < 6 ∧ a ≠ b ∧ 1 ≤ N.getD a 0 ∧ 1 ≤ N.getD b 0 := by
      intro hab
      have ht : M.sum = tot N := by
        rw [hs]
        unfold tot
        rw [waysTo_sum, List.take_of_length_le (by omega)]
      have := plain_lt M N lc ht (bes_big hb) hab
      omega
    rw [sq_all lc hone, Nat.sub_self, Nat.mul_zero, cutF_zero z1]
    show cutF (tubTo M 6 * 1 + 0 * 1) (1 * 1) = _
    rw [Nat.mul_one, Nat.zero_mul, Nat.add_zero, Nat.mul_one, cutF_int]
end Go.Proofs.Ytoaidbmkfdpagaa.AM
