import Derived.Test.YtoaidbmkfdpagaaDealE
/- Contracts: the mean of the runs of a deal. -/
namespace Go.Proofs.Ytoaidbmkfdpagaa.AM
open Go
set_option maxRecDepth 1000000
set_option linter.unusedSimpArgs false
set_option linter.unusedVariables false
def tubTo (c : List Nat) (k : Nat) : Nat := ((List.range k).map fun j => min (c.getD j 0) 1).sum
def besTo (c : List Nat) (k : Nat) : Nat := ((List.range k).map fun j => c.getD j 0 - 1).sum
theorem tubTo_succ (c : List Nat) (k : Nat) : tubTo c (k + 1) = tubTo c k + min (c.getD k 0) 1 := by
  unfold tubTo; rw [List.range_succ, List.map_append, List.sum_append]; simp
theorem besTo_succ (c : List Nat) (k : Nat) : besTo c (k + 1) = besTo c k + (c.getD k 0 - 1) := by
  unfold besTo; rw [List.range_succ, List.map_append, List.sum_append]; simp
theorem tubTo_le (c : List Nat) : ∀ k, tubTo c k ≤ k
  | 0 => by simp [tubTo]
  | k + 1 => by have := tubTo_le c k; rw [tubTo_succ]; omega
theorem besTo_le {c : List Nat} (h : ∀ x ∈ c, x ≤ 24) : ∀ k, besTo c k ≤ k * 24
  | 0 => by simp [besTo]
  | k + 1 => by have := besTo_le h k; have := getD_le h k; rw [besTo_succ]; omega
theorem tub_ways (c : List Nat) : ∀ k, tubTo c k + besTo c k = (waysTo c k).2
  | 0 => by simp [tubTo, besTo, waysTo]
  | k + 1 => by
    have ih := tub_ways c k
    have e : (waysTo c (k + 1)).2 = (waysTo c k).2 + c.getD k 0 := rfl
    rw [tubTo_succ, besTo_succ, e]
    omega
theorem tub_bes {M : List Nat} (h : M.length = 6) : tubTo M 6 + besTo M 6 = M.sum := by
  rw [tub_ways, waysTo_sum, List.take_of_length_le (by omega)]
theorem bes_tub (c : List Nat) : ∀ k, besTo c k ≠ 0 → 1 ≤ tubTo c k
  | 0, h => by simp [besTo] at h
  | k + 1, h => by
    rw [besTo_succ] at h
    rw [tubTo_succ]
    by_cases h0 : besTo c k = 0
    · omega
    · have := bes_tub c k h0
      omega
theorem bes_two {M : List Nat} (h : M.length = 6) (hb : besTo M 6 ≠ 0) : 2 ≤ M.sum := by
  have := tub_bes h
  have := bes_tub M 6 hb
  omega
theorem wzero : IntKind.i64.wrap 0 = 0 := by decide
theorem wneg : IntKind.i64.wrap (-1) = -1 := by decide
def drF (M N : List Nat) : Nat × Nat := if besTo M 6 = 0 then (tubTo M 6, 1) else plusF (tubTo M 6, 1) (cutF (besTo M 6 * (N.sum * (N.sum - 1) - sqTo N 6)) (N.sum * (N.sum - 1)))
def drP (m c : List Int) : Nat × Nat := if dealB m c = true then drF (m.map Int.toNat) (c.map Int.toNat) else (0, 0)
def drV (m c : List Int) : V := .tup [.agg [.int .i64 (drP m c).1, .int .i64 (drP m c).2], .c (.bool (dealB m c))]
theorem four24 {M : List Nat} (h : ∀ x ∈ M, x ≤ 4) : ∀ x ∈ M, x ≤ 24 := fun x hx => by have := h x hx; omega
theorem dr_ok {M N : List Nat} (lm : M.length = 6) (lc : N.length = 6) (hs : M.sum = N.sum) (hle : N.sum ≤ 24) (hb : besTo M 6 ≠ 0) :
    0 < N.sum * (N.sum - 1) ∧ N.sum * (N.sum - 1) ≤ 552 ∧ sqTo N 6 ≤ N.sum * (N.sum - 1) ∧ besTo M 6 ≤ 24 ∧ besTo M 6 * (N.sum * (N.sum - 1) - sqTo N 6) ≤ 24 * 552 ∧
    PlusOK (tubTo M 6, 1) (cutF (besTo M 6 * (N.sum * (N.sum - 1) - sqTo N 6)) (N.sum * (N.sum - 1))) := by
  have h2 := bes_two lm hb
  have h3 := tub_bes lm
  have h4 := sq_le lc
  have h5 : N.sum * (N.sum - 1) ≤ 24 * 23 := Nat.mul_le_mul hle (by omega)
  have h6 : 0 < N.sum * (N.sum - 1) := Nat.mul_pos (by omega) (by omega)
  have h7 : besTo M 6 * (N.sum * (N.sum - 1) - sqTo N 6) ≤ 24 * 552 := Nat.mul_le_mul (by omega) (by omega)
  generalize besTo M 6 * (N.sum * (N.sum - 1) - sqTo N 6) = A at *
  generalize N.sum * (N.sum - 1) = B at *
  have hc1 := cutF_le A B
  have hgp : 0 < Nat.gcd A B := Nat.gcd_pos_of_pos_right A h6
  have hp : 0 < (cutF A B).2 := Nat.div_pos (Nat.le_of_dvd h6 (Nat.gcd_dvd_right A B)) hgp
  have ht := tubTo_le M 6
  have hm : tubTo M 6 * (cutF A B).2 ≤ 6 * 552 := Nat.mul_le_mul ht (by omega)
  refine ⟨h6, by omega, h4, by omega, h7, ?_, ?_, ?_⟩
  · show tubTo M 6 * (cutF A B).2 + (cutF A B).1 * 1 < _
    omega
  · show 1 * (cutF A B).2 < _
    omega
  · show 0 < 1 * (cutF A B).2
    omega
set_option maxHeartbeats 8000000 in
theorem c_impl_DealRuns (m c : List Int) (hm : m.length = 6) (hc : c.length = 6) : fnI pr np 14 [.agg (m.map (C.int .i64)), .agg (c.map (C.int .i64))] [] = some (drV m c, []) := by
  have hd := callA_pure (c_impl_isDeal m c hm hc) (by simp) (by simp)
  have q1 := take6 hm
  have q2 := take6 hc
  rw [fb (fn := a14) rfl rfl]
  unfold drV drP
  cases hq : dealB m c with
  | false => rw [hq] at hd; simp [a14, hm, hc, q1, q2, hd, setAt_all, setAt, sub]
  | true =>
    rw [hq] at hd
    obtain ⟨em, ec, lm, lc, m4, c24, c0, sum⟩ := deal_ok hm hc hq
    obtain ⟨hs1, hs2⟩ := deal_sum hm hc hq
    rw [em, ec] at hd ⊢
    generalize m.map Int.toNat = M at *
    generalize c.map Int.toNat = N at *
    have k1 := cN_all lm
    have k2 := cN_all lc
    simp [a14, lm, lc, k1, k2, hd, setAt_all, setAt, sub]
    rw [loop_to (fun k => ([(3, V.c (C.ptr 0 0)), (4, V.c (C.ptr 1 0)), (6, V.c (C.int .i64 (tubTo M k))), (7, V.c (C.int .i64 (besTo M k))), (17, V.agg (cN M)), (18, V.c (C.int .i64 k))], [Blk.cells (cN N) true, Blk.cells [C.int .i64 0, C.int .i64 0] true])) 6]
    · unfold drF
      by_cases hb : besTo M 6 = 0
      · rw [hb]
        simp [setAt_all, setAt, sub]
      · have hb' : ¬ (besTo M 6 : Int) = 0 := by omega
        obtain ⟨z1, z2, z3, z4, z5, z6⟩ := dr_ok lm lc hs2 sum hb
        have hpa := callA_pure (c_impl_pairs N lc c24 sum) (by simp) (by simp)
        have hf := callA_pure (c_impl_fraction (besTo M 6 * (N.sum * (N.sum - 1) - sqTo N 6)) (N.sum * (N.sum - 1)) (by omega) (by omega) z1) (by simp) (by simp)
        have hpl := callA_pure (c_impl_plus z6) (by simp) (by simp)
        rw [if_neg hb]
        generalize hA : N.sum * (N.sum - 1) = A at *
        generalize sqTo N 6 = q at *
        have w1 : IntKind.i64.wrap ((A : Int) - (q : Int)) = ((A - q : Nat) : Int) := (wrapI (by omega) (by omega)).trans (by omega)
        have w2 : IntKind.i64.wrap ((besTo M 6 : Int) * ((A - q : Nat) : Int)) = ((besTo M 6 * (A - q) : Nat) : Int) := by rw [← Int.natCast_mul]; exact wrapI (by omega) (by omega)
        generalize besTo M 6 * (A - q) = B at *
        generalize A - q = D at *
        generalize besTo M 6 = b at *
        generalize tubTo M 6 = t at *
        generalize hF : cutF B A = F at *
        generalize hG : plusF (t, 1) F = G at *
        simp only [Int.natCast_one] at hpl
        simp [lc, k2, hb, hb', hpa, hf, hpl, w1, w2, setAt_all, setAt, stillE, madeA, idOf, sub]
    · simp [tubTo, besTo, sub]
    · intro k hk
      have hk' : (k : Int) < 6 := by omega
      have gk := cN_get (xs := M) (k := k) (by omega)
      have wk := wrapS (k := k) (by omega)
      have hx := getD_le m4 k
      have t1 := tubTo_succ M k
      have t2 := besTo_succ M k
      have t3 := tubTo_le M k
      have t4 := besTo_le (four24 m4) k
      generalize M.getD k 0 = x at *
      generalize tubTo M (k + 1) = t' at *
      generalize tubTo M k = t at *
      generalize besTo M (k + 1) = b' at *
      generalize besTo M k = b at *
      have v0 : IntKind.i64.wrap ((x : Int) - 1) = (x : Int) - 1 := wrapI (by omega) (by omega)
      rcases Nat.lt_or_ge x 1 with hx1 | hx1
      · have hx0 : x = 0 := by omega
        subst hx0
        have e1 : t' = t := by omega
        have e2 : b' = b := by omega
        subst e1 e2
        have u1 : IntKind.i64.wrap ((t' : Int)) = (t' : Int) := wrapI (by omega) (by omega)
        have u2 : IntKind.i64.wrap ((b' : Int)) = (b' : Int) := wrapI (by omega) (by omega)
        simp [hk, hk', lm, k1, gk, wk, v0, u1, u2, wneg, wzero, mmL, sub]
      · have e1 : t' = t + 1 := by omega
        have u1 : IntKind.i64.wrap ((t : Int) + 1) = (t' : Int) := (wrapI (by omega) (by omega)).trans (by omega)
        have u2 : IntKind.i64.wrap ((b : Int) + ((x : Int) - 1)) = (b' : Int) := (wrapI (by omega) (by omega)).trans (by omega)
        rcases Nat.eq_or_lt_of_le hx1 with h1 | h1
        · subst h1
          have e2 : b' = b := by omega
          subst e2
          have u3 : IntKind.i64.wrap ((b' : Int)) = (b' : Int) := wrapI (by omega) (by omega)
          simp [hk, hk', lm, k1, gk, wk, v0, u1, u2, u3, wzero, mmL, sub]
        · have x1 : ¬ (x : Int) < 1 := by omega
          have x2 : (1 : Int) < (x : Int) := by omega
          have x3 : ¬ (x : Int) - 1 < 0 := by omega
          have x4 : (0 : Int) < (x : Int) - 1 := by omega
          have x5 : ¬ (x : Int) = 1 := by omega
          have x6 : (1 : Int) ≤ (x : Int) := by omega
          have x7 : ¬ (x : Int) ≤ 1 := by omega
          have x8 : ¬ x = 0 := by omega
          have x9 : ¬ x = 1 := by omega
          have y1 : ¬ x < 1 := by omega
          have y2 : 1 < x := by omega
          simp [hk, hk', lm, k1, gk, wk, v0, u1, u2, x1, x2, x3, x4, x5, x6, x7, x8, x9, y1, y2, mmL, sub]
set_option maxHeartbeats 8000000 in
theorem c_spec_DealRuns (m c : List Int) (hm : m.length = 6) (hc : c.length = 6) : fnI pr np 15 [.agg (m.map (C.int .i64)), .agg (c.map (C.int .i64))] [] = some (drV m c, []) := by
  have hd := callA_pure (c_spec_l9Deal m c hm hc) (by simp) (by simp)
  have q1 := take6 hm
  have q2 := take6 hc
  rw [fb (fn := a15) rfl rfl]
  unfold drV drP
  cases hq : dealB m c with
  | false => rw [hq] at hd; simp [a15, hm, hc, q1, q2, hd, setAt_all, setAt, sub]
  | true =>
    rw [hq] at hd
    obtain ⟨em, ec, lm, lc, m4, c24, c0, sum⟩ := deal_ok hm hc hq
    obtain ⟨hs1, hs2⟩ := deal_sum hm hc hq
    rw [em, ec, hs1] at hd
    rw [em, ec]
    generalize m.map Int.toNat = M at *
    generalize c.map Int.toNat = N at *
    have k1 := cN_all lm
    have k2 := cN_all lc
    have htb := tub_bes lm
    simp [a15, lm, lc, k1, k2, hd, setAt_all, setAt, sub]
    rw [loop_to (fun k => ([(2, V.c (C.ptr 0 0)), (3, V.c (C.ptr 1 0)), (4, V.c (C.ptr 2 0)), (6, V.c (C.int .i64 N.sum)), (8, V.c (C.int .i64 (tubTo M k))), (9, V.c (C.int .i64 k))], [Blk.cells (cN M) true, Blk.cells (cN N) true, Blk.cells [C.int .i64 0, C.int .i64 0] true])) 6]
    · unfold drF
      by_cases hb : besTo M 6 = 0
      · have e : N.sum = tubTo M 6 := by omega
        rw [if_pos hb, e]
        simp [setAt_all, setAt, sub]
      · have hb' : ¬ (N.sum : Int) = (tubTo M 6 : Int) := by omega
        have hb2 : ¬ N.sum = tubTo M 6 := by omega
        have hbb : ((N.sum : Int) == (tubTo M 6 : Int)) = false := beq_eq_false_iff_ne.2 hb'
        obtain ⟨z1, z2, z3, z4, z5, z6⟩ := dr_ok lm lc hs2 sum hb
        have hpa := callA_pure (c_spec_l9Pairs N lc c24 c0) (by simp) (by simp)
        have hf := callA_pure (c_spec_l7Cut (besTo M 6 * (N.sum * (N.sum - 1) - sqTo N 6)) (N.sum * (N.sum - 1)) (by omega) (by omega) z1) (by simp) (by simp)
        have hpl := callA_pure (c_spec_l7Plus z6) (by simp) (by simp)
        have w0 : IntKind.i64.wrap ((N.sum : Int) - 1) = (N.sum : Int) - 1 := wrapI (by omega) (by omega)
        have w3 : IntKind.i64.wrap ((N.sum : Int) * ((N.sum : Int) - 1)) = ((N.sum * (N.sum - 1) : Nat) : Int) := by rw [← sq_int]; exact wrapI (by omega) (by omega)
        have w4 : IntKind.i64.wrap ((N.sum : Int) - (tubTo M 6 : Int)) = (besTo M 6 : Int) := (wrapI (by omega) (by omega)).trans (by omega)
        rw [if_neg hb]
        generalize hA : N.sum * (N.sum - 1) = A at *
        generalize sqTo N 6 = q at *
        have w1 : IntKind.i64.wrap ((A : Int) - (q : Int)) = ((A - q : Nat) : Int) := (wrapI (by omega) (by omega)).trans (by omega)
        have w2 : IntKind.i64.wrap ((besTo M 6 : Int) * ((A - q : Nat) : Int)) = ((besTo M 6 * (A - q) : Nat) : Int) := by rw [← Int.natCast_mul]; exact wrapI (by omega) (by omega)
        generalize besTo M 6 * (A - q) = B at *
        generalize A - q = D at *
        generalize besTo M 6 = b at *
        generalize tubTo M 6 = t at *
        generalize hF : cutF B A = F at *
        generalize hG : plusF (t, 1) F = G at *
        simp only [Int.natCast_one] at hpl
        simp [lc, k2, hb, hb', hb2, hbb, hpa, hf, hpl, w0, w1, w2, w3, w4, setAt_all, setAt, stillE, madeA, idOf, sub]
    · simp [tubTo, sub]
    · intro k hk
      have hk' : (k : Int) < 6 := by omega
      have gk := cN_get (xs := M) (k := k) (by omega)
      have wk := wrapS (k := k) (by omega)
      have b1 : k + 1 ≤ 6 := hk
      have t1 := tubTo_succ M k
      have t3 := tubTo_le M k
      generalize M.getD k 0 = x at *
      generalize tubTo M (k + 1) = t' at *
      generalize tubTo M k = t at *
      rcases Nat.lt_or_ge x 1 with hx1 | hx1
      · have hx0 : x = 0 := by omega
        subst hx0
        have e1 : t' = t := by omega
        subst e1
        simp [hk, hk', lm, k1, gk, wk, b1, sub]
      · have u1 : IntKind.i64.wrap ((t : Int) + 1) = (t' : Int) := (wrapI (by omega) (by omega)).trans (by omega)
        have x1 : (0 : Int) < (x : Int) := by omega
        have x2 : 0 < x := hx1
        simp [hk, hk', lm, k1, gk, wk, b1, u1, x1, x2, sub]
end Go.Proofs.Ytoaidbmkfdpagaa.AM
