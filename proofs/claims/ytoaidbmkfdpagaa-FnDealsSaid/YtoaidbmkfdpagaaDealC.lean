import Derived.Test.YtoaidbmkfdpagaaDealP
/- Contracts: deals, their runs, tops and pairs of tops. -/
namespace Go.Proofs.Ytoaidbmkfdpagaa.AM
open Go
set_option maxRecDepth 1000000
set_option linter.unusedSimpArgs false
set_option linter.unusedVariables false
/-! ### sums of fractions -/
def fracV (x : Nat × Nat) : V := .agg [.int .i64 x.1, .int .i64 x.2]
@[simp] theorem fracV_ids (x : Nat × Nat) : (fracV x).ids = [] := rfl
structure PlusOK (x y : Nat × Nat) : Prop where
  a : x.1 * y.2 + y.1 * x.2 < 9223372036854775808
  b : x.2 * y.2 < 9223372036854775808
  p : 0 < x.2 * y.2
theorem wrapN {n : Nat} (h : n < 9223372036854775808) : IntKind.i64.wrap (n : Int) = (n : Int) := wrapI (by omega) (by omega)
theorem PlusOK.w {x y : Nat × Nat} (h : PlusOK x y) : IntKind.i64.wrap ((x.1 : Int) * (y.2 : Int)) = ((x.1 * y.2 : Nat) : Int) ∧ IntKind.i64.wrap ((y.1 : Int) * (x.2 : Int)) = ((y.1 * x.2 : Nat) : Int) ∧
    IntKind.i64.wrap (((x.1 * y.2 : Nat) : Int) + ((y.1 * x.2 : Nat) : Int)) = ((x.1 * y.2 + y.1 * x.2 : Nat) : Int) ∧ IntKind.i64.wrap ((x.2 : Int) * (y.2 : Int)) = ((x.2 * y.2 : Nat) : Int) := by
  have ha := h.a
  have hb := h.b
  refine ⟨?_, ?_, ?_, ?_⟩
  · rw [← Int.natCast_mul]; exact wrapN (by omega)
  · rw [← Int.natCast_mul]; exact wrapN (by omega)
  · rw [← Int.natCast_add]; exact wrapN (by omega)
  · rw [← Int.natCast_mul]; exact wrapN (by omega)
theorem c_spec_l7Plus {x y : Nat × Nat} (h : PlusOK x y) : fnI pr np 106 [.agg [.int .i64 x.1, .int .i64 x.2], .agg [.int .i64 y.1, .int .i64 y.2]] [] = some (.agg [.int .i64 (plusF x y).1, .int .i64 (plusF x y).2], []) := by
  have hc := callA_pure (c_spec_l7Cut _ _ h.a h.b h.p) (by simp) (by simp)
  obtain ⟨u1, u2, u3, u4⟩ := h.w
  unfold plusF
  generalize cutF (x.1 * y.2 + y.1 * x.2) (x.2 * y.2) = z at *
  generalize hA : x.1 * y.2 + y.1 * x.2 = A at *
  generalize hB : x.2 * y.2 = B at *
  generalize hC : x.1 * y.2 = C1 at *
  generalize hD : y.1 * x.2 = D at *
  rw [fb (fn := a106) rfl rfl]
  simp [a106, u1, u2, u3, u4, hc]
theorem c_impl_plus {x y : Nat × Nat} (h : PlusOK x y) : fnI pr np 103 [.agg [.int .i64 x.1, .int .i64 x.2], .agg [.int .i64 y.1, .int .i64 y.2]] [] = some (.agg [.int .i64 (plusF x y).1, .int .i64 (plusF x y).2], []) := by
  have hc := callA_pure (c_impl_fraction _ _ h.a h.b h.p) (by simp) (by simp)
  obtain ⟨u1, u2, u3, u4⟩ := h.w
  unfold plusF
  generalize cutF (x.1 * y.2 + y.1 * x.2) (x.2 * y.2) = z at *
  generalize hA : x.1 * y.2 + y.1 * x.2 = A at *
  generalize hB : x.2 * y.2 = B at *
  generalize hC : x.1 * y.2 = C1 at *
  generalize hD : y.1 * x.2 = D at *
  rw [fb (fn := a103) rfl rfl]
  simp [a103, u1, u2, u3, u4, hc]
/-! ### pairs -/
def sqTo (c : List Nat) (k : Nat) : Nat := ((List.range k).map fun j => c.getD j 0 * (c.getD j 0 - 1)).sum
theorem sqTo_succ (c : List Nat) (k : Nat) : sqTo c (k + 1) = sqTo c k + c.getD k 0 * (c.getD k 0 - 1) := by
  unfold sqTo
  rw [List.range_succ, List.map_append, List.sum_append]
  simp
theorem getD_le {c : List Nat} {B : Nat} (h : ∀ x ∈ c, x ≤ B) (k : Nat) : c.getD k 0 ≤ B := by
  by_cases hk : k < c.length
  · exact h _ (getD_mem hk)
  · rw [List.getD_eq_getElem?_getD, List.getElem?_eq_none (by omega)]
    exact Nat.zero_le _
theorem sqTo_le {c : List Nat} (h : ∀ x ∈ c, x ≤ 24) : ∀ k, sqTo c k ≤ k * 552
  | 0 => by simp [sqTo]
  | k + 1 => by
    have := sqTo_le h k
    have hk := getD_le h k
    rw [sqTo_succ]
    have : c.getD k 0 * (c.getD k 0 - 1) ≤ 24 * 23 := Nat.mul_le_mul hk (by omega)
    omega
theorem sq_int (x : Nat) : ((x * (x - 1) : Nat) : Int) = (x : Int) * ((x : Int) - 1) := by
  cases x with
  | zero => rfl
  | succ n => rw [Int.natCast_mul]; congr 1; omega
theorem sum_ofNat (N : List Nat) : (N.map fun (x : Nat) => (x : Int)).sum = (N.sum : Int) := by
  induction N with
  | nil => rfl
  | cons a N ih => simp only [List.map_cons, List.sum_cons, ih, Int.natCast_add]
theorem call_sumN (N : List Nat) {n : Nat} (hl : N.length = n) (hn : n ≤ 1000) (h : ∀ x ∈ N, x ≤ 24) (o : Bool) (i : Nat) (H : HF) (base : Nat) (hb : (H i == some (Blk.cells (cN N) o)) = true) : callA (fnI pr np) 117 [.c (.sl i 0 n 1)] H base = some (.c (.int .i64 (N.sum : Int)), [], [(i, .cells (cN N) o)]) := by
  rw [cN_eq] at hb ⊢
  rw [← sum_ofNat]
  refine call_sum _ (by simpa using hl) hn ?_ o i H base hb
  rw [List.all_eq_true]
  intro x hx
  obtain ⟨y, hy, rfl⟩ := List.mem_map.1 hx
  have := h y hy
  simp only [inB, Bool.and_eq_true, decide_eq_true_eq]
  omega
set_option maxHeartbeats 4000000 in
theorem c_impl_pairs (N : List Nat) (hN : N.length = 6) (h24 : ∀ x ∈ N, x ≤ 24) (hs : N.sum ≤ 24) : fnI pr np 102 [.agg (cN N)] [] = some (.tup [.c (.int .i64 (sqTo N 6)), .c (.int .i64 ((N.sum * (N.sum - 1) : Nat) : Int))], []) := by
  have hca := cN_all hN
  have hsum := call_sumN N hN (by omega) h24 true
  have w0 : IntKind.i64.wrap ((N.sum : Int) - 1) = (N.sum : Int) - 1 := wrapI (by omega) (by omega)
  have hle : N.sum * (N.sum - 1) ≤ 24 * 23 := Nat.mul_le_mul hs (by omega)
  have w1 : IntKind.i64.wrap ((N.sum : Int) * ((N.sum : Int) - 1)) = ((N.sum * (N.sum - 1) : Nat) : Int) := by rw [← sq_int]; exact wrapI (by omega) (by omega)
  generalize N.sum * (N.sum - 1) = z at *
  rw [fb (fn := a102) rfl rfl]
  simp [a102, hN, hca, hsum, sub]
  rw [loop_to (fun k => ([(4, V.c (C.int .i64 N.sum)), (5, V.c (C.int .i64 (sqTo N k))), (10, V.agg (cN N)), (11, V.c (C.int .i64 k))], [])) 6]
  · simp [w0, w1, sub]
  · simp [sqTo, sub]
  · intro k hk
    have hk' : (k : Int) < 6 := by omega
    have gk := cN_get (xs := N) (k := k) (by omega)
    have wk := wrapS (k := k) (by omega)
    have hx := getD_le h24 k
    have hst := sqTo_succ N k
    have hl := sqTo_le h24 k
    have hxx : N.getD k 0 * (N.getD k 0 - 1) ≤ 24 * 23 := Nat.mul_le_mul hx (by omega)
    have e1 := sq_int (N.getD k 0)
    generalize N.getD k 0 = x at *
    generalize x * (x - 1) = y at *
    generalize sqTo N (k + 1) = t' at *
    generalize sqTo N k = t at *
    have v0 : IntKind.i64.wrap ((x : Int) - 1) = (x : Int) - 1 := wrapI (by omega) (by omega)
    have v1 : IntKind.i64.wrap ((x : Int) * ((x : Int) - 1)) = (y : Int) := by rw [← e1]; exact wrapI (by omega) (by omega)
    have v2 : IntKind.i64.wrap ((t : Int) + (y : Int)) = (t' : Int) := (wrapI (by omega) (by omega)).trans (by omega)
    simp [hk, hk', hN, hca, gk, wk, v0, v1, v2, sub]
theorem sqTo_one {c : List Nat} (h : c.getD 0 0 = 0) : sqTo c 1 = 0 := by
  rw [show (1 : Nat) = 0 + 1 from rfl, sqTo_succ, h]
  simp [sqTo]
set_option maxHeartbeats 4000000 in
theorem c_spec_l9Pairs (N : List Nat) (hN : N.length = 6) (h24 : ∀ x ∈ N, x ≤ 24) (h0 : N.getD 0 0 = 0) : fnI pr np 108 [.agg (cN N)] [] = some (.c (.int .i64 (sqTo N 6)), []) := by
  have hca := cN_all hN
  rw [fb (fn := a108) rfl rfl]
  simp [a108, hN, hca, sub]
  rw [loop_to (fun k => ([(1, V.c (C.ptr 0 0)), (3, V.c (C.int .i64 (sqTo N (k + 1)))), (4, V.c (C.int .i64 ((k + 1 : Nat) : Int)))], [Blk.cells (cN N) true])) 5]
  · simp [sub]
  · simp [sqTo_one h0, sub]
  · intro k hk
    have hk1 : (k : Int) + 1 ≤ 5 := by omega
    have hk2 : (k : Int) + 1 < 6 := by omega
    have hk3 : (0 : Int) ≤ (k : Int) + 1 := by omega
    have gk := cN_get (xs := N) (k := k + 1) (by omega)
    have wk : IntKind.i64.wrap ((k : Int) + 1 + 1) = (k : Int) + 1 + 1 := wrapI (by omega) (by omega)
    have b2 : k + 1 + 1 ≤ 6 := by omega
    have hx := getD_le h24 (k + 1)
    have hst := sqTo_succ N (k + 1)
    have hl := sqTo_le h24 (k + 1)
    have hxx : N.getD (k + 1) 0 * (N.getD (k + 1) 0 - 1) ≤ 24 * 23 := Nat.mul_le_mul hx (by omega)
    have e1 := sq_int (N.getD (k + 1) 0)
    generalize N.getD (k + 1) 0 = x at *
    generalize x * (x - 1) = y at *
    generalize sqTo N (k + 1 + 1) = t' at *
    generalize sqTo N (k + 1) = t at *
    have v0 : IntKind.i64.wrap ((x : Int) - 1) = (x : Int) - 1 := wrapI (by omega) (by omega)
    have v1 : IntKind.i64.wrap ((x : Int) * ((x : Int) - 1)) = (y : Int) := by rw [← e1]; exact wrapI (by omega) (by omega)
    have v2 : IntKind.i64.wrap ((t : Int) + (y : Int)) = (t' : Int) := (wrapI (by omega) (by omega)).trans (by omega)
    simp [hk1, hk2, hk3, hN, hca, gk, b2, wk, v0, v1, v2, sub]
/-! ### how many deals -/
def cdV (m c : List Int) : V := .tup [.c (.int .i64 (if dealB m c = true then (ways (c.map Int.toNat) : Int) else 0)), .c (.bool (dealB m c))]
theorem c_impl_CountDeals (m c : List Int) (hm : m.length = 6) (hc : c.length = 6) : fnI pr np 18 [.agg (m.map (C.int .i64)), .agg (c.map (C.int .i64))] [] = some (cdV m c, []) := by
  have hd := callA_pure (c_impl_isDeal m c hm hc) (by simp) (by simp)
  have q1 := take6 hm
  have q2 := take6 hc
  rw [fb (fn := a18) rfl rfl]
  unfold cdV
  cases hq : dealB m c with
  | false => rw [hq] at hd; simp [a18, hm, hc, q1, q2, hd, setAt_all, sub]
  | true =>
    rw [hq] at hd
    obtain ⟨em, ec, lm, lc, m4, c24, c0, sum⟩ := deal_ok hm hc hq
    rw [em, ec] at hd ⊢
    generalize m.map Int.toNat = M at *
    generalize c.map Int.toNat = N at *
    have k1 := cN_all lm
    have k2 := cN_all lc
    have ha := callA_pure (c_impl_arrangements N lc c0 sum c24) (by simp) (by simp)
    simp [a18, lm, lc, k1, k2, hd, ha, setAt_all, setAt, stillE, madeA, idOf, sub]
theorem c_spec_CountDeals (m c : List Int) (hm : m.length = 6) (hc : c.length = 6) : fnI pr np 19 [.agg (m.map (C.int .i64)), .agg (c.map (C.int .i64))] [] = some (cdV m c, []) := by
  have hd := callA_pure (c_spec_l9Deal m c hm hc) (by simp) (by simp)
  have q1 := take6 hm
  have q2 := take6 hc
  rw [fb (fn := a19) rfl rfl]
  unfold cdV
  cases hq : dealB m c with
  | false => rw [hq] at hd; simp [a19, hm, hc, q1, q2, hd, setAt_all, sub]
  | true =>
    rw [hq] at hd
    obtain ⟨em, ec, lm, lc, m4, c24, c0, sum⟩ := deal_ok hm hc hq
    rw [em, ec] at hd ⊢
    generalize m.map Int.toNat = M at *
    generalize c.map Int.toNat = N at *
    have k1 := cN_all lm
    have k2 := cN_all lc
    have ha := callA_pure (c_spec_l7Ways N lc c0 sum c24) (by simp) (by simp)
    simp [a19, lm, lc, k1, k2, hd, ha, setAt_all, setAt, stillE, madeA, idOf, sub]
end Go.Proofs.Ytoaidbmkfdpagaa.AM
