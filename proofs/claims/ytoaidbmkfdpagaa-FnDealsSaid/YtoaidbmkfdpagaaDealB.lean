import Derived.Test.YtoaidbmkfdpagaaDeal
/- Contracts: in how many deals each tube has one color, and the law. -/
namespace Go.Proofs.Ytoaidbmkfdpagaa.AM
open Go
set_option maxRecDepth 1000000
set_option linter.unusedSimpArgs false
set_option linter.unusedVariables false
theorem getD_mem {xs : List Nat} {k : Nat} (hk : k < xs.length) : xs.getD k 0 ∈ xs := by
  rw [List.getD_eq_getElem?_getD, List.getElem?_eq_getElem hk]
  exact List.getElem_mem _
theorem set_le {c : List Nat} {k x B : Nat} (h : ∀ y ∈ c, y ≤ B) (hx : x ≤ B) : ∀ y ∈ c.set k x, y ≤ B := fun y hy => by
  rcases List.mem_or_eq_of_mem_set hy with h1 | h1
  · exact h y h1
  · omega
theorem pow6 (n : Nat) (h : n ≤ 6) : 6 ^ n ≤ 46656 := by
  have : 6 ^ n ≤ 6 ^ 6 := Nat.pow_le_pow_right (by omega) h
  exact this
set_option maxHeartbeats 4000000 in
theorem c_impl_plain (M : List Nat) (o : Bool) : ∀ (ms pre : List Nat), M = pre ++ ms → M.length ≤ 6 → (∀ x ∈ ms, x ≤ 4) → ∀ c : List Nat, c.length = 6 → (∀ x ∈ c, x ≤ 24) → fnI pr np 109 [.c (.sl 0 pre.length ms.length 1), .agg (cN c)] [.cells (cN M) o] = some (.c (.int .i64 (plainN ms c)), [.cells (cN M) o])
  | [], pre, hM, hl, hms, c, hc, hcb => by
    rw [fb (fn := a109) rfl rfl]
    simp [a109, hc, plainN, sub]
  | m :: ms, pre, hM, hl, hms, c, hc, hcb => by
    have hml : M.length = pre.length + (ms.length + 1) := by rw [hM]; simp
    have gm : M.getD pre.length 0 = m := by rw [hM]; simp [List.getD_eq_getElem?_getD]
    have g := cN_get (xs := M) (k := pre.length) (by omega)
    rw [gm] at g
    have hm4 : m ≤ 4 := hms m (by simp)
    have b1 : pre.length + 1 ≤ M.length := by omega
    have hcall := fun (c' : List Nat) (h1 : c'.length = 6) (h2 : ∀ x ∈ c', x ≤ 24) (G : Heap) (base : Nat) => callA_gen (F := fnI pr np) (f := 109) (args := [.c (.sl 0 (pre.length + 1) ms.length 1), .agg (cN c')]) (H := lkp (.cells (cN M) o :: G)) (L := [0]) (by simp) (by simp) (by simp [sub]) (by simp) (show fnI pr np 109 [.c (.sl 0 (pre.length + 1) ms.length 1), .agg (cN c')] [.cells (cN M) o] = some (.c (.int .i64 (plainN ms c')), [.cells (cN M) o]) by
      have := c_impl_plain M o ms (pre ++ [m]) (by rw [hM]; simp) hl (fun x hx => hms x (by simp [hx])) c' h1 h2
      simpa using this) (by simp) base
    have hca := cN_all hc
    have z1 : ¬ (ms.length : Int) + 1 = 0 := by omega
    have z2 : (1 : Int) ≤ (ms.length : Int) + 1 := by omega
    by_cases h0 : m = 0
    · subst h0
      have hc0 := hcall c hc hcb
      rw [fb (fn := a109) rfl rfl]
      rw [plainN, if_pos rfl]
      simp [a109, hc, hca, g, b1, z1, z2, hc0, sub]
    · have h0' : ¬ (m : Int) = 0 := by omega
      rw [plainN_cons m ms c h0]
      rw [fb (fn := a109) rfl rfl]
      simp [a109, hc, hca, g, b1, z1, z2, h0, h0']
      rw [loop_to (fun k => ([(0, V.c (C.sl 0 pre.length (ms.length + 1) 1)), (3, V.c (C.ptr 1 0)), (5, V.c (C.int .i64 (plainTo m ms c k))), (20, V.agg (cN c)), (21, V.c (C.int .i64 k))], [Blk.cells (cN M) o, Blk.cells (cN c) true])) 6]
      · simp [sub]
      · simp [plainTo, sub]
      · intro k hk
        have hk' : (k : Int) < 6 := by omega
        have gk := cN_get (xs := c) (k := k) (by omega)
        have wk := wrapS (k := k) (by omega)
        have b2 : k + 1 ≤ 6 := by omega
        have hst := plainTo_succ m ms c k
        have hck := hcb _ (getD_mem (xs := c) (k := k) (by omega))
        have hp := plainTo_le m ms c (k + 1)
        have h6 := pow6 ms.length (by omega)
        have hp2 : plainTo m ms c (k + 1) ≤ 6 * 46656 := Nat.le_trans hp (Nat.mul_le_mul (by omega) h6)
        generalize hx : c.getD k 0 = x at *
        by_cases hle : m ≤ x
        · have hle' : (m : Int) ≤ (x : Int) := by omega
          rw [if_pos hle] at hst
          have w1 : IntKind.i64.wrap ((x : Int) - (m : Int)) = ((x - m : Nat) : Int) := (wrapI (by omega) (by omega)).trans (by omega)
          have hset := cN_set c k (x - m)
          have hcl : (c.set k (x - m)).length = 6 := by simp [hc]
          have hc1 := hcall (c.set k (x - m)) hcl (set_le hcb (by omega))
          have hsa := cN_all hcl
          have w2 : IntKind.i64.wrap ((plainTo m ms c k : Int) + (plainN ms (c.set k (x - m)) : Int)) = ((plainTo m ms c (k + 1) : Nat) : Int) := (wrapI (by omega) (by omega)).trans (by omega)
          generalize c.set k (x - m) = c' at *
          generalize plainTo m ms c (k + 1) = t' at *
          generalize plainTo m ms c k = t at *
          simp [hk, hk', hc, hca, g, b1, z1, z2, gk, b2, wk, hle, hle', w1, hset, hcl, hsa, hc1, w2, setAt_all, setAt, stillE, madeA, idOf, sub]
        · have hle' : ¬ (m : Int) ≤ (x : Int) := by omega
          rw [if_neg hle, Nat.add_zero] at hst
          rw [hst]
          generalize plainTo m ms c k = t at *
          simp [hk, hk', hc, hca, g, b1, z1, z2, gk, b2, wk, hle, hle', sub]
theorem set_zero {c : List Nat} {k x : Nat} (h : c.getD 0 0 = 0) (hk : 0 < k) : (c.set k x).getD 0 0 = 0 := by
  rw [List.getD_eq_getElem?_getD, List.getElem?_set_ne (by omega), ← List.getD_eq_getElem?_getD]
  exact h
theorem plainTo_one {m : Nat} {ms c : List Nat} (hm : m ≠ 0) (h : c.getD 0 0 = 0) : plainTo m ms c 1 = 0 := by
  rw [show (1 : Nat) = 0 + 1 from rfl, plainTo_succ, h, if_neg (by omega)]
  simp [plainTo]
set_option maxHeartbeats 4000000 in
theorem c_spec_l9Same (M : List Nat) (hM : M.length = 6) (hM4 : ∀ x ∈ M, x ≤ 4) : ∀ (d i : Nat), i + d = 6 → ∀ c : List Nat, c.length = 6 → (∀ x ∈ c, x ≤ 24) → c.getD 0 0 = 0 → fnI pr np 111 [.agg (cN M), .agg (cN c), .c (.int .i64 i)] [] = some (.c (.int .i64 (plainN (M.drop i) c)), [])
  | 0, i, hi, c, hc, hcb, hc0 => by
    have : i = 6 := by omega
    subst this
    have e : M.drop 6 = [] := List.drop_of_length_le (by omega)
    rw [fb (fn := a111) rfl rfl]
    simp [a111, hM, hc, e, plainN, sub]
  | d + 1, i, hi, c, hc, hcb, hc0 => by
    have hi6 : i < 6 := by omega
    have hi6' : (i : Int) < 6 := by omega
    have hne : ¬ (i : Int) = 6 := by omega
    have hne2 : ¬ i = 6 := by omega
    have g := cN_get (xs := M) (k := i) (by omega)
    have hm4 := hM4 _ (getD_mem (xs := M) (k := i) (by omega))
    have hdrop : M.drop i = M.getD i 0 :: M.drop (i + 1) := by
      rw [List.drop_eq_getElem_cons (by omega), List.getD_eq_getElem?_getD, List.getElem?_eq_getElem (by omega)]
      rfl
    have ih := c_spec_l9Same M hM hM4 d (i + 1) (by omega)
    have hcall := fun (c' : List Nat) (h1 : c'.length = 6) (h2 : ∀ x ∈ c', x ≤ 24) (h3 : c'.getD 0 0 = 0) => callA_pure (show fnI pr np 111 [.agg (cN M), .agg (cN c'), .c (.int .i64 ((i : Int) + 1))] [] = some (.c (.int .i64 (plainN (M.drop (i + 1)) c')), []) from ih c' h1 h2 h3) (by simp) (by simp)
    have wi := wrapS (k := i) (by omega)
    have b1 : i + 1 ≤ 6 := by omega
    have hMa := cN_all hM
    have hca := cN_all hc
    rw [hdrop]
    have hml : (M.drop (i + 1)).length = d := by simp; omega
    generalize M.drop (i + 1) = ms at *
    generalize M.getD i 0 = m at *
    by_cases h0 : m = 0
    · subst h0
      have hc1 := hcall c hc hcb hc0
      rw [fb (fn := a111) rfl rfl]
      rw [plainN, if_pos rfl]
      simp [a111, hM, hMa, hc, hca, hi6, hi6', hne, hne2, g, b1, wi, hc1, sub]
    · have h0' : ¬ (m : Int) = 0 := by omega
      rw [plainN_cons m ms c h0]
      rw [fb (fn := a111) rfl rfl]
      simp [a111, hM, hMa, hc, hca, hi6, hi6', hne, hne2, g, b1, h0, h0']
      rw [loop_to (fun k => ([(2, V.c (C.int .i64 i)), (3, V.c (C.ptr 0 0)), (4, V.c (C.ptr 1 0)), (7, V.c (C.int .i64 (plainTo m ms c (k + 1)))), (8, V.c (C.int .i64 ((k + 1 : Nat) : Int)))], [Blk.cells (cN M) true, Blk.cells (cN c) true])) 5]
      · simp [sub]
      · simp [plainTo_one h0 hc0, sub]
      · intro k hk
        have hk1 : (k : Int) + 1 ≤ 5 := by omega
        have hk2 : (k : Int) + 1 < 6 := by omega
        have hk3 : (0 : Int) ≤ (k : Int) + 1 := by omega
        have gk := cN_get (xs := c) (k := k + 1) (by omega)
        have wk : IntKind.i64.wrap ((k : Int) + 1 + 1) = (k : Int) + 1 + 1 := wrapI (by omega) (by omega)
        have b2 : k + 1 + 1 ≤ 6 := by omega
        have hst := plainTo_succ m ms c (k + 1)
        have hck := hcb _ (getD_mem (xs := c) (k := k + 1) (by omega))
        have hp := plainTo_le m ms c (k + 1 + 1)
        have h6 := pow6 ms.length (by omega)
        have hp2 : plainTo m ms c (k + 1 + 1) ≤ 6 * 46656 := Nat.le_trans hp (Nat.mul_le_mul (by omega) h6)
        generalize hx : c.getD (k + 1) 0 = x at *
        by_cases hle : m ≤ x
        · have hle' : (m : Int) ≤ (x : Int) := by omega
          rw [if_pos hle] at hst
          have w1 : IntKind.i64.wrap ((x : Int) - (m : Int)) = ((x - m : Nat) : Int) := (wrapI (by omega) (by omega)).trans (by omega)
          have hset := cN_set c (k + 1) (x - m)
          have hcl : (c.set (k + 1) (x - m)).length = 6 := by simp [hc]
          have hc1 := hcall (c.set (k + 1) (x - m)) hcl (set_le hcb (by omega)) (set_zero hc0 (by omega))
          have hsa := cN_all hcl
          have w2 : IntKind.i64.wrap ((plainTo m ms c (k + 1) : Int) + (plainN ms (c.set (k + 1) (x - m)) : Int)) = ((plainTo m ms c (k + 1 + 1) : Nat) : Int) := (wrapI (by omega) (by omega)).trans (by omega)
          generalize c.set (k + 1) (x - m) = c' at *
          generalize plainTo m ms c (k + 1 + 1) = t' at *
          generalize plainTo m ms c (k + 1) = t at *
          simp [hk1, hk2, hk3, hi6, hi6', hM, hMa, hc, hca, g, b1, gk, b2, wk, wi, hle, hle', w1, hset, hcl, hsa, hc1, w2, setAt_all, setAt, stillE, madeA, idOf, sub]
        · have hle' : ¬ (m : Int) ≤ (x : Int) := by omega
          rw [if_neg hle, Nat.add_zero] at hst
          rw [hst]
          generalize plainTo m ms c (k + 1) = t at *
          simp [hk1, hk2, hk3, hi6, hi6', hM, hMa, hc, hca, g, b1, gk, b2, wk, hle, hle', sub]
/-! ### in how many orders -/
theorem waysTo_small {c : List Nat} (h0 : c.getD 0 0 = 0) : ∀ j, (waysTo c (j + 1)).1 ≤ j ^ (waysTo c (j + 1)).2
  | 0 => by
    show waysIn 1 0 (c.getD 0 0) ≤ 0 ^ (0 + c.getD 0 0)
    rw [h0]
    exact Nat.le_refl _
  | j + 1 => waysIn_pow (waysTo_small h0 j) _
theorem sum_le_take (c : List Nat) (j : Nat) : (c.take j).sum ≤ c.sum := by
  have : c.sum = (c.take j).sum + (c.drop j).sum := by rw [← List.sum_append, List.take_append_drop]
  omega
/-- what a turn of the loops meets is small -/
theorem ways_small {c : List Nat} (hc : c.length = 6) (h0 : c.getD 0 0 = 0) (hs : c.sum ≤ 24) {j i : Nat} (hj : j < 6) (hi : i < c.getD j 0) : (waysTo c j).2 + i + 1 ≤ 24 ∧ waysIn (waysTo c j).1 (waysTo c j).2 i ≤ 59604644775390625 ∧ waysIn (waysTo c j).1 (waysTo c j).2 i * ((waysTo c j).2 + i + 1) ≤ 59604644775390625 * 24 := by
  have hsum : (waysTo c j).2 + c.getD j 0 ≤ 24 := by
    have e := waysTo_sum c (j + 1)
    have e2 : (waysTo c (j + 1)).2 = (waysTo c j).2 + c.getD j 0 := rfl
    have := sum_le_take c (j + 1)
    omega
  obtain ⟨q, rfl⟩ : ∃ q, j = q + 1 := by
    cases j with
    | zero => omega
    | succ q => exact ⟨q, rfl⟩
  have h1 := waysIn_pow (waysTo_small h0 q) i
  have h2 : (q + 1) ^ ((waysTo c (q + 1)).2 + i) ≤ 5 ^ 24 := Nat.le_trans (Nat.pow_le_pow_left (by omega) _) (Nat.pow_le_pow_right (by omega) (by omega))
  have h3 : waysIn (waysTo c (q + 1)).1 (waysTo c (q + 1)).2 i ≤ 59604644775390625 := Nat.le_trans h1 h2
  exact ⟨by omega, h3, Nat.mul_le_mul h3 (by omega)⟩
set_option maxHeartbeats 4000000 in
theorem c_impl_arrangements (c : List Nat) (hc : c.length = 6) (h0 : c.getD 0 0 = 0) (hs : c.sum ≤ 24) (hcb : ∀ x ∈ c, x ≤ 24) : fnI pr np 110 [.agg (cN c)] [] = some (.c (.int .i64 (ways c)), []) := by
  have hca := cN_all hc
  rw [fb (fn := a110) rfl rfl]
  simp [a110, hc, hca]
  rw [loop_to (fun j => ([(3, V.c (C.int .i64 (waysTo c j).1)), (4, V.c (C.int .i64 (waysTo c j).2)), (8, V.agg (cN c)), (9, V.c (C.int .i64 j))], [])) 6]
  · simp [ways]
  · simp [waysTo]
  · intro j hj
    have hj' : (j : Int) < 6 := by omega
    have gj := cN_get (xs := c) (k := j) (by omega)
    have wj := wrapS (k := j) (by omega)
    have hsm := fun i => ways_small (i := i) hc h0 hs hj
    have hnx : waysTo c (j + 1) = (waysIn (waysTo c j).1 (waysTo c j).2 (c.getD j 0), (waysTo c j).2 + c.getD j 0) := rfl
    rw [hnx]
    have hck := hcb _ (getD_mem (xs := c) (k := j) (by omega))
    generalize (waysTo c j).1 = a at *
    generalize (waysTo c j).2 = p at *
    generalize c.getD j 0 = n at *
    simp [hj, hj', hc, hca, gj]
    rw [loop_to (fun i => ([(3, V.c (C.int .i64 (waysIn a p i))), (4, V.c (C.int .i64 ((p + i : Nat) : Int))), (8, V.agg (cN c)), (9, V.c (C.int .i64 j)), (12, V.c (C.int .i64 n)), (13, V.c (C.int .i64 i))], [])) n]
    · simp [wj]
    · simp [waysIn]
    · intro i hi
      obtain ⟨m1, m2, m3⟩ := hsm i hi
      have wi := wrapS (k := i) (by omega)
      have m3 : waysIn a p i * (p + (i + 1)) ≤ 59604644775390625 * 24 := m3
      have w1 : IntKind.i64.wrap (((p + i : Nat) : Int) + 1) = ((p + (i + 1) : Nat) : Int) := (wrapI (by omega) (by omega)).trans (by omega)
      have w2 : IntKind.i64.wrap ((waysIn a p i : Int) * ((p + (i + 1) : Nat) : Int)) = ((waysIn a p i * (p + (i + 1)) : Nat) : Int) := by rw [← Int.natCast_mul]; exact wrapI (by omega) (by omega)
      have hq : ((waysIn a p i * (p + (i + 1)) : Nat) : Int).tdiv ((i + 1 : Nat) : Int) = ((waysIn a p (i + 1) : Nat) : Int) := rfl
      have hd : waysIn a p (i + 1) ≤ waysIn a p i * (p + (i + 1)) := Nat.div_le_self _ _
      have w3 : IntKind.i64.wrap ((waysIn a p (i + 1) : Nat) : Int) = ((waysIn a p (i + 1) : Nat) : Int) := wrapI (by omega) (by omega)
      have hz : ¬ ((i + 1 : Nat) : Int) = 0 := by omega
      generalize waysIn a p (i + 1) = y at *
      generalize waysIn a p i * (p + (i + 1)) = z at *
      generalize waysIn a p i = x at *
      simp [hi, wi, w1, w2, hq, w3, hz, -Int.natCast_add, -Int.natCast_mul]
set_option maxHeartbeats 4000000 in
theorem c_spec_l7Ways (c : List Nat) (hc : c.length = 6) (h0 : c.getD 0 0 = 0) (hs : c.sum ≤ 24) (hcb : ∀ x ∈ c, x ≤ 24) : fnI pr np 112 [.agg (cN c)] [] = some (.c (.int .i64 (ways c)), []) := by
  have hca := cN_all hc
  have e1 : waysTo c 1 = (1, 0) := by
    show (waysIn 1 0 (c.getD 0 0), 0 + c.getD 0 0) = (1, 0)
    rw [h0]
    rfl
  rw [fb (fn := a112) rfl rfl]
  simp [a112, hc, hca]
  rw [loop_to (fun j => ([(1, V.c (C.ptr 0 0)), (3, V.c (C.int .i64 (waysTo c (j + 1)).1)), (4, V.c (C.int .i64 (waysTo c (j + 1)).2)), (5, V.c (C.int .i64 ((j + 1 : Nat) : Int)))], [Blk.cells (cN c) true])) 5]
  · simp [ways]
  · simp [e1]
  · intro j hj
    have hj1 : (j : Int) + 1 ≤ 5 := by omega
    have hj2 : (j : Int) + 1 < 6 := by omega
    have hj3 : (0 : Int) ≤ (j : Int) + 1 := by omega
    have b1 : j + 1 + 1 ≤ 6 := by omega
    have gj := cN_get (xs := c) (k := j + 1) (by omega)
    have wj : IntKind.i64.wrap ((j : Int) + 1 + 1) = (j : Int) + 1 + 1 := wrapI (by omega) (by omega)
    have hsm := fun i => ways_small (i := i) hc h0 hs (show j + 1 < 6 by omega)
    have hnx : waysTo c (j + 1 + 1) = (waysIn (waysTo c (j + 1)).1 (waysTo c (j + 1)).2 (c.getD (j + 1) 0), (waysTo c (j + 1)).2 + c.getD (j + 1) 0) := rfl
    rw [hnx]
    have hck := hcb _ (getD_mem (xs := c) (k := j + 1) (by omega))
    generalize (waysTo c (j + 1)).1 = a at *
    generalize (waysTo c (j + 1)).2 = p at *
    generalize c.getD (j + 1) 0 = n at *
    simp [hj1, hj2, hj3, hc, hca, gj]
    rw [loop_to (fun i => ([(1, V.c (C.ptr 0 0)), (3, V.c (C.int .i64 (waysIn a p i))), (4, V.c (C.int .i64 ((p + i : Nat) : Int))), (5, V.c (C.int .i64 ((j : Int) + 1))), (6, V.c (C.int .i64 ((i + 1 : Nat) : Int)))], [Blk.cells (cN c) true])) n]
    · have hn : ¬ (n : Int) + 1 ≤ (n : Int) := by omega
      simp [wj, hj2, hj3, hc, gj, b1, hn]
    · simp [waysIn]
    · intro i hi
      obtain ⟨m1, m2, m3⟩ := hsm i hi
      have hi' : i + 1 ≤ n := hi
      have wi : IntKind.i64.wrap (((i + 1 : Nat) : Int) + 1) = ((i + 1 + 1 : Nat) : Int) := (wrapI (by omega) (by omega)).trans (by omega)
      have m3 : waysIn a p i * (p + (i + 1)) ≤ 59604644775390625 * 24 := m3
      have w1 : IntKind.i64.wrap (((p + i : Nat) : Int) + 1) = ((p + (i + 1) : Nat) : Int) := (wrapI (by omega) (by omega)).trans (by omega)
      have w2 : IntKind.i64.wrap ((waysIn a p i : Int) * ((p + (i + 1) : Nat) : Int)) = ((waysIn a p i * (p + (i + 1)) : Nat) : Int) := by rw [← Int.natCast_mul]; exact wrapI (by omega) (by omega)
      have hq : ((waysIn a p i * (p + (i + 1)) : Nat) : Int).tdiv ((i + 1 : Nat) : Int) = ((waysIn a p (i + 1) : Nat) : Int) := rfl
      have hd : waysIn a p (i + 1) ≤ waysIn a p i * (p + (i + 1)) := Nat.div_le_self _ _
      have w3 : IntKind.i64.wrap ((waysIn a p (i + 1) : Nat) : Int) = ((waysIn a p (i + 1) : Nat) : Int) := wrapI (by omega) (by omega)
      have hz : ¬ ((i + 1 : Nat) : Int) = 0 := by omega
      generalize waysIn a p (i + 1) = y at *
      generalize waysIn a p i * (p + (i + 1)) = z at *
      generalize waysIn a p i = x at *
      simp [hi, hi', hj2, hj3, hc, gj, b1, wi, w1, w2, hq, w3, hz, -Int.natCast_add, -Int.natCast_mul]
/-! ### the chance -/
theorem ways_pos (c : List Nat) : 0 < ways c := waysTo_pos c 6
theorem ways_le {c : List Nat} (hc : c.length = 6) (h0 : c.getD 0 0 = 0) (hs : c.sum ≤ 24) : ways c ≤ 59604644775390625 := by
  have h1 := waysTo_small h0 5
  have e := waysTo_sum c 6
  have := sum_le_take c 6
  have h2 : 5 ^ (waysTo c 6).2 ≤ 5 ^ 24 := Nat.pow_le_pow_right (by decide) (by rw [e]; omega)
  exact Nat.le_trans h1 h2
def dsX (m c : List Int) : Int := if dealB m c = true then ((cutF (plainN (m.map Int.toNat) (c.map Int.toNat)) (ways (c.map Int.toNat))).1 : Int) else 0
def dsY (m c : List Int) : Int := if dealB m c = true then ((cutF (plainN (m.map Int.toNat) (c.map Int.toNat)) (ways (c.map Int.toNat))).2 : Int) else 0
def dsV (m c : List Int) : V := .tup [.agg [.int .i64 (dsX m c), .int .i64 (dsY m c)], .c (.bool (dealB m c))]
structure DealOK (m c : List Int) (M N : List Nat) : Prop where
  em : m.map (C.int .i64) = cN M
  ec : c.map (C.int .i64) = cN N
  lm : M.length = 6
  lc : N.length = 6
  m4 : ∀ x ∈ M, x ≤ 4
  c24 : ∀ x ∈ N, x ≤ 24
  c0 : N.getD 0 0 = 0
  sum : N.sum ≤ 24
theorem deal_ok {m c : List Int} (hm : m.length = 6) (hc : c.length = 6) (h : dealB m c = true) : DealOK m c (m.map Int.toNat) (c.map Int.toNat) := by
  unfold dealB at h
  simp only [Bool.and_eq_true, beq_iff_eq] at h
  obtain ⟨⟨⟨h1, h2⟩, h3⟩, h4⟩ := h
  have cell : ∀ (B : Int) (x : List Int), (x.all fun y => inB y 0 B) = true → x.map (C.int .i64) = cN (x.map Int.toNat) ∧ (∀ y ∈ x.map Int.toNat, (y : Int) ≤ B) ∧ x.sum = ((x.map Int.toNat).sum : Int) := by
    intro B x hx
    refine ⟨?_, ?_, ?_⟩
    · unfold cN
      rw [List.map_map]
      refine List.map_congr_left fun y hy => ?_
      have := List.all_eq_true.1 hx y hy
      simp only [inB, Bool.and_eq_true, decide_eq_true_eq] at this
      simp only [Function.comp_apply, C.int.injEq, true_and]
      omega
    · intro y hy
      obtain ⟨z, hz, rfl⟩ := List.mem_map.1 hy
      have := List.all_eq_true.1 hx z hz
      simp only [inB, Bool.and_eq_true, decide_eq_true_eq] at this
      omega
    · induction x with
      | nil => rfl
      | cons a x ih =>
        have ha := List.all_eq_true.1 hx a (by simp)
        simp only [inB, Bool.and_eq_true, decide_eq_true_eq] at ha
        have := ih (by simp only [List.all_cons, Bool.and_eq_true] at hx; exact hx.2)
        simp only [List.sum_cons, List.map_cons, this, Int.natCast_add]
        omega
  obtain ⟨a1, a2, a3⟩ := cell 4 m h2
  obtain ⟨b1, b2, b3⟩ := cell 24 c h3
  refine ⟨a1, b1, by simp [hm], by simp [hc], fun x hx => by have := a2 x hx; omega, fun x hx => by have := b2 x hx; omega, ?_, ?_⟩
  · cases c with
    | nil => rfl
    | cons a c => have h1 : a = 0 := h1; subst h1; rfl
  · have := sum_take (by decide) h2 6 (by omega)
    rw [List.take_of_length_le (by omega)] at this
    omega
set_option maxHeartbeats 4000000 in
theorem c_impl_DealSame (m c : List Int) (hm : m.length = 6) (hc : c.length = 6) : fnI pr np 16 [.agg (m.map (C.int .i64)), .agg (c.map (C.int .i64))] [] = some (dsV m c, []) := by
  have hd := callA_pure (c_impl_isDeal m c hm hc) (by simp) (by simp)
  have q1 := take6 hm
  have q2 := take6 hc
  rw [fb (fn := a16) rfl rfl]
  unfold dsV dsX dsY
  cases hq : dealB m c with
  | false => rw [hq] at hd; simp [a16, hm, hc, q1, q2, hd, setAt_all, sub]
  | true =>
    rw [hq] at hd
    have ok := deal_ok hm hc hq
    obtain ⟨em, ec, lm, lc, m4, c24, c0, sum⟩ := ok
    rw [em, ec] at hd ⊢
    generalize m.map Int.toNat = M at *
    generalize c.map Int.toNat = N at *
    have k1 := cN_all lm
    have k2 := cN_all lc
    have hp0 := c_impl_plain M true M [] rfl (by omega) m4 N lc c24
    rw [lm] at hp0
    have hp := fun (G : Heap) (base : Nat) => callA_gen (F := fnI pr np) (f := 109) (args := [.c (.sl 0 0 6 1), .agg (cN N)]) (H := lkp (.cells (cN M) true :: G)) (L := [0]) (by simp) (by simp) (by simp [sub]) (by simp) hp0 (by simp) base
    have ha := callA_pure (c_impl_arrangements N lc c0 sum c24) (by simp) (by simp)
    have hle := plainN_le M N
    rw [lm] at hle
    have hwl := ways_le lc c0 sum
    have hf := callA_pure (c_impl_fraction (plainN M N) (ways N) (by omega) (by omega) (ways_pos N)) (by simp) (by simp)
    simp [a16, lm, lc, k1, k2, hd, hp, ha, hf, setAt_all, setAt, stillE, madeA, idOf, sub]
set_option maxHeartbeats 4000000 in
theorem c_spec_DealSame (m c : List Int) (hm : m.length = 6) (hc : c.length = 6) : fnI pr np 17 [.agg (m.map (C.int .i64)), .agg (c.map (C.int .i64))] [] = some (dsV m c, []) := by
  have hd := callA_pure (c_spec_l9Deal m c hm hc) (by simp) (by simp)
  have q1 := take6 hm
  have q2 := take6 hc
  rw [fb (fn := a17) rfl rfl]
  unfold dsV dsX dsY
  cases hq : dealB m c with
  | false => rw [hq] at hd; simp [a17, hm, hc, q1, q2, hd, setAt_all, sub]
  | true =>
    rw [hq] at hd
    have ok := deal_ok hm hc hq
    obtain ⟨em, ec, lm, lc, m4, c24, c0, sum⟩ := ok
    rw [em, ec] at hd ⊢
    generalize m.map Int.toNat = M at *
    generalize c.map Int.toNat = N at *
    have k1 := cN_all lm
    have k2 := cN_all lc
    have hp0 := c_spec_l9Same M lm m4 6 0 rfl N lc c24 c0
    rw [List.drop_zero, show ((0 : Nat) : Int) = 0 from rfl] at hp0
    have hp := callA_pure hp0 (by simp) (by simp)
    have ha := callA_pure (c_spec_l7Ways N lc c0 sum c24) (by simp) (by simp)
    have hle := plainN_le M N
    rw [lm] at hle
    have hwl := ways_le lc c0 sum
    have hf := callA_pure (c_spec_l7Cut (plainN M N) (ways N) (by omega) (by omega) (ways_pos N)) (by simp) (by simp)
    simp [a17, lm, lc, k1, k2, hd, hp, ha, hf, setAt_all, setAt, stillE, madeA, idOf, sub]
end Go.Proofs.Ytoaidbmkfdpagaa.AM
