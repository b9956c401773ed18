import Derived.Test.YtoaidbmkfdpagaaDealC
/- Contracts: tops of deals, pairs of tops, runs of deals. -/
namespace Go.Proofs.Ytoaidbmkfdpagaa.AM
open Go
set_option maxRecDepth 1000000
set_option linter.unusedSimpArgs false
set_option linter.unusedVariables false
theorem deal_sum {m c : List Int} (hm : m.length = 6) (hc : c.length = 6) (h : dealB m c = true) : dealS m c = ((c.map Int.toNat).sum : Int) ∧ (m.map Int.toNat).sum = (c.map Int.toNat).sum := by
  have cell : ∀ (B : Int) (x : List Int), (x.all fun y => inB y 0 B) = true → x.sum = ((x.map Int.toNat).sum : Int) := by
    intro B x hx
    induction x with
    | nil => rfl
    | cons a x ih =>
      have ha := List.all_eq_true.1 hx a (by simp)
      simp only [inB, Bool.and_eq_true, decide_eq_true_eq] at ha
      have := ih (by simp only [List.all_cons, Bool.and_eq_true] at hx; exact hx.2)
      simp only [List.sum_cons, List.map_cons, this, Int.natCast_add]
      omega
  unfold dealB at h
  simp only [Bool.and_eq_true, beq_iff_eq] at h
  obtain ⟨⟨⟨h1, h2⟩, h3⟩, h4⟩ := h
  have e1 := cell 4 m h2
  have e2 := cell 24 c h3
  have ht : (c.tail.all fun x => inB x 0 24) = true := by
    rw [List.all_eq_true] at h3 ⊢
    exact fun x hx => h3 x (List.mem_of_mem_tail hx)
  refine ⟨?_, by omega⟩
  unfold dealS
  rw [h2, ht]
  simp only [Bool.and_self, if_pos]
  omega
theorem getD_le_sum (N : List Nat) (k : Nat) : N.getD k 0 ≤ N.sum := by
  by_cases hk : k < N.length
  · exact mem_le_sum (getD_mem hk)
  · rw [List.getD_eq_getElem?_getD, List.getElem?_eq_none (by omega)]
    exact Nat.zero_le _
/-! ### the top of a tube -/
def dtF (M N : List Nat) (i k : Nat) : Nat × Nat := if M.getD i 0 = 0 then (0, 1) else cutF (N.getD k 0) N.sum
def dtB (m c : List Int) (i k : Int) : Bool := dealB m c && placeB i && (decide (1 ≤ k) && decide (k ≤ 5))
def dtP (m c : List Int) (i k : Int) : Nat × Nat := if dtB m c i k = true then dtF (m.map Int.toNat) (c.map Int.toNat) i.toNat k.toNat else (0, 0)
def dtV (m c : List Int) (i k : Int) : V := .tup [.agg [.int .i64 (dtP m c i k).1, .int .i64 (dtP m c i k).2], .c (.bool (dtB m c i k))]
set_option maxHeartbeats 4000000 in
theorem c_impl_DealTop (m c : List Int) (hm : m.length = 6) (hc : c.length = 6) (i k : Int) : fnI pr np 22 [.agg (m.map (C.int .i64)), .agg (c.map (C.int .i64)), .c (.int .i64 i), .c (.int .i64 k)] [] = some (dtV m c i k, []) := by
  have hd := callA_pure (c_impl_isDeal m c hm hc) (by simp) (by simp)
  have hp := callA_pure (c_impl_isPlace i) (by simp) (by simp)
  have hk := callA_pure (c_impl_isColor k) (by simp) (by simp)
  have q1 := take6 hm
  have q2 := take6 hc
  rw [fb (fn := a22) rfl rfl]
  unfold dtV dtP dtB
  cases hq : dealB m c with
  | false => rw [hq] at hd; simp [a22, hm, hc, q1, q2, hd, setAt_all, setAt, sub]
  | true =>
    rw [hq] at hd
    cases hi : placeB i with
    | false => rw [hi] at hp; simp [a22, hm, hc, q1, q2, hd, hp, setAt_all, setAt, sub]
    | true =>
      rw [hi] at hp
      cases hk1 : (decide (1 ≤ k) && decide (k ≤ 5)) with
      | false => rw [hk1] at hk; simp [a22, hm, hc, q1, q2, hd, hp, hk, setAt_all, setAt, sub]
      | true =>
        rw [hk1] at hk
        obtain ⟨em, ec, lm, lc, m4, c24, c0, sum⟩ := deal_ok hm hc hq
        obtain ⟨hs1, hs2⟩ := deal_sum hm hc hq
        rw [em, ec] at hd ⊢
        generalize m.map Int.toNat = M at *
        generalize c.map Int.toNat = N at *
        obtain ⟨I, rfl, hI, _⟩ := place_nat hi
        obtain ⟨K, rfl, hK1, hK2⟩ : ∃ K : Nat, k = K ∧ 1 ≤ K ∧ K < 6 := by
          simp only [Bool.and_eq_true, decide_eq_true_eq] at hk1
          exact ⟨k.toNat, by omega, by omega, by omega⟩
        have hI' : (I : Int) < 6 := by omega
        have hK' : (K : Int) < 6 := by omega
        have bI : I + 1 ≤ 6 := hI
        have bK : K + 1 ≤ 6 := hK2
        have k1 := cN_all lm
        have k2 := cN_all lc
        have g1 := cN_get (xs := M) (k := I) (by omega)
        have g2 := cN_get (xs := N) (k := K) (by omega)
        have hM := getD_le_sum M I
        have hN := getD_le c24 K
        unfold dtF
        rw [Int.toNat_natCast, Int.toNat_natCast]
        generalize M.getD I 0 = x at *
        generalize N.getD K 0 = y at *
        by_cases hx : x = 0
        · subst hx
          simp [a22, lm, lc, k1, k2, hd, hp, hk, g1, hI, hI', bI, setAt_all, setAt, sub]
        · have hx' : ¬ (x : Int) = 0 := by omega
          have hsum := call_sumN N lc (by omega) c24 true
          have hf := callA_pure (c_impl_fraction y N.sum (by omega) (by omega) (by omega)) (by simp) (by simp)
          simp [a22, lm, lc, k1, k2, hd, hp, hk, g1, g2, hI, hI', bI, bK, hK2, hK', hx, hx', hsum, hf, setAt_all, setAt, stillE, madeA, idOf, sub]
set_option maxHeartbeats 4000000 in
theorem c_spec_DealTop (m c : List Int) (hm : m.length = 6) (hc : c.length = 6) (i k : Int) : fnI pr np 23 [.agg (m.map (C.int .i64)), .agg (c.map (C.int .i64)), .c (.int .i64 i), .c (.int .i64 k)] [] = some (dtV m c i k, []) := by
  have hd := callA_pure (c_spec_l9Deal m c hm hc) (by simp) (by simp)
  have hp := callA_pure (c_spec_l2Place i) (by simp) (by simp)
  have hk := callA_pure (c_spec_l1In k 1 5) (by simp) (by simp)
  have q1 := take6 hm
  have q2 := take6 hc
  rw [fb (fn := a23) rfl rfl]
  unfold dtV dtP dtB
  cases hq : dealB m c with
  | false => rw [hq] at hd; simp [a23, hm, hc, q1, q2, hd, setAt_all, setAt, sub]
  | true =>
    rw [hq] at hd
    cases hi : placeB i with
    | false => rw [hi] at hp; simp [a23, hm, hc, q1, q2, hd, hp, setAt_all, setAt, sub]
    | true =>
      rw [hi] at hp
      cases hk1 : (decide (1 ≤ k) && decide (k ≤ 5)) with
      | false => rw [hk1] at hk; simp [a23, hm, hc, q1, q2, hd, hp, hk, setAt_all, setAt, sub]
      | true =>
        rw [hk1] at hk
        obtain ⟨em, ec, lm, lc, m4, c24, c0, sum⟩ := deal_ok hm hc hq
        obtain ⟨hs1, hs2⟩ := deal_sum hm hc hq
        rw [em, ec, hs1] at hd
        rw [em, ec]
        generalize m.map Int.toNat = M at *
        generalize c.map Int.toNat = N at *
        obtain ⟨I, rfl, hI, _⟩ := place_nat hi
        obtain ⟨K, rfl, hK1, hK2⟩ : ∃ K : Nat, k = K ∧ 1 ≤ K ∧ K < 6 := by
          simp only [Bool.and_eq_true, decide_eq_true_eq] at hk1
          exact ⟨k.toNat, by omega, by omega, by omega⟩
        have hI' : (I : Int) < 6 := by omega
        have hK' : (K : Int) < 6 := by omega
        have bI : I + 1 ≤ 6 := hI
        have bK : K + 1 ≤ 6 := hK2
        have k1 := cN_all lm
        have k2 := cN_all lc
        have g1 := cN_get (xs := M) (k := I) (by omega)
        have g2 := cN_get (xs := N) (k := K) (by omega)
        have hM := getD_le_sum M I
        have hN := getD_le c24 K
        unfold dtF
        rw [Int.toNat_natCast, Int.toNat_natCast]
        generalize M.getD I 0 = x at *
        generalize N.getD K 0 = y at *
        by_cases hx : x = 0
        · subst hx
          simp [a23, lm, lc, k1, k2, hd, hp, hk, g1, hI, hI', bI, setAt_all, setAt, sub]
        · have hx' : ¬ (x : Int) = 0 := by omega
          have hf := callA_pure (c_spec_l7Cut y N.sum (by omega) (by omega) (by omega)) (by simp) (by simp)
          simp [a23, lm, lc, k1, k2, hd, hp, hk, g1, g2, hI, hI', bI, bK, hK2, hK', hx, hx', hf, setAt_all, setAt, stillE, madeA, idOf, sub]
/-! ### the tops of two tubes -/
theorem sq_le {N : List Nat} (h : N.length = 6) : sqTo N 6 ≤ N.sum * (N.sum - 1) := by
  have e : N.sum = S6 (fun j => N.getD j 0) := by
    match N, h with
    | [a, b, c, d, e, f], _ => simp [S6]; omega
  have e2 : sqTo N 6 = S6 (fun j => N.getD j 0 * (N.getD j 0 - 1)) := by
    match N, h with
    | [a, b, c, d, e, f], _ => simp [S6, sqTo, List.range_succ]; omega
  have key : S6 (fun j => N.getD j 0 * (N.getD j 0 - 1)) ≤ S6 (fun j => N.getD j 0) * (N.sum - 1) := by
    rw [S6_mul]
    refine S6_le fun j _ => Nat.mul_le_mul_left _ ?_
    have := getD_le_sum N j
    omega
  rw [e2]
  rw [← e] at key
  exact key
theorem two_sum {M : List Nat} (h : M.length = 6) {a b : Nat} (ha : a < 6) (hb : b < 6) (hab : a ≠ b) : M.getD a 0 + M.getD b 0 ≤ M.sum := by
  have e : M.sum = S6 (fun j => M.getD j 0) := by
    match M, h with
    | [a, b, c, d, e, f], _ => simp [S6]; omega
  rw [e]
  exact S6_two (f := fun j => M.getD j 0) ha hb hab
def daB (m c : List Int) (i j : Int) : Bool := dealB m c && placeB i && placeB j && (!decide (i = j)) && (!decide (m.getD i.toNat 0 = 0)) && (!decide (m.getD j.toNat 0 = 0))
def daP (m c : List Int) (i j : Int) : Nat × Nat := if daB m c i j = true then cutF (sqTo (c.map Int.toNat) 6) ((c.map Int.toNat).sum * ((c.map Int.toNat).sum - 1)) else (0, 0)
def daV (m c : List Int) (i j : Int) : V := .tup [.agg [.int .i64 (daP m c i j).1, .int .i64 (daP m c i j).2], .c (.bool (daB m c i j))]
theorem cell_zero {m : List Int} {M : List Nat} (em : m.map (C.int .i64) = cN M) (k : Nat) : m.getD k 0 = (M.getD k 0 : Int) := by
  have e : m = M.map fun (x : Nat) => (x : Int) := by
    rw [cN_eq] at em
    exact (List.map_inj_right (by intro x y h; injection h)).1 em
  rw [e, List.getD_eq_getElem?_getD, List.getD_eq_getElem?_getD, List.getElem?_map]
  cases M[k]? <;> rfl
set_option maxHeartbeats 4000000 in
theorem c_impl_DealAlike (m c : List Int) (hm : m.length = 6) (hc : c.length = 6) (i j : Int) : fnI pr np 25 [.agg (m.map (C.int .i64)), .agg (c.map (C.int .i64)), .c (.int .i64 i), .c (.int .i64 j)] [] = some (daV m c i j, []) := by
  have hd := callA_pure (c_impl_isDeal m c hm hc) (by simp) (by simp)
  have hp := callA_pure (c_impl_isPlace i) (by simp) (by simp)
  have hk := callA_pure (c_impl_isPlace j) (by simp) (by simp)
  have q1 := take6 hm
  have q2 := take6 hc
  rw [fb (fn := a25) rfl rfl]
  unfold daV daP daB
  cases hq : dealB m c with
  | false => rw [hq] at hd; simp [a25, hm, hc, q1, q2, hd, setAt_all, setAt, sub]
  | true =>
    rw [hq] at hd
    cases hi : placeB i with
    | false => rw [hi] at hp; simp [a25, hm, hc, q1, q2, hd, hp, setAt_all, setAt, sub]
    | true =>
      rw [hi] at hp
      cases hj : placeB j with
      | false => rw [hj] at hk; simp [a25, hm, hc, q1, q2, hd, hp, hk, setAt_all, setAt, sub]
      | true =>
        rw [hj] at hk
        by_cases hij : i = j
        · subst hij; simp [a25, hm, hc, q1, q2, hd, hp, hk, setAt_all, setAt, sub]
        · obtain ⟨em, ec, lm, lc, m4, c24, c0, sum⟩ := deal_ok hm hc hq
          obtain ⟨hs1, hs2⟩ := deal_sum hm hc hq
          obtain ⟨I, rfl, hI, _⟩ := place_nat hi
          obtain ⟨J, rfl, hJ, _⟩ := place_nat hj
          have hij' : ¬ I = J := by omega
          have hijb : ((I : Int) == (J : Int)) = false := beq_eq_false_iff_ne.2 hij
          rw [Int.toNat_natCast, Int.toNat_natCast, cell_zero em, cell_zero em]
          rw [em, ec] at hd ⊢
          generalize m.map Int.toNat = M at *
          generalize c.map Int.toNat = N at *
          have hI' : (I : Int) < 6 := by omega
          have hJ' : (J : Int) < 6 := by omega
          have bI : I + 1 ≤ 6 := hI
          have bJ : J + 1 ≤ 6 := hJ
          have k1 := cN_all lm
          have k2 := cN_all lc
          have g1 := cN_get (xs := M) (k := I) (by omega)
          have g2 := cN_get (xs := M) (k := J) (by omega)
          have h2 := two_sum lm hI hJ hij'
          generalize M.getD I 0 = x at *
          generalize M.getD J 0 = y at *
          by_cases hx : x = 0
          · subst hx
            simp [a25, lm, lc, k1, k2, hd, hp, hk, hij, hij', hijb, g1, hI, hI', bI, setAt_all, setAt, sub]
          · have hx' : ¬ (x : Int) = 0 := by omega
            have hxb : ((x : Int) == 0) = false := beq_eq_false_iff_ne.2 hx'
            by_cases hy : y = 0
            · subst hy
              simp [a25, lm, lc, k1, k2, hd, hp, hk, hij, hij', hijb, g1, g2, hx, hx', hxb, hI, hI', bI, hJ, hJ', bJ, setAt_all, setAt, sub]
            · have hy' : ¬ (y : Int) = 0 := by omega
              have hyb : ((y : Int) == 0) = false := beq_eq_false_iff_ne.2 hy'
              have hpa := callA_pure (c_impl_pairs N lc c24 sum) (by simp) (by simp)
              have hle : N.sum * (N.sum - 1) ≤ 24 * 23 := Nat.mul_le_mul sum (by omega)
              have hpos : 0 < N.sum * (N.sum - 1) := Nat.mul_pos (by omega) (by omega)
              have hsq := sqTo_le c24 6
              have hf := callA_pure (c_impl_fraction (sqTo N 6) (N.sum * (N.sum - 1)) (by omega) (by omega) hpos) (by simp) (by simp)
              generalize N.sum * (N.sum - 1) = z at *
              simp [a25, lm, lc, k1, k2, hd, hp, hk, hij, hij', hijb, g1, g2, hx, hx', hxb, hy, hy', hyb, hI, hI', bI, hJ, hJ', bJ, hpa, hf, setAt_all, setAt, stillE, madeA, idOf, sub]
set_option maxHeartbeats 4000000 in
theorem c_spec_DealAlike (m c : List Int) (hm : m.length = 6) (hc : c.length = 6) (i j : Int) : fnI pr np 26 [.agg (m.map (C.int .i64)), .agg (c.map (C.int .i64)), .c (.int .i64 i), .c (.int .i64 j)] [] = some (daV m c i j, []) := by
  have hd := callA_pure (c_spec_l9Deal m c hm hc) (by simp) (by simp)
  have hp := callA_pure (c_spec_l2Place i) (by simp) (by simp)
  have hk := callA_pure (c_spec_l2Place j) (by simp) (by simp)
  have q1 := take6 hm
  have q2 := take6 hc
  rw [fb (fn := a26) rfl rfl]
  unfold daV daP daB
  cases hq : dealB m c with
  | false => rw [hq] at hd; simp [a26, hm, hc, q1, q2, hd, setAt_all, setAt, sub]
  | true =>
    rw [hq] at hd
    cases hi : placeB i with
    | false => rw [hi] at hp; simp [a26, hm, hc, q1, q2, hd, hp, setAt_all, setAt, sub]
    | true =>
      rw [hi] at hp
      cases hj : placeB j with
      | false => rw [hj] at hk; simp [a26, hm, hc, q1, q2, hd, hp, hk, setAt_all, setAt, sub]
      | true =>
        rw [hj] at hk
        by_cases hij : i = j
        · subst hij; simp [a26, hm, hc, q1, q2, hd, hp, hk, setAt_all, setAt, sub]
        · obtain ⟨em, ec, lm, lc, m4, c24, c0, sum⟩ := deal_ok hm hc hq
          obtain ⟨hs1, hs2⟩ := deal_sum hm hc hq
          obtain ⟨I, rfl, hI, _⟩ := place_nat hi
          obtain ⟨J, rfl, hJ, _⟩ := place_nat hj
          have hij' : ¬ I = J := by omega
          have hijb : ((I : Int) == (J : Int)) = false := beq_eq_false_iff_ne.2 hij
          rw [Int.toNat_natCast, Int.toNat_natCast, cell_zero em, cell_zero em]
          rw [em, ec, hs1] at hd
          rw [em, ec]
          generalize m.map Int.toNat = M at *
          generalize c.map Int.toNat = N at *
          have hI' : (I : Int) < 6 := by omega
          have hJ' : (J : Int) < 6 := by omega
          have bI : I + 1 ≤ 6 := hI
          have bJ : J + 1 ≤ 6 := hJ
          have k1 := cN_all lm
          have k2 := cN_all lc
          have g1 := cN_get (xs := M) (k := I) (by omega)
          have g2 := cN_get (xs := M) (k := J) (by omega)
          have h2 := two_sum lm hI hJ hij'
          generalize M.getD I 0 = x at *
          generalize M.getD J 0 = y at *
          by_cases hx : x = 0
          · subst hx
            simp [a26, lm, lc, k1, k2, hd, hp, hk, hij, hij', hijb, g1, hI, hI', bI, setAt_all, setAt, sub]
          · have hx' : ¬ (x : Int) = 0 := by omega
            have hxb : ((x : Int) == 0) = false := beq_eq_false_iff_ne.2 hx'
            by_cases hy : y = 0
            · subst hy
              simp [a26, lm, lc, k1, k2, hd, hp, hk, hij, hij', hijb, g1, g2, hx, hx', hxb, hI, hI', bI, hJ, hJ', bJ, setAt_all, setAt, sub]
            · have hy' : ¬ (y : Int) = 0 := by omega
              have hyb : ((y : Int) == 0) = false := beq_eq_false_iff_ne.2 hy'
              have hpa := callA_pure (c_spec_l9Pairs N lc c24 c0) (by simp) (by simp)
              have hle : N.sum * (N.sum - 1) ≤ 24 * 23 := Nat.mul_le_mul sum (by omega)
              have hpos : 0 < N.sum * (N.sum - 1) := Nat.mul_pos (by omega) (by omega)
              have hsq := sqTo_le c24 6
              have hf := callA_pure (c_spec_l7Cut (sqTo N 6) (N.sum * (N.sum - 1)) (by omega) (by omega) hpos) (by simp) (by simp)
              have w0 : IntKind.i64.wrap ((N.sum : Int) - 1) = (N.sum : Int) - 1 := wrapI (by omega) (by omega)
              have w1 : IntKind.i64.wrap ((N.sum : Int) * ((N.sum : Int) - 1)) = ((N.sum * (N.sum - 1) : Nat) : Int) := by rw [← sq_int]; exact wrapI (by omega) (by omega)
              generalize N.sum * (N.sum - 1) = z at *
              simp [a26, lm, lc, k1, k2, hd, hp, hk, hij, hij', hijb, g1, g2, hx, hx', hxb, hy, hy', hyb, hI, hI', bI, hJ, hJ', bJ, hpa, hf, w0, w1, setAt_all, setAt, stillE, madeA, idOf, sub]
end Go.Proofs.Ytoaidbmkfdpagaa.AM
