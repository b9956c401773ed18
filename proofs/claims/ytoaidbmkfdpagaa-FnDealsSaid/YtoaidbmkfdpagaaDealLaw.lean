import Derived.Test.YtoaidbmkfdpagaaDealH
import Derived.Test.YtoaidbmkfdpagaaVCut
/- Law: deals. -/
namespace Go.Proofs.Ytoaidbmkfdpagaa.AM
open Go
set_option maxRecDepth 1000000
set_option linter.unusedSimpArgs false
set_option linter.unusedVariables false
theorem callD_slz {F : Fns} {f n sz : Nat} {rest : List V} {b : Blk} {v : V} {ns : Heap} (hre : rest.flatMap V.ids = []) (hbi : b.ids = []) (hF : F f (.c (.sl 0 0 n sz) :: rest) [b] = some (v, b :: ns)) (i : Nat) (H : HF) (base : Nat) (hb : (H i == some b) = true) :
    callA F f (.c (.sl i 0 n sz) :: rest) H base = some (v.mp (back [i] base), ns.map (Blk.mp (back [i] base)), [(i, b)]) := by
  have hb : H i = some b := by simpa using hb
  exact callA_one (x := .c (.sl i 0 n sz)) hb (by simp) (by simp) hre hbi hF base
theorem da_small {m c : List Int} {i j : Int} (hm : m.length = 6) (hc : c.length = 6) (h : daB m c i j = true) : (daP m c i j).1 ≤ (daP m c i j).2 ∧ (daP m c i j).2 ≤ 1000 := by
  unfold daP
  rw [if_pos h]
  unfold daB at h
  simp only [Bool.and_eq_true, Bool.not_eq_true', decide_eq_false_iff_not] at h
  obtain ⟨⟨⟨⟨⟨hq, hi⟩, hj⟩, hij⟩, h1⟩, h2⟩ := h
  obtain ⟨em, ec, lm, lc, m4, c24, c0, sum⟩ := deal_ok hm hc hq
  obtain ⟨hs1, hs2⟩ := deal_sum hm hc hq
  obtain ⟨I, rfl, hI, hI2⟩ := place_nat hi
  obtain ⟨J, rfl, hJ, hJ2⟩ := place_nat hj
  rw [hI2, cell_zero em] at h1
  rw [hJ2, cell_zero em] at h2
  have h3 := two_sum lm hI hJ (by omega)
  have hpos : 0 < (c.map Int.toNat).sum * ((c.map Int.toNat).sum - 1) := Nat.mul_pos (by omega) (by omega)
  have hle : (c.map Int.toNat).sum * ((c.map Int.toNat).sum - 1) ≤ 24 * 23 := Nat.mul_le_mul sum (by omega)
  refine ⟨cutF_small hpos (sq_le lc), ?_⟩
  have := cutF_le (sqTo (c.map Int.toNat) 6) ((c.map Int.toNat).sum * ((c.map Int.toNat).sum - 1))
  omega
set_option maxHeartbeats 16000000 in
theorem c_laws_FnDeals (bs : List Int) (hlen : bs.length ≤ 9223372036854775807) (hrg : ∀ x ∈ bs, 0 ≤ x ∧ x < 256) : fnI pr np 4 [.c (.sl 0 0 bs.length 1)] [byB bs false] = some (.c (.bool true), [byB bs false]) := by
  have hbig := callD_slz (rest := []) rfl (by simp) (c_laws_vBig bs false hlen) 0
  rw [fb (fn := a4) rfl rfl]
  by_cases hB : 65536 < bs.length
  · rw [decide_eq_true hB] at hbig
    simp [a4, hbig, sub]
  rw [decide_eq_false hB] at hbig
  have hb : Bytes bs := ⟨hrg, by omega⟩
  obtain ⟨m, c, hm, hc, hD⟩ := c_spec_DrawDealRuns bs hb false
  have hD := callD_slz (rest := []) rfl (by simp) hD 0
  obtain ⟨bs1, hb1, hcut1⟩ := c_laws_vCut bs hb (by omega) false 1 (by omega)
  have hcut1 := callD_slz (rest := [.c (.int .i64 1)]) rfl (by simp) hcut1 0
  obtain ⟨bs2, hb2, hcut2⟩ := c_laws_vCut bs hb (by omega) false 2 (by omega)
  have hcut2 := callD_slz (rest := [.c (.int .i64 2)]) rfl (by simp) hcut2 0
  obtain ⟨mm, cc, i, kc, hmm, hcc, hD1⟩ := c_spec_DrawDealTop bs1 hb1 true
  have hD1 := callD_slz (rest := []) rfl (by simp) hD1 7
  obtain ⟨ma, ca, a, b, hma, hca, hD2⟩ := c_spec_DrawDealAlike bs2 hb2 true
  have hD2 := callD_slz (rest := []) rfl (by simp) hD2 12
  have v1 := callA_pure (c_impl_DealRuns m c hm hc) (by simp) (by simp [drV])
  have v2 := callA_pure (c_spec_DealRuns m c hm hc) (by simp) (by simp [drV])
  have v3 := callA_pure (c_impl_DealSame m c hm hc) (by simp) (by simp [dsV])
  have v4 := callA_pure (c_spec_DealSame m c hm hc) (by simp) (by simp [dsV])
  have v5 := callA_pure (c_impl_CountDeals m c hm hc) (by simp) (by simp [cdV])
  have v6 := callA_pure (c_spec_CountDeals m c hm hc) (by simp) (by simp [cdV])
  have v7 := callA_pure (c_impl_DealTop mm cc hmm hcc i kc) (by simp) (by simp [dtV])
  have v8 := callA_pure (c_spec_DealTop mm cc hmm hcc i kc) (by simp) (by simp [dtV])
  have v9 := callA_pure (c_impl_DealAlike ma ca hma hca a b) (by simp) (by simp [daV])
  have v10 := callA_pure (c_spec_DealAlike ma ca hma hca a b) (by simp) (by simp [daV])
  have v11 := callA_pure (c_impl_DealAlike ma ca hma hca b a) (by simp) (by simp [daV])
  unfold drV at v1 v2
  unfold dsV at v3 v4
  unfold cdV at v5 v6
  unfold dtV at v7 v8
  unfold daV at v9 v10 v11
  have hsy : daB ma ca b a = daB ma ca a b := by
    unfold daB
    rw [show decide (b = a) = decide (a = b) from decide_eq_decide.2 ⟨Eq.symm, Eq.symm⟩]
    cases dealB ma ca <;> cases placeB a <;> cases placeB b <;> cases (!decide (a = b)) <;> cases (!decide (ma.getD a.toNat 0 = 0)) <;> cases (!decide (ma.getD b.toNat 0 = 0)) <;> rfl
  have hsp : daP ma ca b a = daP ma ca a b := by unfold daP; rw [hsy]
  rw [hsy, hsp] at v11
  have m6 := take6 hm
  have c6 := take6 hc
  have mm6 := take6 hmm
  have cc6 := take6 hcc
  have ma6 := take6 hma
  have ca6 := take6 hca
  simp only [a4]
  generalize hC2 : (ACode.seq (ACode.seq (ACode.region (AOper.mk (some 240) none _ :: _) _) _) _) = d2
  generalize hC1 : (ACode.seq (ACode.seq (ACode.region (AOper.mk (some 219) none _ :: _) _) _) _) = d1
  have fin3A : ∀ (xs : Env) (x2 x4 : Blk) (g : Heap), leaveK 1 [RV.t 2] (exI pr np 1 d2 ([(3, V.c (C.ptr 1 0)), (5, V.c (C.ptr 3 0)), (6, V.c (C.bool (dealB m c))), (9, V.c (C.ptr 5 0)), (13, V.c (C.int .i64 (if dealB m c = true then (ways (c.map Int.toNat) : Int) else 0)))] ++ xs) ([byB bs false, Blk.cells (m.map (C.int .i64)) true, x2, Blk.cells [C.int .i64 (drP m c).1, C.int .i64 (drP m c).2] true, x4, Blk.cells [C.int .i64 (dsX m c), C.int .i64 (dsY m c)] true] ++ g)) = some (.c (.bool true), [byB bs false]) := by
    intro xs x2 x4 g
    subst hC2
    cases hq : dealB m c with
    | false => simp [sub]
    | true =>
      obtain ⟨em, ec, lm, lc, m4, c24, c0, sum⟩ := deal_ok hm hc hq
      obtain ⟨hs1, hs2⟩ := deal_sum hm hc hq
      have e1 : drP m c = drF (m.map Int.toNat) (c.map Int.toNat) := by unfold drP; rw [if_pos hq]
      have e2 : dsX m c = ((cutF (plainN (m.map Int.toNat) (c.map Int.toNat)) (ways (c.map Int.toNat))).1 : Int) := by unfold dsX; rw [if_pos hq]
      have e3 : dsY m c = ((cutF (plainN (m.map Int.toNat) (c.map Int.toNat)) (ways (c.map Int.toNat))).2 : Int) := by unfold dsY; rw [if_pos hq]
      rw [e1, e2, e3, em, if_pos rfl]
      clear hbig hD hcut1 hcut2 hD1 hD2 v1 v2 v3 v4 v5 v6 v7 v8 v9 v10 v11 hsy hsp hC1 e1 e2 e3 em ec hs1
      generalize m.map Int.toNat = M at *
      generalize c.map Int.toNat = N at *
      have hP := plain_le_ways M N lc
      have hWp := ways_pos N
      have hWl := ways_le lc c0 sum
      have hs12 := cutF_small hWp hP
      have hsl := cutF_le (plainN M N) (ways N)
      have hone : (cutF (plainN M N) (ways N)).1 = 1 → (cutF (plainN M N) (ways N)).2 = 1 → drF M N = (tubTo M 6, 1) := fun h1 h2 => dr_same lm lc hs2 sum (Prod.ext h1 h2)
      obtain ⟨db1, db2, db3, db4⟩ := dr_bounds lm lc hs2 sum
      have ht6 := tubTo_le M 6
      have hM6 : (waysTo M 6).2 = M.sum := by rw [waysTo_sum, List.take_of_length_le (by omega)]
      have hwb : ∀ k, (waysTo M k).2 ≤ 24 := fun k => by rw [waysTo_sum]; have := sum_le_take M k; omega
      have hmk := cN_all lm
      have hall : (1 : Int) ≤ (ways N : Int) := by omega
      have hall2 : 1 ≤ ways N := hWp
      generalize (cutF (plainN M N) (ways N)).1 = s1 at *
      generalize (cutF (plainN M N) (ways N)).2 = s2 at *
      have n1 : tubTo M 6 * (drF M N).2 ≤ 6 * 100000 := Nat.mul_le_mul ht6 db4
      have n2 : M.sum * (drF M N).2 ≤ 24 * 100000 := Nat.mul_le_mul (by omega) db4
      have hl1 := c_laws_vLess (drF M N).1 (drF M N).2 (tubTo M 6) 1 (by omega) (by omega)
      have hl2 := c_laws_vLess M.sum 1 (drF M N).1 (drF M N).2 (by omega) (by omega)
      have hl3 := c_laws_vLess 1 1 s1 s2 (by omega) (by omega)
      rw [decide_eq_false (by omega)] at hl1 hl2 hl3
      simp only [Int.natCast_one] at hl1 hl2 hl3
      have hl1 := callA_pure hl1 (by simp) (by simp)
      have hl2 := callA_pure hl2 (by simp) (by simp)
      have hl3 := callA_pure hl3 (by simp) (by simp)
      simp [sub]
      rw [loop_to (fun (k : Nat) => ([(3, V.c (C.ptr 1 0)), (5, V.c (C.ptr 2 0)), (9, V.c (C.ptr 3 0)), (13, V.c (C.int .i64 (ways N : Int))), (39, V.c (C.int .i64 (tubTo M k))), (40, V.c (C.int .i64 ((waysTo M k).2 : Int))), (41, V.c (C.int .i64 k))], [byB bs false, Blk.cells (cN M) true, Blk.cells [C.int .i64 (drF M N).1, C.int .i64 (drF M N).2] true, Blk.cells [C.int .i64 s1, C.int .i64 s2] true])) 6]
      · by_cases hsm : s1 = 1 ∧ s2 = 1
        · have hdr := hone hsm.1 hsm.2
          obtain ⟨e1, e2⟩ := hsm
          have f1 : (drF M N).1 = tubTo M 6 := by rw [hdr]
          have f2 : (drF M N).2 = 1 := by rw [hdr]
          rw [f1, f2] at hl1 hl2
          rw [e1, e2] at hl3
          simp only [Int.natCast_one] at hl1 hl2 hl3
          simp [f1, f2, e1, e2, hM6, hall, hall2, hl1, hl2, hl3, conf, conf1, sub]
        · have hsm' : ¬ ((s1 : Int) = 1 ∧ (s2 : Int) = 1) := by omega
          have hsm2 : (s1 : Int) = 1 → ¬ (s2 : Int) = 1 := fun h1 h2 => hsm' ⟨h1, h2⟩
          have hsm3 : s1 = 1 → ¬ s2 = 1 := fun h1 h2 => hsm ⟨h1, h2⟩
          generalize (drF M N).1 = u1 at *
          generalize (drF M N).2 = u2 at *
          generalize tubTo M 6 = t at *
          simp [hM6, hall, hall2, hl1, hl2, hl3, hsm, hsm', conf, conf1, sub]
          try exact hsm3
      · simp [tubTo, waysTo, sub]
      · intro k hk
        have hk' : (k : Int) < 6 := by omega
        have gk := cN_get (xs := M) (k := k) (by omega)
        have wk := wrapS (k := k) (by omega)
        have b1 : k + 1 ≤ 6 := hk
        have t1 := tubTo_succ M k
        have t3 := tubTo_le M k
        have y1 : (waysTo M (k + 1)).2 = (waysTo M k).2 + M.getD k 0 := rfl
        have y2 := hwb (k + 1)
        clear hl1 hl2 hl3 db1 db2 n1 n2 hone hM6 hwb
        generalize (waysTo M (k + 1)).2 = y' at *
        generalize (waysTo M k).2 = y at *
        generalize M.getD k 0 = x at *
        generalize tubTo M (k + 1) = t' at *
        generalize tubTo M k = t at *
        have w1 : IntKind.i64.wrap ((y : Int) + (x : Int)) = (y' : Int) := (wrapI (by omega) (by omega)).trans (by omega)
        generalize (drF M N).1 = u1 at *
        generalize (drF M N).2 = u2 at *
        generalize ways N = W at *
        rcases Nat.lt_or_ge x 1 with hx1 | hx1
        · have hx0 : x = 0 := by omega
          subst hx0
          have e1 : t' = t := by omega
          have e2 : y' = y := by omega
          subst e1 e2
          have w2 : IntKind.i64.wrap (y' : Int) = (y' : Int) := wrapI (by omega) (by omega)
          simp [hk, hk', lm, gk, wk, b1, w2, sub]
        · have w3 : IntKind.i64.wrap ((t : Int) + 1) = (t' : Int) := (wrapI (by omega) (by omega)).trans (by omega)
          have x1 : (0 : Int) < (x : Int) := by omega
          have x2 : 0 < x := hx1
          simp [hk, hk', lm, gk, wk, b1, w3, w1, x1, x2, sub]
  have fin3B : ∀ (xs : Env) (g : Heap), leaveK 1 [RV.t 2] (exI pr np 1 d2 ([(3, V.c (C.ptr 1 0)), (5, V.c (C.ptr 2 0)), (6, V.c (C.bool (dealB m c))), (9, V.c (C.ptr 3 0)), (13, V.c (C.int .i64 (if dealB m c = true then (ways (c.map Int.toNat) : Int) else 0)))] ++ xs) ([byB bs false, Blk.cells (m.map (C.int .i64)) true, Blk.cells [C.int .i64 (drP m c).1, C.int .i64 (drP m c).2] true, Blk.cells [C.int .i64 (dsX m c), C.int .i64 (dsY m c)] true] ++ g)) = some (.c (.bool true), [byB bs false]) := by
    intro xs  g
    subst hC2
    cases hq : dealB m c with
    | false => simp [sub]
    | true =>
      obtain ⟨em, ec, lm, lc, m4, c24, c0, sum⟩ := deal_ok hm hc hq
      obtain ⟨hs1, hs2⟩ := deal_sum hm hc hq
      have e1 : drP m c = drF (m.map Int.toNat) (c.map Int.toNat) := by unfold drP; rw [if_pos hq]
      have e2 : dsX m c = ((cutF (plainN (m.map Int.toNat) (c.map Int.toNat)) (ways (c.map Int.toNat))).1 : Int) := by unfold dsX; rw [if_pos hq]
      have e3 : dsY m c = ((cutF (plainN (m.map Int.toNat) (c.map Int.toNat)) (ways (c.map Int.toNat))).2 : Int) := by unfold dsY; rw [if_pos hq]
      rw [e1, e2, e3, em, if_pos rfl]
      clear hbig hD hcut1 hcut2 hD1 hD2 v1 v2 v3 v4 v5 v6 v7 v8 v9 v10 v11 hsy hsp hC1 e1 e2 e3 em ec hs1
      generalize m.map Int.toNat = M at *
      generalize c.map Int.toNat = N at *
      have hP := plain_le_ways M N lc
      have hWp := ways_pos N
      have hWl := ways_le lc c0 sum
      have hs12 := cutF_small hWp hP
      have hsl := cutF_le (plainN M N) (ways N)
      have hone : (cutF (plainN M N) (ways N)).1 = 1 → (cutF (plainN M N) (ways N)).2 = 1 → drF M N = (tubTo M 6, 1) := fun h1 h2 => dr_same lm lc hs2 sum (Prod.ext h1 h2)
      obtain ⟨db1, db2, db3, db4⟩ := dr_bounds lm lc hs2 sum
      have ht6 := tubTo_le M 6
      have hM6 : (waysTo M 6).2 = M.sum := by rw [waysTo_sum, List.take_of_length_le (by omega)]
      have hwb : ∀ k, (waysTo M k).2 ≤ 24 := fun k => by rw [waysTo_sum]; have := sum_le_take M k; omega
      have hmk := cN_all lm
      have hall : (1 : Int) ≤ (ways N : Int) := by omega
      have hall2 : 1 ≤ ways N := hWp
      generalize (cutF (plainN M N) (ways N)).1 = s1 at *
      generalize (cutF (plainN M N) (ways N)).2 = s2 at *
      have n1 : tubTo M 6 * (drF M N).2 ≤ 6 * 100000 := Nat.mul_le_mul ht6 db4
      have n2 : M.sum * (drF M N).2 ≤ 24 * 100000 := Nat.mul_le_mul (by omega) db4
      have hl1 := c_laws_vLess (drF M N).1 (drF M N).2 (tubTo M 6) 1 (by omega) (by omega)
      have hl2 := c_laws_vLess M.sum 1 (drF M N).1 (drF M N).2 (by omega) (by omega)
      have hl3 := c_laws_vLess 1 1 s1 s2 (by omega) (by omega)
      rw [decide_eq_false (by omega)] at hl1 hl2 hl3
      simp only [Int.natCast_one] at hl1 hl2 hl3
      have hl1 := callA_pure hl1 (by simp) (by simp)
      have hl2 := callA_pure hl2 (by simp) (by simp)
      have hl3 := callA_pure hl3 (by simp) (by simp)
      simp [sub]
      rw [loop_to (fun (k : Nat) => ([(3, V.c (C.ptr 1 0)), (5, V.c (C.ptr 2 0)), (9, V.c (C.ptr 3 0)), (13, V.c (C.int .i64 (ways N : Int))), (39, V.c (C.int .i64 (tubTo M k))), (40, V.c (C.int .i64 ((waysTo M k).2 : Int))), (41, V.c (C.int .i64 k))], [byB bs false, Blk.cells (cN M) true, Blk.cells [C.int .i64 (drF M N).1, C.int .i64 (drF M N).2] true, Blk.cells [C.int .i64 s1, C.int .i64 s2] true])) 6]
      · by_cases hsm : s1 = 1 ∧ s2 = 1
        · have hdr := hone hsm.1 hsm.2
          obtain ⟨e1, e2⟩ := hsm
          have f1 : (drF M N).1 = tubTo M 6 := by rw [hdr]
          have f2 : (drF M N).2 = 1 := by rw [hdr]
          rw [f1, f2] at hl1 hl2
          rw [e1, e2] at hl3
          simp only [Int.natCast_one] at hl1 hl2 hl3
          simp [f1, f2, e1, e2, hM6, hall, hall2, hl1, hl2, hl3, conf, conf1, sub]
        · have hsm' : ¬ ((s1 : Int) = 1 ∧ (s2 : Int) = 1) := by omega
          have hsm2 : (s1 : Int) = 1 → ¬ (s2 : Int) = 1 := fun h1 h2 => hsm' ⟨h1, h2⟩
          have hsm3 : s1 = 1 → ¬ s2 = 1 := fun h1 h2 => hsm ⟨h1, h2⟩
          generalize (drF M N).1 = u1 at *
          generalize (drF M N).2 = u2 at *
          generalize tubTo M 6 = t at *
          simp [hM6, hall, hall2, hl1, hl2, hl3, hsm, hsm', conf, conf1, sub]
          try exact hsm3
      · simp [tubTo, waysTo, sub]
      · intro k hk
        have hk' : (k : Int) < 6 := by omega
        have gk := cN_get (xs := M) (k := k) (by omega)
        have wk := wrapS (k := k) (by omega)
        have b1 : k + 1 ≤ 6 := hk
        have t1 := tubTo_succ M k
        have t3 := tubTo_le M k
        have y1 : (waysTo M (k + 1)).2 = (waysTo M k).2 + M.getD k 0 := rfl
        have y2 := hwb (k + 1)
        clear hl1 hl2 hl3 db1 db2 n1 n2 hone hM6 hwb
        generalize (waysTo M (k + 1)).2 = y' at *
        generalize (waysTo M k).2 = y at *
        generalize M.getD k 0 = x at *
        generalize tubTo M (k + 1) = t' at *
        generalize tubTo M k = t at *
        have w1 : IntKind.i64.wrap ((y : Int) + (x : Int)) = (y' : Int) := (wrapI (by omega) (by omega)).trans (by omega)
        generalize (drF M N).1 = u1 at *
        generalize (drF M N).2 = u2 at *
        generalize ways N = W at *
        rcases Nat.lt_or_ge x 1 with hx1 | hx1
        · have hx0 : x = 0 := by omega
          subst hx0
          have e1 : t' = t := by omega
          have e2 : y' = y := by omega
          subst e1 e2
          have w2 : IntKind.i64.wrap (y' : Int) = (y' : Int) := wrapI (by omega) (by omega)
          simp [hk, hk', lm, gk, wk, b1, w2, sub]
        · have w3 : IntKind.i64.wrap ((t : Int) + 1) = (t' : Int) := (wrapI (by omega) (by omega)).trans (by omega)
          have x1 : (0 : Int) < (x : Int) := by omega
          have x2 : 0 < x := hx1
          simp [hk, hk', lm, gk, wk, b1, w3, w1, x1, x2, sub]
  have fin1A : ∀ (xs : Env), leaveK 1 [RV.t 2] (exI pr np 1 d1 ([(3, V.c (C.ptr 1 0)), (5, V.c (C.ptr 3 0)), (6, V.c (C.bool (dealB m c))), (9, V.c (C.ptr 5 0)), (13, V.c (C.int .i64 (if dealB m c = true then (ways (c.map Int.toNat) : Int) else 0))), (17, V.c (C.ptr 8 0)), (18, V.c (C.ptr 9 0)), (19, V.c (C.int .i64 i)), (25, V.c (C.ptr 13 0)), (26, V.c (C.ptr 14 0)), (27, V.c (C.int .i64 a)), (28, V.c (C.int .i64 b)), (29, V.c (C.ptr 15 0)), (30, V.c (C.bool (daB ma ca a b)))] ++ xs) [byB bs false, Blk.cells (m.map (C.int .i64)) true, Blk.cells (c.map (C.int .i64)) true, Blk.cells [C.int .i64 (drP m c).1, C.int .i64 (drP m c).2] true, Blk.cells [C.int .i64 (drP m c).1, C.int .i64 (drP m c).2] true, Blk.cells [C.int .i64 (dsX m c), C.int .i64 (dsY m c)] true, Blk.cells [C.int .i64 (dsX m c), C.int .i64 (dsY m c)] true, byB bs1 true, Blk.cells (mm.map (C.int .i64)) true, Blk.cells (cc.map (C.int .i64)) true, Blk.cells [C.int .i64 (dtP mm cc i kc).1, C.int .i64 (dtP mm cc i kc).2] true, Blk.cells [C.int .i64 (dtP mm cc i kc).1, C.int .i64 (dtP mm cc i kc).2] true, byB bs2 true, Blk.cells (ma.map (C.int .i64)) true, Blk.cells (ca.map (C.int .i64)) true, Blk.cells [C.int .i64 (daP ma ca a b).1, C.int .i64 (daP ma ca a b).2] true, Blk.cells [C.int .i64 (daP ma ca a b).1, C.int .i64 (daP ma ca a b).2] true]) = some (.c (.bool true), [byB bs false]) := by
    intro xs
    subst hC1
    clear hbig hD hcut1 hcut2 hD1 hD2 v1 v2 v3 v4 v5 v6 v7 v8 v9 v10
    cases hal : daB ma ca a b with
    | false =>
      simp [sub]
      exact fin3A _ _ _ _
    | true =>
      rw [hal] at v11
      obtain ⟨a1, a2⟩ := da_small hma hca hal
      have hl4 := c_laws_vLess 1 1 (daP ma ca a b).1 (daP ma ca a b).2 (by omega) (by omega)
      rw [decide_eq_false (by omega)] at hl4
      simp only [Int.natCast_one] at hl4
      have hl4 := callA_pure hl4 (by simp) (by simp)
      simp [v11, hl4, hma, hca, ma6, ca6, conf, conf1, setAt_all, setAt, sub]
      exact fin3A _ _ _ _
  have fin1B : ∀ (xs : Env), leaveK 1 [RV.t 2] (exI pr np 1 d1 ([(3, V.c (C.ptr 1 0)), (5, V.c (C.ptr 2 0)), (6, V.c (C.bool (dealB m c))), (9, V.c (C.ptr 3 0)), (13, V.c (C.int .i64 (if dealB m c = true then (ways (c.map Int.toNat) : Int) else 0))), (25, V.c (C.ptr 6 0)), (26, V.c (C.ptr 7 0)), (27, V.c (C.int .i64 a)), (28, V.c (C.int .i64 b)), (29, V.c (C.ptr 8 0)), (30, V.c (C.bool (daB ma ca a b)))] ++ xs) [byB bs false, Blk.cells (m.map (C.int .i64)) true, Blk.cells [C.int .i64 (drP m c).1, C.int .i64 (drP m c).2] true, Blk.cells [C.int .i64 (dsX m c), C.int .i64 (dsY m c)] true, Blk.cells (mm.map (C.int .i64)) true, Blk.cells (cc.map (C.int .i64)) true, Blk.cells (ma.map (C.int .i64)) true, Blk.cells (ca.map (C.int .i64)) true, Blk.cells [C.int .i64 (daP ma ca a b).1, C.int .i64 (daP ma ca a b).2] true, Blk.cells [C.int .i64 1, C.int .i64 1] true]) = some (.c (.bool true), [byB bs false]) := by
    intro xs
    subst hC1
    clear hbig hD hcut1 hcut2 hD1 hD2 v1 v2 v3 v4 v5 v6 v7 v8 v9 v10
    cases hal : daB ma ca a b with
    | false =>
      simp [sub]
      exact fin3B _  _
    | true =>
      rw [hal] at v11
      obtain ⟨a1, a2⟩ := da_small hma hca hal
      have hl4 := c_laws_vLess 1 1 (daP ma ca a b).1 (daP ma ca a b).2 (by omega) (by omega)
      rw [decide_eq_false (by omega)] at hl4
      simp only [Int.natCast_one] at hl4
      have hl4 := callA_pure hl4 (by simp) (by simp)
      simp [v11, hl4, hma, hca, ma6, ca6, conf, conf1, setAt_all, setAt, sub]
      exact fin3B _  _
  cases htop : dtB mm cc i kc with
  | false =>
    rw [htop] at v7 v8
    simp [hbig, hD, hD1, hD2, hcut1, hcut2, v1, v2, v3, v4, v5, v6, v7, v8, v9, v10, hm, hc, hmm, hcc, hma, hca, m6, c6, mm6, cc6, ma6, ca6, conf, conf1, setAt_all, setAt, sub]
    exact fin1A _
  | true =>
    have hqi : dealB mm cc = true ∧ placeB i = true := by
      unfold dtB at htop
      simp only [Bool.and_eq_true] at htop
      exact htop.1
    obtain ⟨em, ec, lm, lc, m4, c24, c0, sum⟩ := deal_ok hmm hcc hqi.1
    obtain ⟨hs1, hs2⟩ := deal_sum hmm hcc hqi.1
    obtain ⟨I, rfl, hI, hI2⟩ := place_nat hqi.2
    have hI' : (I : Int) < 6 := by omega
    have bI : I + 1 ≤ 6 := hI
    have gI := cN_get (xs := mm.map Int.toNat) (k := I) (by omega)
    rw [← em] at gI
    rw [htop] at v7 v8
    generalize hx : (mm.map Int.toNat).getD I 0 = x at gI
    by_cases hmi : x = 0
    · rw [hmi] at gI
      simp only [Int.natCast_zero] at gI
      simp [hbig, hD, hD1, hD2, hcut1, hcut2, v1, v2, v3, v4, v5, v6, v7, v8, v9, v10, hm, hc, hmm, hcc, hma, hca, m6, c6, mm6, cc6, ma6, ca6, conf, conf1, setAt_all, setAt, sub, hI, hI', bI, gI]
      exact fin1A _
    · have hmi1 : (0 : Int) < (x : Int) := by omega
      have hmi2 : 0 < x := by omega
      simp [hbig, hD, hD1, hD2, hcut1, hcut2, v1, v2, v3, v4, v5, v6, v7, v8, v9, v10, hm, hc, hmm, hcc, hma, hca, m6, c6, mm6, cc6, ma6, ca6, conf, conf1, setAt_all, setAt, sub, hI, hI', bI, gI, hmi1, hmi2]
      have hn : 0 < (cc.map Int.toNat).sum := by
        have := getD_le_sum (mm.map Int.toNat) I
        rw [hx] at this
        omega
      have step : ∀ k : Nat, k < 5 → fnI pr np 22 [.agg (mm.map (C.int .i64)), .agg (cc.map (C.int .i64)), .c (.int .i64 I), .c (.int .i64 ((k : Int) + 1))] [] = some (.tup [.agg [.int .i64 (cutF ((cc.map Int.toNat).getD (k + 1) 0) (cc.map Int.toNat).sum).1, .int .i64 (cutF ((cc.map Int.toNat).getD (k + 1) 0) (cc.map Int.toNat).sum).2], .c (.bool true)], []) := by
        intro k hk
        have h := c_impl_DealTop mm cc hmm hcc (I : Int) ((k : Int) + 1)
        have e1 : decide (1 ≤ (k : Int) + 1) = true := decide_eq_true (by omega)
        have e2 : decide ((k : Int) + 1 ≤ 5) = true := decide_eq_true (by omega)
        have hB : dtB mm cc (I : Int) ((k : Int) + 1) = true := by unfold dtB; rw [hqi.1, hqi.2, e1, e2]; rfl
        have hPP : dtP mm cc (I : Int) ((k : Int) + 1) = cutF ((cc.map Int.toNat).getD (k + 1) 0) (cc.map Int.toNat).sum := by
          unfold dtP
          rw [if_pos hB]
          unfold dtF
          rw [Int.toNat_natCast, if_neg (by rw [hx]; exact hmi), show ((k : Int) + 1).toNat = k + 1 by omega]
        unfold dtV at h
        rw [hB, hPP] at h
        exact h
      have hz : (waysTo (cc.map Int.toNat) 1).2 = 0 := by
        have : (waysTo (cc.map Int.toNat) 1).2 = 0 + (cc.map Int.toNat).getD 0 0 := rfl
        omega
      have h6 : (waysTo (cc.map Int.toNat) 6).2 = (cc.map Int.toNat).sum := by rw [waysTo_sum, List.take_of_length_le (by omega)]
      have hsb : ∀ k, (waysTo (cc.map Int.toNat) k).2 ≤ 24 := fun k => by rw [waysTo_sum]; have := sum_le_take (cc.map Int.toNat) k; omega
      have hplus : ∀ k : Nat, fnI pr np 27 [.agg [.int .i64 (cutF (waysTo (cc.map Int.toNat) (k + 1)).2 (cc.map Int.toNat).sum).1, .int .i64 (cutF (waysTo (cc.map Int.toNat) (k + 1)).2 (cc.map Int.toNat).sum).2], .agg [.int .i64 (cutF ((cc.map Int.toNat).getD (k + 1) 0) (cc.map Int.toNat).sum).1, .int .i64 (cutF ((cc.map Int.toNat).getD (k + 1) 0) (cc.map Int.toNat).sum).2]] [] = some (.agg [.int .i64 (cutF (waysTo (cc.map Int.toNat) (k + 1 + 1)).2 (cc.map Int.toNat).sum).1, .int .i64 (cutF (waysTo (cc.map Int.toNat) (k + 1 + 1)).2 (cc.map Int.toNat).sum).2], []) := by
        intro k
        have l1 := cutF_le (waysTo (cc.map Int.toNat) (k + 1)).2 (cc.map Int.toNat).sum
        have l2 := cutF_le ((cc.map Int.toNat).getD (k + 1) 0) (cc.map Int.toNat).sum
        have l3 := hsb (k + 1)
        have l4 := getD_le c24 (k + 1)
        have p1 := cutF_pos (a := (waysTo (cc.map Int.toNat) (k + 1)).2) hn
        have p2 := cutF_pos (a := (cc.map Int.toNat).getD (k + 1) 0) hn
        have h := c_laws_vPlus (cutF (waysTo (cc.map Int.toNat) (k + 1)).2 (cc.map Int.toNat).sum).1 (cutF (waysTo (cc.map Int.toNat) (k + 1)).2 (cc.map Int.toNat).sum).2 (cutF ((cc.map Int.toNat).getD (k + 1) 0) (cc.map Int.toNat).sum).1 (cutF ((cc.map Int.toNat).getD (k + 1) 0) (cc.map Int.toNat).sum).2 (by omega) (by omega) (by omega) (by omega) p1 p2
        rw [vSumF_eq hn rfl rfl] at h
        exact h
      rw [loop_to (fun (k : Nat) => ([(3, V.c (C.ptr 1 0)), (5, V.c (C.ptr 2 0)), (6, V.c (C.bool (dealB m c))), (9, V.c (C.ptr 3 0)), (13, V.c (C.int .i64 (if dealB m c = true then (ways (c.map Int.toNat) : Int) else 0))), (17, V.c (C.ptr 4 0)), (18, V.c (C.ptr 5 0)), (19, V.c (C.int .i64 I)), (25, V.c (C.ptr 6 0)), (26, V.c (C.ptr 7 0)), (27, V.c (C.int .i64 a)), (28, V.c (C.int .i64 b)), (29, V.c (C.ptr 8 0)), (30, V.c (C.bool (daB ma ca a b))), (33, V.c (C.ptr 9 0)), (34, V.c (C.int .i64 ((k + 1 : Nat) : Int)))], [byB bs false, Blk.cells (m.map (C.int .i64)) true, Blk.cells [C.int .i64 (drP m c).1, C.int .i64 (drP m c).2] true, Blk.cells [C.int .i64 (dsX m c), C.int .i64 (dsY m c)] true, Blk.cells (mm.map (C.int .i64)) true, Blk.cells (cc.map (C.int .i64)) true, Blk.cells (ma.map (C.int .i64)) true, Blk.cells (ca.map (C.int .i64)) true, Blk.cells [C.int .i64 (daP ma ca a b).1, C.int .i64 (daP ma ca a b).2] true, Blk.cells [C.int .i64 (cutF (waysTo (cc.map Int.toNat) (k + 1)).2 (cc.map Int.toNat).sum).1, C.int .i64 (cutF (waysTo (cc.map Int.toNat) (k + 1)).2 (cc.map Int.toNat).sum).2] true])) 5]
      · simp [h6, cutF_one hn, conf, conf1, sub]
        exact fin1B _
      · simp [hz, cutF_zero hn, sub]
      · intro k hk
        have hk1 : (k : Int) + 1 ≤ 5 := by omega
        have wk : IntKind.i64.wrap ((k : Int) + 1 + 1) = (k : Int) + 1 + 1 := wrapI (by omega) (by omega)
        have s1 := callA_pure (step k hk) (by simp) (by simp)
        have s2 := callA_pure (hplus k) (by simp) (by simp)
        clear hbig hD hcut1 hcut2 hD1 hD2 v1 v2 v3 v4 v5 v6 v7 v8 v9 v10 v11 fin3A fin3B fin1A fin1B step hplus hC1 hC2 hz h6 hsb hn
        generalize cutF (waysTo (cc.map Int.toNat) (k + 1 + 1)).2 (cc.map Int.toNat).sum = F' at *
        generalize cutF (waysTo (cc.map Int.toNat) (k + 1)).2 (cc.map Int.toNat).sum = F at *
        generalize cutF ((cc.map Int.toNat).getD (k + 1) 0) (cc.map Int.toNat).sum = Pp at *
        generalize drP m c = DR at *
        generalize daP ma ca a b = DA at *
        generalize dsX m c = SX at *
        generalize dsY m c = SY at *
        generalize daB ma ca a b = TB at *
        generalize (if dealB m c = true then (ways (c.map Int.toNat) : Int) else 0) = WW at *
        simp [hk1, wk, s1, s2, hmm, hcc, mm6, cc6, setAt_all, setAt, sub]
end Go.Proofs.Ytoaidbmkfdpagaa.AM
