import Derived.Test.YtoaidbmkfdpagaaDrawP
import Derived.Test.YtoaidbmkfdpagaaNear
import Derived.Test.YtoaidbmkfdpagaaCut
/- Contracts: a replay is drawn. -/
namespace Go.Proofs.Ytoaidbmkfdpagaa.AM
open Go
set_option maxRecDepth 1000000
set_option linter.unusedSimpArgs false
set_option linter.unusedVariables false
def RvS (bs : List Int) (o bk gd : Bool) (T : Nat) (R N : List Int) (l : List (Int × Int)) (k p' : Nat) (s' : Int) : Env × Heap := ([(0, V.c (C.ptr 0 0)), (2, V.c (C.ptr 2 0)), (3, V.c (C.bool bk)), (4, V.c (C.bool gd)), (5, V.c (C.ptr 3 0)), (6, V.c (C.ptr 4 0)), (7, V.c (C.int .i64 ((T : Int) - (k : Int))))], [curB 1 bs.length p' s', byB bs o, Blk.cells (z25 5) true, Blk.cells (R.map (C.int .i64) ++ [C.sl 6 0 l.length 2]) true, Blk.cells (N.map (C.int .i64)) true, Blk.cells [] true, Blk.cells (cZ l) true])
def RvI (bs : List Int) (o bk gd : Bool) (T q k : Nat) (st : Env × Heap) : Prop := ∃ (R N : List Int) (l : List (Int × Int)) (p' : Nat) (s' : Int), R.length = 24 ∧ N.length = 24 ∧ l.length ≤ k ∧ p' ≤ q + 10 * k ∧ st = RvS bs o bk gd T R N l k p' s'
/-- where the loop ends: what the code behind it needs -/
def RvE (bs : List Int) (o bk gd : Bool) (q : Nat) (r : Ex × Env × Heap) : Prop := ∃ (R : List Int) (l : List (Int × Int)) (p' : Nat) (s' : Int) (e : Env) (nw : Blk) (g : Heap), R.length = 24 ∧ l.length ≤ 60 ∧ p' ≤ q + 610 ∧ nw.ids = [] ∧ get e 0 = V.c (C.ptr 0 0) ∧ get e 2 = V.c (C.ptr 2 0) ∧ get e 5 = V.c (C.ptr 3 0) ∧ r = (.exit 0, e, curB 1 bs.length p' s' :: byB bs o :: Blk.cells (z25 5) true :: Blk.cells (R.map (C.int .i64) ++ [C.sl 6 0 l.length 2]) true :: nw :: Blk.cells [] true :: Blk.cells (cZ l) true :: g)
/-- one pour less to be drawn -/
def rvReg : ACode := .region [⟨some 34, none, .p (.mv (.t 7))⟩, ⟨some 35, none, .p (.bin .sub (.t 34) (.k (.c (C.int .i64 1))))⟩, ⟨some 7, none, .p (.mv (.t 35))⟩] [0, 2, 3, 4, 5, 6, 7]
set_option maxHeartbeats 16000000 in
theorem c_replay (bs : List Int) (hb : Bytes bs) (o : Bool) (p : Nat) (hp : p + 5000 < 1000000000) (s : Int) : ∃ (R : List Int) (l : List (Int × Int)) (p' : Nat) (s' : Int), R.length = 24 ∧ l.length ≤ 60 ∧ p' ≤ p + 1500 ∧ fnI pr np 195 [.c (.ptr 0 0)] [curB 1 bs.length p s, byB bs o] = some (repV R 2 l.length, [curB 1 bs.length p' s', byB bs o, .cells (cZ l) true]) := by
  obtain ⟨bk, p1, s1, hp1, hG1⟩ := c_one bs hb o p (by omega) s 2 (by decide) (by decide)
  obtain ⟨gd, p2, s2, hp2, hG2⟩ := c_one bs hb o p1 (by omega) s1 2 (by decide) (by decide)
  obtain ⟨v, h', hF, R, p3, s3, hR, hp3, rfl, rfl⟩ := c_near bs hb o p2 (by omega) s2
  obtain ⟨t, p4, s4, ht, hp4, hG4⟩ := c_among bs hb o p3 (by omega) s3 [4, 6, 2, 8, 1, 0, 14, 60] (by decide) (by decide)
  have ht := lit_range (lo := 0) (hi := 60) (by decide) ht
  obtain ⟨T, rfl⟩ : ∃ T : Nat, t = (T : Int) := ⟨t.toNat, by omega⟩
  have g1 := call_cur (rest := [.c (.int .i64 2)]) rfl hG1 0 1
  have g2 := call_cur (rest := [.c (.int .i64 2)]) rfl hG2 0 1
  have g3 := call_cur (rest := []) rfl hF 0 1
  have g4 := call_among (by simp) hG4 0 9 1
  simp at g4
  have h24 := take24 hR
  have t1 := fun i n => repC_take hR (C.sl i 0 n 2)
  rw [fb (fn := a195) rfl rfl]
  simp [a195, g1, g2, g3, g4, hR, h24, t1, z25_eq, z25_set hR, z25_setAll hR, repC_set hR, repC_all hR, setAt_all]
  generalize hX : exI pr np 2 (ACode.loop _ _) _ _ = X
  have hl := loop_exit hX (RvI bs o bk gd T p4) T (RvE bs o bk gd p4) ⟨RvS bs o bk gd T R R [] 0 p4 s4, by simp [RvS, sub, cZ_nil, cids_app, cmp_app], R, R, [], p4, s4, hR, hR, by simp, by omega, rfl⟩ ?_
  · obtain ⟨r, rfl, R, l, p5, s5, e, nw, g, hR, hl60, hp5, hnw, e0, e2, e5, rfl⟩ := hl
    clear hX
    have t1 := fun i n => repC_take hR (C.sl i 0 n 2)
    have t2 := fun i n => repC_drop hR (C.sl i 0 n 2)
    have t3 := fun i n => repC_all hR (C.sl i 0 n 2)
    have hnm : ∀ g, nw.mp g = nw := fun g => mp_ids hnw g
    by_cases h0 : 0 < l.length
    · have h0' : (0 : Int) < (l.length : Int) := by omega
      obtain ⟨q, p6, s6, hp6, hG6⟩ := c_one bs hb o p5 (by omega) s5 16 (by decide) (by decide)
      have g6 := call_cur (rest := [.c (.int .i64 16)]) rfl hG6 0 1
      cases q with
      | false =>
        refine ⟨R, hR, l, hl60, p6, by omega, s6, ?_⟩
        simp [e0, e2, e5, hR, t2, t3, h0, h0', g6, z25_setAll hR, repV, sub, cids_app, cmp_app]
      | true =>
        obtain ⟨z, p7, s7, hz, hp7, hG7⟩ := c_pick bs hb o p6 (by omega) s6 l.length (by omega) (by omega)
        have g7 := call_cur (rest := [.c (.int .i64 l.length)]) rfl hG7 0 1
        obtain ⟨x, p8, s8, hp8, hG8⟩ := c_place bs hb o p7 (by omega) s7
        have g8 := call_cur (rest := []) rfl hG8 0 1
        obtain ⟨y, p9, s9, hp9, hG9⟩ := c_place bs hb o p8 (by omega) s8
        have g9 := call_cur (rest := []) rfl hG9 0 1
        have hzl : z < l.length := by omega
        have hzl' : (z : Int) < (l.length : Int) := by omega
        have b1 : z * 2 + 2 ≤ l.length * 2 := by omega
        have hset := cZ_set2 l z (x, y)
        simp only at hset
        have f1 := farE_one (ks := [4, 1000115]) (t := 115) (by decide) (by decide)
        have f2 := farE_one (ks := [4, 6, 1000115]) (t := 115) (by decide) (by decide)
        have f3 := farE_one (ks := [4, 6, 8, 1000115]) (t := 115) (by decide) (by decide)
        refine ⟨R, hR, l.set z (x, y), by simpa using hl60, p9, by omega, s9, ?_⟩
        simp [-farE, f1, f2, f3, e0, e2, e5, hR, t2, t3, h0, h0', g6, g7, g8, g9, hzl, hzl', b1, hset, z25_setAll hR, repV, setAt, stillE, madeA, idOf, sub, cids_app, cmp_app]
    · have h0' : ¬ (0 : Int) < (l.length : Int) := by omega
      refine ⟨R, hR, l, hl60, p5, by omega, s5, ?_⟩
      simp [e0, e2, e5, hR, t2, t3, h0, h0', z25_setAll hR, repV, sub, cids_app, cmp_app]
  · intro k hk st hst
    obtain ⟨R, N, l, p5, s5, hR, hN, hl, hp5, rfl⟩ := hst
    have t1 := fun i n => repC_take hR (C.sl i 0 n 2)
    have t2 := fun i n => repC_drop hR (C.sl i 0 n 2)
    have t3 := fun i n => repC_all hR (C.sl i 0 n 2)
    have t4 := fun i n d => repC_set hR (C.sl i 0 n 2) d
    have hN24 := take24 hN
    unfold RvS
    by_cases hkT : k < T
    · have hgt : (0 : Int) < (T : Int) - (k : Int) := by omega
      have hkT' : (k : Int) < (T : Int) := by omega
      have wk : IntKind.i64.wrap ((T : Int) - (k : Int) - 1) = (T : Int) - ((k : Int) + 1) := (wrapI (by omega) (by omega)).trans (by omega)
      have hr := callA_pure (c_rack_spec N hN) (by simp) (by simp)
      cases hq : okRack N with
      | false =>
        right
        rw [hq] at hr
        simp [hkT', hN, hN24, hr]
        exact ⟨R, l, p5, s5, _, _, _, hR, by omega, by omega, by simp, rfl, rfl, rfl, rfl⟩
      | true =>
        rw [hq] at hr
        have h := rackOK hN hq
        have hu := callA_new (c_spec_l2Pours N h) (by simp)
        have hpl := poursL_len36 N
        by_cases h0 : (poursL N).length = 0
        · right
          have h0' : (((poursL N).length : Int) == 0) = true := by simp [h0]
          simp [hkT', hN, hN24, hr, hu, h0]
          exact ⟨R, l, p5, s5, _, _, _, hR, by omega, by omega, by simp, rfl, rfl, rfl, rfl⟩
        · left
          refine ⟨hkT, ?_⟩
          have h0' : (((poursL N).length : Int) == 0) = false := beq_eq_false_iff_ne.2 (by omega)
          obtain ⟨z, p6, s6, hz, hp6, hG6⟩ := c_pick bs hb o p5 (by omega) s5 (poursL N).length (by omega) (by omega)
          have g6 := call_cur (rest := [.c (.int .i64 (poursL N).length)]) rfl hG6 0 1
          have hzl : z < (poursL N).length := by omega
          have hzl' : (z : Int) < ((poursL N).length : Int) := by omega
          have g7 := flatC_take2 (poursL N) hzl
          have b1 : z * 2 + 2 ≤ (poursL N).length * 2 := by omega
          generalize hC : (ACode.seq (ACode.seq (ACode.region (AOper.mk (some 86) none _ :: _) _) _) _) = cC
          -- from the test of the pour on
          have stage3 : ∀ (xs : Env) (a b : Int) (p' : Nat) (s' : Int), p' ≤ p5 + 8 → ∃ st', turnK 2 [0, 2, 3, 4, 5, 6, 7] (seqK pr np 2 rvReg (blockK 1 (exI pr np 2 cC ([(0, V.c (C.ptr 0 0)), (2, V.c (C.ptr 2 0)), (3, V.c (C.bool bk)), (4, V.c (C.bool gd)), (5, V.c (C.ptr 3 0)), (6, V.c (C.ptr 4 0)), (7, V.c (C.int .i64 ((T : Int) - (k : Int)))), (9, V.c (C.ptr 8 0))] ++ xs) [curB 1 bs.length p' s', byB bs o, Blk.cells (z25 5) true, Blk.cells (R.map (C.int .i64) ++ [C.sl 6 0 l.length 2]) true, Blk.cells (N.map (C.int .i64)) true, Blk.cells [] true, Blk.cells (cZ l) true, Blk.cells (flatC (poursL N)) true, Blk.cells [C.int .i64 a, C.int .i64 b] true, Blk.cells (flatC (goodL N)) true]))) = some st' ∧ RvI bs o bk gd T p4 (k + 1) st' := by
            as_aux_lemma =>
              intro xs a b p' s' hp'
              have hcan := callA_pure (c_spec_l6Can N h (a, b)) (by simp) (by simp)
              subst hC
              cases hcq : canZ N (a, b) with
              | false =>
                rw [hcq] at hcan
                simp [rvReg, hN, hN24, hcan, wk, hR, t1, t2, t3, sub, cids_app, cmp_app]
                first | exact ⟨R, N, l, p', s', hR, hN, by omega, by omega, rfl⟩ | exact ⟨_, _, ⟨rfl, rfl⟩, R, N, l, p', s', hR, hN, by omega, by omega, rfl⟩ | exact ⟨_, _, rfl, R, N, l, p', s', hR, hN, by omega, by omega, rfl⟩
              | true =>
                rw [hcq] at hcan
                obtain ⟨i, j, ei, ej, hi, hj, hcan2, ti, tj⟩ := canZ_facts hcq
                simp only at ei ej
                subst ei; subst ej
                have hpo := callA_pure (c_spec_l2Pour N h hi hj) (by simp) (by simp)
                have hnx := h.pour hi hj (canP_ne hcan2)
                have hn24 := take24 hnx.len
                have hnl := hnx.len
                have hroom : l.length + 1 ≤ 68719476736 := by omega
                have hcz : cZ l ++ [C.int .i64 (i : Int), C.int .i64 (j : Int)] = cZ (l ++ [((i : Int), (j : Int))]) := by rw [cZ_app]; rfl
                have htk := cZ_take l
                have hln : (l ++ [((i : Int), (j : Int))]).length = l.length + 1 := by simp
                generalize pourR N i j = N' at *
                simp [rvReg, hN, hN24, hcan, hpo, hnl, hn24, hroom, hcz, htk, wk, hR, t1, t2, t3, t4, setAt_all, setAt, sub, cids_app, cmp_app]
                rw [← hln]
                first | exact ⟨R, N', _, p', s', hR, hnl, by omega, by omega, rfl⟩ | exact ⟨_, _, ⟨rfl, rfl⟩, R, N', _, p', s', hR, hnl, by omega, by omega, rfl⟩ | exact ⟨_, _, rfl, R, N', _, p', s', hR, hnl, by omega, by omega, rfl⟩
          generalize hB : (ACode.seq (ACode.seq (ACode.region (AOper.mk (some 75) none _ :: _) _) _) cC) = cB
          have hgd := callA_new (c_spec_l6Good N h) (by simp)
          have hgl := goodL_len N
          -- from the good pours on
          have stage2 : ∀ (xs : Env) (a b : Int) (p' : Nat) (s' : Int), p' ≤ p5 + 8 → ∃ st', turnK 2 [0, 2, 3, 4, 5, 6, 7] (seqK pr np 2 rvReg (blockK 1 (exI pr np 2 cB ([(0, V.c (C.ptr 0 0)), (2, V.c (C.ptr 2 0)), (3, V.c (C.bool bk)), (4, V.c (C.bool gd)), (5, V.c (C.ptr 3 0)), (6, V.c (C.ptr 4 0)), (7, V.c (C.int .i64 ((T : Int) - (k : Int)))), (9, V.c (C.ptr 8 0))] ++ xs) [curB 1 bs.length p' s', byB bs o, Blk.cells (z25 5) true, Blk.cells (R.map (C.int .i64) ++ [C.sl 6 0 l.length 2]) true, Blk.cells (N.map (C.int .i64)) true, Blk.cells [] true, Blk.cells (cZ l) true, Blk.cells (flatC (poursL N)) true, Blk.cells [C.int .i64 a, C.int .i64 b] true]))) = some st' ∧ RvI bs o bk gd T p4 (k + 1) st' := by
            as_aux_lemma =>
              intro xs a b p' s' hp'
              subst hB
              cases gd with
              | false =>
                obtain ⟨st', e1, e2⟩ := stage3 [(11, V.c (C.sl 9 0 (goodL N).length 2)), (82, V.c (C.bool false))] a b p' s' hp'
                refine ⟨st', ?_, e2⟩
                rw [← e1]
                simp [hN, hN24, hgd, sub, cids_app, cmp_app]
              | true =>
                by_cases hm : 0 < (goodL N).length
                · have hm' : (0 : Int) < ((goodL N).length : Int) := by omega
                  have g8 : (flatC (goodL N)).take 2 = [C.int .i64 ((goodL N)[0]'hm).1, C.int .i64 ((goodL N)[0]'hm).2] := by simpa using flatC_take2 (goodL N) hm
                  have b2 : 2 ≤ (goodL N).length * 2 := by omega
                  obtain ⟨st', e1, e2⟩ := stage3 [] ((goodL N)[0]'hm).1 ((goodL N)[0]'hm).2 p' s' hp'
                  refine ⟨st', ?_, e2⟩
                  rw [← e1]
                  simp [hN, hN24, hgd, hm, hm', g8, b2, flatC_len, setAt, sub, cids_app, cmp_app]
                · have hm' : ¬ (0 : Int) < ((goodL N).length : Int) := by omega
                  obtain ⟨st', e1, e2⟩ := stage3 [(11, V.c (C.sl 9 0 (goodL N).length 2)), (82, V.c (C.bool false))] a b p' s' hp'
                  refine ⟨st', ?_, e2⟩
                  rw [← e1]
                  simp [hN, hN24, hgd, hm, hm', sub, cids_app, cmp_app]
          by_cases hl0 : 0 < l.length
          · have hl0' : (0 : Int) < (l.length : Int) := by omega
            cases bk with
            | false =>
              obtain ⟨st', e1, e2⟩ := stage2 [(10, V.c (C.int .i64 l.length)), (59, V.c (C.bool false))] ((poursL N)[z]'hzl).1 ((poursL N)[z]'hzl).2 p6 s6 (by omega)
              refine ⟨st', ?_, e2⟩
              rw [← e1]
              simp [rvReg, hkT', hN, hN24, hr, hu, h0, h0', g6, hzl, hzl', g7, b1, hl0, hl0', hR, t2, flatC_len, setAt, sub, cids_app, cmp_app]
            | true =>
              obtain ⟨q, p7, s7, hp7, hG7⟩ := c_one bs hb o p6 (by omega) s6 2 (by decide) (by decide)
              have g9 := call_cur (rest := [.c (.int .i64 2)]) rfl hG7 0 1
              cases q with
              | false =>
                obtain ⟨st', e1, e2⟩ := stage2 [(10, V.c (C.int .i64 l.length)), (59, V.c (C.bool false))] ((poursL N)[z]'hzl).1 ((poursL N)[z]'hzl).2 p7 s7 (by omega)
                refine ⟨st', ?_, e2⟩
                rw [← e1]
                simp [rvReg, hkT', hN, hN24, hr, hu, h0, h0', g6, hzl, hzl', g7, b1, hl0, hl0', g9, hR, t2, flatC_len, setAt, sub, cids_app, cmp_app]
              | true =>
                obtain ⟨w, hw⟩ : ∃ w, l.length = w + 1 := ⟨l.length - 1, by omega⟩
                have hwl : w < l.length := by omega
                have hwl' : (w : Int) < (l.length : Int) := by omega
                have ww : IntKind.i64.wrap ((l.length : Int) - 1) = (w : Int) := (wrapI (by omega) (by omega)).trans (by omega)
                obtain ⟨ga, gb⟩ := cZ_get1 l hwl
                have b3 : w * 2 + 2 ≤ l.length * 2 := by omega
                have b4 : w * 2 + 1 ≤ l.length * 2 := by omega
                have b5 : w * 2 + 1 + 1 ≤ l.length * 2 := by omega
                obtain ⟨st', e1, e2⟩ := stage2 [] (l[w]'hwl).2 (l[w]'hwl).1 p7 s7 (by omega)
                refine ⟨st', ?_, e2⟩
                rw [← e1]
                simp [rvReg, hkT', hN, hN24, hr, hu, h0, h0', g6, hzl, hzl', g7, b1, hl0, hl0', g9, hR, t2, ww, hwl, hwl', ga, gb, b3, b4, b5, flatC_len, setAt, sub, cids_app, cmp_app]
          · have hl0' : ¬ (0 : Int) < (l.length : Int) := by omega
            obtain ⟨st', e1, e2⟩ := stage2 [(10, V.c (C.int .i64 l.length)), (59, V.c (C.bool false))] ((poursL N)[z]'hzl).1 ((poursL N)[z]'hzl).2 p6 s6 (by omega)
            refine ⟨st', ?_, e2⟩
            rw [← e1]
            simp [rvReg, hkT', hN, hN24, hr, hu, h0, h0', g6, hzl, hzl', g7, b1, hl0, hl0', hR, t2, flatC_len, setAt, sub, cids_app, cmp_app]
    · right
      have hgt : ¬ (0 : Int) < (T : Int) - (k : Int) := by omega
      have hkT' : ¬ (k : Int) < (T : Int) := by omega
      simp [hkT']
      exact ⟨R, l, p5, s5, _, _, _, hR, by omega, by omega, by simp, rfl, rfl, rfl, rfl⟩
end Go.Proofs.Ytoaidbmkfdpagaa.AM
