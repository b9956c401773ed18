import Derived.Test.YtoaidbmkfdpagaaCurN
/- Contracts: a path is drawn; a party is drawn. -/
namespace Go.Proofs.Ytoaidbmkfdpagaa.AM
open Go
set_option maxRecDepth 1000000
set_option linter.unusedSimpArgs false
set_option linter.unusedVariables false
def PaI (bs : List Int) (o : Bool) (T q k : Nat) (st : Env × Heap) : Prop := ∃ (R : List Int) (l : List (Int × Int)) (p' : Nat) (s' : Int), RackOK R ∧ l.length ≤ k ∧ p' ≤ q + 14 * k ∧ st = ([(0, V.c (C.ptr 0 0)), (3, V.c (C.ptr 2 0)), (5, V.c (C.sl 3 0 l.length 2)), (6, V.c (C.int .i64 ((T : Int) - (k : Int))))], [curB 1 bs.length p' s', byB bs o, Blk.cells (R.map (C.int .i64)) true, Blk.cells (cZ l) true])
def PaE (bs : List Int) (o : Bool) (q : Nat) (r : Ex × Env × Heap) : Prop := ∃ (R : List Int) (l : List (Int × Int)) (p' : Nat) (s' : Int) (e : Env), R.length = 24 ∧ l.length ≤ 61 ∧ p' ≤ q + 900 ∧ get e 5 = V.c (C.sl 3 0 l.length 2) ∧ r = (.exit 0, e, [curB 1 bs.length p' s', byB bs o, Blk.cells (R.map (C.int .i64)) true, Blk.cells (cZ l) true])
def paReg : ACode := .region [⟨some 17, none, .p (.mv (.t 6))⟩, ⟨some 18, none, .p (.bin .sub (.t 17) (.k (.c (C.int .i64 1))))⟩, ⟨some 6, none, .p (.mv (.t 18))⟩] [0, 3, 5, 6]
set_option maxHeartbeats 16000000 in
theorem c_path (bs : List Int) (hb : Bytes bs) (o : Bool) (p : Nat) (hp : p + 5000 < 1000000000) (s : Int) (r : List Int) (h : RackOK r) : ∃ (l : List (Int × Int)) (p' : Nat) (s' : Int), l.length ≤ 61 ∧ p' ≤ p + 1000 ∧ fnI pr np 145 [.c (.ptr 0 0), .agg (r.map (C.int .i64))] [curB 1 bs.length p s, byB bs o] = some (.c (.sl 2 0 l.length 2), [curB 1 bs.length p' s', byB bs o, .cells (cZ l) true]) := by
  obtain ⟨t, p4, s4, ht, hp4, hG4⟩ := c_among bs hb o p (by omega) s [3, 5, 2, 1, 0, 8, 61] (by decide) (by decide)
  have ht := lit_range (lo := 0) (hi := 61) (by decide) ht
  obtain ⟨T, rfl⟩ : ∃ T : Nat, t = (T : Int) := ⟨t.toNat, by omega⟩
  have g4 := call_among (by simp) hG4 0 5 1
  simp at g4
  have hr := h.len
  have h24 := take24 hr
  rw [fb (fn := a145) rfl rfl]
  simp [a145, g4, hr, h24, setAt_all]
  generalize hX : exI pr np 2 (ACode.loop _ _) _ _ = X
  have hl := loop_exit hX (PaI bs o T p4) T (PaE bs o p4) ⟨([(0, V.c (C.ptr 0 0)), (3, V.c (C.ptr 2 0)), (5, V.c (C.sl 3 0 0 2)), (6, V.c (C.int .i64 (T : Int)))], [curB 1 bs.length p4 s4, byB bs o, Blk.cells (r.map (C.int .i64)) true, Blk.cells [] true]), by simp [sub], r, [], p4, s4, h, by simp, by omega, by simp [cZ_nil]⟩ ?_
  · obtain ⟨r', rfl, R, l, p5, s5, e, hR, hl61, hp5, e5, rfl⟩ := hl
    clear hX
    refine ⟨l, hl61, p5, by omega, s5, ?_⟩
    simp [e5, sub]
  · intro k hk st hst
    obtain ⟨R, l, p5, s5, h, hl, hp5, rfl⟩ := hst
    have hR := h.len
    have h24 := take24 hR
    by_cases hkT : k < T
    · left
      refine ⟨hkT, ?_⟩
      have hkT' : (k : Int) < (T : Int) := by omega
      have wk : IntKind.i64.wrap ((T : Int) - (k : Int) - 1) = (T : Int) - ((k : Int) + 1) := (wrapI (by omega) (by omega)).trans (by omega)
      have hq : okRack R = true := (rack_eq R hR).symm.trans h.val
      have hra := callA_pure (c_rack_spec R hR) (by simp) (by simp)
      rw [hq] at hra
      obtain ⟨x, y, p6, s6, hp6, hG6⟩ := c_drawPour bs hb o p5 (by omega) s5 R hR
      have g6 := call_cur (rest := [.agg (R.map (C.int .i64))]) (by simp) hG6 0 1
      have hgd := callA_new (c_spec_l6Good R h) (by simp)
      have hgl := goodL_len R
      generalize hC : (ACode.seq (ACode.region (AOper.mk (some 35) none _ :: _) _) _) = cC
      have stage : ∀ (xs : Env) (a b : Int) (p' : Nat) (s' : Int), p' ≤ p5 + 14 → ∃ st', turnK 2 [0, 3, 5, 6] (seqK pr np 2 paReg (blockK 1 (exI pr np 2 cC ([(0, V.c (C.ptr 0 0)), (3, V.c (C.ptr 2 0)), (5, V.c (C.sl 3 0 l.length 2)), (6, V.c (C.int .i64 ((T : Int) - (k : Int)))), (7, V.c (C.ptr 4 0))] ++ xs) [curB 1 bs.length p' s', byB bs o, Blk.cells (R.map (C.int .i64)) true, Blk.cells (cZ l) true, Blk.cells [C.int .i64 a, C.int .i64 b] true, Blk.cells (flatC (goodL R)) true]))) = some st' ∧ PaI bs o T p4 (k + 1) st' := by
        as_aux_lemma =>
          intro xs a b p' s' hp'
          have hcan := callA_pure (c_spec_l6Can R h (a, b)) (by simp) (by simp)
          have hroom : l.length + 1 ≤ 68719476736 := by omega
          have hcz : cZ l ++ [C.int .i64 a, C.int .i64 b] = cZ (l ++ [(a, b)]) := by rw [cZ_app]; rfl
          have htk := cZ_take l
          have hln : (l ++ [(a, b)]).length = l.length + 1 := by simp
          subst hC
          cases hcq : canZ R (a, b) with
          | false =>
            rw [hcq] at hcan
            simp [paReg, hR, h24, hra, hcan, wk, hroom, hcz, htk, setAt, sub]
            rw [← hln]
            first | exact ⟨R, _, p', s', h, by omega, by omega, rfl⟩ | exact ⟨_, _, ⟨rfl, rfl⟩, R, _, p', s', h, by omega, by omega, rfl⟩ | exact ⟨_, _, rfl, R, _, p', s', h, by omega, by omega, rfl⟩
          | true =>
            rw [hcq] at hcan
            obtain ⟨i, j, ei, ej, hi, hj, hcan2, ti, tj⟩ := canZ_facts hcq
            simp only at ei ej
            subst ei; subst ej
            have hpo := callA_pure (c_spec_l2Pour R h hi hj) (by simp) (by simp)
            have hnx := h.pour hi hj (canP_ne hcan2)
            have hn24 := take24 hnx.len
            have hnl := hnx.len
            generalize pourR R i j = N' at *
            simp [paReg, hR, h24, hra, hcan, hpo, hnl, hn24, wk, hroom, hcz, htk, setAt_all, setAt, sub]
            rw [← hln]
            first | exact ⟨N', _, p', s', hnx, by omega, by omega, rfl⟩ | exact ⟨_, _, ⟨rfl, rfl⟩, N', _, p', s', hnx, by omega, by omega, rfl⟩ | exact ⟨_, _, rfl, N', _, p', s', hnx, by omega, by omega, rfl⟩
      by_cases hm : 0 < (goodL R).length
      · have hm' : (0 : Int) < ((goodL R).length : Int) := by omega
        obtain ⟨q, p7, s7, hp7, hG7⟩ := c_one bs hb o p6 (by omega) s6 4 (by decide) (by decide)
        have g7 := call_cur (rest := [.c (.int .i64 4)]) rfl hG7 0 1
        have g8 : (flatC (goodL R)).take 2 = [C.int .i64 ((goodL R)[0]'hm).1, C.int .i64 ((goodL R)[0]'hm).2] := by simpa using flatC_take2 (goodL R) hm
        have b2 : 2 ≤ (goodL R).length * 2 := by omega
        cases q with
        | true =>
          obtain ⟨st', e1, e2⟩ := stage [(8, V.c (C.sl 5 0 (goodL R).length 2)), (31, V.c (C.bool false))] x y p7 s7 (by omega)
          refine ⟨st', ?_, e2⟩
          rw [← e1]
          simp [paReg, hkT', hR, h24, g6, hgd, hm, hm', g7, setAt, sub]
        | false =>
          obtain ⟨st', e1, e2⟩ := stage [] ((goodL R)[0]'hm).1 ((goodL R)[0]'hm).2 p7 s7 (by omega)
          refine ⟨st', ?_, e2⟩
          rw [← e1]
          simp [paReg, hkT', hR, h24, g6, hgd, hm, hm', g7, g8, b2, flatC_len, setAt, sub]
      · have hm' : ¬ (0 : Int) < ((goodL R).length : Int) := by omega
        obtain ⟨st', e1, e2⟩ := stage [(8, V.c (C.sl 5 0 (goodL R).length 2)), (31, V.c (C.bool false))] x y p6 s6 (by omega)
        refine ⟨st', ?_, e2⟩
        rw [← e1]
        simp [paReg, hkT', hR, h24, g6, hgd, hm, hm', setAt, sub]
    · right
      have hkT' : ¬ (k : Int) < (T : Int) := by omega
      simp [hkT']
      exact ⟨R, l, p5, s5, _, hR, by omega, by omega, rfl, rfl⟩
theorem c_spec_DrawTubeValue (bs : List Int) (hb : Bytes bs) (o : Bool) : ∃ (R : List Int) (n : Int), R.length = 24 ∧ (-1 ≤ n ∧ n ≤ 4) ∧ fnI pr np 45 [.c (.sl 0 0 bs.length 1)] [byB bs o] = some (.tup [.agg (R.map (C.int .i64)), .c (.int .i64 n)], [byB bs o]) := by
  obtain ⟨R, n, hR, hn, hF⟩ := c_spec_DrawEndValue bs hb o
  have g := call_slz (rest := []) rfl (by simp) hF 0
  have r24 := take24 hR
  refine ⟨R, n, hR, hn, ?_⟩
  rw [fb (fn := a45) rfl rfl]
  simp [a45, g, hR, r24, setAt_all, sub]
set_option maxHeartbeats 2000000 in
theorem c_spec_DrawPlayParty (bs : List Int) (hb : Bytes bs) (o : Bool) : ∃ (R : List Int) (l : List (Int × Int)), R.length = 24 ∧ l.length ≤ 61 ∧ fnI pr np 54 [.c (.sl 0 0 bs.length 1)] [byB bs o] = some (.tup [.agg (R.map (C.int .i64)), .c (.sl 1 0 l.length 2)], [byB bs o, .cells (cZ l) true]) := by
  obtain ⟨v, h', hF, R, p1, s1, hR, hp1, rfl, rfl⟩ := c_near bs hb o 0 (by omega) 0
  have g1 := call_cur (rest := []) rfl hF 4 0
  have hra := callA_pure (c_rack_spec R hR) (by simp) (by simp)
  have r24 := take24 hR
  have hc : Blk.cells [C.sl 0 0 bs.length 1, C.int .i64 0, C.int .u64 0] true = curB 0 bs.length 0 0 := rfl
  rw [fb (fn := a54) rfl rfl]
  cases hq : okRack R with
  | false =>
    rw [hq] at hra
    refine ⟨R, [(0, 1)], hR, by simp, ?_⟩
    have e : cZ [((0 : Int), (1 : Int))] = [C.int .i64 0, C.int .i64 1] := rfl
    simp [a54, g1, hc, hR, r24, hra, e, setAt_all, setAt, sub]
  | true =>
    rw [hq] at hra
    obtain ⟨l, p2, s2, hl, hp2, hG⟩ := c_path bs hb o p1 (by omega) s1 R (rackOK hR hq)
    have g2 := callT_curN (rest := [.agg (R.map (C.int .i64))]) (by simp) hG 4 0
    have f1 := farE_one (ks := [3, 1000005]) (t := 5) (by decide) (by decide)
    refine ⟨R, l, hR, hl, ?_⟩
    simp [-farE, f1, a54, g1, g2, hc, hR, r24, hra, setAt_all, setAt, stillE, madeA, idOf, back, sub]
end Go.Proofs.Ytoaidbmkfdpagaa.AM
