import Derived.Test.YthpookdfaikabaaGreatDoorDrwA
import Derived.Test.YthpookdfaikabaaGreatDoorRepC
import Derived.Test.YthpookdfaikabaaGreatDoorRepD
/- Contracts: a replay is drawn. -/
namespace Go.Proofs.YthpookdfaikabaaGreatDoor.AM
open Go
set_option maxRecDepth 1000000
set_option linter.unusedSimpArgs false
set_option linter.unusedVariables false
def RvS (bs : List Int) (o bk gd : Bool) (T : Nat) (R N : List Int) (l : List (Int × Int)) (k p' : Nat) (s' : Int) : Env × Heap := ([(0, V.c (C.ptr 0 0)), (2, V.c (C.ptr 2 0)), (3, V.c (C.bool bk)), (4, V.c (C.bool gd)), (5, V.c (C.ptr 3 0)), (6, V.c (C.ptr 4 0)), (7, V.c (C.int .i64 ((T : Int) - (k : Int))))], [curB 1 bs.length p' s', byB bs o, Blk.cells (z25 5) true, Blk.cells (R.map (C.int .i64) ++ [C.sl 6 0 l.length 2]) true, Blk.cells (N.map (C.int .i64)) true, Blk.cells [] true, Blk.cells (cZ l) true])
def RvI (bs : List Int) (o bk gd : Bool) (T q k : Nat) (st : Env × Heap) : Prop := ∃ (R N : List Int) (l : List (Int × Int)) (p' : Nat) (s' : Int), R.length = 24 ∧ N.length = 24 ∧ l.length ≤ k ∧ p' ≤ q + 10 * k ∧ st = RvS bs o bk gd T R N l k p' s'
/-- where the loop ends: what the code behind it needs -/
def RvE (bs : List Int) (o bk gd : Bool) (q : Nat) (r : Ex × Env × Heap) : Prop := ∃ (R : List Int) (l : List (Int × Int)) (p' : Nat) (s' : Int) (e : Env) (nw : Blk) (g : Heap), R.length = 24 ∧ l.length ≤ 60 ∧ p' ≤ q + 610 ∧ nw.ids = [] ∧ get e 0 = V.c (C.ptr 0 0) ∧ get e 2 = V.c (C.ptr 2 0) ∧ get e 5 = V.c (C.ptr 3 0) ∧ r = (.exit 0, e, curB 1 bs.length p' s' :: byB bs o :: Blk.cells (z25 5) true :: Blk.cells (R.map (C.int .i64) ++ [C.sl 6 0 l.length 2]) true :: nw :: Blk.cells [] true :: Blk.cells (cZ l) true :: g)
/-- one pour less to be drawn -/
def rvReg : ACode := .region [⟨some 34, none, .p (.mv (.t 7))⟩, ⟨some 35, none, .p (.bin .sub (.t 34) (.k (.c (C.int .i64 1))))⟩, ⟨some 7, none, .p (.mv (.t 35))⟩] [0, 2, 3, 4, 5, 6, 7]
set_option maxHeartbeats 16000000 in
theorem c_replay (bs : List Int) (hb : Bytes bs) (o : Bool) (p : Nat) (hp : p + 5000 < 1000000000) (s : Int) : ∃ (R : List Int) (l : List (Int × Int)) (p' : Nat) (s' : Int), R.length = 24 ∧ l.length ≤ 60 ∧ p' ≤ p + 1500 ∧ fnI pr np 29 [.c (.ptr 0 0)] [curB 1 bs.length p s, byB bs o] = some (repV R 2 l.length, [curB 1 bs.length p' s', byB bs o, .cells (cZ l) true]) := by
  obtain ⟨bk, p1, s1, hp1, hG1⟩ := c_one bs hb o p (by omega) s 2 (by decide) (by decide)
  obtain ⟨gd, p2, s2, hp2, hG2⟩ := c_one bs hb o p1 (by omega) s1 2 (by decide) (by decide)
  obtain ⟨v, h', hF, R, p3, s3, hR, hp3, rfl, rfl⟩ := c_near bs hb o p2 (by omega) s2
  obtain ⟨t, p4, s4, ht, hp4, hG4⟩ := c_among bs hb o p3 (by omega) s3 [4, 6, 2, 8, 1, 0, 14, 60] (by decide) (by decide)
  have ht := lit_range (lo := 0) (hi := 60) (by decide) ht
  obtain ⟨T, rfl⟩ : ∃ T : Nat, t = (T : Int) := ⟨t.toNat, by omega⟩
  have g1 := call_cur (rest := [.c (.int .i64 2)]) rfl hG1 0 1
  have g2 := call_cur (rest := [.c (.int .i64 2)]) rfl hG2 0 1
  have g3 := call_cur (rest := []) rfl hF 0 1
  have g4 := call_among (by simp) hG4 0 9 1
  simp at g4
  have h24 := take24 hR
  have t1 := fun i n => repC_take hR (C.sl i 0 n 2)
  rw [fb (fn := a29) rfl rfl rfl]
  simp [a29, g1, g2, g3, g4, hR, h24, t1, z25_eq, z25_set hR, z25_setAll hR, repC_set hR, repC_all hR, setAt_all]
  generalize hX : exI pr np 2 (ACode.loop _ _) _ _ = X
  have hl := loop_exit hX (RvI bs o bk gd T p4) T (RvE bs o bk gd p4) ⟨RvS bs o bk gd T R R [] 0 p4 s4, by simp [RvS, sub, cZ_nil, cids_app, cmp_app], R, R, [], p4, s4, hR, hR, by simp, by omega, rfl⟩ ?_
  · obtain ⟨r, rfl, R, l, p5, s5, e, nw, g, hR, hl60, hp5, hnw, e0, e2, e5, rfl⟩ := hl
    clear hX
    have t1 := fun i n => repC_take hR (C.sl i 0 n 2)
    have t2 := fun i n => repC_drop hR (C.sl i 0 n 2)
    have t3 := fun i n => repC_all hR (C.sl i 0 n 2)
    have hnm : ∀ g, nw.mp g = nw := fun g => mp_ids hnw g
    by_cases h0 : 0 < l.length
    · have h0' : (0 : Int) < (l.length : Int) := by omega
      obtain ⟨q, p6, s6, hp6, hG6⟩ := c_one bs hb o p5 (by omega) s5 16 (by decide) (by decide)
      have g6 := call_cur (rest := [.c (.int .i64 16)]) rfl hG6 0 1
      cases q with
      | false =>
        refine ⟨R, hR, l, hl60, p6, by omega, s6, ?_⟩
        simp [e0, e2, e5, hR, t2, t3, h0, h0', g6, z25_setAll hR, repV, sub, cids_app, cmp_app]
      | true =>
        obtain ⟨z, p7, s7, hz, hp7, hG7⟩ := c_pick bs hb o p6 (by omega) s6 l.length (by omega) (by omega)
        have g7 := call_cur (rest := [.c (.int .i64 l.length)]) rfl hG7 0 1
        obtain ⟨x, p8, s8, hp8, hG8⟩ := c_place bs hb o p7 (by omega) s7
        have g8 := call_cur (rest := []) rfl hG8 0 1
        obtain ⟨y, p9, s9, hp9, hG9⟩ := c_place bs hb o p8 (by omega) s8
        have g9 := call_cur (rest := []) rfl hG9 0 1
        have hzl : z < l.length := by omega
        have hzl' : (z : Int) < (l.length : Int) := by omega
        have b1 : z * 2 + 2 ≤ l.length * 2 := by omega
        have hset := cZ_set2 l z (x, y)
        simp only at hset
        have f1 := farE_one (ks := [4, 1000115]) (t := 115) (by decide) (by decide)
        have f2 := farE_one (ks := [4, 6, 1000115]) (t := 115) (by decide) (by decide)
        have f3 := farE_one (ks := [4, 6, 8, 1000115]) (t := 115) (by decide) (by decide)
        refine ⟨R, hR, l.set z (x, y), by simpa using hl60, p9, by omega, s9, ?_⟩
        simp [-farE, f1, f2, f3, e0, e2, e5, hR, t2, t3, h0, h0', g6, g7, g8, g9, hzl, hzl', b1, hset, z25_setAll hR, repV, setAt, stillE, madeA, idOf, sub, cids_app, cmp_app]
    · have h0' : ¬ (0 : Int) < (l.length : Int) := by omega
      refine ⟨R, hR, l, hl60, p5, by omega, s5, ?_⟩
      simp [e0, e2, e5, hR, t2, t3, h0, h0', z25_setAll hR, repV, sub, cids_app, cmp_app]
  · intro k hk st hst
    obtain ⟨R, N, l, p5, s5, hR, hN, hl, hp5, rfl⟩ := hst
    have t1 := fun i n => repC_take hR (C.sl i 0 n 2)
    have t2 := fun i n => repC_drop hR (C.sl i 0 n 2)
    have t3 := fun i n => repC_all hR (C.sl i 0 n 2)
    have t4 := fun i n d => repC_set hR (C.sl i 0 n 2) d
    have hN24 := take24 hN
    unfold RvS
    by_cases hkT : k < T
    · have hgt : (0 : Int) < (T : Int) - (k : Int) := by omega
      have hkT' : (k : Int) < (T : Int) := by omega
      have wk : IntKind.i64.wrap ((T : Int) - (k : Int) - 1) = (T : Int) - ((k : Int) + 1) := (wrapI (by omega) (by omega)).trans (by omega)
      have hr := callA_pure (c_rack_spec N hN) (by simp) (by simp)
      cases hq : okRack N with
      | false =>
        right
        rw [hq] at hr
        simp [hkT', hN, hN24, hr]
        exact ⟨R, l, p5, s5, _, _, _, hR, by omega, by omega, by simp, rfl, rfl, rfl, rfl⟩
      | true =>
        rw [hq] at hr
        have h := rackOK hN hq
        have hu := callA_new (c_spec_l2Pours N h) (by simp)
        have hpl := poursL_len36 N
        by_cases h0 : (poursL N).length = 0
        · right
          have h0' : (((poursL N).length : Int) == 0) = true := by simp [h0]
          simp [hkT', hN, hN24, hr, hu, h0]
          exact ⟨R, l, p5, s5, _, _, _, hR, by omega, by omega, by simp, rfl, rfl, rfl, rfl⟩
        · left
          refine ⟨hkT, ?_⟩
          have h0' : (((poursL N).length : Int) == 0) = false := beq_eq_false_iff_ne.2 (by omega)
          obtain ⟨z, p6, s6, hz, hp6, hG6⟩ := c_pick bs hb o p5 (by omega) s5 (poursL N).length (by omega) (by omega)
          have g6 := call_cur (rest := [.c (.int .i64 (poursL N).length)]) rfl hG6 0 1
          have hzl : z < (poursL N).length := by omega
          have hzl' : (z : Int) < ((poursL N).length : Int) := by omega
          have g7 := flatC_take2 (poursL N) hzl
          have b1 : z * 2 + 2 ≤ (poursL N).length * 2 := by omega
          generalize hC : (ACode.seq (ACode.seq (ACode.region (AOper.mk (some 86) none _ :: _) _) _) _) = cC
          -- from the test of the pour on
          have stage3 : ∀ (xs : Env) (a b : Int) (p' : Nat) (s' : Int), p' ≤ p5 + 8 → ∃ st', turnK 2 [0, 2, 3, 4, 5, 6, 7] (seqK pr np 2 rvReg (blockK 1 (exI pr np 2 cC ([(0, V.c (C.ptr 0 0)), (2, V.c (C.ptr 2 0)), (3, V.c (C.bool bk)), (4, V.c (C.bool gd)), (5, V.c (C.ptr 3 0)), (6, V.c (C.ptr 4 0)), (7, V.c (C.int .i64 ((T : Int) - (k : Int)))), (9, V.c (C.ptr 8 0))] ++ xs) [curB 1 bs.length p' s', byB bs o, Blk.cells (z25 5) true, Blk.cells (R.map (C.int .i64) ++ [C.sl 6 0 l.length 2]) true, Blk.cells (N.map (C.int .i64)) true, Blk.cells [] true, Blk.cells (cZ l) true, Blk.cells (flatC (poursL N)) true, Blk.cells [C.int .i64 a, C.int .i64 b] true, Blk.cells (flatC (goodL N)) true]))) = some st' ∧ RvI bs o bk gd T p4 (k + 1) st' := by
            as_aux_lemma =>
              intro xs a b p' s' hp'
              have hcan := callA_pure (c_spec_l6Can N h (a, b)) (by simp) (by simp)
              subst hC
              cases hcq : canZ N (a, b) with
              | false =>
                rw [hcq] at hcan
                simp [rvReg, hN, hN24, hcan, wk, hR, t1, t2, t3, sub, cids_app, cmp_app]
                first | exact ⟨R, N, l, p', s', hR, hN, by omega, by omega, rfl⟩ | exact ⟨_, _, ⟨rfl, rfl⟩, R, N, l, p', s', hR, hN, by omega, by omega, rfl⟩ | exact ⟨_, _, rfl, R, N, l, p', s', hR, hN, by omega, by omega, rfl⟩
              | true =>
                rw [hcq] at hcan
                obtain ⟨i, j, ei, ej, hi, hj, hcan2, ti, tj⟩ := canZ_facts hcq
                simp only at ei ej
                subst ei; subst ej
                have hpo := callA_pure (c_spec_l2Pour N h hi hj) (by simp) (by simp)
                have hnx := h.pour hi hj (canP_ne hcan2)
                have hn24 := take24 hnx.len
                have hnl := hnx.len
                have hroom : l.length + 1 ≤ 68719476736 := by omega
                have hcz : cZ l ++ [C.int .i64 (i : Int), C.int .i64 (j : Int)] = cZ (l ++ [((i : Int), (j : Int))]) := by rw [cZ_app]; rfl
                have htk := cZ_take l
                have hln : (l ++ [((i : Int), (j : Int))]).length = l.length + 1 := by simp
                generalize pourR N i j = N' at *
                simp [rvReg, hN, hN24, hcan, hpo, hnl, hn24, hroom, hcz, htk, wk, hR, t1, t2, t3, t4, setAt_all, setAt, sub, cids_app, cmp_app]
                rw [← hln]
                first | exact ⟨R, N', _, p', s', hR, hnl, by omega, by omega, rfl⟩ | exact ⟨_, _, ⟨rfl, rfl⟩, R, N', _, p', s', hR, hnl, by omega, by omega, rfl⟩ | exact ⟨_, _, rfl, R, N', _, p', s', hR, hnl, by omega, by omega, rfl⟩
          generalize hB : (ACode.seq (ACode.seq (ACode.region (AOper.mk (some 75) none _ :: _) _) _) cC) = cB
          have hgd := callA_new (c_spec_l6Good N h) (by simp)
          have hgl := goodL_len N
          -- from the good pours on
          have stage2 : ∀ (xs : Env) (a b : Int) (p' : Nat) (s' : Int), p' ≤ p5 + 8 → ∃ st', turnK 2 [0, 2, 3, 4, 5, 6, 7] (seqK pr np 2 rvReg (blockK 1 (exI pr np 2 cB ([(0, V.c (C.ptr 0 0)), (2, V.c (C.ptr 2 0)), (3, V.c (C.bool bk)), (4, V.c (C.bool gd)), (5, V.c (C.ptr 3 0)), (6, V.c (C.ptr 4 0)), (7, V.c (C.int .i64 ((T : Int) - (k : Int)))), (9, V.c (C.ptr 8 0))] ++ xs) [curB 1 bs.length p' s', byB bs o, Blk.cells (z25 5) true, Blk.cells (R.map (C.int .i64) ++ [C.sl 6 0 l.length 2]) true, Blk.cells (N.map (C.int .i64)) true, Blk.cells [] true, Blk.cells (cZ l) true, Blk.cells (flatC (poursL N)) true, Blk.cells [C.int .i64 a, C.int .i64 b] true]))) = some st' ∧ RvI bs o bk gd T p4 (k + 1) st' := by
            as_aux_lemma =>
              intro xs a b p' s' hp'
              subst hB
              cases gd with
              | false =>
                obtain ⟨st', e1, e2⟩ := stage3 [(11, V.c (C.sl 9 0 (goodL N).length 2)), (82, V.c (C.bool false))] a b p' s' hp'
                refine ⟨st', ?_, e2⟩
                rw [← e1]
                simp [hN, hN24, hgd, sub, cids_app, cmp_app]
              | true =>
                by_cases hm : 0 < (goodL N).length
                · have hm' : (0 : Int) < ((goodL N).length : Int) := by omega
                  have g8 : (flatC (goodL N)).take 2 = [C.int .i64 ((goodL N)[0]'hm).1, C.int .i64 ((goodL N)[0]'hm).2] := by simpa using flatC_take2 (goodL N) hm
                  have b2 : 2 ≤ (goodL N).length * 2 := by omega
                  obtain ⟨st', e1, e2⟩ := stage3 [] ((goodL N)[0]'hm).1 ((goodL N)[0]'hm).2 p' s' hp'
                  refine ⟨st', ?_, e2⟩
                  rw [← e1]
                  simp [hN, hN24, hgd, hm, hm', g8, b2, flatC_len, setAt, sub, cids_app, cmp_app]
                · have hm' : ¬ (0 : Int) < ((goodL N).length : Int) := by omega
                  obtain ⟨st', e1, e2⟩ := stage3 [(11, V.c (C.sl 9 0 (goodL N).length 2)), (82, V.c (C.bool false))] a b p' s' hp'
                  refine ⟨st', ?_, e2⟩
                  rw [← e1]
                  simp [hN, hN24, hgd, hm, hm', sub, cids_app, cmp_app]
          by_cases hl0 : 0 < l.length
          · have hl0' : (0 : Int) < (l.length : Int) := by omega
            cases bk with
            | false =>
              obtain ⟨st', e1, e2⟩ := stage2 [(10, V.c (C.int .i64 l.length)), (59, V.c (C.bool false))] ((poursL N)[z]'hzl).1 ((poursL N)[z]'hzl).2 p6 s6 (by omega)
              refine ⟨st', ?_, e2⟩
              rw [← e1]
              simp [rvReg, hkT', hN, hN24, hr, hu, h0, h0', g6, hzl, hzl', g7, b1, hl0, hl0', hR, t2, flatC_len, setAt, sub, cids_app, cmp_app]
            | true =>
              obtain ⟨q, p7, s7, hp7, hG7⟩ := c_one bs hb o p6 (by omega) s6 2 (by decide) (by decide)
              have g9 := call_cur (rest := [.c (.int .i64 2)]) rfl hG7 0 1
              cases q with
              | false =>
                obtain ⟨st', e1, e2⟩ := stage2 [(10, V.c (C.int .i64 l.length)), (59, V.c (C.bool false))] ((poursL N)[z]'hzl).1 ((poursL N)[z]'hzl).2 p7 s7 (by omega)
                refine ⟨st', ?_, e2⟩
                rw [← e1]
                simp [rvReg, hkT', hN, hN24, hr, hu, h0, h0', g6, hzl, hzl', g7, b1, hl0, hl0', g9, hR, t2, flatC_len, setAt, sub, cids_app, cmp_app]
              | true =>
                obtain ⟨w, hw⟩ : ∃ w, l.length = w + 1 := ⟨l.length - 1, by omega⟩
                have hwl : w < l.length := by omega
                have hwl' : (w : Int) < (l.length : Int) := by omega
                have ww : IntKind.i64.wrap ((l.length : Int) - 1) = (w : Int) := (wrapI (by omega) (by omega)).trans (by omega)
                obtain ⟨ga, gb⟩ := cZ_get1 l hwl
                have b3 : w * 2 + 2 ≤ l.length * 2 := by omega
                have b4 : w * 2 + 1 ≤ l.length * 2 := by omega
                have b5 : w * 2 + 1 + 1 ≤ l.length * 2 := by omega
                obtain ⟨st', e1, e2⟩ := stage2 [] (l[w]'hwl).2 (l[w]'hwl).1 p7 s7 (by omega)
                refine ⟨st', ?_, e2⟩
                rw [← e1]
                simp [rvReg, hkT', hN, hN24, hr, hu, h0, h0', g6, hzl, hzl', g7, b1, hl0, hl0', g9, hR, t2, ww, hwl, hwl', ga, gb, b3, b4, b5, flatC_len, setAt, sub, cids_app, cmp_app]
          · have hl0' : ¬ (0 : Int) < (l.length : Int) := by omega
            obtain ⟨st', e1, e2⟩ := stage2 [(10, V.c (C.int .i64 l.length)), (59, V.c (C.bool false))] ((poursL N)[z]'hzl).1 ((poursL N)[z]'hzl).2 p6 s6 (by omega)
            refine ⟨st', ?_, e2⟩
            rw [← e1]
            simp [rvReg, hkT', hN, hN24, hr, hu, h0, h0', g6, hzl, hzl', g7, b1, hl0, hl0', hR, t2, flatC_len, setAt, sub, cids_app, cmp_app]
    · right
      have hgt : ¬ (0 : Int) < (T : Int) - (k : Int) := by omega
      have hkT' : ¬ (k : Int) < (T : Int) := by omega
      simp [hkT']
      exact ⟨R, l, p5, s5, _, _, _, hR, by omega, by omega, by simp, rfl, rfl, rfl, rfl⟩
end Go.Proofs.YthpookdfaikabaaGreatDoor.AM

/- Law: games to the end. -/
namespace Go.Proofs.YthpookdfaikabaaGreatDoor.AM
open Go
set_option maxRecDepth 1000000
set_option linter.unusedSimpArgs false
set_option linter.unusedVariables false
theorem place_of {i : Nat} (h : i < 6) : placeB (i : Int) = true := by
  unfold placeB
  simp
  omega
theorem pV_useful {r : List Int} (hq : okRack r = true) {p : Nat × Nat} (hp : p ∈ usefulL r) : pV r p.1 p.2 = .tup [.agg ((pourR r p.1 p.2).map (C.int .i64)), .c (.int .i64 (pourN r p.1 p.2 : Int)), .c (.bool true)] := by
  obtain ⟨h1, h2, h3⟩ := mem_usefulL hp
  have hb : pB r p.1 p.2 = true := by
    unfold pB
    rw [hq, place_of h1, place_of h2]
    simpa using h3
  unfold pV pR pN
  rw [hb]
  simp
theorem call_slz {F : Fns} {f n sz : Nat} {rest : List V} {b : Blk} {v : V} {ns : Heap} (hre : rest.flatMap V.ids = []) (hbi : b.ids = []) (hF : F f (.c (.sl 0 0 n sz) :: rest) [b] = some (v, b :: ns)) (i : Nat) (H : HF) (base : Nat) (hb : (H i == some b) = true) :
    callA F f (.c (.sl i 0 n sz) :: rest) H base = some (v.mp (back [i] base), ns.map (Blk.mp (back [i] base)), [(i, b)]) := by
  have hb : H i = some b := by simpa using hb
  exact callA_one (x := .c (.sl i 0 n sz)) hb (by simp) (by simp) hre hbi hF base
theorem call_slz2 {F : Fns} {f n n' sz : Nat} {b c : Blk} {v : V} (hbi : b.ids = []) (hci : c.ids = []) (hF : F f [.c (.sl 0 0 n sz), .c (.sl 1 0 n' sz)] [b, c] = some (v, [b, c])) (i j : Nat) (H : HF) (base : Nat) (hij : (i != j) = true) (hb : (H i == some b) = true) (hc : (H j == some c) = true) :
    callA F f [.c (.sl i 0 n sz), .c (.sl j 0 n' sz)] H base = some (v.mp (back [i, j] base), [], [(i, b), (j, c)]) := by
  have hb : H i = some b := by simpa using hb
  have hc : H j = some c := by simpa using hc
  have hij : i ≠ j := by simpa using hij
  have := callA_two (x := .c (.sl i 0 n sz)) (y := .c (.sl j 0 n' sz)) hij hb hc (by simp) (by simp) (by simp [pos]) (by simp [pos, hij]) hbi hci hF base
  exact this
theorem c_laws_rBig (bs : List Int) (o : Bool) (hn : bs.length ≤ 9223372036854775807) : fnI pr np 4 [.c (.sl 0 0 bs.length 1)] [byB bs o] = some (.c (.bool (decide (65536 < bs.length))), [byB bs o]) := by
  have e : decide ((65536 : Int) < (bs.length : Int)) = decide (65536 < bs.length) := by apply decide_eq_decide.2; omega
  rw [fb (fn := a4) rfl rfl rfl]
  simp [a4, sub]
  omega
theorem c_laws_rPairs (l : List (Nat × Nat)) (hn : l.length < 1000000) (z z' : List C) (hz : cids z = []) (hz' : cids z' = []) : fnI pr np 38 [.c (.sl 0 0 l.length 2), .c (.sl 1 0 l.length 2)] [.cells (flatC l ++ z) true, .cells (flatC l ++ z') true] = some (.c (.bool true), [.cells (flatC l ++ z) true, .cells (flatC l ++ z') true]) := by
  have hzc : ∀ g, cmp g z = z := fun g => cmp_pure hz
  have hzc' : ∀ g, cmp g z' = z' := fun g => cmp_pure hz'
  rw [fb (fn := a38) rfl rfl rfl]
  simp [a38]
  rw [loop_to (fun i => ([(0, V.c (C.sl 0 0 l.length 2)), (1, V.c (C.sl 1 0 l.length 2)), (5, V.c (C.int .i64 i))], [Blk.cells (flatC l ++ z) true, Blk.cells (flatC l ++ z') true])) l.length]
  · simp [sub, cids_app, cmp_app, hz, hz', hzc, hzc']
  · simp [sub, cids_app, cmp_app, hz, hz', hzc, hzc']
  · intro i hi
    have hi' : (i : Int) < (l.length : Int) := by omega
    have wi := wrapS (k := i) (by omega)
    have g1 := flatC_get l z i hi
    have g2 := flatC_get l z' i hi
    have b3 : i * 2 + 2 ≤ l.length * 2 := by omega
    have b4 : i * 2 + 2 ≤ l.length * 2 + z.length := by omega
    have b5 : i * 2 + 2 ≤ l.length * 2 + z'.length := by omega
    generalize l[i]'hi = q at *
    simp [hi, hi', wi, g1, g2, b3, b4, b5, flatC_len, sub, cids_app, cmp_app, hz, hz', hzc, hzc', conf, conf1]
/-! ### plain laws -/
theorem endOut_all_nil {m : Nat} {r : List Int} : (usefulL r).length = 0 ↔ (endOut m r (usefulL r).length).length = 0 := by
  constructor
  · intro h
    have := endOut_len m r (usefulL r).length
    omega
  · intro h
    apply Classical.byContradiction
    intro hne
    have hpos : 0 < (usefulL r).length := by omega
    have hmem := List.getElem_mem hpos
    have hex : ∃ p ∈ usefulL r, endF m r p = endV (m + 1) r := by
      rcases bestOf_mem (endF m r) (usefulL r) (-1) with hb | ⟨p, hp, hb⟩
      · refine ⟨_, hmem, ?_⟩
        have h1 := bestOf_ge (endF m r) (usefulL r) (-1) _ hmem
        have h2 := endV_range m (pourR r ((usefulL r)[0]'hpos).1 ((usefulL r)[0]'hpos).2)
        have h3 : endF m r ((usefulL r)[0]'hpos) = -(endV m (pourR r ((usefulL r)[0]'hpos).1 ((usefulL r)[0]'hpos).2)) := rfl
        have h4 : endV (m + 1) r = bestOf (endF m r) (-1) (usefulL r) := rfl
        omega
      · exact ⟨p, hp, hb⟩
    obtain ⟨p, hp, he⟩ := hex
    have : p ∈ endOut m r (usefulL r).length := by
      unfold endOut
      rw [List.take_length]
      exact List.mem_filter.2 ⟨hp, by simpa using he⟩
    have := List.length_pos_of_mem this
    omega
theorem endOut_mem {m : Nat} {r : List Int} {p : Nat × Nat} (h : p ∈ endOut m r (usefulL r).length) : p ∈ usefulL r ∧ endF m r p = endV (m + 1) r := by
  unfold endOut at h
  rw [List.take_length] at h
  have := List.mem_filter.1 h
  exact ⟨this.1, by simpa using this.2⟩
theorem endV_lost {m : Nat} {r : List Int} (h : (usefulL r).length = 0) : endV (m + 1) r = -1 := by
  have : usefulL r = [] := List.length_eq_zero_iff.1 h
  show bestOf _ (-1) (usefulL r) = -1
  rw [this]
  rfl
end Go.Proofs.YthpookdfaikabaaGreatDoor.AM

/- Calls with the cursor that leave blocks; arrays of 24 ints are compared (the same as in the texts of replays, under other names). -/
namespace Go.Proofs.YthpookdfaikabaaGreatDoor.AM
open Go
set_option maxRecDepth 1000000
set_option linter.unusedSimpArgs false
set_option linter.unusedVariables false
theorem confT_ints : ∀ (n : Nat) (x : List Int), x.length = n → conf (List.replicate n (.int .i64)) (x.map (C.int .i64)) = true
  | 0, [], _ => rfl
  | n + 1, a :: x, h => by
    have := confT_ints n x (by simpa using h)
    simp only [List.replicate_succ, List.map_cons, conf, conf1, this]
    rfl
  | 0, _ :: _, h => by simp at h
  | _ + 1, [], h => by simp at h
theorem confT24 (x : List Int) (h : x.length = 24) : conf [CK.int .i64, CK.int .i64, CK.int .i64, CK.int .i64, CK.int .i64, CK.int .i64, CK.int .i64, CK.int .i64, CK.int .i64, CK.int .i64, CK.int .i64, CK.int .i64, CK.int .i64, CK.int .i64, CK.int .i64, CK.int .i64, CK.int .i64, CK.int .i64, CK.int .i64, CK.int .i64, CK.int .i64, CK.int .i64, CK.int .i64, CK.int .i64] (x.map (C.int .i64)) = true := confT_ints 24 x h
/-- a call with the cursor that leaves one block more -/
theorem callT_curN {F : Fns} {f n p p' : Nat} {s s' : Int} {bs : List Int} {o : Bool} {rest : List V} {v : V} {ns : Heap} (hre : rest.flatMap V.ids = []) (hF : F f (.c (.ptr 0 0) :: rest) [curB 1 n p s, byB bs o] = some (v, curB 1 n p' s' :: byB bs o :: ns)) (i j : Nat) (H : HF) (base : Nat) (hij : (i != j) = true) (hi : (H i == some (curB j n p s)) = true) (hj : (H j == some (byB bs o)) = true) :
    callA F f (.c (.ptr i 0) :: rest) H base = some (v.mp (back [i, j] base), ns.map (Blk.mp (back [i, j] base)), [(i, curB j n p' s'), (j, byB bs o)]) := by
  have hi : H i = some (curB j n p s) := by simpa using hi
  have hj : H j = some (byB bs o) := by simpa using hj
  have hij : i ≠ j := by simpa using hij
  have hji : ¬ j = i := fun e => hij e.symm
  have h := callA_gen (F := F) (f := f) (args := .c (.ptr i 0) :: rest) (H := H) (L := [i, j]) (by simp [hre, reach, idsAt, hi, hj, hji]) (by simp [closed, hi, hj, idsAt, inL, hre]) (show sub [i, j] H = [curB 1 n p s, byB bs o] by simp [sub, hi, hj, pos, hij]) (show (V.c (.ptr i 0) :: rest).map (V.mp (pos [i, j])) = .c (.ptr 0 0) :: rest by rw [List.map_cons, mps_pure hre]; simp [pos]) hF (by simp) base
  rw [h]
  simp [back]
end Go.Proofs.YthpookdfaikabaaGreatDoor.AM

/- A call with the cursor that leaves one block more; replays are compared. -/
namespace Go.Proofs.YthpookdfaikabaaGreatDoor.AM
open Go
set_option maxRecDepth 1000000
set_option linter.unusedSimpArgs false
set_option linter.unusedVariables false
/-- a call with the cursor that leaves one block more -/
theorem call_curN {F : Fns} {f n p p' : Nat} {s s' : Int} {bs : List Int} {o : Bool} {rest : List V} {v : V} {ns : Heap} (hre : rest.flatMap V.ids = []) (hF : F f (.c (.ptr 0 0) :: rest) [curB 1 n p s, byB bs o] = some (v, curB 1 n p' s' :: byB bs o :: ns)) (i j : Nat) (H : HF) (base : Nat) (hij : (i != j) = true) (hi : (H i == some (curB j n p s)) = true) (hj : (H j == some (byB bs o)) = true) :
    callA F f (.c (.ptr i 0) :: rest) H base = some (v.mp (back [i, j] base), ns.map (Blk.mp (back [i, j] base)), [(i, curB j n p' s'), (j, byB bs o)]) := by
  have hi : H i = some (curB j n p s) := by simpa using hi
  have hj : H j = some (byB bs o) := by simpa using hj
  have hij : i ≠ j := by simpa using hij
  have hji : ¬ j = i := fun e => hij e.symm
  have h := callA_gen (F := F) (f := f) (args := .c (.ptr i 0) :: rest) (H := H) (L := [i, j]) (by simp [hre, reach, idsAt, hi, hj, hji]) (by simp [closed, hi, hj, idsAt, inL, hre]) (show sub [i, j] H = [curB 1 n p s, byB bs o] by simp [sub, hi, hj, pos, hij]) (show (V.c (.ptr i 0) :: rest).map (V.mp (pos [i, j])) = .c (.ptr 0 0) :: rest by rw [List.map_cons, mps_pure hre]; simp [pos]) hF (by simp) base
  rw [h]
  simp [back]
theorem c_laws_rPairsZ (l : List (Int × Int)) (hn : l.length < 1000000) (o o' : Bool) : fnI pr np 38 [.c (.sl 0 0 l.length 2), .c (.sl 1 0 l.length 2)] [.cells (cZ l) o, .cells (cZ l) o'] = some (.c (.bool true), [.cells (cZ l) o, .cells (cZ l) o']) := by
  rw [fb (fn := a38) rfl rfl rfl]
  simp [a38]
  rw [loop_to (fun i => ([(0, V.c (C.sl 0 0 l.length 2)), (1, V.c (C.sl 1 0 l.length 2)), (5, V.c (C.int .i64 i))], [Blk.cells (cZ l) o, Blk.cells (cZ l) o'])) l.length]
  · simp [sub]
  · simp [sub]
  · intro i hi
    have hi' : (i : Int) < (l.length : Int) := by omega
    have wi := wrapS (k := i) (by omega)
    have g1 := cZ_get l hi
    have b3 : i * 2 + 2 ≤ l.length * 2 := by omega
    generalize l[i]'hi = q at *
    simp [hi, hi', wi, g1, b3, sub, conf, conf1]
theorem c_laws_rReplay (r : List Int) (hr : r.length = 24) (l : List (Int × Int)) (hn : l.length < 1000000) (o o' : Bool) : fnI pr np 11 [repV r 0 l.length, repV r 1 l.length] [.cells (cZ l) o, .cells (cZ l) o'] = some (.c (.bool true), [.cells (cZ l) o, .cells (cZ l) o']) := by
  have hc := call_slz2 (by simp) (by simp) (c_laws_rPairsZ l hn o o') 0 1
  have t1 := fun i n => repC_take hr (C.sl i 0 n 2)
  have t2 := fun i n => repC_drop hr (C.sl i 0 n 2)
  have hcf := conf24 r hr
  rw [fb (fn := a11) rfl rfl rfl]
  unfold repV
  simp [a11, hr, t1, t2, hc, hcf, sub, cids_app, cmp_app]
theorem rr_val {r : List Int} {l : List (Int × Int)} (h : repB r l = true) {k : Nat} (hk : k ≤ l.length) : rrV r l (k : Int) = .tup [.agg ((rackF r (l.take k)).map (C.int .i64)), .c (.bool true)] := by
  have hb : rrB r l (k : Int) = true := by unfold rrB inB; rw [h]; simp; omega
  unfold rrV rrR
  rw [hb, if_pos rfl]
  simp
end Go.Proofs.YthpookdfaikabaaGreatDoor.AM

