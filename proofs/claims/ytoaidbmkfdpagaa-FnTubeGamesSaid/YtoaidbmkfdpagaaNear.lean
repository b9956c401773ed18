import Derived.Test.YtoaidbmkfdpagaaDrawR
/- Contracts: a rack near its end is drawn; a rack and a number of pours. -/
namespace Go.Proofs.Ytoaidbmkfdpagaa.AM
open Go
set_option maxRecDepth 1000000
set_option linter.unusedSimpArgs false
set_option linter.unusedVariables false
def NvA (bs : List Int) (o : Bool) (q k : Nat) (st : Env × Heap) : Prop := ∃ (R : List Int) (p' : Nat) (s' : Int), R.length = 24 ∧ p' ≤ q + 40 * k ∧ st = ([(0, V.c (C.ptr 0 0)), (2, V.c (C.ptr 2 0)), (3, V.c (C.ptr 3 0)), (4, V.c (C.int .i64 k))], [curB 1 bs.length p' s', byB bs o, Blk.cells (List.replicate 24 (C.int .i64 0)) true, Blk.cells (R.map (C.int .i64)) true])
def NsA (bs : List Int) (o : Bool) (q : Nat) (r : Ex × Env × Heap) : Prop := ∃ (R : List Int) (p' : Nat) (s' i : Int) (h2 : Heap), R.length = 24 ∧ p' ≤ q + 250 ∧ r = (.exit 0, [(0, V.c (C.ptr 0 0)), (2, V.c (C.ptr 2 0)), (3, V.c (C.ptr 3 0)), (4, V.c (C.int .i64 i)), (17, V.c (C.bool false))], curB 1 bs.length p' s' :: byB bs o :: Blk.cells (List.replicate 24 (C.int .i64 0)) true :: Blk.cells (R.map (C.int .i64)) true :: h2)
def NvB (bs : List Int) (o : Bool) (c m : Int) (q i k : Nat) (st : Env × Heap) : Prop := ∃ (R : List Int) (p' : Nat) (s' : Int), R.length = 24 ∧ p' ≤ q + 6 * k ∧ st = ([(0, V.c (C.ptr 0 0)), (2, V.c (C.ptr 2 0)), (3, V.c (C.ptr 3 0)), (4, V.c (C.int .i64 i)), (5, V.c (C.int .i64 c)), (6, V.c (C.int .i64 m)), (7, V.c (C.int .i64 k))], [curB 1 bs.length p' s', byB bs o, Blk.cells (List.replicate 24 (C.int .i64 0)) true, Blk.cells (R.map (C.int .i64)) true])
def NsB (bs : List Int) (o : Bool) (c m : Int) (q i : Nat) (r : Ex × Env × Heap) : Prop := ∃ (R : List Int) (p' : Nat) (s' k : Int), R.length = 24 ∧ p' ≤ q + 24 ∧ r = (.exit 2, [(0, V.c (C.ptr 0 0)), (2, V.c (C.ptr 2 0)), (3, V.c (C.ptr 3 0)), (4, V.c (C.int .i64 i)), (5, V.c (C.int .i64 c)), (6, V.c (C.int .i64 m)), (7, V.c (C.int .i64 k)), (28, V.c (C.bool false))], [curB 1 bs.length p' s', byB bs o, Blk.cells (List.replicate 24 (C.int .i64 0)) true, Blk.cells (R.map (C.int .i64)) true])
set_option maxHeartbeats 4000000 in
theorem c_near (bs : List Int) (hb : Bytes bs) (o : Bool) (p : Nat) (hp : p + 1500 < 1000000000) (s : Int) : ∃ (v : V) (h' : Heap), fnI pr np 144 [.c (.ptr 0 0)] [curB 1 bs.length p s, byB bs o] = some (v, h') ∧ RkP bs o (p + 10) v h' := by
  obtain ⟨q1, p1, s1, hp1, hG1⟩ := c_one bs hb o p (by omega) s 3 (by decide) (by decide)
  have g1 := call_cur (rest := [.c (.int .i64 3)]) rfl hG1 0 1
  rw [fb (fn := a144) rfl rfl]
  cases q1 with
  | true =>
    obtain ⟨v, h', hF, R, p2, s2, hR, hp2, rfl, rfl⟩ := c_rack bs hb o p1 (by omega) s1
    have g2 := call_cur (rest := []) rfl hF 0 1
    have r24 := take24 hR
    simp [a144, g1, g2, hR, r24, setAt_all]
    first | exact ⟨R, p2, s2, hR, by omega, rfl, rfl⟩ | exact ⟨_, _, ⟨rfl, rfl⟩, R, p2, s2, hR, by omega, rfl, rfl⟩ | exact ⟨_, _, rfl, R, p2, s2, hR, by omega, rfl, rfl⟩
  | false =>
    simp [a144, g1, setAt_all]
    generalize hX : exI pr np 2 (ACode.loop _ _) _ _ = X
    have hl := loop_exit hX (NvA bs o p1) 6 (NsA bs o p1) ⟨([(0, V.c (C.ptr 0 0)), (2, V.c (C.ptr 2 0)), (3, V.c (C.ptr 3 0)), (4, V.c (C.int .i64 0))], [curB 1 bs.length p1 s1, byB bs o, Blk.cells (List.replicate 24 (C.int .i64 0)) true, Blk.cells ((List.replicate 24 0).map (C.int .i64)) true]), by simp, List.replicate 24 0, p1, s1, by simp, by omega, rfl⟩ ?_
    · obtain ⟨r, rfl, R, p3, s3, i, h2, hR, hp3, rfl⟩ := hl
      clear hX
      have r24 := take24 hR
      simp [hR, r24, setAt_all]
      first | exact ⟨R, p3, s3, hR, by omega, rfl, rfl⟩ | exact ⟨_, _, ⟨rfl, rfl⟩, R, p3, s3, hR, by omega, rfl, rfl⟩ | exact ⟨_, _, rfl, R, p3, s3, hR, by omega, rfl, rfl⟩
    · intro k hk st hst
      obtain ⟨R, p2, s2, hR, hp2, rfl⟩ := hst
      obtain ⟨x, p3, s3, hx, hp3, hGx⟩ := c_among bs hb o p2 (by omega) s2 [3, 4, 5, 6] (by decide) (by decide)
      have hx := lit_range (lo := 3) (hi := 6) (by decide) hx
      have gx := call_among (by simp) hGx 0 4 1
      simp at gx
      by_cases hkx : (k : Int) < x
      · left
        have k6 : k < 6 := by omega
        have k6' : (k : Int) < 6 := by omega
        have wk := wrapS (k := k) (by omega)
        refine ⟨k6, ?_⟩
        obtain ⟨y, p4, s4, hy, hp4, hGy⟩ := c_pick bs hb o p3 (by omega) s3 3 (by decide) (by decide)
        have gy := call_cur (rest := [.c (.int .i64 3)]) rfl hGy 0 1
        obtain ⟨m, p5, s5, hm, hp5, hGm⟩ := c_among bs hb o p4 (by omega) s4 [3, 2, 3, 4, 1] (by decide) (by decide)
        have hm := lit_range (lo := 1) (hi := 4) (by decide) hm
        have gm := call_among (by simp) hGm 0 5 1
        simp at gm
        have wy : IntKind.i64.wrap (1 + (y : Int)) = 1 + (y : Int) := wrapI (by omega) (by omega)
        simp [gx, hkx, gy, gm, wy]
        generalize hX : exI pr np 2 (ACode.loop _ _) _ _ = X
        have hl := loop_exit hX (NvB bs o (1 + (y : Int)) m p5 k) 4 (NsB bs o (1 + (y : Int)) m p5 k) ⟨([(0, V.c (C.ptr 0 0)), (2, V.c (C.ptr 2 0)), (3, V.c (C.ptr 3 0)), (4, V.c (C.int .i64 k)), (5, V.c (C.int .i64 (1 + (y : Int)))), (6, V.c (C.int .i64 m)), (7, V.c (C.int .i64 0))], [curB 1 bs.length p5 s5, byB bs o, Blk.cells (List.replicate 24 (C.int .i64 0)) true, Blk.cells (R.map (C.int .i64)) true]), by simp, R, p5, s5, hR, by omega, rfl⟩ ?_
        · obtain ⟨r, rfl, R, p', s', kk, hR, hp', rfl⟩ := hl
          clear hX
          simp [wk]
          first | exact ⟨R, p', s', hR, by omega, rfl⟩ | exact ⟨_, _, ⟨rfl, rfl⟩, R, p', s', hR, by omega, rfl⟩ | exact ⟨_, _, rfl, R, p', s', hR, by omega, rfl⟩
        · intro j hj st hst
          obtain ⟨R, p6, s6, hR, hp6, rfl⟩ := hst
          by_cases hjm : (j : Int) < m
          · left
            have j4 : j < 4 := by omega
            have j4' : (j : Int) < 4 := by omega
            refine ⟨j4, ?_⟩
            have wj := wrapS (k := j) (by omega)
            obtain ⟨R', hR', hset⟩ := put_one hR (k * 4 + j) (1 + (y : Int))
            have b1 : k * 4 + j + 1 ≤ 24 := by omega
            by_cases hj0 : j = 0
            · subst hj0
              obtain ⟨q, p7, s7, hp7, hG3⟩ := c_one bs hb o p6 (by omega) s6 3 (by decide) (by decide)
              have g3 := call_cur (rest := [.c (.int .i64 3)]) rfl hG3 0 1
              have hm0 : 0 < m := by omega
              simp only [Nat.add_zero] at hset b1
              cases q with
              | false =>
                simp [hm0, k6, k6', hR, hR', g3, b1, hset, setAt, stillE, madeA, idOf]
                first | exact ⟨R', p7, s7, hR', by omega, rfl⟩ | exact ⟨_, _, ⟨rfl, rfl⟩, R', p7, s7, hR', by omega, rfl⟩ | exact ⟨_, _, rfl, R', p7, s7, hR', by omega, rfl⟩
              | true =>
                obtain ⟨z, p8, s8, hz, hp8, hG4⟩ := c_pick bs hb o p7 (by omega) s7 4 (by decide) (by decide)
                have g4 := call_cur (rest := [.c (.int .i64 4)]) rfl hG4 0 1
                have wz : IntKind.i64.wrap (1 + (z : Int)) = 1 + (z : Int) := wrapI (by omega) (by omega)
                obtain ⟨R2, hR2, hset2⟩ := put_one hR' (k * 4) (1 + (z : Int))
                simp [hm0, k6, k6', hR, hR', hR2, g3, g4, wz, b1, hset, hset2, setAt, stillE, madeA, idOf]
                first | exact ⟨R2, p8, s8, hR2, by omega, rfl⟩ | exact ⟨_, _, ⟨rfl, rfl⟩, R2, p8, s8, hR2, by omega, rfl⟩ | exact ⟨_, _, rfl, R2, p8, s8, hR2, by omega, rfl⟩
            · have hj0' : ¬ (j : Int) = 0 := by omega
              have hj0b : ((j : Int) == 0) = false := beq_eq_false_iff_ne.2 hj0'
              simp [hjm, j4, j4', hj0, hj0', hj0b, k6, k6', hR, hR', b1, wj, hset, setAt, stillE, madeA, idOf]
              first | exact ⟨R', p6, s6, hR', by omega, rfl⟩ | exact ⟨_, _, ⟨rfl, rfl⟩, R', p6, s6, hR', by omega, rfl⟩ | exact ⟨_, _, rfl, R', p6, s6, hR', by omega, rfl⟩
          · right
            simp [hjm]
            exact ⟨R, p6, s6, _, hR, by omega, rfl⟩
      · right
        simp [gx, hkx]
        exact ⟨R, p3, s3, _, _, hR, by omega, rfl⟩
set_option maxHeartbeats 1000000 in
theorem c_spec_DrawEndValue (bs : List Int) (hb : Bytes bs) (o : Bool) : ∃ (R : List Int) (n : Int), R.length = 24 ∧ (-1 ≤ n ∧ n ≤ 4) ∧ fnI pr np 138 [.c (.sl 0 0 bs.length 1)] [byB bs o] = some (.tup [.agg (R.map (C.int .i64)), .c (.int .i64 n)], [byB bs o]) := by
  obtain ⟨n, p1, s1, hn, hp1, hG1⟩ := c_among bs hb o 0 (by omega) 0 [2, 3, 1, 0, 3, 4, -1] (by decide) (by decide)
  have hn := lit_range (lo := -1) (hi := 4) (by decide) hn
  obtain ⟨v, h', hF, R, p2, s2, hR, hp2, rfl, rfl⟩ := c_near bs hb o p1 (by omega) s1
  have g1 := call_among (by simp) hG1 3 4 0
  have g2 := call_cur (rest := []) rfl hF 3 0
  simp at g1
  have r24 := take24 hR
  refine ⟨R, n, hR, hn, ?_⟩
  rw [fb (fn := a138) rfl rfl]
  have hc : Blk.cells [C.sl 0 0 bs.length 1, C.int .i64 0, C.int .u64 0] true = curB 0 bs.length 0 0 := rfl
  simp [a138, g1, g2, hc, hR, r24, setAt_all, sub]
end Go.Proofs.Ytoaidbmkfdpagaa.AM
