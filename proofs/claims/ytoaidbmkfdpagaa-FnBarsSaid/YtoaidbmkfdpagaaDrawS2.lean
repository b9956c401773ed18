import Derived.Test.YtoaidbmkfdpagaaDrawS
/- Contracts: a serve is drawn. -/
namespace Go.Proofs.Ytoaidbmkfdpagaa.AM
open Go
set_option maxRecDepth 1000000
set_option linter.unusedSimpArgs false
set_option linter.unusedVariables false
set_option maxHeartbeats 16000000 in
theorem c_serve12 (bs : List Int) (hb : Bytes bs) (o : Bool) (p : Nat) (hp : p + 100 < 1000000000) (s : Int) (r : List Int) (hr : r.length = 24) : ∃ (k a b c : Int) (p' : Nat) (s' : Int), p' ≤ p + 30 ∧ fnI pr np 161 [.c (.ptr 0 0), .agg (r.map (C.int .i64))] [curB 1 bs.length p s, byB bs o] = some (.agg [.int .i64 k, .int .i64 a, .int .i64 b, .int .i64 c], [curB 1 bs.length p' s', byB bs o]) := by
  have h24 := take24 hr
  obtain ⟨K, p1, s1, hK, hp1, hG1⟩ := c_among bs hb o p (by omega) s [1, 1, 1, 2, 2, 3, 4, 5] (by decide) (by decide)
  have hK := lit_range (lo := 1) (hi := 5) (by decide) hK
  have g1 := call_among (by simp) hG1 0 4 1
  simp at g1
  rw [fb (fn := a161) rfl rfl]
  simp only [a161]
  generalize hT : (ACode.seq (ACode.seq (ACode.region (AOper.mk (some 58) none _ :: _) _) _) _) = cT
  have fin : ∀ (q1 : Nat) (t1 : Int), q1 ≤ p + 20 → ∀ (k a b c : Int) (x4 : Blk) (g : Heap), (g = [] ∨ ∃ x, g = [x]) → ∃ (k' a' b' c' : Int) (p' : Nat) (s' : Int), p' ≤ p + 30 ∧ leaveK 2 [RV.cell 4 4 true] (exI pr np 2 cT [(0, V.c (C.ptr 0 0)), (4, V.c (C.ptr 3 0)), (5, V.c (C.ptr 5 0))] ([curB 1 bs.length q1 t1, byB bs o, Blk.cells (r.map (C.int .i64)) true, Blk.cells [C.int .i64 0, C.int .i64 0, C.int .i64 0, C.int .i64 0] true, x4, Blk.cells [C.int .i64 k, C.int .i64 a, C.int .i64 b, C.int .i64 c] true] ++ g)) = some (.agg [.int .i64 k', .int .i64 a', .int .i64 b', .int .i64 c'], [curB 1 bs.length p' s', byB bs o]) := by
    intro q1 t1 hq1 k a b c x4 g hg
    subst hT
    obtain ⟨x, q2, t2, hx, hq2, hF⟩ := c_pick bs hb o q1 (by omega) t1 40 (by decide) (by decide)
    have f1 := call_cur (rest := [.c (.int .i64 40)]) rfl hF 0 1
    obtain ⟨y, q3, t3, hy, hq3, hG⟩ := c_among bs hb o q2 (by omega) t2 [-1, 1, 5] (by decide) (by decide)
    have f2 := call_among (by simp) hG 0 6 1
    have f2' := call_among (by simp) hG 0 7 1
    obtain ⟨z, q4, t4, hz, hq4, hH⟩ := c_among bs hb o q2 (by omega) t2 [0, 6, -1] (by decide) (by decide)
    have f3 := call_among (by simp) hH 0 6 1
    have f3' := call_among (by simp) hH 0 7 1
    simp at f2 f2' f3 f3'
    by_cases h0 : x = 0
    · subst h0
      refine ⟨k, a, b, y, q3, t3, by omega, ?_⟩
      rcases hg with rfl | ⟨x6, rfl⟩
      · simp [f1, f2, setAt_all, setAt, sub]
      · simp [f1, f2', setAt_all, setAt, sub]
    · have x0 : ¬ (x : Int) = 0 := by omega
      have x0b : ((x : Int) == 0) = false := beq_eq_false_iff_ne.2 x0
      by_cases h1 : x = 1
      · subst h1
        refine ⟨z, a, b, c, q4, t4, by omega, ?_⟩
        rcases hg with rfl | ⟨x6, rfl⟩
        · simp [f1, f3, setAt_all, setAt, sub]
        · simp [f1, f3', setAt_all, setAt, sub]
      · have x1 : ¬ (x : Int) = 1 := by omega
        have x1b : ((x : Int) == 1) = false := beq_eq_false_iff_ne.2 x1
        refine ⟨k, a, b, c, q2, t2, by omega, ?_⟩
        rcases hg with rfl | ⟨x6, rfl⟩
        · simp [f1, h0, h1, x0, x0b, x1, x1b, setAt_all, setAt, sub]
        · simp [f1, h0, h1, x0, x0b, x1, x1b, setAt_all, setAt, sub]
  clear hT
  obtain rfl | rfl | rfl | rfl | rfl : K = 1 ∨ K = 2 ∨ K = 3 ∨ K = 4 ∨ K = 5 := by omega
  · obtain ⟨x, y, p2, s2, hp2, hF⟩ := c_drawPour bs hb o p1 (by omega) s1 r hr
    have f := call_cur (rest := [.agg (r.map (C.int .i64))]) (by simp) hF 0 1
    obtain ⟨k', a', b', c', p', s', hp', hfin⟩ := fin p2 s2 (by omega) 1 x y 0 (.cells (([1, 1, 1, 2, 2, 3, 4, 5] : List Int).map (C.int .i64)) true) [.cells [C.int .i64 x, C.int .i64 y] true] (.inr ⟨_, rfl⟩)
    refine ⟨k', a', b', c', p', s', hp', ?_⟩
    simp [g1, f, hr, h24, setAt_all, setAt, sub]
    exact hfin
  · obtain ⟨x, p2, s2, hp2, hF⟩ := c_place bs hb o p1 (by omega) s1
    have f := call_cur (rest := []) rfl hF 0 1
    obtain ⟨y, p3, s3, hp3, hG⟩ := c_color bs hb o p2 (by omega) s2
    have f2 := call_cur (rest := []) rfl hG 0 1
    obtain ⟨k', a', b', c', p', s', hp', hfin⟩ := fin p3 s3 (by omega) 2 x y 0 (.cells (([1, 1, 1, 2, 2, 3, 4, 5] : List Int).map (C.int .i64)) true) [] (.inl rfl)
    refine ⟨k', a', b', c', p', s', hp', ?_⟩
    simp [g1, f, f2, hr, h24, setAt_all, setAt, sub]
    exact hfin
  · obtain ⟨x, p2, s2, hp2, hF⟩ := c_place bs hb o p1 (by omega) s1
    have f := call_cur (rest := []) rfl hF 0 1
    obtain ⟨k', a', b', c', p', s', hp', hfin⟩ := fin p2 s2 (by omega) 3 x 0 0 (.cells (([1, 1, 1, 2, 2, 3, 4, 5] : List Int).map (C.int .i64)) true) [] (.inl rfl)
    refine ⟨k', a', b', c', p', s', hp', ?_⟩
    simp [g1, f, hr, h24, setAt_all, setAt, sub]
    exact hfin
  · obtain ⟨x, p2, s2, hp2, hF⟩ := c_place bs hb o p1 (by omega) s1
    have f := call_cur (rest := []) rfl hF 0 1
    obtain ⟨y, p3, s3, hp3, hG⟩ := c_place bs hb o p2 (by omega) s2
    have f2 := call_cur (rest := []) rfl hG 0 1
    obtain ⟨k', a', b', c', p', s', hp', hfin⟩ := fin p3 s3 (by omega) 4 x y 0 (.cells (([1, 1, 1, 2, 2, 3, 4, 5] : List Int).map (C.int .i64)) true) [] (.inl rfl)
    refine ⟨k', a', b', c', p', s', hp', ?_⟩
    simp [g1, f, f2, hr, h24, setAt_all, setAt, sub]
    exact hfin
  · obtain ⟨x, y, z, p2, s2, hp2, hF⟩ := c_source5 bs hb o p1 (by omega) s1 r hr
    have f := call_cur (rest := [.agg (r.map (C.int .i64))]) (by simp) hF 0 1
    obtain ⟨k', a', b', c', p', s', hp', hfin⟩ := fin p2 s2 (by omega) 5 x y z (.cells (([1, 1, 1, 2, 2, 3, 4, 5] : List Int).map (C.int .i64)) true) [.cells [C.int .i64 x, C.int .i64 y, C.int .i64 z] true] (.inr ⟨_, rfl⟩)
    refine ⟨k', a', b', c', p', s', hp', ?_⟩
    simp [g1, f, hr, h24, setAt_all, setAt, sub]
    exact hfin
end Go.Proofs.Ytoaidbmkfdpagaa.AM
