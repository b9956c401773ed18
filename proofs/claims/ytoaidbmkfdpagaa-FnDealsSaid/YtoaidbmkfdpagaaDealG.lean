import Derived.Test.YtoaidbmkfdpagaaDrawD
/- Contracts: deals are drawn out of bytes; fractions of the laws are added and compared; bytes are cut. -/
namespace Go.Proofs.Ytoaidbmkfdpagaa.AM
open Go
set_option maxRecDepth 1000000
set_option linter.unusedSimpArgs false
set_option linter.unusedVariables false
/-- two far places -/
theorem farE_two {ks : List Nat} {t u : Nat} (h : (ks.all fun j => decide (j < 1000000) || decide (j = t + 1000000) || decide (j = u + 1000000)) = true) (hm : (ks.contains (t + 1000000)) = true) (hm2 : (ks.contains (u + 1000000)) = true) (e : Env) (us : List (Nat × Blk)) : farE ks e us = us.all fun p => decide (idOf (get e t) ≠ some p.1) && decide (idOf (get e u) ≠ some p.1) := by
  unfold farE
  congr 1
  funext p
  rw [Bool.eq_iff_iff, List.all_eq_true, Bool.and_eq_true, decide_eq_true_eq, decide_eq_true_eq]
  rw [List.all_eq_true] at h
  constructor
  · intro hx
    have h1 := hx (t + 1000000) (by simpa using hm)
    have h2 := hx (u + 1000000) (by simpa using hm2)
    rw [Nat.add_sub_cancel, decide_eq_false (show ¬ t + 1000000 < 1000000 by omega)] at h1
    rw [Nat.add_sub_cancel, decide_eq_false (show ¬ u + 1000000 < 1000000 by omega)] at h2
    exact ⟨by simpa using h1, by simpa using h2⟩
  · intro hx j hj
    have := h j hj
    simp only [Bool.or_eq_true, decide_eq_true_eq] at this ⊢
    rcases this with (h1 | h1) | h1
    · exact .inl h1
    · right
      rw [h1, Nat.add_sub_cancel]
      exact hx.1
    · right
      rw [h1, Nat.add_sub_cancel]
      exact hx.2
set_option maxHeartbeats 4000000 in
theorem c_spec_DrawDealRuns (bs : List Int) (hb : Bytes bs) (o : Bool) : ∃ (m c : List Int), m.length = 6 ∧ c.length = 6 ∧ fnI pr np 13 [.c (.sl 0 0 bs.length 1)] [byB bs o] = some (.tup [.agg (m.map (C.int .i64)), .agg (c.map (C.int .i64))], [byB bs o]) := by
  obtain ⟨m, c, p1, s1, hm, hc, hp1, hF⟩ := c_deal9 bs hb o 0 (by omega) 0
  have g1 := call_cur (rest := []) rfl hF 4 0
  have m6 := take6 hm
  have c6 := take6 hc
  have hcu : Blk.cells [C.sl 0 0 bs.length 1, C.int .i64 0, C.int .u64 0] true = curB 0 bs.length 0 0 := rfl
  refine ⟨m, c, hm, hc, ?_⟩
  rw [fb (fn := a13) rfl rfl]
  simp [a13, g1, hcu, hm, hc, m6, c6, setAt_all, sub]
set_option maxHeartbeats 4000000 in
theorem c_spec_DrawDealTop (bs : List Int) (hb : Bytes bs) (o : Bool) : ∃ (m c : List Int) (x y : Int), m.length = 6 ∧ c.length = 6 ∧ fnI pr np 20 [.c (.sl 0 0 bs.length 1)] [byB bs o] = some (.tup [.agg (m.map (C.int .i64)), .agg (c.map (C.int .i64)), .c (.int .i64 x), .c (.int .i64 y)], [byB bs o]) := by
  obtain ⟨m, c, p1, s1, hm, hc, hp1, hF⟩ := c_deal9 bs hb o 0 (by omega) 0
  have g1 := call_cur (rest := []) rfl hF 4 0
  obtain ⟨x, p2, s2, hp2, hG⟩ := c_place bs hb o p1 (by omega) s1
  have g2 := call_cur (rest := []) rfl hG 4 0
  obtain ⟨y, p3, s3, hp3, hK⟩ := c_color bs hb o p2 (by omega) s2
  have g3 := call_cur (rest := []) rfl hK 4 0
  have m6 := take6 hm
  have c6 := take6 hc
  have hcu : Blk.cells [C.sl 0 0 bs.length 1, C.int .i64 0, C.int .u64 0] true = curB 0 bs.length 0 0 := rfl
  refine ⟨m, c, x, y, hm, hc, ?_⟩
  have f1 := farE_two (ks := [3, 1000007, 1000008]) (t := 7) (u := 8) (by decide) (by decide) (by decide)
  have f2 := farE_two (ks := [3, 5, 1000007, 1000008]) (t := 7) (u := 8) (by decide) (by decide) (by decide)
  rw [fb (fn := a20) rfl rfl]
  simp [-farE, f1, f2, a20, g1, g2, g3, hcu, hm, hc, m6, c6, setAt_all, setAt, stillE, madeA, idOf, sub]
set_option maxHeartbeats 4000000 in
theorem c_spec_DrawDealAlike (bs : List Int) (hb : Bytes bs) (o : Bool) : ∃ (m c : List Int) (x y : Int), m.length = 6 ∧ c.length = 6 ∧ fnI pr np 24 [.c (.sl 0 0 bs.length 1)] [byB bs o] = some (.tup [.agg (m.map (C.int .i64)), .agg (c.map (C.int .i64)), .c (.int .i64 x), .c (.int .i64 y)], [byB bs o]) := by
  obtain ⟨m, c, p1, s1, hm, hc, hp1, hF⟩ := c_deal9 bs hb o 0 (by omega) 0
  have g1 := call_cur (rest := []) rfl hF 4 0
  obtain ⟨x, p2, s2, hp2, hG⟩ := c_place bs hb o p1 (by omega) s1
  have g2 := call_cur (rest := []) rfl hG 4 0
  obtain ⟨y, p3, s3, hp3, hK⟩ := c_place bs hb o p2 (by omega) s2
  have g3 := call_cur (rest := []) rfl hK 4 0
  have m6 := take6 hm
  have c6 := take6 hc
  have hcu : Blk.cells [C.sl 0 0 bs.length 1, C.int .i64 0, C.int .u64 0] true = curB 0 bs.length 0 0 := rfl
  refine ⟨m, c, x, y, hm, hc, ?_⟩
  have f1 := farE_two (ks := [3, 1000007, 1000008]) (t := 7) (u := 8) (by decide) (by decide) (by decide)
  have f2 := farE_two (ks := [3, 5, 1000007, 1000008]) (t := 7) (u := 8) (by decide) (by decide) (by decide)
  rw [fb (fn := a24) rfl rfl]
  simp [-farE, f1, f2, a24, g1, g2, g3, hcu, hm, hc, m6, c6, setAt_all, setAt, stillE, madeA, idOf, sub]
end Go.Proofs.Ytoaidbmkfdpagaa.AM
