import Derived.Test.YtoaidbmkfdpagaaDrawB
import Derived.Test.YtoaidbmkfdpagaaSrcs
import Derived.Test.YtoaidbmkfdpagaaDrawQ
/- Contracts: a source and a serve are drawn. -/
namespace Go.Proofs.Ytoaidbmkfdpagaa.AM
open Go
set_option maxRecDepth 1000000
set_option linter.unusedSimpArgs false
set_option linter.unusedVariables false
set_option maxHeartbeats 8000000 in
theorem c_source5 (bs : List Int) (hb : Bytes bs) (o : Bool) (p : Nat) (hp : p + 50 < 1000000000) (s : Int) (r : List Int) (hr : r.length = 24) : ∃ (x y z : Int) (p' : Nat) (s' : Int), p' ≤ p + 14 ∧ fnI pr np 218 [.c (.ptr 0 0), .agg (r.map (C.int .i64))] [curB 1 bs.length p s, byB bs o] = some (.agg [.int .i64 x, .int .i64 y, .int .i64 z], [curB 1 bs.length p' s', byB bs o]) := by
  have h24 := take24 hr
  have hk := callA_pure (c_rack_spec r hr) (by simp) (by simp)
  have three : ∀ (p1 : Nat) (s1 : Int), p1 ≤ p + 2 → ∃ (x y z : Int) (p2 p3 p' : Nat) (s2 s3 s' : Int), p' ≤ p + 14 ∧ fnI pr np 113 [.c (.ptr 0 0)] [curB 1 bs.length p1 s1, byB bs o] = some (.c (.int .i64 x), [curB 1 bs.length p2 s2, byB bs o]) ∧ fnI pr np 113 [.c (.ptr 0 0)] [curB 1 bs.length p2 s2, byB bs o] = some (.c (.int .i64 y), [curB 1 bs.length p3 s3, byB bs o]) ∧
      fnI pr np 181 [.c (.ptr 0 0), .c (.sl 1 0 ([1, 2, 3, 4, 0, 5, -1] : List Int).length 1)] [curB 2 bs.length p3 s3, .cells (([1, 2, 3, 4, 0, 5, -1] : List Int).map (C.int .i64)) true, byB bs o] = some (.c (.int .i64 z), [curB 2 bs.length p' s', .cells (([1, 2, 3, 4, 0, 5, -1] : List Int).map (C.int .i64)) true, byB bs o]) := by
    intro p1 s1 h1
    obtain ⟨x, p2, s2, h2, hF⟩ := c_place bs hb o p1 (by omega) s1
    obtain ⟨y, p3, s3, h3, hG⟩ := c_place bs hb o p2 (by omega) s2
    obtain ⟨z, p4, s4, hz, h4, hK⟩ := c_among bs hb o p3 (by omega) s3 [1, 2, 3, 4, 0, 5, -1] (by decide) (by decide)
    exact ⟨x, y, z, p2, p3, p4, s2, s3, s4, by omega, hF, hG, hK⟩
  rw [fb (fn := a218) rfl rfl]
  cases hq : okRack r with
  | false =>
    rw [hq] at hk
    obtain ⟨x, y, z, p2, p3, p4, s2, s3, s4, h4, hF, hG, hK⟩ := three p s (by omega)
    have f1 := call_cur (rest := []) rfl hF 0 1
    have f2 := call_cur (rest := []) rfl hG 0 1
    have f3 := call_among (by simp) hK 0 4 1
    simp at f3
    refine ⟨x, y, z, p4, s4, h4, ?_⟩
    simp [a218, hr, h24, hk, f1, f2, f3, setAt_all, setAt, sub]
  | true =>
    rw [hq] at hk
    have h := rackOK hr hq
    obtain ⟨q1, p1, s1, hp1, hG1⟩ := c_one bs hb o p (by omega) s 5 (by decide) (by decide)
    have g1 := call_cur (rest := [.c (.int .i64 5)]) rfl hG1 0 1
    cases q1 with
    | true =>
      obtain ⟨x, y, z, p2, p3, p4, s2, s3, s4, h4, hF, hG, hK⟩ := three p1 s1 hp1
      have f1 := call_cur (rest := []) rfl hF 0 1
      have f2 := call_cur (rest := []) rfl hG 0 1
      have f3 := call_among (by simp) hK 0 4 1
      simp at f3
      refine ⟨x, y, z, p4, s4, h4, ?_⟩
      simp [a218, hr, h24, hk, g1, f1, f2, f3, setAt_all, setAt, sub]
    | false =>
      obtain ⟨l, hl, hu⟩ := c_spec_l5Sources r h
      have hu := callA_new hu (by simp)
      by_cases h0 : 0 < l.length
      · have h0' : (0 : Int) < (l.length : Int) := by omega
        obtain ⟨z, p2, s2, hz, hp2, hG2⟩ := c_pick bs hb o p1 (by omega) s1 l.length (by omega) (by omega)
        have g2 := call_cur (rest := [.c (.int .i64 l.length)]) rfl hG2 0 1
        have hzl : z < l.length := by omega
        have hzl' : (z : Int) < (l.length : Int) := by omega
        have g3 := triC_get l hzl
        have b1 : z * 3 + 3 ≤ l.length * 3 := by omega
        refine ⟨(l[z]'hzl).1, (l[z]'hzl).2.1, (l[z]'hzl).2.2, p2, s2, by omega, ?_⟩
        simp [a218, hr, h24, hk, g1, hu, h0, h0', g2, hzl, hzl', g3, b1, setAt_all, setAt, sub]
      · have h0' : ¬ (0 : Int) < (l.length : Int) := by omega
        obtain ⟨x, y, z, p2, p3, p4, s2, s3, s4, h4, hF, hG, hK⟩ := three p1 s1 hp1
        have f1 := call_cur (rest := []) rfl hF 0 1
        have f2 := call_cur (rest := []) rfl hG 0 1
        have f3 := call_among (by simp) hK 0 5 1
        simp at f3
        refine ⟨x, y, z, p4, s4, h4, ?_⟩
        simp [a218, hr, h24, hk, g1, hu, h0, h0', f1, f2, f3, setAt_all, setAt, sub]
end Go.Proofs.Ytoaidbmkfdpagaa.AM
