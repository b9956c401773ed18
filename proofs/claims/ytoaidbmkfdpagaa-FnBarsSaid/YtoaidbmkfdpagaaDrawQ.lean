import Derived.Test.YtoaidbmkfdpagaaDrawR
/- Contracts: places and colors are drawn. -/
namespace Go.Proofs.Ytoaidbmkfdpagaa.AM
open Go
set_option maxRecDepth 1000000
set_option linter.unusedSimpArgs false
set_option linter.unusedVariables false
theorem c_place (bs : List Int) (hb : Bytes bs) (o : Bool) (p : Nat) (hp : p + 10 < 1000000000) (s : Int) : ∃ (x : Int) (p' : Nat) (s' : Int), p' ≤ p + 4 ∧ fnI pr np 113 [.c (.ptr 0 0)] [curB 1 bs.length p s, byB bs o] = some (.c (.int .i64 x), [curB 1 bs.length p' s', byB bs o]) := by
  obtain ⟨q, p1, s1, hp1, hG1⟩ := c_one bs hb o p (by omega) s 40 (by decide) (by decide)
  have g1 := call_cur (rest := [.c (.int .i64 40)]) rfl hG1 0 1
  cases q with
  | true =>
    obtain ⟨x, p2, s2, hx, hp2, hG2⟩ := c_among bs hb o p1 (by omega) s1 [-1, 6, 4611686018427387904] (by decide) (by decide)
    have g2 := call_among (by simp) hG2 0 2 1
    simp at g2
    refine ⟨x, p2, s2, by omega, ?_⟩
    rw [fb (fn := a113) rfl rfl]
    simp [a113, g1, g2, sub]
  | false =>
    obtain ⟨x, p2, s2, hx, hp2, hG2⟩ := c_pick bs hb o p1 (by omega) s1 6 (by decide) (by decide)
    have g2 := call_cur (rest := [.c (.int .i64 6)]) rfl hG2 0 1
    refine ⟨x, p2, s2, by omega, ?_⟩
    rw [fb (fn := a113) rfl rfl]
    simp [a113, g1, g2, sub]
theorem c_color (bs : List Int) (hb : Bytes bs) (o : Bool) (p : Nat) (hp : p + 10 < 1000000000) (s : Int) : ∃ (x : Int) (p' : Nat) (s' : Int), p' ≤ p + 6 ∧ fnI pr np 114 [.c (.ptr 0 0)] [curB 1 bs.length p s, byB bs o] = some (.c (.int .i64 x), [curB 1 bs.length p' s', byB bs o]) := by
  obtain ⟨q, p1, s1, hp1, hG1⟩ := c_one bs hb o p (by omega) s 40 (by decide) (by decide)
  have g1 := call_cur (rest := [.c (.int .i64 40)]) rfl hG1 0 1
  cases q with
  | true =>
    obtain ⟨x, p2, s2, hx, hp2, hG2⟩ := c_among bs hb o p1 (by omega) s1 [-1, 0, 6, 4611686018427387904] (by decide) (by decide)
    have g2 := call_among (by simp) hG2 0 2 1
    simp at g2
    refine ⟨x, p2, s2, by omega, ?_⟩
    rw [fb (fn := a114) rfl rfl]
    simp [a114, g1, g2, sub]
  | false =>
    obtain ⟨y, p2, s2, hy, hp2, hG2⟩ := c_among bs hb o p1 (by omega) s1 [3, 2, 5, 3] (by decide) (by decide)
    have hy := lit_range (lo := 0) (hi := 5) (by decide) hy
    have g2 := call_among (by simp) hG2 0 2 1
    simp at g2
    obtain ⟨x, p3, s3, hx, hp3, hG3⟩ := c_pick bs hb o p2 (by omega) s2 y (by omega) (by omega)
    have g3 := call_cur (rest := [.c (.int .i64 y)]) rfl hG3 0 1
    have w : IntKind.i64.wrap (1 + (x : Int)) = 1 + (x : Int) := wrapI (by omega) (by omega)
    refine ⟨1 + (x : Int), p3, s3, by omega, ?_⟩
    rw [fb (fn := a114) rfl rfl]
    simp [a114, g1, g2, g3, w, sub]
theorem poursL_len36 (r : List Int) : (poursL r).length ≤ 36 := poursTo_len r 36
theorem flatC_take2 (l : List (Nat × Nat)) {k : Nat} (h : k < l.length) : ((flatC l).drop (k * 2)).take 2 = [C.int .i64 (l[k]'h).1, C.int .i64 (l[k]'h).2] := by
  have := flatC_get l [] k h
  rwa [List.append_nil] at this
/-! ### a pour is drawn -/
set_option maxHeartbeats 2000000 in
theorem c_drawPour (bs : List Int) (hb : Bytes bs) (o : Bool) (p : Nat) (hp : p + 20 < 1000000000) (s : Int) (r : List Int) (hr : r.length = 24) : ∃ (x y : Int) (p' : Nat) (s' : Int), p' ≤ p + 10 ∧ fnI pr np 208 [.c (.ptr 0 0), .agg (r.map (C.int .i64))] [curB 1 bs.length p s, byB bs o] = some (.agg [.int .i64 x, .int .i64 y], [curB 1 bs.length p' s', byB bs o]) := by
  have h24 := take24 hr
  have hk := callA_pure (c_rack_spec r hr) (by simp) (by simp)
  have two : ∀ (p1 : Nat) (s1 : Int), p1 ≤ p + 2 → ∃ (x y : Int) (p2 p' : Nat) (s2 s' : Int), p' ≤ p + 10 ∧ fnI pr np 113 [.c (.ptr 0 0)] [curB 1 bs.length p1 s1, byB bs o] = some (.c (.int .i64 x), [curB 1 bs.length p2 s2, byB bs o]) ∧ fnI pr np 113 [.c (.ptr 0 0)] [curB 1 bs.length p2 s2, byB bs o] = some (.c (.int .i64 y), [curB 1 bs.length p' s', byB bs o]) := by
    intro p1 s1 h1
    obtain ⟨x, p2, s2, h2, hF⟩ := c_place bs hb o p1 (by omega) s1
    obtain ⟨y, p3, s3, h3, hG⟩ := c_place bs hb o p2 (by omega) s2
    exact ⟨x, y, p2, p3, s2, s3, by omega, hF, hG⟩
  rw [fb (fn := a208) rfl rfl]
  cases hq : okRack r with
  | false =>
    rw [hq] at hk
    obtain ⟨x, y, p2, p3, s2, s3, h3, hF, hG⟩ := two p s (by omega)
    have f1 := call_cur (rest := []) rfl hF 0 1
    have f2 := call_cur (rest := []) rfl hG 0 1
    refine ⟨x, y, p3, s3, h3, ?_⟩
    simp [a208, hr, h24, hk, f1, f2, setAt, sub]
  | true =>
    rw [hq] at hk
    have h := rackOK hr hq
    obtain ⟨q1, p1, s1, hp1, hG1⟩ := c_one bs hb o p (by omega) s 3 (by decide) (by decide)
    have g1 := call_cur (rest := [.c (.int .i64 3)]) rfl hG1 0 1
    cases q1 with
    | true =>
      obtain ⟨x, y, p2, p3, s2, s3, h3, hF, hG⟩ := two p1 s1 hp1
      have f1 := call_cur (rest := []) rfl hF 0 1
      have f2 := call_cur (rest := []) rfl hG 0 1
      refine ⟨x, y, p3, s3, h3, ?_⟩
      simp [a208, hr, h24, hk, g1, f1, f2, setAt, sub]
    | false =>
      have hu := callA_new (c_spec_l2Pours r h) (by simp)
      have hl := poursL_len36 r
      by_cases h0 : 0 < (poursL r).length
      · have h0' : (0 : Int) < ((poursL r).length : Int) := by omega
        obtain ⟨z, p2, s2, hz, hp2, hG2⟩ := c_pick bs hb o p1 (by omega) s1 (poursL r).length (by omega) (by omega)
        have g2 := call_cur (rest := [.c (.int .i64 (poursL r).length)]) rfl hG2 0 1
        have hzl : z < (poursL r).length := by omega
        have hzl' : (z : Int) < ((poursL r).length : Int) := by omega
        have g3 := flatC_take2 (poursL r) hzl
        have b1 : z * 2 + 2 ≤ (poursL r).length * 2 := by omega
        refine ⟨((poursL r)[z]'hzl).1, ((poursL r)[z]'hzl).2, p2, s2, by omega, ?_⟩
        simp [a208, hr, h24, hk, g1, hu, h0, h0', g2, hzl, hzl', g3, b1, flatC_len, setAt, sub]
      · have h0' : ¬ (0 : Int) < ((poursL r).length : Int) := by omega
        obtain ⟨x, y, p2, p3, s2, s3, h3, hF, hG⟩ := two p1 s1 hp1
        have f1 := call_cur (rest := []) rfl hF 0 1
        have f2 := call_cur (rest := []) rfl hG 0 1
        refine ⟨x, y, p3, s3, h3, ?_⟩
        simp [a208, hr, h24, hk, g1, hu, h0, h0', f1, f2, setAt, flatC_len, sub]
end Go.Proofs.Ytoaidbmkfdpagaa.AM
