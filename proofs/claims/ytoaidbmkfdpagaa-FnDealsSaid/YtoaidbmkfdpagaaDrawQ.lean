import Derived.Test.YtoaidbmkfdpagaaDrawR
/- Contracts: places and colors are drawn. -/
namespace Go.Proofs.Ytoaidbmkfdpagaa.AM
open Go
set_option maxRecDepth 1000000
set_option linter.unusedSimpArgs false
set_option linter.unusedVariables false
theorem c_place (bs : List Int) (hb : Bytes bs) (o : Bool) (p : Nat) (hp : p + 10 < 1000000000) (s : Int) : ∃ (x : Int) (p' : Nat) (s' : Int), p' ≤ p + 4 ∧ fnI pr np 113 [.c (.ptr 0 0)] [curB 1 bs.length p s, byB bs o] = some (.c (.int .i64 x), [curB 1 bs.length p' s', byB bs o]) := by
  obtain ⟨q, p1, s1, hp1, hG1⟩ := c_one bs hb o p (by omega) s 40 (by decide) (by decide)
  have g1 := call_cur (rest := [.c (.int .i64 40)]) rfl hG1 0 1
  cases q with
  | true =>
    obtain ⟨x, p2, s2, hx, hp2, hG2⟩ := c_among bs hb o p1 (by omega) s1 [-1, 6, 4611686018427387904] (by decide) (by decide)
    have g2 := call_among (by simp) hG2 0 2 1
    simp at g2
    refine ⟨x, p2, s2, by omega, ?_⟩
    rw [fb (fn := a113) rfl rfl]
    simp [a113, g1, g2, sub]
  | false =>
    obtain ⟨x, p2, s2, hx, hp2, hG2⟩ := c_pick bs hb o p1 (by omega) s1 6 (by decide) (by decide)
    have g2 := call_cur (rest := [.c (.int .i64 6)]) rfl hG2 0 1
    refine ⟨x, p2, s2, by omega, ?_⟩
    rw [fb (fn := a113) rfl rfl]
    simp [a113, g1, g2, sub]
theorem c_color (bs : List Int) (hb : Bytes bs) (o : Bool) (p : Nat) (hp : p + 10 < 1000000000) (s : Int) : ∃ (x : Int) (p' : Nat) (s' : Int), p' ≤ p + 6 ∧ fnI pr np 114 [.c (.ptr 0 0)] [curB 1 bs.length p s, byB bs o] = some (.c (.int .i64 x), [curB 1 bs.length p' s', byB bs o]) := by
  obtain ⟨q, p1, s1, hp1, hG1⟩ := c_one bs hb o p (by omega) s 40 (by decide) (by decide)
  have g1 := call_cur (rest := [.c (.int .i64 40)]) rfl hG1 0 1
  cases q with
  | true =>
    obtain ⟨x, p2, s2, hx, hp2, hG2⟩ := c_among bs hb o p1 (by omega) s1 [-1, 0, 6, 4611686018427387904] (by decide) (by decide)
    have g2 := call_among (by simp) hG2 0 2 1
    simp at g2
    refine ⟨x, p2, s2, by omega, ?_⟩
    rw [fb (fn := a114) rfl rfl]
    simp [a114, g1, g2, sub]
  | false =>
    obtain ⟨y, p2, s2, hy, hp2, hG2⟩ := c_among bs hb o p1 (by omega) s1 [3, 2, 5, 3] (by decide) (by decide)
    have hy := lit_range (lo := 0) (hi := 5) (by decide) hy
    have g2 := call_among (by simp) hG2 0 2 1
    simp at g2
    obtain ⟨x, p3, s3, hx, hp3, hG3⟩ := c_pick bs hb o p2 (by omega) s2 y (by omega) (by omega)
    have g3 := call_cur (rest := [.c (.int .i64 y)]) rfl hG3 0 1
    have w : IntKind.i64.wrap (1 + (x : Int)) = 1 + (x : Int) := wrapI (by omega) (by omega)
    refine ⟨1 + (x : Int), p3, s3, by omega, ?_⟩
    rw [fb (fn := a114) rfl rfl]
    simp [a114, g1, g2, g3, w, sub]
end Go.Proofs.Ytoaidbmkfdpagaa.AM
