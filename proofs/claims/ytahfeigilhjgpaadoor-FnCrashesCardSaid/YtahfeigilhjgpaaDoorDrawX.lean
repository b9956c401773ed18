import Derived.Test.YtahfeigilhjgpaaDoorDrawV
/- Contracts: what the laws of logs draw. -/
namespace Go.Proofs.YtahfeigilhjgpaaDoor.AM
open Go
set_option maxRecDepth 1000000
set_option linter.unusedSimpArgs false
set_option linter.unusedVariables false
def DrawnA (bs : List Int) (o : Bool) (p : Nat) (v : V) (h' : Heap) : Prop := ∃ (d t : Tx) (c : Int) (p' : Nat) (s' : Int), d.length ≤ 1000 ∧ t.length ≤ 1000 ∧ 0 ≤ c ∧ c ≤ 61 ∧ p' ≤ p + 200 ∧ v = logV d t c ∧ h' = [curB 1 bs.length p' s', byB bs o]
set_option maxHeartbeats 8000000 in
theorem c_anyLog (bs : List Int) (hb : Bytes bs) (o : Bool) (p : Nat) (hp : p + 2000 < 1000000000) (s : Int) : ∃ (v : V) (h' : Heap), fnI pr np 64 [.c (.ptr 0 0)] [curB 1 bs.length p s, byB bs o] = some (v, h') ∧ DrawnA bs o p v h' := by
  obtain ⟨v, h', hF, d, t, c, p1, s1, h1, h2, h3, h4, rfl, rfl⟩ := c_log12 bs hb o p (by omega) s
  have k1 := call_cur (rest := []) rfl hF 0 1
  obtain ⟨m, p2, s2, hm, hp2, hF2⟩ := c_pick bs hb o p1 (by omega) s1 24 (by decide) (by decide)
  have k2 := call_cur (rest := [.c (.int .i64 24)]) rfl hF2 0 1
  have wc : IntKind.i64.wrap (c + 1) = c + 1 := wrapI (by omega) (by omega)
  obtain ⟨x, p3, s3, hx, hp3, hF3⟩ := c_spoilt bs hb o p2 (by omega) s2 t (by omega)
  have k3 := call_cur (rest := [.c (.str t), .c (.str [35, 64, 10, 48, 49])]) rfl hF3 0 1
  have b1 : d.length + t.length ≤ 9223372036854775807 := by omega
  rw [fb (fn := a64) rfl rfl rfl]
  unfold logV at *
  by_cases m0 : (m : Int) = 0
  · have : m = 0 := by omega
    subst this
    simp [a64, k1, k2, wc, setAt, sub]
    exact ⟨_, _, ⟨rfl, rfl⟩, d, t, c + 1, p2, s2, by omega, by omega, by omega, by omega, by omega, rfl, rfl⟩
  · by_cases m1 : (m : Int) = 1
    · have : m = 1 := by omega
      subst this
      simp [a64, k1, k2, k3, setAt, sub]
      exact ⟨_, _, ⟨rfl, rfl⟩, d, x, c, p3, s3, by omega, by omega, by omega, by omega, by omega, rfl, rfl⟩
    · have m0' : ¬ m = 0 := by omega
      have m1' : ¬ m = 1 := by omega
      by_cases m2 : (m : Int) = 2
      · have : m = 2 := by omega
        subst this
        simp [a64, k1, k2, b1, setAt, sub]
        exact ⟨_, _, ⟨rfl, rfl⟩, d ++ t, t, c, p2, s2, by simp; omega, by omega, by omega, by omega, by omega, rfl, rfl⟩
      · have m2' : ¬ m = 2 := by omega
        simp [a64, k1, k2, m0, m0', m1, m1', m2, m2', setAt, sub]
        exact ⟨_, _, ⟨rfl, rfl⟩, d, t, c, p2, s2, by omega, by omega, by omega, by omega, by omega, rfl, rfl⟩
theorem c_DrawIsValidRecord (bs : List Int) (hb : Bytes bs) (o : Bool) : ∃ (v : V), fnI pr np 17 [.c (.sl 0 0 bs.length 1)] [byB bs o] = some (v, [byB bs o]) ∧ ∃ a b : Tx, a.length ≤ 20 ∧ b.length ≤ 20 ∧ v = recV a b := by
  obtain ⟨v, h', hF, a, b, p1, s1, ha, hb2, hp1, rfl, rfl⟩ := c_logRecord bs hb o 0 (by omega) 0
  have k1 := call_cur (rest := []) rfl hF 3 0
  refine ⟨_, ?_, a, b, ha, hb2, rfl⟩
  rw [fb (fn := a17) rfl rfl rfl]
  unfold recV curB at *
  simp [a17, k1, setAt, sub]
theorem c_DrawEncodeRecord (bs : List Int) (hb : Bytes bs) (o : Bool) : ∃ (v : V), fnI pr np 18 [.c (.sl 0 0 bs.length 1)] [byB bs o] = some (v, [byB bs o]) ∧ ∃ (k : Int) (a b : Tx), a.length ≤ 20 ∧ b.length ≤ 20 ∧ v = .tup [.c (.int .i64 k), .agg [.str a, .str b]] := by
  obtain ⟨k, p1, s1, hk, hp1, hF1⟩ := c_among bs hb o 0 (by omega) 0 [0, 1, 12, 59, 60, -1] (by decide) (by decide)
  have k1 := call_among (by simp) hF1 3 4 0
  obtain ⟨v, h', hF, a, b, p2, s2, ha, hb2, hp2, rfl, rfl⟩ := c_logRecord bs hb o p1 (by omega) s1
  have k2 := call_cur (rest := []) rfl hF 3 0
  refine ⟨_, ?_, k, a, b, ha, hb2, rfl⟩
  rw [fb (fn := a18) rfl rfl rfl]
  unfold recV curB at *
  simp at k1
  simp [a18, k1, k2, setAt, sub]
theorem c_DrawIsValidLog (bs : List Int) (hb : Bytes bs) (o : Bool) : ∃ (v : V), fnI pr np 22 [.c (.sl 0 0 bs.length 1)] [byB bs o] = some (v, [byB bs o]) ∧ ∃ (d t : Tx) (c : Int), d.length ≤ 1000 ∧ t.length ≤ 1000 ∧ 0 ≤ c ∧ c ≤ 61 ∧ v = logV d t c := by
  obtain ⟨v, h', hF, d, t, c, p1, s1, h1, h2, h3, h4, hp1, rfl, rfl⟩ := c_anyLog bs hb o 0 (by omega) 0
  have k1 := call_cur (rest := []) rfl hF 3 0
  refine ⟨_, ?_, d, t, c, h1, h2, h3, h4, rfl⟩
  rw [fb (fn := a22) rfl rfl rfl]
  unfold logV curB at *
  simp [a22, k1, setAt, sub]
theorem c_DrawCrashLog (bs : List Int) (hb : Bytes bs) (o : Bool) : ∃ (v : V), fnI pr np 35 [.c (.sl 0 0 bs.length 1)] [byB bs o] = some (v, [byB bs o]) ∧ ∃ (d t : Tx) (c k : Int) (q : Bool), d.length ≤ 1000 ∧ t.length ≤ 1000 ∧ 0 ≤ c ∧ c ≤ 61 ∧ v = .tup [.agg [.str d, .str t, .int .i64 c], .c (.int .i64 k), .c (.bool q)] := by
  obtain ⟨v, h', hF, d, t, c, p1, s1, h1, h2, h3, h4, hp1, rfl, rfl⟩ := c_anyLog bs hb o 0 (by omega) 0
  have k1 := call_cur (rest := []) rfl hF 3 0
  obtain ⟨x, p2, s2, hx, hp2, hF2⟩ := c_pick bs hb o p1 (by omega) s1 ((t.length : Int) + 3) (by omega) (by omega)
  have k2 := call_cur (rest := [.c (.int .i64 ((t.length : Int) + 3))]) rfl hF2 3 0
  obtain ⟨q, p3, s3, hp3, hF3⟩ := c_one bs hb o p2 (by omega) s2 2 (by decide) (by decide)
  have k3 := call_cur (rest := [.c (.int .i64 2)]) rfl hF3 3 0
  have w1 : IntKind.i64.wrap ((t.length : Int) + 3) = (t.length : Int) + 3 := wrapI (by omega) (by omega)
  have w2 : IntKind.i64.wrap ((x : Int) - 1) = (x : Int) - 1 := wrapI (by omega) (by omega)
  refine ⟨_, ?_, d, t, c, (x : Int) - 1, q, h1, h2, h3, h4, rfl⟩
  rw [fb (fn := a35) rfl rfl rfl]
  unfold logV curB at *
  simp [-farE, far_nil, far_small, far_3_6, a35, k1, k2, k3, w1, w2, setAt, stillE, madeA, idOf, sub]
end Go.Proofs.YtahfeigilhjgpaaDoor.AM
