import Derived.Test.YtahfeigilhjgpaaDoorDrawX
/- Contracts: what the laws of logs draw: long logs, texts. -/
namespace Go.Proofs.YtahfeigilhjgpaaDoor.AM
open Go
set_option maxRecDepth 1000000
set_option linter.unusedSimpArgs false
set_option linter.unusedVariables false
def stY (bs : List Int) (o : Bool) (p1 : Nat) (s1 : Int) (d t : Tx) (c n : Int) : Env × Heap := ([(2, V.c (C.ptr 1 0)), (3, V.c (C.ptr 2 0)), (4, V.c (C.ptr 3 0)), (5, V.c (C.ptr 4 0)), (6, V.c (C.int .i64 n))], [byB bs o, Blk.cells [C.str [], C.str [], C.int .i64 0] true, Blk.cells [C.str [], C.str []] true, Blk.cells [C.sl 0 0 bs.length 1, C.int .i64 p1, C.int .u64 s1] true, Blk.cells [C.str d, C.str t, C.int .i64 c] true])
def IvY (bs : List Int) (o : Bool) (p1 : Nat) (s1 : Int) (N k : Nat) (st : Env × Heap) : Prop := ∃ (d t : Tx) (c : Int), d.length + t.length ≤ 60 * k ∧ 0 ≤ c ∧ c ≤ 60 ∧ st = stY bs o p1 s1 d t c ((N : Int) - (k : Int))
def RsY (bs : List Int) (o : Bool) (p1 : Nat) (s1 : Int) (r : Ex × Env × Heap) : Prop := ∃ (d t : Tx) (c n : Int), d.length + t.length ≤ 3600 ∧ 0 ≤ c ∧ c ≤ 60 ∧ r = (.exit 0, [(2, V.c (C.ptr 1 0)), (3, V.c (C.ptr 2 0)), (4, V.c (C.ptr 3 0)), (5, V.c (C.ptr 4 0)), (6, V.c (C.int .i64 n)), (19, V.c (C.bool false))], (stY bs o p1 s1 d t c n).2)
set_option maxHeartbeats 8000000 in
theorem c_DrawAppendRecord (bs : List Int) (hb : Bytes bs) (o : Bool) : ∃ (v : V), fnI pr np 23 [.c (.sl 0 0 bs.length 1)] [byB bs o] = some (v, [byB bs o]) ∧ ∃ (d t : Tx) (c : Int) (a b : Tx), d.length ≤ 4000 ∧ t.length ≤ 4000 ∧ 0 ≤ c ∧ c ≤ 61 ∧ a.length ≤ 20 ∧ b.length ≤ 20 ∧ v = .tup [.agg [.str d, .str t, .int .i64 c], .agg [.str a, .str b]] := by
  obtain ⟨v, h', hF, d, t, c, p1, s1, h1, h2, h3, h4, hp1, rfl, rfl⟩ := c_anyLog bs hb o 0 (by omega) 0
  have k1 := call_cur (rest := []) rfl hF 4 0
  obtain ⟨q, p2, s2, hp2, hF2⟩ := c_one bs hb o p1 (by omega) s1 40 (by decide) (by decide)
  have k2 := call_cur (rest := [.c (.int .i64 40)]) rfl hF2 4 0
  rw [fb (fn := a23) rfl rfl rfl]
  unfold logV curB at *
  cases q with
  | false =>
    obtain ⟨v, h', hF3, a, b, p3, s3, ha, hb2, hp3, rfl, rfl⟩ := c_logRecord bs hb o p2 (by omega) s2
    have k3 := call_cur (rest := []) rfl hF3 4 0
    refine ⟨_, ?_, d, t, c, a, b, by omega, by omega, h3, h4, ha, hb2, rfl⟩
    unfold recV curB at *
    simp [-farE, far_nil, far_small, far_2_5, a23, k1, k2, k3, setAt, stillE, madeA, idOf, sub]
  | true =>
    obtain ⟨x, p3, s3, hx, hp3, hF3⟩ := c_pick bs hb o p2 (by omega) s2 2 (by decide) (by decide)
    have k3 := call_cur (rest := [.c (.int .i64 2)]) rfl hF3 4 0
    obtain ⟨M, hM, hM6⟩ : ∃ M : Nat, M = 59 + x ∧ M ≤ 60 := ⟨_, rfl, by omega⟩
    have w1 : IntKind.i64.wrap (59 + (x : Int)) = (M : Int) := (wrapI (by omega) (by omega)).trans (by omega)
    unfold curB at *
    simp [a23, k1, k2, k3, w1, setAt, stillE, madeA, idOf, sub]
    generalize hX : exI pr np 1 (ACode.loop _ _) _ _ = X
    have hl := loop_exit hX (IvY bs o p3 s3 M) M (RsY bs o p3 s3) ⟨stY bs o p3 s3 [] [] 0 (M : Int), by simp [stY], [], [], 0, by simp, by omega, by omega, by simp⟩ ?_
    · obtain ⟨r, rfl, d2, t2, c2, n, g1, g2, g3, rfl⟩ := hl
      clear hX
      obtain ⟨v, h', hF4, a, b, p4, s4, ha, hb2, hp4, rfl, rfl⟩ := c_logRecord bs hb o p3 (by omega) s3
      have k4 := call_cur (rest := []) rfl hF4 3 0
      unfold recV curB at *
      simp [-farE, far_nil, far_small, far_2_5, stY, k4, setAt, stillE, madeA, idOf, sub]
      exact ⟨d2, by omega, t2, by omega, c2, g2, by omega, a, ha, b, hb2, ⟨rfl, rfl, rfl⟩, rfl, rfl⟩
    · intro k hk st hst
      obtain ⟨d2, t2, c2, g1, g2, g3, rfl⟩ := hst
      by_cases hkN : k < M
      · left
        refine ⟨hkN, ?_⟩
        have hkN' : (0 : Int) < (M : Int) - (k : Int) := by omega
        have wk : IntKind.i64.wrap ((M : Int) - (k : Int) - 1) = (M : Int) - ((k : Int) + 1) := (wrapI (by omega) (by omega)).trans (by omega)
        obtain ⟨d3, t3, c3, e3, hA, g4, g5, g6⟩ := appT_grow d2 t2 c2 [120] [] (by decide) (by decide) g2 g3
        have ka := callA_pure ((c_spec_AppendRecord d2 t2 c2 [120] [] (by omega) (by omega) (by decide) (by decide)).trans (by rw [hA])) (by simp [recV]) (by simp)
        unfold recV at *
        simp [stY, hkN, hkN', wk, ka, setAt, stillE, madeA, idOf, sub]
        first | exact ⟨d3, t3, c3, by omega, g5, g6, by simp [stY]⟩ | exact ⟨_, _, rfl, d3, t3, c3, by omega, g5, g6, by simp [stY]⟩ | exact ⟨_, _, ⟨rfl, rfl⟩, d3, t3, c3, by omega, g5, g6, by simp [stY]⟩
      · right
        have hkN' : ¬ (0 : Int) < (M : Int) - (k : Int) := by omega
        simp [stY, hkN, hkN']
        first | exact ⟨d2, t2, c2, _, by omega, g2, g3, rfl⟩ | exact ⟨_, _, _, rfl, d2, t2, c2, _, by omega, g2, g3, rfl⟩ | exact ⟨_, _, _, ⟨rfl, rfl, rfl⟩, d2, t2, c2, _, by omega, g2, g3, rfl⟩
end Go.Proofs.YtahfeigilhjgpaaDoor.AM
