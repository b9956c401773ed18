import Derived.Test.YtahfeigilhjgpaaDoorDrawU
/- Contracts: logs are drawn. -/
namespace Go.Proofs.YtahfeigilhjgpaaDoor.AM
open Go
set_option maxRecDepth 1000000
set_option linter.unusedSimpArgs false
set_option linter.unusedVariables false
theorem appT_grow (d p : Tx) (c : Int) (a b : Tx) (ha : a.length ≤ 20) (hb : b.length ≤ 20) (h0 : 0 ≤ c) (h1 : c ≤ 60) : ∃ (d' p' : Tx) (c' e : Int), appT d p c a b = .tup [.agg [.str d', .str p', .int .i64 c'], .c (.int .i64 e)] ∧ d'.length + p'.length ≤ d.length + p.length + 60 ∧ 0 ≤ c' ∧ c' ≤ 60 := by
  unfold appT
  cases validS d p c && recB a b with
  | false => exact ⟨_, _, _, _, rfl, by omega, h0, h1⟩
  | true =>
    by_cases h : c = 60
    · simp only [cond_true, if_pos h]
      exact ⟨_, _, _, _, rfl, by omega, h0, h1⟩
    · simp only [cond_true, if_neg h]
      have t1 := textT_len c.toNat (by omega) a b
      have t2 := (sealT_len (textT c.toNat a b)).1
      have t3 : lineT c.toNat a b = sealT (textT c.toNat a b) := rfl
      refine ⟨_, _, _, _, rfl, ?_, by omega, by omega⟩
      rw [t3]
      simp
      omega
theorem syncT_grow (d p : Tx) (c : Int) (h0 : 0 ≤ c) (h1 : c ≤ 60) : ∃ (d' p' : Tx) (c' : Int) (q : Bool), syncT d p c = .tup [.agg [.str d', .str p', .int .i64 c'], .c (.bool q)] ∧ d'.length + p'.length ≤ d.length + p.length ∧ 0 ≤ c' ∧ c' ≤ 60 := by
  unfold syncT
  cases validS d p c
  · exact ⟨_, _, _, _, rfl, by simp, by omega, by omega⟩
  · exact ⟨_, _, _, _, rfl, by simp, by omega, by omega⟩
/-- farE by rules that the kernel checks fast -/
theorem far_nil (e : Env) (us : List (Nat × Blk)) : farE [] e us = true := by simp [farE]
theorem far_small (a : Nat) (e : Env) (us : List (Nat × Blk)) (h : (decide (a < 1000000)) = true) : farE [a] e us = true := by
  unfold farE
  simp only [List.all_cons, List.all_nil, h, Bool.true_or, Bool.and_true]
  simp
theorem far_gen (a j : Nat) (e : Env) (us : List (Nat × Blk)) (h : (decide (a < 1000000)) = true) : farE [a, 1000000 + j] e us = us.all fun p => decide (idOf (AM.get e j) ≠ some p.1) := by
  unfold farE
  have h2 : decide (1000000 + j < 1000000) = false := decide_eq_false (by omega)
  simp only [List.all_cons, List.all_nil, h, h2, Bool.true_or, Bool.false_or, Bool.true_and, Bool.and_true, Nat.add_sub_cancel_left]
theorem far_2_3 (e : Env) (us : List (Nat × Blk)) : farE [2, 1000003] e us = us.all fun p => decide (idOf (AM.get e 3) ≠ some p.1) := far_gen 2 3 e us (by decide)
theorem far_2_5 (e : Env) (us : List (Nat × Blk)) : farE [2, 1000005] e us = us.all fun p => decide (idOf (AM.get e 5) ≠ some p.1) := far_gen 2 5 e us (by decide)
theorem far_3_6 (e : Env) (us : List (Nat × Blk)) : farE [3, 1000006] e us = us.all fun p => decide (idOf (AM.get e 6) ≠ some p.1) := far_gen 3 6 e us (by decide)
def IvL (bs : List Int) (o : Bool) (N q k : Nat) (st : Env × Heap) : Prop := ∃ (d p : Tx) (c : Int) (p' : Nat) (s' : Int), d.length + p.length ≤ 60 * k ∧ 0 ≤ c ∧ c ≤ 60 ∧ p' ≤ q + 20 * k ∧ st = ([(0, V.c (C.ptr 0 0)), (2, V.c (C.ptr 2 0)), (3, V.c (C.ptr 3 0)), (4, V.c (C.int .i64 ((N : Int) - (k : Int))))], [curB 1 bs.length p' s', byB bs o, Blk.cells [C.str [], C.str [], C.int .i64 0] true, Blk.cells [C.str d, C.str p, C.int .i64 c] true])
def RsL (bs : List Int) (o : Bool) (q : Nat) (r : Ex × Env × Heap) : Prop := ∃ (d p : Tx) (c n : Int) (p' : Nat) (s' : Int), d.length + p.length ≤ 420 ∧ 0 ≤ c ∧ c ≤ 60 ∧ p' ≤ q + 140 ∧ r = (.exit 0, [(0, V.c (C.ptr 0 0)), (2, V.c (C.ptr 2 0)), (3, V.c (C.ptr 3 0)), (4, V.c (C.int .i64 n)), (9, V.c (C.bool false))], [curB 1 bs.length p' s', byB bs o, Blk.cells [C.str [], C.str [], C.int .i64 0] true, Blk.cells [C.str d, C.str p, C.int .i64 c] true])
/-- what a drawn log is -/
def DrawnL (bs : List Int) (o : Bool) (p : Nat) (v : V) (h' : Heap) : Prop := ∃ (d t : Tx) (c : Int) (p' : Nat) (s' : Int), d.length + t.length ≤ 420 ∧ 0 ≤ c ∧ c ≤ 60 ∧ p' ≤ p + 150 ∧ v = logV d t c ∧ h' = [curB 1 bs.length p' s', byB bs o]
set_option maxHeartbeats 8000000 in
theorem c_log12 (bs : List Int) (hb : Bytes bs) (o : Bool) (p : Nat) (hp : p + 1000 < 1000000000) (s : Int) : ∃ (v : V) (h' : Heap), fnI pr np 72 [.c (.ptr 0 0)] [curB 1 bs.length p s, byB bs o] = some (v, h') ∧ DrawnL bs o p v h' := by
  obtain ⟨N, p1, s1, hN, hp1, hF1⟩ := c_pick bs hb o p (by omega) s 7 (by decide) (by decide)
  have k1 := call_cur (rest := [.c (.int .i64 7)]) rfl hF1 0 1
  rw [fb (fn := a72) rfl rfl rfl]
  simp [a72, k1, setAt, stillE, madeA, idOf]
  generalize hX : exI pr np 2 (ACode.loop _ _) _ _ = X
  have hl := loop_exit hX (IvL bs o N p1) N (RsL bs o p1) ⟨([(0, V.c (C.ptr 0 0)), (2, V.c (C.ptr 2 0)), (3, V.c (C.ptr 3 0)), (4, V.c (C.int .i64 (N : Int)))], [curB 1 bs.length p1 s1, byB bs o, Blk.cells [C.str [], C.str [], C.int .i64 0] true, Blk.cells [C.str [], C.str [], C.int .i64 0] true]), by simp, [], [], 0, p1, s1, by simp, by omega, by omega, by omega, by simp⟩ ?_
  · obtain ⟨r, rfl, d, t, c, n, p2, s2, h1, h2, h3, h4, rfl⟩ := hl
    clear hX
    simp [setAt, sub]
    exact ⟨_, _, ⟨rfl, rfl⟩, d, t, c, p2, s2, h1, h2, h3, by omega, rfl, rfl⟩
  · intro k hk st hst
    obtain ⟨d, t, c, p2, s2, h1, h2, h3, h4, rfl⟩ := hst
    by_cases hkN : k < N
    · left
      refine ⟨hkN, ?_⟩
      have hkN' : (0 : Int) < (N : Int) - (k : Int) := by omega
      have wk : IntKind.i64.wrap ((N : Int) - (k : Int) - 1) = (N : Int) - ((k + 1 : Nat) : Int) := (wrapI (by omega) (by omega)).trans (by omega)
      obtain ⟨v, h', hFr, a, b, p3, s3, ha, hb2, hp3, rfl, rfl⟩ := c_logRecord bs hb o p2 (by omega) s2
      have kr := call_cur (rest := []) rfl hFr 0 1
      obtain ⟨d2, t2, c2, e2, hA, g1, g2, g3⟩ := appT_grow d t c a b ha hb2 h2 h3
      have ka := callA_pure ((c_spec_AppendRecord d t c a b (by omega) (by omega) (by omega) (by omega)).trans (by rw [hA])) (by simp [recV]) (by simp)
      obtain ⟨q, p4, s4, hp4, hFo⟩ := c_one bs hb o p3 (by omega) s3 4 (by decide) (by decide)
      have ko := call_cur (rest := [.c (.int .i64 4)]) rfl hFo 0 1
      obtain ⟨d3, t3, c3, e3, hS, g4, g5, g6⟩ := syncT_grow d2 t2 c2 g2 g3
      have ks := callA_pure ((c_spec_SyncLog d2 t2 c2 (by omega) (by omega)).trans (by rw [hS])) (by simp) (by simp)
      unfold recV at *
      cases q with
      | true =>
        simp [-farE, far_nil, far_small, far_2_3, hkN, hkN', wk, kr, ka, ko, ks, setAt, stillE, madeA, idOf, sub]
        exact ⟨d3, t3, c3, p4, s4, by omega, g5, g6, by omega, by simp⟩
      | false =>
        simp [-farE, far_nil, far_small, far_2_3, hkN, hkN', wk, kr, ka, ko, ks, setAt, stillE, madeA, idOf, sub]
        exact ⟨d2, t2, c2, p4, s4, by omega, g2, g3, by omega, by simp⟩
    · right
      have hkN' : ¬ (0 : Int) < (N : Int) - (k : Int) := by omega
      simp [hkN, hkN']
      exact ⟨d, t, c, _, p2, s2, by omega, h2, h3, by omega, rfl⟩
end Go.Proofs.YtahfeigilhjgpaaDoor.AM
