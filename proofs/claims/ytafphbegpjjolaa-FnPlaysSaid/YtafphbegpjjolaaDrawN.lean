import Derived.Test.YtafphbegpjjolaaDrawM
/- Contracts: plain racks and choices of a mix are drawn out of bytes. -/
namespace Go.Proofs.Ytafphbegpjjolaa.AM
open Go
set_option maxRecDepth 1000000
set_option linter.unusedSimpArgs false
set_option linter.unusedVariables false
theorem takeN6 {m : List Int} (h : m.length = 6) : (m.map (C.int .i64)).take 6 = m.map (C.int .i64) := List.take_of_length_le (by simp; omega)
theorem put_six6 {m : List Int} (hm : m.length = 6) (i : Nat) (x : Int) : ∃ m' : List Int, m'.length = 6 ∧ (m.map (C.int .i64)).set i (C.int .i64 x) = m'.map (C.int .i64) := ⟨m.set i x, by simp [hm], set_ints m i x⟩
def P6 (v : V) : Prop := ∃ m : List Int, m.length = 6 ∧ v = .agg (m.map (C.int .i64))
def z6 : List C := [.int .i64 0, .int .i64 0, .int .i64 0, .int .i64 0, .int .i64 0, .int .i64 0]
def DpI (bs : List Int) (o : Bool) (k : Nat) (st : Env × Heap) : Prop := ∃ (m : List Int) (p' : Nat) (s' : Int), m.length = 6 ∧ p' ≤ 2 * k ∧ st = ([(2, V.c (C.ptr 1 0)), (3, V.c (C.ptr 2 0)), (4, V.c (C.ptr 3 0)), (5, V.c (C.int .i64 ((k + 1 : Nat) : Int)))], [byB bs o, Blk.cells z6 true, curB 0 bs.length p' s', Blk.cells (m.map (C.int .i64)) true])
def DpE (bs : List Int) (o : Bool) (r : Ex × Env × Heap) : Prop := ∃ (m : List Int) (p' : Nat) (s' x : Int), m.length = 6 ∧ p' ≤ 10 ∧ r = (.exit 0, [(2, V.c (C.ptr 1 0)), (3, V.c (C.ptr 2 0)), (4, V.c (C.ptr 3 0)), (5, V.c (C.int .i64 x)), (11, V.c (C.bool false))], [byB bs o, Blk.cells z6 true, curB 0 bs.length p' s', Blk.cells (m.map (C.int .i64)) true])
set_option maxHeartbeats 4000000 in
theorem c_spec_DrawPlainRack (bs : List Int) (hb : Bytes bs) (o : Bool) : ∃ v, fnI pr np 60 [.c (.sl 0 0 bs.length 1)] [byB bs o] = some (v, [byB bs o]) ∧ P6 v := by
  have hcu : Blk.cells [C.sl 0 0 bs.length 1, C.int .i64 0, C.int .u64 0] true = curB 0 bs.length 0 0 := rfl
  rw [fb (fn := a60) rfl rfl]
  simp [a60, hcu, setAt_all, sub]
  generalize hX : exI pr np 1 (ACode.loop _ _) _ _ = X
  have hl := loop_exit hX (DpI bs o) 5 (DpE bs o) ⟨([(2, V.c (C.ptr 1 0)), (3, V.c (C.ptr 2 0)), (4, V.c (C.ptr 3 0)), (5, V.c (C.int .i64 1))], [byB bs o, Blk.cells z6 true, curB 0 bs.length 0 0, Blk.cells z6 true]), by simp [z6, sub], [0, 0, 0, 0, 0, 0], 0, 0, rfl, by omega, rfl⟩ ?_
  · obtain ⟨r, rfl, m, p1, s1, x, hm, hp1, rfl⟩ := hl
    clear hX
    obtain ⟨q, p2, s2, hp2, hG2⟩ := c_one bs hb o p1 (by omega) s1 24 (by decide) (by decide)
    have g2 := call_cur (rest := [.c (.int .i64 24)]) rfl hG2 2 0
    cases q with
    | false =>
      have m6 := takeN6 hm
      simp [g2, hm, m6, z6, setAt_all, sub]
      exact ⟨m, hm, rfl⟩
    | true =>
      obtain ⟨k, p3, s3, hk, hp3, hG3⟩ := c_pick bs hb o p2 (by omega) s2 6 (by decide) (by decide)
      have g3 := call_cur (rest := [.c (.int .i64 6)]) rfl hG3 2 0
      obtain ⟨y, p4, s4, hy, hp4, hG4⟩ := c_among bs hb o p3 (by omega) s3 [-1, 5, 1, 4611686018427387904] (by decide) (by decide)
      have g4 := call_among (by simp) hG4 2 4 0
      simp at g4
      have hk6 : k < 6 := by omega
      have hk6' : (k : Int) < 6 := by omega
      have bk : k + 1 ≤ 6 := hk6
      obtain ⟨m', hm', hset⟩ := put_six6 hm k y
      have m6 := takeN6 hm'
      simp [g2, g3, g4, hm, hm', m6, hk6', bk, hset, z6, setAt_all, setAt, sub]
      exact ⟨m', hm', rfl⟩
  · rintro k hk st ⟨m, p1, s1, hm, hp1, rfl⟩
    by_cases hk5 : k = 5
    · subst hk5
      right
      simp
      exact ⟨m, p1, s1, 6, hm, by omega, rfl⟩
    · have hkl : k < 5 := by omega
      have hk5' : ((k + 1 : Nat) : Int) ≤ 5 := by omega
      have hk6' : ((k + 1 : Nat) : Int) < 6 := by omega
      have h0k : (0 : Int) ≤ ((k + 1 : Nat) : Int) := by omega
      have htn : ((k + 1 : Nat) : Int).toNat = k + 1 := rfl
      have b1 : k + 1 + 1 ≤ 6 := by omega
      have wk : IntKind.i64.wrap (((k + 1 : Nat) : Int) + 1) = ((k + 1 + 1 : Nat) : Int) := wrapS (by omega)
      obtain ⟨y, p4, s4, hy, hp4, hG4⟩ := c_among bs hb o p1 (by omega) s1 [4, 3, 2, 0, 4, 1] (by decide) (by decide)
      have g4 := call_among (by simp) hG4 2 4 0
      simp at g4
      obtain ⟨m', hm', hset⟩ := put_six6 hm (k + 1) y
      generalize hK : ((k + 1 : Nat) : Int) = K at *
      left
      refine ⟨hkl, ?_⟩
      simp [hk5', hk6', h0k, htn, b1, wk, g4, hm, hset, z6, setAt, sub]
      first | exact ⟨m', p4, s4, hm', by omega, by simp [z6]⟩ | exact ⟨_, _, ⟨rfl, rfl⟩, m', p4, s4, hm', by omega, by simp [z6]⟩
def ChP (n : Nat) (v : V) : Prop := ∃ (R : List Int), R.length = 24 ∧ v = .tup [.agg (R.map (C.int .i64)), .c (.sl 1 0 n 1)]
def MxI (bs : List Int) (o : Bool) (R : List Int) (p : Nat) (T k : Nat) (st : Env × Heap) : Prop := ∃ (cs : List Int) (p' : Nat) (s' : Int), cs.length = k ∧ p' ≤ p + 2 * k ∧ st = ([(2, V.c (C.ptr 1 0)), (4, V.c (C.ptr 2 0)), (5, V.c (C.ptr 3 0)), (7, V.c (C.sl 4 0 k 1)), (8, V.c (C.int .i64 ((T : Int) - (k : Nat))))], [byB bs o, Blk.cells (List.replicate 24 (C.int .i64 0)) true, curB 0 bs.length p' s', Blk.cells (R.map (C.int .i64)) true, Blk.cells (cs.map (C.int .i64)) true])
def MxE (bs : List Int) (o : Bool) (R : List Int) (p : Nat) (T : Nat) (r : Ex × Env × Heap) : Prop := ∃ (cs : List Int) (p' : Nat) (s' x : Int), cs.length = T ∧ p' ≤ p + 2 * T ∧ r = (.exit 0, [(2, V.c (C.ptr 1 0)), (4, V.c (C.ptr 2 0)), (5, V.c (C.ptr 3 0)), (7, V.c (C.sl 4 0 T 1)), (8, V.c (C.int .i64 x)), (32, V.c (C.bool false))], [byB bs o, Blk.cells (List.replicate 24 (C.int .i64 0)) true, curB 0 bs.length p' s', Blk.cells (R.map (C.int .i64)) true, Blk.cells (cs.map (C.int .i64)) true])
def DmP (bs : List Int) (o : Bool) (v : V) (h' : Heap) : Prop := ∃ (R cs : List Int), R.length = 24 ∧ cs.length ≤ 21 ∧ v = .tup [.agg (R.map (C.int .i64)), .c (.sl 1 0 cs.length 1)] ∧ h' = [byB bs o, Blk.cells (cs.map (C.int .i64)) true]
theorem callN_slz {F : Fns} {f n sz : Nat} {rest : List V} {b : Blk} {v : V} {ns : Heap} (hre : rest.flatMap V.ids = []) (hbi : b.ids = []) (hF : F f (.c (.sl 0 0 n sz) :: rest) [b] = some (v, b :: ns)) (i : Nat) (H : HF) (base : Nat) (hb : (H i == some b) = true) :
    callA F f (.c (.sl i 0 n sz) :: rest) H base = some (v.mp (back [i] base), ns.map (Blk.mp (back [i] base)), [(i, b)]) := by
  have hb : H i = some b := by simpa using hb
  exact callA_one (x := .c (.sl i 0 n sz)) hb (by simp) (by simp) hre hbi hF base
set_option maxHeartbeats 8000000 in
theorem c_spec_DrawMixedBy (bs : List Int) (hb : Bytes bs) (o : Bool) : ∃ v h', fnI pr np 29 [.c (.sl 0 0 bs.length 1)] [byB bs o] = some (v, h') ∧ DmP bs o v h' := by
  have hcu : Blk.cells [C.sl 0 0 bs.length 1, C.int .i64 0, C.int .u64 0] true = curB 0 bs.length 0 0 := rfl
  obtain ⟨_, hF6, m6, hm6, rfl⟩ := c_spec_DrawPlainRack bs hb o
  have g6 := callN_slz (rest := []) rfl (by simp) hF6 0
  obtain ⟨_, hFp, R0, b0, hR0, rfl⟩ := c_spec_PlainRack m6 hm6
  have gp := callA_pure hFp (by simp) (by simp)
  obtain ⟨q1, p1, s1, hp1, hG1⟩ := c_one bs hb o 0 (by omega) 0 4 (by decide) (by decide)
  have g1 := call_cur (rest := [.c (.int .i64 4)]) rfl hG1 4 0
  rw [fb (fn := a29) rfl rfl]
  simp only [a29]
  generalize hC : (ACode.seq (ACode.region (AOper.mk (some 22) none _ :: _) _) _) = cC
  have main : ∀ (z : Env) (R : List Int) (p : Nat) (s : Int), R.length = 24 → p ≤ 500 → ∃ v h', leaveK 1 [RV.cell 2 24 true, RV.t 3] (exI pr np 1 cC ((2, V.c (C.ptr 1 0)) :: (4, V.c (C.ptr 4 0)) :: (5, V.c (C.ptr 5 0)) :: z) [byB bs o, Blk.cells (List.replicate 24 (C.int .i64 0)) true, Blk.cells [] true, Blk.cells [] true, curB 0 bs.length p s, Blk.cells (R.map (C.int .i64)) true]) = some (v, h') ∧ DmP bs o v h' := by
    intro z R p s hR hp
    have r24 := take24 hR
    obtain ⟨y, p1, s1, hy, hp1, hG1⟩ := c_pick bs hb o p (by omega) s 24 (by decide) (by decide)
    have g1 := call_cur (rest := [.c (.int .i64 24)]) rfl hG1 4 0
    have hq : (y : Int).tdiv 22 = ((y / 22 : Nat) : Int) := rfl
    obtain ⟨m, hm⟩ : ∃ m, m = 7 + y / 22 := ⟨_, rfl⟩
    have w1 : IntKind.i64.wrap ((y / 22 : Nat) : Int) = ((y / 22 : Nat) : Int) := wrapI (by omega) (by omega)
    have w2 : IntKind.i64.wrap (7 + ((y / 22 : Nat) : Int)) = (m : Int) := (wrapI (by omega) (by omega)).trans (by omega)
    have hm8 : m ≤ 8 := by omega
    have hm8' : (m : Int) ≤ 8 := by omega
    obtain ⟨x, p2, s2, hx, hp2, hG2⟩ := c_amongP bs hb o p1 (by omega) s1 [3, 5, 2, 8, 1, 0, 20, 21] m (by omega) (by simpa using hm8) (by omega)
    have hx := lit_range (lo := 0) (hi := 21) (by decide) hx
    have g2 := call_among (by simp) hG2 4 7 0
    simp at g2
    obtain ⟨T, rfl⟩ := Int.eq_ofNat_of_zero_le hx.1
    have hT : T ≤ 21 := by omega
    rw [← hC]
    generalize hZ : ((y / 22 : Nat) : Int) = z' at *
    simp [g1, hq, w1, w2, hm8, hm8', g2, sub]
    generalize hX : exI pr np 1 (ACode.loop _ _) _ _ = X
    have hl := loop_exit hX (MxI bs o R p2 T) T (MxE bs o R p2 T) ⟨([(2, V.c (C.ptr 1 0)), (4, V.c (C.ptr 2 0)), (5, V.c (C.ptr 3 0)), (7, V.c (C.sl 4 0 0 1)), (8, V.c (C.int .i64 T))], [byB bs o, Blk.cells (List.replicate 24 (C.int .i64 0)) true, curB 0 bs.length p2 s2, Blk.cells (R.map (C.int .i64)) true, Blk.cells [] true]), by simp [sub], [], p2, s2, rfl, by omega, by simp⟩ ?_
    · obtain ⟨r, rfl, cs, p3, s3, x3, hcs, hp3, rfl⟩ := hl
      clear hX
      obtain ⟨q, p4, s4, hp4, hG4⟩ := c_one bs hb o p3 (by omega) s3 24 (by decide) (by decide)
      have g4 := call_cur (rest := [.c (.int .i64 24)]) rfl hG4 2 0
      by_cases hT0 : T = 0
      · subst hT0
        have hcs0 : cs = [] := List.eq_nil_of_length_eq_zero hcs
        subst hcs0
        simp [hR, r24, setAt_all, sub]
        first | exact ⟨R, [], hR, by simp, rfl, rfl⟩ | exact ⟨_, _, ⟨rfl, rfl⟩, R, [], hR, by simp, rfl, rfl⟩
      · have hT1 : 0 < T := by omega
        cases q with
        | false =>
          simp [hT1, g4, hR, r24, setAt_all, sub]
          first | exact ⟨R, cs, hR, by omega, by rw [hcs], rfl⟩ | exact ⟨_, _, ⟨rfl, rfl⟩, R, cs, hR, by omega, by rw [hcs], rfl⟩
        | true =>
          obtain ⟨y5, p5, s5, hy5, hp5, hG5⟩ := c_among bs hb o p4 (by omega) s4 [-1, 4611686018427387904] (by decide) (by decide)
          have g5 := call_among (by simp) hG5 2 5 0
          simp at g5
          have hl1 : 1 ≤ cs.length := by omega
          obtain ⟨cs', hcs', hset⟩ : ∃ cs' : List Int, cs'.length = T ∧ (cs.map (C.int .i64)).set 0 (C.int .i64 y5) = cs'.map (C.int .i64) := ⟨cs.set 0 y5, by simp [hcs], set_ints cs 0 y5⟩
          simp [hT1, g4, g5, hR, r24, hl1, hset, setAt_all, setAt, sub]
          first | exact ⟨R, cs', hR, by omega, by rw [hcs'], rfl⟩ | exact ⟨_, _, ⟨rfl, rfl⟩, R, cs', hR, by omega, by rw [hcs'], rfl⟩
    · rintro k hk st ⟨cs, p3, s3, hcs, hp3, rfl⟩
      by_cases hkT : k = T
      · subst hkT
        right
        simp
        exact ⟨cs, p3, s3, 0, hcs, by omega, by simp⟩
      · have hkl : k < T := by omega
        have hpos : (0 : Int) < (T : Int) - (k : Int) := by omega
        have hkT' : (k : Int) < (T : Int) := by omega
        obtain ⟨y5, p5, s5, hy5, hp5, hG5⟩ := c_pick bs hb o p3 (by omega) s3 200 (by decide) (by decide)
        have g5 := call_cur (rest := [.c (.int .i64 200)]) rfl hG5 2 0
        have wk : IntKind.i64.wrap ((T : Int) - (k : Int) - 1) = (T : Int) - ((k + 1 : Nat) : Int) := (wrapI (by omega) (by omega)).trans (by omega)
        have b1 : k + 1 ≤ 68719476736 := by omega
        have tk : (cs.map (C.int .i64)).take k = cs.map (C.int .i64) := List.take_of_length_le (by simp; omega)
        have happ : cs.map (C.int .i64) ++ [C.int .i64 (y5 : Int)] = (cs ++ [(y5 : Int)]).map (C.int .i64) := by simp
        left
        refine ⟨hkl, ?_⟩
        simp [hpos, hkT', hkl, g5, wk, b1, hcs, tk, sub]
        rw [happ]
        exact ⟨cs ++ [(y5 : Int)], p5, s5, by simp [hcs], by omega, by simp⟩
  obtain ⟨v1, h1, hF1, R1, p2, s2, hR1, hp2, rfl, rfl⟩ := c_rack bs hb o p1 (by omega) s1
  have g2 := call_cur (rest := []) rfl hF1 4 0
  have r1 := take24 hR1
  cases q1 with
  | false =>
    have := main [(19, V.c (C.bool false))] R0 p1 s1 hR0 (by omega)
    simpa [hcu, g6, gp, g1, hR0, setAt_all, sub] using this
  | true =>
    have := main [] R1 p2 s2 hR1 (by omega)
    simpa [hcu, g6, gp, g1, g2, hR0, hR1, setAt_all, sub] using this
end Go.Proofs.Ytafphbegpjjolaa.AM
