import Derived.Test.YtoaidbmkfdpagaaDrawBar
/- Contracts: bars and serves are drawn out of bytes. -/
namespace Go.Proofs.Ytoaidbmkfdpagaa.AM
open Go
set_option maxRecDepth 1000000
set_option linter.unusedSimpArgs false
set_option linter.unusedVariables false
set_option maxHeartbeats 4000000 in
theorem c_spec_DrawNewBar (bs : List Int) (hb : Bytes bs) (o : Bool) : ∃ (R : List Int), R.length = 24 ∧ fnI pr np 66 [.c (.sl 0 0 bs.length 1)] [byB bs o] = some (.agg (R.map (C.int .i64)), [byB bs o]) := by
  obtain ⟨v, h', hF, R, p1, s1, hR, hp1, rfl, rfl⟩ := c_rack bs hb o 0 (by omega) 0
  have g1 := call_cur (rest := []) rfl hF 3 0
  have r24 := take24 hR
  have hcu : Blk.cells [C.sl 0 0 bs.length 1, C.int .i64 0, C.int .u64 0] true = curB 0 bs.length 0 0 := rfl
  refine ⟨R, hR, ?_⟩
  rw [fb (fn := a66) rfl rfl]
  simp [a66, g1, hcu, hR, r24, setAt_all, sub]
set_option maxHeartbeats 4000000 in
theorem c_spec_DrawDoServe (bs : List Int) (hb : Bytes bs) (o : Bool) : ∃ (R : List Int) (m n k a b c : Int), R.length = 24 ∧ fnI pr np 69 [.c (.sl 0 0 bs.length 1)] [byB bs o] = some (.tup [.agg (barC R m n), .agg [.int .i64 k, .int .i64 a, .int .i64 b, .int .i64 c]], [byB bs o]) := by
  obtain ⟨v, h', hF, R, m, n, p1, s1, hR, hp1, rfl, rfl⟩ := c_bar bs hb o 0 (by omega) 0
  have g1 := call_cur (rest := []) rfl hF 4 0
  obtain ⟨k, a, b, c, p2, s2, hp2, hG⟩ := c_serve12 bs hb o p1 (by omega) s1 R hR
  have g2 := call_cur (rest := [.agg (R.map (C.int .i64))]) (by simp) hG 4 0
  have r24 := take24 hR
  have bR := barC_all hR m n
  have lR := (barC_parts R hR m n).1
  have hr := barC_rack hR m n
  have hcu : Blk.cells [C.sl 0 0 bs.length 1, C.int .i64 0, C.int .u64 0] true = curB 0 bs.length 0 0 := rfl
  have f1 := farE_one (ks := [4, 1000005]) (t := 5) (by decide) (by decide)
  refine ⟨R, m, n, k, a, b, c, hR, ?_⟩
  rw [fb (fn := a69) rfl rfl]
  simp [-farE, f1, a69, g1, g2, hcu, hR, r24, bR, lR, hr, setAt_all, setAt, stillE, madeA, idOf, sub]
def DsI (bs : List Int) (o : Bool) (x P : Nat) (R0 : List Int) (m0 n0 : Int) (k : Nat) (st : Env × Heap) : Prop := ∃ (R : List Int) (m n : Int) (l : List Four) (p' : Nat) (s' : Int), R.length = 24 ∧ l.length ≤ k ∧ p' ≤ P + 30 * k ∧ st = ([(2, V.c (C.ptr 1 0)), (4, V.c (C.ptr 2 0)), (5, V.c (C.ptr 3 0)), (6, V.c (C.sl 4 0 l.length 4)), (7, V.c (C.ptr 5 0)), (8, V.c (C.int .i64 ((x : Int) - (k : Int))))], [byB bs o, Blk.cells (List.replicate 26 (C.int .i64 0)) true, curB 0 bs.length p' s', Blk.cells (barC R0 m0 n0) true, Blk.cells (cF l) true, Blk.cells (barC R m n) true])
def DsE (bs : List Int) (o : Bool) (R0 : List Int) (m0 n0 : Int) (r : Ex × Env × Heap) : Prop := ∃ (R : List Int) (m n : Int) (l : List Four) (p' : Nat) (s' z : Int), R.length = 24 ∧ l.length ≤ 6 ∧ r = (.exit 0, [(2, V.c (C.ptr 1 0)), (4, V.c (C.ptr 2 0)), (5, V.c (C.ptr 3 0)), (6, V.c (C.sl 4 0 l.length 4)), (7, V.c (C.ptr 5 0)), (8, V.c (C.int .i64 z)), (26, V.c (C.bool false))], [byB bs o, Blk.cells (List.replicate 26 (C.int .i64 0)) true, curB 0 bs.length p' s', Blk.cells (barC R0 m0 n0) true, Blk.cells (cF l) true, Blk.cells (barC R m n) true])
def DsP (bs : List Int) (o : Bool) (v : V) (h' : Heap) : Prop := ∃ (R : List Int) (m n : Int) (l : List Four), R.length = 24 ∧ l.length ≤ 6 ∧ v = .tup [.agg (barC R m n), .c (.sl 1 0 l.length 4)] ∧ h' = [byB bs o, Blk.cells (cF l) true]
set_option maxHeartbeats 16000000 in
theorem c_spec_DrawDoServes (bs : List Int) (hb : Bytes bs) (o : Bool) : ∃ (v : V) (h' : Heap), fnI pr np 72 [.c (.sl 0 0 bs.length 1)] [byB bs o] = some (v, h') ∧ DsP bs o v h' := by
  obtain ⟨v, h', hF, R0, m0, n0, p1, s1, hR0, hp1, rfl, rfl⟩ := c_bar bs hb o 0 (by omega) 0
  have g1 := call_cur (rest := []) rfl hF 4 0
  obtain ⟨x, p2, s2, hx, hp2, hG⟩ := c_pick bs hb o p1 (by omega) s1 6 (by decide) (by decide)
  have g2 := call_cur (rest := [.c (.int .i64 6)]) rfl hG 4 0
  have b26 := fun (R : List Int) (hR : R.length = 24) (m n : Int) => barC_all hR m n
  have bl := fun (R : List Int) (hR : R.length = 24) (m n : Int) => (barC_parts R hR m n).1
  have bR0 := b26 R0 hR0 m0 n0
  have lR0 := bl R0 hR0 m0 n0
  have hcu : Blk.cells [C.sl 0 0 bs.length 1, C.int .i64 0, C.int .u64 0] true = curB 0 bs.length 0 0 := rfl
  rw [fb (fn := a72) rfl rfl]
  simp [a72, g1, hcu, hR0, bR0, lR0, g2, setAt_all, sub]
  generalize hX : exI pr np 1 (ACode.loop _ _) _ _ = X
  have hl := loop_exit hX (DsI bs o x p2 R0 m0 n0) 6 (DsE bs o R0 m0 n0) ⟨([(2, V.c (C.ptr 1 0)), (4, V.c (C.ptr 2 0)), (5, V.c (C.ptr 3 0)), (6, V.c (C.sl 4 0 0 4)), (7, V.c (C.ptr 5 0)), (8, V.c (C.int .i64 x))], [byB bs o, Blk.cells (List.replicate 26 (C.int .i64 0)) true, curB 0 bs.length p2 s2, Blk.cells (barC R0 m0 n0) true, Blk.cells [] true, Blk.cells (barC R0 m0 n0) true]), by simp [sub], R0, m0, n0, [], p2, s2, hR0, by simp, by omega, by simp [cF_nil]⟩ ?_
  · obtain ⟨r, rfl, R, m, n, l, p3, s3, z, hR, hl, rfl⟩ := hl
    clear hX
    have hci := cF_ids l
    have hcc : ∀ g, cmp g (cF l) = cF l := fun g => cmp_pure hci
    simp [hR0, bR0, lR0, hci, hcc, setAt_all, setAt, sub]
    first | exact ⟨R0, m0, n0, l, hR0, hl, rfl, rfl⟩ | exact ⟨_, _, ⟨rfl, rfl⟩, R0, m0, n0, l, hR0, hl, rfl, rfl⟩ | exact ⟨_, _, rfl, R0, m0, n0, l, hR0, hl, rfl, rfl⟩
  · intro k hk st hst
    obtain ⟨R, m, n, l, p3, s3, hR, hll, hp3, rfl⟩ := hst
    have bR := b26 R hR m n
    have lR := bl R hR m n
    have h24 := barC_rack hR m n
    have r24 := take24 hR
    have hci := cF_ids l
    have hcc : ∀ g, cmp g (cF l) = cF l := fun g => cmp_pure hci
    have hgood := callA_pure (c_bar_spec R hR m n) (by simp) (by simp)
    by_cases hkx : 0 < (x : Int) - (k : Int)
    · have hkn : k < x := by omega
      cases hq : barOK R m n with
      | false =>
        rw [hq] at hgood
        right
        refine ⟨_, ?_, R, m, n, l, p3, s3, (x : Int) - (k : Int), hR, by omega, rfl⟩
        simp [hkx, hkn, lR, bR, hgood, hci, hcc, sub]
      | true =>
        rw [hq] at hgood
        left
        have k6 : k < 6 := by omega
        refine ⟨k6, ?_⟩
        obtain ⟨kk, a, b, c, p4, s4, hp4, hS⟩ := c_serve12 bs hb o p3 (by omega) s3 R hR
        have g3 := call_cur (rest := [.agg (R.map (C.int .i64))]) (by simp) hS 2 0
        obtain ⟨Rn, xn, yn, qn, hRn, hokn, hdo⟩ := doV_form (m := m) (n := n) hR kk a b c
        have hD := c_spec_l12Do R hR m n kk a b c hq
        rw [hdo] at hD
        have hD := callA_pure hD (by simp) (by simp)
        have bRn := b26 Rn hRn xn yn
        have lRn := bl Rn hRn xn yn
        have wk : IntKind.i64.wrap ((x : Int) - (k : Int) - 1) = (x : Int) - ((k + 1 : Nat) : Int) := (wrapI (by omega) (by omega)).trans (by omega)
        have htk : (cF l).take (l.length * 4) = cF l := List.take_of_length_le (by rw [cF_len]; exact Nat.le_refl _)
        have hcl := cF_len l
        have hfl : cF l ++ [C.int .i64 kk, C.int .i64 a, C.int .i64 b, C.int .i64 c] = cF (l ++ [⟨kk, a, b, c⟩]) := by rw [cF_app]; rfl
        have hln : l.length + 1 = (l ++ [(⟨kk, a, b, c⟩ : Four)]).length := by simp
        have hll2 : (l ++ [(⟨kk, a, b, c⟩ : Four)]).length ≤ k + 1 := by simp; omega
        have hci2 := cF_ids (l ++ [⟨kk, a, b, c⟩])
        generalize l ++ [(⟨kk, a, b, c⟩ : Four)] = l2 at *
        have hcc2 : ∀ g, cmp g (cF l2) = cF l2 := fun g => cmp_pure hci2
        have hroom : l.length + 1 ≤ 68719476736 := by omega
        have hroom2 : l2.length ≤ 68719476736 := by omega
        cases qn with
        | true =>
          refine ⟨([(2, V.c (C.ptr 1 0)), (4, V.c (C.ptr 2 0)), (5, V.c (C.ptr 3 0)), (6, V.c (C.sl 4 0 l2.length 4)), (7, V.c (C.ptr 5 0)), (8, V.c (C.int .i64 ((x : Int) - ((k + 1 : Nat) : Int))))], [byB bs o, Blk.cells (List.replicate 26 (C.int .i64 0)) true, curB 0 bs.length p4 s4, Blk.cells (barC R0 m0 n0) true, Blk.cells (cF l2) true, Blk.cells (barC Rn xn yn) true]), ?_, Rn, xn, yn, l2, p4, s4, hRn, hll2, by omega, rfl⟩
          simp [hkx, hkn, lR, bR, hgood, hci, hcc, h24, hR, r24, g3, hD, lRn, bRn, wk, htk, hcl, hfl, hln, hci2, hcc2, hroom, hroom2, setAt_all, setAt, sub]
        | false =>
          refine ⟨([(2, V.c (C.ptr 1 0)), (4, V.c (C.ptr 2 0)), (5, V.c (C.ptr 3 0)), (6, V.c (C.sl 4 0 l2.length 4)), (7, V.c (C.ptr 5 0)), (8, V.c (C.int .i64 ((x : Int) - ((k + 1 : Nat) : Int))))], [byB bs o, Blk.cells (List.replicate 26 (C.int .i64 0)) true, curB 0 bs.length p4 s4, Blk.cells (barC R0 m0 n0) true, Blk.cells (cF l2) true, Blk.cells (barC R m n) true]), ?_, R, m, n, l2, p4, s4, hR, hll2, by omega, rfl⟩
          simp [hkx, hkn, lR, bR, hgood, hci, hcc, h24, hR, r24, g3, hD, lRn, bRn, wk, htk, hcl, hfl, hln, hci2, hcc2, hroom, hroom2, setAt_all, setAt, sub]
    · have hkn : ¬ k < x := by omega
      right
      refine ⟨_, ?_, R, m, n, l, p3, s3, (x : Int) - (k : Int), hR, by omega, rfl⟩
      simp [hkx, hkn, hci, hcc, sub]
end Go.Proofs.Ytoaidbmkfdpagaa.AM
