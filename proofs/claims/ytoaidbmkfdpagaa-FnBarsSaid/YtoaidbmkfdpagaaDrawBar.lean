import Derived.Test.YtoaidbmkfdpagaaDrawS2
import Derived.Test.YtoaidbmkfdpagaaServes
/- Contracts: a bar is drawn. -/
namespace Go.Proofs.Ytoaidbmkfdpagaa.AM
open Go
set_option maxRecDepth 1000000
set_option linter.unusedSimpArgs false
set_option linter.unusedVariables false
theorem newBar_form (r : List Int) (hr : r.length = 24) : ∃ (R : List Int), R.length = 24 ∧ (okRack r = true → barOK R 0 0 = true) ∧ newBar r = .tup [.agg (barC R 0 0), .c (.bool (okRack r))] := by
  unfold newBar
  cases hq : okRack r with
  | true => exact ⟨r, hr, fun _ => by unfold barOK; rw [hq]; rfl, by simp⟩
  | false => exact ⟨List.replicate 24 0, by simp, (fun h => nomatch h), by simp [barC]⟩
theorem doV_form {r : List Int} {m n : Int} (hr : r.length = 24) (k a b c : Int) : ∃ (R : List Int) (x y : Int) (q : Bool), R.length = 24 ∧ (q = true → barOK R x y = true) ∧ doV r m n k a b c = .tup [.agg (barC R x y), .c (.bool q)] := by
  cases h : srv ⟨r, m, n⟩ ⟨k, a, b, c⟩ with
  | some s' =>
    have h1 := srv_ok h hr
    have h2 := doV_some h
    dsimp only at h2
    exact ⟨s'.r, s'.m, s'.n, true, h1.1, (fun _ => h1.2), h2⟩
  | none =>
    have h2 := doV_none h
    dsimp only at h2
    refine ⟨List.replicate 24 0, 0, 0, false, by simp, (fun h => nomatch h), ?_⟩
    rw [h2]
    simp [barC]
def BaI (bs : List Int) (o q : Bool) (x P k : Nat) (st : Env × Heap) : Prop := ∃ (R : List Int) (m n : Int) (p' : Nat) (s' : Int), R.length = 24 ∧ (q = true → barOK R m n = true) ∧ p' ≤ P + 30 * k ∧ st = ([(0, V.c (C.ptr 0 0)), (2, V.c (C.ptr 2 0)), (3, V.c (C.ptr 3 0)), (4, V.c (C.bool q)), (5, V.c (C.int .i64 ((x : Int) - (k : Int))))], [curB 1 bs.length p' s', byB bs o, Blk.cells (List.replicate 26 (C.int .i64 0)) true, Blk.cells (barC R m n) true])
def BaE (bs : List Int) (o q : Bool) (P : Nat) (r : Ex × Env × Heap) : Prop := ∃ (R : List Int) (m n : Int) (p' : Nat) (s' z : Int), R.length = 24 ∧ p' ≤ P + 180 ∧ r = (.exit 0, [(0, V.c (C.ptr 0 0)), (2, V.c (C.ptr 2 0)), (3, V.c (C.ptr 3 0)), (4, V.c (C.bool q)), (5, V.c (C.int .i64 z)), (20, V.c (C.bool false))], [curB 1 bs.length p' s', byB bs o, Blk.cells (List.replicate 26 (C.int .i64 0)) true, Blk.cells (barC R m n) true])
theorem put_tube {r : List Int} (hr : r.length = 24) (m n : Int) {i : Nat} (hi : i < 6) (a b c d : Int) : ∃ r' : List Int, r'.length = 24 ∧ ((((barC r m n).set (i * 4) (C.int .i64 a)).set (i * 4 + 1) (C.int .i64 b)).set (i * 4 + 1 + 1) (C.int .i64 c)).set (i * 4 + 1 + 1 + 1) (C.int .i64 d) = barC r' m n := by
  refine ⟨(((r.set (i * 4) a).set (i * 4 + 1) b).set (i * 4 + 1 + 1) c).set (i * 4 + 1 + 1 + 1) d, by simp [hr], ?_⟩
  unfold barC
  rw [List.set_append_left _ _ (by simp [hr]; omega), List.set_append_left _ _ (by simp [hr]; omega), List.set_append_left _ _ (by simp [hr]; omega), List.set_append_left _ _ (by simp [hr]; omega)]
  simp [List.map_set]
def BarP (bs : List Int) (o : Bool) (p : Nat) (v : V) (h' : Heap) : Prop := ∃ (R : List Int) (m n : Int) (p' : Nat) (s' : Int), R.length = 24 ∧ p' ≤ p + 700 ∧ v = .agg (barC R m n) ∧ h' = [curB 1 bs.length p' s', byB bs o]
set_option maxHeartbeats 16000000 in
theorem c_bar (bs : List Int) (hb : Bytes bs) (o : Bool) (p : Nat) (hp : p + 3000 < 1000000000) (s : Int) : ∃ (v : V) (h' : Heap), fnI pr np 160 [.c (.ptr 0 0)] [curB 1 bs.length p s, byB bs o] = some (v, h') ∧ BarP bs o p v h' := by
  obtain ⟨R0, p1, s1, hR0, hp1, hF⟩ := c_small3 bs hb o p (by omega) s
  have g1 := call_cur (rest := []) rfl hF 0 1
  have r24 := take24 hR0
  obtain ⟨R1, hR1, hok1, hnb⟩ := newBar_form R0 hR0
  have hN := c_spec_NewBar R0 hR0
  rw [hnb] at hN
  have hN := callA_pure hN (by simp) (by simp)
  obtain ⟨x, p2, s2, hx, hp2, hG⟩ := c_pick bs hb o p1 (by omega) s1 6 (by decide) (by decide)
  have g2 := call_cur (rest := [.c (.int .i64 6)]) rfl hG 0 1
  have b26 := fun (R : List Int) (hR : R.length = 24) (m n : Int) => barC_all hR m n
  have bl := fun (R : List Int) (hR : R.length = 24) (m n : Int) => (barC_parts R hR m n).1
  have bR1 := b26 R1 hR1 0 0
  have lR1 := bl R1 hR1 0 0
  rw [fb (fn := a160) rfl rfl]
  simp [a160, g1, hR0, r24, hN, bR1, lR1, g2, setAt_all, sub]
  generalize okRack R0 = q at *
  generalize hX : exI pr np 2 (ACode.loop _ _) _ _ = X
  have hl := loop_exit hX (BaI bs o q x p2) 6 (BaE bs o q p2) ⟨([(0, V.c (C.ptr 0 0)), (2, V.c (C.ptr 2 0)), (3, V.c (C.ptr 3 0)), (4, V.c (C.bool q)), (5, V.c (C.int .i64 x))], [curB 1 bs.length p2 s2, byB bs o, Blk.cells (List.replicate 26 (C.int .i64 0)) true, Blk.cells (barC R1 0 0) true]), by simp [sub], R1, 0, 0, p2, s2, hR1, hok1, by omega, by simp⟩ ?_
  · obtain ⟨r, rfl, R, m, n, p3, s3, z, hR, hp3, rfl⟩ := hl
    clear hX
    have bR := b26 R hR m n
    have lR := bl R hR m n
    obtain ⟨y, p4, s4, hy, hp4, hH⟩ := c_pick bs hb o p3 (by omega) s3 48 (by decide) (by decide)
    have g3 := call_cur (rest := [.c (.int .i64 48)]) rfl hH 0 1
    obtain ⟨u, p5, s5, hu, hp5, hJ⟩ := c_among bs hb o p4 (by omega) s4 [-1, 1000, 1001] (by decide) (by decide)
    have g4 := call_among (by simp) hJ 0 4 1
    obtain ⟨w, p6, s6, hw, hp6, hL⟩ := c_among bs hb o p4 (by omega) s4 [-1, 9999, 10000, 1] (by decide) (by decide)
    have g5 := call_among (by simp) hL 0 4 1
    obtain ⟨i, p7, s7, hi, hp7, hM⟩ := c_pick bs hb o p4 (by omega) s4 6 (by decide) (by decide)
    have g6 := call_cur (rest := [.c (.int .i64 6)]) rfl hM 0 1
    simp at g4 g5
    have i6 : i < 6 := by omega
    have i6' : (i : Int) < 6 := by omega
    have b1 : i * 4 + 4 ≤ 26 := by omega
    have b2 : i * 4 + 4 ≤ 24 := by omega
    have e1 := barC_setn hR m n u
    have e2 := barC_setm hR m n w
    obtain ⟨R', hR', e3⟩ := put_tube hR m n i6 0 0 1 0
    have bR' := b26 R' hR' m n
    have lR' := bl R' hR' m n
    have bu := b26 R hR m u
    have lu := bl R hR m u
    have bw := b26 R hR w n
    have lw := bl R hR w n
    by_cases h0 : y = 0
    · subst h0
      simp [g3, g4, lR, bR, e1, bu, lu, setAt_all, setAt, sub]
      first | exact ⟨R, m, u, p5, s5, hR, by omega, rfl, rfl⟩ | exact ⟨_, _, ⟨rfl, rfl⟩, R, m, u, p5, s5, hR, by omega, rfl, rfl⟩ | exact ⟨_, _, rfl, R, m, u, p5, s5, hR, by omega, rfl, rfl⟩
    · have y0 : ¬ (y : Int) = 0 := by omega
      have y0b : ((y : Int) == 0) = false := beq_eq_false_iff_ne.2 y0
      by_cases h1 : y = 1
      · subst h1
        simp [g3, g5, lR, bR, e2, bw, lw, setAt_all, setAt, sub]
        first | exact ⟨R, w, n, p6, s6, hR, by omega, rfl, rfl⟩ | exact ⟨_, _, ⟨rfl, rfl⟩, R, w, n, p6, s6, hR, by omega, rfl, rfl⟩ | exact ⟨_, _, rfl, R, w, n, p6, s6, hR, by omega, rfl, rfl⟩
      · have y1 : ¬ (y : Int) = 1 := by omega
        have y1b : ((y : Int) == 1) = false := beq_eq_false_iff_ne.2 y1
        by_cases h2 : y = 2
        · subst h2
          simp [g3, g6, lR, bR, i6, i6', b1, b2, e3, bR', lR', setAt_all, setAt, sub]
          first | exact ⟨R', m, n, p7, s7, hR', by omega, rfl, rfl⟩ | exact ⟨_, _, ⟨rfl, rfl⟩, R', m, n, p7, s7, hR', by omega, rfl, rfl⟩ | exact ⟨_, _, rfl, R', m, n, p7, s7, hR', by omega, rfl, rfl⟩
        · have y2 : ¬ (y : Int) = 2 := by omega
          have y2b : ((y : Int) == 2) = false := beq_eq_false_iff_ne.2 y2
          simp [g3, lR, bR, h0, y0, y0b, h1, y1, y1b, h2, y2, y2b, setAt_all, setAt, sub]
          first | exact ⟨R, m, n, p4, s4, hR, by omega, rfl, rfl⟩ | exact ⟨_, _, ⟨rfl, rfl⟩, R, m, n, p4, s4, hR, by omega, rfl, rfl⟩ | exact ⟨_, _, rfl, R, m, n, p4, s4, hR, by omega, rfl, rfl⟩
  · intro k hk st hst
    obtain ⟨R, m, n, p3, s3, hR, hok, hp3, rfl⟩ := hst
    have bR := b26 R hR m n
    have lR := bl R hR m n
    by_cases hkx : 0 < (x : Int) - (k : Int)
    · have hkn : k < x := by omega
      cases q with
      | false =>
        right
        refine ⟨_, ?_, R, m, n, p3, s3, (x : Int) - (k : Int), hR, by omega, rfl⟩
        simp [hkx, hkn, sub]
      | true =>
        left
        have k6 : k < 6 := by omega
        refine ⟨k6, ?_⟩
        have hbo := hok rfl
        have h24 := barC_rack hR m n
        obtain ⟨kk, a, b, c, p4, s4, hp4, hS⟩ := c_serve12 bs hb o p3 (by omega) s3 R hR
        have g3 := call_cur (rest := [.agg (R.map (C.int .i64))]) (by simp) hS 0 1
        obtain ⟨Rn, xn, yn, qn, hRn, hokn, hdo⟩ := doV_form (m := m) (n := n) hR kk a b c
        have hD := c_spec_l12Do R hR m n kk a b c hbo
        rw [hdo] at hD
        have hD := callA_pure hD (by simp) (by simp)
        have bRn := b26 Rn hRn xn yn
        have lRn := bl Rn hRn xn yn
        have r24' := take24 hR
        have f1 := farE_one (ks := [4, 1000003]) (t := 3) (by decide) (by decide)
        have wk : IntKind.i64.wrap ((x : Int) - (k : Int) - 1) = (x : Int) - ((k + 1 : Nat) : Int) := (wrapI (by omega) (by omega)).trans (by omega)
        cases qn with
        | true =>
          refine ⟨([(0, V.c (C.ptr 0 0)), (2, V.c (C.ptr 2 0)), (3, V.c (C.ptr 3 0)), (4, V.c (C.bool true)), (5, V.c (C.int .i64 ((x : Int) - ((k + 1 : Nat) : Int))))], [curB 1 bs.length p4 s4, byB bs o, Blk.cells (List.replicate 26 (C.int .i64 0)) true, Blk.cells (barC Rn xn yn) true]), ?_, Rn, xn, yn, p4, s4, hRn, fun _ => hokn rfl, by omega, rfl⟩
          simp [-farE, f1, hkx, hkn, lR, bR, h24, hR, r24', g3, hD, lRn, bRn, wk, setAt_all, setAt, stillE, madeA, idOf, sub]
        | false =>
          refine ⟨([(0, V.c (C.ptr 0 0)), (2, V.c (C.ptr 2 0)), (3, V.c (C.ptr 3 0)), (4, V.c (C.bool true)), (5, V.c (C.int .i64 ((x : Int) - ((k + 1 : Nat) : Int))))], [curB 1 bs.length p4 s4, byB bs o, Blk.cells (List.replicate 26 (C.int .i64 0)) true, Blk.cells (barC R m n) true]), ?_, R, m, n, p4, s4, hR, hok, by omega, rfl⟩
          simp [-farE, f1, hkx, hkn, lR, bR, h24, hR, r24', g3, hD, lRn, bRn, wk, setAt_all, setAt, stillE, madeA, idOf, sub]
    · have hkn : ¬ k < x := by omega
      right
      refine ⟨_, ?_, R, m, n, p3, s3, (x : Int) - (k : Int), hR, by omega, rfl⟩
      simp [hkx, hkn, sub]
end Go.Proofs.Ytoaidbmkfdpagaa.AM
