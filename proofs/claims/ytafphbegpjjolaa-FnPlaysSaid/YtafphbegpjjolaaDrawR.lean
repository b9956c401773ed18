import Derived.Test.YtafphbegpjjolaaDraw
import Derived.Test.YtafphbegpjjolaaServeDefs
/- Contracts: a rack is drawn. -/
namespace Go.Proofs.Ytafphbegpjjolaa.AM
open Go
set_option maxRecDepth 1000000
set_option linter.unusedSimpArgs false
set_option linter.unusedVariables false
/-- a value that lies in a list of literals lies between bounds -/
theorem lit_range {xs : List Int} {x lo hi : Int} (h : (xs.all fun y => decide (lo ≤ y) && decide (y ≤ hi)) = true) (hx : x ∈ xs) : lo ≤ x ∧ x ≤ hi := by
  have := List.all_eq_true.1 h x hx
  simpa using this
/-- one store of an int into a rack's cells -/
theorem put_one {r : List Int} (hr : r.length = 24) (i : Nat) (x : Int) : ∃ r' : List Int, r'.length = 24 ∧ (r.map (C.int .i64)).set i (C.int .i64 x) = r'.map (C.int .i64) := ⟨r.set i x, by simp [hr], set_ints r i x⟩
theorem put_four {r : List Int} (hr : r.length = 24) (i : Nat) (xs : List Int) : ∃ r' : List Int, r'.length = 24 ∧ setAt (r.map (C.int .i64)) i (xs.map (C.int .i64)) = r'.map (C.int .i64) := ⟨setI r i xs, by rw [setI_len, hr], setAt_ints xs r i⟩
/-- invariants: the filling of tubes, of one tube, the clearing of tubes, of one tube -/
def IvA (bs : List Int) (o : Bool) (c : Int) (T q k : Nat) (st : Env × Heap) : Prop := ∃ (R : List Int) (p' : Nat) (s' : Int), R.length = 24 ∧ p' ≤ q + 40 * k ∧ st = ([(0, V.c (C.ptr 0 0)), (2, V.c (C.ptr 2 0)), (3, V.c (C.ptr 3 0)), (4, V.c (C.int .i64 c)), (5, V.c (C.int .i64 T)), (6, V.c (C.int .i64 k))], [curB 1 bs.length p' s', byB bs o, Blk.cells (List.replicate 24 (C.int .i64 0)) true, Blk.cells (R.map (C.int .i64)) true])
def RsA (bs : List Int) (o : Bool) (c : Int) (T q : Nat) (r : Ex × Env × Heap) : Prop := ∃ (R : List Int) (p' : Nat) (s' i : Int), R.length = 24 ∧ p' ≤ q + 240 ∧ r = (.exit 0, [(0, V.c (C.ptr 0 0)), (2, V.c (C.ptr 2 0)), (3, V.c (C.ptr 3 0)), (4, V.c (C.int .i64 c)), (5, V.c (C.int .i64 T)), (6, V.c (C.int .i64 i)), (23, V.c (C.bool false))], [curB 1 bs.length p' s', byB bs o, Blk.cells (List.replicate 24 (C.int .i64 0)) true, Blk.cells (R.map (C.int .i64)) true])
def IvB (bs : List Int) (o : Bool) (c : Int) (T q i k : Nat) (st : Env × Heap) : Prop := ∃ (R : List Int) (p' : Nat) (s' : Int), R.length = 24 ∧ p' ≤ q + 6 * k ∧ st = ([(0, V.c (C.ptr 0 0)), (2, V.c (C.ptr 2 0)), (3, V.c (C.ptr 3 0)), (4, V.c (C.int .i64 c)), (5, V.c (C.int .i64 T)), (6, V.c (C.int .i64 i)), (7, V.c (C.int .i64 k))], [curB 1 bs.length p' s', byB bs o, Blk.cells (List.replicate 24 (C.int .i64 0)) true, Blk.cells (R.map (C.int .i64)) true])
def RsB (bs : List Int) (o : Bool) (c : Int) (T q i : Nat) (r : Ex × Env × Heap) : Prop := ∃ (R : List Int) (p' : Nat) (s' k : Int), R.length = 24 ∧ p' ≤ q + 36 ∧ r = (.exit 2, [(0, V.c (C.ptr 0 0)), (2, V.c (C.ptr 2 0)), (3, V.c (C.ptr 3 0)), (4, V.c (C.int .i64 c)), (5, V.c (C.int .i64 T)), (6, V.c (C.int .i64 i)), (7, V.c (C.int .i64 k)), (30, V.c (C.bool false))], [curB 1 bs.length p' s', byB bs o, Blk.cells (List.replicate 24 (C.int .i64 0)) true, Blk.cells (R.map (C.int .i64)) true, Blk.cells [C.int .i64 4, C.int .i64 3, C.int .i64 4, C.int .i64 2, C.int .i64 1, C.int .i64 0] true])
def IvC (bs : List Int) (o : Bool) (p3 : Nat) (s3 : Int) (k : Nat) (st : Env × Heap) : Prop := ∃ (R : List Int), R.length = 24 ∧ st = ([(0, V.c (C.ptr 0 0)), (2, V.c (C.ptr 2 0)), (3, V.c (C.ptr 3 0)), (8, V.c (C.int .i64 k))], [curB 1 bs.length p3 s3, byB bs o, Blk.cells (List.replicate 24 (C.int .i64 0)) true, Blk.cells (R.map (C.int .i64)) true])
def RsC (bs : List Int) (o : Bool) (p3 : Nat) (s3 : Int) (r : Ex × Env × Heap) : Prop := ∃ (R : List Int) (i : Int), R.length = 24 ∧ r = (.exit 4, [(0, V.c (C.ptr 0 0)), (2, V.c (C.ptr 2 0)), (3, V.c (C.ptr 3 0)), (8, V.c (C.int .i64 i)), (61, V.c (C.bool false))], [curB 1 bs.length p3 s3, byB bs o, Blk.cells (List.replicate 24 (C.int .i64 0)) true, Blk.cells (R.map (C.int .i64)) true])
def IvD (bs : List Int) (o : Bool) (p3 : Nat) (s3 : Int) (i k : Nat) (st : Env × Heap) : Prop := ∃ (R : List Int), R.length = 24 ∧ st = ([(0, V.c (C.ptr 0 0)), (2, V.c (C.ptr 2 0)), (3, V.c (C.ptr 3 0)), (8, V.c (C.int .i64 i)), (9, V.c (C.int .i64 ((k + 1 : Nat) : Int)))], [curB 1 bs.length p3 s3, byB bs o, Blk.cells (List.replicate 24 (C.int .i64 0)) true, Blk.cells (R.map (C.int .i64)) true])
def RsD (bs : List Int) (o : Bool) (p3 : Nat) (s3 : Int) (i : Nat) (r : Ex × Env × Heap) : Prop := ∃ (R : List Int) (k : Int), R.length = 24 ∧ r = (.exit 6, [(0, V.c (C.ptr 0 0)), (2, V.c (C.ptr 2 0)), (3, V.c (C.ptr 3 0)), (8, V.c (C.int .i64 i)), (9, V.c (C.int .i64 k)), (65, V.c (C.bool false))], [curB 1 bs.length p3 s3, byB bs o, Blk.cells (List.replicate 24 (C.int .i64 0)) true, Blk.cells (R.map (C.int .i64)) true])
/-- what a drawn rack is -/
def RkP (bs : List Int) (o : Bool) (p : Nat) (v : V) (h' : Heap) : Prop := ∃ (R : List Int) (p' : Nat) (s' : Int), R.length = 24 ∧ p' ≤ p + 400 ∧ v = .agg (R.map (C.int .i64)) ∧ h' = [curB 1 bs.length p' s', byB bs o]
set_option maxHeartbeats 16000000 in
theorem c_rack (bs : List Int) (hb : Bytes bs) (o : Bool) (p : Nat) (hp : p + 1000 < 1000000000) (s : Int) : ∃ (v : V) (h' : Heap), fnI pr np 61 [.c (.ptr 0 0)] [curB 1 bs.length p s, byB bs o] = some (v, h') ∧ RkP bs o p v h' := by
  obtain ⟨c, p1, s1, hc, hp1, hF1⟩ := c_among bs hb o p (by omega) s [2, 3, 2, 4, 5, 1] (by decide) (by decide)
  have hc := lit_range (lo := 1) (hi := 5) (by decide) hc
  obtain ⟨t, p2, s2, ht, hp2, hF2⟩ := c_among bs hb o p1 (by omega) s1 [3, 4, 2, 5, 6] (by decide) (by decide)
  have ht := lit_range (lo := 2) (hi := 6) (by decide) ht
  obtain ⟨T, rfl⟩ : ∃ T : Nat, t = (T : Int) := ⟨t.toNat, by omega⟩
  have k1 := call_among (by simp) hF1 0 3 1
  have k2 := call_among (by simp) hF2 0 4 1
  simp at k1 k2
  rw [fb (fn := a61) rfl rfl]
  simp [a61, k1, k2, setAt_all]
  generalize hX : exI pr np 2 (ACode.loop _ _) _ _ = X
  have hl := loop_exit hX (IvA bs o c T p2) T (RsA bs o c T p2) ⟨([(0, V.c (C.ptr 0 0)), (2, V.c (C.ptr 2 0)), (3, V.c (C.ptr 3 0)), (4, V.c (C.int .i64 c)), (5, V.c (C.int .i64 T)), (6, V.c (C.int .i64 0))], [curB 1 bs.length p2 s2, byB bs o, Blk.cells (List.replicate 24 (C.int .i64 0)) true, Blk.cells ((List.replicate 24 0).map (C.int .i64)) true]), by simp, List.replicate 24 0, p2, s2, by simp, by omega, rfl⟩ ?_
  · obtain ⟨r, rfl, R, p3, s3, i, hR, hp3, rfl⟩ := hl
    clear hX
    simp
    generalize hX : exI pr np 2 (ACode.loop _ _) _ _ = X
    have hl := loop_exit hX (IvC bs o p3 s3) 6 (RsC bs o p3 s3) ⟨([(0, V.c (C.ptr 0 0)), (2, V.c (C.ptr 2 0)), (3, V.c (C.ptr 3 0)), (8, V.c (C.int .i64 0))], [curB 1 bs.length p3 s3, byB bs o, Blk.cells (List.replicate 24 (C.int .i64 0)) true, Blk.cells (R.map (C.int .i64)) true]), by simp, R, hR, rfl⟩ ?_
    · obtain ⟨r, rfl, R, i, hR, rfl⟩ := hl
      clear hX
      obtain ⟨q1, p4, s4, hp4, hG1⟩ := c_one bs hb o p3 (by omega) s3 3 (by decide) (by decide)
      have g1 := call_cur (rest := [.c (.int .i64 3)]) rfl hG1 0 1
      cases q1 with
      | false =>
        obtain ⟨z, pz, sz, hz, hpz, hGz⟩ := c_pick bs hb o p4 (by omega) s4 40 (by decide) (by decide)
        have gz := call_cur (rest := [.c (.int .i64 40)]) rfl hGz 0 1
        have r24 := take24 hR
        by_cases z0 : (z : Int) = 0
        · obtain ⟨x, px, sx, hx, hpx, hGx⟩ := c_pick bs hb o pz (by omega) sz 6 (by decide) (by decide)
          have gx := call_cur (rest := [.c (.int .i64 6)]) rfl hGx 0 1
          obtain ⟨y, py, sy, hy, hpy, hGy⟩ := c_pick bs hb o px (by omega) sx 4 (by decide) (by decide)
          have gy := call_cur (rest := [.c (.int .i64 4)]) rfl hGy 0 1
          obtain ⟨w, pw, sw, hw, hpw, hGw⟩ := c_among bs hb o py (by omega) sy [-1, 6, 4611686018427387904] (by decide) (by decide)
          have gw := call_among (by simp) hGw 0 4 1
          simp at gw
          have x6 : x < 6 := by omega
          have x6' : (x : Int) < 6 := by omega
          have y4 : y < 4 := by omega
          have y4' : (y : Int) < 4 := by omega
          have b1 : x * 4 + y + 1 ≤ 24 := by omega
          obtain ⟨R9, hR9, hset⟩ := put_one hR (x * 4 + y) w
          have r9 := take24 hR9
          have z0' : z = 0 := by omega
          subst z0'
          simp [g1, gz, gx, gy, gw, hR, hR9, x6, x6', y4, y4', b1, hset, r9, setAt_all, setAt, stillE, madeA, idOf]
          first | exact ⟨R9, pw, sw, hR9, by omega, rfl, rfl⟩ | exact ⟨_, _, ⟨rfl, rfl⟩, R9, pw, sw, hR9, by omega, rfl, rfl⟩ | exact ⟨_, _, rfl, R9, pw, sw, hR9, by omega, rfl, rfl⟩
        · by_cases z1 : (z : Int) = 1
          · obtain ⟨x, px, sx, hx, hpx, hGx⟩ := c_pick bs hb o pz (by omega) sz 6 (by decide) (by decide)
            have gx := call_cur (rest := [.c (.int .i64 6)]) rfl hGx 0 1
            have x6 : x < 6 := by omega
            have x6' : (x : Int) < 6 := by omega
            have b1 : x * 4 + 4 ≤ 24 := by omega
            obtain ⟨Ra, hRa, seta⟩ := put_one hR (x * 4) 0
            obtain ⟨Rb, hRb, setb⟩ := put_one hRa (x * 4 + 1) 1
            obtain ⟨Rc, hRc, setc⟩ := put_one hRb (x * 4 + 1 + 1) 0
            obtain ⟨R9, hR9, setd⟩ := put_one hRc (x * 4 + 1 + 1 + 1) 0
            have r9 := take24 hR9
            have z1' : z = 1 := by omega
            subst z1'
            simp [g1, gz, gx, hR, hR9, x6, x6', b1, seta, setb, setc, setd, r9, setAt_all, setAt, stillE, madeA, idOf]
            first | exact ⟨R9, px, sx, hR9, by omega, rfl, rfl⟩ | exact ⟨_, _, ⟨rfl, rfl⟩, R9, px, sx, hR9, by omega, rfl, rfl⟩ | exact ⟨_, _, rfl, R9, px, sx, hR9, by omega, rfl, rfl⟩
          · by_cases z2 : (z : Int) = 2
            · have z2' : z = 2 := by omega
              subst z2'
              simp [g1, gz, hR, r24, setAt_all, setAt, stillE, madeA, idOf]
              first | exact ⟨(List.replicate 24 0), pz, sz, (by simp), by omega, rfl, rfl⟩ | exact ⟨_, _, ⟨rfl, rfl⟩, (List.replicate 24 0), pz, sz, (by simp), by omega, rfl, rfl⟩ | exact ⟨_, _, rfl, (List.replicate 24 0), pz, sz, (by simp), by omega, rfl, rfl⟩
            · have y0 : ¬ z = 0 := by omega
              have y1 : ¬ z = 1 := by omega
              have y2 : ¬ z = 2 := by omega
              simp [g1, gz, hR, z0, z1, z2, y0, y1, y2, r24, setAt_all, setAt, stillE, madeA, idOf]
              first | exact ⟨R, pz, sz, hR, by omega, rfl, rfl⟩ | exact ⟨_, _, ⟨rfl, rfl⟩, R, pz, sz, hR, by omega, rfl, rfl⟩ | exact ⟨_, _, rfl, R, pz, sz, hR, by omega, rfl, rfl⟩
      | true =>
        obtain ⟨u, pu, su, hu, hpu, hGu⟩ := c_pick bs hb o p4 (by omega) s4 6 (by decide) (by decide)
        have gu := call_cur (rest := [.c (.int .i64 6)]) rfl hGu 0 1
        obtain ⟨v, pv, sv, hv, hpv, hGv⟩ := c_pick bs hb o pu (by omega) su 6 (by decide) (by decide)
        have gv := call_cur (rest := [.c (.int .i64 6)]) rfl hGv 0 1
        have u6 : u < 6 := by omega
        have u6' : (u : Int) < 6 := by omega
        have v6 : v < 6 := by omega
        have v6' : (v : Int) < 6 := by omega
        have bu : u * 4 + 4 ≤ 24 := by omega
        have bv : v * 4 + 4 ≤ 24 := by omega
        have tu := cells_tube R u
        have tv := cells_tube R v
        have lu := tubeAt_len hR u6
        have lv := tubeAt_len hR v6
        have qu : ((tubeAt R u).map (C.int .i64)).take 4 = (tubeAt R u).map (C.int .i64) := List.take_of_length_le (by simp [lu])
        have qv : ((tubeAt R v).map (C.int .i64)).take 4 = (tubeAt R v).map (C.int .i64) := List.take_of_length_le (by simp [lv])
        obtain ⟨R1, hR1, set1⟩ := put_four hR (u * 4) (tubeAt R v)
        obtain ⟨R2, hR2, set2⟩ := put_four hR1 (v * 4) (tubeAt R u)
        generalize tubeAt R u = tU at *
        generalize tubeAt R v = tV at *
        obtain ⟨z, pz, sz, hz, hpz, hGz⟩ := c_pick bs hb o pv (by omega) sv 40 (by decide) (by decide)
        have gz := call_cur (rest := [.c (.int .i64 40)]) rfl hGz 0 1
        have r24 := take24 hR2
        by_cases z0 : (z : Int) = 0
        · obtain ⟨x, px, sx, hx, hpx, hGx⟩ := c_pick bs hb o pz (by omega) sz 6 (by decide) (by decide)
          have gx := call_cur (rest := [.c (.int .i64 6)]) rfl hGx 0 1
          obtain ⟨y, py, sy, hy, hpy, hGy⟩ := c_pick bs hb o px (by omega) sx 4 (by decide) (by decide)
          have gy := call_cur (rest := [.c (.int .i64 4)]) rfl hGy 0 1
          obtain ⟨w, pw, sw, hw, hpw, hGw⟩ := c_among bs hb o py (by omega) sy [-1, 6, 4611686018427387904] (by decide) (by decide)
          have gw := call_among (by simp) hGw 0 6 1
          simp at gw
          have x6 : x < 6 := by omega
          have x6' : (x : Int) < 6 := by omega
          have y4 : y < 4 := by omega
          have y4' : (y : Int) < 4 := by omega
          have b1 : x * 4 + y + 1 ≤ 24 := by omega
          obtain ⟨R9, hR9, hset⟩ := put_one hR2 (x * 4 + y) w
          have r9 := take24 hR9
          have z0' : z = 0 := by omega
          subst z0'
          simp [g1, gz, gx, gy, gw, hR2, hR9, x6, x6', y4, y4', b1, hset, r9, setAt_all, setAt, stillE, madeA, idOf, gu, gv, u6, u6', v6, v6', bu, bv, tu, tv, lu, lv, qu, qv, set1, set2, hR, hR1]
          first | exact ⟨R9, pw, sw, hR9, by omega, rfl, rfl⟩ | exact ⟨_, _, ⟨rfl, rfl⟩, R9, pw, sw, hR9, by omega, rfl, rfl⟩ | exact ⟨_, _, rfl, R9, pw, sw, hR9, by omega, rfl, rfl⟩
        · by_cases z1 : (z : Int) = 1
          · obtain ⟨x, px, sx, hx, hpx, hGx⟩ := c_pick bs hb o pz (by omega) sz 6 (by decide) (by decide)
            have gx := call_cur (rest := [.c (.int .i64 6)]) rfl hGx 0 1
            have x6 : x < 6 := by omega
            have x6' : (x : Int) < 6 := by omega
            have b1 : x * 4 + 4 ≤ 24 := by omega
            obtain ⟨Ra, hRa, seta⟩ := put_one hR2 (x * 4) 0
            obtain ⟨Rb, hRb, setb⟩ := put_one hRa (x * 4 + 1) 1
            obtain ⟨Rc, hRc, setc⟩ := put_one hRb (x * 4 + 1 + 1) 0
            obtain ⟨R9, hR9, setd⟩ := put_one hRc (x * 4 + 1 + 1 + 1) 0
            have r9 := take24 hR9
            have z1' : z = 1 := by omega
            subst z1'
            simp [g1, gz, gx, hR2, hR9, x6, x6', b1, seta, setb, setc, setd, r9, setAt_all, setAt, stillE, madeA, idOf, gu, gv, u6, u6', v6, v6', bu, bv, tu, tv, lu, lv, qu, qv, set1, set2, hR, hR1]
            first | exact ⟨R9, px, sx, hR9, by omega, rfl, rfl⟩ | exact ⟨_, _, ⟨rfl, rfl⟩, R9, px, sx, hR9, by omega, rfl, rfl⟩ | exact ⟨_, _, rfl, R9, px, sx, hR9, by omega, rfl, rfl⟩
          · by_cases z2 : (z : Int) = 2
            · have z2' : z = 2 := by omega
              subst z2'
              simp [g1, gz, hR2, r24, setAt_all, setAt, stillE, madeA, idOf, gu, gv, u6, u6', v6, v6', bu, bv, tu, tv, lu, lv, qu, qv, set1, set2, hR, hR1]
              first | exact ⟨(List.replicate 24 0), pz, sz, (by simp), by omega, rfl, rfl⟩ | exact ⟨_, _, ⟨rfl, rfl⟩, (List.replicate 24 0), pz, sz, (by simp), by omega, rfl, rfl⟩ | exact ⟨_, _, rfl, (List.replicate 24 0), pz, sz, (by simp), by omega, rfl, rfl⟩
            · have y0 : ¬ z = 0 := by omega
              have y1 : ¬ z = 1 := by omega
              have y2 : ¬ z = 2 := by omega
              simp [g1, gz, hR2, z0, z1, z2, y0, y1, y2, r24, setAt_all, setAt, stillE, madeA, idOf, gu, gv, u6, u6', v6, v6', bu, bv, tu, tv, lu, lv, qu, qv, set1, set2, hR, hR1]
              first | exact ⟨R2, pz, sz, hR2, by omega, rfl, rfl⟩ | exact ⟨_, _, ⟨rfl, rfl⟩, R2, pz, sz, hR2, by omega, rfl, rfl⟩ | exact ⟨_, _, rfl, R2, pz, sz, hR2, by omega, rfl, rfl⟩
    · intro k hk st hst
      obtain ⟨R, hR, rfl⟩ := hst
      by_cases h6 : k < 6
      · left
        refine ⟨h6, ?_⟩
        have h6' : (k : Int) < 6 := by omega
        have wk := wrapS (k := k) (by omega)
        simp [h6, h6']
        generalize hX : exI pr np 2 (ACode.loop _ _) _ _ = X
        have hl := loop_exit hX (IvD bs o p3 s3 k) 3 (RsD bs o p3 s3 k) ⟨([(0, V.c (C.ptr 0 0)), (2, V.c (C.ptr 2 0)), (3, V.c (C.ptr 3 0)), (8, V.c (C.int .i64 k)), (9, V.c (C.int .i64 1))], [curB 1 bs.length p3 s3, byB bs o, Blk.cells (List.replicate 24 (C.int .i64 0)) true, Blk.cells (R.map (C.int .i64)) true]), by simp, R, hR, rfl⟩ ?_
        · obtain ⟨r, rfl, R, i, hR, rfl⟩ := hl
          clear hX
          simp [wk]
          first | exact ⟨R, hR, rfl⟩ | exact ⟨_, _, ⟨rfl, rfl⟩, R, hR, rfl⟩ | exact ⟨_, _, rfl, R, hR, rfl⟩
        · intro j hj st hst
          obtain ⟨R, hR, rfl⟩ := hst
          by_cases h3 : j < 3
          · left
            refine ⟨h3, ?_⟩
            have j1 : (j : Int) + 1 < 4 := by omega
            have j2 : (j : Int) < 4 := by omega
            have j3 : (0 : Int) ≤ (j : Int) + 1 := by omega
            have j4 : j + 1 < 4 := by omega
            have j5 : j < 4 := by omega
            have wj : IntKind.i64.wrap ((j : Int) + 1 + 1) = (j : Int) + 1 + 1 := wrapI (by omega) (by omega)
            have wj2 : IntKind.i64.wrap (j : Int) = (j : Int) := wrapI (by omega) (by omega)
            have g := drop_take1 (c := R) (j := k * 4 + j) (by omega)
            have b1 : k * 4 + j + 1 ≤ 24 := by omega
            have b2 : k * 4 + (j + 1) + 1 ≤ 24 := by omega
            obtain ⟨R', hR', hset⟩ := put_one hR (k * 4 + (j + 1)) 0
            by_cases h0 : R.getD (k * 4 + j) 0 = 0
            · rw [h0] at g
              simp [h6, h6', hR, j1, j2, j3, j4, j5, wj, wj2, g, b1, b2, hset, setAt]
              first | exact ⟨R', hR', rfl⟩ | exact ⟨_, _, ⟨rfl, rfl⟩, R', hR', rfl⟩ | exact ⟨_, _, rfl, R', hR', rfl⟩
            · generalize R.getD (k * 4 + j) 0 = x at *
              simp [h6, h6', hR, j1, j2, j3, j4, j5, wj, wj2, g, b1, b2, h0, setAt]
              first | exact ⟨R, hR, rfl⟩ | exact ⟨_, _, ⟨rfl, rfl⟩, R, hR, rfl⟩ | exact ⟨_, _, rfl, R, hR, rfl⟩
          · right
            have h3' : ¬ (j : Int) + 1 < 4 := by omega
            simp [h3, h3']
            exact ⟨R, _, hR, rfl⟩
      · right
        have h6' : ¬ (k : Int) < 6 := by omega
        simp [h6, h6']
        exact ⟨R, _, hR, rfl⟩
  · intro i hi st hst
    obtain ⟨R, p3, s3, hR, hp3, rfl⟩ := hst
    by_cases hT : i < T
    · left
      refine ⟨hT, ?_⟩
      have i6 : i < 6 := by omega
      have i6' : (i : Int) < 6 := by omega
      have wi := wrapS (k := i) (by omega)
      simp [hT]
      generalize hX : exI pr np 2 (ACode.loop _ _) _ _ = X
      have hl := loop_exit hX (IvB bs o c T p3 i) 5 (RsB bs o c T p3 i) ⟨([(0, V.c (C.ptr 0 0)), (2, V.c (C.ptr 2 0)), (3, V.c (C.ptr 3 0)), (4, V.c (C.int .i64 c)), (5, V.c (C.int .i64 T)), (6, V.c (C.int .i64 i)), (7, V.c (C.int .i64 0))], [curB 1 bs.length p3 s3, byB bs o, Blk.cells (List.replicate 24 (C.int .i64 0)) true, Blk.cells (R.map (C.int .i64)) true]), by simp, R, p3, s3, hR, by omega, rfl⟩ ?_
      · obtain ⟨r, rfl, R, p', s', k, hR, hp', rfl⟩ := hl
        clear hX
        simp [wi]
        first | exact ⟨R, p', s', hR, by omega, rfl⟩ | exact ⟨_, _, ⟨rfl, rfl⟩, R, p', s', hR, by omega, rfl⟩ | exact ⟨_, _, rfl, R, p', s', hR, by omega, rfl⟩
      · intro k hk st hst
        obtain ⟨R, p4, s4, hR, hp4, rfl⟩ := hst
        obtain ⟨x, p5, s5, hx, hp5, hG⟩ := c_among bs hb o p4 (by omega) s4 [4, 3, 4, 2, 1, 0] (by decide) (by decide)
        have hx := lit_range (lo := 0) (hi := 4) (by decide) hx
        have g1 := call_among (by simp) hG 0 4 1
        simp at g1
        by_cases hkx : (k : Int) < x
        · left
          have k5 : k < 5 := by omega
          have k4 : k < 4 := by omega
          have k4' : (k : Int) < 4 := by omega
          refine ⟨k5, ?_⟩
          obtain ⟨y, p6, s6, hy, hp6, hG2⟩ := c_pick bs hb o p5 (by omega) s5 c (by omega) (by omega)
          have g2 := call_cur (rest := [.c (.int .i64 c)]) rfl hG2 0 1
          have wk := wrapS (k := k) (by omega)
          have wy : IntKind.i64.wrap (1 + (y : Int)) = 1 + (y : Int) := wrapI (by omega) (by omega)
          obtain ⟨R', hR', hset⟩ := put_one hR (i * 4 + k) (1 + (y : Int))
          have b1 : i * 4 + k + 1 ≤ 24 := by omega
          by_cases hk0 : 0 < k
          · obtain ⟨q, p7, s7, hp7, hG3⟩ := c_one bs hb o p6 (by omega) s6 3 (by decide) (by decide)
            have g3 := call_cur (rest := [.c (.int .i64 3)]) rfl hG3 0 1
            have hk0' : (0 : Int) < (k : Int) := by omega
            obtain ⟨z, rfl⟩ : ∃ z, k = z + 1 := ⟨k - 1, by omega⟩
            have wz : IntKind.i64.wrap (z : Int) = (z : Int) := wrapI (by omega) (by omega)
            have z4 : z < 4 := by omega
            have z4' : (z : Int) < 4 := by omega
            have k4'' : (z : Int) + 1 < 4 := by omega
            have g := drop_take1 (c := R') (j := i * 4 + z) (by omega)
            have b2 : i * 4 + z + 1 ≤ 24 := by omega
            have hkx' : (z : Int) + 1 < x := by omega
            have z0 : (0 : Int) ≤ (z : Int) + 1 := by omega
            have z01 : (0 : Int) < (z : Int) + 1 := by omega
            have wk' : IntKind.i64.wrap ((z : Int) + 1 + 1) = (z : Int) + 1 + 1 := wrapI (by omega) (by omega)
            obtain ⟨R2, hR2, hset2⟩ := put_one hR' (i * 4 + (z + 1)) (R'.getD (i * 4 + z) 0)
            generalize R'.getD (i * 4 + z) 0 = w at *
            cases q with
            | true =>
              simp [hT, i6, i6', hR, hR', g1, g2, g3, hkx', k4, k4'', z0, z01, wz, z4, z4', wk', wy, b1, b2, g, hset, hset2, setAt, stillE, madeA, idOf]
              first | exact ⟨R2, p7, s7, hR2, by omega, rfl⟩ | exact ⟨_, _, ⟨rfl, rfl⟩, R2, p7, s7, hR2, by omega, rfl⟩ | exact ⟨_, _, rfl, R2, p7, s7, hR2, by omega, rfl⟩
            | false =>
              simp [hT, i6, i6', hR, hR', g1, g2, g3, hkx', k4, k4'', z0, z01, wz, z4, z4', wk', wy, b1, b2, g, hset, setAt, stillE, madeA, idOf]
              first | exact ⟨R', p7, s7, hR', by omega, rfl⟩ | exact ⟨_, _, ⟨rfl, rfl⟩, R', p7, s7, hR', by omega, rfl⟩ | exact ⟨_, _, rfl, R', p7, s7, hR', by omega, rfl⟩
          · have hk0 : k = 0 := by omega
            subst hk0
            have hkx' : 0 < x := by omega
            simp only [Nat.add_zero] at hset b1
            simp [hT, i6, i6', hR, hR', g1, g2, hkx', wy, b1, hset, setAt, stillE, madeA, idOf]
            first | exact ⟨R', p6, s6, hR', by omega, rfl⟩ | exact ⟨_, _, ⟨rfl, rfl⟩, R', p6, s6, hR', by omega, rfl⟩ | exact ⟨_, _, rfl, R', p6, s6, hR', by omega, rfl⟩
        · right
          simp [g1, hkx]
          exact ⟨R, p5, s5, _, hR, by omega, rfl⟩
    · right
      have hT' : ¬ (i : Int) < (T : Int) := by omega
      simp [hT, hT']
      exact ⟨R, p3, s3, _, hR, by omega, rfl⟩
end Go.Proofs.Ytafphbegpjjolaa.AM
