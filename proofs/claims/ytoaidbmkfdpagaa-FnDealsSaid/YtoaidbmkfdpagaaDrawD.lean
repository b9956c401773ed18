import Derived.Test.YtoaidbmkfdpagaaDealF
import Derived.Test.YtoaidbmkfdpagaaDrawQ
/- Contracts: deals are drawn (what is drawn is any numbers at all). -/
namespace Go.Proofs.Ytoaidbmkfdpagaa.AM
open Go
set_option maxRecDepth 1000000
set_option linter.unusedSimpArgs false
set_option linter.unusedVariables false
def vwTo (r W : List Int) : Nat → List Int
  | 0 => W
  | k + 1 => ((vwTo r W k).set k (topOf (tubeAt r k)).1).set (6 + k) (layN (tubeAt r k))
theorem vwTo_len (r W : List Int) : ∀ k, (vwTo r W k).length = W.length
  | 0 => rfl
  | k + 1 => by simp [vwTo, vwTo_len r W k]
set_option maxHeartbeats 4000000 in
theorem c_spec_l7View (r : List Int) (h : RackOK r) : ∃ v : List Int, v.length = 18 ∧ fnI pr np 189 [.agg (r.map (C.int .i64))] [] = some (.agg (v.map (C.int .i64)), []) := by
  have hr := h.len
  have h24 := take24 hr
  have hc := c_spec_l2Counts r hr h.val
  obtain ⟨hcl, _⟩ := small_bumps r 24 [0, 0, 0, 0, 0, 0] 0 0 zeros6
  obtain ⟨c0, c1, c2, c3, c4, c5, hce⟩ : ∃ c0 c1 c2 c3 c4 c5, bumps r [0, 0, 0, 0, 0, 0] 0 24 = [c0, c1, c2, c3, c4, c5] := by
    generalize bumps r [0, 0, 0, 0, 0, 0] 0 24 = B at hcl
    match B, hcl with
    | [c0, c1, c2, c3, c4, c5], _ => exact ⟨c0, c1, c2, c3, c4, c5, rfl⟩
  rw [hce] at hc
  have hc := callA_pure hc (by simp) (by simp)
  refine ⟨vwTo r [0, 0, 0, 0, 0, 0, 0, 0, 0, 0, 0, 0, 0, c1, c2, c3, c4, c5] 6, vwTo_len _ _ _, ?_⟩
  rw [fb (fn := a189) rfl rfl]
  simp [a189, hr, h24, hc, setAt_all, setAt]
  have hW : ∀ k, (vwTo r [0, 0, 0, 0, 0, 0, 0, 0, 0, 0, 0, 0, 0, c1, c2, c3, c4, c5] k).length = 18 := fun k => vwTo_len _ _ k
  have h0 : vwTo r [0, 0, 0, 0, 0, 0, 0, 0, 0, 0, 0, 0, 0, c1, c2, c3, c4, c5] 0 = [0, 0, 0, 0, 0, 0, 0, 0, 0, 0, 0, 0, 0, c1, c2, c3, c4, c5] := rfl
  have hS : ∀ k, vwTo r [0, 0, 0, 0, 0, 0, 0, 0, 0, 0, 0, 0, 0, c1, c2, c3, c4, c5] (k + 1) = ((vwTo r [0, 0, 0, 0, 0, 0, 0, 0, 0, 0, 0, 0, 0, c1, c2, c3, c4, c5] k).set k (topOf (tubeAt r k)).1).set (6 + k) (layN (tubeAt r k)) := fun k => rfl
  generalize vwTo r [0, 0, 0, 0, 0, 0, 0, 0, 0, 0, 0, 0, 0, c1, c2, c3, c4, c5] = W at *
  rw [loop_to (fun k => ([(1, V.c (C.ptr 0 0)), (2, V.c (C.ptr 1 0)), (3, V.c (C.ptr 2 0)), (4, V.c (C.int .i64 k))], [Blk.cells (r.map (C.int .i64)) true, Blk.cells (List.replicate 18 (C.int .i64 0)) true, Blk.cells ((W k).map (C.int .i64)) true])) 6]
  · have t18 : ((W 6).map (C.int .i64)).take 18 = (W 6).map (C.int .i64) := List.take_of_length_le (by simp [hW])
    simp [hW, t18, setAt_all, sub]
  · simp [h0, sub]
  · intro k hk
    have hk' : (k : Int) < 6 := by omega
    have wk := wrapS (k := k) (by omega)
    have ht := callA_pure (top_all (tubeAt r k) (h.t4 hk) (h.tv hk)) (by simp) (by simp)
    have hm := callA_pure (c_many (tubeAt r k) (h.t4 hk) (h.tv hk)) (by simp) (by simp)
    have g := cells_tube r k
    have b1 : k * 4 + 4 ≤ 24 := by omega
    have b2 : k + 1 ≤ 18 := by omega
    have b3 : 6 + k + 1 ≤ 18 := by omega
    have hWk := hW k
    have hs := hS k
    have e1 := set_ints (W k) k (topOf (tubeAt r k)).1
    have e2 := set_ints ((W k).set k (topOf (tubeAt r k)).1) (6 + k) (layN (tubeAt r k))
    rw [← hs] at e2
    have l4 := h.t4 hk
    have t4 : ((tubeAt r k).map (C.int .i64)).take 4 = (tubeAt r k).map (C.int .i64) := List.take_of_length_le (by simp [l4])
    have hW1 : ((W k).set k (topOf (tubeAt r k)).1).length = 18 := by simp [hW]
    have hW2 := hW (k + 1)
    generalize (W k).set k (topOf (tubeAt r k)).1 = W1 at *
    generalize tubeAt r k = T at *
    generalize (topOf T).1 = x at *
    generalize (topOf T).2 = x2 at *
    generalize (layN T) = y at *
    generalize W (k + 1) = W' at *
    generalize W k = W0 at *
    clear hs hS
    simp [hk, hk', hr, h24, g, b1, b2, b3, wk, ht, hm, l4, t4, hWk, hW1, e1, e2, setAt_all, sub]
theorem put_six {m : List Int} (hm : m.length = 6) (i : Nat) (x : Int) : ∃ m' : List Int, m'.length = 6 ∧ (m.map (C.int .i64)).set i (C.int .i64 x) = m'.map (C.int .i64) := ⟨m.set i x, by simp [hm], set_ints m i x⟩
set_option maxHeartbeats 8000000 in
theorem c_deal9 (bs : List Int) (hb : Bytes bs) (o : Bool) (p : Nat) (hp : p + 2000 < 1000000000) (s : Int) : ∃ (m c : List Int) (p' : Nat) (s' : Int), m.length = 6 ∧ c.length = 6 ∧ p' ≤ p + 500 ∧ fnI pr np 100 [.c (.ptr 0 0)] [curB 1 bs.length p s, byB bs o] = some (.tup [.agg (m.map (C.int .i64)), .agg (c.map (C.int .i64))], [curB 1 bs.length p' s', byB bs o]) := by
  obtain ⟨v, h', hF, R, p1, s1, hR, hp1, rfl, rfl⟩ := c_rack bs hb o p (by omega) s
  have g1 := call_cur (rest := []) rfl hF 0 1
  have r24 := take24 hR
  have hra := callA_pure (c_rack_spec R hR) (by simp) (by simp)
  obtain ⟨x, p2, s2, hx, hp2, hG2⟩ := c_pick bs hb o p1 (by omega) s1 30 (by decide) (by decide)
  have g2 := call_cur (rest := [.c (.int .i64 30)]) rfl hG2 0 1
  obtain ⟨k, p3, s3, hk, hp3, hG3⟩ := c_pick bs hb o p2 (by omega) s2 6 (by decide) (by decide)
  have g3 := call_cur (rest := [.c (.int .i64 6)]) rfl hG3 0 1
  obtain ⟨y, p4, s4, hy, hp4, hG4⟩ := c_among bs hb o p3 (by omega) s3 [-1, 5, 1, 4611686018427387904] (by decide) (by decide)
  obtain ⟨z, p5, s5, hz, hp5, hG5⟩ := c_among bs hb o p3 (by omega) s3 [-1, 25, 1, 4611686018427387904] (by decide) (by decide)
  have hk6 : k < 6 := by omega
  have hk6' : (k : Int) < 6 := by omega
  have bk : k + 1 ≤ 6 := hk6
  -- the numbers ahead of the switch
  obtain ⟨V, hV, hl7⟩ : ∃ V : List Int, V.length = 18 ∧ (okRack R = true → fnI pr np 189 [.agg (R.map (C.int .i64))] [] = some (.agg (V.map (C.int .i64)), [])) := by
    by_cases hq : okRack R = true
    · obtain ⟨V, h1, h2⟩ := c_spec_l7View R (rackOK hR hq)
      exact ⟨V, h1, fun _ => h2⟩
    · exact ⟨List.replicate 18 0, by simp, fun h => absurd h hq⟩
  obtain ⟨M, hM, eM⟩ : ∃ M : List Int, M.length = 6 ∧ ((V.map (C.int .i64)).drop 6).take 6 = M.map (C.int .i64) := ⟨(V.drop 6).take 6, by simp [hV], by simp⟩
  obtain ⟨N, hN, eN⟩ : ∃ N : List Int, N.length = 6 ∧ ((V.map (C.int .i64)).drop 12).take 6 = N.map (C.int .i64) := ⟨(V.drop 12).take 6, by simp [hV], by simp⟩
  have v18 : (V.map (C.int .i64)).take 18 = V.map (C.int .i64) := List.take_of_length_le (by simp [hV])
  have m6 := take6 hM
  have n6 := take6 hN
  obtain ⟨M1, hM1, sM⟩ := put_six hM k y
  obtain ⟨N1, hN1, sN⟩ := put_six hN k z
  obtain ⟨Y1, hY1, sY⟩ := put_six (m := [0, 0, 0, 0, 0, 0]) rfl k y
  obtain ⟨Z1, hZ1, sZ⟩ := put_six (m := [0, 0, 0, 0, 0, 0]) rfl k z
  have m6' := take6 hM1
  have n6' := take6 hN1
  have y6' := take6 hY1
  have z6' := take6 hZ1
  have z6 : [C.int .i64 0, C.int .i64 0, C.int .i64 0, C.int .i64 0, C.int .i64 0, C.int .i64 0] = ([0, 0, 0, 0, 0, 0] : List Int).map (C.int .i64) := rfl
  rw [List.map_cons, List.map_cons, List.map_cons, List.map_cons, List.map_cons, List.map_cons, List.map_nil] at sY sZ
  have g4a := call_among (by simp) hG4 0 7 1
  have g5a := call_among (by simp) hG5 0 7 1
  have g4 := call_among (by simp) hG4 0 8 1
  have g5 := call_among (by simp) hG5 0 8 1
  simp at g4 g5 g4a g5a
  rw [fb (fn := a100) rfl rfl]
  by_cases h0 : x = 0
  · subst h0
    cases hq : okRack R with
    | false =>
      rw [hq] at hra
      refine ⟨Y1, [0, 0, 0, 0, 0, 0], p4, s4, hY1, rfl, by omega, ?_⟩
      simp [a100, g1, hR, r24, hra, g2, g3, g4a, hk6, hk6', bk, sY, hY1, y6', setAt_all, setAt, stillE, madeA, idOf, sub]
    | true =>
      rw [hq] at hra
      have hv := callA_pure (hl7 hq) (by simp) (by simp)
      refine ⟨M1, N, p4, s4, hM1, hN, by omega, ?_⟩
      simp [a100, g1, hR, r24, hra, hv, hV, v18, eM, eN, hM, hN, m6, n6, g2, g3, g4, hk6, hk6', bk, sM, hM1, m6', setAt_all, setAt, stillE, madeA, idOf, sub]
  · have x0 : ¬ (x : Int) = 0 := by omega
    have x0b : ((x : Int) == 0) = false := beq_eq_false_iff_ne.2 x0
    by_cases h1 : x = 1
    · subst h1
      cases hq : okRack R with
      | false =>
        rw [hq] at hra
        refine ⟨[0, 0, 0, 0, 0, 0], Z1, p5, s5, rfl, hZ1, by omega, ?_⟩
        simp [a100, g1, hR, r24, hra, g2, g3, g5a, hk6, hk6', bk, sZ, hZ1, z6', setAt_all, setAt, stillE, madeA, idOf, sub]
      | true =>
        rw [hq] at hra
        have hv := callA_pure (hl7 hq) (by simp) (by simp)
        refine ⟨M, N1, p5, s5, hM, hN1, by omega, ?_⟩
        simp [a100, g1, hR, r24, hra, hv, hV, v18, eM, eN, hM, hN, m6, n6, g2, g3, g5, hk6, hk6', bk, sN, hN1, n6', setAt_all, setAt, stillE, madeA, idOf, sub]
    · have x1 : ¬ (x : Int) = 1 := by omega
      have x1b : ((x : Int) == 1) = false := beq_eq_false_iff_ne.2 x1
      cases hq : okRack R with
      | false =>
        rw [hq] at hra
        refine ⟨[0, 0, 0, 0, 0, 0], [0, 0, 0, 0, 0, 0], p2, s2, rfl, rfl, by omega, ?_⟩
        simp [a100, g1, hR, r24, hra, g2, h0, h1, x0, x0b, x1, x1b, g3, g5a, hk6, hk6', bk, h0, setAt_all, setAt, stillE, madeA, idOf, sub]
      | true =>
        rw [hq] at hra
        have hv := callA_pure (hl7 hq) (by simp) (by simp)
        refine ⟨M, N, p2, s2, hM, hN, by omega, ?_⟩
        simp [a100, g1, hR, r24, hra, hv, hV, v18, eM, eN, hM, hN, m6, n6, g2, h0, h1, x0, x0b, x1, x1b, g3, g5, hk6, hk6', bk, h0, setAt_all, setAt, stillE, madeA, idOf, sub]
end Go.Proofs.Ytoaidbmkfdpagaa.AM
