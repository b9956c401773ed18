import Derived.Test.YtafphbegpjjolaaDrawQ
/- Contracts: a small rack is drawn. -/
namespace Go.Proofs.Ytafphbegpjjolaa.AM
open Go
set_option maxRecDepth 1000000
set_option linter.unusedSimpArgs false
set_option linter.unusedVariables false
def smS (s : List Int × Int) (j : Nat) : List Int × Int := if 0 < s.2 then (if 0 < s.1.getD j 0 then (s.1, s.2 - 1) else (s.1.set j 0, s.2)) else (s.1.set j 0, s.2)
def smTo (s : List Int × Int) : Nat → List Int × Int
  | 0 => s
  | n + 1 => smS (smTo s n) n
theorem smTo_ok {s : List Int × Int} (h1 : s.1.length = 24) (h2 : 0 ≤ s.2 ∧ s.2 ≤ 100) : ∀ n, (smTo s n).1.length = 24 ∧ 0 ≤ (smTo s n).2 ∧ (smTo s n).2 ≤ 100
  | 0 => ⟨h1, h2⟩
  | n + 1 => by
    have ih := smTo_ok h1 h2 n
    show (smS (smTo s n) n).1.length = 24 ∧ 0 ≤ (smS (smTo s n) n).2 ∧ (smS (smTo s n) n).2 ≤ 100
    unfold smS
    split
    · split
      · exact ⟨ih.1, by simp only; omega, by simp only; omega⟩
      · exact ⟨by simp [ih.1], ih.2⟩
    · exact ⟨by simp [ih.1], ih.2⟩
set_option maxHeartbeats 8000000 in
theorem c_small3 (bs : List Int) (hb : Bytes bs) (o : Bool) (p : Nat) (hp : p + 2000 < 1000000000) (s : Int) : ∃ (R : List Int) (p' : Nat) (s' : Int), R.length = 24 ∧ p' ≤ p + 410 ∧ fnI pr np 32 [.c (.ptr 0 0)] [curB 1 bs.length p s, byB bs o] = some (.agg (R.map (C.int .i64)), [curB 1 bs.length p' s', byB bs o]) := by
  obtain ⟨v, h', hF, R, p1, s1, hR, hp1, rfl, rfl⟩ := c_rack bs hb o p (by omega) s
  have g1 := call_cur (rest := []) rfl hF 0 1
  have r24 := take24 hR
  have hra := callA_pure (c_rack_spec R hR) (by simp) (by simp)
  obtain ⟨q, p2, s2, hp2, hG2⟩ := c_one bs hb o p1 (by omega) s1 12 (by decide) (by decide)
  have g2 := call_cur (rest := [.c (.int .i64 12)]) rfl hG2 0 1
  obtain ⟨x, p3, s3, hx, hp3, hG3⟩ := c_pick bs hb o p2 (by omega) s2 5 (by decide) (by decide)
  have g3 := call_cur (rest := [.c (.int .i64 5)]) rfl hG3 0 1
  have w : IntKind.i64.wrap (5 + (x : Int)) = 5 + (x : Int) := wrapI (by omega) (by omega)
  rw [fb (fn := a32) rfl rfl]
  cases hq : okRack R with
  | false =>
    rw [hq] at hra
    refine ⟨R, p1, s1, hR, by omega, ?_⟩
    simp [a32, g1, hR, r24, hra, setAt_all, sub]
  | true =>
    rw [hq] at hra
    cases q with
    | true =>
      refine ⟨R, p2, s2, hR, by omega, ?_⟩
      simp [a32, g1, hR, r24, hra, g2, setAt_all, sub]
    | false =>
      have hok := smTo_ok (s := (R, 5 + (x : Int))) hR ⟨by simp only; omega, by simp only; omega⟩
      have h0 : smTo (R, 5 + (x : Int)) 0 = (R, 5 + (x : Int)) := rfl
      have hS : ∀ n, smTo (R, 5 + (x : Int)) (n + 1) = smS (smTo (R, 5 + (x : Int)) n) n := fun n => rfl
      refine ⟨(smTo (R, 5 + (x : Int)) 24).1, p3, s3, (hok 24).1, by omega, ?_⟩
      generalize smTo (R, 5 + (x : Int)) = T at *
      simp [a32, g1, hR, r24, hra, g2, g3, w, setAt_all, sub]
      rw [loop_to (fun i => ([(2, V.c (C.ptr 2 0)), (3, V.c (C.ptr 3 0)), (4, V.c (C.int .i64 i)), (5, V.c (C.int .i64 (T (i * 4)).2))], [curB 1 bs.length p3 s3, byB bs o, Blk.cells (List.replicate 24 (C.int .i64 0)) true, Blk.cells ((T (i * 4)).1.map (C.int .i64)) true])) 6]
      · have hl := (hok 24).1
        have t24 := take24 hl
        simp [hl, t24, setAt_all, sub]
      · simp [h0, sub]
      · intro i hi
        have hi' : (i : Int) < 6 := by omega
        have wi := wrapS (k := i) (by omega)
        simp [hi, hi']
        rw [loop_to (fun k => ([(2, V.c (C.ptr 2 0)), (3, V.c (C.ptr 3 0)), (4, V.c (C.int .i64 i)), (5, V.c (C.int .i64 (T (i * 4 + k)).2)), (6, V.c (C.int .i64 k))], [curB 1 bs.length p3 s3, byB bs o, Blk.cells (List.replicate 24 (C.int .i64 0)) true, Blk.cells ((T (i * 4 + k)).1.map (C.int .i64)) true])) 4]
        · have e : (i + 1) * 4 = i * 4 + 4 := by omega
          simp [e, wi, sub]
        · simp [sub]
        · intro k hk
          have hk' : (k : Int) < 4 := by omega
          have wk := wrapS (k := k) (by omega)
          have hs := hS (i * 4 + k)
          obtain ⟨o1, o2, o3⟩ := hok (i * 4 + k)
          have b1 : i * 4 + k + 1 ≤ 24 := by omega
          have b2 : i * 4 + 4 ≤ 24 := by omega
          have g := drop_take1 (c := (T (i * 4 + k)).1) (j := i * 4 + k) (by omega)
          have st := set_ints (T (i * 4 + k)).1 (i * 4 + k) 0
          rw [show i * 4 + (k + 1) = i * 4 + k + 1 by omega, hs]
          clear hs hS hok h0
          unfold smS
          generalize (T (i * 4 + k)).1.getD (i * 4 + k) 0 = y at *
          have hsl : ((T (i * 4 + k)).1.set (i * 4 + k) 0).length = 24 := by simp [o1]
          generalize (T (i * 4 + k)).1.set (i * 4 + k) 0 = L' at *
          generalize (T (i * 4 + k)).1 = L at *
          generalize (T (i * 4 + k)).2 = z at *
          have w2 : IntKind.i64.wrap (z - 1) = z - 1 := wrapI (by omega) (by omega)
          by_cases hz : 0 < z
          · by_cases hy : 0 < y
            · simp [hk, hk', hi, hi', wk, o1, b1, b2, g, hz, hy, w2, sub]
            · simp [hk, hk', hi, hi', wk, o1, b1, b2, g, hz, hy, st, sub]
          · simp [hk, hk', hi, hi', wk, o1, b1, b2, g, hz, st, sub]
end Go.Proofs.Ytafphbegpjjolaa.AM
