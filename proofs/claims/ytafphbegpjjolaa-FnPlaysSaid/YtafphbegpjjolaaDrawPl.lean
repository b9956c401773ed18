import Derived.Test.YtafphbegpjjolaaDrawO
/- Contracts: plays are drawn out of bytes. -/
namespace Go.Proofs.Ytafphbegpjjolaa.AM
open Go
set_option maxRecDepth 1000000
set_option linter.unusedSimpArgs false
set_option linter.unusedVariables false
theorem callO_xsl {F : Fns} {f n sz : Nat} {x : V} {b : Blk} {v : V} {ns : Heap} (hx : x.ids = []) (hbi : b.ids = []) (hF : F f [x, .c (.sl 0 0 n sz)] [b] = some (v, b :: ns)) (i : Nat) (H : HF) (base : Nat) (hb : (H i == some b) = true) :
    callA F f [x, .c (.sl i 0 n sz)] H base = some (v.mp (back [i] base), ns.map (Blk.mp (back [i] base)), [(i, b)]) := by
  have hb : H i = some b := by simpa using hb
  have h := callA_gen (F := F) (f := f) (args := [x, .c (.sl i 0 n sz)]) (H := H) (L := [i]) (by simp [hx, reach, idsAt, hb, hbi]) (by simp [closed, hb, idsAt, hbi, inL, hx]) (show sub [i] H = [b] by simp [sub, hb, mp_ids hbi]) (show [x, V.c (.sl i 0 n sz)].map (V.mp (pos [i])) = [x, .c (.sl 0 0 n sz)] by simp [V.mp_pure hx, pos]) hF (by simp) base
  rw [h]
  simp [mp_ids hbi]
def DcP (v : V) : Prop := ∃ (R : List Int) (n : Int), R.length = 24 ∧ v = .tup [.agg (R.map (C.int .i64)), .c (.int .i64 n)]
set_option maxHeartbeats 4000000 in
theorem c_spec_DrawChanceSortedBy (bs : List Int) (hb : Bytes bs) (o : Bool) : ∃ v, fnI pr np 6 [.c (.sl 0 0 bs.length 1)] [byB bs o] = some (v, [byB bs o]) ∧ DcP v := by
  have hcu : Blk.cells [C.sl 0 0 bs.length 1, C.int .i64 0, C.int .u64 0] true = curB 0 bs.length 0 0 := rfl
  obtain ⟨_, _, hFm, R0, cs, hR0, hcs, rfl, rfl⟩ := c_spec_DrawMixedBy bs hb o
  have gm := callN_slz (rest := []) rfl (by simp) hFm 0
  obtain ⟨_, _, hFx, R, L, nn, b, hR, rfl, rfl⟩ := c_spec_MixedBy R0 cs hR0 hcs
  have gx := callO_xsl (by simp) (by simp) hFx 4
  have r24 := take24 hR
  obtain ⟨q1, p1, s1, hp1, hG1⟩ := c_one bs hb o 0 (by omega) 0 2 (by decide) (by decide)
  have g1 := call_cur (rest := [.c (.int .i64 2)]) rfl hG1 3 0
  obtain ⟨n2, p2, s2, hp2, hG2⟩ := c_pours9 bs hb o p1 (by omega) s1
  have g2 := call_cur (rest := []) rfl hG2 3 0
  have f1 := farE_one (ks := [2, 1000005]) (t := 5) (by decide) (by decide)
  have small : ∀ (p : Nat) (s : Int), p ≤ 10 → ∃ (R3 : List Int) (n4 : Int) (p3 p4 : Nat) (s3 s4 : Int), R3.length = 24 ∧ fnI pr np 32 [.c (.ptr 0 0)] [curB 1 bs.length p s, byB bs o] = some (.agg (R3.map (C.int .i64)), [curB 1 bs.length p3 s3, byB bs o]) ∧ fnI pr np 31 [.c (.ptr 0 0)] [curB 1 bs.length p3 s3, byB bs o] = some (.c (.int .i64 n4), [curB 1 bs.length p4 s4, byB bs o]) := by
    intro p s hp
    obtain ⟨R3, p3, s3, hR3, hp3, hG3⟩ := c_small3 bs hb o p (by omega) s
    obtain ⟨n4, p4, s4, hp4, hG4⟩ := c_pours9 bs hb o p3 (by omega) s3
    exact ⟨R3, n4, p3, p4, s3, s4, hR3, hG3, hG4⟩
  rw [fb (fn := a6) rfl rfl]
  cases b with
  | false =>
    obtain ⟨R3, n4, p3, p4, s3, s4, hR3, hG3, hG4⟩ := small 0 0 (by omega)
    have g3 := call_cur (rest := []) rfl hG3 3 0
    have g4 := call_cur (rest := []) rfl hG4 3 0
    have r3 := take24 hR3
    simp [a6, hcu, gm, gx, hR, g3, g4, hR3, r3, setAt_all, sub]
    exact ⟨R3, n4, hR3, rfl⟩
  | true =>
    cases q1 with
    | true =>
      simp [-farE, f1, a6, hcu, gm, gx, hR, r24, g1, g2, setAt_all, stillE, madeA, idOf, sub]
      exact ⟨R, n2, hR, rfl⟩
    | false =>
      obtain ⟨R3, n4, p3, p4, s3, s4, hR3, hG3, hG4⟩ := small p1 s1 (by omega)
      have g3 := call_cur (rest := []) rfl hG3 3 0
      have g4 := call_cur (rest := []) rfl hG4 3 0
      have r3 := take24 hR3
      simp [a6, hcu, gm, gx, hR, g1, g3, g4, hR3, r3, setAt_all, sub]
      exact ⟨R3, n4, hR3, rfl⟩
set_option maxHeartbeats 4000000 in
theorem c_spec_DrawBestChance (bs : List Int) (hb : Bytes bs) (o : Bool) : ∃ v, fnI pr np 17 [.c (.sl 0 0 bs.length 1)] [byB bs o] = some (v, [byB bs o]) ∧ DcP v := by
  have hcu : Blk.cells [C.sl 0 0 bs.length 1, C.int .i64 0, C.int .u64 0] true = curB 0 bs.length 0 0 := rfl
  obtain ⟨_, hF, R, n, hR, rfl⟩ := c_spec_DrawChanceSortedBy bs hb o
  have g0 := callN_slz (rest := []) rfl (by simp) hF 0
  have r24 := take24 hR
  obtain ⟨y, p1, s1, hy, hp1, hG1⟩ := c_pick bs hb o 0 (by omega) 0 24 (by decide) (by decide)
  have g1 := call_cur (rest := [.c (.int .i64 24)]) rfl hG1 3 0
  have hq : (y : Int).tdiv 11 = ((y / 11 : Nat) : Int) := rfl
  obtain ⟨m, hm⟩ : ∃ m, m = 3 + y / 11 := ⟨_, rfl⟩
  have w1 : IntKind.i64.wrap ((y / 11 : Nat) : Int) = ((y / 11 : Nat) : Int) := wrapI (by omega) (by omega)
  have w2 : IntKind.i64.wrap (3 + ((y / 11 : Nat) : Int)) = (m : Int) := (wrapI (by omega) (by omega)).trans (by omega)
  have hm5 : m ≤ 5 := by omega
  have hm5' : (m : Int) ≤ 5 := by omega
  obtain ⟨x, p2, s2, hx, hp2, hG2⟩ := c_amongP bs hb o p1 (by omega) s1 [1, 0, 1, 2, -1] m (by omega) (by simpa using hm5) (by omega)
  have g2 := call_among (by simp) hG2 3 5 0
  simp at g2
  have f1 := farE_one (ks := [4, 1000005]) (t := 5) (by decide) (by decide)
  have f2 := farE_one (ks := [2, 4, 8, 1000005]) (t := 5) (by decide) (by decide)
  rw [fb (fn := a17) rfl rfl]
  generalize hZ : ((y / 11 : Nat) : Int) = z at *
  simp [-farE, f1, f2, a17, hcu, g0, hR, r24, g1, hq, w1, w2, hm5, hm5', g2, setAt_all, stillE, madeA, idOf, sub]
  exact ⟨R, x, hR, rfl⟩
end Go.Proofs.Ytafphbegpjjolaa.AM
