import Derived.Test.YtgpafbbnobanbaaGreatDoorPe
import Derived.Test.YtgpafbbnobanbaaGreatDoorAmE
import Derived.Lib.SplitLaws
import Derived.Lib.IndexLaws
/- Contracts: places and colors are drawn. -/
namespace Go.Proofs.YtgpafbbnobanbaaGreatDoor.AM
open Go
set_option maxRecDepth 1000000
set_option linter.unusedSimpArgs false
set_option linter.unusedVariables false
theorem c_place (bs : List Int) (hb : Bytes bs) (o : Bool) (p : Nat) (hp : p + 10 < 1000000000) (s : Int) : ∃ (x : Int) (p' : Nat) (s' : Int), p' ≤ p + 4 ∧ fnI pr np 89 [.c (.ptr 0 0)] [curB 1 bs.length p s, byB bs o] = some (.c (.int .i64 x), [curB 1 bs.length p' s', byB bs o]) := by
  obtain ⟨q, p1, s1, hp1, hG1⟩ := c_one bs hb o p (by omega) s 40 (by decide) (by decide)
  have g1 := call_cur (rest := [.c (.int .i64 40)]) rfl hG1 0 1
  cases q with
  | true =>
    obtain ⟨x, p2, s2, hx, hp2, hG2⟩ := c_among bs hb o p1 (by omega) s1 [-1, 6, 4611686018427387904] (by decide) (by decide)
    have g2 := call_among (by simp) hG2 0 2 1
    simp at g2
    refine ⟨x, p2, s2, by omega, ?_⟩
    rw [fb (fn := a89) rfl rfl rfl]
    simp [a89, g1, g2, sub]
  | false =>
    obtain ⟨x, p2, s2, hx, hp2, hG2⟩ := c_pick bs hb o p1 (by omega) s1 6 (by decide) (by decide)
    have g2 := call_cur (rest := [.c (.int .i64 6)]) rfl hG2 0 1
    refine ⟨x, p2, s2, by omega, ?_⟩
    rw [fb (fn := a89) rfl rfl rfl]
    simp [a89, g1, g2, sub]
theorem c_color (bs : List Int) (hb : Bytes bs) (o : Bool) (p : Nat) (hp : p + 10 < 1000000000) (s : Int) : ∃ (x : Int) (p' : Nat) (s' : Int), p' ≤ p + 6 ∧ fnI pr np 90 [.c (.ptr 0 0)] [curB 1 bs.length p s, byB bs o] = some (.c (.int .i64 x), [curB 1 bs.length p' s', byB bs o]) := by
  obtain ⟨q, p1, s1, hp1, hG1⟩ := c_one bs hb o p (by omega) s 40 (by decide) (by decide)
  have g1 := call_cur (rest := [.c (.int .i64 40)]) rfl hG1 0 1
  cases q with
  | true =>
    obtain ⟨x, p2, s2, hx, hp2, hG2⟩ := c_among bs hb o p1 (by omega) s1 [-1, 0, 6, 4611686018427387904] (by decide) (by decide)
    have g2 := call_among (by simp) hG2 0 2 1
    simp at g2
    refine ⟨x, p2, s2, by omega, ?_⟩
    rw [fb (fn := a90) rfl rfl rfl]
    simp [a90, g1, g2, sub]
  | false =>
    obtain ⟨y, p2, s2, hy, hp2, hG2⟩ := c_among bs hb o p1 (by omega) s1 [3, 2, 5, 3] (by decide) (by decide)
    have hy := lit_range (lo := 0) (hi := 5) (by decide) hy
    have g2 := call_among (by simp) hG2 0 2 1
    simp at g2
    obtain ⟨x, p3, s3, hx, hp3, hG3⟩ := c_pick bs hb o p2 (by omega) s2 y (by omega) (by omega)
    have g3 := call_cur (rest := [.c (.int .i64 y)]) rfl hG3 0 1
    have w : IntKind.i64.wrap (1 + (x : Int)) = 1 + (x : Int) := wrapI (by omega) (by omega)
    refine ⟨1 + (x : Int), p3, s3, by omega, ?_⟩
    rw [fb (fn := a90) rfl rfl rfl]
    simp [a90, g1, g2, g3, w, sub]
theorem poursL_len36 (r : List Int) : (poursL r).length ≤ 36 := poursTo_len r 36
theorem flatC_take2 (l : List (Nat × Nat)) {k : Nat} (h : k < l.length) : ((flatC l).drop (k * 2)).take 2 = [C.int .i64 (l[k]'h).1, C.int .i64 (l[k]'h).2] := by
  have := flatC_get l [] k h
  rwa [List.append_nil] at this
/-! ### a pour is drawn -/
set_option maxHeartbeats 2000000 in
theorem c_drawPour (bs : List Int) (hb : Bytes bs) (o : Bool) (p : Nat) (hp : p + 20 < 1000000000) (s : Int) (r : List Int) (hr : r.length = 24) : ∃ (x y : Int) (p' : Nat) (s' : Int), p' ≤ p + 10 ∧ fnI pr np 88 [.c (.ptr 0 0), .agg (r.map (C.int .i64))] [curB 1 bs.length p s, byB bs o] = some (.agg [.int .i64 x, .int .i64 y], [curB 1 bs.length p' s', byB bs o]) := by
  have h24 := take24 hr
  have hk := callA_pure (c_rack_spec r hr) (by simp) (by simp)
  have two : ∀ (p1 : Nat) (s1 : Int), p1 ≤ p + 2 → ∃ (x y : Int) (p2 p' : Nat) (s2 s' : Int), p' ≤ p + 10 ∧ fnI pr np 89 [.c (.ptr 0 0)] [curB 1 bs.length p1 s1, byB bs o] = some (.c (.int .i64 x), [curB 1 bs.length p2 s2, byB bs o]) ∧ fnI pr np 89 [.c (.ptr 0 0)] [curB 1 bs.length p2 s2, byB bs o] = some (.c (.int .i64 y), [curB 1 bs.length p' s', byB bs o]) := by
    intro p1 s1 h1
    obtain ⟨x, p2, s2, h2, hF⟩ := c_place bs hb o p1 (by omega) s1
    obtain ⟨y, p3, s3, h3, hG⟩ := c_place bs hb o p2 (by omega) s2
    exact ⟨x, y, p2, p3, s2, s3, by omega, hF, hG⟩
  rw [fb (fn := a88) rfl rfl rfl]
  cases hq : okRack r with
  | false =>
    rw [hq] at hk
    obtain ⟨x, y, p2, p3, s2, s3, h3, hF, hG⟩ := two p s (by omega)
    have f1 := call_cur (rest := []) rfl hF 0 1
    have f2 := call_cur (rest := []) rfl hG 0 1
    refine ⟨x, y, p3, s3, h3, ?_⟩
    simp [a88, hr, h24, hk, f1, f2, setAt, sub]
  | true =>
    rw [hq] at hk
    have h := rackOK hr hq
    obtain ⟨q1, p1, s1, hp1, hG1⟩ := c_one bs hb o p (by omega) s 3 (by decide) (by decide)
    have g1 := call_cur (rest := [.c (.int .i64 3)]) rfl hG1 0 1
    cases q1 with
    | true =>
      obtain ⟨x, y, p2, p3, s2, s3, h3, hF, hG⟩ := two p1 s1 hp1
      have f1 := call_cur (rest := []) rfl hF 0 1
      have f2 := call_cur (rest := []) rfl hG 0 1
      refine ⟨x, y, p3, s3, h3, ?_⟩
      simp [a88, hr, h24, hk, g1, f1, f2, setAt, sub]
    | false =>
      have hu := callA_new (c_spec_l2Pours r h) (by simp)
      have hl := poursL_len36 r
      by_cases h0 : 0 < (poursL r).length
      · have h0' : (0 : Int) < ((poursL r).length : Int) := by omega
        obtain ⟨z, p2, s2, hz, hp2, hG2⟩ := c_pick bs hb o p1 (by omega) s1 (poursL r).length (by omega) (by omega)
        have g2 := call_cur (rest := [.c (.int .i64 (poursL r).length)]) rfl hG2 0 1
        have hzl : z < (poursL r).length := by omega
        have hzl' : (z : Int) < ((poursL r).length : Int) := by omega
        have g3 := flatC_take2 (poursL r) hzl
        have b1 : z * 2 + 2 ≤ (poursL r).length * 2 := by omega
        refine ⟨((poursL r)[z]'hzl).1, ((poursL r)[z]'hzl).2, p2, s2, by omega, ?_⟩
        simp [a88, hr, h24, hk, g1, hu, h0, h0', g2, hzl, hzl', g3, b1, flatC_len, setAt, sub]
      · have h0' : ¬ (0 : Int) < ((poursL r).length : Int) := by omega
        obtain ⟨x, y, p2, p3, s2, s3, h3, hF, hG⟩ := two p1 s1 hp1
        have f1 := call_cur (rest := []) rfl hF 0 1
        have f2 := call_cur (rest := []) rfl hG 0 1
        refine ⟨x, y, p3, s3, h3, ?_⟩
        simp [a88, hr, h24, hk, g1, hu, h0, h0', f1, f2, setAt, flatC_len, sub]
end Go.Proofs.YtgpafbbnobanbaaGreatDoor.AM
/- Contracts: a small rack is drawn. -/
namespace Go.Proofs.YtgpafbbnobanbaaGreatDoor.AM
open Go
set_option maxRecDepth 1000000
set_option linter.unusedSimpArgs false
set_option linter.unusedVariables false
def smS (s : List Int × Int) (j : Nat) : List Int × Int := if 0 < s.2 then (if 0 < s.1.getD j 0 then (s.1, s.2 - 1) else (s.1.set j 0, s.2)) else (s.1.set j 0, s.2)
def smTo (s : List Int × Int) : Nat → List Int × Int
  | 0 => s
  | n + 1 => smS (smTo s n) n
theorem smTo_ok {s : List Int × Int} (h1 : s.1.length = 24) (h2 : 0 ≤ s.2 ∧ s.2 ≤ 100) : ∀ n, (smTo s n).1.length = 24 ∧ 0 ≤ (smTo s n).2 ∧ (smTo s n).2 ≤ 100
  | 0 => ⟨h1, h2⟩
  | n + 1 => by
    have ih := smTo_ok h1 h2 n
    show (smS (smTo s n) n).1.length = 24 ∧ 0 ≤ (smS (smTo s n) n).2 ∧ (smS (smTo s n) n).2 ≤ 100
    unfold smS
    split
    · split
      · exact ⟨ih.1, by simp only; omega, by simp only; omega⟩
      · exact ⟨by simp [ih.1], ih.2⟩
    · exact ⟨by simp [ih.1], ih.2⟩
set_option maxHeartbeats 8000000 in
theorem c_small3 (bs : List Int) (hb : Bytes bs) (o : Bool) (p : Nat) (hp : p + 2000 < 1000000000) (s : Int) : ∃ (R : List Int) (p' : Nat) (s' : Int), R.length = 24 ∧ p' ≤ p + 410 ∧ fnI pr np 39 [.c (.ptr 0 0)] [curB 1 bs.length p s, byB bs o] = some (.agg (R.map (C.int .i64)), [curB 1 bs.length p' s', byB bs o]) := by
  obtain ⟨v, h', hF, R, p1, s1, hR, hp1, rfl, rfl⟩ := c_rack bs hb o p (by omega) s
  have g1 := call_cur (rest := []) rfl hF 0 1
  have r24 := take24 hR
  have hra := callA_pure (c_rack_spec R hR) (by simp) (by simp)
  obtain ⟨q, p2, s2, hp2, hG2⟩ := c_one bs hb o p1 (by omega) s1 12 (by decide) (by decide)
  have g2 := call_cur (rest := [.c (.int .i64 12)]) rfl hG2 0 1
  obtain ⟨x, p3, s3, hx, hp3, hG3⟩ := c_pick bs hb o p2 (by omega) s2 5 (by decide) (by decide)
  have g3 := call_cur (rest := [.c (.int .i64 5)]) rfl hG3 0 1
  have w : IntKind.i64.wrap (5 + (x : Int)) = 5 + (x : Int) := wrapI (by omega) (by omega)
  rw [fb (fn := a39) rfl rfl rfl]
  cases hq : okRack R with
  | false =>
    rw [hq] at hra
    refine ⟨R, p1, s1, hR, by omega, ?_⟩
    simp [a39, g1, hR, r24, hra, setAt_all, sub]
  | true =>
    rw [hq] at hra
    cases q with
    | true =>
      refine ⟨R, p2, s2, hR, by omega, ?_⟩
      simp [a39, g1, hR, r24, hra, g2, setAt_all, sub]
    | false =>
      have hok := smTo_ok (s := (R, 5 + (x : Int))) hR ⟨by simp only; omega, by simp only; omega⟩
      have h0 : smTo (R, 5 + (x : Int)) 0 = (R, 5 + (x : Int)) := rfl
      have hS : ∀ n, smTo (R, 5 + (x : Int)) (n + 1) = smS (smTo (R, 5 + (x : Int)) n) n := fun n => rfl
      refine ⟨(smTo (R, 5 + (x : Int)) 24).1, p3, s3, (hok 24).1, by omega, ?_⟩
      generalize smTo (R, 5 + (x : Int)) = T at *
      simp [a39, g1, hR, r24, hra, g2, g3, w, setAt_all, sub]
      rw [loop_to (fun i => ([(2, V.c (C.ptr 2 0)), (3, V.c (C.ptr 3 0)), (4, V.c (C.int .i64 i)), (5, V.c (C.int .i64 (T (i * 4)).2))], [curB 1 bs.length p3 s3, byB bs o, Blk.cells (List.replicate 24 (C.int .i64 0)) true, Blk.cells ((T (i * 4)).1.map (C.int .i64)) true])) 6]
      · have hl := (hok 24).1
        have t24 := take24 hl
        simp [hl, t24, setAt_all, sub]
      · simp [h0, sub]
      · intro i hi
        have hi' : (i : Int) < 6 := by omega
        have wi := wrapS (k := i) (by omega)
        simp [hi, hi']
        rw [loop_to (fun k => ([(2, V.c (C.ptr 2 0)), (3, V.c (C.ptr 3 0)), (4, V.c (C.int .i64 i)), (5, V.c (C.int .i64 (T (i * 4 + k)).2)), (6, V.c (C.int .i64 k))], [curB 1 bs.length p3 s3, byB bs o, Blk.cells (List.replicate 24 (C.int .i64 0)) true, Blk.cells ((T (i * 4 + k)).1.map (C.int .i64)) true])) 4]
        · have e : (i + 1) * 4 = i * 4 + 4 := by omega
          simp [e, wi, sub]
        · simp [sub]
        · intro k hk
          have hk' : (k : Int) < 4 := by omega
          have wk := wrapS (k := k) (by omega)
          have hs := hS (i * 4 + k)
          obtain ⟨o1, o2, o3⟩ := hok (i * 4 + k)
          have b1 : i * 4 + k + 1 ≤ 24 := by omega
          have b2 : i * 4 + 4 ≤ 24 := by omega
          have g := drop_take1 (c := (T (i * 4 + k)).1) (j := i * 4 + k) (by omega)
          have st := set_ints (T (i * 4 + k)).1 (i * 4 + k) 0
          rw [show i * 4 + (k + 1) = i * 4 + k + 1 by omega, hs]
          clear hs hS hok h0
          unfold smS
          generalize (T (i * 4 + k)).1.getD (i * 4 + k) 0 = y at *
          have hsl : ((T (i * 4 + k)).1.set (i * 4 + k) 0).length = 24 := by simp [o1]
          generalize (T (i * 4 + k)).1.set (i * 4 + k) 0 = L' at *
          generalize (T (i * 4 + k)).1 = L at *
          generalize (T (i * 4 + k)).2 = z at *
          have w2 : IntKind.i64.wrap (z - 1) = z - 1 := wrapI (by omega) (by omega)
          by_cases hz : 0 < z
          · by_cases hy : 0 < y
            · simp [hk, hk', hi, hi', wk, o1, b1, b2, g, hz, hy, w2, sub]
            · simp [hk, hk', hi, hi', wk, o1, b1, b2, g, hz, hy, st, sub]
          · simp [hk, hk', hi, hi', wk, o1, b1, b2, g, hz, st, sub]
end Go.Proofs.YtgpafbbnobanbaaGreatDoor.AM
/- Contracts: all pours that can be poured back, in the reference. -/
namespace Go.Proofs.YtgpafbbnobanbaaGreatDoor.AM
open Go
set_option maxRecDepth 1000000
set_option linter.unusedSimpArgs false
set_option linter.unusedVariables false
def okQ (r : List Int) (n : Nat) : Bool := bkB r ((n / 24 : Nat) : Int) ((n / 4 % 6 : Nat) : Int) ((n % 4 + 1 : Nat) : Int)
def srcTo (r : List Int) : Nat → List (Int × Int × Int)
  | 0 => []
  | n + 1 => if okQ r n = true then srcTo r n ++ [(((n / 24 : Nat) : Int), ((n / 4 % 6 : Nat) : Int), ((n % 4 + 1 : Nat) : Int))] else srcTo r n
theorem srcTo_len (r : List Int) : ∀ n, (srcTo r n).length ≤ n
  | 0 => by simp [srcTo]
  | n + 1 => by
    have := srcTo_len r n
    rw [srcTo]
    split
    · simp; omega
    · omega
def triC (l : List (Int × Int × Int)) : List C := l.flatMap fun t => [C.int .i64 t.1, C.int .i64 t.2.1, C.int .i64 t.2.2]
@[simp] theorem triC_len (l : List (Int × Int × Int)) : (triC l).length = l.length * 3 := by
  induction l with
  | nil => rfl
  | cons t l ih => show (_ :: _ :: _ :: triC l).length = _; simp only [List.length_cons, ih]; omega
@[simp] theorem triC_ids (l : List (Int × Int × Int)) : cids (triC l) = [] := by
  induction l with
  | nil => rfl
  | cons t l ih => exact ih
theorem triC_app (a b : List (Int × Int × Int)) : triC (a ++ b) = triC a ++ triC b := by simp [triC]
@[simp] theorem triC_cmp (g : Nat → Nat) (l : List (Int × Int × Int)) : cmp g (triC l) = triC l := cmp_pure (triC_ids l)
theorem triC_get (l : List (Int × Int × Int)) {k : Nat} (hk : k < l.length) : ((triC l).drop (k * 3)).take 3 = [C.int .i64 (l[k]'hk).1, C.int .i64 (l[k]'hk).2.1, C.int .i64 (l[k]'hk).2.2] := by
  induction l generalizing k with
  | nil => simp at hk
  | cons t l ih =>
    cases k with
    | zero => rfl
    | succ k =>
      have hk' : k < l.length := by simpa using hk
      have e : (k + 1) * 3 = k * 3 + 1 + 1 + 1 := by omega
      rw [e]
      show ((_ :: _ :: _ :: triC l).drop (k * 3 + 1 + 1 + 1)).take 3 = _
      rw [List.drop_succ_cons, List.drop_succ_cons, List.drop_succ_cons, ih hk']
      rfl
set_option maxHeartbeats 8000000 in
theorem c_spec_l5Sources (r : List Int) (h : RackOK r) : ∃ l : List (Int × Int × Int), l.length ≤ 144 ∧ fnI pr np 141 [.agg (r.map (C.int .i64))] [] = some (.c (.sl 0 0 l.length 3), [.cells (triC l) true]) := by
  have hr := h.len
  have h24 := take24 hr
  refine ⟨srcTo r 144, srcTo_len r 144, ?_⟩
  rw [fb (fn := a141) rfl rfl rfl]
  simp [a141, hr, h24]
  rw [loop_to (fun i => ([(1, V.c (C.ptr 0 0)), (3, V.c (C.sl 1 0 (srcTo r (i * 24)).length 3)), (4, V.c (C.int .i64 i))], [Blk.cells (r.map (C.int .i64)) true, Blk.cells (triC (srcTo r (i * 24))) true])) 6]
  · simp [sub]
  · simp [srcTo, triC, sub]
  · intro i hi
    have hi' : (i : Int) < 6 := by omega
    have wi := wrapS (k := i) (by omega)
    simp [hi, hi', hr, h24]
    rw [loop_to (fun j => ([(1, V.c (C.ptr 0 0)), (3, V.c (C.sl 1 0 (srcTo r (i * 24 + j * 4)).length 3)), (4, V.c (C.int .i64 i)), (5, V.c (C.int .i64 j))], [Blk.cells (r.map (C.int .i64)) true, Blk.cells (triC (srcTo r (i * 24 + j * 4))) true])) 6]
    · have e : (i + 1) * 24 = i * 24 + 24 := by omega
      simp [e, wi, sub]
    · simp [sub]
    · intro j hj
      have hj' : (j : Int) < 6 := by omega
      have wj := wrapS (k := j) (by omega)
      simp [hj, hj', hr, h24]
      rw [loop_to (fun k => ([(1, V.c (C.ptr 0 0)), (3, V.c (C.sl 1 0 (srcTo r (i * 24 + j * 4 + k)).length 3)), (4, V.c (C.int .i64 i)), (5, V.c (C.int .i64 j)), (6, V.c (C.int .i64 ((k + 1 : Nat) : Int)))], [Blk.cells (r.map (C.int .i64)) true, Blk.cells (triC (srcTo r (i * 24 + j * 4 + k))) true])) 4]
      · have e : i * 24 + (j + 1) * 4 = i * 24 + j * 4 + 4 := by omega
        simp [e, wj, sub]
      · simp [sub]
      · intro k hk
        have hk1 : (k : Int) + 1 ≤ 4 := by omega
        have wk : IntKind.i64.wrap ((k : Int) + 1 + 1) = (k : Int) + 1 + 1 := wrapI (by omega) (by omega)
        have hb := c_spec_l5Back r h i j ((k : Int) + 1)
        unfold bkW at hb
        have hb := callA_pure hb (by simp) (by simp)
        have hY := bkY_len hr (i : Int) (j : Int) ((k : Int) + 1)
        have y24 := take24 hY
        have hst : srcTo r (i * 24 + j * 4 + k + 1) = if bkB r i j ((k : Int) + 1) = true then srcTo r (i * 24 + j * 4 + k) ++ [((i : Int), (j : Int), (k : Int) + 1)] else srcTo r (i * 24 + j * 4 + k) := by
          rw [srcTo]
          unfold okQ
          rw [show (i * 24 + j * 4 + k) / 24 = i by omega, show (i * 24 + j * 4 + k) / 4 % 6 = j by omega, show (i * 24 + j * 4 + k) % 4 + 1 = k + 1 by omega]
          rfl
        have hl := srcTo_len r (i * 24 + j * 4 + k)
        rw [show i * 24 + j * 4 + (k + 1) = i * 24 + j * 4 + k + 1 by omega]
        generalize bkY r i j ((k : Int) + 1) = Y at *
        generalize bkB r i j ((k : Int) + 1) = q at *
        generalize srcTo r (i * 24 + j * 4 + k + 1) = L' at *
        generalize srcTo r (i * 24 + j * 4 + k) = L at *
        have htk : (triC L).take (L.length * 3) = triC L := List.take_of_length_le (by rw [triC_len]; exact Nat.le_refl _)
        cases q with
        | false =>
          simp at hst
          subst hst
          simp [hk1, wk, hb, hr, h24, hY, y24, setAt_all, setAt, sub]
        | true =>
          rw [if_pos rfl] at hst
          have hfl : triC L ++ [C.int .i64 i, C.int .i64 j, C.int .i64 ((k : Int) + 1)] = triC L' := by rw [hst, triC_app]; rfl
          have hln : L.length + 1 = L'.length := by rw [hst]; simp
          have hroom : L.length + 1 ≤ 68719476736 := by omega
          have hroom' : L'.length ≤ 68719476736 := by omega
          simp [hk1, wk, hb, hr, h24, hY, y24, htk, hfl, hln, hroom, hroom', setAt_all, setAt, sub]
end Go.Proofs.YtgpafbbnobanbaaGreatDoor.AM
/- Contracts: a source and a serve are drawn. -/
namespace Go.Proofs.YtgpafbbnobanbaaGreatDoor.AM
open Go
set_option maxRecDepth 1000000
set_option linter.unusedSimpArgs false
set_option linter.unusedVariables false
set_option maxHeartbeats 8000000 in
theorem c_source5 (bs : List Int) (hb : Bytes bs) (o : Bool) (p : Nat) (hp : p + 50 < 1000000000) (s : Int) (r : List Int) (hr : r.length = 24) : ∃ (x y z : Int) (p' : Nat) (s' : Int), p' ≤ p + 14 ∧ fnI pr np 91 [.c (.ptr 0 0), .agg (r.map (C.int .i64))] [curB 1 bs.length p s, byB bs o] = some (.agg [.int .i64 x, .int .i64 y, .int .i64 z], [curB 1 bs.length p' s', byB bs o]) := by
  have h24 := take24 hr
  have hk := callA_pure (c_rack_spec r hr) (by simp) (by simp)
  have three : ∀ (p1 : Nat) (s1 : Int), p1 ≤ p + 2 → ∃ (x y z : Int) (p2 p3 p' : Nat) (s2 s3 s' : Int), p' ≤ p + 14 ∧ fnI pr np 89 [.c (.ptr 0 0)] [curB 1 bs.length p1 s1, byB bs o] = some (.c (.int .i64 x), [curB 1 bs.length p2 s2, byB bs o]) ∧ fnI pr np 89 [.c (.ptr 0 0)] [curB 1 bs.length p2 s2, byB bs o] = some (.c (.int .i64 y), [curB 1 bs.length p3 s3, byB bs o]) ∧
      fnI pr np 43 [.c (.ptr 0 0), .c (.sl 1 0 ([1, 2, 3, 4, 0, 5, -1] : List Int).length 1)] [curB 2 bs.length p3 s3, .cells (([1, 2, 3, 4, 0, 5, -1] : List Int).map (C.int .i64)) true, byB bs o] = some (.c (.int .i64 z), [curB 2 bs.length p' s', .cells (([1, 2, 3, 4, 0, 5, -1] : List Int).map (C.int .i64)) true, byB bs o]) := by
    intro p1 s1 h1
    obtain ⟨x, p2, s2, h2, hF⟩ := c_place bs hb o p1 (by omega) s1
    obtain ⟨y, p3, s3, h3, hG⟩ := c_place bs hb o p2 (by omega) s2
    obtain ⟨z, p4, s4, hz, h4, hK⟩ := c_among bs hb o p3 (by omega) s3 [1, 2, 3, 4, 0, 5, -1] (by decide) (by decide)
    exact ⟨x, y, z, p2, p3, p4, s2, s3, s4, by omega, hF, hG, hK⟩
  rw [fb (fn := a91) rfl rfl rfl]
  cases hq : okRack r with
  | false =>
    rw [hq] at hk
    obtain ⟨x, y, z, p2, p3, p4, s2, s3, s4, h4, hF, hG, hK⟩ := three p s (by omega)
    have f1 := call_cur (rest := []) rfl hF 0 1
    have f2 := call_cur (rest := []) rfl hG 0 1
    have f3 := call_among (by simp) hK 0 4 1
    simp at f3
    refine ⟨x, y, z, p4, s4, h4, ?_⟩
    simp [a91, hr, h24, hk, f1, f2, f3, setAt_all, setAt, sub]
  | true =>
    rw [hq] at hk
    have h := rackOK hr hq
    obtain ⟨q1, p1, s1, hp1, hG1⟩ := c_one bs hb o p (by omega) s 5 (by decide) (by decide)
    have g1 := call_cur (rest := [.c (.int .i64 5)]) rfl hG1 0 1
    cases q1 with
    | true =>
      obtain ⟨x, y, z, p2, p3, p4, s2, s3, s4, h4, hF, hG, hK⟩ := three p1 s1 hp1
      have f1 := call_cur (rest := []) rfl hF 0 1
      have f2 := call_cur (rest := []) rfl hG 0 1
      have f3 := call_among (by simp) hK 0 4 1
      simp at f3
      refine ⟨x, y, z, p4, s4, h4, ?_⟩
      simp [a91, hr, h24, hk, g1, f1, f2, f3, setAt_all, setAt, sub]
    | false =>
      obtain ⟨l, hl, hu⟩ := c_spec_l5Sources r h
      have hu := callA_new hu (by simp)
      by_cases h0 : 0 < l.length
      · have h0' : (0 : Int) < (l.length : Int) := by omega
        obtain ⟨z, p2, s2, hz, hp2, hG2⟩ := c_pick bs hb o p1 (by omega) s1 l.length (by omega) (by omega)
        have g2 := call_cur (rest := [.c (.int .i64 l.length)]) rfl hG2 0 1
        have hzl : z < l.length := by omega
        have hzl' : (z : Int) < (l.length : Int) := by omega
        have g3 := triC_get l hzl
        have b1 : z * 3 + 3 ≤ l.length * 3 := by omega
        refine ⟨(l[z]'hzl).1, (l[z]'hzl).2.1, (l[z]'hzl).2.2, p2, s2, by omega, ?_⟩
        simp [a91, hr, h24, hk, g1, hu, h0, h0', g2, hzl, hzl', g3, b1, setAt_all, setAt, sub]
      · have h0' : ¬ (0 : Int) < (l.length : Int) := by omega
        obtain ⟨x, y, z, p2, p3, p4, s2, s3, s4, h4, hF, hG, hK⟩ := three p1 s1 hp1
        have f1 := call_cur (rest := []) rfl hF 0 1
        have f2 := call_cur (rest := []) rfl hG 0 1
        have f3 := call_among (by simp) hK 0 5 1
        simp at f3
        refine ⟨x, y, z, p4, s4, h4, ?_⟩
        simp [a91, hr, h24, hk, g1, hu, h0, h0', f1, f2, f3, setAt_all, setAt, sub]
end Go.Proofs.YtgpafbbnobanbaaGreatDoor.AM
/- Contracts: a serve is drawn. -/
namespace Go.Proofs.YtgpafbbnobanbaaGreatDoor.AM
open Go
set_option maxRecDepth 1000000
set_option linter.unusedSimpArgs false
set_option linter.unusedVariables false
set_option maxHeartbeats 16000000 in
theorem c_serve12 (bs : List Int) (hb : Bytes bs) (o : Bool) (p : Nat) (hp : p + 100 < 1000000000) (s : Int) (r : List Int) (hr : r.length = 24) : ∃ (k a b c : Int) (p' : Nat) (s' : Int), p' ≤ p + 30 ∧ fnI pr np 42 [.c (.ptr 0 0), .agg (r.map (C.int .i64))] [curB 1 bs.length p s, byB bs o] = some (.agg [.int .i64 k, .int .i64 a, .int .i64 b, .int .i64 c], [curB 1 bs.length p' s', byB bs o]) := by
  have h24 := take24 hr
  obtain ⟨K, p1, s1, hK, hp1, hG1⟩ := c_among bs hb o p (by omega) s [1, 1, 1, 2, 2, 3, 4, 5] (by decide) (by decide)
  have hK := lit_range (lo := 1) (hi := 5) (by decide) hK
  have g1 := call_among (by simp) hG1 0 4 1
  simp at g1
  rw [fb (fn := a42) rfl rfl rfl]
  simp only [a42]
  generalize hT : (ACode.seq (ACode.seq (ACode.region (AOper.mk (some 58) none _ :: _) _) _) _) = cT
  have fin : ∀ (q1 : Nat) (t1 : Int), q1 ≤ p + 20 → ∀ (k a b c : Int) (x4 : Blk) (g : Heap), (g = [] ∨ ∃ x, g = [x]) → ∃ (k' a' b' c' : Int) (p' : Nat) (s' : Int), p' ≤ p + 30 ∧ leaveK 2 [RV.cell 4 4 true] (exI pr np 2 cT [(0, V.c (C.ptr 0 0)), (4, V.c (C.ptr 3 0)), (5, V.c (C.ptr 5 0))] ([curB 1 bs.length q1 t1, byB bs o, Blk.cells (r.map (C.int .i64)) true, Blk.cells [C.int .i64 0, C.int .i64 0, C.int .i64 0, C.int .i64 0] true, x4, Blk.cells [C.int .i64 k, C.int .i64 a, C.int .i64 b, C.int .i64 c] true] ++ g)) = some (.agg [.int .i64 k', .int .i64 a', .int .i64 b', .int .i64 c'], [curB 1 bs.length p' s', byB bs o]) := by
    intro q1 t1 hq1 k a b c x4 g hg
    subst hT
    obtain ⟨x, q2, t2, hx, hq2, hF⟩ := c_pick bs hb o q1 (by omega) t1 40 (by decide) (by decide)
    have f1 := call_cur (rest := [.c (.int .i64 40)]) rfl hF 0 1
    obtain ⟨y, q3, t3, hy, hq3, hG⟩ := c_among bs hb o q2 (by omega) t2 [-1, 1, 5] (by decide) (by decide)
    have f2 := call_among (by simp) hG 0 6 1
    have f2' := call_among (by simp) hG 0 7 1
    obtain ⟨z, q4, t4, hz, hq4, hH⟩ := c_among bs hb o q2 (by omega) t2 [0, 6, -1] (by decide) (by decide)
    have f3 := call_among (by simp) hH 0 6 1
    have f3' := call_among (by simp) hH 0 7 1
    simp at f2 f2' f3 f3'
    by_cases h0 : x = 0
    · subst h0
      refine ⟨k, a, b, y, q3, t3, by omega, ?_⟩
      rcases hg with rfl | ⟨x6, rfl⟩
      · simp [f1, f2, setAt_all, setAt, sub]
      · simp [f1, f2', setAt_all, setAt, sub]
    · have x0 : ¬ (x : Int) = 0 := by omega
      have x0b : ((x : Int) == 0) = false := beq_eq_false_iff_ne.2 x0
      by_cases h1 : x = 1
      · subst h1
        refine ⟨z, a, b, c, q4, t4, by omega, ?_⟩
        rcases hg with rfl | ⟨x6, rfl⟩
        · simp [f1, f3, setAt_all, setAt, sub]
        · simp [f1, f3', setAt_all, setAt, sub]
      · have x1 : ¬ (x : Int) = 1 := by omega
        have x1b : ((x : Int) == 1) = false := beq_eq_false_iff_ne.2 x1
        refine ⟨k, a, b, c, q2, t2, by omega, ?_⟩
        rcases hg with rfl | ⟨x6, rfl⟩
        · simp [f1, h0, h1, x0, x0b, x1, x1b, setAt_all, setAt, sub]
        · simp [f1, h0, h1, x0, x0b, x1, x1b, setAt_all, setAt, sub]
  clear hT
  obtain rfl | rfl | rfl | rfl | rfl : K = 1 ∨ K = 2 ∨ K = 3 ∨ K = 4 ∨ K = 5 := by omega
  · obtain ⟨x, y, p2, s2, hp2, hF⟩ := c_drawPour bs hb o p1 (by omega) s1 r hr
    have f := call_cur (rest := [.agg (r.map (C.int .i64))]) (by simp) hF 0 1
    obtain ⟨k', a', b', c', p', s', hp', hfin⟩ := fin p2 s2 (by omega) 1 x y 0 (.cells (([1, 1, 1, 2, 2, 3, 4, 5] : List Int).map (C.int .i64)) true) [.cells [C.int .i64 x, C.int .i64 y] true] (.inr ⟨_, rfl⟩)
    refine ⟨k', a', b', c', p', s', hp', ?_⟩
    simp [g1, f, hr, h24, setAt_all, setAt, sub]
    exact hfin
  · obtain ⟨x, p2, s2, hp2, hF⟩ := c_place bs hb o p1 (by omega) s1
    have f := call_cur (rest := []) rfl hF 0 1
    obtain ⟨y, p3, s3, hp3, hG⟩ := c_color bs hb o p2 (by omega) s2
    have f2 := call_cur (rest := []) rfl hG 0 1
    obtain ⟨k', a', b', c', p', s', hp', hfin⟩ := fin p3 s3 (by omega) 2 x y 0 (.cells (([1, 1, 1, 2, 2, 3, 4, 5] : List Int).map (C.int .i64)) true) [] (.inl rfl)
    refine ⟨k', a', b', c', p', s', hp', ?_⟩
    simp [g1, f, f2, hr, h24, setAt_all, setAt, sub]
    exact hfin
  · obtain ⟨x, p2, s2, hp2, hF⟩ := c_place bs hb o p1 (by omega) s1
    have f := call_cur (rest := []) rfl hF 0 1
    obtain ⟨k', a', b', c', p', s', hp', hfin⟩ := fin p2 s2 (by omega) 3 x 0 0 (.cells (([1, 1, 1, 2, 2, 3, 4, 5] : List Int).map (C.int .i64)) true) [] (.inl rfl)
    refine ⟨k', a', b', c', p', s', hp', ?_⟩
    simp [g1, f, hr, h24, setAt_all, setAt, sub]
    exact hfin
  · obtain ⟨x, p2, s2, hp2, hF⟩ := c_place bs hb o p1 (by omega) s1
    have f := call_cur (rest := []) rfl hF 0 1
    obtain ⟨y, p3, s3, hp3, hG⟩ := c_place bs hb o p2 (by omega) s2
    have f2 := call_cur (rest := []) rfl hG 0 1
    obtain ⟨k', a', b', c', p', s', hp', hfin⟩ := fin p3 s3 (by omega) 4 x y 0 (.cells (([1, 1, 1, 2, 2, 3, 4, 5] : List Int).map (C.int .i64)) true) [] (.inl rfl)
    refine ⟨k', a', b', c', p', s', hp', ?_⟩
    simp [g1, f, f2, hr, h24, setAt_all, setAt, sub]
    exact hfin
  · obtain ⟨x, y, z, p2, s2, hp2, hF⟩ := c_source5 bs hb o p1 (by omega) s1 r hr
    have f := call_cur (rest := [.agg (r.map (C.int .i64))]) (by simp) hF 0 1
    obtain ⟨k', a', b', c', p', s', hp', hfin⟩ := fin p2 s2 (by omega) 5 x y z (.cells (([1, 1, 1, 2, 2, 3, 4, 5] : List Int).map (C.int .i64)) true) [.cells [C.int .i64 x, C.int .i64 y, C.int .i64 z] true] (.inr ⟨_, rfl⟩)
    refine ⟨k', a', b', c', p', s', hp', ?_⟩
    simp [g1, f, hr, h24, setAt_all, setAt, sub]
    exact hfin
end Go.Proofs.YtgpafbbnobanbaaGreatDoor.AM
/- Contracts: the reference's serve of a bar; the law. -/
namespace Go.Proofs.YtgpafbbnobanbaaGreatDoor.AM
open Go
set_option maxRecDepth 1000000
set_option linter.unusedSimpArgs false
set_option linter.unusedVariables false
def mkO (r : List Int) (m k a b c : Int) : (List Int × Int) × Bool :=
  if k = 1 then ((pR r a b, m + pN r a b), pB r a b)
  else if k = 2 then ((ptR r a b, m), ptB r a b)
  else if k = 3 then ((tkR r a, m), tkB r a)
  else if k = 4 then ((swR r a b, m), swB r a b)
  else if k = 5 then (if pbB r a b c = true then ((pbR r a b c, m - c), true) else ((r, m), false))
  else ((r, m), false)
theorem mkO_len {r : List Int} (hr : r.length = 24) (m k a b c : Int) : (mkO r m k a b c).1.1.length = 24 := by
  unfold mkO
  split
  · exact pR_len hr a b
  · split
    · exact ptR_len hr a b
    · split
      · exact tkR_len hr a
      · split
        · exact swR_len hr a b
        · split
          · split
            · exact pbR_len hr a b c
            · exact hr
          · exact hr
def mkSV (r : List Int) (m n k a b c : Int) : V := .tup [.agg (barC (mkO r m k a b c).1.1 (mkO r m k a b c).1.2 n), .c (.bool (mkO r m k a b c).2)]
set_option maxHeartbeats 8000000 in
theorem c_spec_l12Make (r : List Int) (hr : r.length = 24) (m n : Int) (hm : 0 ≤ m ∧ m ≤ 9999) (k a b c : Int) : fnI pr np 86 [.agg (barC r m n), .agg [.int .i64 k, .int .i64 a, .int .i64 b, .int .i64 c]] [] = some (mkSV r m n k a b c, []) := by
  have l0 := barC_len hr m n
  have l1 := barC_rack hr m n
  have l2 := barC_all hr m n
  have fin : ∀ s : List Int, s.length = 24 → (barC s m n).length = 26 ∧ setAt (barC r m n) 0 (s.map (C.int .i64)) = barC s m n ∧ ((barC s m n).drop 24).take 1 = [C.int .i64 m] ∧ (∀ y, (barC s m n).set 24 (C.int .i64 y) = barC s y n) ∧ (∀ x y, (barC s x y).take 26 = barC s x y) ∧ (∀ x y, (barC s x y).length = 26) ∧ (s.map (C.int .i64)).take 24 = s.map (C.int .i64) := fun s hs => ⟨barC_len hs _ _, barC_set hr hs m n, barC_m hs m n, fun y => barC_setm hs m n y, fun x y => barC_all hs x y, fun x y => barC_len hs x y, take24 hs⟩
  rw [fb (fn := a86) rfl rfl rfl]
  unfold mkSV mkO
  by_cases k1 : k = 1
  · subst k1
    have h := c_spec_Pour r hr a b
    unfold pV at h
    have hl := pR_len hr a b
    have hN := pN_range r a b
    have w1 : IntKind.i64.wrap (m + pN r a b) = m + pN r a b := wrapI (by omega) (by omega)
    generalize pB r a b = q at *
    have h := callA_pure h (by simp) (by simp)
    obtain ⟨f0, f1, f2, f3, f4, f5, f6⟩ := fin _ hl
    generalize pR r a b = s at *
    generalize pN r a b = d at *
    simp [a86, l0, l1, l2, h, hl, f0, f1, f2, f3, f4, f5, f6, w1, setAt_all, setAt, sub]
  · by_cases k2 : k = 2
    · subst k2
      have h := c_spec_PutLayer r hr a b
      unfold ptV at h
      have hl := ptR_len hr a b
      generalize ptB r a b = q at *
      have h := callA_pure h (by simp) (by simp)
      obtain ⟨f0, f1, f2, f3, f4, f5, f6⟩ := fin _ hl
      generalize ptR r a b = s at *
      simp [a86, l0, l1, l2, h, hl, f0, f1, f2, f3, f4, f5, f6, setAt_all, setAt, sub]
    · by_cases k3 : k = 3
      · subst k3
        have h := c_spec_TakeLayer r hr a
        unfold tkV at h
        have hl := tkR_len hr a
        generalize tkB r a = q at *
        have h := callA_pure h (by simp) (by simp)
        obtain ⟨f0, f1, f2, f3, f4, f5, f6⟩ := fin _ hl
        generalize tkR r a = s at *
        simp [a86, l0, l1, l2, h, hl, f0, f1, f2, f3, f4, f5, f6, setAt_all, setAt, sub]
      · by_cases k4 : k = 4
        · subst k4
          have h := c_spec_SwapTubes r hr a b
          unfold swV at h
          have hl := swR_len hr a b
          generalize swB r a b = q at *
          have h := callA_pure h (by simp) (by simp)
          obtain ⟨f0, f1, f2, f3, f4, f5, f6⟩ := fin _ hl
          generalize swR r a b = s at *
          simp [a86, l0, l1, l2, h, hl, f0, f1, f2, f3, f4, f5, f6, setAt_all, setAt, sub]
        · by_cases k5 : k = 5
          · subst k5
            have h := c_spec_PourBack r hr a b c
            unfold pbV at h
            have hl := pbR_len hr a b c
            obtain ⟨f0, f1, f2, f3, f4, f5, f6⟩ := fin _ hl
            cases q : pbB r a b c with
            | false =>
              rw [q] at h
              have h := callA_pure h (by simp) (by simp)
              generalize pbR r a b c = s at *
              simp [a86, l0, l1, l2, h, hl, f0, f1, f6, setAt_all, sub]
            | true =>
              rw [q] at h
              have h := callA_pure h (by simp) (by simp)
              have hc := pb_range q
              have w1 : IntKind.i64.wrap (m - c) = m - c := wrapI (by omega) (by omega)
              generalize pbR r a b c = s at *
              simp [a86, l0, l1, l2, h, hl, f0, f1, f2, f3, f4, f5, f6, w1, setAt_all, setAt, sub]
          · simp [a86, l0, l1, l2, k1, k2, k3, k4, k5, setAt_all, sub]
def plnB (k b c : Int) : Bool := if k = 3 then decide (b = 0) && decide (c = 0) else if k = 5 then true else decide (c = 0)
theorem c_spec_l12Plain (k a b c : Int) : fnI pr np 87 [.agg [.int .i64 k, .int .i64 a, .int .i64 b, .int .i64 c]] [] = some (.c (.bool (plnB k b c)), []) := by
  rw [fb (fn := a87) rfl rfl rfl]
  unfold plnB
  by_cases k3 : k = 3
  · subst k3
    by_cases hb : b = 0
    · subst hb; simp [a87, sub]; rfl
    · have hb' : (b == 0) = false := beq_eq_false_iff_ne.2 hb
      simp [a87, hb, hb', sub]
  · by_cases k5 : k = 5
    · subst k5; simp [a87, sub]
    · simp [a87, k3, k5, sub]; rfl
theorem sv_of_mk (r : List Int) (m k a b c : Int) : svO r k a b c = if plnB k b c = true ∧ (mkO r m k a b c).2 = true then some ((mkO r m k a b c).1.1, (mkO r m k a b c).1.2 - m) else none := by
  have e1 : ∀ x : Int, m + x - m = x := fun x => by omega
  have e2 : ∀ x : Int, m - x - m = -x := fun x => by omega
  unfold svO mkO plnB
  by_cases k1 : k = 1
  · subst k1
    by_cases hc : c = 0 <;> simp [hc, e1]
  · by_cases k2 : k = 2
    · subst k2
      by_cases hc : c = 0 <;> simp [hc]
    · by_cases k3 : k = 3
      · subst k3
        by_cases hb : b = 0 <;> by_cases hc : c = 0 <;> simp [hb, hc]
      · by_cases k4 : k = 4
        · subst k4
          by_cases hc : c = 0 <;> simp [hc]
        · by_cases k5 : k = 5
          · subst k5
            by_cases hq : pbB r a b c = true <;> simp [hq, e2]
          · simp [k1, k2, k3, k4, k5]
set_option maxHeartbeats 4000000 in
theorem c_spec_l12Do (r : List Int) (hr : r.length = 24) (m n k a b c : Int) (hq : barOK r m n = true) : fnI pr np 41 [.agg (barC r m n), .agg [.int .i64 k, .int .i64 a, .int .i64 b, .int .i64 c]] [] = some (doV r m n k a b c, []) := by
  obtain ⟨hm, hn⟩ := barOK_range hq
  have l0 := barC_len hr m n
  have l2 := barC_all hr m n
  have l3 := barC_n hr m n
  have wn : IntKind.i64.wrap (n + 1) = n + 1 := wrapI (by omega) (by omega)
  have h1 := c_spec_l12Make r hr m n hm k a b c
  have h2 := callA_pure (c_spec_l12Plain k a b c) (by simp) (by simp)
  have hsv := sv_of_mk r m k a b c
  have hl := mkO_len hr m k a b c
  unfold mkSV at h1
  rw [fb (fn := a41) rfl rfl rfl]
  unfold doV doO
  rw [hq, hsv]
  generalize mkO r m k a b c = M at *
  obtain ⟨⟨s, x⟩, q⟩ := M
  simp only at h1 hl hsv ⊢
  have h1 := callA_pure h1 (by simp) (by simp)
  have h3 := callA_pure (c_bar_spec s hl x (n + 1)) (by simp) (by simp)
  have f0 := barC_len hl x n
  have f1 := fun y => barC_setn hl x n y
  have f2 := fun y => barC_all hl x y
  have f3 := fun y => barC_len hl x y
  have ex : m + (x - m) = x := by omega
  cases q with
  | false => simp [a41, l0, l2, l3, h1, h2, f0, f1, f2, f3, wn, setAt_all, setAt, sub]
  | true =>
    cases hp : plnB k b c with
    | false => rw [hp] at h2; simp [a41, l0, l2, l3, h1, h2, f0, f1, f2, f3, wn, setAt_all, setAt, sub]
    | true =>
      rw [hp] at h2
      cases hg : barOK s x (n + 1) with
      | false => rw [hg] at h3; simp [a41, l0, l2, l3, h1, h2, h3, f0, f1, f2, f3, wn, ex, hg, setAt_all, setAt, sub]
      | true => rw [hg] at h3; simp [a41, l0, l2, l3, h1, h2, h3, f0, f1, f2, f3, wn, ex, hg, setAt_all, setAt, sub]
end Go.Proofs.YtgpafbbnobanbaaGreatDoor.AM
/- Arguments with slices of bytes, or of structs of four ints. -/
namespace Go.Proofs.YtgpafbbnobanbaaGreatDoor.AM
open Go Go.ChangeShapes Go.WideShapes Go.RowKit Go.WideElems Go.Deep
set_option maxRecDepth 1000000
set_option linter.unusedVariables false
/-- a slice of elements of n ints each, whatever their kind and make -/
theorem open_rows {H : Type} {enc : TypeId × Value → H} {P : Program} {W : World} {t e : TypeId} {n : Nat} {K : IntKind} {Rg : Int → Prop} {cs : List Value} {x : DataW H × List MemPlace} {fuel : Nat} (ht : P.underlying t = some (.slice e)) (hce : P.cellsOf e = n) (hn : 0 < n) (hint : ∀ {base : Nat} {spare : Nat → Bool} {held : Bool} {fuel : Nat} {cs : List Value} {x : DataW H × List MemPlace}, DataW.trod enc P W base spare held fuel e cs = some x → cs.length = n → ∀ {k : Nat}, k < n → ∃ z : Int, cs[k]? = some (.int K z) ∧ Rg z)
    (h : DataW.trod enc P W 0 (fun _ => true) true fuel t cs = some x) (htab : TabIn W := by exact fun _ _ h => by cases h) :
    ∃ (v : Value) (xs : List Int) (len : Nat) (φ : Phi), cs = [v] ∧ xs.length = len * n ∧ len ≤ maxLen ∧ (∀ x ∈ xs, Rg x) ∧ HeapOK φ (lkp [.cells (xs.map (C.int K)) false]) W ∧ VRc φ (.sl 0 0 len n) v := by
  rcases open_slice ht h with ⟨rfl, _⟩ | ⟨a, len, cap, m, k, D, Pl, rfl, hb, hl, hm, hmm, rfl, hx⟩
  · exact ⟨_, [], 0, noPhi, rfl, by simp, Nat.zero_le _, by simp, noPhi_heap _ W htab, .inl ⟨rfl, _, rfl⟩⟩
  · simp only [if_true] at hmm
    subst hmm
    by_cases hcap : m = 0
    · subst hcap
      have : len = 0 := by omega
      subst this
      exact ⟨_, [], 0, noPhi, rfl, by simp, Nat.zero_le _, by simp, noPhi_heap _ W htab, .inl ⟨rfl, _, rfl⟩⟩
    · have hcell : ∀ j, ∃ z : Int, j < m * n → W.cell? (a.add j) = some (.int K z) ∧ Rg z := by
        intro j
        by_cases hj : j < m * n
        · have hj1 : j / n < m := Nat.div_lt_of_lt_mul (by rw [Nat.mul_comm]; exact hj)
          have hj2 : j % n < n := Nat.mod_lt _ hn
          obtain ⟨cs', h1, h2⟩ := hx (j / n) hj1
          rw [hce] at h1
          obtain ⟨_, hlen, hc⟩ := World.cells?_some h1
          obtain ⟨z, hz, hr⟩ := hint h2 hlen hj2
          refine ⟨z, fun _ => ⟨?_, hr⟩⟩
          rw [← hz, ← hc _ hj2, addr_add]
          congr 2
          exact (Nat.div_add_mod' j n).symm
        · exact ⟨0, fun h => absurd h hj⟩
      obtain ⟨f, hf⟩ := Classical.axiomOfChoice hcell
      have hpos : 0 < m * n := Nat.mul_pos (by omega) hn
      have h0 := (hf 0 hpos).1
      have hfirst : ∃ cur ty fr, W.heap[a.block]? = some (.cells cur ty fr) ∧ a.spot = none := by
        have h0 : W.cell? a = some (.int K (f 0)) := by simpa [Addr.add] using h0
        unfold World.cell? at h0
        split at h0
        · rename_i c ty fr hc
          split at h0
          · cases h0
          · rename_i hs
            exact ⟨c, ty, fr, hc, by simpa using hs⟩
        · cases h0
      obtain ⟨cur, ty, fr, hheap, hspot⟩ := hfirst
      have ha : a = ⟨a.block, a.off, none⟩ := by cases a; simp_all
      have hcur : ∀ j, j < m * n → cur[a.off + j]? = some (.int K (f j)) := by
        intro j hj
        have := (hf j hj).1
        rw [ha, add_lit] at this
        simpa [World.cell?, hheap] using this
      have hsize : a.off + m * n ≤ cur.size := by
        have := hcur (m * n - 1) (by omega)
        have := (Array.getElem?_eq_some_iff.1 this).1
        omega
      have hln : len * n ≤ m * n := Nat.mul_le_mul_right _ hl
      refine ⟨_, (List.range (len * n)).map f, len, onePhi ⟨a.block, a.off, m * n⟩, rfl, by simp, by omega, ?_, ⟨⟨fun i b p hb hp => ?_, fun i j b c p q hb hc ho => ?_, fun i p hp => ?_⟩, htab, fun g cs _ ⟨i, b, p, hb, ho, hp, _⟩ => by cases i with | zero => (simp [lkp] at hb; subst hb; simp [Blk.own] at ho) | succ i => simp [lkp] at hb⟩, .inr ⟨⟨a.block, a.off, m * n⟩, m, rfl, by rw [Nat.add_zero, ← ha], hl, hm, by simp⟩⟩
      · intro x hx
        obtain ⟨j, hj, rfl⟩ := List.mem_map.1 hx
        exact (hf j (by have := List.mem_range.1 hj; omega)).2
      · cases i with
        | zero =>
          simp [lkp] at hb
          simp [onePhi] at hp
          subst hb; subst hp
          refine ⟨cur, ty, fr, hheap, hsize, by simpa using hln, fun j c hj => ?_, fun h => by cases h⟩
          have hjl : j < len * n := by have := (List.getElem?_eq_some_iff.1 hj).1; simpa using this
          rw [List.getElem?_eq_getElem (by simpa using hjl)] at hj
          simp only [List.getElem_map, List.getElem_range, Option.some.injEq] at hj
          subst hj
          exact ⟨_, hcur j (by omega), rfl⟩
        | succ i => simp [lkp] at hb
      · cases i with
        | zero => simp [lkp] at hb; subst hb; simp [Blk.own] at ho
        | succ i => simp [lkp] at hb
      · cases i with
        | zero => exact ⟨_, rfl⟩
        | succ i => simp [onePhi] at hp
/-- a slice of bytes -/
def bytesOK (P : Program) (t : TypeId) : Bool := match slEl P t with
  | some e => (intK P e == some .u8) && (P.cellsOf e == 1)
  | none => false
theorem open_bytes {H : Type} {enc : TypeId × Value → H} {P : Program} {W : World} {base : Nat} {t : TypeId} {v : Value} {d : DataW H} {p : List MemPlace} (hp : bytesOK P t = true) (hw : Value.okWide P W .any base t v) (hD : DataW.Trod enc P W 0 (fun _ => true) true t v d p) (htab : TabIn W := by exact fun _ _ h => by cases h) :
    ∃ (l : List Int) (φ : Phi), l.length ≤ maxLen ∧ (∀ x ∈ l, 0 ≤ x ∧ x < 256) ∧ HeapOK φ (lkp [.cells (l.map (C.int .u8)) false]) W ∧ VRc φ (.sl 0 0 l.length 1) v := by
  unfold bytesOK at hp
  split at hp
  · rename_i e he
    simp only [Bool.and_eq_true, beq_iff_eq] at hp
    obtain ⟨h1, h2⟩ := hp
    have hk := slEl_ok he
    obtain ⟨fuel, hDD⟩ := hD
    obtain ⟨u, xs, len, φ, hu, hxs, hlen, hrg, hheap, hvr⟩ := open_rows (K := .u8) (Rg := fun x => 0 ≤ x ∧ x < 256) hk h2 (by decide) (by
      intro base spare held fuel cs x h hl k hk0
      obtain ⟨z, hz, _, h3⟩ := DataW.trod_int (intK_ok h1) h
      subst hz
      have : k = 0 := by omega
      subst this
      refine ⟨z, rfl, ?_⟩
      simp [Lit.wf, IntKind.min, IntKind.max, IntKind.bits, IntKind.signed] at h3
      omega) hDD htab
    have hvu : v = u := by
      have hw : Cell.okWide P W .any base t v := by
        unfold Value.okWide at hw
        rw [hk] at hw
        exact hw
      cases v with
      | agg cs => simp [Cell.okWide, hk, Cell.ok] at hw
      | _ => first | (simp [Value.cells] at hu; exact hu) | (simp [Cell.okWide, hk, Cell.ok] at hw)
    subst hvu
    have e1 : xs.length = len := by omega
    exact ⟨xs, φ, by omega, hrg, hheap, by rw [e1]; exact hvr⟩
  · cases hp
/-- four ints -/
structure Four where
  k : Int
  a : Int
  b : Int
  c : Int
end Go.Proofs.YtgpafbbnobanbaaGreatDoor.AM
/- Contracts: a bar is served many times; the law. -/
namespace Go.Proofs.YtgpafbbnobanbaaGreatDoor.AM
open Go
set_option maxRecDepth 1000000
set_option linter.unusedSimpArgs false
set_option linter.unusedVariables false
/-! ### the serves one by one -/
structure St where
  r : List Int
  m : Int
  n : Int
def srv (s : St) (q : Four) : Option St := (doO s.r s.m s.n q.k q.a q.b q.c).map fun p => ⟨p.1, p.2, s.n + 1⟩
theorem srv_ok {s s' : St} {q : Four} (h : srv s q = some s') (hr : s.r.length = 24) : s'.r.length = 24 ∧ barOK s'.r s'.m s'.n = true := by
  unfold srv at h
  cases hd : doO s.r s.m s.n q.k q.a q.b q.c with
  | none => rw [hd] at h; cases h
  | some p =>
    rw [hd] at h
    injection h with h
    subst h
    obtain ⟨x, y⟩ := p
    unfold doO at hd
    split at hd
    · split at hd
      · rename_i s2 d hs
        split at hd
        · rename_i hok
          injection hd with hd; injection hd with h1 h2; subst h1; subst h2
          exact ⟨(svO_facts hr hs).1, hok⟩
        · cases hd
      · cases hd
    · cases hd
theorem doV_some {s s' : St} {q : Four} (h : srv s q = some s') : doV s.r s.m s.n q.k q.a q.b q.c = .tup [.agg (barC s'.r s'.m s'.n), .c (.bool true)] := by
  unfold srv at h
  unfold doV
  cases hd : doO s.r s.m s.n q.k q.a q.b q.c with
  | none => rw [hd] at h; cases h
  | some p => rw [hd] at h; injection h with h; subst h; rfl
theorem doV_none {s : St} {q : Four} (h : srv s q = none) : doV s.r s.m s.n q.k q.a q.b q.c = .tup [.agg (List.replicate 26 (C.int .i64 0)), .c (.bool false)] := by
  unfold srv at h
  unfold doV
  cases hd : doO s.r s.m s.n q.k q.a q.b q.c with
  | none => rfl
  | some p => rw [hd] at h; cases h
end Go.Proofs.YtgpafbbnobanbaaGreatDoor.AM
/- Contracts: a bar is drawn. -/
namespace Go.Proofs.YtgpafbbnobanbaaGreatDoor.AM
open Go
set_option maxRecDepth 1000000
set_option linter.unusedSimpArgs false
set_option linter.unusedVariables false
theorem newBar_form (r : List Int) (hr : r.length = 24) : ∃ (R : List Int), R.length = 24 ∧ (okRack r = true → barOK R 0 0 = true) ∧ newBar r = .tup [.agg (barC R 0 0), .c (.bool (okRack r))] := by
  unfold newBar
  cases hq : okRack r with
  | true => exact ⟨r, hr, fun _ => by unfold barOK; rw [hq]; rfl, by simp⟩
  | false => exact ⟨List.replicate 24 0, by simp, (fun h => nomatch h), by simp [barC]⟩
theorem doV_form {r : List Int} {m n : Int} (hr : r.length = 24) (k a b c : Int) : ∃ (R : List Int) (x y : Int) (q : Bool), R.length = 24 ∧ (q = true → barOK R x y = true) ∧ doV r m n k a b c = .tup [.agg (barC R x y), .c (.bool q)] := by
  cases h : srv ⟨r, m, n⟩ ⟨k, a, b, c⟩ with
  | some s' =>
    have h1 := srv_ok h hr
    have h2 := doV_some h
    dsimp only at h2
    exact ⟨s'.r, s'.m, s'.n, true, h1.1, (fun _ => h1.2), h2⟩
  | none =>
    have h2 := doV_none h
    dsimp only at h2
    refine ⟨List.replicate 24 0, 0, 0, false, by simp, (fun h => nomatch h), ?_⟩
    rw [h2]
    simp [barC]
def BaI (bs : List Int) (o q : Bool) (x P k : Nat) (st : Env × Heap) : Prop := ∃ (R : List Int) (m n : Int) (p' : Nat) (s' : Int), R.length = 24 ∧ (q = true → barOK R m n = true) ∧ p' ≤ P + 30 * k ∧ st = ([(0, V.c (C.ptr 0 0)), (2, V.c (C.ptr 2 0)), (3, V.c (C.ptr 3 0)), (4, V.c (C.bool q)), (5, V.c (C.int .i64 ((x : Int) - (k : Int))))], [curB 1 bs.length p' s', byB bs o, Blk.cells (List.replicate 26 (C.int .i64 0)) true, Blk.cells (barC R m n) true])
def BaE (bs : List Int) (o q : Bool) (P : Nat) (r : Ex × Env × Heap) : Prop := ∃ (R : List Int) (m n : Int) (p' : Nat) (s' z : Int), R.length = 24 ∧ p' ≤ P + 180 ∧ r = (.exit 0, [(0, V.c (C.ptr 0 0)), (2, V.c (C.ptr 2 0)), (3, V.c (C.ptr 3 0)), (4, V.c (C.bool q)), (5, V.c (C.int .i64 z)), (20, V.c (C.bool false))], [curB 1 bs.length p' s', byB bs o, Blk.cells (List.replicate 26 (C.int .i64 0)) true, Blk.cells (barC R m n) true])
theorem put_tube {r : List Int} (hr : r.length = 24) (m n : Int) {i : Nat} (hi : i < 6) (a b c d : Int) : ∃ r' : List Int, r'.length = 24 ∧ ((((barC r m n).set (i * 4) (C.int .i64 a)).set (i * 4 + 1) (C.int .i64 b)).set (i * 4 + 1 + 1) (C.int .i64 c)).set (i * 4 + 1 + 1 + 1) (C.int .i64 d) = barC r' m n := by
  refine ⟨(((r.set (i * 4) a).set (i * 4 + 1) b).set (i * 4 + 1 + 1) c).set (i * 4 + 1 + 1 + 1) d, by simp [hr], ?_⟩
  unfold barC
  rw [List.set_append_left _ _ (by simp [hr]; omega), List.set_append_left _ _ (by simp [hr]; omega), List.set_append_left _ _ (by simp [hr]; omega), List.set_append_left _ _ (by simp [hr]; omega)]
  simp [List.map_set]
def BarP (bs : List Int) (o : Bool) (p : Nat) (v : V) (h' : Heap) : Prop := ∃ (R : List Int) (m n : Int) (p' : Nat) (s' : Int), R.length = 24 ∧ p' ≤ p + 700 ∧ v = .agg (barC R m n) ∧ h' = [curB 1 bs.length p' s', byB bs o]
set_option maxHeartbeats 16000000 in
theorem c_bar (bs : List Int) (hb : Bytes bs) (o : Bool) (p : Nat) (hp : p + 3000 < 1000000000) (s : Int) : ∃ (v : V) (h' : Heap), fnI pr np 18 [.c (.ptr 0 0)] [curB 1 bs.length p s, byB bs o] = some (v, h') ∧ BarP bs o p v h' := by
  obtain ⟨R0, p1, s1, hR0, hp1, hF⟩ := c_small3 bs hb o p (by omega) s
  have g1 := call_cur (rest := []) rfl hF 0 1
  have r24 := take24 hR0
  obtain ⟨R1, hR1, hok1, hnb⟩ := newBar_form R0 hR0
  have hN := c_spec_NewBar R0 hR0
  rw [hnb] at hN
  have hN := callA_pure hN (by simp) (by simp)
  obtain ⟨x, p2, s2, hx, hp2, hG⟩ := c_pick bs hb o p1 (by omega) s1 6 (by decide) (by decide)
  have g2 := call_cur (rest := [.c (.int .i64 6)]) rfl hG 0 1
  have b26 := fun (R : List Int) (hR : R.length = 24) (m n : Int) => barC_all hR m n
  have bl := fun (R : List Int) (hR : R.length = 24) (m n : Int) => (barC_parts R hR m n).1
  have bR1 := b26 R1 hR1 0 0
  have lR1 := bl R1 hR1 0 0
  rw [fb (fn := a18) rfl rfl rfl]
  simp [a18, g1, hR0, r24, hN, bR1, lR1, g2, setAt_all, sub]
  generalize okRack R0 = q at *
  generalize hX : exI pr np 2 (ACode.loop _ _) _ _ = X
  have hl := loop_exit hX (BaI bs o q x p2) 6 (BaE bs o q p2) ⟨([(0, V.c (C.ptr 0 0)), (2, V.c (C.ptr 2 0)), (3, V.c (C.ptr 3 0)), (4, V.c (C.bool q)), (5, V.c (C.int .i64 x))], [curB 1 bs.length p2 s2, byB bs o, Blk.cells (List.replicate 26 (C.int .i64 0)) true, Blk.cells (barC R1 0 0) true]), by simp [sub], R1, 0, 0, p2, s2, hR1, hok1, by omega, by simp⟩ ?_
  · obtain ⟨r, rfl, R, m, n, p3, s3, z, hR, hp3, rfl⟩ := hl
    clear hX
    have bR := b26 R hR m n
    have lR := bl R hR m n
    obtain ⟨y, p4, s4, hy, hp4, hH⟩ := c_pick bs hb o p3 (by omega) s3 48 (by decide) (by decide)
    have g3 := call_cur (rest := [.c (.int .i64 48)]) rfl hH 0 1
    obtain ⟨u, p5, s5, hu, hp5, hJ⟩ := c_among bs hb o p4 (by omega) s4 [-1, 1000, 1001] (by decide) (by decide)
    have g4 := call_among (by simp) hJ 0 4 1
    obtain ⟨w, p6, s6, hw, hp6, hL⟩ := c_among bs hb o p4 (by omega) s4 [-1, 9999, 10000, 1] (by decide) (by decide)
    have g5 := call_among (by simp) hL 0 4 1
    obtain ⟨i, p7, s7, hi, hp7, hM⟩ := c_pick bs hb o p4 (by omega) s4 6 (by decide) (by decide)
    have g6 := call_cur (rest := [.c (.int .i64 6)]) rfl hM 0 1
    simp at g4 g5
    have i6 : i < 6 := by omega
    have i6' : (i : Int) < 6 := by omega
    have b1 : i * 4 + 4 ≤ 26 := by omega
    have b2 : i * 4 + 4 ≤ 24 := by omega
    have e1 := barC_setn hR m n u
    have e2 := barC_setm hR m n w
    obtain ⟨R', hR', e3⟩ := put_tube hR m n i6 0 0 1 0
    have bR' := b26 R' hR' m n
    have lR' := bl R' hR' m n
    have bu := b26 R hR m u
    have lu := bl R hR m u
    have bw := b26 R hR w n
    have lw := bl R hR w n
    by_cases h0 : y = 0
    · subst h0
      simp [g3, g4, lR, bR, e1, bu, lu, setAt_all, setAt, sub]
      first | exact ⟨R, m, u, p5, s5, hR, by omega, rfl, rfl⟩ | exact ⟨_, _, ⟨rfl, rfl⟩, R, m, u, p5, s5, hR, by omega, rfl, rfl⟩ | exact ⟨_, _, rfl, R, m, u, p5, s5, hR, by omega, rfl, rfl⟩
    · have y0 : ¬ (y : Int) = 0 := by omega
      have y0b : ((y : Int) == 0) = false := beq_eq_false_iff_ne.2 y0
      by_cases h1 : y = 1
      · subst h1
        simp [g3, g5, lR, bR, e2, bw, lw, setAt_all, setAt, sub]
        first | exact ⟨R, w, n, p6, s6, hR, by omega, rfl, rfl⟩ | exact ⟨_, _, ⟨rfl, rfl⟩, R, w, n, p6, s6, hR, by omega, rfl, rfl⟩ | exact ⟨_, _, rfl, R, w, n, p6, s6, hR, by omega, rfl, rfl⟩
      · have y1 : ¬ (y : Int) = 1 := by omega
        have y1b : ((y : Int) == 1) = false := beq_eq_false_iff_ne.2 y1
        by_cases h2 : y = 2
        · subst h2
          simp [g3, g6, lR, bR, i6, i6', b1, b2, e3, bR', lR', setAt_all, setAt, sub]
          first | exact ⟨R', m, n, p7, s7, hR', by omega, rfl, rfl⟩ | exact ⟨_, _, ⟨rfl, rfl⟩, R', m, n, p7, s7, hR', by omega, rfl, rfl⟩ | exact ⟨_, _, rfl, R', m, n, p7, s7, hR', by omega, rfl, rfl⟩
        · have y2 : ¬ (y : Int) = 2 := by omega
          have y2b : ((y : Int) == 2) = false := beq_eq_false_iff_ne.2 y2
          simp [g3, lR, bR, h0, y0, y0b, h1, y1, y1b, h2, y2, y2b, setAt_all, setAt, sub]
          first | exact ⟨R, m, n, p4, s4, hR, by omega, rfl, rfl⟩ | exact ⟨_, _, ⟨rfl, rfl⟩, R, m, n, p4, s4, hR, by omega, rfl, rfl⟩ | exact ⟨_, _, rfl, R, m, n, p4, s4, hR, by omega, rfl, rfl⟩
  · intro k hk st hst
    obtain ⟨R, m, n, p3, s3, hR, hok, hp3, rfl⟩ := hst
    have bR := b26 R hR m n
    have lR := bl R hR m n
    by_cases hkx : 0 < (x : Int) - (k : Int)
    · have hkn : k < x := by omega
      cases q with
      | false =>
        right
        refine ⟨_, ?_, R, m, n, p3, s3, (x : Int) - (k : Int), hR, by omega, rfl⟩
        simp [hkx, hkn, sub]
      | true =>
        left
        have k6 : k < 6 := by omega
        refine ⟨k6, ?_⟩
        have hbo := hok rfl
        have h24 := barC_rack hR m n
        obtain ⟨kk, a, b, c, p4, s4, hp4, hS⟩ := c_serve12 bs hb o p3 (by omega) s3 R hR
        have g3 := call_cur (rest := [.agg (R.map (C.int .i64))]) (by simp) hS 0 1
        obtain ⟨Rn, xn, yn, qn, hRn, hokn, hdo⟩ := doV_form (m := m) (n := n) hR kk a b c
        have hD := c_spec_l12Do R hR m n kk a b c hbo
        rw [hdo] at hD
        have hD := callA_pure hD (by simp) (by simp)
        have bRn := b26 Rn hRn xn yn
        have lRn := bl Rn hRn xn yn
        have r24' := take24 hR
        have f1 := farE_one (ks := [4, 1000003]) (t := 3) (by decide) (by decide)
        have wk : IntKind.i64.wrap ((x : Int) - (k : Int) - 1) = (x : Int) - ((k + 1 : Nat) : Int) := (wrapI (by omega) (by omega)).trans (by omega)
        cases qn with
        | true =>
          refine ⟨([(0, V.c (C.ptr 0 0)), (2, V.c (C.ptr 2 0)), (3, V.c (C.ptr 3 0)), (4, V.c (C.bool true)), (5, V.c (C.int .i64 ((x : Int) - ((k + 1 : Nat) : Int))))], [curB 1 bs.length p4 s4, byB bs o, Blk.cells (List.replicate 26 (C.int .i64 0)) true, Blk.cells (barC Rn xn yn) true]), ?_, Rn, xn, yn, p4, s4, hRn, fun _ => hokn rfl, by omega, rfl⟩
          simp [-farE, f1, hkx, hkn, lR, bR, h24, hR, r24', g3, hD, lRn, bRn, wk, setAt_all, setAt, stillE, madeA, idOf, sub]
        | false =>
          refine ⟨([(0, V.c (C.ptr 0 0)), (2, V.c (C.ptr 2 0)), (3, V.c (C.ptr 3 0)), (4, V.c (C.bool true)), (5, V.c (C.int .i64 ((x : Int) - ((k + 1 : Nat) : Int))))], [curB 1 bs.length p4 s4, byB bs o, Blk.cells (List.replicate 26 (C.int .i64 0)) true, Blk.cells (barC R m n) true]), ?_, R, m, n, p4, s4, hR, hok, by omega, rfl⟩
          simp [-farE, f1, hkx, hkn, lR, bR, h24, hR, r24', g3, hD, lRn, bRn, wk, setAt_all, setAt, stillE, madeA, idOf, sub]
    · have hkn : ¬ k < x := by omega
      right
      refine ⟨_, ?_, R, m, n, p3, s3, (x : Int) - (k : Int), hR, by omega, rfl⟩
      simp [hkx, hkn, sub]
end Go.Proofs.YtgpafbbnobanbaaGreatDoor.AM
/- Contracts: a bar is drawn out of bytes. -/
namespace Go.Proofs.YtgpafbbnobanbaaGreatDoor.AM
open Go
set_option maxRecDepth 1000000
set_option linter.unusedSimpArgs false
set_option linter.unusedVariables false
set_option maxHeartbeats 4000000 in
theorem c_DrawIsBar (bs : List Int) (hb : Bytes bs) (o : Bool) : ∃ (R : List Int) (m n : Int), R.length = 24 ∧ fnI pr np 5 [.c (.sl 0 0 bs.length 1)] [byB bs o] = some (.agg (barC R m n), [byB bs o]) := by
  obtain ⟨v, h', hF, R, m, n, p1, s1, hR, hp1, rfl, rfl⟩ := c_bar bs hb o 0 (by omega) 0
  have g1 := call_cur (rest := []) rfl hF 3 0
  have bR := barC_all hR m n
  have lR := (barC_parts R hR m n).1
  have hcu : Blk.cells [C.sl 0 0 bs.length 1, C.int .i64 0, C.int .u64 0] true = curB 0 bs.length 0 0 := rfl
  refine ⟨R, m, n, hR, ?_⟩
  rw [fb (fn := a5) rfl rfl rfl]
  simp [a5, g1, hcu, bR, lR, setAt_all, sub]
end Go.Proofs.YtgpafbbnobanbaaGreatDoor.AM
/- Contracts: is it big, and bytes are cut (as in the texts of logs). -/
namespace Go.Proofs.YtgpafbbnobanbaaGreatDoor.AM
open Go
set_option maxRecDepth 1000000
set_option linter.unusedSimpArgs false
set_option linter.unusedVariables false
theorem c_laws_vBig (bs : List Int) (o : Bool) (hn : bs.length ≤ 9223372036854775807) : fnI pr np 4 [.c (.sl 0 0 bs.length 1)] [byB bs o] = some (.c (.bool (decide (65536 < bs.length))), [byB bs o]) := by
  have e : decide ((65536 : Int) < (bs.length : Int)) = decide (65536 < bs.length) := by apply decide_eq_decide.2; omega
  rw [fb (fn := a4) rfl rfl rfl]
  simp [a4, sub]
  omega
end Go.Proofs.YtgpafbbnobanbaaGreatDoor.AM
/- Law: what the console tells is what the functions of the other chapters return. -/
namespace Go.Proofs.YtgpafbbnobanbaaGreatDoor.AM
open Go
set_option maxRecDepth 1000000
set_option linter.unusedSimpArgs false
set_option linter.unusedVariables false
set_option maxHeartbeats 4000000
theorem useful_pairs (r : List Int) : pairsOK (usefulL r) := fun p hp => by
  obtain ⟨a, b, _⟩ := mem_useful.1 (show (p.1, p.2) ∈ usefulL r from hp)
  exact ⟨a, b⟩
theorem useful_le (r : List Int) : (usefulL r).length ≤ 36 := Nat.le_trans (List.length_filter_le _ _) (poursTo_len r 36)
theorem spare_range {r : List Int} (hr : r.length = 24) : -999999 ≤ spare r ∧ spare r ≤ 999999 := by
  have h1 := runsFrom_le hr 6 0 (Nat.le_refl _)
  have h2 := colorsFrom_le (cnts r) 5 1
  unfold spare
  omega
theorem poured_len (l : List (Nat × Nat)) (hn : l.length ≤ 1000) (q : Bool) : (pouredT l q).length < 100000000 := by
  unfold pouredT listT
  have := join_pT l
  split
  · split
    · decide
    · omega
  · decide
theorem word_len (n : Int) (h : -999999 ≤ n ∧ n ≤ 999999) (q : Bool) : (wordT n q).length < 100000000 := by
  unfold wordT Lib.itoa
  split
  · split
    · have := dec_len n.natAbs (by omega)
      simp; omega
    · have := dec_len n.toNat (by omega)
      omega
  · decide
/-- a call whose argument names nothing: the answer comes with one new block -/
theorem call_slN {F : Fns} {f n sz : Nat} {rest : List V} {b : Blk} {v : V} (hre : rest.flatMap V.ids = []) (hbi : b.ids = []) (hF : F f (.c (.sl 0 0 n sz) :: rest) [b] = some (v, [b])) (hv : v.ids = []) (i : Nat) (H : HF) (base : Nat) (hb : (H i == some b) = true) : callA F f (.c (.sl i 0 n sz) :: rest) H base = some (v, [], [(i, b)]) := callA_s hb hre hbi hF hv base
theorem c_laws_FnConsoleWords (bs : List Int) (hlen : bs.length ≤ 9223372036854775807) (hrg : ∀ x ∈ bs, 0 ≤ x ∧ x < 256) : fnI pr np 3 [.c (.sl 0 0 bs.length 1)] [byB bs false] = some (.c (.bool true), [byB bs false]) := by
  have hbig := call_slN (rest := []) rfl (by simp) (c_laws_vBig bs false hlen) (by simp) 0
  rw [fb (fn := a3) rfl rfl rfl]
  by_cases hB : 65536 < bs.length
  · rw [decide_eq_true hB] at hbig
    simp [a3, hbig, sub]
  rw [decide_eq_false hB] at hbig
  have hb : Bytes bs := ⟨hrg, by omega⟩
  obtain ⟨r, m, n, hr, hD⟩ := c_DrawIsBar bs hb false
  have hD := call_slN (rest := []) rfl (by simp) hD (by simp) 0
  have h24 := take24 hr
  obtain ⟨l26, t24, _, _, t26⟩ := barC_parts r hr m n
  have v1 := c_impl_NewConsole r hr m n
  unfold newCon at v1
  cases hq : okBar r m n with
  | false =>
    have v2 := c_spec_IsBar r hr m n
    rw [show (!anyFrom (rowBad r) 0 6 && (decide (0 ≤ m) && decide (m ≤ 9999)) && (decide (0 ≤ n) && decide (n ≤ 1000))) = okBar r m n from rfl, show r.map (C.int .i64) ++ [C.int .i64 m, C.int .i64 n] = barC r m n from rfl, hq] at v2
    have v2 := callA_pure v2 (by simp) (by simp)
    rw [hq] at v1
    simp only [Bool.false_eq_true, if_false] at v1
    generalize hz : List.replicate 24 (0 : Int) = Z at v1
    have hZ : Z.length = 24 := by rw [← hz]; rfl
    clear hz
    obtain ⟨k0, k1, k2, k29, knd⟩ := conC_parts Z hZ 0 0
    have hids := conC_ids Z 0 0
    have v1 := callA_pure v1 (by simp) (by simp [hids])
    generalize conC Z 0 0 = K at *
    simp [a3, hbig, hD, v1, v2, l26, t24, t26, k0, k29, knd, hids, setAt_all, sub]
  | true =>
    have h : RackOK r := ⟨hr, okBar_rack hr hq⟩
    rw [hq] at v1
    obtain ⟨k0, k1, k2, k29, knd⟩ := conC_parts r hr m n
    have hids := conC_ids r m n
    have v1 := callA_pure v1 (by simp) (by simp [hids])
    simp only [if_true] at v1
    -- the words
    have hpl := preT_len hr 6 (Nat.le_refl _)
    obtain ⟨d1, p1, n1, x1⟩ := c_Execute hr hq ok_rack (by omega) (p_rack r h m n)
    have ul := useful_le r
    obtain ⟨d2, p2, n2, x2⟩ := c_Execute hr hq ok_useful (poured_len _ (by omega) true) (p_useful r h m n (useful_pairs r) (by omega))
    have f3 := c_fewest r h
    have hst : -999999 ≤ (if stopA (formL r) = true then (stopM (formL r) : Int) else 0) ∧ (if stopA (formL r) = true then (stopM (formL r) : Int) else 0) ≤ 999999 := by
      have := stopM_le (formL r)
      split <;> omega
    obtain ⟨out, ho, hol, f4⟩ := c_first r h
    generalize (if stopA (formL r) = true then (stopM (formL r) : Int) else 0) = few at *
    generalize stopA (formL r) = can at *
    obtain ⟨d3, p3, n3, x3⟩ := c_Execute hr hq ok_fewest (word_len few hst can) (p_fewest r h m n few can hst f3)
    obtain ⟨d4, p4, n4, x4⟩ := c_Execute hr hq ok_way (poured_len _ hol can) (p_way r h m n out can ho hol f4)
    obtain ⟨v, hv, hsg, f5⟩ := c_viewOf r h
    obtain ⟨b, sure, hs1, hs2, f6⟩ := c_certain hv hsg
    obtain ⟨d5, p5, n5, x5⟩ := c_Execute hr hq ok_certain (poured_len _ (by omega) b) (p_certain r h m n hv f5 sure b hs1 (by omega) f6)
    have f7 := c_impl_RunsLeft r hr m n
    have hsp := spare_range hr
    unfold runsLeft at f7
    rw [hq] at f7
    simp only [if_true] at f7
    obtain ⟨d6, p6, n6, x6⟩ := c_Execute hr hq ok_left (word_len _ hsp true) (p_left r h m n _ true hsp f7)
    have x1 := callA_pure x1 (by simp [hids]) (by simp [logC_ids])
    have x2 := callA_pure x2 (by simp [hids]) (by simp [logC_ids])
    have x3 := callA_pure x3 (by simp [hids]) (by simp [logC_ids])
    have x4 := callA_pure x4 (by simp [hids]) (by simp [logC_ids])
    have x5 := callA_pure x5 (by simp [hids]) (by simp [logC_ids])
    have x6 := callA_pure x6 (by simp [hids]) (by simp [logC_ids])
    simp only [wRack] at x1
    simp only [wUseful] at x2
    simp only [wFewest] at x3
    simp only [wWay] at x4
    simp only [wCertain] at x5
    simp only [wLeft] at x6
    have ll := logC_len hr m n
    have li := logC_ids r m n
    have la : ∀ d p k, (logC r m n d p k).take 29 = logC r m n d p k := fun d p k => List.take_of_length_le (by rw [ll]; omega)
    have lnd : ∀ d p k, noDead (logC r m n d p k) = true := fun d p k => by simp [logC, noDead_app2, noDead]
    -- the functions
    have y1 := callA_pure (c_RackText r h) (by simp) (by simp)
    have y2 := callA_new (c_UsefulPours r h) (by simp)
    have y3 := callA_pure f3 (by simp) (by simp)
    have y4 := callA_new f4 (by simp)
    have y5 := callA_pure (c_ViewOf r h hv f5) (by simp) (by simp)
    have y6 := callA_new f6 (by simp)
    have y7 := callA_pure f7 (by simp) (by simp)
    have z2 := fun (i : Nat) (H : HF) hb base => callA_s (rest := [.c (.bool true)]) (H := H) (i := i) hb rfl (by simp [cids_app]) (c_vPourText (usefulL r) (useful_pairs r) (by omega) true (padC r) (by simp) true) (by simp) base
    have w4 := c_vPourText out ho hol can [] rfl true
    have w6 := c_vPourText sure hs1 (by omega) b [] rfl true
    rw [List.append_nil] at w4 w6
    have z4 := fun (i : Nat) (H : HF) hb base => callA_s (rest := [.c (.bool can)]) (H := H) (i := i) hb rfl (by simp) w4 (by simp) base
    have z6 := fun (i : Nat) (H : HF) hb base => callA_s (rest := [.c (.bool b)]) (H := H) (i := i) hb rfl (by simp) w6 (by simp) base
    have z3 := callA_pure (c_vWord few can hst) (by simp) (by simp)
    have z7 := callA_pure (c_vWord (spare r) true hsp) (by simp) (by simp)
    have vl := hv.len
    have c18 : v.cs.take 18 = v.cs := List.take_of_length_le (by omega)
    clear f3 f4 f5 f6 f7 w4 w6 hsp hst ho hol hs1 hs2 ul hpl hsg hv h
    generalize pouredT (usefulL r) true = T2 at *
    generalize pouredT out can = T4 at *
    generalize pouredT sure b = T6 at *
    generalize wordT few can = T3 at *
    generalize wordT (spare r) true = T7 at *
    generalize preT r 6 = T1 at *
    generalize spare r = sp at *
    simp [a3, hbig, hD, v1, x1, x2, x3, x4, x5, x6, y1, y2, y3, y4, y5, y6, y7, z2, z3, z4, z6, z7, l26, t24, t26, k0, k29, knd, hids, hr, h24, ll, li, la, lnd, vl, c18, back, setAt_all, sub, cids_app, cmp_app]
end Go.Proofs.YtgpafbbnobanbaaGreatDoor.AM
/- A text cut at a byte: plain laws, no program in sight. -/
namespace Go.Proofs.YtgpafbbnobanbaaGreatDoor.AM
open Go
set_option maxRecDepth 1000000
set_option linter.unusedSimpArgs false
set_option linter.unusedVariables false
theorem splC_ne (c : UInt8) : ∀ s : List UInt8, splC c s ≠ []
  | [] => by simp [splC]
  | b :: s => by
    unfold splC
    split
    · simp
    · split <;> simp
theorem splC_cons {c b : UInt8} (h : ¬ b = c) (s x : List UInt8) (r : List (List UInt8)) (hs : splC c s = x :: r) : splC c (b :: s) = (b :: x) :: r := by
  unfold splC
  rw [if_neg h, hs]
theorem splC_len (c : UInt8) : ∀ s : List UInt8, (splC c s).length = s.count c + 1
  | [] => rfl
  | b :: s => by
    have ih := splC_len c s
    by_cases h : b = c
    · subst h
      simp [splC, ih]
    · obtain ⟨x, r, hx⟩ : ∃ x r, splC c s = x :: r := by
        cases hc : splC c s with
        | nil => exact absurd hc (splC_ne c s)
        | cons x r => exact ⟨x, r, rfl⟩
      rw [splC_cons h s x r hx, List.count_cons_of_ne (by simpa using h)]
      rw [hx] at ih
      simpa using ih
theorem splitK_splC (c : UInt8) : ∀ s : List UInt8, Lib.splitK [c] 0 (s.count c) s = splC c s
  | [] => rfl
  | b :: s => by
    have ih := splitK_splC c s
    by_cases h : b = c
    · subst h
      rw [List.count_cons_self]
      unfold Lib.splitK
      have hi : Lib.index (b :: s) [b] = 0 := by rw [Lib.index_one]; simp [Lib.indexByte]
      rw [hi]
      simp [splC, ih]
    · rw [List.count_cons_of_ne (by simpa using h)]
      by_cases h0 : s.count c = 0
      · rw [h0] at ih ⊢
        have hs : splC c s = [s] := by rw [← ih]; rfl
        rw [splC_cons h s s [] hs]
        rfl
      · obtain ⟨k, hk⟩ : ∃ k, s.count c = k + 1 := ⟨s.count c - 1, by omega⟩
        rw [hk] at ih ⊢
        have hne : ¬ Lib.indexByte s c = -1 := by
          intro e
          have hm : c ∈ s := List.count_pos_iff.1 (by omega)
          obtain ⟨j, hj⟩ := List.getElem?_of_mem hm
          exact Lib.indexByte_none e j hj
        have hge := Lib.indexByte_ge s c
        obtain ⟨i, hi⟩ : ∃ i : Nat, Lib.indexByte s c = (i : Int) := ⟨(Lib.indexByte s c).toNat, by omega⟩
        have h1 : Lib.index s [c] = (i : Int) := by rw [Lib.index_one, hi]
        have h2 : Lib.index (b :: s) [c] = ((i + 1 : Nat) : Int) := by
          rw [Lib.index_one]
          unfold Lib.indexByte
          have hb : (b == c) = false := by simpa using h
          rw [hb, hi]
          have : ((i : Int) == -1) = false := beq_eq_false_iff_ne.2 (by omega)
          simp [this]
        unfold Lib.splitK at ih ⊢
        have m1 : ((i : Int) == -1) = false := beq_eq_false_iff_ne.2 (by omega)
        have m2 : (((i + 1 : Nat) : Int) == -1) = false := beq_eq_false_iff_ne.2 (by omega)
        rw [h1, m1] at ih
        rw [h2, m2]
        simp only [Bool.false_eq_true, if_false, Int.toNat_natCast, Nat.add_zero, List.length_cons, List.length_nil] at ih ⊢
        rw [splC_cons h s _ _ ih.symm]
        rfl
theorem splC_lib (c : UInt8) (s : List UInt8) : (Lib.splitB ⟨#[c]⟩ 0 (Lib.countB ⟨s.toArray⟩ ⟨#[c]⟩) ⟨s.toArray⟩).map (fun x => x.data.toList) = splC c s := by
  have h := Lib.splitB_data ⟨#[c]⟩ 0 (Lib.countB ⟨s.toArray⟩ ⟨#[c]⟩) ⟨s.toArray⟩
  have e : Lib.countB ⟨s.toArray⟩ ⟨#[c]⟩ = s.count c := Lib.count_one c s
  rw [e] at h ⊢
  rw [h]
  exact splitK_splC c s
theorem countB_len (c : UInt8) (s : List UInt8) : Lib.countB ⟨s.toArray⟩ ⟨#[c]⟩ + 1 = (splC c s).length := by
  rw [splC_len]
  have e : Lib.countB ⟨s.toArray⟩ ⟨#[c]⟩ = s.count c := Lib.count_one c s
  rw [e]
/-- the cells of the pieces -/
theorem splC_cells (φ : Phi) (c : UInt8) (s : List UInt8) : All2 (VRc φ) ((splC c s).map C.str) ((Lib.splitB ⟨#[c]⟩ 0 (Lib.countB ⟨s.toArray⟩ ⟨#[c]⟩) ⟨s.toArray⟩).map Value.string) := by
  rw [← splC_lib c s]
  generalize Lib.splitB ⟨#[c]⟩ 0 (Lib.countB ⟨s.toArray⟩ ⟨#[c]⟩) ⟨s.toArray⟩ = l
  induction l with
  | nil => trivial
  | cons x l ih => exact ⟨rfl, ih⟩
/-- what the library's function leaves -/
theorem split_ok {φ : Phi} {h : Heap} {w : World} (hh : HeapOK φ (lkp h) w) (c : UInt8) (s : List UInt8) (hs : s.length < 4294967281) (t : TypeId) :
    ∃ φ', (∀ i, i < h.length → φ' i = φ i) ∧ VR φ' (.c (.sl h.length 0 (splC c s).length 1)) (.slice (some ⟨w.heap.size, 0, none⟩) (Lib.countB ⟨s.toArray⟩ ⟨#[c]⟩ + 1) (Lib.countB ⟨s.toArray⟩ ⟨#[c]⟩ + 1)) ∧
      Mv φ (lkp h) w φ' (lkp (h ++ [.cells ((splC c s).map C.str) true])) (w.alloc (.cells ((Lib.splitB ⟨#[c]⟩ 0 (Lib.countB ⟨s.toArray⟩ ⟨#[c]⟩) ⟨s.toArray⟩).map Value.string).toArray t)) := by
  have hlen : ((Lib.splitB ⟨#[c]⟩ 0 (Lib.countB ⟨s.toArray⟩ ⟨#[c]⟩) ⟨s.toArray⟩).map Value.string).length = (splC c s).length := by
    have := (splC_cells φ c s).length
    simpa using this.symm
  have hnew := New.row (φ := φ) (w := w) (n := h.length) (cs := (splC c s).map C.str) (bs := []) (cur := ((Lib.splitB ⟨#[c]⟩ 0 (Lib.countB ⟨s.toArray⟩ ⟨#[c]⟩) ⟨s.toArray⟩).map Value.string).toArray) (e := t) (own := true)
    (fun φ' _ => ⟨_, rfl, by
      have e : (((Lib.splitB ⟨#[c]⟩ 0 (Lib.countB ⟨s.toArray⟩ ⟨#[c]⟩) ⟨s.toArray⟩).map Value.string).toArray.toList.take ((splC c s).map C.str).length) = (Lib.splitB ⟨#[c]⟩ 0 (Lib.countB ⟨s.toArray⟩ ⟨#[c]⟩) ⟨s.toArray⟩).map Value.string := by
        rw [List.take_of_length_le]
        simp only [List.length_map]
        have := hlen
        simp only [List.length_map] at this
        simp
        omega
      rw [e]
      exact splC_cells φ' c s⟩) w (Fr.refl _ _)
  have hout := hnew.out hh (hh.free _)
  have hlk : lkp (h ++ [.cells ((splC c s).map C.str) true]) = updH (lkp h) h.length [.cells ((splC c s).map C.str) true] [] := by
    have := lkp_step (h := h) (ns := [.cells ((splC c s).map C.str) true]) (us := []) (by simp)
    simpa [ups] using this
  refine ⟨_, fun i hi => hnew.old i (.inl hi), ?_, by rw [hlk]; exact hout.mv⟩
  refine .inr ⟨⟨w.heap.size, 0, ((Lib.splitB ⟨#[c]⟩ 0 (Lib.countB ⟨s.toArray⟩ ⟨#[c]⟩) ⟨s.toArray⟩).map Value.string).toArray.size⟩, Lib.countB ⟨s.toArray⟩ ⟨#[c]⟩ + 1, ?_, ?_, ?_, ?_, ?_⟩
  · unfold Phi.at; simp
  · rw [countB_len]
  · rw [countB_len]; exact Nat.le_refl _
  · rw [countB_len, splC_len]
    have := List.count_le_length (a := c) (l := s)
    have : maxLen = 9223372036854775807 := rfl
    omega
  · simp only [List.size_toArray, hlen, countB_len]
    omega
end Go.Proofs.YtgpafbbnobanbaaGreatDoor.AM
/- Arguments: structs of ints and texts, texts, bools. -/
namespace Go.Proofs.YtgpafbbnobanbaaGreatDoor.AM
open Go Go.ChangeShapes Go.WideShapes Go.RowKit Go.WideElems
set_option maxRecDepth 1000000
set_option linter.unusedSimpArgs false
set_option linter.unusedVariables false
inductive PKd where
  | int
  | str
  deriving DecidableEq
end Go.Proofs.YtgpafbbnobanbaaGreatDoor.AM
