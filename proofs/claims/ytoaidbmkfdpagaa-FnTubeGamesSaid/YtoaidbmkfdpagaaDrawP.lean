import Derived.Test.YtoaidbmkfdpagaaDrawR
import Derived.Test.YtoaidbmkfdpagaaBound
/- Contracts: places, colors and pours are drawn; good pours of the reference. -/
namespace Go.Proofs.Ytoaidbmkfdpagaa.AM
open Go
set_option maxRecDepth 1000000
set_option linter.unusedSimpArgs false
set_option linter.unusedVariables false
theorem c_place (bs : List Int) (hb : Bytes bs) (o : Bool) (p : Nat) (hp : p + 10 < 1000000000) (s : Int) : ∃ (x : Int) (p' : Nat) (s' : Int), p' ≤ p + 4 ∧ fnI pr np 113 [.c (.ptr 0 0)] [curB 1 bs.length p s, byB bs o] = some (.c (.int .i64 x), [curB 1 bs.length p' s', byB bs o]) := by
  obtain ⟨q, p1, s1, hp1, hG1⟩ := c_one bs hb o p (by omega) s 40 (by decide) (by decide)
  have g1 := call_cur (rest := [.c (.int .i64 40)]) rfl hG1 0 1
  cases q with
  | true =>
    obtain ⟨x, p2, s2, hx, hp2, hG2⟩ := c_among bs hb o p1 (by omega) s1 [-1, 6, 4611686018427387904] (by decide) (by decide)
    have g2 := call_among (by simp) hG2 0 2 1
    simp at g2
    refine ⟨x, p2, s2, by omega, ?_⟩
    rw [fb (fn := a113) rfl rfl]
    simp [a113, g1, g2, sub]
  | false =>
    obtain ⟨x, p2, s2, hx, hp2, hG2⟩ := c_pick bs hb o p1 (by omega) s1 6 (by decide) (by decide)
    have g2 := call_cur (rest := [.c (.int .i64 6)]) rfl hG2 0 1
    refine ⟨x, p2, s2, by omega, ?_⟩
    rw [fb (fn := a113) rfl rfl]
    simp [a113, g1, g2, sub]
theorem c_color (bs : List Int) (hb : Bytes bs) (o : Bool) (p : Nat) (hp : p + 10 < 1000000000) (s : Int) : ∃ (x : Int) (p' : Nat) (s' : Int), p' ≤ p + 6 ∧ fnI pr np 114 [.c (.ptr 0 0)] [curB 1 bs.length p s, byB bs o] = some (.c (.int .i64 x), [curB 1 bs.length p' s', byB bs o]) := by
  obtain ⟨q, p1, s1, hp1, hG1⟩ := c_one bs hb o p (by omega) s 40 (by decide) (by decide)
  have g1 := call_cur (rest := [.c (.int .i64 40)]) rfl hG1 0 1
  cases q with
  | true =>
    obtain ⟨x, p2, s2, hx, hp2, hG2⟩ := c_among bs hb o p1 (by omega) s1 [-1, 0, 6, 4611686018427387904] (by decide) (by decide)
    have g2 := call_among (by simp) hG2 0 2 1
    simp at g2
    refine ⟨x, p2, s2, by omega, ?_⟩
    rw [fb (fn := a114) rfl rfl]
    simp [a114, g1, g2, sub]
  | false =>
    obtain ⟨y, p2, s2, hy, hp2, hG2⟩ := c_among bs hb o p1 (by omega) s1 [3, 2, 5, 3] (by decide) (by decide)
    have hy := lit_range (lo := 0) (hi := 5) (by decide) hy
    have g2 := call_among (by simp) hG2 0 2 1
    simp at g2
    obtain ⟨x, p3, s3, hx, hp3, hG3⟩ := c_pick bs hb o p2 (by omega) s2 y (by omega) (by omega)
    have g3 := call_cur (rest := [.c (.int .i64 y)]) rfl hG3 0 1
    have w : IntKind.i64.wrap (1 + (x : Int)) = 1 + (x : Int) := wrapI (by omega) (by omega)
    refine ⟨1 + (x : Int), p3, s3, by omega, ?_⟩
    rw [fb (fn := a114) rfl rfl]
    simp [a114, g1, g2, g3, w, sub]
/-! ### good pours -/
def goodP (r : List Int) (p : Nat × Nat) : Bool := decide (boundN (pourR r p.1 p.2) < boundN r)
def goodTo (r : List Int) (k : Nat) : List (Nat × Nat) := ((poursL r).take k).filter (goodP r)
def goodL (r : List Int) : List (Nat × Nat) := (poursL r).filter (goodP r)
theorem goodTo_len (r : List Int) (k : Nat) : (goodTo r k).length ≤ k := Nat.le_trans (List.length_filter_le _ _) (by simp; omega)
theorem goodTo_succ (r : List Int) {k : Nat} (hk : k < (poursL r).length) : goodTo r (k + 1) = goodTo r k ++ if goodP r ((poursL r)[k]'hk) = true then [(poursL r)[k]'hk] else [] := by
  unfold goodTo
  rw [take_snoc hk, List.filter_append]
  congr 1
  by_cases h : goodP r ((poursL r)[k]'hk) = true <;> simp [h]
theorem goodTo_all (r : List Int) : goodTo r (poursL r).length = goodL r := by unfold goodTo goodL; rw [List.take_length]
theorem poursL_len36 (r : List Int) : (poursL r).length ≤ 36 := poursTo_len r 36
theorem goodL_len (r : List Int) : (goodL r).length ≤ 36 := Nat.le_trans (List.length_filter_le _ _) (poursL_len36 r)
theorem flatC_take2 (l : List (Nat × Nat)) {k : Nat} (h : k < l.length) : ((flatC l).drop (k * 2)).take 2 = [C.int .i64 (l[k]'h).1, C.int .i64 (l[k]'h).2] := by
  have := flatC_get l [] k h
  rwa [List.append_nil] at this
theorem flatC_ones (l : List (Nat × Nat)) {k : Nat} (h : k < l.length) : ((flatC l).drop (k * 2)).take 1 = [C.int .i64 (l[k]'h).1] ∧ ((flatC l).drop (k * 2 + 1)).take 1 = [C.int .i64 (l[k]'h).2] := by
  have e := flatC_take2 l h
  have hl : (flatC l).length = l.length * 2 := flatC_len l
  have h1 : k * 2 < (flatC l).length := by omega
  have h2 : k * 2 + 1 < (flatC l).length := by omega
  rw [List.drop_eq_getElem_cons h1, List.take_succ_cons, List.drop_eq_getElem_cons h2, List.take_succ_cons] at e
  simp only [List.take_zero, List.cons.injEq, and_true] at e
  rw [List.drop_eq_getElem_cons h1, List.drop_eq_getElem_cons h2, List.take_succ_cons, List.take_succ_cons, e.1, e.2]
  exact ⟨rfl, rfl⟩
theorem c_spec_l6Good (r : List Int) (h : RackOK r) : fnI pr np 209 [.agg (r.map (C.int .i64))] [] = some (.c (.sl 0 0 (goodL r).length 2), [.cells (flatC (goodL r)) true]) := by
  have hr := h.len
  have h24 := take24 hr
  have hu := callA_new (c_spec_l2Pours r h) (by simp)
  have hl := poursL_len36 r
  have hb := callA_pure (c_spec_l6Bound r h) (by simp) (by simp)
  rw [fb (fn := a209) rfl rfl]
  simp [a209, hr, h24, hu]
  rw [loop_to (fun k => ([(1, V.c (C.ptr 0 0)), (3, V.c (C.sl 1 0 (goodTo r k).length 2)), (4, V.c (C.sl 2 0 (poursL r).length 2)), (5, V.c (C.int .i64 k))], [Blk.cells (r.map (C.int .i64)) true, Blk.cells (flatC (goodTo r k)) true, Blk.cells (flatC (poursL r)) true])) (poursL r).length]
  · simp [goodTo_all, sub]
  · simp [goodTo, flatC_nil, sub]
  · intro k hk
    have hk' : (k : Int) < ((poursL r).length : Int) := by omega
    have hm := mem_poursL (List.getElem_mem hk)
    have hc := callA_pure (c_spec_l2Pour r h hm.1 hm.2.1) (by simp) (by simp)
    have hq := h.pour hm.1 hm.2.1 (canP_ne hm.2.2)
    have hb2 := callA_pure (c_spec_l6Bound _ hq) (by simp) (by simp)
    obtain ⟨g1, g2⟩ := flatC_ones (poursL r) hk
    have g3 := flatC_take2 (poursL r) hk
    have b1 : k * 2 + 2 ≤ (poursL r).length * 2 := by omega
    have b2 : k * 2 + 1 ≤ (poursL r).length * 2 := by omega
    have b3 : k * 2 + 1 + 1 ≤ (poursL r).length * 2 := by omega
    have wk := wrapS (k := k) (by omega)
    have hst := goodTo_succ r hk
    have hgl := goodTo_len r k
    have hpl := hq.len
    have hp24 := take24 hpl
    have htk : (flatC (goodTo r k)).take ((goodTo r k).length * 2) = flatC (goodTo r k) := List.take_of_length_le (by rw [flatC_len]; exact Nat.le_refl _)
    unfold goodP at hst
    generalize (poursL r)[k]'hk = p at *
    by_cases hlt : boundN (pourR r p.1 p.2) < boundN r
    · have hlt' : (boundN (pourR r p.1 p.2) : Int) < (boundN r : Int) := by omega
      have hroom : (goodTo r k).length + 1 ≤ 68719476736 := by omega
      rw [decide_eq_true hlt, if_pos rfl] at hst
      have hfl : flatC (goodTo r k) ++ [C.int .i64 p.1, C.int .i64 p.2] = flatC (goodTo r (k + 1)) := by rw [hst, flatC_app]; rfl
      have hln : (goodTo r k).length + 1 = (goodTo r (k + 1)).length := by rw [hst]; simp
      have hroom' : (goodTo r (k + 1)).length ≤ 68719476736 := by omega
      simp [hk, hk', hr, h24, hc, hb, hb2, g1, g2, g3, b1, b2, b3, wk, hpl, hp24, hlt, hlt', hroom, hroom', htk, hfl, hln, setAt_all, setAt, flatC_len, flatC_ids, sub]
    · have hlt' : ¬ (boundN (pourR r p.1 p.2) : Int) < (boundN r : Int) := by omega
      rw [decide_eq_false hlt] at hst
      simp at hst
      simp [hk, hk', hr, h24, hc, hb, hb2, g1, g2, g3, b1, b2, b3, wk, hpl, hp24, hlt, hlt', hst, setAt_all, setAt, flatC_len, flatC_ids, sub]
/-! ### a pour is drawn -/
set_option maxHeartbeats 2000000 in
theorem c_drawPour (bs : List Int) (hb : Bytes bs) (o : Bool) (p : Nat) (hp : p + 20 < 1000000000) (s : Int) (r : List Int) (hr : r.length = 24) : ∃ (x y : Int) (p' : Nat) (s' : Int), p' ≤ p + 10 ∧ fnI pr np 208 [.c (.ptr 0 0), .agg (r.map (C.int .i64))] [curB 1 bs.length p s, byB bs o] = some (.agg [.int .i64 x, .int .i64 y], [curB 1 bs.length p' s', byB bs o]) := by
  have h24 := take24 hr
  have hk := callA_pure (c_rack_spec r hr) (by simp) (by simp)
  have two : ∀ (p1 : Nat) (s1 : Int), p1 ≤ p + 2 → ∃ (x y : Int) (p2 p' : Nat) (s2 s' : Int), p' ≤ p + 10 ∧ fnI pr np 113 [.c (.ptr 0 0)] [curB 1 bs.length p1 s1, byB bs o] = some (.c (.int .i64 x), [curB 1 bs.length p2 s2, byB bs o]) ∧ fnI pr np 113 [.c (.ptr 0 0)] [curB 1 bs.length p2 s2, byB bs o] = some (.c (.int .i64 y), [curB 1 bs.length p' s', byB bs o]) := by
    intro p1 s1 h1
    obtain ⟨x, p2, s2, h2, hF⟩ := c_place bs hb o p1 (by omega) s1
    obtain ⟨y, p3, s3, h3, hG⟩ := c_place bs hb o p2 (by omega) s2
    exact ⟨x, y, p2, p3, s2, s3, by omega, hF, hG⟩
  rw [fb (fn := a208) rfl rfl]
  cases hq : okRack r with
  | false =>
    rw [hq] at hk
    obtain ⟨x, y, p2, p3, s2, s3, h3, hF, hG⟩ := two p s (by omega)
    have f1 := call_cur (rest := []) rfl hF 0 1
    have f2 := call_cur (rest := []) rfl hG 0 1
    refine ⟨x, y, p3, s3, h3, ?_⟩
    simp [a208, hr, h24, hk, f1, f2, setAt, sub]
  | true =>
    rw [hq] at hk
    have h := rackOK hr hq
    obtain ⟨q1, p1, s1, hp1, hG1⟩ := c_one bs hb o p (by omega) s 3 (by decide) (by decide)
    have g1 := call_cur (rest := [.c (.int .i64 3)]) rfl hG1 0 1
    cases q1 with
    | true =>
      obtain ⟨x, y, p2, p3, s2, s3, h3, hF, hG⟩ := two p1 s1 hp1
      have f1 := call_cur (rest := []) rfl hF 0 1
      have f2 := call_cur (rest := []) rfl hG 0 1
      refine ⟨x, y, p3, s3, h3, ?_⟩
      simp [a208, hr, h24, hk, g1, f1, f2, setAt, sub]
    | false =>
      have hu := callA_new (c_spec_l2Pours r h) (by simp)
      have hl := poursL_len36 r
      by_cases h0 : 0 < (poursL r).length
      · have h0' : (0 : Int) < ((poursL r).length : Int) := by omega
        obtain ⟨z, p2, s2, hz, hp2, hG2⟩ := c_pick bs hb o p1 (by omega) s1 (poursL r).length (by omega) (by omega)
        have g2 := call_cur (rest := [.c (.int .i64 (poursL r).length)]) rfl hG2 0 1
        have hzl : z < (poursL r).length := by omega
        have hzl' : (z : Int) < ((poursL r).length : Int) := by omega
        have g3 := flatC_take2 (poursL r) hzl
        have b1 : z * 2 + 2 ≤ (poursL r).length * 2 := by omega
        refine ⟨((poursL r)[z]'hzl).1, ((poursL r)[z]'hzl).2, p2, s2, by omega, ?_⟩
        simp [a208, hr, h24, hk, g1, hu, h0, h0', g2, hzl, hzl', g3, b1, flatC_len, setAt, sub]
      · have h0' : ¬ (0 : Int) < ((poursL r).length : Int) := by omega
        obtain ⟨x, y, p2, p3, s2, s3, h3, hF, hG⟩ := two p1 s1 hp1
        have f1 := call_cur (rest := []) rfl hF 0 1
        have f2 := call_cur (rest := []) rfl hG 0 1
        refine ⟨x, y, p3, s3, h3, ?_⟩
        simp [a208, hr, h24, hk, g1, hu, h0, h0', f1, f2, setAt, flatC_len, sub]
end Go.Proofs.Ytoaidbmkfdpagaa.AM
