import Derived.Test.YtafphbegpjjolaaDrawB
import Derived.Test.YtafphbegpjjolaaSrcs
/- Contracts: numbers of pours and plain racks are drawn. -/
namespace Go.Proofs.Ytafphbegpjjolaa.AM
open Go
set_option maxRecDepth 1000000
set_option linter.unusedSimpArgs false
set_option linter.unusedVariables false
/-- one of the first m numbers of a list -/
theorem c_amongP (bs : List Int) (hb : Bytes bs) (o : Bool) (p : Nat) (hp : p + 2 < 1000000000) (s : Int) (xs : List Int) (m : Nat) (h0 : 0 < m) (hm : m ≤ xs.length) (hn : m ≤ 60000) : ∃ (x : Int) (p' : Nat) (s' : Int), x ∈ xs ∧ p' ≤ p + 2 ∧ fnI pr np 48 [.c (.ptr 0 0), .c (.sl 1 0 m 1)] [curB 2 bs.length p s, .cells (xs.map (C.int .i64)) true, byB bs o] = some (.c (.int .i64 x), [curB 2 bs.length p' s', .cells (xs.map (C.int .i64)) true, byB bs o]) := by
  obtain ⟨x, p', s', hx, hp', hF⟩ := c_pick bs hb o p hp s m (by omega) (by omega)
  have hc := call_cur (rest := [.c (.int .i64 m)]) rfl hF 0 2
  have hxm : x < m := by omega
  have hxl : x < xs.length := by omega
  have g := drop_take1 hxl
  have hmem : xs.getD x 0 ∈ xs := by
    rw [List.getD_eq_getElem?_getD, List.getElem?_eq_getElem hxl]
    exact List.getElem_mem _
  have b1 : x + 1 ≤ xs.length := by omega
  refine ⟨xs.getD x 0, p', s', hmem, hp', ?_⟩
  rw [fb (fn := a48) rfl rfl]
  generalize xs.getD x 0 = y at *
  simp [a48, hc, hxm, g, b1, sub]
theorem c_pours9 (bs : List Int) (hb : Bytes bs) (o : Bool) (p : Nat) (hp : p + 10 < 1000000000) (s : Int) : ∃ (x : Int) (p' : Nat) (s' : Int), p' ≤ p + 4 ∧ fnI pr np 31 [.c (.ptr 0 0)] [curB 1 bs.length p s, byB bs o] = some (.c (.int .i64 x), [curB 1 bs.length p' s', byB bs o]) := by
  obtain ⟨y, p1, s1, hy, hp1, hG1⟩ := c_pick bs hb o p (by omega) s 24 (by decide) (by decide)
  have g1 := call_cur (rest := [.c (.int .i64 24)]) rfl hG1 0 1
  have hq : (y : Int).tdiv 11 = ((y / 11 : Nat) : Int) := rfl
  obtain ⟨m, hm⟩ : ∃ m, m = 4 + y / 11 := ⟨_, rfl⟩
  have w1 : IntKind.i64.wrap ((y / 11 : Nat) : Int) = ((y / 11 : Nat) : Int) := wrapI (by omega) (by omega)
  have w2 : IntKind.i64.wrap (4 + ((y / 11 : Nat) : Int)) = (m : Int) := (wrapI (by omega) (by omega)).trans (by omega)
  have hm6 : m ≤ 6 := by omega
  have hm6' : (m : Int) ≤ 6 := by omega
  obtain ⟨x, p2, s2, hx, hp2, hG2⟩ := c_amongP bs hb o p1 (by omega) s1 [1, 2, 2, 0, 3, -1] m (by omega) (by simpa using hm6) (by omega)
  have g2 := call_among (by simp) hG2 0 2 1
  simp at g2
  refine ⟨x, p2, s2, by omega, ?_⟩
  rw [fb (fn := a31) rfl rfl]
  generalize hZ : ((y / 11 : Nat) : Int) = z at *
  simp [a31, g1, hq, w1, w2, hm6, hm6', g2, sub]
/-! ### plain racks -/
def plGo (R : List Int) (t : Nat) (c : Int) : Nat → List Int
  | 0 => R
  | n + 1 => (plGo R t c n).set (t * 4 + n) c
theorem plGo_len (R : List Int) (t : Nat) (c : Int) : ∀ n, (plGo R t c n).length = R.length
  | 0 => rfl
  | n + 1 => by simp [plGo, plGo_len R t c n]
def PlI (cs : List Int) (k : Nat) (st : Env × Heap) : Prop := ∃ (R : List Int) (t : Nat), R.length = 24 ∧ t ≤ k ∧ st = ([(1, V.c (C.ptr 0 0)), (2, V.c (C.ptr 1 0)), (4, V.c (C.ptr 2 0)), (5, V.c (C.int .i64 t)), (6, V.c (C.int .i64 ((k + 1 : Nat) : Int)))], [Blk.cells (cs.map (C.int .i64)) true, Blk.cells (List.replicate 24 (C.int .i64 0)) true, Blk.cells (R.map (C.int .i64)) true])
def PlE (cs : List Int) (r : Ex × Env × Heap) : Prop := (∃ (R : List Int) (t : Nat) (x : Int), R.length = 24 ∧ r = (.exit 0, [(1, V.c (C.ptr 0 0)), (2, V.c (C.ptr 1 0)), (4, V.c (C.ptr 2 0)), (5, V.c (C.int .i64 t)), (6, V.c (C.int .i64 x)), (14, V.c (C.bool false))], [Blk.cells (cs.map (C.int .i64)) true, Blk.cells (List.replicate 24 (C.int .i64 0)) true, Blk.cells (R.map (C.int .i64)) true])) ∨
  ∃ (R : List Int), R.length = 24 ∧ r = (.ret, [(2, V.c (C.ptr 1 0)), (3, V.c (C.bool false))], [Blk.cells (cs.map (C.int .i64)) true, Blk.cells (List.replicate 24 (C.int .i64 0)) true, Blk.cells (R.map (C.int .i64)) true])
def PlP (v : V) : Prop := ∃ (R : List Int) (b : Bool), R.length = 24 ∧ v = .tup [.agg (R.map (C.int .i64)), .c (.bool b)]
theorem plP_none : PlP (.tup [.agg (List.replicate 24 (C.int .i64 0)), .c (.bool false)]) := ⟨List.replicate 24 0, false, by simp, by simp⟩
theorem c_spec_PlainRack (cs : List Int) (hcs : cs.length = 6) : ∃ v, fnI pr np 59 [.agg (cs.map (C.int .i64))] [] = some (v, []) ∧ PlP v := by
  have g : ∀ k : Nat, k < 6 → ((cs.map (C.int .i64)).drop k).take 1 = [C.int .i64 (cs.getD k 0)] := fun k hk => drop_take1 (by omega)
  have g0 := g 0 (by omega)
  simp only [List.drop_zero] at g0
  rw [fb (fn := a59) rfl rfl]
  by_cases h0 : cs.getD 0 0 = 0
  · rw [h0] at g0
    simp [a59, hcs, g0, setAt_all]
    generalize hX : exI pr np 0 (ACode.loop _ _) _ _ = X
    have hl := loop_exit hX (PlI cs) 5 (PlE cs) ⟨([(1, V.c (C.ptr 0 0)), (2, V.c (C.ptr 1 0)), (4, V.c (C.ptr 2 0)), (5, V.c (C.int .i64 0)), (6, V.c (C.int .i64 1))], [Blk.cells (cs.map (C.int .i64)) true, Blk.cells (List.replicate 24 (C.int .i64 0)) true, Blk.cells (List.replicate 24 (C.int .i64 0)) true]), by simp [sub], List.replicate 24 0, 0, by simp, by omega, by simp⟩ ?_
    · obtain ⟨r, rfl, hr⟩ := hl
      rcases hr with ⟨R, t, x, hR, rfl⟩ | ⟨R, hR, rfl⟩
      · have r24 := take24 hR
        simp [hR, r24, setAt_all, sub]
        exact ⟨R, true, hR, rfl⟩
      · simp [sub]
        exact plP_none
    · rintro k hk st ⟨R, t, hR, ht, rfl⟩
      by_cases hk5 : k = 5
      · subst hk5
        right
        simp
        exact .inl ⟨R, t, 6, hR, by simp⟩
      · have hkl : k < 5 := by omega
        have hk6 : ((k + 1 : Nat) : Int) ≤ 5 := by omega
        have hk7 : ((k + 1 : Nat) : Int) < 6 := by omega
        have gk := g (k + 1) (by omega)
        have b1 : k + 1 + 1 ≤ 6 := by omega
        have h0k : (0 : Int) ≤ ((k + 1 : Nat) : Int) := by omega
        have htn : ((k + 1 : Nat) : Int).toNat = k + 1 := rfl
        have hin := callA_pure (c_spec_l1In (cs.getD (k + 1) 0) 0 4) (by simp) (by simp)
        have wk : IntKind.i64.wrap (((k + 1 : Nat) : Int) + 1) = ((k + 1 + 1 : Nat) : Int) := wrapS (by omega)
        generalize cs.getD (k + 1) 0 = c at *
        cases hc : (decide (0 ≤ c) && decide (c ≤ 4)) with
        | true =>
          rw [hc] at hin
          simp only [Bool.and_eq_true, decide_eq_true_eq] at hc
          obtain ⟨n, rfl⟩ := Int.eq_ofNat_of_zero_le hc.1
          have hn4 : n ≤ 4 := by omega
          have ht6 : (t : Int) < 6 := by omega
          have ht6' : t < 6 := by omega
          generalize hK : ((k + 1 : Nat) : Int) = K at *
          left
          refine ⟨hkl, ?_⟩
          simp [hk6, hk7, h0k, htn, gk, b1, hin, hcs, setAt_all]
          rw [loop_to (fun j => ([(1, V.c (C.ptr 0 0)), (2, V.c (C.ptr 1 0)), (4, V.c (C.ptr 2 0)), (5, V.c (C.int .i64 t)), (6, V.c (C.int .i64 K)), (7, V.c (C.int .i64 j))], [Blk.cells (cs.map (C.int .i64)) true, Blk.cells (List.replicate 24 (C.int .i64 0)) true, Blk.cells ((plGo R t K j).map (C.int .i64)) true])) n]
          · have hpl := plGo_len R t K n
            by_cases hn0 : n = 0
            · subst hn0
              simp [hk6, hk7, h0k, htn, gk, b1, wk, hcs, sub]
              exact ⟨_, _, ⟨rfl, rfl⟩, plGo R t K 0, t, by omega, by omega, rfl⟩
            · have hn1 : 0 < n := by omega
              have wt := wrapS (k := t) (by omega)
              simp [hk6, hk7, h0k, htn, gk, b1, wk, hcs, hn1, wt, sub]
              exact ⟨_, _, ⟨rfl, rfl⟩, plGo R t K n, t + 1, by omega, by omega, rfl⟩
          · simp [plGo, sub]
          · intro j hj
            have wj := wrapS (k := j) (by omega)
            have hj4 : (j : Int) < 4 := by omega
            have hpl := plGo_len R t K j
            have b2 : t * 4 + j + 1 ≤ 24 := by omega
            have hset : ((plGo R t K j).map (C.int .i64)).set (t * 4 + j) (C.int .i64 K) = (plGo R t K (j + 1)).map (C.int .i64) := set_ints _ _ _
            generalize plGo R t K (j + 1) = R' at *
            generalize plGo R t K j = R0 at *
            simp [hk6, hk7, h0k, htn, gk, b1, b2, hj, hj4, ht6, wj, hcs, hpl, hR, hset, setAt, sub]
        | false =>
          rw [hc] at hin
          generalize hK : ((k + 1 : Nat) : Int) = K at *
          right
          simp [hk6, hk7, h0k, htn, gk, b1, hin, hcs, setAt_all]
          exact .inr ⟨R, hR, by simp⟩
  · have h0' : (cs.getD 0 0 == 0) = false := beq_eq_false_iff_ne.2 h0
    generalize cs.getD 0 0 = x at *
    simp [a59, hcs, g0, h0, h0', setAt_all, sub]
    exact plP_none
end Go.Proofs.Ytafphbegpjjolaa.AM
