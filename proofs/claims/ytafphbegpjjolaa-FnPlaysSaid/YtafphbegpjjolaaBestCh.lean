import Derived.Test.YtafphbegpjjolaaChances
/- Contracts: the best chance. -/
namespace Go.Proofs.Ytafphbegpjjolaa.AM
open Go
set_option maxRecDepth 1000000
set_option linter.unusedSimpArgs false
set_option linter.unusedVariables false
/-- the best so far: the pour, its chance (the numerator may be -1) -/
abbrev Best := (Nat × Nat) × (Int × Int)
def bestStep (n : Nat) (r : List Int) (b : Best) (p : Nat × Nat) : Best :=
  if b.2.1 * ((partM w1 n r p).2 : Int) < ((partM w1 n r p).1 : Int) * b.2.2 then (p, (((partM w1 n r p).1 : Int), ((partM w1 n r p).2 : Int))) else b
def bestC (n : Nat) (r : List Int) (b : Best) (l : List (Nat × Nat)) : Best := l.foldl (bestStep n r) b
def bestTo (n : Nat) (r : List Int) (f : Nat × Nat) (k : Nat) : Best := bestC n r (f, (-1, 1)) ((usefulL r).take k)
theorem bestTo_zero (n : Nat) (r : List Int) (f : Nat × Nat) : bestTo n r f 0 = (f, (-1, 1)) := by simp [bestTo, bestC]
theorem bestTo_succ (n : Nat) (r : List Int) (f : Nat × Nat) {k : Nat} (hk : k < (usefulL r).length) : bestTo n r f (k + 1) = bestStep n r (bestTo n r f k) ((usefulL r)[k]'hk) := by
  unfold bestTo bestC
  rw [take_snoc hk, List.foldl_append]
  rfl
theorem part_num {n : Nat} (hn : n ≤ 1) {r : List Int} (h : RackOK r) {p : Nat × Nat} (hp : p ∈ usefulL r) : 0 < (partM w1 n r p).2 ∧ (partM w1 n r p).2 ≤ 30 ∧ (partM w1 n r p).1 ≤ 720 := by
  obtain ⟨hi, hj, hq⟩ := useful_pour h hp
  obtain ⟨m1, m2⟩ := mean_ok (e := endB) w1_le endB_useful hn hq.len hq.val
  have m0 := m1.pos
  have m3 := m1.most
  have e1 : meanV w1 endB n (pourR r p.1 p.2) = partM w1 n r p := rfl
  rw [e1] at m0 m2 m3
  exact ⟨m0, m2, by omega⟩
/-- small numbers; the first pour is always better than none -/
structure BestOK (b : Best) : Prop where
  lo : -1 ≤ b.2.1
  hi : b.2.1 ≤ 720
  d0 : 1 ≤ b.2.2
  d1 : b.2.2 ≤ 30
theorem bestTo_ok {n : Nat} (hn : n ≤ 1) {r : List Int} (h : RackOK r) (f : Nat × Nat) : ∀ k, k ≤ (usefulL r).length → BestOK (bestTo n r f k)
  | 0, _ => by rw [bestTo_zero]; exact ⟨by simp, by simp, by simp, by simp⟩
  | k + 1, hk => by
    have ih := bestTo_ok hn h f k (by omega)
    obtain ⟨a, b, c⟩ := part_num hn h (List.getElem_mem (show k < (usefulL r).length by omega))
    rw [bestTo_succ n r f (by omega)]
    unfold bestStep
    split
    · exact ⟨by simp only; omega, by simp only; omega, by simp only; omega, by simp only; omega⟩
    · exact ih
theorem bestTo_first {n : Nat} (hn : n ≤ 1) {r : List Int} (h : RackOK r) (f g : Nat × Nat) : ∀ k, 0 < k → k ≤ (usefulL r).length → bestTo n r f k = bestTo n r g k
  | 0, h0, _ => by omega
  | k + 1, _, hk => by
    rw [bestTo_succ n r f (by omega), bestTo_succ n r g (by omega)]
    by_cases h0 : k = 0
    · subst h0
      rw [bestTo_zero, bestTo_zero]
      obtain ⟨a, b, c⟩ := part_num hn h (List.getElem_mem (show 0 < (usefulL r).length by omega))
      unfold bestStep
      have : (-1 : Int) * ((partM w1 n r ((usefulL r)[0]'(by omega))).2 : Int) < ((partM w1 n r ((usefulL r)[0]'(by omega))).1 : Int) * 1 := by omega
      simp only [if_pos this]
    · rw [bestTo_first hn h f g k (by omega) (by omega)]
def bestOf2 (r : List Int) (n : Int) : Best := bestTo n.toNat r (0, 0) (usefulL r).length
def bestB (r : List Int) (n : Int) : Bool := playB r n 1 && !endB r
def bestV (r : List Int) (n : Int) : Best := if bestB r n = true then bestOf2 r n else ((0, 0), (0, 0))
def bestRV (r : List Int) (n : Int) : V := .tup [.agg [.int .i64 (bestV r n).1.1, .int .i64 (bestV r n).1.2], .agg [.int .i64 (bestV r n).2.1, .int .i64 (bestV r n).2.2], .c (.bool (bestB r n))]
theorem mul_small {a b : Int} (a0 : -1 ≤ a) (a1 : a ≤ 720) (b0 : 1 ≤ b) (b1 : b ≤ 30) : IntKind.i64.wrap (a * b) = a * b := by
  have h1 : a * b ≤ 720 * 30 := Int.le_trans (Int.mul_le_mul_of_nonneg_right a1 (by omega)) (Int.mul_le_mul_of_nonneg_left b1 (by omega))
  have h2 : -1 * 30 ≤ a * b := by
    have t1 : -1 * b ≤ a * b := Int.mul_le_mul_of_nonneg_right a0 (by omega)
    omega
  exact wrapI (by omega) (by omega)
set_option maxHeartbeats 4000000 in
theorem c_spec_BestChance (r : List Int) (hr : r.length = 24) (n : Int) : fnI pr np 20 [.agg (r.map (C.int .i64)), .c (.int .i64 n)] [] = some (bestRV r n, []) := by
  have h1 := callA_pure (c_rack_spec r hr) (by simp) (by simp)
  have h2 := callA_pure (c_spec_l1In n 0 1) (by simp) (by simp)
  rw [show (decide ((0 : Int) ≤ n) && decide (n ≤ 1)) = inB n 0 1 from rfl] at h2
  have h24 := take24 hr
  rw [fb (fn := a20) rfl rfl]
  unfold bestRV bestV bestB playB
  cases hq : okRack r with
  | false => rw [hq] at h1; simp [a20, hr, h24, h1, setAt]
  | true =>
    rw [hq] at h1
    cases hb : inB n 0 1 with
    | false => rw [hb] at h2; simp [a20, hr, h24, h1, h2, setAt]
    | true =>
      rw [hb] at h2
      have h := rackOK hr hq
      have h0 : 0 ≤ n ∧ n ≤ 1 := by simpa [inB] using hb
      obtain ⟨N, rfl⟩ : ∃ N : Nat, n = (N : Int) := ⟨n.toNat, by omega⟩
      have hN : N ≤ 1 := by omega
      have hm := callA_new (c_spec_l9Moves r h) (by simp)
      have hem := endB_moves r
      cases he : endB r with
      | true =>
        have hz : (movesL r).length = 0 := by rw [he] at hem; simpa using hem.symm
        simp [a20, hr, h24, h1, h2, hm, hz, setAt]
      | false =>
        obtain ⟨hmv, hl, _⟩ := moves_of r he
        rw [hmv] at hm
        have hz : (((usefulL r).length : Int) == 0) = false := beq_eq_false_iff_ne.2 (by omega)
        have hl30 := usefulL_len30 r
        have hl' : (0 : Int) < ((usefulL r).length : Int) := by omega
        have hg0 := flatC_get (usefulL r) [] 0 hl
        rw [List.append_nil] at hg0
        have b0 : 2 ≤ (usefulL r).length * 2 := by omega
        have hfin : bestTo N r ((usefulL r)[0]'hl) (usefulL r).length = bestOf2 r N := by
          unfold bestOf2
          exact bestTo_first hN h _ _ _ hl (Nat.le_refl _)
        simp at hg0
        simp [a20, hr, h24, h1, h2, hm, hz, hl, hl', hg0, b0, setAt]
        rw [loop_to (fun k => ([(1, V.c (C.int .i64 N)), (2, V.c (C.ptr 0 0)), (4, V.c (C.ptr 1 0)), (5, V.c (C.ptr 2 0)), (7, V.c (C.sl 3 0 (usefulL r).length 2)), (8, V.c (C.ptr 4 0)), (9, V.c (C.ptr 5 0)), (10, V.c (C.int .i64 k))], [Blk.cells (r.map (C.int .i64)) true, Blk.cells [C.int .i64 0, C.int .i64 0] true, Blk.cells [C.int .i64 0, C.int .i64 0] true, Blk.cells (flatC (usefulL r)) true, Blk.cells [C.int .i64 (bestTo N r ((usefulL r)[0]'hl) k).1.1, C.int .i64 (bestTo N r ((usefulL r)[0]'hl) k).1.2] true, Blk.cells [C.int .i64 (bestTo N r ((usefulL r)[0]'hl) k).2.1, C.int .i64 (bestTo N r ((usefulL r)[0]'hl) k).2.2] true])) (usefulL r).length]
        · simp [hfin, setAt, idOf]
        · simp [bestTo_zero, sub]
        · intro k hkl
          obtain ⟨hi, hj, hp⟩ := useful_pour h (List.getElem_mem hkl)
          have hbo := bestTo_ok hN h ((usefulL r)[0]'hl) k (by omega)
          obtain ⟨q1, q2, q3⟩ := part_num hN h (List.getElem_mem hkl)
          have hst := bestTo_succ N r ((usefulL r)[0]'hl) hkl
          have hc := callA_pure (c_spec_l2Pour r h hi hj) (by simp) (by simp)
          have hrec := callA_pure (c_spec_l9Mean Kind.a N (by omega) _ hp) (by simp) (by simp)
          have e1 : meanV w1 endB N (pourR r ((usefulL r)[k]'hkl).1 ((usefulL r)[k]'hkl).2) = partM w1 N r ((usefulL r)[k]'hkl) := rfl
          rw [e1, show ((1 : Nat) : Int) = 1 from rfl] at hrec
          have m1 := mul_small hbo.lo hbo.hi (b := ((partM w1 N r ((usefulL r)[k]'hkl)).2 : Int)) (by omega) (by omega)
          have m2 := mul_small (a := ((partM w1 N r ((usefulL r)[k]'hkl)).1 : Int)) (by omega) (by omega) hbo.d0 hbo.d1
          unfold bestStep at hst
          rw [hst]
          have hg := flatC_take1 (usefulL r) [] hkl
          have hgf := flatC_get (usefulL r) [] k hkl
          rw [List.append_nil] at hg hgf
          obtain ⟨g1, g2⟩ := hg
          generalize partM w1 N r ((usefulL r)[k]'hkl) = x at *
          generalize bestTo N r ((usefulL r)[0]'hl) k = b at *
          have b1 : k * 2 + 2 ≤ (usefulL r).length * 2 := by omega
          have b2 : k * 2 + 1 ≤ (usefulL r).length * 2 := by omega
          have wk := wrapS (k := k) (by omega)
          have hpl := hp.len
          have hp24 := take24 hpl
          by_cases hlt : b.2.1 * (x.2 : Int) < (x.1 : Int) * b.2.2
          · simp [hkl, hr, h24, hc, hrec, m1, m2, g1, g2, hgf, b1, b2, wk, hpl, hp24, setAt_all, setAt, sub, hlt, idOf]
          · simp [hkl, hr, h24, hc, hrec, m1, m2, g1, g2, hgf, b1, b2, wk, hpl, hp24, setAt_all, setAt, sub, hlt, idOf]
set_option maxHeartbeats 4000000 in
theorem c_impl_BestChance (r : List Int) (hr : r.length = 24) (n : Int) : fnI pr np 19 [.agg (r.map (C.int .i64)), .c (.int .i64 n)] [] = some (bestRV r n, []) := by
  have h1 := callA_pure (c_impl_isPlay r hr n 1) (by simp) (by simp)
  have h24 := take24 hr
  rw [fb (fn := a19) rfl rfl]
  unfold bestRV bestV bestB
  cases hq : playB r n 1 with
  | false => rw [hq] at h1; simp [a19, hr, h24, h1, setAt]
  | true =>
    rw [hq] at h1
    obtain ⟨h, n0, n2⟩ := playB_facts hr hq
    obtain ⟨N, rfl⟩ : ∃ N : Nat, n = (N : Int) := ⟨n.toNat, by omega⟩
    have hN : N ≤ 1 := by omega
    have hend := callA_pure (c_impl_isEnd r h) (by simp) (by simp)
    cases he : endB r with
    | true => rw [he] at hend; simp [a19, hr, h24, h1, hend, setAt]
    | false =>
      rw [he] at hend
      have hm := callA_new (c_impl_useful r h) (by simp)
      have hl30 := usefulL_len30 r
      simp [a19, hr, h24, h1, hend, hm, setAt]
      rw [loop_to (fun k => ([(1, V.c (C.int .i64 N)), (2, V.c (C.ptr 0 0)), (4, V.c (C.ptr 1 0)), (5, V.c (C.ptr 2 0)), (7, V.c (C.ptr 3 0)), (8, V.c (C.ptr 4 0)), (26, V.c (C.sl 5 0 (usefulL r).length 2)), (27, V.c (C.int .i64 (usefulL r).length)), (28, V.c (C.int .i64 k))], [Blk.cells (r.map (C.int .i64)) true, Blk.cells [C.int .i64 0, C.int .i64 0] true, Blk.cells [C.int .i64 0, C.int .i64 0] true, Blk.cells [C.int .i64 (bestTo N r (0, 0) k).1.1, C.int .i64 (bestTo N r (0, 0) k).1.2] true, Blk.cells [C.int .i64 (bestTo N r (0, 0) k).2.1, C.int .i64 (bestTo N r (0, 0) k).2.2] true, Blk.cells (flatC (usefulL r) ++ padC r) true])) (usefulL r).length]
      · simp [bestOf2, setAt, idOf]
      · simp [bestTo_zero, sub]
      · intro k hkl
        obtain ⟨hi, hj, hp⟩ := useful_pour h (List.getElem_mem hkl)
        have hbo := bestTo_ok hN h (0, 0) k (by omega)
        obtain ⟨q1, q2, q3⟩ := part_num hN h (List.getElem_mem hkl)
        have hst := bestTo_succ N r (0, 0) hkl
        have hc := callA_pure (c_impl_pour r h hi hj) (by simp) (by simp)
        have hrec := callA_pure (c_impl_chanceSorted _ hp N (by omega)) (by simp) (by simp)
        have e1 : meanV w1 endB N (pourR r ((usefulL r)[k]'hkl).1 ((usefulL r)[k]'hkl).2) = partM w1 N r ((usefulL r)[k]'hkl) := rfl
        rw [e1] at hrec
        have m1 := mul_small hbo.lo hbo.hi (b := ((partM w1 N r ((usefulL r)[k]'hkl)).2 : Int)) (by omega) (by omega)
        have m2 := mul_small (a := ((partM w1 N r ((usefulL r)[k]'hkl)).1 : Int)) (by omega) (by omega) hbo.d0 hbo.d1
        unfold bestStep at hst
        rw [hst]
        have hgf := flatC_get (usefulL r) (padC r) k hkl
        generalize partM w1 N r ((usefulL r)[k]'hkl) = x at *
        generalize bestTo N r (0, 0) k = b at *
        have b1 : k * 2 + 2 ≤ (usefulL r).length * 2 + (padC r).length := by omega
        have wk := wrapS (k := k) (by omega)
        have hpl := hp.len
        have hp24 := take24 hpl
        by_cases hlt : b.2.1 * (x.2 : Int) < (x.1 : Int) * b.2.2
        · simp [hkl, hr, h24, hc, hrec, m1, m2, hgf, b1, wk, hpl, hp24, setAt_all, setAt, sub, hlt, idOf]
        · simp [hkl, hr, h24, hc, hrec, m1, m2, hgf, b1, wk, hpl, hp24, setAt_all, setAt, sub, hlt, idOf]
end Go.Proofs.Ytafphbegpjjolaa.AM
