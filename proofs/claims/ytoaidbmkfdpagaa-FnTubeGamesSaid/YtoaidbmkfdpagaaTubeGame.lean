import Derived.Test.YtoaidbmkfdpagaaReplies
/- Contracts: the game for tubes. -/
namespace Go.Proofs.Ytoaidbmkfdpagaa.AM
open Go
set_option maxRecDepth 1000000
set_option linter.unusedSimpArgs false
set_option linter.unusedVariables false
theorem gain_wrap (r : List Int) (p : Nat × Nat) : IntKind.i64.wrap (((fullsFrom (pourR r p.1 p.2) 0 6).length : Int) - ((fullsFrom r 0 6).length : Int)) = gainP r p := by
  have h1 := fullN_le r
  have h2 := fullN_le (pourR r p.1 p.2)
  unfold fullN at h1 h2
  rw [wrapI (by omega) (by omega)]
  rfl
theorem c_spec_l10Gain (r : List Int) (h : RackOK r) {p : Nat × Nat} (hi : p.1 < 6) (hj : p.2 < 6) (hij : p.1 ≠ p.2) : fnI pr np 147 [.agg (r.map (C.int .i64)), .agg [.int .i64 p.1, .int .i64 p.2]] [] = some (.tup [.c (.int .i64 (gainP r p)), .agg ((pourR r p.1 p.2).map (C.int .i64))], []) := by
  have hr := h.len
  have h24 := take24 hr
  have hq := h.pour hi hj hij
  have hpl := hq.len
  have hp24 := take24 hpl
  have hc := callA_pure (c_spec_l2Pour r h hi hj) (by simp) (by simp)
  have c1 := callA_new (c_spec_l10Complete r hr h.val) (by simp)
  have c2 := callA_new (c_spec_l10Complete _ hpl hq.val) (by simp)
  have hw := gain_wrap r p
  rw [fb (fn := a147) rfl rfl]
  simp [a147, hr, h24, hc, c1, c2, hpl, hp24, setAt_all, hw, sub]
theorem c_impl_points (r : List Int) (h : RackOK r) {p : Nat × Nat} (hi : p.1 < 6) (hj : p.2 < 6) (hij : p.1 ≠ p.2) : fnI pr np 146 [.agg (r.map (C.int .i64)), .agg [.int .i64 p.1, .int .i64 p.2]] [] = some (.tup [.c (.int .i64 (gainP r p)), .agg ((pourR r p.1 p.2).map (C.int .i64))], []) := by
  have hr := h.len
  have h24 := take24 hr
  have hq := h.pour hi hj hij
  have hpl := hq.len
  have hp24 := take24 hpl
  have hc := callA_pure (c_impl_pour r h hi hj) (by simp) (by simp)
  have c1 := callA_new (c_impl_complete r hr h.val) (by simp)
  have c2 := callA_new (c_impl_complete _ hpl hq.val) (by simp)
  have hw := gain_wrap r p
  rw [fb (fn := a146) rfl rfl]
  simp [a146, hr, h24, hc, c1, c2, hpl, hp24, setAt_all, hw, sub]
theorem tubeF_wrap {n : Nat} (hn : n ≤ 10) (r : List Int) (p : Nat × Nat) : IntKind.i64.wrap (gainP r p - tubeV n (pourR r p.1 p.2)) = tubeF n r p := by
  have := tubeF_range hn r p
  unfold tubeF at this
  rw [wrapI (by omega) (by omega)]; rfl
theorem useful_ne {r : List Int} {p : Nat × Nat} (hp : p ∈ usefulL r) : p.1 ≠ p.2 := canP_ne (mem_usefulL hp).2.2
set_option maxHeartbeats 2000000 in
theorem c_spec_l10Tubes : ∀ (n : Nat) (hn : n ≤ 10) (r : List Int) (h : RackOK r), fnI pr np 142 [.agg (r.map (C.int .i64)), .c (.int .i64 n)] [] = some (.c (.int .i64 (tubeV n r)), []) := by
  intro n
  induction n with
  | zero =>
    intro hn r h
    rw [fb (fn := a142) rfl rfl]
    simp [a142, tubeV, h.len]
  | succ n ih =>
    intro hn r h
    have hr := h.len
    have h24 := take24 hr
    have hu := callA_new (c_spec_l2Useful r h) (by simp)
    have hl := usefulL_len r
    have hn0 : (((n + 1 : Nat) : Int) == 0) = false := beq_eq_false_iff_ne.2 (by omega)
    rw [fb (fn := a142) rfl rfl]
    simp only [a142]
    generalize hN : ((n + 1 : Nat) : Int) = N at hn0 ⊢
    by_cases hz : (usefulL r).length = 0
    · simp [hr, h24, hu, hn0, hz, tubeV]
    · have hz' : (((usefulL r).length : Int) == 0) = false := beq_eq_false_iff_ne.2 (by omega)
      have hfin := tubeTo_all n r hz
      simp [hr, h24, hu, hn0, hz']
      rw [loop_to (fun k => ([(1, V.c (C.int .i64 N)), (2, V.c (C.ptr 0 0)), (5, V.c (C.sl 1 0 (usefulL r).length 2)), (6, V.c (C.int .i64 (tubeTo n r k))), (7, V.c (C.int .i64 k))], [Blk.cells (r.map (C.int .i64)) true, Blk.cells (flatC (usefulL r)) true])) (usefulL r).length]
      · simp [← hfin]
      · simp [tubeTo, bestOf, sub]
      · intro k hk
        have hmem := List.getElem_mem hk
        obtain ⟨hi, hj, hp⟩ := useful_pour h hmem
        have hc := callA_pure (c_spec_l10Gain r h hi hj (useful_ne hmem)) (by simp) (by simp)
        have hrec := callA_pure (ih (by omega) _ hp) (by simp) (by simp)
        have hwn : IntKind.i64.wrap (N - 1) = (n : Int) := by rw [wrapI (by omega) (by omega)]; omega
        have hst := tubeTo_succ n r hk
        have hwf := tubeF_wrap (n := n) (by omega) r ((usefulL r)[k]'hk)
        have hm := callA_pure (c_spec_l1Most (tubeTo n r k) (tubeF n r ((usefulL r)[k]'hk))) (by simp) (by simp)
        have hg := flatC_get (usefulL r) [] k hk
        rw [List.append_nil] at hg
        have b1 : k * 2 + 2 ≤ (usefulL r).length * 2 := by omega
        have wk := wrapS (k := k) (by omega)
        have hpl := hp.len
        have hp24 := take24 hpl
        simp [hk, hr, h24, hc, hrec, hwn, hwf, hm, hg, b1, wk, hpl, hp24, setAt_all, ← hst, sub]
def bestLL : Nat → List Int → List (Nat × Nat)
  | 0, _ => []
  | n + 1, r => bestL n r (usefulL r).length
def tubeRes (n : Nat) (r : List Int) : V × Heap := (.tup [.c (.int .i64 (tubeV n r)), .c (.sl 0 0 (bestLL n r).length 2)], [.cells (flatC (bestLL n r)) true])
theorem boB_all (n : Nat) (r : List Int) : boB n r (usefulL r).length = tubeV (n + 1) r := by
  unfold boB
  by_cases hz : (usefulL r).length = 0
  · simp [hz, tubeV]
  · rw [if_neg hz, tubeTo_all n r hz]
set_option maxHeartbeats 4000000 in
theorem c_impl_tubeValue : ∀ (n : Nat) (hn : n ≤ 10) (r : List Int) (h : RackOK r), fnI pr np 140 [.agg (r.map (C.int .i64)), .c (.int .i64 n)] [] = some (tubeRes n r) := by
  intro n
  induction n with
  | zero =>
    intro hn r h
    rw [fb (fn := a140) rfl rfl]
    simp [a140, tubeRes, bestLL, tubeV, h.len, flatC_nil, sub]
  | succ n ih =>
    intro hn r h
    have hr := h.len
    have h24 := take24 hr
    have hu := callA_new (c_impl_useful r h) (by simp)
    have hl := usefulL_len r
    have hn0 : (((n + 1 : Nat) : Int) == 0) = false := beq_eq_false_iff_ne.2 (by omega)
    have hfin := boB_all n r
    rw [fb (fn := a140) rfl rfl]
    simp only [a140]
    generalize hN : ((n + 1 : Nat) : Int) = N at hn0 ⊢
    simp [hr, h24, hu, hn0]
    rw [loop_to (fun k => ([(1, V.c (C.int .i64 N)), (2, V.c (C.ptr 0 0)), (6, V.c (C.int .i64 (boB n r k))), (7, V.c (C.sl 1 0 (bestL n r k).length 2)), (17, V.c (C.sl 2 0 (usefulL r).length 2)), (18, V.c (C.int .i64 (usefulL r).length)), (19, V.c (C.int .i64 k))], [Blk.cells (r.map (C.int .i64)) true, Blk.cells (flatC (bestL n r k)) true, Blk.cells (flatC (usefulL r) ++ padC r) true])) (usefulL r).length]
    · simp [hfin, tubeRes, bestLL, sub]
    · simp [boB, bestL, flatC_nil, sub]
    · intro k hk
      have hmem := List.getElem_mem hk
      obtain ⟨hi, hj, hp⟩ := useful_pour h hmem
      have hc := callA_pure (c_impl_points r h hi hj (useful_ne hmem)) (by simp) (by simp)
      have hrec := callA_new (ih (by omega) _ hp) (by simp)
      unfold tubeRes at hrec
      have hwn : IntKind.i64.wrap (N - 1) = (n : Int) := by rw [wrapI (by omega) (by omega)]; omega
      have hwf := tubeF_wrap (n := n) (by omega) r ((usefulL r)[k]'hk)
      have hg := flatC_get (usefulL r) (padC r) k hk
      have b1 : k * 2 + 2 ≤ (usefulL r).length * 2 + (padC r).length := by omega
      have wk := wrapS (k := k) (by omega)
      have hpl := hp.len
      have hp24 := take24 hpl
      have hbl := bestL_len n r k
      have hroom : (bestL n r k).length + 1 ≤ 68719476736 := by omega
      have htk := flatC_take' (bestL n r k)
      obtain ⟨sA, sB⟩ := bo_step (n := n) (by omega) r hk
      by_cases h0 : (bestL n r k).length = 0
      · obtain ⟨t1, t2⟩ := sA (.inl h0)
        have h0' : (((bestL n r k).length : Int) == 0) = true := by simp [h0]
        have h0n : bestL n r k = [] := List.eq_nil_of_length_eq_zero h0
        simp [hk, hr, h24, hc, hrec, hwn, hwf, hg, b1, wk, hpl, hp24, setAt_all, t1, t2, h0, h0n, flatC_one, flatC_nil, sub]
      · have h0' : (((bestL n r k).length : Int) == 0) = false := beq_eq_false_iff_ne.2 (by omega)
        by_cases h1 : boB n r k < tubeF n r ((usefulL r)[k]'hk)
        · obtain ⟨t1, t2⟩ := sA (.inr h1)
          simp [hk, hr, h24, hc, hrec, hwn, hwf, hg, b1, wk, hpl, hp24, setAt_all, t1, t2, h0', h1, flatC_one, flatC_nil, sub]
        · obtain ⟨t1, t2⟩ := sB (by intro hh; rcases hh with hh | hh; exact h0 hh; exact h1 hh)
          by_cases h2 : tubeF n r ((usefulL r)[k]'hk) = boB n r k
          · rw [if_pos h2] at t2
            have h2' : (tubeF n r ((usefulL r)[k]'hk) == boB n r k) = true := by simp [h2]
            simp [hk, hr, h24, hc, hrec, hwn, hwf, hg, b1, wk, hpl, hp24, setAt_all, t1, t2, h0', h1, h2', hroom, htk, flatC_app, flatC_one, sub]
          · rw [if_neg h2, List.append_nil] at t2
            have h2' : (tubeF n r ((usefulL r)[k]'hk) == boB n r k) = false := by simpa using h2
            simp [hk, hr, h24, hc, hrec, hwn, hwf, hg, b1, wk, hpl, hp24, setAt_all, t1, t2, h0', h1, h2', sub]
def tubeVV (r : List Int) (n : Int) : Int := if gameB r n 0 = true then tubeV n.toNat r else 0
theorem c_spec_TubeValue (r : List Int) (hr : r.length = 24) (n : Int) : fnI pr np 47 [.agg (r.map (C.int .i64)), .c (.int .i64 n)] [] = some (.tup [.c (.int .i64 (tubeVV r n)), .c (.bool (gameB r n 0))], []) := by
  have h1 := callA_pure (c_rack_spec r hr) (by simp) (by simp)
  have h2 := callA_pure (c_spec_l1In n 0 3) (by simp) (by simp)
  have h24 := take24 hr
  rw [fb (fn := a47) rfl rfl]
  unfold tubeVV gameB
  cases hq : okRack r with
  | true =>
    rw [hq] at h1
    rw [show (decide ((0 : Int) ≤ n) && decide (n ≤ 3)) = inB n 0 3 from rfl] at h2
    cases hb : inB n 0 3 with
    | true =>
      rw [hb] at h2
      have h0 : 0 ≤ n ∧ n ≤ 3 := by simpa [inB] using hb
      have hc := callA_pure (c_spec_l10Tubes n.toNat (by omega) r (rackOK hr hq)) (by simp) (by simp)
      rw [show ((n.toNat : Nat) : Int) = n by omega] at hc
      simp [a47, hr, h24, h1, h2, hc]
    | false =>
      rw [hb] at h2
      simp [a47, hr, h24, h1, h2]
  | false =>
    rw [hq] at h1
    simp [a47, hr, h24, h1]
theorem c_impl_TubeValue (r : List Int) (hr : r.length = 24) (n : Int) : fnI pr np 46 [.agg (r.map (C.int .i64)), .c (.int .i64 n)] [] = some (.tup [.c (.int .i64 (tubeVV r n)), .c (.bool (gameB r n 0))], []) := by
  have h1 := callA_pure (c_impl_isGame r hr n 0) (by simp) (by simp)
  rw [show (okRack r && inB n 0 3) = gameB r n 0 from rfl] at h1
  have h24 := take24 hr
  rw [fb (fn := a46) rfl rfl]
  unfold tubeVV
  cases hb : gameB r n 0 with
  | true =>
    rw [hb] at h1
    simp only [gameB, Bool.and_eq_true] at hb
    have h0 : 0 ≤ n ∧ n ≤ 3 := by simpa [inB] using hb.2
    have hc := callA_new (c_impl_tubeValue n.toNat (by omega) r (rackOK hr hb.1)) (by simp)
    rw [show ((n.toNat : Nat) : Int) = n by omega] at hc
    simp [a46, hr, h24, h1, hc]
  | false =>
    rw [hb] at h1
    simp [a46, hr, h24, h1]
def bestOut (n : Nat) (r : List Int) (k : Nat) : List (Nat × Nat) := ((usefulL r).take k).filter fun p => decide (tubeF n r p = tubeV (n + 1) r)
theorem bestOut_len (n : Nat) (r : List Int) (k : Nat) : (bestOut n r k).length ≤ k := Nat.le_trans (List.length_filter_le _ _) (by simp; omega)
theorem bestOut_succ (n : Nat) (r : List Int) {k : Nat} (hk : k < (usefulL r).length) : bestOut n r (k + 1) = bestOut n r k ++ if tubeF n r ((usefulL r)[k]'hk) = tubeV (n + 1) r then [(usefulL r)[k]'hk] else [] := by
  unfold bestOut
  rw [take_snoc hk, List.filter_append]
  congr 1
  by_cases h : tubeF n r ((usefulL r)[k]'hk) = tubeV (n + 1) r <;> simp [h]
theorem bestOut_all (n : Nat) (r : List Int) : bestOut n r (usefulL r).length = bestLL (n + 1) r := by
  unfold bestOut bestLL bestL
  by_cases hz : (usefulL r).length = 0
  · have : usefulL r = [] := List.eq_nil_of_length_eq_zero hz
    simp [this]
  · rw [← tubeTo_all n r hz]
set_option maxHeartbeats 4000000 in
theorem c_spec_l10Best (n : Nat) (hn : n + 1 ≤ 10) (r : List Int) (h : RackOK r) : fnI pr np 143 [.agg (r.map (C.int .i64)), .c (.int .i64 ((n + 1 : Nat) : Int))] [] = some (.c (.sl 0 0 (bestLL (n + 1) r).length 2), [.cells (flatC (bestLL (n + 1) r)) true]) := by
  have hr := h.len
  have h24 := take24 hr
  have hu := callA_new (c_spec_l2Useful r h) (by simp)
  have hl := usefulL_len r
  have hv := callA_pure (c_spec_l10Tubes (n + 1) (by omega) r h) (by simp) (by simp)
  have hwn : IntKind.i64.wrap (((n + 1 : Nat) : Int) - 1) = (n : Int) := by rw [wrapI (by omega) (by omega)]; omega
  rw [← bestOut_all]
  rw [fb (fn := a143) rfl rfl]
  simp only [a143]
  generalize hN : ((n + 1 : Nat) : Int) = N at hwn hv ⊢
  simp [hr, h24, hu, hv]
  rw [loop_to (fun k => ([(1, V.c (C.int .i64 N)), (2, V.c (C.ptr 0 0)), (5, V.c (C.sl 1 0 (bestOut n r k).length 2)), (6, V.c (C.int .i64 (tubeV (n + 1) r))), (7, V.c (C.sl 2 0 (usefulL r).length 2)), (8, V.c (C.int .i64 k))], [Blk.cells (r.map (C.int .i64)) true, Blk.cells (flatC (bestOut n r k)) true, Blk.cells (flatC (usefulL r)) true])) (usefulL r).length]
  · simp [sub]
  · simp [bestOut, flatC_nil, sub]
  · intro k hk
    have hmem := List.getElem_mem hk
    obtain ⟨hi, hj, hp⟩ := useful_pour h hmem
    have hc := callA_pure (c_spec_l10Gain r h hi hj (useful_ne hmem)) (by simp) (by simp)
    have hrec := callA_pure (c_spec_l10Tubes n (by omega) _ hp) (by simp) (by simp)
    have hwf := tubeF_wrap (n := n) (by omega) r ((usefulL r)[k]'hk)
    have hg := flatC_get (usefulL r) [] k hk
    rw [List.append_nil] at hg
    have b1 : k * 2 + 2 ≤ (usefulL r).length * 2 := by omega
    have wk := wrapS (k := k) (by omega)
    have hpl := hp.len
    have hp24 := take24 hpl
    have hst := bestOut_succ n r hk
    have hol := bestOut_len n r k
    have hroom : (bestOut n r k).length + 1 ≤ 68719476736 := by omega
    have htk := flatC_take' (bestOut n r k)
    by_cases he : tubeF n r ((usefulL r)[k]'hk) = tubeV (n + 1) r
    · rw [if_pos he] at hst
      have he' : (tubeF n r ((usefulL r)[k]'hk) == tubeV (n + 1) r) = true := by simp [he]
      simp [hk, hr, h24, hc, hrec, hwn, hwf, hg, b1, wk, hpl, hp24, setAt_all, hst, hroom, htk, he', flatC_app, flatC_one, sub]
    · rw [if_neg he, List.append_nil] at hst
      have he' : (tubeF n r ((usefulL r)[k]'hk) == tubeV (n + 1) r) = false := by simpa using he
      simp [hk, hr, h24, hc, hrec, hwn, hwf, hg, b1, wk, hpl, hp24, setAt_all, hst, he', sub]
def tubePL (r : List Int) (n : Int) : List (Nat × Nat) := if gameB r n 1 = true then bestLL n.toNat r else []
theorem c_spec_TubePours (r : List Int) (hr : r.length = 24) (n : Int) : fnI pr np 51 [.agg (r.map (C.int .i64)), .c (.int .i64 n)] [] = some (pairV (tubePL r n) [] (gameB r n 1)) := by
  have h1 := callA_pure (c_rack_spec r hr) (by simp) (by simp)
  have h2 := callA_pure (c_spec_l1In n 1 3) (by simp) (by simp)
  rw [show (decide ((1 : Int) ≤ n) && decide (n ≤ 3)) = inB n 1 3 from rfl] at h2
  have h24 := take24 hr
  rw [fb (fn := a51) rfl rfl]
  unfold pairV tubePL gameB
  cases hq : okRack r with
  | false =>
    rw [hq] at h1
    simp [a51, hr, h24, h1, flatC_nil, sub]
  | true =>
    rw [hq] at h1
    cases hb : inB n 1 3 with
    | false =>
      rw [hb] at h2
      simp [a51, hr, h24, h1, h2, flatC_nil, sub]
    | true =>
      rw [hb] at h2
      have hn : 1 ≤ n ∧ n ≤ 3 := by simpa [inB] using hb
      obtain ⟨m, hm⟩ : ∃ m : Nat, n = ((m + 1 : Nat) : Int) := ⟨n.toNat - 1, by omega⟩
      have hmn : n.toNat = m + 1 := by omega
      have hc := callA_new (c_spec_l10Best m (by omega) r (rackOK hr hq)) (by simp)
      rw [← hm] at hc
      simp [a51, hr, h24, h1, h2, hc, hmn, sub]
theorem c_impl_TubePours (r : List Int) (hr : r.length = 24) (n : Int) : fnI pr np 50 [.agg (r.map (C.int .i64)), .c (.int .i64 n)] [] = some (pairV (tubePL r n) [] (gameB r n 1)) := by
  have h1 := callA_pure (c_impl_isGame r hr n 1) (by simp) (by simp)
  rw [show (okRack r && inB n 1 3) = gameB r n 1 from rfl] at h1
  have h24 := take24 hr
  rw [fb (fn := a50) rfl rfl]
  unfold pairV tubePL
  cases hb : gameB r n 1 with
  | false =>
    rw [hb] at h1
    simp [a50, hr, h24, h1, flatC_nil, sub]
  | true =>
    rw [hb] at h1
    simp only [gameB, Bool.and_eq_true] at hb
    have h0 : 1 ≤ n ∧ n ≤ 3 := by simpa [inB] using hb.2
    have hc := callA_new (c_impl_tubeValue n.toNat (by omega) r (rackOK hr hb.1)) (by simp)
    rw [show ((n.toNat : Nat) : Int) = n by omega] at hc
    simp [a50, hr, h24, h1, hc, sub]
theorem bestLL_len (n : Nat) (r : List Int) : (bestLL n r).length ≤ 36 := by
  cases n with
  | zero => simp [bestLL]
  | succ n => exact Nat.le_trans (bestL_len _ _ _) (usefulL_len r)
theorem tubePL_len (r : List Int) (n : Int) : (tubePL r n).length ≤ 36 := by
  unfold tubePL
  split
  · exact bestLL_len _ _
  · simp
theorem endPL_len (r : List Int) (n : Int) : (endPL r n).length ≤ 36 := by
  unfold endPL
  split
  · exact Nat.le_trans (endOut_len _ _ _) (usefulL_len r)
  · simp
theorem endPZ_ids (r : List Int) (n : Int) : cids (endPZ r n) = [] := by
  unfold endPZ
  split
  · exact endPad_ids _ _
  · rfl
end Go.Proofs.Ytoaidbmkfdpagaa.AM
