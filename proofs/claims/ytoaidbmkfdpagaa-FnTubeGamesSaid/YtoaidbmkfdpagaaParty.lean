import Derived.Test.YtoaidbmkfdpagaaPairLaws
/- Contracts: the first best pour, the best party. -/
namespace Go.Proofs.Ytoaidbmkfdpagaa.AM
open Go
set_option maxRecDepth 1000000
set_option linter.unusedSimpArgs false
set_option linter.unusedVariables false
def firstV (l : List (Nat × Nat)) : V := match l with
  | [] => .tup [.agg [.int .i64 0, .int .i64 0], .c (.bool false)]
  | p :: _ => .tup [.agg [.int .i64 p.1, .int .i64 p.2], .c (.bool true)]
theorem firstV_ids (l : List (Nat × Nat)) : (firstV l).ids = [] := by cases l <;> simp [firstV]
theorem flatC_head (p : Nat × Nat) (l : List (Nat × Nat)) : (flatC (p :: l)).take 2 = [C.int .i64 p.1, C.int .i64 p.2] := by simp [flatC, flatI]
theorem flatC_head1 (p : Nat × Nat) (l : List (Nat × Nat)) : (flatC (p :: l)).take 1 = [C.int .i64 p.1] ∧ ((flatC (p :: l)).tail).take 1 = [C.int .i64 p.2] := by simp [flatC, flatI]
theorem c_spec_FirstBest (r : List Int) (hr : r.length = 24) (n : Int) : fnI pr np 53 [.agg (r.map (C.int .i64)), .c (.int .i64 n)] [] = some (firstV (tubePL r n), []) := by
  have h24 := take24 hr
  have hc := callA_new (c_spec_TubePours r hr n) (by simp)
  unfold pairV at hc
  simp only [List.append_nil] at hc
  have hq : gameB r n 1 = false → tubePL r n = [] := fun h => by simp [tubePL, h]
  generalize tubePL r n = l at hc hq ⊢
  generalize gameB r n 1 = q at hc hq
  rw [fb (fn := a53) rfl rfl]
  cases l with
  | nil => cases q <;> simp [a53, hr, h24, hc, firstV, flatC_nil, sub]
  | cons p l =>
    cases q with
    | false => have := hq rfl; simp at this
    | true =>
      have h0 : (((l.length + 1 : Nat) : Int) == 0) = false := beq_eq_false_iff_ne.2 (by omega)
      have h0' : (((l.length : Int) + 1) == 0) = false := beq_eq_false_iff_ne.2 (by omega)
      have hh := flatC_head p l
      have h1 : 2 ≤ (l.length + 1) * 2 := by omega
      have h2 : (0 : Int) < (l.length : Int) + 1 := by omega
      simp [a53, hr, h24, hc, firstV, h0, h0', hh, h1, h2, sub]
theorem c_impl_FirstBest (r : List Int) (hr : r.length = 24) (n : Int) : fnI pr np 52 [.agg (r.map (C.int .i64)), .c (.int .i64 n)] [] = some (firstV (tubePL r n), []) := by
  have h24 := take24 hr
  have hc := callA_new (c_impl_TubePours r hr n) (by simp)
  unfold pairV at hc
  simp only [List.append_nil] at hc
  have hq : gameB r n 1 = false → tubePL r n = [] := fun h => by simp [tubePL, h]
  generalize tubePL r n = l at hc hq ⊢
  generalize gameB r n 1 = q at hc hq
  rw [fb (fn := a52) rfl rfl]
  cases l with
  | nil => cases q <;> simp [a52, hr, h24, hc, firstV, flatC_nil, sub]
  | cons p l =>
    cases q with
    | false => have := hq rfl; simp at this
    | true =>
      have h0 : (((l.length + 1 : Nat) : Int) == 0) = false := beq_eq_false_iff_ne.2 (by omega)
      have h0' : (((l.length : Int) + 1) == 0) = false := beq_eq_false_iff_ne.2 (by omega)
      have hh := flatC_head p l
      have h1 : 2 ≤ (l.length + 1) * 2 := by omega
      have h2 : (0 : Int) < (l.length : Int) + 1 := by omega
      simp [a52, hr, h24, hc, firstV, h0, h0', hh, h1, h2, sub]
theorem bestLL_mem {n : Nat} {r : List Int} {p : Nat × Nat} (h : p ∈ bestLL (n + 1) r) : p ∈ usefulL r := by
  unfold bestLL bestL at h
  exact List.mem_of_mem_take (List.mem_filter.1 h).1
def partyGo : Nat → List Int → List (Nat × Nat)
  | 0, _ => []
  | n + 1, r => match bestLL (n + 1) r with
    | [] => []
    | p :: _ => p :: partyGo n (pourR r p.1 p.2)
theorem partyGo_len : ∀ (n : Nat) (r : List Int), (partyGo n r).length ≤ n
  | 0, _ => by simp [partyGo]
  | n + 1, r => by
    unfold partyGo
    split
    · simp
    · rename_i p l _
      have := partyGo_len n (pourR r p.1 p.2)
      simp; omega
def partyL (r : List Int) (n : Int) : List (Nat × Nat) := if gameB r n 0 = true then partyGo n.toNat r else []
theorem partyL_len (r : List Int) (n : Int) : (partyL r n).length ≤ 36 := by
  unfold partyL
  split
  · rename_i h
    simp only [gameB, Bool.and_eq_true] at h
    have h0 : 0 ≤ n ∧ n ≤ 3 := by simpa [inB] using h.2
    have := partyGo_len n.toNat r
    omega
  · simp
set_option maxHeartbeats 4000000 in
theorem c_spec_BestParty (r : List Int) (hr : r.length = 24) (n : Int) : fnI pr np 49 [.agg (r.map (C.int .i64)), .c (.int .i64 n)] [] = some (pairV (partyL r n) [] (gameB r n 0)) := by
  have h1 := callA_pure (c_rack_spec r hr) (by simp) (by simp)
  have h2 := callA_pure (c_spec_l1In n 0 3) (by simp) (by simp)
  rw [show (decide ((0 : Int) ≤ n) && decide (n ≤ 3)) = inB n 0 3 from rfl] at h2
  have h24 := take24 hr
  rw [fb (fn := a49) rfl rfl]
  unfold partyL gameB
  cases hq : okRack r with
  | false =>
    rw [hq] at h1
    simp [a49, hr, h24, h1, pairV, flatC_nil, sub]
  | true =>
    rw [hq] at h1
    cases hb : inB n 0 3 with
    | false =>
      rw [hb] at h2
      simp [a49, hr, h24, h1, h2, pairV, flatC_nil, sub]
    | true =>
      rw [hb] at h2
      have hn : 0 ≤ n ∧ n ≤ 3 := by simpa [inB] using hb
      simp [a49, hr, h24, h1, h2]
      generalize hL : (ACode.loop _ _) = L
      generalize hR : (ACode.seq _ ACode.ret) = R
      have key : ∀ (m : Nat) (s : List Int) (out : List (Nat × Nat)) (e : Env) (h : Heap), RackOK s → out.length + m ≤ 10 → gcE 0 [1, 2, 6] e h = some ([(1, V.c (C.int .i64 m)), (2, V.c (C.ptr 0 0)), (6, V.c (C.sl 1 0 out.length 2))], [Blk.cells (s.map (C.int .i64)) true, Blk.cells (flatC out) true]) → leaveK 0 [RV.t 4, RV.t 5] (seqK pr np 0 R (blockK 0 (exI pr np 0 L e h))) = some (pairV (out ++ partyGo m s) [] true) := by
        intro m
        induction m with
        | zero =>
          intro s out e h hs hl hg
          rw [← hL, exI_loop', hg]
          simp [← hR, partyGo, pairV, sub]
        | succ m ih =>
          intro s out e h hs hl hg
          have hsr := hs.len
          have hs24 := take24 hsr
          have hb := callA_new (c_spec_l10Best m (by omega) s hs) (by simp)
          have hwn : IntKind.i64.wrap (((m + 1 : Nat) : Int) - 1) = (m : Int) := by rw [wrapI (by omega) (by omega)]; omega
          have hpos : (0 : Int) < ((m + 1 : Nat) : Int) := by omega
          rw [← hL, exI_loop', hg]
          generalize hN : ((m + 1 : Nat) : Int) = N at hwn hpos hb ⊢
          cases hbl : bestLL (m + 1) s with
          | nil =>
            rw [hbl] at hb
            simp [hpos, hsr, hs24, hb, partyGo, hbl, pairV, sub]
          | cons p l =>
            rw [hbl] at hb
            have hmem : p ∈ usefulL s := bestLL_mem (n := m) (by rw [hbl]; simp)
            obtain ⟨hi, hj, hp⟩ := useful_pour hs hmem
            have hc := callA_pure (c_spec_l2Pour s hs hi hj) (by simp) (by simp)
            have h0' : (((l.length : Int) + 1) == 0) = false := beq_eq_false_iff_ne.2 (by omega)
            have hh := flatC_head p l
            obtain ⟨hh1, hh2⟩ := flatC_head1 p l
            have b1 : 2 ≤ (l.length + 1) * 2 := by omega
            have b3 : 1 ≤ (l.length + 1) * 2 := by omega
            have b2 : (0 : Int) < (l.length : Int) + 1 := by omega
            have hpl := hp.len
            have hp24 := take24 hpl
            have hroom : out.length + 1 ≤ 68719476736 := by omega
            have htk := flatC_take' out
            simp [hpos, hsr, hs24, hb, h0', hc, hh, hh1, hh2, b1, b2, b3, hpl, hp24, setAt_all, hroom, htk, hwn]
            rw [hL]
            refine (ih _ (out ++ [p]) _ _ hp (by simp; omega) ?_).trans ?_
            · simp [flatC_app, flatC_one, sub]
            · simp [partyGo, hbl]
      have hk := fun e h hg => key n.toNat r [] e h (rackOK hr hq) (by simp; omega) hg
      rw [show ((n.toNat : Nat) : Int) = n by omega] at hk
      refine (hk _ _ ?_).trans (by simp)
      simp [flatC_nil, sub]
set_option maxHeartbeats 4000000 in
theorem c_impl_BestParty (r : List Int) (hr : r.length = 24) (n : Int) : fnI pr np 48 [.agg (r.map (C.int .i64)), .c (.int .i64 n)] [] = some (pairV (partyL r n) [] (gameB r n 0)) := by
  have h1 := callA_pure (c_impl_isGame r hr n 0) (by simp) (by simp)
  rw [show (okRack r && inB n 0 3) = gameB r n 0 from rfl] at h1
  have h24 := take24 hr
  rw [fb (fn := a48) rfl rfl]
  unfold partyL
  cases hb : gameB r n 0 with
  | false =>
    rw [hb] at h1
    simp [a48, hr, h24, h1, pairV, flatC_nil, sub]
  | true =>
    rw [hb] at h1
    simp only [gameB, Bool.and_eq_true] at hb
    have hn : 0 ≤ n ∧ n ≤ 3 := by simpa [inB] using hb.2
    simp [a48, hr, h24, h1]
    generalize hL : (ACode.loop _ _) = L
    generalize hR : (ACode.seq _ ACode.ret) = R
    have key : ∀ (m : Nat) (s : List Int) (out : List (Nat × Nat)) (e : Env) (h : Heap), RackOK s → out.length + m ≤ 10 → gcE 0 [1, 2, 6] e h = some ([(1, V.c (C.int .i64 m)), (2, V.c (C.ptr 0 0)), (6, V.c (C.sl 1 0 out.length 2))], [Blk.cells (s.map (C.int .i64)) true, Blk.cells (flatC out) true]) → leaveK 0 [RV.t 4, RV.t 5] (seqK pr np 0 R (blockK 0 (exI pr np 0 L e h))) = some (pairV (out ++ partyGo m s) [] true) := by
      intro m
      induction m with
      | zero =>
        intro s out e h hs hl hg
        rw [← hL, exI_loop', hg]
        simp [← hR, partyGo, pairV, sub]
      | succ m ih =>
        intro s out e h hs hl hg
        have hsr := hs.len
        have hs24 := take24 hsr
        have hb := callA_new (c_impl_tubeValue (m + 1) (by omega) s hs) (by simp)
        unfold tubeRes at hb
        have hwn : IntKind.i64.wrap (((m + 1 : Nat) : Int) - 1) = (m : Int) := by rw [wrapI (by omega) (by omega)]; omega
        have hpos : (0 : Int) < ((m + 1 : Nat) : Int) := by omega
        rw [← hL, exI_loop', hg]
        generalize hN : ((m + 1 : Nat) : Int) = N at hwn hpos hb ⊢
        cases hbl : bestLL (m + 1) s with
        | nil =>
          rw [hbl] at hb
          simp [hpos, hsr, hs24, hb, partyGo, hbl, pairV, ← hR, sub]
        | cons p l =>
          rw [hbl] at hb
          have hmem : p ∈ usefulL s := bestLL_mem (n := m) (by rw [hbl]; simp)
          obtain ⟨hi, hj, hp⟩ := useful_pour hs hmem
          have hc := callA_pure (c_impl_pour s hs hi hj) (by simp) (by simp)
          have h0' : (((l.length : Int) + 1) == 0) = false := beq_eq_false_iff_ne.2 (by omega)
          have hh := flatC_head p l
          obtain ⟨hh1, hh2⟩ := flatC_head1 p l
          have b1 : 2 ≤ (l.length + 1) * 2 := by omega
          have b3 : 1 ≤ (l.length + 1) * 2 := by omega
          have b2 : (0 : Int) < (l.length : Int) + 1 := by omega
          have hpl := hp.len
          have hp24 := take24 hpl
          have hroom : out.length + 1 ≤ 68719476736 := by omega
          have htk := flatC_take' out
          simp [hpos, hsr, hs24, hb, h0', hc, hh, hh1, hh2, b1, b2, b3, hpl, hp24, setAt_all, hroom, htk, hwn]
          rw [hL]
          refine (ih _ (out ++ [p]) _ _ hp (by simp; omega) ?_).trans ?_
          · simp [flatC_app, flatC_one, sub]
          · simp [partyGo, hbl]
    have hk := fun e h hg => key n.toNat r [] e h (rackOK hr hb.1) (by simp; omega) hg
    rw [show ((n.toNat : Nat) : Int) = n by omega] at hk
    refine (hk _ _ ?_).trans (by simp)
    simp [flatC_nil, sub]
end Go.Proofs.Ytoaidbmkfdpagaa.AM
