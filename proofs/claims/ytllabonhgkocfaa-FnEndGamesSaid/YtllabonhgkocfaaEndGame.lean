import Derived.Test.YtllabonhgkocfaaBaseD
/- Contracts: the game to the end. -/
namespace Go.Proofs.Ytllabonhgkocfaa.AM
open Go
set_option maxRecDepth 1000000
set_option linter.unusedSimpArgs false
set_option linter.unusedVariables false
theorem flatC_take1 (l : List (Nat × Nat)) (z : List C) {k : Nat} (hk : k < l.length) : ((flatC l ++ z).drop (k * 2)).take 1 = [C.int .i64 (l[k]'hk).1] ∧ ((flatC l ++ z).drop (k * 2 + 1)).take 1 = [C.int .i64 (l[k]'hk).2] := by
  have hg := flatC_get l z k hk
  refine ⟨?_, ?_⟩
  · have := congrArg (List.take 1) hg
    simpa [List.take_take] using this
  · have := congrArg (List.drop 1) hg
    rw [List.drop_take, List.drop_drop] at this
    simpa using this
theorem useful_pour {r : List Int} (h : RackOK r) {p : Nat × Nat} (hp : p ∈ usefulL r) : p.1 < 6 ∧ p.2 < 6 ∧ RackOK (pourR r p.1 p.2) := by
  have hm := mem_usefulL hp
  exact ⟨hm.1, hm.2.1, h.pour hm.1 hm.2.1 (canP_ne hm.2.2)⟩
set_option maxHeartbeats 2000000 in
theorem c_spec_l10End : ∀ (n : Nat) (hn : n < 1000) (r : List Int) (h : RackOK r), fnI pr np 148 [.agg (r.map (C.int .i64)), .c (.int .i64 n)] [] = some (.c (.int .i64 (endV n r)), []) := by
  intro n
  induction n with
  | zero =>
    intro hn r h
    rw [fb (fn := a148) rfl rfl]
    simp [a148, endV, h.len]
  | succ n ih =>
    intro hn r h
    have hr := h.len
    have h24 := take24 hr
    have hu := callA_new (c_spec_l2Useful r h) (by simp)
    have hl := usefulL_len r
    have hn0 : (((n + 1 : Nat) : Int) == 0) = false := beq_eq_false_iff_ne.2 (by omega)
    obtain ⟨K, hK1, hK2, hK3⟩ := first_exit (fun k => decide (1 ≤ endTo n r k)) (usefulL r).length
    have hfin : endTo n r K = endV (n + 1) r := by
      rw [← endTo_all]
      rcases hK2 with rfl | h1
      · rfl
      · have h1 : 1 ≤ endTo n r K := of_decide_eq_true h1
        have := endTo_mono n r ((usefulL r).length - K) K (by omega)
        rw [show K + ((usefulL r).length - K) = (usefulL r).length by omega] at this
        have := endTo_range n r (usefulL r).length
        omega
    rw [fb (fn := a148) rfl rfl]
    simp only [a148]
    generalize hN : ((n + 1 : Nat) : Int) = N at hn0 ⊢
    simp [hr, h24, hu, hn0]
    rw [loop_to (fun k => ([(1, V.c (C.int .i64 N)), (2, V.c (C.ptr 0 0)), (5, V.c (C.int .i64 (endTo n r k))), (6, V.c (C.sl 1 0 (usefulL r).length 2)), (7, V.c (C.int .i64 k))], [Blk.cells (r.map (C.int .i64)) true, Blk.cells (flatC (usefulL r)) true])) K]
    · rcases hK2 with h1 | h1
      · simp [h1, ← hfin]
      · have h1 : ¬ endTo n r K < 1 := by have := of_decide_eq_true h1; omega
        by_cases h2 : K < (usefulL r).length
        · simp [h1, h2, ← hfin]
        · simp [h2, ← hfin]
    · simp [endTo, bestOf]
    · intro k hk
      have hkl : k < (usefulL r).length := by omega
      have h1 : endTo n r k < 1 := by have := of_decide_eq_false (hK3 k hk); omega
      obtain ⟨hi, hj, hp⟩ := useful_pour h (List.getElem_mem hkl)
      have hc := callA_pure (c_spec_l2Pour r h hi hj) (by simp) (by simp)
      have hrec := callA_pure (ih (by omega) _ hp) (by simp) (by simp)
      have hwn : IntKind.i64.wrap (N - 1) = (n : Int) := by rw [wrapI (by omega) (by omega)]; omega
      have hst := endTo_succ n r hkl
      have hev := endV_range n (pourR r ((usefulL r)[k]'hkl).1 ((usefulL r)[k]'hkl).2)
      have hneg : IntKind.i64.wrap (-(endV n (pourR r ((usefulL r)[k]'hkl).1 ((usefulL r)[k]'hkl).2))) = endF n r ((usefulL r)[k]'hkl) := by rw [wrapI (by omega) (by omega)]; rfl
      have hm := callA_pure (c_spec_l1Most (endTo n r k) (endF n r ((usefulL r)[k]'hkl))) (by simp) (by simp)
      have hg := flatC_take1 (usefulL r) [] hkl
      rw [List.append_nil] at hg
      obtain ⟨g1, g2⟩ := hg
      have b1 : k * 2 + 2 ≤ (usefulL r).length * 2 := by omega
      have b2 : k * 2 + 1 ≤ (usefulL r).length * 2 := by omega
      have wk := wrapS (k := k) (by omega)
      have hpl := pourR_len hr ((usefulL r)[k]'hkl).1 ((usefulL r)[k]'hkl).2
      have hp24 := take24 hpl
      simp [hkl, h1, hr, h24, hc, hrec, hwn, hneg, hm, g1, g2, b1, b2, wk, hpl, hp24, setAt_all, ← hst]
set_option maxHeartbeats 2000000 in
theorem c_impl_endValue : ∀ (n : Nat) (hn : n < 1000) (r : List Int) (h : RackOK r), fnI pr np 146 [.agg (r.map (C.int .i64)), .c (.int .i64 n)] [] = some (.c (.int .i64 (endV n r)), []) := by
  intro n
  induction n with
  | zero =>
    intro hn r h
    rw [fb (fn := a146) rfl rfl]
    simp [a146, endV, h.len]
  | succ n ih =>
    intro hn r h
    have hr := h.len
    have h24 := take24 hr
    have hu := callA_new (c_impl_useful r h) (by simp)
    have hl := usefulL_len r
    have hn0 : (((n + 1 : Nat) : Int) == 0) = false := beq_eq_false_iff_ne.2 (by omega)
    have hfin : endTo n r (usefulL r).length = endV (n + 1) r := endTo_all n r
    rw [fb (fn := a146) rfl rfl]
    simp only [a146]
    generalize hN : ((n + 1 : Nat) : Int) = N at hn0 ⊢
    simp [hr, h24, hu, hn0]
    rw [loop_to (fun k => ([(1, V.c (C.int .i64 N)), (2, V.c (C.ptr 0 0)), (5, V.c (C.int .i64 (endTo n r k))), (13, V.c (C.sl 1 0 (usefulL r).length 2)), (14, V.c (C.int .i64 (usefulL r).length)), (15, V.c (C.int .i64 k))], [Blk.cells (r.map (C.int .i64)) true, Blk.cells (flatC (usefulL r) ++ padC r) true])) (usefulL r).length]
    · simp [← hfin]
    · simp [endTo, bestOf]
    · intro k hkl
      obtain ⟨hi, hj, hp⟩ := useful_pour h (List.getElem_mem hkl)
      have hc := callA_pure (c_impl_pour r h hi hj) (by simp) (by simp)
      have hrec := callA_pure (ih (by omega) _ hp) (by simp) (by simp)
      have hwn : IntKind.i64.wrap (N - 1) = (n : Int) := by rw [wrapI (by omega) (by omega)]; omega
      have hst := endTo_succ n r hkl
      have hev := endV_range n (pourR r ((usefulL r)[k]'hkl).1 ((usefulL r)[k]'hkl).2)
      have hneg : IntKind.i64.wrap (-(endV n (pourR r ((usefulL r)[k]'hkl).1 ((usefulL r)[k]'hkl).2))) = endF n r ((usefulL r)[k]'hkl) := by rw [wrapI (by omega) (by omega)]; rfl
      have hmx : (if endTo n r k < endF n r ((usefulL r)[k]'hkl) then endF n r ((usefulL r)[k]'hkl) else endTo n r k) = endTo n r (k + 1) := by rw [hst]; split <;> omega
      have hg := flatC_get (usefulL r) (padC r) k hkl
      have b1 : k * 2 + 2 ≤ (usefulL r).length * 2 + (padC r).length := by omega
      have wk := wrapS (k := k) (by omega)
      have hpl := pourR_len hr ((usefulL r)[k]'hkl).1 ((usefulL r)[k]'hkl).2
      have hp24 := take24 hpl
      simp [hkl, hr, h24, hc, hrec, hwn, hneg, hmx, hg, b1, wk, hpl, hp24, setAt_all]
/-- a valid rack -/
theorem rackOK {r : List Int} (hr : r.length = 24) (h : okRack r = true) : RackOK r := ⟨hr, (rack_eq r hr).trans h⟩
theorem c_rack_spec (r : List Int) (hr : r.length = 24) : fnI pr np 147 [.agg (r.map (C.int .i64))] [] = some (.c (.bool (okRack r)), []) := c_spec_l2Rack r hr
theorem c_rack_impl (r : List Int) (hr : r.length = 24) : fnI pr np 59 [.agg (r.map (C.int .i64))] [] = some (.c (.bool (okRack r)), []) := by
  have := c_impl_IsRack r hr
  rwa [rack_eq r hr] at this
def inB (n a b : Int) : Bool := decide (a ≤ n) && decide (n ≤ b)
theorem c_impl_isGame (r : List Int) (hr : r.length = 24) (n a : Int) : fnI pr np 145 [.agg (r.map (C.int .i64)), .c (.int .i64 n), .c (.int .i64 a)] [] = some (.c (.bool (okRack r && inB n a 3)), []) := by
  have h1 := callA_pure (c_rack_impl r hr) (by simp) (by simp)
  have h2 := callA_pure (c_impl_within n a 3) (by simp) (by simp)
  have h24 := take24 hr
  rw [fb (fn := a145) rfl rfl]
  unfold inB
  cases hq : okRack r with
  | true => rw [hq] at h1; simp [a145, hr, h24, h1, h2]
  | false => rw [hq] at h1; simp [a145, hr, h24, h1]
def endVV (r : List Int) (n : Int) : Int := if (okRack r && inB n 0 3) = true then endV n.toNat r else 0
theorem c_spec_EndValue (r : List Int) (hr : r.length = 24) (n : Int) : fnI pr np 53 [.agg (r.map (C.int .i64)), .c (.int .i64 n)] [] = some (.tup [.c (.int .i64 (endVV r n)), .c (.bool (okRack r && inB n 0 3))], []) := by
  have h1 := callA_pure (c_rack_spec r hr) (by simp) (by simp)
  have h2 := callA_pure (c_spec_l1In n 0 3) (by simp) (by simp)
  have h24 := take24 hr
  rw [fb (fn := a53) rfl rfl]
  unfold endVV
  cases hq : okRack r with
  | true =>
    rw [hq] at h1
    rw [show (decide ((0 : Int) ≤ n) && decide (n ≤ 3)) = inB n 0 3 from rfl] at h2
    cases hb : inB n 0 3 with
    | true =>
      rw [hb] at h2
      have h0 : 0 ≤ n ∧ n ≤ 3 := by simpa [inB] using hb
      have hc := callA_pure (c_spec_l10End n.toNat (by omega) r (rackOK hr hq)) (by simp) (by simp)
      rw [show ((n.toNat : Nat) : Int) = n by omega] at hc
      simp [a53, hr, h24, h1, h2, hc]
    | false =>
      rw [hb] at h2
      simp [a53, hr, h24, h1, h2]
  | false =>
    rw [hq] at h1
    simp [a53, hr, h24, h1]
theorem c_impl_EndValue (r : List Int) (hr : r.length = 24) (n : Int) : fnI pr np 52 [.agg (r.map (C.int .i64)), .c (.int .i64 n)] [] = some (.tup [.c (.int .i64 (endVV r n)), .c (.bool (okRack r && inB n 0 3))], []) := by
  have h1 := callA_pure (c_impl_isGame r hr n 0) (by simp) (by simp)
  have h24 := take24 hr
  rw [fb (fn := a52) rfl rfl]
  unfold endVV
  cases hb : (okRack r && inB n 0 3) with
  | true =>
    rw [hb] at h1
    simp only [Bool.and_eq_true] at hb
    have h0 : 0 ≤ n ∧ n ≤ 3 := by simpa [inB] using hb.2
    have hc := callA_pure (c_impl_endValue n.toNat (by omega) r (rackOK hr hb.1)) (by simp) (by simp)
    rw [show ((n.toNat : Nat) : Int) = n by omega] at hc
    simp [a52, hr, h24, h1, hc]
  | false =>
    rw [hb] at h1
    simp [a52, hr, h24, h1]
def lostB (r : List Int) : Bool := okRack r && decide ((usefulL r).length = 0)
theorem c_spec_IsLost (r : List Int) (hr : r.length = 24) : fnI pr np 58 [.agg (r.map (C.int .i64))] [] = some (.tup [.c (.bool (lostB r)), .c (.bool (okRack r))], []) := by
  have h1 := callA_pure (c_rack_spec r hr) (by simp) (by simp)
  have h24 := take24 hr
  rw [fb (fn := a58) rfl rfl]
  unfold lostB
  cases hq : okRack r with
  | true =>
    rw [hq] at h1
    have hc := callA_new (c_spec_l2Useful r (rackOK hr hq)) (by simp)
    by_cases h0 : (usefulL r).length = 0
    · simp [a58, hr, h24, h1, hc, h0]
    · have h0' : (((usefulL r).length : Int) == 0) = false := beq_eq_false_iff_ne.2 (by omega)
      simp [a58, hr, h24, h1, hc, h0']
      simpa using h0
  | false =>
    rw [hq] at h1
    simp [a58, hr, h24, h1]
theorem c_impl_IsLost (r : List Int) (hr : r.length = 24) : fnI pr np 57 [.agg (r.map (C.int .i64))] [] = some (.tup [.c (.bool (lostB r)), .c (.bool (okRack r))], []) := by
  have h1 := callA_pure (c_rack_impl r hr) (by simp) (by simp)
  have h24 := take24 hr
  rw [fb (fn := a57) rfl rfl]
  unfold lostB
  cases hq : okRack r with
  | true =>
    rw [hq] at h1
    have hc := callA_new (c_impl_useful r (rackOK hr hq)) (by simp)
    by_cases h0 : (usefulL r).length = 0
    · simp [a57, hr, h24, h1, hc, h0]
    · have h0' : (((usefulL r).length : Int) == 0) = false := beq_eq_false_iff_ne.2 (by omega)
      simp [a57, hr, h24, h1, hc, h0']
      simpa using h0
  | false =>
    rw [hq] at h1
    simp [a57, hr, h24, h1]
end Go.Proofs.Ytllabonhgkocfaa.AM
