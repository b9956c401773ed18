import Derived.Test.YtllabonhgkocfaaPairS
/- Contracts: CountReplies; EndPours. -/
namespace Go.Proofs.Ytllabonhgkocfaa.AM
open Go
set_option maxRecDepth 1000000
set_option linter.unusedSimpArgs false
set_option linter.unusedVariables false
def repN (r : List Int) (p : Nat × Nat) : Int := ((usefulL (pourR r p.1 p.2)).length : Int)
def repTo (r : List Int) (k : Nat) : List Int := ((usefulL r).take k).map (repN r)
def repAll (r : List Int) : List Int := (usefulL r).map (repN r)
theorem repAll_len (r : List Int) : (repAll r).length = (usefulL r).length := by simp [repAll]
theorem repTo_all (r : List Int) : repTo r (usefulL r).length = repAll r := by unfold repTo repAll; rw [List.take_length]
theorem repTo_zero (r : List Int) : repTo r 0 = [] := rfl
def repL (r : List Int) : List Int := if okRack r = true then repAll r else []
theorem repTo_len (r : List Int) {k : Nat} (hk : k ≤ (usefulL r).length) : (repTo r k).length = k := by simp [repTo]; omega
theorem repTo_succ (r : List Int) {k : Nat} (hk : k < (usefulL r).length) : repTo r (k + 1) = repTo r k ++ [repN r ((usefulL r)[k]'hk)] := by
  unfold repTo; rw [take_snoc hk, List.map_append]; rfl
theorem repL_len (r : List Int) : (repL r).length ≤ 36 := by
  unfold repL
  split
  · rw [repAll_len]; exact usefulL_len r
  · simp
theorem ints_take (l : List Int) : (l.map (C.int .i64)).take l.length = l.map (C.int .i64) := List.take_of_length_le (by simp)
theorem ints_app (l : List Int) (x : Int) : l.map (C.int .i64) ++ [C.int .i64 x] = (l ++ [x]).map (C.int .i64) := by simp
theorem ints_app_ids (l : List Int) (x : Int) : cids (l.map (C.int .i64) ++ [C.int .i64 x]) = [] := by rw [ints_app, cids_ints]
def replyV (r : List Int) : V × Heap := (.tup [.c (.sl 0 0 (repL r).length 1), .c (.bool (okRack r))], [.cells ((repL r).map (C.int .i64)) true])
set_option maxHeartbeats 2000000 in
theorem c_spec_CountReplies (r : List Int) (hr : r.length = 24) : fnI pr np 61 [.agg (r.map (C.int .i64))] [] = some (replyV r) := by
  have h1 := callA_pure (c_rack_spec r hr) (by simp) (by simp)
  have h24 := take24 hr
  rw [fb (fn := a61) rfl rfl]
  unfold replyV repL
  cases hq : okRack r with
  | false =>
    rw [hq] at h1
    simp [a61, hr, h24, h1, sub]
  | true =>
    rw [hq] at h1
    have h := rackOK hr hq
    have hu := callA_new (c_spec_l2Useful r h) (by simp)
    have hl := usefulL_len r
    simp [a61, hr, h24, h1, hu]
    rw [loop_to (fun k => ([(1, V.c (C.ptr 0 0)), (4, V.c (C.sl 1 0 k 1)), (5, V.c (C.sl 2 0 (usefulL r).length 2)), (6, V.c (C.int .i64 k))], [Blk.cells (r.map (C.int .i64)) true, Blk.cells ((repTo r k).map (C.int .i64)) true, Blk.cells (flatC (usefulL r)) true])) (usefulL r).length]
    · simp [repTo_all, repAll_len, sub]
    · simp [repTo_zero, sub]
    · intro k hk
      obtain ⟨hi, hj, hp⟩ := useful_pour h (List.getElem_mem hk)
      have hc := callA_pure (c_spec_l2Pour r h hi hj) (by simp) (by simp)
      have hu2 := callA_new (c_spec_l2Useful _ hp) (by simp)
      have hg := flatC_take1 (usefulL r) [] hk
      rw [List.append_nil] at hg
      obtain ⟨g1, g2⟩ := hg
      have b1 : k * 2 + 2 ≤ (usefulL r).length * 2 := by omega
      have b2 : k * 2 + 1 ≤ (usefulL r).length * 2 := by omega
      have wk := wrapS (k := k) (by omega)
      have hpl := pourR_len hr ((usefulL r)[k]'hk).1 ((usefulL r)[k]'hk).2
      have hp24 := take24 hpl
      have hst := repTo_succ r hk
      have hrl := repTo_len r (Nat.le_of_lt hk)
      have htk := ints_take (repTo r k)
      rw [hrl] at htk
      have hroom : k + 1 ≤ 68719476736 := by omega
      have hrn : repN r ((usefulL r)[k]'hk) = ((usefulL (pourR r ((usefulL r)[k]'hk).1 ((usefulL r)[k]'hk).2)).length : Int) := rfl
      simp [hk, hr, h24, hc, hu2, g1, g2, b1, b2, wk, hpl, hp24, setAt_all, hst, hrl, htk, hroom, hrn, sub]
set_option maxHeartbeats 2000000 in
theorem c_impl_CountReplies (r : List Int) (hr : r.length = 24) : fnI pr np 60 [.agg (r.map (C.int .i64))] [] = some (replyV r) := by
  have h1 := callA_pure (c_rack_impl r hr) (by simp) (by simp)
  have h24 := take24 hr
  rw [fb (fn := a60) rfl rfl]
  unfold replyV repL
  cases hq : okRack r with
  | false =>
    rw [hq] at h1
    simp [a60, hr, h24, h1, sub]
  | true =>
    rw [hq] at h1
    have h := rackOK hr hq
    have hu := callA_new (c_impl_useful r h) (by simp)
    have hl := usefulL_len r
    simp [a60, hr, h24, h1, hu]
    rw [loop_to (fun k => ([(1, V.c (C.ptr 0 0)), (4, V.c (C.sl 1 0 k 1)), (13, V.c (C.sl 2 0 (usefulL r).length 2)), (14, V.c (C.int .i64 (usefulL r).length)), (15, V.c (C.int .i64 k))], [Blk.cells (r.map (C.int .i64)) true, Blk.cells ((repTo r k).map (C.int .i64)) true, Blk.cells (flatC (usefulL r) ++ padC r) true])) (usefulL r).length]
    · simp [repTo_all, repAll_len, sub]
    · simp [repTo_zero, sub]
    · intro k hk
      obtain ⟨hi, hj, hp⟩ := useful_pour h (List.getElem_mem hk)
      have hc := callA_pure (c_impl_pour r h hi hj) (by simp) (by simp)
      have hu2 := callA_new (c_impl_useful _ hp) (by simp)
      have hg := flatC_get (usefulL r) (padC r) k hk
      have b1 : k * 2 + 2 ≤ (usefulL r).length * 2 + (padC r).length := by omega
      have wk := wrapS (k := k) (by omega)
      have hpl := pourR_len hr ((usefulL r)[k]'hk).1 ((usefulL r)[k]'hk).2
      have hp24 := take24 hpl
      have hst := repTo_succ r hk
      have hrl := repTo_len r (Nat.le_of_lt hk)
      have htk := ints_take (repTo r k)
      rw [hrl] at htk
      have hroom : k + 1 ≤ 68719476736 := by omega
      have hrn : repN r ((usefulL r)[k]'hk) = ((usefulL (pourR r ((usefulL r)[k]'hk).1 ((usefulL r)[k]'hk).2)).length : Int) := rfl
      simp [hk, hr, h24, hc, hu2, hg, b1, wk, hpl, hp24, setAt_all, hst, hrl, htk, hroom, hrn, sub]
/-! ### the pours with the value of the game to the end -/
def endOut (n : Nat) (r : List Int) (k : Nat) : List (Nat × Nat) := ((usefulL r).take k).filter fun p => decide (endF n r p = endV (n + 1) r)
def endPad (n : Nat) (r : List Int) : List C := List.replicate (((usefulL r).length - (endOut n r (usefulL r).length).length) * 2) (C.int .i64 0) ++ padC r
theorem endOut_len (n : Nat) (r : List Int) (k : Nat) : (endOut n r k).length ≤ k := Nat.le_trans (List.length_filter_le _ _) (by simp; omega)
theorem endOut_succ (n : Nat) (r : List Int) {k : Nat} (hk : k < (usefulL r).length) : endOut n r (k + 1) = endOut n r k ++ if endF n r ((usefulL r)[k]'hk) = endV (n + 1) r then [(usefulL r)[k]'hk] else [] := by
  unfold endOut
  rw [take_snoc hk, List.filter_append]
  congr 1
  by_cases h : endF n r ((usefulL r)[k]'hk) = endV (n + 1) r <;> simp [h]
theorem endF_wrap (n : Nat) (r : List Int) (p : Nat × Nat) : IntKind.i64.wrap (-(endV n (pourR r p.1 p.2))) = endF n r p := by
  have := endV_range n (pourR r p.1 p.2)
  rw [wrapI (by omega) (by omega)]; rfl
theorem c_impl_EndPours_1 (r : List Int) (h : RackOK r) (n : Nat) (hn : n + 1 < 1000) (v : Int) {p : Nat × Nat} (hp : p ∈ usefulL r) : fnI pr np 151 [.agg [.int .i64 p.1, .int .i64 p.2], .c (.ptr 0 0), .c (.ptr 1 0), .c (.ptr 2 0)] [.cells (r.map (C.int .i64)) true, .cells [.int .i64 ((n + 1 : Nat) : Int)] true, .cells [.int .i64 v] true] =
    some (.c (.bool (endF n r p != v)), [.cells (r.map (C.int .i64)) true, .cells [.int .i64 ((n + 1 : Nat) : Int)] true, .cells [.int .i64 v] true]) := by
  obtain ⟨hi, hj, hq⟩ := useful_pour h hp
  have hr := h.len
  have h24 := take24 hr
  have hc := callA_pure (c_impl_pour r h hi hj) (by simp) (by simp)
  have hrec := callA_pure (c_impl_endValue n (by omega) _ hq) (by simp) (by simp)
  have hneg := endF_wrap n r p
  have hpl := pourR_len hr p.1 p.2
  have hp24 := take24 hpl
  have hwn : IntKind.i64.wrap (((n + 1 : Nat) : Int) - 1) = (n : Int) := by rw [wrapI (by omega) (by omega)]; omega
  generalize hN : ((n + 1 : Nat) : Int) = N at hwn ⊢
  rw [fb (fn := a151) rfl rfl]
  simp [a151, hr, h24, hc, hrec, hneg, hpl, hp24, setAt_all, hwn, sub]
theorem del_EndPours (r : List Int) (h : RackOK r) (n : Nat) (hn : n + 1 < 1000) (v : Int) : DelOK 151 [(1, 0), (2, 0), (3, 0)] [.cells (r.map (C.int .i64)) true, .cells [.int .i64 ((n + 1 : Nat) : Int)] true, .cells [.int .i64 v] true] (fun p => endF n r p != v) (usefulL r) := by
  refine ⟨by simp, by simp [upto], by simp, by simp, fun p hp X G base => ?_⟩
  have hf := c_impl_EndPours_1 r h n hn v hp
  refine ⟨_, (callA_gen (F := fnI pr np) (f := 151) (args := [.agg [.int .i64 p.1, .int .i64 p.2], .c (.ptr 1 0), .c (.ptr 2 0), .c (.ptr 3 0)]) (L := [1, 2, 3]) (by simp) (by simp) (by simp [sub]) (by simp) hf (by simp) base).trans (by simp; rfl), by simp⟩
def gameB (r : List Int) (n : Int) (a : Int) : Bool := okRack r && inB n a 3
def endPL (r : List Int) (n : Int) : List (Nat × Nat) := if gameB r n 1 = true then endOut (n.toNat - 1) r (usefulL r).length else []
def endPZ (r : List Int) (n : Int) : List C := if gameB r n 1 = true then endPad (n.toNat - 1) r else []
def pairV (l : List (Nat × Nat)) (z : List C) (q : Bool) : V × Heap := (.tup [.c (.sl 0 0 l.length 2), .c (.bool q)], [.cells (flatC l ++ z) true])
theorem endPad_ids (n : Nat) (r : List Int) : cids (endPad n r) = [] := by simp [endPad]
theorem endPad_cmp (g : Nat → Nat) (n : Nat) (r : List Int) : cmp g (endPad n r) = endPad n r := cmp_pure (endPad_ids n r)
set_option maxHeartbeats 2000000 in
theorem c_impl_EndPours (r : List Int) (hr : r.length = 24) (n : Int) : fnI pr np 54 [.agg (r.map (C.int .i64)), .c (.int .i64 n)] [] = some (pairV (endPL r n) (endPZ r n) (gameB r n 1)) := by
  have h1 := callA_pure (c_impl_isGame r hr n 1) (by simp) (by simp)
  rw [show (okRack r && inB n 1 3) = gameB r n 1 from rfl] at h1
  have h24 := take24 hr
  rw [fb (fn := a54) rfl rfl]
  unfold pairV endPL endPZ
  cases hb : gameB r n 1 with
  | false =>
    rw [hb] at h1
    simp [a54, hr, h24, h1, flatC_nil, sub]
  | true =>
    rw [hb] at h1
    simp only [gameB, Bool.and_eq_true] at hb
    have hn : 1 ≤ n ∧ n ≤ 3 := by simpa [inB] using hb.2
    have h := rackOK hr hb.1
    obtain ⟨m, hm⟩ : ∃ m : Nat, n = ((m + 1 : Nat) : Int) := ⟨n.toNat - 1, by omega⟩
    have hmn : n.toNat - 1 = m := by omega
    have hv := callA_pure (c_impl_endValue (m + 1) (by omega) r h) (by simp) (by simp)
    have hu := callA_new (c_impl_useful r h) (by simp)
    have hdel := c_slices_DeleteFunc_pairs (del_EndPours r h m (by omega) (endV (m + 1) r)) (padC r) (padC_ids r) (by have := usefulL_len r; omega)
    have hf : ((usefulL r).filter fun p => !(endF m r p != endV (m + 1) r)) = endOut m r (usefulL r).length := by
      unfold endOut
      rw [List.take_length]
      congr 1
      funext p
      rw [Bool.eq_iff_iff]
      simp
    rw [hf] at hdel
    have hpad : List.replicate (((usefulL r).length - (endOut m r (usefulL r).length).length) * 2) (C.int .i64 0) ++ padC r = endPad m r := rfl
    rw [hpad] at hdel
    rw [← hm] at hv hdel
    have hc := fun base => callA_gen (F := fnI pr np) (f := 149) (args := [.c (.sl 4 0 (usefulL r).length 2), .c (.fn 151 [(0, 0), (1, 0), (3, 0)])]) (H := lkp [.cells (r.map (C.int .i64)) true, .cells [.int .i64 n] true, .cells [] true, .cells [.int .i64 (endV (m + 1) r)] true, .cells (flatC (usefulL r) ++ padC r) true]) (L := [4, 0, 1, 3]) (by simp) (by simp) (by simp [sub]) (by simp) hdel (by simp) base
    simp [a54, hr, h24, h1, hv, hu, hc, hmn, endPad_ids, endPad_cmp, sub]
set_option maxHeartbeats 2000000 in
theorem c_spec_EndPours (r : List Int) (hr : r.length = 24) (n : Int) : fnI pr np 55 [.agg (r.map (C.int .i64)), .c (.int .i64 n)] [] = some (pairV (endPL r n) [] (gameB r n 1)) := by
  have h1 := callA_pure (c_rack_spec r hr) (by simp) (by simp)
  have h2 := callA_pure (c_spec_l1In n 1 3) (by simp) (by simp)
  rw [show (decide ((1 : Int) ≤ n) && decide (n ≤ 3)) = inB n 1 3 from rfl] at h2
  have h24 := take24 hr
  rw [fb (fn := a55) rfl rfl]
  unfold pairV endPL gameB
  cases hq : okRack r with
  | false =>
    rw [hq] at h1
    simp [a55, hr, h24, h1, flatC_nil, sub]
  | true =>
    rw [hq] at h1
    cases hb : inB n 1 3 with
    | false =>
      rw [hb] at h2
      simp [a55, hr, h24, h1, h2, flatC_nil, sub]
    | true =>
      rw [hb] at h2
      have hn : 1 ≤ n ∧ n ≤ 3 := by simpa [inB] using hb
      have h := rackOK hr hq
      obtain ⟨m, hm⟩ : ∃ m : Nat, n = ((m + 1 : Nat) : Int) := ⟨n.toNat - 1, by omega⟩
      have hmn : n.toNat - 1 = m := by omega
      have hv := callA_pure (c_spec_l10End (m + 1) (by omega) r h) (by simp) (by simp)
      rw [← hm] at hv
      have hu := callA_new (c_spec_l2Useful r h) (by simp)
      have hl := usefulL_len r
      have hwn : IntKind.i64.wrap (n - 1) = (m : Int) := by rw [wrapI (by omega) (by omega)]; omega
      simp [a55, hr, h24, h1, h2, hv, hu, hmn]
      rw [loop_to (fun k => ([(1, V.c (C.int .i64 n)), (2, V.c (C.ptr 0 0)), (6, V.c (C.sl 1 0 (endOut m r k).length 2)), (7, V.c (C.int .i64 (endV (m + 1) r))), (8, V.c (C.sl 2 0 (usefulL r).length 2)), (9, V.c (C.int .i64 k))], [Blk.cells (r.map (C.int .i64)) true, Blk.cells (flatC (endOut m r k)) true, Blk.cells (flatC (usefulL r)) true])) (usefulL r).length]
      · simp [sub]
      · simp [endOut, flatC_nil, sub]
      · intro k hk
        obtain ⟨hi, hj, hp⟩ := useful_pour h (List.getElem_mem hk)
        have hc := callA_pure (c_spec_l2Pour r h hi hj) (by simp) (by simp)
        have hrec := callA_pure (c_spec_l10End m (by omega) _ hp) (by simp) (by simp)
        have hneg := endF_wrap m r ((usefulL r)[k]'hk)
        have hg2 := flatC_get (usefulL r) [] k hk
        have hg := flatC_take1 (usefulL r) [] hk
        rw [List.append_nil] at hg hg2
        obtain ⟨g1, g2⟩ := hg
        have b1 : k * 2 + 2 ≤ (usefulL r).length * 2 := by omega
        have b2 : k * 2 + 1 ≤ (usefulL r).length * 2 := by omega
        have wk := wrapS (k := k) (by omega)
        have hpl := pourR_len hr ((usefulL r)[k]'hk).1 ((usefulL r)[k]'hk).2
        have hp24 := take24 hpl
        have hst := endOut_succ m r hk
        have hol := endOut_len m r k
        have hroom : (endOut m r k).length + 1 ≤ 68719476736 := by omega
        have htk := flatC_take' (endOut m r k)
        by_cases he : endF m r ((usefulL r)[k]'hk) = endV (m + 1) r
        · rw [if_pos he] at hst
          have he' : (endF m r ((usefulL r)[k]'hk) == endV (m + 1) r) = true := by rw [he]; simp
          simp [hk, hr, h24, hc, hrec, hwn, hneg, hg2, g1, g2, b1, b2, wk, hpl, hp24, setAt_all, hst, hroom, htk, he, he', flatC_app, flatC_one, sub]
        · rw [if_neg he, List.append_nil] at hst
          have he' : (endF m r ((usefulL r)[k]'hk) == endV (m + 1) r) = false := by simpa using he
          simp [hk, hr, h24, hc, hrec, hwn, hneg, g1, g2, b1, b2, wk, hpl, hp24, setAt_all, hst, he', sub]
end Go.Proofs.Ytllabonhgkocfaa.AM
