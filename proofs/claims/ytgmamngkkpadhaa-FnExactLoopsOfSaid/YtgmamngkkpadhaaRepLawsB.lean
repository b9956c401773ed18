import Derived.Test.YtgmamngkkpadhaaRepLaws
import Derived.Test.YtgmamngkkpadhaaSorted
/- Contracts: laws of replays: a rack, solved, layers. -/
namespace Go.Proofs.Ytgmamngkkpadhaa.AM
open Go
set_option maxRecDepth 1000000
set_option linter.unusedSimpArgs false
set_option linter.unusedVariables false
theorem repB_facts {r : List Int} (hr : r.length = 24) {l : List (Int × Int)} (h : repB r l = true) : RackOK r ∧ l.length ≤ 60 ∧ (∀ j, j < l.length → canAt r l j = true) := by
  simp only [repB, Bool.and_eq_true, decide_eq_true_eq] at h
  exact ⟨rackOK hr h.1.1, h.1.2, fun j hj => List.all_eq_true.1 h.2 j (List.mem_range.2 hj)⟩
theorem rackF_all (r : List Int) (l : List (Int × Int)) : rackF r (l.take l.length) = rackF r l := by rw [List.take_length]
/-! ### a rack of a replay -/
def rrB (r : List Int) (l : List (Int × Int)) (k : Int) : Bool := repB r l && inB k 0 l.length
def rrR (r : List Int) (l : List (Int × Int)) (k : Int) : List Int := if rrB r l k = true then rackF r (l.take k.toNat) else List.replicate 24 0
def rrV (r : List Int) (l : List (Int × Int)) (k : Int) : V := .tup [.agg ((rrR r l k).map (C.int .i64)), .c (.bool (rrB r l k))]
theorem rrR_len {r : List Int} (hr : r.length = 24) (l : List (Int × Int)) (k : Int) : (rrR r l k).length = 24 := by
  unfold rrR
  split
  · exact rackF_len hr _
  · simp
theorem c_spec_ReplayRack (r : List Int) (hr : r.length = 24) (l : List (Int × Int)) (o : Bool) (k : Int) : fnI pr np 52 [repV r 0 l.length, .c (.int .i64 k)] [.cells (cZ l) o] = some (rrV r l k, [.cells (cZ l) o]) := by
  have h0 := c_spec_l11Racks r hr l o
  have t3 := repC_all hr (C.sl 0 0 l.length 2)
  rw [fb (fn := a52) rfl rfl]
  unfold rrV rrR rrB
  cases hq : repB r l with
  | true =>
    rw [racksV_t hq] at h0
    have hc := call_rep (rest := []) rfl (by simp) h0
    obtain ⟨h, hl, _⟩ := repB_facts hr hq
    have w : IntKind.i64.wrap (l.length : Int) = (l.length : Int) := wrapI (by omega) (by omega)
    have hin := callA_pure (c_spec_l1In k 0 l.length) (by simp) (by simp)
    rw [show (decide ((0 : Int) ≤ k) && decide (k ≤ l.length)) = inB k 0 l.length from rfl] at hin
    cases hb : inB k 0 l.length with
    | true =>
      rw [hb] at hin
      have h1 : 0 ≤ k ∧ k ≤ l.length := by simpa [inB] using hb
      obtain ⟨K, rfl⟩ : ∃ K : Nat, k = (K : Int) := ⟨k.toNat, by omega⟩
      have hK : K ≤ l.length := by omega
      have g := outC_get hr l l.length hK
      have hol := outI_len hr l l.length
      have b1 : K < l.length + 1 := by omega
      have b1' : (K : Int) < (l.length : Int) + 1 := by omega
      have b2 : K * 24 + 24 ≤ (l.length + 1) * 24 := by omega
      have hpl := rackF_len hr (l.take K)
      have hp24 := take24 hpl
      simp [a52, repV, hr, t3, hc, w, hin, g, hol, b1, b1', b2, hpl, hp24, setAt_all, sub]
    | false =>
      rw [hb] at hin
      simp [a52, repV, hr, t3, hc, w, hin, setAt, sub]
  | false =>
    rw [racksV_f hq] at h0
    have hc := call_rep (rest := []) rfl (by simp) h0
    simp [a52, repV, hr, t3, hc, setAt, sub]
theorem c_impl_ReplayRack (r : List Int) (hr : r.length = 24) (l : List (Int × Int)) (o : Bool) (k : Int) : fnI pr np 53 [repV r 0 l.length, .c (.int .i64 k)] [.cells (cZ l) o] = some (rrV r l k, [.cells (cZ l) o]) := by
  have h0 := c_impl_racks r hr l o
  have t3 := repC_all hr (C.sl 0 0 l.length 2)
  have t2 := repC_drop hr (C.sl 0 0 l.length 2)
  rw [fb (fn := a53) rfl rfl]
  unfold rrV rrR rrB
  cases hq : repB r l with
  | true =>
    rw [racksV_t hq] at h0
    have hc := call_rep (rest := []) rfl (by simp) h0
    have hin := callA_pure (c_impl_within k 0 l.length) (by simp) (by simp)
    rw [show (decide ((0 : Int) ≤ k) && decide (k ≤ l.length)) = inB k 0 l.length from rfl] at hin
    cases hb : inB k 0 l.length with
    | true =>
      rw [hb] at hin
      have h1 : 0 ≤ k ∧ k ≤ l.length := by simpa [inB] using hb
      obtain ⟨K, rfl⟩ : ∃ K : Nat, k = (K : Int) := ⟨k.toNat, by omega⟩
      have hK : K ≤ l.length := by omega
      have g := outC_get hr l l.length hK
      have hol := outI_len hr l l.length
      have b1 : K < l.length + 1 := by omega
      have b1' : (K : Int) < (l.length : Int) + 1 := by omega
      have b2 : K * 24 + 24 ≤ (l.length + 1) * 24 := by omega
      have hpl := rackF_len hr (l.take K)
      have hp24 := take24 hpl
      simp [a53, repV, hr, t2, t3, hc, hin, g, hol, b1, b1', b2, hpl, hp24, setAt_all, sub]
    | false =>
      rw [hb] at hin
      simp [a53, repV, hr, t2, t3, hc, hin, setAt, sub]
  | false =>
    rw [racksV_f hq] at h0
    have hc := call_rep (rest := []) rfl (by simp) h0
    simp [a53, repV, hr, t3, hc, setAt, sub]
theorem c_laws_FnExactReplayRack (r : List Int) (hr : r.length = 24) (l : List (Int × Int)) (hn : l.length ≤ 9223372036854775807) (k : Int) (_ : -9223372036854775808 ≤ k ∧ k < 9223372036854775808) : fnI pr np 8 [repV r 0 l.length, .c (.int .i64 k)] [.cells (cZ l) false] = some (.c (.bool true), [.cells (cZ l) false]) := by
  have hsz := call_rep (rest := [.c (.int .i64 1048576)]) rfl (by simp) (c_laws_szReplay r hr l hn false)
  have t3 := fun i => repC_all hr (C.sl i 0 l.length 2)
  rw [fb (fn := a8) rfl rfl]
  by_cases hl : l.length ≤ 1048576
  · rw [if_pos hl] at hsz
    have hneg : ¬ (1048576 - (l.length : Int)) < 0 := by omega
    have hto := call_rep (rest := []) rfl (by simp) (c_laws_toReplay r hr l hl false)
    have h1 := call_rep (rest := [.c (.int .i64 k)]) rfl (by simp) (c_spec_ReplayRack r hr l true k)
    have h2 := call_rep (rest := [.c (.int .i64 k)]) rfl (by simp) (c_impl_ReplayRack r hr l true k)
    have heq := call_rep2 (by simp) (by simp) (c_laws_eqReplay r hr l hl true true)
    have hlen := rrR_len hr l k
    have heqr := callA_pure (c_laws_eqRack _ hlen) (by simp) (by simp)
    have h24 := take24 hlen
    unfold rrV at h1 h2
    generalize rrR r l k = rr at *
    generalize rrB r l k = q at *
    simp [a8, repV, hr, t3, hsz, hneg, hto, h1, h2, heq, heqr, hlen, h24, z25_eq, z25_setAll hr, repV_mp, setAt_all, stillE, madeA, sub]
  · rw [if_neg hl] at hsz
    simp [a8, repV, hr, t3, hsz, sub]
/-! ### solved -/
def solB (r : List Int) (l : List (Int × Int)) : Bool := repB r l && sortP (rackF r l)
theorem c_impl_solves (r : List Int) (hr : r.length = 24) (l : List (Int × Int)) (o : Bool) : fnI pr np 173 [repV r 0 l.length] [.cells (cZ l) o] = some (.c (.bool (solB r l)), [.cells (cZ l) o]) := by
  have h0 := c_impl_racks r hr l o
  have t3 := repC_all hr (C.sl 0 0 l.length 2)
  rw [fb (fn := a173) rfl rfl]
  unfold solB
  cases hq : repB r l with
  | true =>
    rw [racksV_t hq] at h0
    have hc := call_rep (rest := []) rfl (by simp) h0
    obtain ⟨h, hl, hg⟩ := repB_facts hr hq
    have w : IntKind.i64.wrap (l.length : Int) = (l.length : Int) := wrapI (by omega) (by omega)
    have ho := rackF_ok h l l.length (Nat.le_refl _) hg
    rw [rackF_all] at ho
    have hs := callA_pure (c_impl_isSorted _ ho) (by simp) (by simp)
    have g := outC_get hr l l.length (Nat.le_refl _)
    rw [rackF_all] at g
    have hol := outI_len hr l l.length
    have b1' : (l.length : Int) < (l.length : Int) + 1 := by omega
    have b2 : l.length * 24 + 24 ≤ (l.length + 1) * 24 := by omega
    simp [a173, repV, hr, t3, hc, w, g, hol, b1', b2, hs, sub]
  | false =>
    rw [racksV_f hq] at h0
    have hc := call_rep (rest := []) rfl (by simp) h0
    simp [a173, repV, hr, t3, hc, sub]
def solV (r : List Int) (l : List (Int × Int)) : V := .tup [.c (.bool (solB r l)), .c (.bool (repB r l))]
theorem c_impl_DoesSolve (r : List Int) (hr : r.length = 24) (l : List (Int × Int)) (o : Bool) : fnI pr np 78 [repV r 0 l.length] [.cells (cZ l) o] = some (solV r l, [.cells (cZ l) o]) := by
  have t3 := repC_all hr (C.sl 0 0 l.length 2)
  have h1 := call_rep (rest := []) rfl (by simp) (c_impl_IsReplay r hr l o)
  have h2 := call_rep (rest := []) rfl (by simp) (c_impl_solves r hr l o)
  rw [fb (fn := a78) rfl rfl]
  unfold solV solB at *
  cases hq : repB r l with
  | true => rw [hq] at h1 h2; simp [a78, repV, hr, t3, h1, h2, sub]
  | false => rw [hq] at h1 h2; simp [a78, repV, hr, t3, h1, sub]
theorem c_spec_DoesSolve (r : List Int) (hr : r.length = 24) (l : List (Int × Int)) (o : Bool) : fnI pr np 77 [repV r 0 l.length] [.cells (cZ l) o] = some (solV r l, [.cells (cZ l) o]) := by
  have h0 := c_spec_l11Racks r hr l o
  have t3 := repC_all hr (C.sl 0 0 l.length 2)
  rw [fb (fn := a77) rfl rfl]
  unfold solV solB
  cases hq : repB r l with
  | true =>
    rw [racksV_t hq] at h0
    have hc := call_rep (rest := []) rfl (by simp) h0
    obtain ⟨h, hl, hg⟩ := repB_facts hr hq
    have w : IntKind.i64.wrap (l.length : Int) = (l.length : Int) := wrapI (by omega) (by omega)
    have ho := rackF_ok h l l.length (Nat.le_refl _) hg
    rw [rackF_all] at ho
    have hs := callA_pure (c_spec_l2Sorted _ ho) (by simp) (by simp)
    have g := outC_get hr l l.length (Nat.le_refl _)
    rw [rackF_all] at g
    have hol := outI_len hr l l.length
    have b1' : (l.length : Int) < (l.length : Int) + 1 := by omega
    have b2 : l.length * 24 + 24 ≤ (l.length + 1) * 24 := by omega
    simp [a77, repV, hr, t3, hc, w, g, hol, b1', b2, hs, sub]
  | false =>
    rw [racksV_f hq] at h0
    have hc := call_rep (rest := []) rfl (by simp) h0
    simp [a77, repV, hr, t3, hc, sub]
theorem c_laws_FnExactDoesSolve (r : List Int) (hr : r.length = 24) (l : List (Int × Int)) (hn : l.length ≤ 9223372036854775807) : fnI pr np 17 [repV r 0 l.length] [.cells (cZ l) false] = some (.c (.bool true), [.cells (cZ l) false]) := by
  have hsz := call_rep (rest := [.c (.int .i64 1048576)]) rfl (by simp) (c_laws_szReplay r hr l hn false)
  have t3 := fun i => repC_all hr (C.sl i 0 l.length 2)
  rw [fb (fn := a17) rfl rfl]
  by_cases hl : l.length ≤ 1048576
  · rw [if_pos hl] at hsz
    have hneg : ¬ (1048576 - (l.length : Int)) < 0 := by omega
    have hto := call_rep (rest := []) rfl (by simp) (c_laws_toReplay r hr l hl false)
    have h1 := call_rep (rest := []) rfl (by simp) (c_spec_DoesSolve r hr l true)
    have h2 := call_rep (rest := []) rfl (by simp) (c_impl_DoesSolve r hr l true)
    have heq := call_rep2 (by simp) (by simp) (c_laws_eqReplay r hr l hl true true)
    unfold solV at h1 h2
    generalize solB r l = s at h1 h2
    generalize repB r l = q at h1 h2
    simp [a17, repV, hr, t3, hsz, hneg, hto, h1, h2, heq, z25_eq, z25_setAll hr, repV_mp, setAt_all, stillE, madeA, sub]
  · rw [if_neg hl] at hsz
    simp [a17, repV, hr, t3, hsz, sub]
/-! ### layers that are moved -/
def movedTo (r : List Int) (l : List (Int × Int)) (k : Nat) : Nat := ((List.range k).map fun j => pourN (rackF r (l.take j)) (l.getD j (0, 0)).1.toNat (l.getD j (0, 0)).2.toNat).sum
theorem movedTo_succ (r : List Int) (l : List (Int × Int)) {k : Nat} (hk : k < l.length) : movedTo r l (k + 1) = movedTo r l k + pourN (rackF r (l.take k)) (l[k]'hk).1.toNat (l[k]'hk).2.toNat := by
  unfold movedTo
  rw [List.range_succ, List.map_append, List.sum_append]
  simp [hk]
theorem pourN_le4 (r : List Int) (i j : Nat) : pourN r i j ≤ 4 := by unfold pourN; omega
theorem movedTo_le (r : List Int) (l : List (Int × Int)) : ∀ k, k ≤ l.length → movedTo r l k ≤ 4 * k
  | 0, _ => by simp [movedTo]
  | k + 1, h => by
    have := movedTo_le r l k (by omega)
    have := pourN_le4 (rackF r (l.take k)) (l[k]'(by omega)).1.toNat (l[k]'(by omega)).2.toNat
    rw [movedTo_succ r l (by omega)]
    omega
set_option maxHeartbeats 4000000 in
theorem c_impl_doPours (r : List Int) (h : RackOK r) (l : List (Int × Int)) (hl : l.length ≤ 60) (hgood : ∀ j, j < l.length → canAt r l j = true) (o : Bool) : fnI pr np 162 [.agg (r.map (C.int .i64)), .c (.sl 0 0 l.length 2)] [.cells (cZ l) o] = some (.tup [.agg ((rackF r l).map (C.int .i64)), .c (.int .i64 (movedTo r l l.length)), .c (.bool true)], [.cells (cZ l) o]) := by
  have hr := h.len
  have h24 := take24 hr
  have hlast := rackF_len hr l
  have hl24 := take24 hlast
  rw [fb (fn := a162) rfl rfl]
  simp [a162, hr, h24]
  rw [loop_to (fun k => ([(2, V.c (C.ptr 1 0)), (4, V.c (C.ptr 2 0)), (7, V.c (C.int .i64 (movedTo r l k))), (12, V.c (C.sl 0 0 l.length 2)), (13, V.c (C.int .i64 l.length)), (14, V.c (C.int .i64 k))], [Blk.cells (cZ l) o, Blk.cells ((rackF r (l.take k)).map (C.int .i64)) true, Blk.cells (List.replicate 24 (C.int .i64 0)) true])) l.length]
  · simp [hlast, hl24, setAt_all, sub]
  · simp [rackF, movedTo, cids_rep, cmp_rep, sub]
  · intro k hkl
    have hro := rackF_ok h l k (by omega) fun j hj => hgood j (by omega)
    have hgk := hgood k hkl
    rw [canAt_eq r hkl] at hgk
    have hpl0 : placeB (l[k]'hkl).1 = true ∧ placeB (l[k]'hkl).2 = true := by simp only [canZ, Bool.and_eq_true] at hgk; exact hgk.1
    obtain ⟨i, j, ei, ej, hi, hj, hcan, ti, tj⟩ := canZ_facts hgk
    have p1 := callA_pure (c_impl_isPlace (l[k]'hkl).1) (by simp) (by simp)
    have p2 := callA_pure (c_impl_isPlace (l[k]'hkl).2) (by simp) (by simp)
    rw [hpl0.1, ei] at p1
    rw [hpl0.2, ej] at p2
    have hcp := callA_pure (c_impl_canPour _ hro hi hj) (by simp) (by simp)
    rw [hcan] at hcp
    have hp := callA_pure (c_impl_pour _ hro hi hj) (by simp) (by simp)
    have hst : rackF r (l.take (k + 1)) = pourR (rackF r (l.take k)) i j := by rw [rackF_succ r hkl]; unfold pourZ; rw [ti, tj]
    have hms := movedTo_succ r l hkl
    rw [ti, tj] at hms
    have hml := movedTo_le r l (k + 1) (by omega)
    have g := cZ_get l hkl
    rw [ei, ej] at g
    have b1 : k * 2 + 2 ≤ l.length * 2 := by omega
    have wk := wrapS (k := k) (by omega)
    have hrl := rackF_len hr (l.take k)
    have hr24 := take24 hrl
    have hpl := pourR_len hrl i j
    have hp24 := take24 hpl
    have wm : IntKind.i64.wrap ((movedTo r l k : Int) + (pourN (rackF r (l.take k)) i j : Int)) = ((movedTo r l (k + 1) : Nat) : Int) := by rw [hms, Int.natCast_add]; exact wrapI (by omega) (by omega)
    simp [hkl, g, b1, p1, p2, hcp, hp, wk, hrl, hr24, hpl, hp24, wm, hst, setAt_all, setAt, cids_rep, cmp_rep, sub]
def movV (r : List Int) (l : List (Int × Int)) : V := .tup [.c (.int .i64 (if repB r l = true then (movedTo r l l.length : Int) else 0)), .c (.bool (repB r l))]
theorem c_impl_MovedLayers (r : List Int) (hr : r.length = 24) (l : List (Int × Int)) (o : Bool) : fnI pr np 63 [repV r 0 l.length] [.cells (cZ l) o] = some (movV r l, [.cells (cZ l) o]) := by
  have t3 := repC_all hr (C.sl 0 0 l.length 2)
  have t1 := repC_take hr (C.sl 0 0 l.length 2)
  have t2 := repC_drop hr (C.sl 0 0 l.length 2)
  have h1 := call_rep (rest := []) rfl (by simp) (c_impl_IsReplay r hr l o)
  rw [fb (fn := a63) rfl rfl]
  unfold movV
  cases hq : repB r l with
  | true =>
    obtain ⟨h, hl, hg⟩ := repB_facts hr hq
    have hd := fun (G : Heap) (base : Nat) => callA_gen (F := fnI pr np) (f := 162) (args := [.agg (r.map (C.int .i64)), .c (.sl 0 0 l.length 2)]) (H := lkp (.cells (cZ l) o :: G)) (L := [0]) (by simp) (by simp) (by simp [sub]) (by simp) (c_impl_doPours r h l hl hg o) (by simp) base
    have hlast := rackF_len hr l
    rw [hq] at h1
    simp [a63, repV, hr, t1, t2, t3, h1, hd, hlast, setAt_all, sub]
  | false => rw [hq] at h1; simp [a63, repV, hr, t3, h1, sub]
set_option maxHeartbeats 4000000 in
theorem c_spec_MovedLayers (r : List Int) (hr : r.length = 24) (l : List (Int × Int)) (o : Bool) : fnI pr np 62 [repV r 0 l.length] [.cells (cZ l) o] = some (movV r l, [.cells (cZ l) o]) := by
  have h0 := c_spec_l11Racks r hr l o
  have t3 := repC_all hr (C.sl 0 0 l.length 2)
  have t2 := repC_drop hr (C.sl 0 0 l.length 2)
  rw [fb (fn := a62) rfl rfl]
  unfold movV
  cases hq : repB r l with
  | true =>
    rw [racksV_t hq] at h0
    have hc := call_rep (rest := []) rfl (by simp) h0
    obtain ⟨h, hl, hgood⟩ := repB_facts hr hq
    have hol := outI_len hr l l.length
    simp [a62, repV, hr, t3, hc]
    rw [loop_to (fun k => ([(1, V.c (C.ptr 1 0)), (4, V.c (C.sl 2 0 (l.length + 1) 24)), (5, V.c (C.bool true)), (6, V.c (C.int .i64 (movedTo r l k))), (7, V.c (C.int .i64 k))], [Blk.cells (cZ l) o, Blk.cells (r.map (C.int .i64) ++ [C.sl 0 0 l.length 2]) true, Blk.cells ((outI r l l.length).map (C.int .i64)) true])) l.length]
    · simp [hr, t2, sub]
    · simp [movedTo, cids_app, cmp_app, sub]
    · intro k hkl
      have hro := rackF_ok h l k (by omega) fun j hj => hgood j (by omega)
      have hgk := hgood k hkl
      rw [canAt_eq r hkl] at hgk
      obtain ⟨i, j, ei, ej, hi, hj, hcan, ti, tj⟩ := canZ_facts hgk
      have hp := callA_pure (c_spec_l2Pour _ hro hi hj) (by simp) (by simp)
      have hms := movedTo_succ r l hkl
      rw [ti, tj] at hms
      have hml := movedTo_le r l (k + 1) (by omega)
      obtain ⟨g3, g4⟩ := cZ_get1 l hkl
      rw [ei] at g3
      rw [ej] at g4
      have g2 := outC_get hr l l.length (show k ≤ l.length by omega)
      have b1 : k * 2 + 2 ≤ l.length * 2 := by omega
      have b1' : k * 2 + 1 ≤ l.length * 2 := by omega
      have b2 : k * 24 + 24 ≤ (l.length + 1) * 24 := by omega
      have b3 : (k : Int) < (l.length : Int) + 1 := by omega
      have wk := wrapS (k := k) (by omega)
      have hpl := pourR_len (rackF_len hr (l.take k)) i j
      have wm : IntKind.i64.wrap ((movedTo r l k : Int) + (pourN (rackF r (l.take k)) i j : Int)) = ((movedTo r l (k + 1) : Nat) : Int) := by rw [hms, Int.natCast_add]; exact wrapI (by omega) (by omega)
      simp [hkl, hr, t2, g2, g3, g4, hol, b1, b1', b2, b3, hp, wk, hpl, wm, setAt_all, setAt, cids_app, cmp_app, sub]
  | false =>
    rw [racksV_f hq] at h0
    have hc := call_rep (rest := []) rfl (by simp) h0
    simp [a62, repV, hr, t3, hc]
    rw [loop_to (fun k => ([(1, V.c (C.ptr 1 0)), (4, V.c (C.sl 2 0 0 24)), (5, V.c (C.bool false)), (6, V.c (C.int .i64 0)), (7, V.c (C.int .i64 k))], [Blk.cells (cZ l) o, Blk.cells (r.map (C.int .i64) ++ [C.sl 0 0 l.length 2]) true, Blk.cells [] true])) 0]
    · by_cases hz : 0 < l.length
      · simp [hr, t2, hz, sub]
      · simp [hr, t2, hz, sub]
    · simp [cids_app, cmp_app, sub]
    · intro k hk; omega
theorem c_laws_FnExactMovedLayers (r : List Int) (hr : r.length = 24) (l : List (Int × Int)) (hn : l.length ≤ 9223372036854775807) : fnI pr np 11 [repV r 0 l.length] [.cells (cZ l) false] = some (.c (.bool true), [.cells (cZ l) false]) := by
  have hsz := call_rep (rest := [.c (.int .i64 1048576)]) rfl (by simp) (c_laws_szReplay r hr l hn false)
  have t3 := fun i => repC_all hr (C.sl i 0 l.length 2)
  rw [fb (fn := a11) rfl rfl]
  by_cases hl : l.length ≤ 1048576
  · rw [if_pos hl] at hsz
    have hneg : ¬ (1048576 - (l.length : Int)) < 0 := by omega
    have hto := call_rep (rest := []) rfl (by simp) (c_laws_toReplay r hr l hl false)
    have h1 := call_rep (rest := []) rfl (by simp) (c_spec_MovedLayers r hr l true)
    have h2 := call_rep (rest := []) rfl (by simp) (c_impl_MovedLayers r hr l true)
    have heq := call_rep2 (by simp) (by simp) (c_laws_eqReplay r hr l hl true true)
    unfold movV at h1 h2
    generalize (if repB r l = true then (movedTo r l l.length : Int) else 0) = s at h1 h2
    generalize repB r l = q at h1 h2
    simp [a11, repV, hr, t3, hsz, hneg, hto, h1, h2, heq, z25_eq, z25_setAll hr, repV_mp, setAt_all, stillE, madeA, sub]
  · rw [if_neg hl] at hsz
    simp [a11, repV, hr, t3, hsz, sub]
end Go.Proofs.Ytgmamngkkpadhaa.AM
