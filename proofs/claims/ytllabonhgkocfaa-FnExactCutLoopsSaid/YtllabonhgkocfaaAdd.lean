import Derived.Test.YtllabonhgkocfaaUndo
/- Contracts: one pour more. -/
namespace Go.Proofs.Ytllabonhgkocfaa.AM
open Go
set_option maxRecDepth 1000000
set_option linter.unusedSimpArgs false
set_option linter.unusedVariables false
def adL (r : List Int) (l : List (Int × Int)) (p : Int × Int) : List (Int × Int) := if adB r l p = true then l ++ [p] else []
def adR (r : List Int) (l : List (Int × Int)) (p : Int × Int) : List Int := if adB r l p = true then r else List.replicate 24 0
theorem adR_len {r : List Int} (hr : r.length = 24) (l : List (Int × Int)) (p : Int × Int) : (adR r l p).length = 24 := by
  unfold adR; split
  · exact hr
  · simp
theorem adL_len (r : List Int) (l : List (Int × Int)) (p : Int × Int) : (adL r l p).length ≤ 60 := by
  unfold adL adB
  split
  · rename_i h
    simp only [Bool.and_eq_true, decide_eq_true_eq] at h
    simp; omega
  · simp
set_option maxHeartbeats 4000000 in
theorem c_spec_AddPour (r : List Int) (hr : r.length = 24) (l : List (Int × Int)) (o : Bool) (p : Int × Int) : fnI pr np 24 [repV r 0 l.length, .agg [.int .i64 p.1, .int .i64 p.2]] [.cells (cZ l) o] = some (backV (adR r l p) (adL r l p) (adB r l p), [.cells (cZ l) o, .cells (cZ (adL r l p)) true]) := by
  have h0 := c_spec_l11Racks r hr l o
  have t2 := repC_drop hr (C.sl 0 0 l.length 2)
  have t3 := repC_all hr (C.sl 0 0 l.length 2)
  rw [fb (fn := a24) rfl rfl]
  unfold backV adL adR adB
  cases hq : repB r l with
  | false =>
    rw [racksV_f hq] at h0
    have hc := call_rep (rest := []) rfl (by simp) h0
    simp [a24, repV, hr, t2, t3, hc, z25_eq, setAt_all, setAt, cZ_nil, stillE, madeA, sub]
  | true =>
    rw [racksV_t hq] at h0
    have hc := call_rep (rest := []) rfl (by simp) h0
    obtain ⟨h, hl, hg⟩ := repB_facts hr hq
    by_cases h60 : l.length < 60
    · have h60' : ¬ (60 : Int) ≤ (l.length : Int) := by omega
      have wl : IntKind.i64.wrap (l.length : Int) = (l.length : Int) := wrapI (by omega) (by omega)
      have ho := rackF_ok h l l.length (Nat.le_refl _) hg
      rw [rackF_all] at ho
      have hcan := callA_pure (c_spec_l6Can _ ho p) (by simp) (by simp)
      have e1 := outC_get hr l l.length (Nat.le_refl _)
      rw [rackF_all] at e1
      have hol := outI_len hr l l.length
      have b3 : l.length * 24 + 24 ≤ (l.length + 1) * 24 := by omega
      have b4 : (l.length : Int) < (l.length : Int) + 1 := by omega
      have r24 := take24 (rackF_len hr l)
      cases hq2 : canZ (rackF r l) p with
      | false =>
        rw [hq2] at hcan
        simp [a24, repV, hr, t2, t3, hc, h60, h60', wl, hcan, e1, hol, b3, b4, r24, z25_eq, setAt_all, setAt, cZ_nil, stillE, madeA, sub]
      | true =>
        rw [hq2] at hcan
        have hcut := call_rep (rest := [.c (.int .i64 (l.length : Int))]) rfl (by simp) (c_spec_l11Cut r hr l (by omega) l.length (Nat.le_refl _) o)
        rw [List.take_length] at hcut
        have t5 := fun i n => repC_drop hr (C.sl i 0 n 2)
        have t6 := fun i n => repC_all hr (C.sl i 0 n 2)
        have t7 := fun i n d => repC_set hr (C.sl i 0 n 2) d
        have htk := cZ_take l
        have hroom : l.length + 1 ≤ 68719476736 := by omega
        have e2 : cZ [p] = [C.int .i64 p.1, C.int .i64 p.2] := rfl
        simp [a24, repV, hr, t2, t3, t5, t6, t7, hc, h60, h60', wl, hcan, hcut, e1, e2, hol, b3, b4, r24, htk, hroom, cZ_app, z25_eq, z25_setAll hr, setAt_all, setAt, cZ_nil, stillE, madeA, sub]
    · have h60' : (60 : Int) ≤ (l.length : Int) := by omega
      simp [a24, repV, hr, t2, t3, hc, h60, h60', z25_eq, setAt_all, setAt, cZ_nil, stillE, madeA, sub]
/-- two lists of pours in blocks of their own, put together -/
theorem c_concat2 (l l2 : List (Int × Int)) (hl : l.length ≤ 1048576) (hl2 : l2.length ≤ 1048576) (h0 : 0 < l2.length) (o o2 : Bool) : fnI pr np 184 [.c (.sl 0 0 2 1)] [.cells [.sl 1 0 l.length 2, .sl 2 0 l2.length 2] true, .cells (cZ l) o, .cells (cZ l2) o2] = some (.c (.sl 3 0 (l.length + l2.length) 2), [.cells [.sl 1 0 l.length 2, .sl 2 0 l2.length 2] true, .cells (cZ l) o, .cells (cZ l2) o2, .cells (cZ (l ++ l2)) true]) := by
  have w1 : IntKind.i64.wrap (1 : Int) = 1 := by decide
  have w2 : IntKind.i64.wrap (2 : Int) = 2 := by decide
  have wn : IntKind.i64.wrap (l.length : Int) = (l.length : Int) := wrapI (by omega) (by omega)
  have ws : IntKind.i64.wrap ((l.length : Int) + (l2.length : Int)) = ((l.length + l2.length : Nat) : Int) := wrapI (by omega) (by omega)
  have hneg : ¬ (l.length : Int) < 0 := by omega
  have hneg2 : ¬ ((l.length + l2.length : Nat) : Int) < 0 := by omega
  have hroom : l.length ≤ 68719476736 := by omega
  have hroom2 : l.length + l2.length ≤ 68719476736 := by omega
  have k1 := cZ_take l
  have k2 := cZ_take l2
  have hg := callA_new (c_grow_pos (l.length + l2.length) (by omega) (by omega)) (by simp)
  rw [fb (fn := a184) rfl rfl]
  simp [a184, exI_loop', w1, w2, wn, ws, hneg, hneg2, hroom, hroom2, k1, k2, hg, cZ_app, cids_rep, cmp_rep, -Int.natCast_add, sub]
theorem c_impl_with2 (r : List Int) (hr : r.length = 24) (l l2 : List (Int × Int)) (n0 : Nat) (hl : l.length ≤ 1048576) (hl2 : l2.length ≤ 1048576) (h0 : 0 < l2.length) (o o2 : Bool) : fnI pr np 118 [repV r 0 n0, .c (.sl 1 0 2 1)] [.cells (cZ l) o, .cells [.sl 0 0 l.length 2, .sl 2 0 l2.length 2] true, .cells (cZ l2) o2] = some (repV r 3 (l.length + l2.length), [.cells (cZ l) o, .cells [.sl 0 0 l.length 2, .sl 2 0 l2.length 2] true, .cells (cZ l2) o2, .cells (cZ (l ++ l2)) true]) := by
  have t1 := repC_take hr (C.sl 0 0 n0 2)
  have hc := fun (G : Heap) (base : Nat) => callA_gen (F := fnI pr np) (f := 184) (args := [.c (.sl 1 0 2 1)]) (H := lkp (.cells (cZ l) o :: .cells [.sl 0 0 l.length 2, .sl 2 0 l2.length 2] true :: .cells (cZ l2) o2 :: G)) (L := [1, 0, 2]) (by simp) (by simp) (by simp [sub]) (by simp) (c_concat2 l l2 hl hl2 h0 o o2) (by simp) base
  rw [fb (fn := a118) rfl rfl]
  unfold repV
  simp [a118, hr, t1, hc, z25_eq, z25_set hr, z25_setAll hr, repC_set hr, repC_all hr, idOf, madeA, cids_app, cmp_app, sub]
theorem call_with2 {r : List Int} (hr : r.length = 24) {l l2 : List (Int × Int)} {n0 n n2 : Nat} (hnl : n = l.length) (hn2 : n2 = l2.length) (hl : l.length ≤ 1048576) (hl2 : l2.length ≤ 1048576) (h0 : 0 < l2.length) (o o2 : Bool) (j i k : Nat) (H : HF) (base : Nat) (hji : (j != i) = true) (hjk : (j != k) = true) (hik : (i != k) = true) (hj : (H j == some (Blk.cells (cZ l) o)) = true) (hi : (H i == some (Blk.cells [.sl j 0 n 2, .sl k 0 n2 2] true)) = true) (hk : (H k == some (Blk.cells (cZ l2) o2)) = true) :
    callA (fnI pr np) 118 [.agg (r.map (C.int .i64) ++ [C.sl j 0 n0 2]), .c (.sl i 0 2 1)] H base = some (.agg (r.map (C.int .i64) ++ [C.sl base 0 (n + n2) 2]), [.cells (cZ (l ++ l2)) true], [(j, .cells (cZ l) o), (i, .cells [.sl j 0 n 2, .sl k 0 n2 2] true), (k, .cells (cZ l2) o2)]) := by
  subst hnl; subst hn2
  have hj : H j = some (Blk.cells (cZ l) o) := by simpa using hj
  have hi : H i = some (Blk.cells [.sl j 0 l.length 2, .sl k 0 l2.length 2] true) := by simpa using hi
  have hk : H k = some (Blk.cells (cZ l2) o2) := by simpa using hk
  have hji : j ≠ i := by simpa using hji
  have hjk : j ≠ k := by simpa using hjk
  have hik : i ≠ k := by simpa using hik
  have hij : ¬ i = j := fun e => hji e.symm
  have hkj : ¬ k = j := fun e => hjk e.symm
  have hki : ¬ k = i := fun e => hik e.symm
  have h := callA_gen (F := fnI pr np) (f := 118) (args := [.agg (r.map (C.int .i64) ++ [C.sl j 0 n0 2]), .c (.sl i 0 2 1)]) (H := H) (L := [j, i, k]) (by simp [reach, idsAt, hj, hi, hk, hji, hij, hkj, hki, cids_app]) (by simp [closed, hj, hi, hk, idsAt, inL, cids_app]) (show sub [j, i, k] H = [.cells (cZ l) o, .cells [.sl 0 0 l.length 2, .sl 2 0 l2.length 2] true, .cells (cZ l2) o2] by simp [sub, hj, hi, hk, pos, hji, hjk, hik, hij, hkj, hki]) (show _ = [repV r 0 n0, .c (.sl 1 0 2 1)] by simp [pos, repV, hji, cmp_app]) (c_impl_with2 r hr l l2 n0 hl hl2 h0 o o2) (by simp) base
  rw [h]
  simp [repV, back, cmp_app]
set_option maxHeartbeats 4000000 in
theorem c_impl_AddPour (r : List Int) (hr : r.length = 24) (l : List (Int × Int)) (hl : l.length ≤ 1048576) (o : Bool) (p : Int × Int) : fnI pr np 26 [repV r 0 l.length, .agg [.int .i64 p.1, .int .i64 p.2]] [.cells (cZ l) o] = some (backV (adR r l p) (adL r l p) (adB r l p), [.cells (cZ l) o, .cells (cZ (adL r l p)) true]) := by
  have t2 := repC_drop hr (C.sl 0 0 l.length 2)
  have t3 := fun i n => repC_all hr (C.sl i 0 n 2)
  have e2 : cZ [p] = [C.int .i64 p.1, C.int .i64 p.2] := rfl
  have hw := call_with2 hr (l := l) (l2 := [p]) (n0 := l.length) (n := l.length) (n2 := 1) rfl rfl hl (by simp) (by simp) o true 0 6 5
  rw [e2] at hw
  have h1 := c_impl_IsReplay r hr (l ++ [p]) true
  rw [add_rep, show (l ++ [p]).length = l.length + 1 by simp] at h1
  have h1 := call_rep (rest := []) rfl (by simp) h1
  rw [fb (fn := a26) rfl rfl]
  unfold backV adL adR
  cases hq : adB r l p with
  | false => rw [hq] at h1; simp [a26, repV, hr, t2, t3, hw, h1, z25_eq, z25_setAll hr, setAt_all, setAt, cZ_nil, stillE, madeA, idOf, sub]
  | true => rw [hq] at h1; simp [a26, repV, hr, t2, t3, hw, h1, z25_eq, z25_setAll hr, setAt_all, setAt, cZ_nil, stillE, madeA, idOf, sub]
theorem c_law_AddPour (r : List Int) (hr : r.length = 24) (l : List (Int × Int)) (hn : l.length ≤ 9223372036854775807) (p : Int × Int) : fnI pr np 5 [repV r 0 l.length, .agg [.int .i64 p.1, .int .i64 p.2]] [.cells (cZ l) false] = some (.c (.bool true), [.cells (cZ l) false]) := by
  have hsz := call_rep (rest := [.c (.int .i64 1048576)]) rfl (by simp) (c_laws_szReplay r hr l hn false)
  have t3 := fun i => repC_all hr (C.sl i 0 l.length 2)
  rw [fb (fn := a5) rfl rfl]
  by_cases hl : l.length ≤ 1048576
  · rw [if_pos hl] at hsz
    have hneg : ¬ (1048576 - (l.length : Int)) < 0 := by omega
    have hto := call_rep (rest := []) rfl (by simp) (c_laws_toReplay r hr l hl false)
    have hta := callA_pure (c_laws_toIntA2 p.1 p.2) (by simp) (by simp)
    have h1 := call_rep (rest := [.agg [.int .i64 p.1, .int .i64 p.2]]) rfl (by simp) (c_spec_AddPour r hr l true p)
    have h2 := call_rep (rest := [.agg [.int .i64 p.1, .int .i64 p.2]]) rfl (by simp) (c_impl_AddPour r hr l hl true p)
    have heq := call_rep2 (by simp) (by simp) (c_laws_eqReplay r hr l hl true true)
    have hmr := call_repW (rest := [.c (.int .i64 1)]) rfl (by simp) (by simp [markC_ids]) (c_laws_markReplay r hr l hl)
    have hm := adL_len r l p
    have hrr := adR_len hr l p
    unfold backV at h1 h2
    generalize adL r l p = m at *
    generalize adR r l p = rr at *
    generalize adB r l p = q at *
    have e0 := call_rep2 (by simp) (by simp) (c_laws_eqReplay rr hrr m (by omega) true true)
    have k0 := call_repW (rest := [.c (.int .i64 1)]) rfl (by simp) (by simp [markC_ids]) (c_laws_markReplay rr hrr m (by omega))
    have d0 := call_repW (rest := [.c (.int .i64 1)]) rfl (by simp [markC_ids]) (by simp [markC_ids]) (c_laws_heldReplay rr hrr m.length (by omega))
    have t4 := fun i => repC_all hrr (C.sl i 0 m.length 2)
    have p1 := mk1_pos (l.length * 2)
    have p2 := mk1_pos (m.length * 2)
    simp [a5, repV, hr, hrr, t3, t4, hsz, hneg, hto, hta, h1, h2, heq, hmr, e0, k0, d0, p1, p2, z25_eq, z25_setAll hr, z25_setAll hrr, repV_mp, setAt_all, setAt, markC_ids, markC_cmp, stillE, madeA, idOf, sub]
  · rw [if_neg hl] at hsz
    simp [a5, repV, hr, t3, hsz, sub]
theorem c_laws_FnExactAddPour (r : List Int) (hr : r.length = 24) (l : List (Int × Int)) (hn : l.length ≤ 9223372036854775807) (x : List Int) (hx : x.length = 2) : fnI pr np 5 [repV r 0 l.length, .agg (x.map (C.int .i64))] [.cells (cZ l) false] = some (.c (.bool true), [.cells (cZ l) false]) := by
  match x, hx with
  | [a, b], _ => exact c_law_AddPour r hr l hn (a, b)
end Go.Proofs.Ytllabonhgkocfaa.AM
