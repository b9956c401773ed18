import Derived.Test.YtoaidbmkfdpagaaDrawRep
import Derived.Test.YtoaidbmkfdpagaaEndG
import Derived.Test.YtoaidbmkfdpagaaBndP
/- Law: cuts of replays. -/
namespace Go.Proofs.Ytoaidbmkfdpagaa.AM
open Go
set_option maxRecDepth 1000000
set_option linter.unusedSimpArgs false
set_option linter.unusedVariables false
/-- a call with the cursor that leaves one block more -/
theorem call_curN {F : Fns} {f n p p' : Nat} {s s' : Int} {bs : List Int} {o : Bool} {rest : List V} {v : V} {ns : Heap} (hre : rest.flatMap V.ids = []) (hF : F f (.c (.ptr 0 0) :: rest) [curB 1 n p s, byB bs o] = some (v, curB 1 n p' s' :: byB bs o :: ns)) (i j : Nat) (H : HF) (base : Nat) (hij : (i != j) = true) (hi : (H i == some (curB j n p s)) = true) (hj : (H j == some (byB bs o)) = true) :
    callA F f (.c (.ptr i 0) :: rest) H base = some (v.mp (back [i, j] base), ns.map (Blk.mp (back [i, j] base)), [(i, curB j n p' s'), (j, byB bs o)]) := by
  have hi : H i = some (curB j n p s) := by simpa using hi
  have hj : H j = some (byB bs o) := by simpa using hj
  have hij : i ≠ j := by simpa using hij
  have hji : ¬ j = i := fun e => hij e.symm
  have h := callA_gen (F := F) (f := f) (args := .c (.ptr i 0) :: rest) (H := H) (L := [i, j]) (by simp [hre, reach, idsAt, hi, hj, hji]) (by simp [closed, hi, hj, idsAt, inL, hre]) (show sub [i, j] H = [curB 1 n p s, byB bs o] by simp [sub, hi, hj, pos, hij]) (show (V.c (.ptr i 0) :: rest).map (V.mp (pos [i, j])) = .c (.ptr 0 0) :: rest by rw [List.map_cons, mps_pure hre]; simp [pos]) hF (by simp) base
  rw [h]
  simp [back]
theorem c_spec_DrawIsReplay (bs : List Int) (hb : Bytes bs) (o : Bool) : ∃ (R : List Int) (l : List (Int × Int)), R.length = 24 ∧ l.length ≤ 60 ∧ fnI pr np 120 [.c (.sl 0 0 bs.length 1)] [byB bs o] = some (repV R 1 l.length, [byB bs o, .cells (cZ l) true]) := by
  obtain ⟨R, l, p1, s1, hR, hl, hp1, hF⟩ := c_replay bs hb o 0 (by omega) 0
  have g1 := call_curN (rest := []) rfl hF 4 0
  refine ⟨R, l, hR, hl, ?_⟩
  rw [fb (fn := a120) rfl rfl]
  have hc : Blk.cells [C.sl 0 0 bs.length 1, C.int .i64 0, C.int .u64 0] true = curB 0 bs.length 0 0 := rfl
  have t3 := fun i n => repC_all hR (C.sl i 0 n 2)
  simp [a120, g1, hc, hR, t3, z25_eq, z25_setAll hR, repV, back, sub, cids_app, cmp_app]
theorem c_spec_DrawCutLoops (bs : List Int) (hb : Bytes bs) (o : Bool) : ∃ (R : List Int) (l : List (Int × Int)), R.length = 24 ∧ l.length ≤ 60 ∧ fnI pr np 30 [.c (.sl 0 0 bs.length 1)] [byB bs o] = some (repV R 1 l.length, [byB bs o, .cells (cZ l) true]) := by
  obtain ⟨R, l, hR, hl, hF⟩ := c_spec_DrawIsReplay bs hb o
  have g1 := call_slz (rest := []) rfl (by simp) hF 0
  refine ⟨R, l, hR, hl, ?_⟩
  rw [fb (fn := a30) rfl rfl]
  have t3 := fun i n => repC_all hR (C.sl i 0 n 2)
  simp [a30, g1, hR, t3, z25_eq, z25_setAll hR, repV, back, sub, cids_app, cmp_app]
theorem c_laws_rPairsZ (l : List (Int × Int)) (hn : l.length < 1000000) (o o' : Bool) : fnI pr np 37 [.c (.sl 0 0 l.length 2), .c (.sl 1 0 l.length 2)] [.cells (cZ l) o, .cells (cZ l) o'] = some (.c (.bool true), [.cells (cZ l) o, .cells (cZ l) o']) := by
  rw [fb (fn := a37) rfl rfl]
  simp [a37]
  rw [loop_to (fun i => ([(0, V.c (C.sl 0 0 l.length 2)), (1, V.c (C.sl 1 0 l.length 2)), (5, V.c (C.int .i64 i))], [Blk.cells (cZ l) o, Blk.cells (cZ l) o'])) l.length]
  · simp [sub]
  · simp [sub]
  · intro i hi
    have hi' : (i : Int) < (l.length : Int) := by omega
    have wi := wrapS (k := i) (by omega)
    have g1 := cZ_get l hi
    have b3 : i * 2 + 2 ≤ l.length * 2 := by omega
    generalize l[i]'hi = q at *
    simp [hi, hi', wi, g1, b3, sub, conf, conf1]
theorem c_laws_rReplay (r : List Int) (hr : r.length = 24) (l : List (Int × Int)) (hn : l.length < 1000000) (o o' : Bool) : fnI pr np 34 [repV r 0 l.length, repV r 1 l.length] [.cells (cZ l) o, .cells (cZ l) o'] = some (.c (.bool true), [.cells (cZ l) o, .cells (cZ l) o']) := by
  have hc := call_slz2 (by simp) (by simp) (c_laws_rPairsZ l hn o o') 0 1
  have t1 := fun i n => repC_take hr (C.sl i 0 n 2)
  have t2 := fun i n => repC_drop hr (C.sl i 0 n 2)
  have hcf := conf24 r hr
  rw [fb (fn := a34) rfl rfl]
  unfold repV
  simp [a34, hr, t1, t2, hc, hcf, sub, cids_app, cmp_app]
theorem rr_val {r : List Int} {l : List (Int × Int)} (h : repB r l = true) {k : Nat} (hk : k ≤ l.length) : rrV r l (k : Int) = .tup [.agg ((rackF r (l.take k)).map (C.int .i64)), .c (.bool true)] := by
  have hb : rrB r l (k : Int) = true := by unfold rrB inB; rw [h]; simp; omega
  unfold rrV rrR
  rw [hb, if_pos rfl]
  simp
set_option maxHeartbeats 16000000 in
theorem c_laws_FnReplayCuts (bs : List Int) (hlen : bs.length ≤ 9223372036854775807) (hrg : ∀ x ∈ bs, 0 ≤ x ∧ x < 256) : fnI pr np 5 [.c (.sl 0 0 bs.length 1)] [byB bs false] = some (.c (.bool true), [byB bs false]) := by
  have hbig := call_slz (rest := []) rfl (by simp) (c_laws_rBig bs false hlen) 0
  rw [fb (fn := a5) rfl rfl]
  by_cases hB : 65536 < bs.length
  · rw [decide_eq_true hB] at hbig
    simp [a5, hbig, sub]
  rw [decide_eq_false hB] at hbig
  have hb : Bytes bs := ⟨hrg, by omega⟩
  obtain ⟨r, l, hr, hl60, hD⟩ := c_spec_DrawCutLoops bs hb false
  have hD := call_slz (rest := []) rfl (by simp) hD 0
  have k1 := call_rep (rest := []) rfl (by simp) (c_impl_CutLoops r hr l true)
  have k2 := call_rep (rest := []) rfl (by simp) (c_spec_CutLoops r hr l true)
  have kI := call_rep (rest := []) rfl (by simp) (c_impl_IsReplay r hr l true)
  have k3 := call_rep (rest := []) rfl (by simp) (c_impl_LoopsOf r hr l true)
  have k4 := call_rep (rest := []) rfl (by simp) (c_spec_LoopsOf r hr l true)
  have k5 := call_rep (rest := []) rfl (by simp) (c_impl_DropIdle r hr l true)
  have k6 := call_rep (rest := []) rfl (by simp) (c_spec_DropIdle r hr l true)
  have k7 := call_rep (rest := []) rfl (by simp) (c_impl_DoesSolve r hr l true)
  have k8 := call_rep (rest := []) rfl (by simp) (c_spec_DoesSolve r hr l true)
  have k9 := call_rep (rest := []) rfl (by simp) (c_impl_CertifyReplay r hr l true)
  have k10 := call_rep (rest := []) rfl (by simp) (c_spec_CertifyReplay r hr l true)
  have t1 := fun i n => repC_take hr (C.sl i 0 n 2)
  have t2 := fun i n => repC_drop hr (C.sl i 0 n 2)
  have t3 := fun i n => repC_all hr (C.sl i 0 n 2)
  cases hq : repB r l with
  | false =>
    have z24 : (List.replicate 24 (0 : Int)).length = 24 := by simp
    have e1 : clR r l = List.replicate 24 0 := by unfold clR; rw [hq]; rfl
    have e2 : clL r l = [] := by unfold clL; rw [hq]; rfl
    have e3 : loopsL r l = [] := by unfold loopsL; rw [hq]; rfl
    have e4 : dpR r l = List.replicate 24 0 := by unfold dpR; rw [hq]; rfl
    have e5 : dpL r l = [] := by unfold dpL; rw [hq]; rfl
    have e6 : solB r l = false := by unfold solB; rw [hq]; rfl
    unfold backV at k1 k2 k5 k6
    unfold lpV at k3 k4
    unfold solV at k7 k8
    unfold certV at k9 k10
    rw [e1, e2, hq] at k1 k2
    rw [e4, e5, hq] at k5 k6
    rw [e3, hq] at k3 k4
    rw [e6, hq] at k7 k8
    rw [e6] at k9 k10
    rw [hq] at kI
    simp only [Bool.false_eq_true, if_false] at k9 k10
    have q1 := call_rep2 (n := 0) (n' := 0) (by simp) (by simp) (c_laws_rReplay (List.replicate 24 0) z24 [] (by simp) true true)
    have q2 := call_slz2 (n := 0) (n' := 0) (by simp) (by simp) ((c_laws_rPairs [] (by simp) [] [] rfl rfl).trans (by rw [List.append_nil]))
    have s3 := fun i n => repC_all z24 (C.sl i 0 n 2)
    simp only [List.append_nil] at q2
    generalize List.replicate 24 (0 : Int) = Z at *
    simp [a5, hbig, hD, k1, k2, kI, k3, k4, k5, k6, k7, k8, k9, k10, q1, q2, hr, z24, t1, t2, t3, s3, z25_eq, z25_setAll hr, z25_setAll z24, repV, flatC_nil, cZ_nil, sub, cids_app, cmp_app]
  | true =>
    obtain ⟨h, _, hg⟩ := repB_facts hr hq
    obtain ⟨hcr, hck⟩ := cutR_rep hq
    have hcl := cutR_le r l
    have hsame := cutR_same r l
    have hcn := cutR_loops r l
    have hdr := dropF_rep hq
    have hdl := dropF_len r l
    have hll : (loopsA r l).length < 1000000 := by have := loopsA_len (r := r) (l := l) hl60; omega
    have e1 : clR r l = r := by unfold clR; rw [hq]; rfl
    have e2 : clL r l = cutR r l := by unfold clL; rw [hq]; rfl
    have e3 : loopsL r l = loopsA r l := by unfold loopsL; rw [hq]; rfl
    have e4 : dpR r l = r := by unfold dpR; rw [hq]; rfl
    have e5 : dpL r l = (dropF r l).2 := by unfold dpL; rw [hq]; rfl
    have e6 : solB r l = sortP (rackF r l) := by unfold solB; rw [hq]; rfl
    have e7 : solB r (cutR r l) = sortP (rackF r l) := by unfold solB; rw [hcr, hck]; rfl
    have e8 : loopsL r (cutR r l) = [] := by unfold loopsL; rw [hcr, if_pos rfl]; exact hcn
    have hcert := fun hs => cert_pos (r := r) hr (l := l) hs
    have hbn := boundN_le h
    unfold backV at k1 k2 k5 k6
    unfold lpV at k3 k4
    unfold solV at k7 k8
    unfold certV at k9 k10
    rw [e1, e2, hq] at k1 k2
    rw [e4, e5, hq] at k5 k6
    rw [e3, hq] at k3 k4
    rw [e6, hq] at k7 k8
    rw [e6] at k9 k10 hcert
    rw [hq] at kI
    have q1 := call_rep2 (by simp) (by simp) (c_laws_rReplay r hr (cutR r l) (by omega) true true)
    have q2 := call_slz2 (by simp) (by simp) ((c_laws_rPairs (loopsA r l) hll [] [] rfl rfl).trans (by rw [List.append_nil]))
    have q3 := call_rep2 (by simp) (by simp) (c_laws_rReplay r hr (dropF r l).2 (by omega) true true)
    simp only [List.append_nil] at q2
    have m1 := call_rep (rest := []) rfl (by simp) (c_impl_LoopsOf r hr (cutR r l) true)
    unfold lpV at m1
    rw [e8, hcr] at m1
    have m2 := call_rep (rest := [.c (.int .i64 (l.length : Int))]) rfl (by simp) ((c_impl_ReplayRack r hr l true l.length).trans (by rw [rr_val hq (Nat.le_refl _), List.take_length]))
    have m3 := call_rep (rest := [.c (.int .i64 ((cutR r l).length : Int))]) rfl (by simp) ((c_impl_ReplayRack r hr (cutR r l) true (cutR r l).length).trans (by rw [rr_val hcr (Nat.le_refl _), List.take_length, hck]))
    have m4 := call_rep (rest := []) rfl (by simp) (c_impl_DoesSolve r hr (cutR r l) true)
    unfold solV at m4
    rw [e7, hcr] at m4
    have m5 := call_rep (rest := []) rfl (by simp) (c_impl_IsReplay r hr (dropF r l).2 true)
    rw [hdr] at m5
    have hfl := (rackF_len hr l)
    have f24 := take24 hfl
    have hmem := fun (k : Nat) (hk : k < (loopsA r l).length) => outerTo_mem (List.getElem_mem (l := loopsA r l) hk)
    have hone := fun (k : Nat) (hk : k < (loopsA r l).length) => flatC_ones (loopsA r l) hk
    have hsame' : ((loopsA r l).length = 0 ↔ (cutR r l).length = l.length) := by rw [← hsame, List.length_eq_zero_iff]
    generalize hcc : (if sortP (rackF r l) = true then (l.length : Int) - (boundN r : Int) else 0) = cv at *
    have hcv : sortP (rackF r l) = true → ¬ cv < 0 := by
      intro hs
      have := hcert hs
      rw [← hcc, if_pos hs]
      omega
    generalize sortP (rackF r l) = sb at *
    have hcv' : (sb && decide (cv < 0)) = false := by
      cases sb with
      | false => rfl
      | true => simp [hcv rfl]
    have hcond : (((loopsA r l).length : Int) == 0) = (((cutR r l).length : Int) == (l.length : Int)) := by
      rw [Bool.eq_iff_iff, beq_iff_eq, beq_iff_eq]
      omega
    have hle : ¬ (l.length : Int) < ((cutR r l).length : Int) := by omega
    have hdl' : ((dropF r l).2.length : Int) ≤ (l.length : Int) := by omega
    have h24 := take24 hr
    generalize cutR r l = C1 at *
    generalize (dropF r l).2 = D1 at *
    generalize hLL : loopsA r l = LL at *
    generalize rackF r l = F at *
    have w3 := fun i n => repC_drop hr (C.sl i 0 n 2)
    have hconf := conf24 F hfl
    cases sb <;> simp [a5, hbig, hD, k1, k2, kI, k3, k4, k5, k6, k7, k8, k9, k10, q1, q2, q3, m1, m2, m3, m4, m5, hr, t1, t2, t3, hfl, f24, hconf, hle, hdl, hcond, hcv', hcv, z25_eq, z25_setAll hr, repV, setAt_all, flatC_nil, cZ_nil, sub, cids_app, cmp_app]
    all_goals
      rw [loop_to (fun (k : Nat) => ([(3, V.c (C.ptr 1 0)), (8, V.c (C.sl 2 0 LL.length 2)), (12, V.c (C.ptr 3 0)), (32, V.c (C.int .i64 k))], [byB bs false, Blk.cells (r.map (C.int .i64) ++ [C.sl 4 0 l.length 2]) true, Blk.cells (flatC LL) true, Blk.cells (r.map (C.int .i64) ++ [C.sl 5 0 D1.length 2]) true, Blk.cells (cZ l) true, Blk.cells (cZ D1) true])) LL.length]
      · simp [m5, hr, t2, t3, w3, hdl, hdl', repV, repC_all hr, sub, cids_app, cmp_app]
      · simp [hr, flatC_ids, sub, cids_app, cmp_app]
      · intro k hk
        have hk' : (k : Int) < (LL.length : Int) := by omega
        have wk := wrapS (k := k) (by omega)
        obtain ⟨x1, x2, x3, x4⟩ := hmem k hk
        obtain ⟨ga, gb⟩ := hone k hk
        unfold rkA at x4
        have r1 := call_rep (rest := [.c (.int .i64 ((LL[k]'hk).1 : Int))]) rfl (by simp) ((c_impl_ReplayRack r hr l true (LL[k]'hk).1).trans (by rw [rr_val hq (by omega)]))
        have r2 := call_rep (rest := [.c (.int .i64 ((LL[k]'hk).2 : Int))]) rfl (by simp) ((c_impl_ReplayRack r hr l true (LL[k]'hk).2).trans (by rw [rr_val hq (by omega), ← x4]))
        have hG := rackF_len hr (l.take (LL[k]'hk).1)
        have hG24 := take24 hG
        have hGc := conf24 _ hG
        have b1 : k * 2 + 1 ≤ LL.length * 2 := by omega
        have b2 : k * 2 + 1 + 1 ≤ LL.length * 2 := by omega
        have b3 : k * 2 + 2 ≤ LL.length * 2 := by omega
        have x2' : ¬ ((LL[k]'hk).2 : Int) ≤ ((LL[k]'hk).1 : Int) := by omega
        have x2'' : ¬ (LL[k]'hk).2 ≤ (LL[k]'hk).1 := by omega
        generalize rackF r (l.take (LL[k]'hk).1) = G at *
        generalize LL[k]'hk = pq at *
        simp [hk, hk', wk, ga, gb, r1, r2, hG, hG24, hGc, b1, b2, b3, x2', x2'', hr, t1, t2, t3, w3, repC_all hr, setAt_all, flatC_len, flatC_ids, sub, cids_app, cmp_app]
end Go.Proofs.Ytoaidbmkfdpagaa.AM
