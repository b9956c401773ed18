import Derived.Test.YtoaidbmkfdpagaaUndo
/- Contracts: pours that are idle or not possible left out. -/
namespace Go.Proofs.Ytoaidbmkfdpagaa.AM
open Go
set_option maxRecDepth 1000000
set_option linter.unusedSimpArgs false
set_option linter.unusedVariables false
def dpL (r : List Int) (l : List (Int × Int)) : List (Int × Int) := if repB r l = true then (dropF r l).2 else []
def dpR (r : List Int) (l : List (Int × Int)) : List Int := if repB r l = true then r else List.replicate 24 0
theorem dpR_len {r : List Int} (hr : r.length = 24) (l : List (Int × Int)) : (dpR r l).length = 24 := by
  unfold dpR; split
  · exact hr
  · simp
theorem dpL_len {r : List Int} (hr : r.length = 24) (l : List (Int × Int)) : (dpL r l).length ≤ 60 := by
  unfold dpL
  split
  · rename_i h
    obtain ⟨_, h2, _⟩ := repB_facts hr h
    exact Nat.le_trans (dropF_len r l) h2
  · simp
set_option maxHeartbeats 4000000 in
theorem c_spec_DropIdle (r : List Int) (hr : r.length = 24) (l : List (Int × Int)) (o : Bool) : fnI pr np 39 [repV r 0 l.length] [.cells (cZ l) o] = some (backV (dpR r l) (dpL r l) (repB r l), [.cells (cZ l) o, .cells (cZ (dpL r l)) true]) := by
  have h1 := call_rep (rest := []) rfl (by simp) (c_spec_IsReplay r hr l o)
  have t1 := repC_take hr (C.sl 0 0 l.length 2)
  have t2 := repC_drop hr (C.sl 0 0 l.length 2)
  have t3 := fun i n => repC_all hr (C.sl i 0 n 2)
  rw [fb (fn := a39) rfl rfl]
  unfold backV dpL dpR
  cases hq : repB r l with
  | false => rw [hq] at h1; simp [a39, repV, hr, t3, h1, z25_eq, setAt_all, cZ_nil, sub]
  | true =>
    rw [hq] at h1
    obtain ⟨h, hl, _⟩ := repB_facts hr hq
    have h24 := take24 hr
    have hcut := call_rep (rest := [.c (.int .i64 (0 : Nat))]) rfl (by simp) (c_spec_l11Cut r hr l (by omega) 0 (by omega) o)
    rw [show ((0 : Nat) : Int) = 0 from rfl] at hcut
    simp [a39, repV, hr, t1, t2, t3, h24, h1, hcut, z25_eq, z25_setAll hr, setAt_all, idOf, stillE, madeA, cZ_nil]
    rw [loop_to (fun k => ([(1, V.c (C.ptr 1 0)), (2, V.c (C.ptr 2 0)), (4, V.c (C.ptr 3 0)), (5, V.c (C.ptr 4 0)), (6, V.c (C.int .i64 k))], [Blk.cells (cZ l) o, Blk.cells (r.map (C.int .i64) ++ [C.sl 0 0 l.length 2]) true, Blk.cells (z25 5) true, Blk.cells (r.map (C.int .i64) ++ [C.sl 6 0 (dropF r (l.take k)).2.length 2]) true, Blk.cells ((dropF r (l.take k)).1.map (C.int .i64)) true, Blk.cells [] true, Blk.cells (cZ (dropF r (l.take k)).2) true])) l.length]
    · have t4 := repC_all hr (C.sl 6 0 (dropF r l).2.length 2)
      simp [hr, t2, t4, z25_setAll hr, sub]
    · simp [dropF, cZ_nil, sub]
    · intro k hkl
      have hro := dropF_ok h (l.take k)
      have hc := callA_pure (c_spec_l6Can _ hro (l[k]'hkl)) (by simp) (by simp)
      have hrl := hro.len
      have hr24 := take24 hrl
      have g := cZ_get l hkl
      have b1 : k * 2 + 2 ≤ l.length * 2 := by omega
      have wk := wrapS (k := k) (by omega)
      have hdl : (dropF r (l.take k)).2.length ≤ 60 := Nat.le_trans (dropF_len r _) (by simp; omega)
      have hroom : (dropF r (l.take k)).2.length + 1 ≤ 68719476736 := by omega
      have hst := dropF_succ r hkl
      have htk := cZ_take (dropF r (l.take k)).2
      have t5 := fun i n => repC_drop hr (C.sl i 0 n 2)
      have t6 := fun i n d => repC_set hr (C.sl i 0 n 2) d
      unfold dropStep at hst
      generalize dropF r (l.take (k + 1)) = s' at *
      generalize dropF r (l.take k) = s at *
      cases hq1 : canZ s.1 (l[k]'hkl) with
      | false =>
        rw [hq1] at hc
        rw [if_neg (by rw [hq1]; simp)] at hst
        subst hst
        simp [hkl, hr, t2, hrl, hr24, g, b1, wk, hc, setAt_all, setAt, sub]
      | true =>
        rw [hq1] at hc
        obtain ⟨i, j, ei, ej, hi, hj, hcan, ti, tj⟩ := canZ_facts hq1
        have hid := callA_pure (c_spec_l2Idle _ hro hi hj) (by simp) (by simp)
        have hie : idleZ s.1 (l[k]'hkl) = idleP s.1 i j := by unfold idleZ; rw [ti, tj]
        rw [hie] at hst
        rw [ei, ej] at g hc
        cases hq2 : idleP s.1 i j with
        | true =>
          rw [hq2] at hid
          rw [if_neg (by rw [hq2]; simp)] at hst
          subst hst
          simp [hkl, hr, t2, hrl, hr24, g, b1, wk, hc, hid, setAt_all, setAt, sub]
        | false =>
          rw [hq2] at hid
          rw [if_pos ⟨hq1, hq2⟩] at hst
          have hp := callA_pure (c_spec_l2Pour _ hro hi hj) (by simp) (by simp)
          have hpz : pourZ s.1 (l[k]'hkl) = pourR s.1 i j := by unfold pourZ; rw [ti, tj]
          rw [hpz] at hst
          have hpl := pourR_len hrl i j
          have hp24 := take24 hpl
          have e1 : cZ [l[k]'hkl] = [C.int .i64 i, C.int .i64 j] := by rw [cZ_cons, ei, ej]; rfl
          subst hst
          simp [hkl, hr, t2, t5, t6, hrl, hr24, g, b1, wk, hc, hid, hp, hpl, hp24, hroom, htk, cZ_app, e1, setAt_all, setAt, sub]
set_option maxHeartbeats 4000000 in
theorem c_impl_DropIdle (r : List Int) (hr : r.length = 24) (l : List (Int × Int)) (o : Bool) : fnI pr np 38 [repV r 0 l.length] [.cells (cZ l) o] = some (backV (dpR r l) (dpL r l) (repB r l), [.cells (cZ l) o, .cells (cZ (dpL r l)) true]) := by
  have h1 := call_rep (rest := []) rfl (by simp) (c_impl_IsReplay r hr l o)
  have t1 := repC_take hr (C.sl 0 0 l.length 2)
  have t2 := repC_drop hr (C.sl 0 0 l.length 2)
  have t3 := fun i n => repC_all hr (C.sl i 0 n 2)
  rw [fb (fn := a38) rfl rfl]
  unfold backV dpL dpR
  cases hq : repB r l with
  | false => rw [hq] at h1; simp [a38, repV, hr, t3, h1, z25_eq, setAt_all, cZ_nil, sub]
  | true =>
    rw [hq] at h1
    obtain ⟨h, hl, _⟩ := repB_facts hr hq
    have h24 := take24 hr
    simp [a38, repV, hr, t1, t2, t3, h24, h1, z25_eq, z25_set hr, z25_setAll hr, setAt_all, idOf, stillE, madeA]
    rw [loop_to (fun k => ([(2, V.c (C.ptr 1 0)), (4, V.c (C.ptr 2 0)), (5, V.c (C.ptr 3 0)), (18, V.c (C.sl 0 0 l.length 2)), (19, V.c (C.int .i64 l.length)), (20, V.c (C.int .i64 k))], [Blk.cells (cZ l) o, Blk.cells (z25 4) true, Blk.cells (r.map (C.int .i64) ++ [C.sl 5 0 (dropF r (l.take k)).2.length 2]) true, Blk.cells ((dropF r (l.take k)).1.map (C.int .i64)) true, Blk.cells [] true, Blk.cells (cZ (dropF r (l.take k)).2) true])) l.length]
    · have t4 := repC_all hr (C.sl 5 0 (dropF r l).2.length 2)
      simp [hr, t2, t4, z25_setAll hr, sub]
    · simp [dropF, cZ_nil, sub]
    · intro k hkl
      have hro := dropF_ok h (l.take k)
      have hc := callA_pure (c_impl_canPourPath _ hro (l[k]'hkl)) (by simp) (by simp)
      have hrl := hro.len
      have hr24 := take24 hrl
      have g := cZ_get l hkl
      have b1 : k * 2 + 2 ≤ l.length * 2 := by omega
      have wk := wrapS (k := k) (by omega)
      have hdl : (dropF r (l.take k)).2.length ≤ 60 := Nat.le_trans (dropF_len r _) (by simp; omega)
      have hroom : (dropF r (l.take k)).2.length + 1 ≤ 68719476736 := by omega
      have hst := dropF_succ r hkl
      have htk := cZ_take (dropF r (l.take k)).2
      have t5 := fun i n => repC_drop hr (C.sl i 0 n 2)
      have t6 := fun i n d => repC_set hr (C.sl i 0 n 2) d
      unfold dropStep at hst
      generalize dropF r (l.take (k + 1)) = s' at *
      generalize dropF r (l.take k) = s at *
      cases hq1 : canZ s.1 (l[k]'hkl) with
      | false =>
        rw [hq1] at hc
        rw [if_neg (by rw [hq1]; simp)] at hst
        subst hst
        simp [hkl, hr, t2, hrl, hr24, g, b1, wk, hc, setAt_all, setAt, sub]
      | true =>
        rw [hq1] at hc
        obtain ⟨i, j, ei, ej, hi, hj, hcan, ti, tj⟩ := canZ_facts hq1
        have hid := callA_pure (c_impl_isIdle _ hro hi hj) (by simp) (by simp)
        have hie : idleZ s.1 (l[k]'hkl) = idleP s.1 i j := by unfold idleZ; rw [ti, tj]
        rw [hie] at hst
        rw [ei, ej] at g hc
        cases hq2 : idleP s.1 i j with
        | true =>
          rw [hq2] at hid
          rw [if_neg (by rw [hq2]; simp)] at hst
          subst hst
          simp [hkl, hr, t2, hrl, hr24, g, b1, wk, hc, hid, setAt_all, setAt, sub]
        | false =>
          rw [hq2] at hid
          rw [if_pos ⟨hq1, hq2⟩] at hst
          have hp := callA_pure (c_impl_pour _ hro hi hj) (by simp) (by simp)
          have hpz : pourZ s.1 (l[k]'hkl) = pourR s.1 i j := by unfold pourZ; rw [ti, tj]
          rw [hpz] at hst
          have hpl := pourR_len hrl i j
          have hp24 := take24 hpl
          have e1 : cZ [l[k]'hkl] = [C.int .i64 i, C.int .i64 j] := by rw [cZ_cons, ei, ej]; rfl
          subst hst
          simp [hkl, hr, t2, t5, t6, hrl, hr24, g, b1, wk, hc, hid, hp, hpl, hp24, hroom, htk, cZ_app, e1, setAt_all, setAt, sub]
end Go.Proofs.Ytoaidbmkfdpagaa.AM
