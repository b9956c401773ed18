import Derived.Test.YthpookdfaikabaaGreatDoorDrawTR
import Derived.Test.YthpookdfaikabaaGreatDoorDrwB
import Derived.Test.YthpookdfaikabaaGreatDoorRepC
import Derived.Test.YthpookdfaikabaaGreatDoorRepC
import Derived.Test.YthpookdfaikabaaGreatDoorParB
import Derived.Test.YthpookdfaikabaaGreatDoorTxtA
import Derived.Test.YthpookdfaikabaaGreatDoorTxtA
/- Law: replays of tubes. -/
namespace Go.Proofs.YthpookdfaikabaaGreatDoor.AM
open Go
set_option maxRecDepth 1000000
set_option linter.unusedSimpArgs false
set_option linter.unusedVariables false
def ccR (r : List Int) : List Int := if okRack r = true then cntR r else [0, 0, 0, 0, 0, 0]
theorem cntR_len (r : List Int) : (cntR r).length = 6 := by
  have key : ∀ (d j : Nat) (c : List Int), c.length = 6 → (bumps r c j d).length = 6 := by
    intro d
    induction d with
    | zero => intro j c h; exact h
    | succ d ih => intro j c h; exact ih _ _ (by simp [bump, h])
  exact key 24 0 _ rfl
theorem ccR_len (r : List Int) : (ccR r).length = 6 := by
  unfold ccR
  split
  · exact cntR_len r
  · rfl
theorem c_impl_CountColors (r : List Int) (hr : r.length = 24) : fnI pr np 26 [.agg (r.map (C.int .i64))] [] = some (.tup [.agg ((ccR r).map (C.int .i64)), .c (.bool (okRack r))], []) := by
  have h24 := take24 hr
  have h1 := callA_pure (c_rack_impl r hr) (by simp) (by simp)
  rw [fb (fn := a26) rfl rfl rfl]
  unfold ccR
  cases hq : okRack r with
  | false => rw [hq] at h1; simp [a26, hr, h24, h1, setAt_all, sub]
  | true =>
    rw [hq] at h1
    have hc := callA_pure (c_impl_countColors r hr (rackOK hr hq).val) (by simp) (by simp)
    have hl := cntR_len r
    have h6 : ((cntR r).map (C.int .i64)).take 6 = (cntR r).map (C.int .i64) := List.take_of_length_le (by simp [hl])
    rw [show bumps r [0, 0, 0, 0, 0, 0] 0 24 = cntR r from rfl] at hc
    simp [a26, hr, h24, h1, hc, hl, h6, setAt_all, sub]
theorem rr_valT {r : List Int} {l : List (Int × Int)} (h : repB r l = true) {k : Nat} (hk : k ≤ l.length) : rrV r l (k : Int) = .tup [.agg ((rackF r (l.take k)).map (C.int .i64)), .c (.bool true)] := by
  have hb : rrB r l (k : Int) = true := by unfold rrB inB; rw [h]; simp; omega
  unfold rrV rrR
  rw [hb, if_pos rfl]
  simp
theorem pV_can {r : List Int} (hq : okRack r = true) {p : Int × Int} (h : canZ r p = true) : pV r p.1 p.2 = .tup [.agg ((pourZ r p).map (C.int .i64)), .c (.int .i64 (pourN r p.1.toNat p.2.toNat : Int)), .c (.bool true)] := by
  have hb : pB r p.1 p.2 = true := by
    unfold canZ at h
    simp only [Bool.and_eq_true] at h
    unfold pB
    rw [hq, h.1.1, h.1.2]
    simpa using h.2
  unfold pV pR pN
  rw [hb]
  simp [pourZ]
theorem conf6 (x : List Int) (h : x.length = 6) : conf [CK.int .i64, CK.int .i64, CK.int .i64, CK.int .i64, CK.int .i64, CK.int .i64] (x.map (C.int .i64)) = true := confT_ints 6 x h
set_option maxHeartbeats 16000000 in
theorem c_laws_FnTubeReplays (bs : List Int) (hlen : bs.length ≤ 9223372036854775807) (hrg : ∀ x ∈ bs, 0 ≤ x ∧ x < 256) : fnI pr np 3 [.c (.sl 0 0 bs.length 1)] [byB bs false] = some (.c (.bool true), [byB bs false]) := by
  have hbig := call_slz (rest := []) rfl (by simp) (c_laws_rBig bs false hlen) 0
  rw [fb (fn := a3) rfl rfl rfl]
  by_cases hB : 65536 < bs.length
  · rw [decide_eq_true hB] at hbig
    simp [a3, hbig, sub]
  rw [decide_eq_false hB] at hbig
  have hb : Bytes bs := ⟨hrg, by omega⟩
  obtain ⟨r, l, n1, hr, hl60, hn1, hD1⟩ := c_spec_DrawReplayRack bs hb false
  obtain ⟨ry, ly, x, y, hry, hly, hD2⟩ := c_spec_DrawAddPour bs hb false
  obtain ⟨rz, lz, nz, hrz, hlz, hnz, hD3⟩ := c_spec_DrawUndoPours bs hb false
  obtain ⟨t, ht, hD4⟩ := c_spec_DrawParseReplay bs hb false
  obtain ⟨rw', lw, m, hrw, hlw, hm, hD5⟩ := c_spec_DrawCanSwap bs hb false
  have hD1 := call_slz (rest := []) rfl (by simp) hD1 0
  have hD2 := call_slz (rest := []) rfl (by simp) hD2 0
  have hD3 := call_slz (rest := []) rfl (by simp) hD3 0
  have hD4 := call_slz (rest := []) rfl (by simp) hD4 0
  have hD5 := call_slz (rest := []) rfl (by simp) hD5 0
  -- racks
  have k1 := call_rep (rest := [.c (.int .i64 n1)]) rfl (by simp) (c_impl_ReplayRack r hr l true n1)
  have k2 := call_rep (rest := [.c (.int .i64 n1)]) rfl (by simp) (c_spec_ReplayRack r hr l true n1)
  have hrr := rrR_len hr l n1
  unfold rrV at k1 k2
  have hrc := conf24 _ hrr
  have hr24 := take24 hrr
  generalize rrR r l n1 = RR at *
  generalize rrB r l n1 = RB at *
  -- one pour more
  have k3 := call_rep (rest := [.agg [.int .i64 x, .int .i64 y]]) (by simp) (by simp) (c_impl_AddPour ry hry ly (by omega) true (x, y))
  have k4 := call_rep (rest := [.agg [.int .i64 x, .int .i64 y]]) (by simp) (by simp) (c_spec_AddPour ry hry ly true (x, y))
  have hal := adL_len ry ly (x, y)
  have har := adR_len hry ly (x, y)
  have q1 := call_rep2 (by simp) (by simp) (c_laws_rReplay _ har (adL ry ly (x, y)) (by omega) true true)
  have u1 := call_rep (rest := [.c (.int .i64 1)]) rfl (by simp) (c_impl_UndoPours _ har (adL ry ly (x, y)) true 1)
  have q2 := call_rep2 (by simp) (by simp) (c_laws_rReplay ry hry ly (by omega) true true)
  have ub : adB ry ly (x, y) = true → unB (adR ry ly (x, y)) (adL ry ly (x, y)) 1 = true ∧ unR (adR ry ly (x, y)) (adL ry ly (x, y)) 1 = ry ∧ unL (adR ry ly (x, y)) (adL ry ly (x, y)) 1 = ly := fun h => by
    have e1 : adR ry ly (x, y) = ry := by unfold adR; rw [if_pos h]
    have e2 : adL ry ly (x, y) = ly ++ [(x, y)] := by unfold adL; rw [if_pos h]
    rw [e1, e2]
    have e3 : unB ry (ly ++ [(x, y)]) 1 = true := by
      unfold unB inB
      rw [add_rep, h]
      simp
      omega
    refine ⟨e3, ?_, ?_⟩
    · unfold unR; rw [if_pos e3]
    · unfold unL
      rw [if_pos e3]
      simp
  unfold backV at k3 k4 u1
  generalize unB (adR ry ly (x, y)) (adL ry ly (x, y)) 1 = UB at *
  generalize unR (adR ry ly (x, y)) (adL ry ly (x, y)) 1 = UR at *
  generalize unL (adR ry ly (x, y)) (adL ry ly (x, y)) 1 = UL at *
  generalize adR ry ly (x, y) = AR at *
  generalize adL ry ly (x, y) = AL at *
  generalize adB ry ly (x, y) = AB at *
  -- pours undone
  have k5 := call_rep (rest := [.c (.int .i64 nz)]) rfl (by simp) (c_impl_UndoPours rz hrz lz true nz)
  have k6 := call_rep (rest := [.c (.int .i64 nz)]) rfl (by simp) (c_spec_UndoPours rz hrz lz true nz)
  have hul : (unL rz lz nz).length ≤ 60 := by
    unfold unL unB
    split
    · simp; omega
    · simp
  have hur := unR_len hrz lz nz
  have q3 := call_rep2 (by simp) (by simp) (c_laws_rReplay _ hur (unL rz lz nz) (by omega) true true)
  unfold backV at k5 k6
  generalize unR rz lz nz = ZR at *
  generalize unL rz lz nz = ZL at *
  generalize unB rz lz nz = ZB at *
  -- texts
  have k7 := call_rep (rest := []) rfl (by simp) (c_impl_ReplayText r hr l true)
  have k8 := call_rep (rest := []) rfl (by simp) (c_spec_ReplayText r hr l true)
  have k9 := call_rep (rest := []) rfl (by simp) (c_impl_IsReplay r hr l true)
  have h10 := c_impl_ParseReplay t (by omega)
  have h11 := c_spec_ParseReplay t (by omega)
  rw [rep_same t] at h10
  have hpr := parR_len (repS t) t
  have hpl := parL_len t
  unfold parX parV at h10 h11
  generalize parL (repS t) t = PL at *
  generalize parR (repS t) t = PR' at *
  generalize repS t = PB at *
  have k10 := callA_new h10 (by simp)
  have k11 := callA_new h11 (by simp)
  have q4 := call_rep2 (by simp) (by simp) (c_laws_rReplay PR' hpr PL (by omega) true true)
  -- layers moved, pours swapped
  have k12 := call_rep (rest := []) rfl (by simp) (c_impl_MovedLayers r hr l true)
  have k13 := call_rep (rest := []) rfl (by simp) (c_spec_MovedLayers r hr l true)
  unfold movV at k12 k13
  have k14 := call_rep (rest := [.c (.int .i64 m)]) rfl (by simp) (c_impl_CanSwap rw' hrw lw true m)
  have k15 := call_rep (rest := [.c (.int .i64 m)]) rfl (by simp) (c_spec_CanSwap rw' hrw lw true m)
  unfold cswV at k14 k15
  generalize cswA rw' lw m = CA at *
  generalize cswB rw' lw m = CB at *
  have t1 := fun i n => repC_take hr (C.sl i 0 n 2)
  have t2 := fun i n => repC_drop hr (C.sl i 0 n 2)
  have t3 := fun i n => repC_all hr (C.sl i 0 n 2)
  have ty := fun i n => repC_all hry (C.sl i 0 n 2)
  have tz := fun i n => repC_all hrz (C.sl i 0 n 2)
  have tw := fun i n => repC_all hrw (C.sl i 0 n 2)
  have ta := fun i n => repC_all har (C.sl i 0 n 2)
  have tu := fun i n => repC_all hur (C.sl i 0 n 2)
  have tp := fun i n => repC_all hpr (C.sl i 0 n 2)
  cases hq : repB r l with
  | false =>
    have e1 : txO r l = [] := by unfold txO; rw [hq]; rfl
    rw [e1, hq] at k7 k8
    rw [hq] at k9
    rw [hq] at k12 k13
    simp only [Bool.false_eq_true, if_false] at k12 k13
    cases AB with
    | false => simp [a3, hbig, hD1, hD2, hD3, hD4, hD5, k1, k2, k3, k4, k5, k6, k7, k8, k9, k10, k11, k12, k13, k14, k15, q1, q2, q3, q4, hr, hry, hrz, hrw, har, hur, hpr, hrr, hrc, hr24, t1, t2, t3, ty, tz, tw, ta, tu, tp, z25_eq, z25_setAll hr, z25_setAll hry, z25_setAll hrz, z25_setAll hrw, z25_setAll har, z25_setAll hur, z25_setAll hpr, repV, setAt_all, setAt, sub, cids_app, cmp_app]
    | true =>
      obtain ⟨rfl, rfl, rfl⟩ := ub rfl
      simp [a3, hbig, hD1, hD2, hD3, hD4, hD5, u1, q2, k1, k2, k3, k4, k5, k6, k7, k8, k9, k10, k11, k12, k13, k14, k15, q1, q2, q3, q4, hr, hry, hrz, hrw, har, hur, hpr, hrr, hrc, hr24, t1, t2, t3, ty, tz, tw, ta, tu, tp, z25_eq, z25_setAll hr, z25_setAll hry, z25_setAll hrz, z25_setAll hrw, z25_setAll har, z25_setAll hur, z25_setAll hpr, repV, setAt_all, setAt, sub, cids_app, cmp_app]
  | true =>
    obtain ⟨hro, _, hcan⟩ := repB_facts hr hq
    obtain ⟨_, _, w3, w4, w5, _, w7⟩ := tell hr hq
    have hok : okRack r = true := (rack_eq r hr).symm.trans hro.val
    have e1 : txO r l = txR r l := by unfold txO; rw [if_pos hq]
    have htl : (txR r l).length ≤ 1000 := by
      have := txK_len hr l l.length (Nat.le_refl _)
      unfold txR
      omega
    have h16 := c_impl_ParseReplay (txR r l) (by omega)
    rw [rep_same, w7] at h16
    have e2 : parR true (txR r l) = r := by unfold parR; rw [if_pos rfl, w5]
    have e3 : parL true (txR r l) = l := by unfold parL; rw [if_pos rfl, w3]
    unfold parX parV at h16
    rw [e2, e3] at h16
    have k16 := callA_new h16 (by simp)
    have q5 := call_rep2 (by simp) (by simp) (c_laws_rReplay r hr l (by omega) true true)
    have k17 := callA_pure (c_impl_CountColors r hr) (by simp) (by simp)
    have cl := ccR_len r
    have c6 : ((ccR r).map (C.int .i64)).take 6 = (ccR r).map (C.int .i64) := List.take_of_length_le (by simp [cl])
    have h24 := take24 hr
    rw [e1, hq] at k7 k8
    rw [hq] at k9
    rw [hq] at k12 k13
    rw [hok] at k17
    simp only [if_true] at k12 k13
    generalize txR r l = TX at *
    have hcl := conf6 _ cl
    cases AB with
    | false =>
      simp [a3, hbig, hD1, hD2, hD3, hD4, hD5, k16, k17, q5, cl, c6, h24, k1, k2, k3, k4, k5, k6, k7, k8, k9, k10, k11, k12, k13, k14, k15, q1, q2, q3, q4, hr, hry, hrz, hrw, har, hur, hpr, hrr, hrc, hr24, t1, t2, t3, ty, tz, tw, ta, tu, tp, z25_eq, z25_setAll hr, z25_setAll hry, z25_setAll hrz, z25_setAll hrw, z25_setAll har, z25_setAll hur, z25_setAll hpr, repV, setAt_all, setAt, sub, cids_app, cmp_app]
      rw [loop_to (fun k => ([(3, V.c (C.ptr 1 0)), (30, V.c (C.int .i64 (movedTo r l l.length))), (44, V.c (C.ptr 2 0)), (46, V.c (C.ptr 3 0)), (47, V.c (C.int .i64 (movedTo r l k))), (48, V.c (C.int .i64 k))], [byB bs false, Blk.cells (r.map (C.int .i64) ++ [C.sl 4 0 l.length 2]) true, Blk.cells ((ccR r).map (C.int .i64)) true, Blk.cells ((rackF r (l.take k)).map (C.int .i64)) true, Blk.cells (cZ l) true])) l.length]
      · simp [t2, hr, sub]
      · simp [movedTo, rackF, cl, sub, cids_app, cmp_app]
      · intro k hk
        have hkI : (k : Int) < (l.length : Int) := by omega
        have wk := wrapS (k := k) (by omega)
        have hro2 := rackF_ok hro l k (by omega) fun j hj => hcan j (by omega)
        have hok2 : okRack (rackF r (l.take k)) = true := (rack_eq _ hro2.len).symm.trans hro2.val
        have hc4 := hcan k hk
        rw [canAt_eq _ hk] at hc4
        have p0 := c_impl_Pour (rackF r (l.take k)) hro2.len (l[k]'hk).1 (l[k]'hk).2
        rw [pV_can hok2 hc4, ← rackF_succ r hk] at p0
        have p1 := callA_pure p0 (by simp) (by simp)
        have hms := movedTo_succ r l hk
        have hml := movedTo_le r l (k + 1) (by omega)
        have wm : IntKind.i64.wrap ((movedTo r l k : Int) + (pourN (rackF r (l.take k)) (l[k]'hk).1.toNat (l[k]'hk).2.toNat : Int)) = ((movedTo r l (k + 1) : Nat) : Int) := by rw [hms, Int.natCast_add]; exact wrapI (by omega) (by omega)
        obtain ⟨g1, g2⟩ := cZ_get1 l hk
        have c1 : k * 2 + 1 ≤ l.length * 2 := by omega
        have c2 : k * 2 + 1 + 1 ≤ l.length * 2 := by omega
        have c3 : k * 2 + 2 ≤ l.length * 2 := by omega
        have p2 := call_rep (rest := [.c (.int .i64 ((k : Int) + 1))]) rfl (by simp) ((c_impl_ReplayRack r hr l true ((k : Int) + 1)).trans (by rw [show ((k : Int) + 1) = ((k + 1 : Nat) : Int) from by omega, rr_valT hq (by omega)]))
        have wk2 : IntKind.i64.wrap ((k : Int) + 1) = (k : Int) + 1 := wrapI (by omega) (by omega)
        have hro3 := rackF_ok hro l (k + 1) (by omega) fun j hj => hcan j (by omega)
        have hok3 : okRack (rackF r (l.take (k + 1))) = true := (rack_eq _ hro3.len).symm.trans hro3.val
        have p3 := callA_pure (c_impl_CountColors (rackF r (l.take (k + 1))) hro3.len) (by simp) (by simp)
        have e4 : ccR (rackF r (l.take (k + 1))) = ccR r := by unfold ccR; rw [hok3, hok, if_pos rfl, if_pos rfl, cnt_path hr hq (k + 1) (by omega)]
        rw [e4, hok3] at p3
        have f2 := hro2.len
        have f3 := hro3.len
        have f24 := take24 f2
        have f34 := take24 f3
        have fc := conf24 _ f3
        generalize pourN (rackF r (l.take k)) (l[k]'hk).1.toNat (l[k]'hk).2.toNat = PN at *
        generalize movedTo r l (k + 1) = M1 at *
        generalize rackF r (l.take (k + 1)) = F1 at *
        generalize rackF r (l.take k) = F0 at *
        generalize (l[k]'hk).1 = A at *
        generalize (l[k]'hk).2 = B at *
        simp [hkI, hk, g1, g2, c1, c2, c3, p1, p2, p3, wk2, wm, f2, f3, f24, f34, fc, hr, cl, c6, hcl, t1, t2, t3, setAt_all, repV, sub, cids_app, cmp_app]
    | true =>
      obtain ⟨rfl, rfl, rfl⟩ := ub rfl
      simp [a3, hbig, hD1, hD2, hD3, hD4, hD5, u1, q2, k16, k17, q5, cl, c6, h24, k1, k2, k3, k4, k5, k6, k7, k8, k9, k10, k11, k12, k13, k14, k15, q1, q2, q3, q4, hr, hry, hrz, hrw, har, hur, hpr, hrr, hrc, hr24, t1, t2, t3, ty, tz, tw, ta, tu, tp, z25_eq, z25_setAll hr, z25_setAll hry, z25_setAll hrz, z25_setAll hrw, z25_setAll har, z25_setAll hur, z25_setAll hpr, repV, setAt_all, setAt, sub, cids_app, cmp_app]
      rw [loop_to (fun k => ([(3, V.c (C.ptr 1 0)), (30, V.c (C.int .i64 (movedTo r l l.length))), (44, V.c (C.ptr 2 0)), (46, V.c (C.ptr 3 0)), (47, V.c (C.int .i64 (movedTo r l k))), (48, V.c (C.int .i64 k))], [byB bs false, Blk.cells (r.map (C.int .i64) ++ [C.sl 4 0 l.length 2]) true, Blk.cells ((ccR r).map (C.int .i64)) true, Blk.cells ((rackF r (l.take k)).map (C.int .i64)) true, Blk.cells (cZ l) true])) l.length]
      · simp [t2, hr, sub]
      · simp [movedTo, rackF, cl, sub, cids_app, cmp_app]
      · intro k hk
        have hkI : (k : Int) < (l.length : Int) := by omega
        have wk := wrapS (k := k) (by omega)
        have hro2 := rackF_ok hro l k (by omega) fun j hj => hcan j (by omega)
        have hok2 : okRack (rackF r (l.take k)) = true := (rack_eq _ hro2.len).symm.trans hro2.val
        have hc4 := hcan k hk
        rw [canAt_eq _ hk] at hc4
        have p0 := c_impl_Pour (rackF r (l.take k)) hro2.len (l[k]'hk).1 (l[k]'hk).2
        rw [pV_can hok2 hc4, ← rackF_succ r hk] at p0
        have p1 := callA_pure p0 (by simp) (by simp)
        have hms := movedTo_succ r l hk
        have hml := movedTo_le r l (k + 1) (by omega)
        have wm : IntKind.i64.wrap ((movedTo r l k : Int) + (pourN (rackF r (l.take k)) (l[k]'hk).1.toNat (l[k]'hk).2.toNat : Int)) = ((movedTo r l (k + 1) : Nat) : Int) := by rw [hms, Int.natCast_add]; exact wrapI (by omega) (by omega)
        obtain ⟨g1, g2⟩ := cZ_get1 l hk
        have c1 : k * 2 + 1 ≤ l.length * 2 := by omega
        have c2 : k * 2 + 1 + 1 ≤ l.length * 2 := by omega
        have c3 : k * 2 + 2 ≤ l.length * 2 := by omega
        have p2 := call_rep (rest := [.c (.int .i64 ((k : Int) + 1))]) rfl (by simp) ((c_impl_ReplayRack r hr l true ((k : Int) + 1)).trans (by rw [show ((k : Int) + 1) = ((k + 1 : Nat) : Int) from by omega, rr_valT hq (by omega)]))
        have wk2 : IntKind.i64.wrap ((k : Int) + 1) = (k : Int) + 1 := wrapI (by omega) (by omega)
        have hro3 := rackF_ok hro l (k + 1) (by omega) fun j hj => hcan j (by omega)
        have hok3 : okRack (rackF r (l.take (k + 1))) = true := (rack_eq _ hro3.len).symm.trans hro3.val
        have p3 := callA_pure (c_impl_CountColors (rackF r (l.take (k + 1))) hro3.len) (by simp) (by simp)
        have e4 : ccR (rackF r (l.take (k + 1))) = ccR r := by unfold ccR; rw [hok3, hok, if_pos rfl, if_pos rfl, cnt_path hr hq (k + 1) (by omega)]
        rw [e4, hok3] at p3
        have f2 := hro2.len
        have f3 := hro3.len
        have f24 := take24 f2
        have f34 := take24 f3
        have fc := conf24 _ f3
        generalize pourN (rackF r (l.take k)) (l[k]'hk).1.toNat (l[k]'hk).2.toNat = PN at *
        generalize movedTo r l (k + 1) = M1 at *
        generalize rackF r (l.take (k + 1)) = F1 at *
        generalize rackF r (l.take k) = F0 at *
        generalize (l[k]'hk).1 = A at *
        generalize (l[k]'hk).2 = B at *
        simp [hkI, hk, g1, g2, c1, c2, c3, p1, p2, p3, wk2, wm, f2, f3, f24, f34, fc, hr, cl, c6, hcl, t1, t2, t3, setAt_all, repV, sub, cids_app, cmp_app]
end Go.Proofs.YthpookdfaikabaaGreatDoor.AM
