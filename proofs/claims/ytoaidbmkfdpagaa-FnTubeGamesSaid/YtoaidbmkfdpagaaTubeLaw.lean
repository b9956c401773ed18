import Derived.Test.YtoaidbmkfdpagaaDrawPa
import Derived.Test.YtoaidbmkfdpagaaTubeP
import Derived.Test.YtoaidbmkfdpagaaParty
import Derived.Test.YtoaidbmkfdpagaaCompleteTubes
/- Law: games of tubes. -/
namespace Go.Proofs.Ytoaidbmkfdpagaa.AM
open Go
set_option maxRecDepth 1000000
set_option linter.unusedSimpArgs false
set_option linter.unusedVariables false
theorem c_laws_rHas (l : List Int) (x : Int) (hn : l.length < 1000000) : fnI pr np 65 [.c (.sl 0 0 l.length 1), .c (.int .i64 x)] [.cells (l.map (C.int .i64)) true] = some (.c (.bool (decide (x ∈ l))), [.cells (l.map (C.int .i64)) true]) := by
  obtain ⟨K, hK1, hK2, hK3⟩ := first_exit (fun k => decide (l.getD k 0 = x)) l.length
  have g : ∀ k, k < l.length → ((l.map (C.int .i64)).drop k).take 1 = [C.int .i64 (l.getD k 0)] := fun k hk => drop_take1 hk
  rw [fb (fn := a65) rfl rfl]
  simp [a65]
  rw [loop_to (fun k => ([(0, V.c (C.sl 0 0 l.length 1)), (1, V.c (C.int .i64 x)), (5, V.c (C.int .i64 k))], [Blk.cells (l.map (C.int .i64)) true])) K]
  · by_cases hk : K < l.length
    · have hx : l.getD K 0 = x := by
        rcases hK2 with h | h
        · omega
        · exact of_decide_eq_true h
      have hxe : l[K]'hk = x := by rw [← hx, List.getD_eq_getElem?_getD, List.getElem?_eq_getElem hk]; rfl
      have hm : x ∈ l := by rw [← hxe]; exact List.getElem_mem hk
      have b1 : K + 1 ≤ l.length := hk
      have gk := g K hk
      rw [hx] at gk
      simp [hk, gk, b1, hm]
    · have hm : ¬ x ∈ l := by
        intro hm
        obtain ⟨j, hj, he⟩ := List.mem_iff_getElem.1 hm
        have := of_decide_eq_false (hK3 j (by omega))
        rw [List.getD_eq_getElem?_getD, List.getElem?_eq_getElem hj] at this
        exact this he
      simp [hk, hm]
  · simp
  · intro k hk
    have hkl : k < l.length := by omega
    have hx := of_decide_eq_false (hK3 k hk)
    have hxe : ¬ l[k]'hkl = x := by
      intro e; apply hx; rw [List.getD_eq_getElem?_getD, List.getElem?_eq_getElem hkl]; exact e
    have hd : l.getD k 0 = l[k]'hkl := by rw [List.getD_eq_getElem?_getD, List.getElem?_eq_getElem hkl]; rfl
    have gk := g k hkl
    rw [hd] at gk
    have b1 : k + 1 ≤ l.length := hkl
    have wk := wrapS (k := k) (by omega)
    simp [hkl, gk, b1, wk, hxe]
theorem full_mem {r : List Int} {j : Nat} (hj : j < 6) : decide ((j : Int) ∈ fullsFrom r 0 6) = fullP (tubeAt r j) := by rw [← any_mem, fulls_has r hj]
theorem call_xslT {F : Fns} {f n z : Nat} {x : V} {b : Blk} {v : V} {ns : Heap} (hx : x.ids = []) (hbi : b.ids = []) (hF : F f [x, .c (.sl 0 0 n z)] [b] = some (v, b :: ns)) (i : Nat) (H : HF) (base : Nat) (hb : (H i == some b) = true) :
    callA F f [x, .c (.sl i 0 n z)] H base = some (v.mp (back [i] base), ns.map (Blk.mp (back [i] base)), [(i, b)]) := by
  have hb : H i = some b := by simpa using hb
  have h := callA_gen (F := F) (f := f) (args := [x, .c (.sl i 0 n z)]) (H := H) (L := [i]) (by simp [hx, reach, idsAt, hb, hbi]) (by simp [closed, hb, idsAt, hbi, inL, hx]) (show sub [i] H = [b] by simp [sub, hb, mp_ids hbi]) (show _ = [x, .c (.sl 0 0 n z)] by simp [V.mp_pure hx, pos]) hF (by simp) base
  rw [h]
  simp [mp_ids hbi]
theorem party_flat (r : List Int) (hr : r.length = 24) (P : List (Nat × Nat)) (o : Bool) : fnI pr np 55 [.agg (r.map (C.int .i64)), .c (.sl 0 0 P.length 2)] [.cells (flatC P) o] = some (ppV r (toZ P), [.cells (flatC P) o]) := by
  have := c_impl_PlayParty r hr (toZ P) o
  rwa [toZ_flat, toZ_len] at this
theorem hurtL_mem {r : List Int} {p : Nat × Nat} (h : p ∈ hurtL r) : p ∈ usefulL r ∧ hurtB (pourR r p.1 p.2) = true := by
  unfold hurtL at h
  split at h
  · unfold hurtTo at h
    rw [List.take_length] at h
    exact List.mem_filter.1 h
  · cases h
theorem flatC_onesZ (l : List (Nat × Nat)) (z : List C) {k : Nat} (h : k < l.length) : ((flatC l ++ z).drop (k * 2)).take 1 = [C.int .i64 (l[k]'h).1] ∧ ((flatC l ++ z).drop (k * 2 + 1)).take 1 = [C.int .i64 (l[k]'h).2] := by
  have e := flatC_get l z k h
  have hl : (flatC l ++ z).length = l.length * 2 + z.length := by simp [flatC_len]
  have h1 : k * 2 < (flatC l ++ z).length := by omega
  have h2 : k * 2 + 1 < (flatC l ++ z).length := by omega
  rw [List.drop_eq_getElem_cons h1, List.take_succ_cons, List.drop_eq_getElem_cons h2, List.take_succ_cons] at e
  simp only [List.take_zero, List.cons.injEq, and_true] at e
  rw [List.drop_eq_getElem_cons h1, List.drop_eq_getElem_cons h2, List.take_succ_cons, List.take_succ_cons, e.1, e.2]
  exact ⟨rfl, rfl⟩
def foundTo (r : List Int) (j : Nat) : Bool := ((usefulL r).take j).any (fullBy r)
theorem foundTo_succ (r : List Int) {j : Nat} (hj : j < (usefulL r).length) : foundTo r (j + 1) = (foundTo r j || fullBy r ((usefulL r)[j]'hj)) := by
  unfold foundTo
  rw [take_snoc hj, List.any_append]
  simp
theorem foundTo_all (r : List Int) : foundTo r (usefulL r).length = hurtB r := by unfold foundTo hurtB; rw [List.take_length]
set_option maxHeartbeats 16000000 in
theorem c_laws_FnTubeGames (bs : List Int) (hlen : bs.length ≤ 9223372036854775807) (hrg : ∀ x ∈ bs, 0 ≤ x ∧ x < 256) : fnI pr np 6 [.c (.sl 0 0 bs.length 1)] [byB bs false] = some (.c (.bool true), [byB bs false]) := by
  have hbig := call_slz (rest := []) rfl (by simp) (c_laws_rBig bs false hlen) 0
  rw [fb (fn := a6) rfl rfl]
  by_cases hB : 65536 < bs.length
  · rw [decide_eq_true hB] at hbig
    simp [a6, hbig, sub]
  rw [decide_eq_false hB] at hbig
  have hb : Bytes bs := ⟨hrg, by omega⟩
  obtain ⟨R, n, hR, hn, hD⟩ := c_spec_DrawTubeValue bs hb false
  have hD := call_slz (rest := []) rfl (by simp) hD 0
  obtain ⟨S, l, hS, hl, hD2⟩ := c_spec_DrawPlayParty bs hb false
  have hD2 := call_slz (rest := []) rfl (by simp) hD2 0
  have h24 := take24 hR
  have s24 := take24 hS
  have v1 := callA_pure (c_impl_TubeValue R hR n) (by simp) (by simp)
  have v2 := callA_pure (c_spec_TubeValue R hR n) (by simp) (by simp)
  have v3 := callA_new (c_impl_BestParty R hR n) (by simp)
  have v4 := callA_new (c_spec_BestParty R hR n) (by simp)
  have v5 := callA_new (c_impl_TubePours R hR n) (by simp)
  have v6 := callA_new (c_spec_TubePours R hR n) (by simp)
  have v7 := callA_pure (c_impl_FirstBest R hR n) (by simp) (by simp [firstV_ids])
  have v8 := callA_pure (c_spec_FirstBest R hR n) (by simp) (by simp [firstV_ids])
  have v9 := call_xslT (x := .agg (S.map (C.int .i64))) (by simp) (by simp) (c_impl_PlayParty S hS l true)
  have v10 := call_xslT (x := .agg (S.map (C.int .i64))) (by simp) (by simp) (c_spec_PlayParty S hS l true)
  have v11 := callA_new (c_impl_CompleteTubes R hR) (by simp)
  have v12 := callA_new (c_spec_CompleteTubes R hR) (by simp)
  have v13 := callA_pure (c_rack_impl R hR) (by simp) (by simp)
  have v14 := callA_new (c_impl_CanHurt R hR) (by simp)
  have v15 := callA_new (c_spec_CanHurt R hR) (by simp)
  have v16 := callA_new (c_impl_CompleteTubes S hS) (by simp)
  have hlast := ppR_len hS l
  have v17 := callA_new (c_impl_CompleteTubes _ hlast) (by simp)
  have l24 := take24 hlast
  have lcf := confT24 _ hlast
  have hpl := partyL_len R n
  have htl : (tubePL R n).length ≤ 36 := by
    unfold tubePL
    split
    · rename_i hg
      have hg' : 1 ≤ n ∧ n ≤ 3 := by
        simp only [gameB, Bool.and_eq_true] at hg
        simpa [inB] using hg.2
      obtain ⟨m, hm⟩ : ∃ m, n.toNat = m + 1 := ⟨n.toNat - 1, by omega⟩
      rw [hm]
      exact Nat.le_trans (bestL_len m R _) (usefulL_len R)
    · simp
  have hhl := hurtL_len R
  have hfl : (fulls R).length ≤ 6 := by
    unfold fulls
    split
    · exact fullsFrom_le6 R 6 0
    · simp
  have hz := hurtZ_ids R
  have hzc : ∀ g, cmp g (hurtZ R) = hurtZ R := fun g => cmp_pure hz
  have q1 := call_slz2 (by simp) (by simp) ((c_laws_rPairs (partyL R n) (by omega) [] [] rfl rfl).trans (by rw [List.append_nil]))
  have q2 := call_slz2 (by simp) (by simp) ((c_laws_rPairs (tubePL R n) (by omega) [] [] rfl rfl).trans (by rw [List.append_nil]))
  have q3 := call_slz2 (by simp) (by simp) (c_laws_rInts (fulls R) (by omega))
  have q4 := call_slz2 (by simp [cids_app, hz]) (by simp) ((c_laws_rPairs (hurtL R) (by omega) (hurtZ R) [] hz rfl).trans (by rw [List.append_nil]))
  simp only [List.append_nil] at q1 q2 q4
  unfold pairV at v3 v4 v5 v6 v14 v15
  unfold fullsV at v11 v12 v16 v17
  unfold ppV at v9 v10
  simp only [List.append_nil] at v3 v4 v5 v6 v15
  simp only [a6]
  generalize hC : (ACode.seq (ACode.seq (ACode.region (AOper.mk (some 43) none _ :: _) _) _) _) = cC
  -- the tubes that the party completes
  have hfour : ppB S l = true → IntKind.i64.wrap (((fulls (ppR S l)).length : Int) - ((fulls S).length : Int)) = IntKind.i64.wrap ((ppP S l).1 + (ppP S l).2) := by
    intro hp
    have hq : okRack S = true := by unfold ppB at hp; simp only [Bool.and_eq_true] at hp; exact hp.1
    have hk := rackOK hS hq
    have hpr : RackOK (ppR S l) := by
      unfold ppR
      rw [if_pos hp]
      obtain ⟨_, h2, _, h4⟩ := stop_spec (goAt S l) l.length 0
      exact play_rack hk l (by unfold stopK; omega) (fun j hj => h4 j (Nat.zero_le _) hj)
    have hq2 : okRack (ppR S l) = true := (rack_eq _ hpr.len).symm.trans hpr.val
    have := pts_sum (r := S) l hp
    have e1 : (fulls (ppR S l)).length = fullN (ppR S l) := by unfold fulls fullN; rw [if_pos hq2]
    have e2 : (fulls S).length = fullN S := by unfold fulls fullN; rw [if_pos hq]
    rw [e1, e2, this]
  have hfq : ppB S l = true → okRack S = true ∧ okRack (ppR S l) = true := by
    intro hp
    have hq : okRack S = true := by unfold ppB at hp; simp only [Bool.and_eq_true] at hp; exact hp.1
    have hk := rackOK hS hq
    have hpr : RackOK (ppR S l) := by
      unfold ppR
      rw [if_pos hp]
      obtain ⟨_, h2, _, h4⟩ := stop_spec (goAt S l) l.length 0
      exact play_rack hk l (by unfold stopK; omega) (fun j hj => h4 j (Nat.zero_le _) hj)
    exact ⟨hq, (rack_eq _ hpr.len).symm.trans hpr.val⟩
  cases hq : okRack R with
  | false =>
    have e1 : gameB R n 0 = false := by unfold gameB; rw [hq]; rfl
    have e2 : gameB R n 1 = false := by unfold gameB; rw [hq]; rfl
    have e3 : tubeVV R n = 0 := by unfold tubeVV; rw [e1]; rfl
    have e4 : partyL R n = [] := by unfold partyL; rw [e1]; rfl
    have e5 : tubePL R n = [] := by unfold tubePL; rw [e2]; rfl
    have e6 : hurtL R = [] := by unfold hurtL; rw [hq]; rfl
    have e7 : hurtZ R = [] := by unfold hurtZ; rw [hq]; rfl
    have e8 : fulls R = [] := by unfold fulls; rw [hq]; rfl
    have e9 : firstV [] = .tup [.agg [.int .i64 0, .int .i64 0], .c (.bool false)] := rfl
    rw [e3, e1] at v1 v2
    rw [e4, e1] at v3 v4
    rw [e5, e2] at v5 v6
    rw [e5, e9] at v7 v8
    rw [hq, e8] at v11 v12
    rw [hq] at v13
    rw [e6, e7, hq] at v14
    rw [e6, hq] at v15
    rw [e4] at q1
    rw [e5] at q2
    rw [e8] at q3
    rw [e6, e7] at q4
    simp only [List.length_nil, List.append_nil] at *
    have fin : ∀ (xs : Env) (x2 x3 x4 x5 x6 x7 x8 x9 x10 x11 x12 x13 x14 x15 : Blk) (g : Heap), leaveK 1 [RV.t 2] (exI pr np 1 cC ([(3, V.c (C.ptr 1 0)), (5, V.c (C.int .i64 0)), (6, V.c (C.bool false)), (9, V.c (C.sl 2 0 0 2)), (35, V.c (C.sl 16 0 0 2))] ++ xs) ([byB bs false, Blk.cells (R.map (C.int .i64)) true, Blk.cells [] true, x3, x4, x5, x6, x7, x8, x9, x10, x11, x12, x13, x14, x15, Blk.cells [] true] ++ g)) = some (.c (.bool true), [byB bs false]) := by
      as_aux_lemma =>
        intro xs x2 x3 x4 x5 x6 x7 x8 x9 x10 x11 x12 x13 x14 x15 g
        subst hC
        simp [sub]
        rw [loop_to (fun (k : Nat) => ([(3, V.c (C.ptr 1 0)), (5, V.c (C.int .i64 0)), (6, V.c (C.bool false)), (9, V.c (C.sl 2 0 0 2)), (35, V.c (C.sl 3 0 0 2)), (43, V.c (C.int .i64 k))], [byB bs false, Blk.cells (R.map (C.int .i64)) true, Blk.cells [] true, Blk.cells [] true])) 0]
        · simp [sub]
        · simp [sub]
        · intro k hk
          omega
    cases hp : ppB S l with
    | false =>
      rw [hp] at v9 v10
      simp [hbig, hD, hD2, hR, hS, h24, s24, v1, v2, v3, v4, v5, v6, v7, v8, v9, v10, v11, v12, v13, v14, v15, q1, q2, q3, q4, hlast, l24, lcf, flatC_nil, conf, conf1, setAt_all, setAt, sub, cids_app, cmp_app]
      exact fin [(304, V.c (C.bool false))] (.dead) _ _ _ _ _ _ _ _ _ _ _ _ _ _
    | true =>
      rw [hp] at v9 v10
      obtain ⟨o1, o2⟩ := hfq hp
      rw [o1] at v16
      rw [o2] at v17
      have hf4 := hfour hp
      simp [hbig, hD, hD2, hR, hS, h24, s24, v1, v2, v3, v4, v5, v6, v7, v8, v9, v10, v11, v12, v13, v14, v15, v16, v17, hf4, q1, q2, q3, q4, hlast, l24, lcf, flatC_nil, conf, conf1, setAt_all, setAt, sub, cids_app, cmp_app]
      exact fin [(304, V.c (C.bool false))] (.dead) _ _ _ _ _ _ _ _ _ _ _ _ _ _
  | true =>
    have h := rackOK hR hq
    have e8 : fulls R = fullsFrom R 0 6 := by unfold fulls; rw [if_pos hq]
    have hmemH := fun (k : Nat) (hk : k < (hurtL R).length) => hurtL_mem (List.getElem_mem (l := hurtL R) hk)
    have hgH := fun (k : Nat) (hk : k < (hurtL R).length) => flatC_onesZ (hurtL R) (hurtZ R) hk
    have hP := fun (hg : gameB R n 0 = true) => party_play h hg
    have hpty := call_xslT (x := .agg (R.map (C.int .i64))) (by simp) (by simp [flatC_ids]) (party_flat R hR (partyL R n) true)
    unfold ppV at hpty
    have hpR := ppR_len hR (toZ (partyL R n))
    have p24 := take24 hpR
    have htv : gameB R n 0 = true → tubeVV R n = tubeV n.toNat R ∧ -3 ≤ tubeVV R n ∧ tubeVV R n ≤ n := by
      intro hg
      have e : tubeVV R n = tubeV n.toNat R := by unfold tubeVV; rw [if_pos hg]
      have h0 : 0 ≤ n ∧ n ≤ 3 := by
        simp only [gameB, Bool.and_eq_true] at hg
        simpa [inB] using hg.2
      have := tubeV_le n.toNat R h
      exact ⟨e, by omega, by omega⟩
    rw [hq] at v11 v12 v13 v14 v15
    have fin : ∀ (xs : Env) (x3 x4 x5 x6 x7 x8 x9 x10 x11 x12 x13 x14 x15 : Blk) (g : Heap), leaveK 1 [RV.t 2] (exI pr np 1 cC ([(3, V.c (C.ptr 1 0)), (5, V.c (C.int .i64 (tubeVV R n))), (6, V.c (C.bool (gameB R n 0))), (9, V.c (C.sl 2 0 (partyL R n).length 2)), (35, V.c (C.sl 16 0 (hurtL R).length 2))] ++ xs) ([byB bs false, Blk.cells (R.map (C.int .i64)) true, Blk.cells (flatC (partyL R n)) true, x3, x4, x5, x6, x7, x8, x9, x10, x11, x12, x13, x14, x15, Blk.cells (flatC (hurtL R) ++ hurtZ R) true] ++ g)) = some (.c (.bool true), [byB bs false]) := by
      intro xs x3 x4 x5 x6 x7 x8 x9 x10 x11 x12 x13 x14 x15 g
      subst hC
      generalize hurtL R = H at *
      generalize hurtZ R = Z at *
      simp [sub]
      rw [loop_to (fun (k : Nat) => ([(3, V.c (C.ptr 1 0)), (5, V.c (C.int .i64 (tubeVV R n))), (6, V.c (C.bool (gameB R n 0))), (9, V.c (C.sl 2 0 (partyL R n).length 2)), (35, V.c (C.sl 3 0 H.length 2)), (43, V.c (C.int .i64 k))], [byB bs false, Blk.cells (R.map (C.int .i64)) true, Blk.cells (flatC (partyL R n)) true, Blk.cells (flatC H ++ Z) true])) H.length]
      · cases hg : gameB R n 0 with
        | false => simp [sub]
        | true =>
          obtain ⟨p1, p2, p3, p4⟩ := hP hg
          obtain ⟨w1, w2, w3⟩ := htv hg
          rw [p1, p2] at hpty
          have wd : IntKind.i64.wrap ((ppP R (toZ (partyL R n))).1 - (ppP R (toZ (partyL R n))).2) = tubeVV R n := by
            rw [p3, ← w1]
            exact wrapI (by omega) (by omega)
          simp [hR, h24, hpty, hpR, p24, wd, setAt_all, setAt, flatC_ids, sub]
      · simp [flatC_ids, cids_app, cmp_app, hz, hzc, sub]
      · intro k hk
        have hk' : (k : Int) < (H.length : Int) := by omega
        have wk := wrapS (k := k) (by omega)
        obtain ⟨hu, hhb⟩ := hmemH k hk
        obtain ⟨ga, gb⟩ := hgH k hk
        have hPo := callA_pure ((c_impl_Pour R hR (H[k]'hk).1 (H[k]'hk).2).trans (by rw [pV_useful hq hu])) (by simp) (by simp)
        obtain ⟨_, _, hnx⟩ := useful_pour h hu
        have b1 : k * 2 + 1 ≤ H.length * 2 + Z.length := by omega
        have b2 : k * 2 + 1 + 1 ≤ H.length * 2 + Z.length := by omega
        have b3 : k * 2 + 2 ≤ H.length * 2 := by omega
        have b4 : k * 2 + 1 ≤ H.length * 2 := by omega
        have b5 : k * 2 + 1 + 1 ≤ H.length * 2 := by omega
        generalize pourR R (H[k]'hk).1 (H[k]'hk).2 = nx at *
        generalize H[k]'hk = pq at *
        have hnl := hnx.len
        have n24 := take24 hnl
        have hnq : okRack nx = true := (rack_eq _ hnl).symm.trans hnx.val
        have hfn : fulls nx = fullsFrom nx 0 6 := by unfold fulls; rw [if_pos hnq]
        have hCb := callA_new (c_impl_CompleteTubes nx hnl) (by simp)
        unfold fullsV at hCb
        rw [hnq, hfn] at hCb
        have hU := callA_new (c_impl_UsefulPours nx hnx) (by simp)
        have hUl := usefulL_len nx
        have hf6 := fullsFrom_le6 nx 6 0
        simp [hk, hk', ga, gb, hPo, hCb, hU, hR, h24, hnl, n24, b1, b2, b3, b4, b5, flatC_len, flatC_ids, hz, hzc, setAt_all, cids_app, cmp_app, sub]
        rw [loop_to (fun (j : Nat) => ([(3, V.c (C.ptr 1 0)), (5, V.c (C.int .i64 (tubeVV R n))), (6, V.c (C.bool (gameB R n 0))), (9, V.c (C.sl 2 0 (partyL R n).length 2)), (35, V.c (C.sl 3 0 H.length 2)), (43, V.c (C.int .i64 k)), (44, V.c (C.ptr 4 0)), (46, V.c (C.bool true)), (47, V.c (C.sl 5 0 (fullsFrom nx 0 6).length 1)), (48, V.c (C.bool true)), (49, V.c (C.sl 6 0 (usefulL nx).length 2)), (50, V.c (C.bool true)), (51, V.c (C.bool (foundTo nx j))), (52, V.c (C.int .i64 j))], [byB bs false, Blk.cells (R.map (C.int .i64)) true, Blk.cells (flatC (partyL R n)) true, Blk.cells (flatC H ++ Z) true, Blk.cells (nx.map (C.int .i64)) true, Blk.cells ((fullsFrom nx 0 6).map (C.int .i64)) true, Blk.cells (flatC (usefulL nx) ++ padC nx) true])) (usefulL nx).length]
        · simp [foundTo_all, hhb, wk, flatC_ids, hz, hzc, cids_app, cmp_app, sub]
        · simp [foundTo, flatC_ids, hz, hzc, cids_app, cmp_app, sub]
        · intro j hj
          have hj' : (j : Int) < ((usefulL nx).length : Int) := by omega
          have wj := wrapS (k := j) (by omega)
          have huj := List.getElem_mem hj
          obtain ⟨f1, f2⟩ := flatC_onesZ (usefulL nx) (padC nx) hj
          have hst := foundTo_succ nx hj
          have hPj := callA_pure ((c_impl_Pour nx hnl ((usefulL nx)[j]'hj).1 ((usefulL nx)[j]'hj).2).trans (by rw [pV_useful hnq huj])) (by simp) (by simp)
          obtain ⟨i6, j6, haf⟩ := useful_pour hnx huj
          have hrb := call_slz (rest := [.c (.int .i64 (((usefulL nx)[j]'hj).2 : Int))]) rfl (by simp) ((c_laws_rHas (fullsFrom nx 0 6) ((usefulL nx)[j]'hj).2 (by omega)).trans (by rw [full_mem j6, useful_notfull huj]))
          have ha6 := fullsFrom_le6 (pourR nx ((usefulL nx)[j]'hj).1 ((usefulL nx)[j]'hj).2) 6 0
          have hra := call_slz (rest := [.c (.int .i64 (((usefulL nx)[j]'hj).2 : Int))]) rfl (by simp) ((c_laws_rHas (fullsFrom (pourR nx ((usefulL nx)[j]'hj).1 ((usefulL nx)[j]'hj).2) 0 6) ((usefulL nx)[j]'hj).2 (by omega)).trans (by rw [full_mem j6]))
          unfold fullBy at hst
          have c1 : j * 2 + 2 ≤ (usefulL nx).length * 2 + (padC nx).length := by omega
          have c2 : j * 2 + 1 ≤ (usefulL nx).length * 2 + (padC nx).length := by omega
          have c3 : j * 2 + 1 + 1 ≤ (usefulL nx).length * 2 + (padC nx).length := by omega
          generalize pourR nx ((usefulL nx)[j]'hj).1 ((usefulL nx)[j]'hj).2 = af at *
          generalize (usefulL nx)[j]'hj = pj at *
          have hal := haf.len
          have a24 := take24 hal
          have haq : okRack af = true := (rack_eq _ hal).symm.trans haf.val
          have hfa : fulls af = fullsFrom af 0 6 := by unfold fulls; rw [if_pos haq]
          have hCa := callA_new (c_impl_CompleteTubes af hal) (by simp)
          unfold fullsV at hCa
          rw [haq, hfa] at hCa
          generalize foundTo nx (j + 1) = fj' at hst ⊢
          generalize foundTo nx j = fj at hst ⊢
          generalize fullsFrom nx 0 6 = FN at hrb ⊢
          generalize fullsFrom af 0 6 = FA at hCa hra ⊢
          generalize usefulL nx = U at hj hj' f1 f2 c1 c2 c3 ⊢
          have hpc := padC_ids nx
          have hpcc : ∀ g, cmp g (padC nx) = padC nx := fun g => cmp_pure hpc
          generalize padC nx = PC at f1 f2 c1 c2 c3 hpc hpcc ⊢
          generalize tubeVV R n = tv at ⊢
          generalize gameB R n 0 = g0 at ⊢
          generalize partyL R n = P at ⊢
          cases fj with
          | true =>
            simp at hst
            simp [hj, hj', wj, f1, f2, hPj, hCa, hst, hnl, n24, hal, a24, c1, c2, c3, flatC_len, flatC_ids, hz, hzc, hpc, hpcc, setAt_all, cids_app, cmp_app, sub]
          | false =>
            rw [Bool.false_or] at hst
            rw [← hst] at hra
            simp [hj, hj', wj, f1, f2, hPj, hCa, hrb, hra, hnl, n24, hal, a24, c1, c2, c3, flatC_len, flatC_ids, hz, hzc, hpc, hpcc, setAt_all, cids_app, cmp_app, sub]
    have g1e : gameB R n 1 = false → tubePL R n = [] := fun e => by unfold tubePL; rw [e]; rfl
    have hnv : gameB R n 0 = true → ¬ n < tubeVV R n := fun hg => by have := htv hg; omega
    have hP3 : ¬ (3 : Int) < ((partyL R n).length : Int) := by
      cases hg : gameB R n 0 with
      | false =>
        have e4 : partyL R n = [] := by unfold partyL; rw [hg]; rfl
        rw [e4]; simp
      | true => have := (hP hg).2.2.2; omega
    have hP3' : ¬ 3 < (partyL R n).length := by omega
    generalize tubeVV R n = tv at *
    generalize partyL R n = P at *
    generalize hurtL R = H at *
    generalize hurtZ R = Z at *
    generalize hfe : fulls R = FR at *
    generalize tubePL R n = L at *
    generalize gameB R n 0 = g0 at *
    generalize gameB R n 1 = g1 at *
    clear hgH hmemH hP hpty htv
    cases L with
    | nil =>
      have e9 : firstV [] = .tup [.agg [.int .i64 0, .int .i64 0], .c (.bool false)] := rfl
      rw [e9] at v7 v8
      simp only [List.length_nil] at q2 v5 v6
      cases hp : ppB S l with
      | false =>
        rw [hp] at v9 v10
        cases g0 with
        | false =>
          cases g1 with
          | false =>
            as_aux_lemma =>
              simp [hbig, hD, hD2, hR, hS, h24, s24, v1, v2, v3, v4, v5, v6, v7, v8, v9, v10, v11, v12, v13, v14, v15, q1, q2, q3, q4, hP3, hP3', hz, hzc, hlast, l24, lcf, flatC_nil, flatC_ids, flatC_len, conf, conf1, setAt_all, setAt, sub, cids_app, cmp_app]
              exact fin [(304, V.c (C.bool false))] _ _ _ _ _ _ _ _ _ _ _ _ _ _
          | true =>
            as_aux_lemma =>
              simp [hbig, hD, hD2, hR, hS, h24, s24, v1, v2, v3, v4, v5, v6, v7, v8, v9, v10, v11, v12, v13, v14, v15, q1, q2, q3, q4, hP3, hP3', hz, hzc, hlast, l24, lcf, flatC_nil, flatC_ids, flatC_len, conf, conf1, setAt_all, setAt, sub, cids_app, cmp_app]
              exact fin [(304, V.c (C.bool false))] _ _ _ _ _ _ _ _ _ _ _ _ _ _
        | true =>
          have hnv := hnv rfl
          cases g1 with
          | false =>
            as_aux_lemma =>
              simp [hbig, hD, hD2, hR, hS, h24, s24, v1, v2, v3, v4, v5, v6, v7, v8, v9, v10, v11, v12, v13, v14, v15, q1, q2, q3, q4, hP3, hP3', hz, hzc, hlast, l24, lcf, flatC_nil, flatC_ids, flatC_len, conf, conf1, setAt_all, setAt, sub, cids_app, cmp_app, hnv]
              exact fin [(304, V.c (C.bool false))] _ _ _ _ _ _ _ _ _ _ _ _ _ _
          | true =>
            as_aux_lemma =>
              simp [hbig, hD, hD2, hR, hS, h24, s24, v1, v2, v3, v4, v5, v6, v7, v8, v9, v10, v11, v12, v13, v14, v15, q1, q2, q3, q4, hP3, hP3', hz, hzc, hlast, l24, lcf, flatC_nil, flatC_ids, flatC_len, conf, conf1, setAt_all, setAt, sub, cids_app, cmp_app, hnv]
              exact fin [(304, V.c (C.bool false))] _ _ _ _ _ _ _ _ _ _ _ _ _ _
      | true =>
        rw [hp] at v9 v10
        obtain ⟨o1, o2⟩ := hfq hp
        rw [o1] at v16
        rw [o2] at v17
        have hf4 := hfour hp
        cases g0 with
        | false =>
          cases g1 with
          | false =>
            as_aux_lemma =>
              simp [hbig, hD, hD2, hR, hS, h24, s24, v1, v2, v3, v4, v5, v6, v7, v8, v9, v10, v11, v12, v13, v14, v15, q1, q2, q3, q4, hP3, hP3', hz, hzc, hlast, l24, lcf, flatC_nil, flatC_ids, flatC_len, conf, conf1, setAt_all, setAt, sub, cids_app, cmp_app, v16, v17, hf4]
              exact fin [(304, V.c (C.bool false))] _ _ _ _ _ _ _ _ _ _ _ _ _ _
          | true =>
            as_aux_lemma =>
              simp [hbig, hD, hD2, hR, hS, h24, s24, v1, v2, v3, v4, v5, v6, v7, v8, v9, v10, v11, v12, v13, v14, v15, q1, q2, q3, q4, hP3, hP3', hz, hzc, hlast, l24, lcf, flatC_nil, flatC_ids, flatC_len, conf, conf1, setAt_all, setAt, sub, cids_app, cmp_app, v16, v17, hf4]
              exact fin [(304, V.c (C.bool false))] _ _ _ _ _ _ _ _ _ _ _ _ _ _
        | true =>
          have hnv := hnv rfl
          cases g1 with
          | false =>
            as_aux_lemma =>
              simp [hbig, hD, hD2, hR, hS, h24, s24, v1, v2, v3, v4, v5, v6, v7, v8, v9, v10, v11, v12, v13, v14, v15, q1, q2, q3, q4, hP3, hP3', hz, hzc, hlast, l24, lcf, flatC_nil, flatC_ids, flatC_len, conf, conf1, setAt_all, setAt, sub, cids_app, cmp_app, v16, v17, hf4, hnv]
              exact fin [(304, V.c (C.bool false))] _ _ _ _ _ _ _ _ _ _ _ _ _ _
          | true =>
            as_aux_lemma =>
              simp [hbig, hD, hD2, hR, hS, h24, s24, v1, v2, v3, v4, v5, v6, v7, v8, v9, v10, v11, v12, v13, v14, v15, q1, q2, q3, q4, hP3, hP3', hz, hzc, hlast, l24, lcf, flatC_nil, flatC_ids, flatC_len, conf, conf1, setAt_all, setAt, sub, cids_app, cmp_app, v16, v17, hf4, hnv]
              exact fin [(304, V.c (C.bool false))] _ _ _ _ _ _ _ _ _ _ _ _ _ _
    | cons p L =>
      have e9 : firstV (p :: L) = .tup [.agg [.int .i64 p.1, .int .i64 p.2], .c (.bool true)] := rfl
      rw [e9] at v7 v8
      have hg1 : g1 = true := by
        cases g1 with
        | false => have := g1e rfl; cases this
        | true => rfl
      subst hg1
      have hhd := flatC_head p L
      have hL0 : (0 : Int) < ((p :: L).length : Int) := by rw [List.length_cons]; omega
      have hL0' : 0 < (p :: L).length := by simp
      have hL2 : 2 ≤ (p :: L).length * 2 := by omega
      have hLl : (flatC (p :: L)).length = (p :: L).length * 2 := flatC_len _
      have hLi := flatC_ids (p :: L)
      have hLc : ∀ g, cmp g (flatC (p :: L)) = flatC (p :: L) := fun g => cmp_pure hLi
      generalize flatC (p :: L) = FL at *
      generalize (p :: L).length = LL at *
      cases hp : ppB S l with
      | false =>
        rw [hp] at v9 v10
        cases g0 with
        | false =>
          as_aux_lemma =>
            simp [hbig, hD, hD2, hR, hS, h24, s24, v1, v2, v3, v4, v5, v6, v7, v8, v9, v10, v11, v12, v13, v14, v15, q1, q2, q3, q4, hP3, hP3', hz, hzc, hlast, l24, lcf, flatC_nil, flatC_ids, flatC_len, conf, conf1, setAt_all, setAt, sub, cids_app, cmp_app, hhd, hL0, hL0', hL2, hLl, hLi, hLc]
            exact fin [(304, V.c (C.bool false))] _ _ _ _ _ _ _ _ _ _ _ _ _ _
        | true =>
          have hnv := hnv rfl
          as_aux_lemma =>
            simp [hbig, hD, hD2, hR, hS, h24, s24, v1, v2, v3, v4, v5, v6, v7, v8, v9, v10, v11, v12, v13, v14, v15, q1, q2, q3, q4, hP3, hP3', hz, hzc, hlast, l24, lcf, flatC_nil, flatC_ids, flatC_len, conf, conf1, setAt_all, setAt, sub, cids_app, cmp_app, hhd, hL0, hL0', hL2, hLl, hLi, hLc, hnv]
            exact fin [(304, V.c (C.bool false))] _ _ _ _ _ _ _ _ _ _ _ _ _ _
      | true =>
        rw [hp] at v9 v10
        obtain ⟨o1, o2⟩ := hfq hp
        rw [o1] at v16
        rw [o2] at v17
        have hf4 := hfour hp
        cases g0 with
        | false =>
          as_aux_lemma =>
            simp [hbig, hD, hD2, hR, hS, h24, s24, v1, v2, v3, v4, v5, v6, v7, v8, v9, v10, v11, v12, v13, v14, v15, q1, q2, q3, q4, hP3, hP3', hz, hzc, hlast, l24, lcf, flatC_nil, flatC_ids, flatC_len, conf, conf1, setAt_all, setAt, sub, cids_app, cmp_app, v16, v17, hf4, hhd, hL0, hL0', hL2, hLl, hLi, hLc]
            exact fin [(304, V.c (C.bool false))] _ _ _ _ _ _ _ _ _ _ _ _ _ _
        | true =>
          have hnv := hnv rfl
          as_aux_lemma =>
            simp [hbig, hD, hD2, hR, hS, h24, s24, v1, v2, v3, v4, v5, v6, v7, v8, v9, v10, v11, v12, v13, v14, v15, q1, q2, q3, q4, hP3, hP3', hz, hzc, hlast, l24, lcf, flatC_nil, flatC_ids, flatC_len, conf, conf1, setAt_all, setAt, sub, cids_app, cmp_app, v16, v17, hf4, hhd, hL0, hL0', hL2, hLl, hLi, hLc, hnv]
            exact fin [(304, V.c (C.bool false))] _ _ _ _ _ _ _ _ _ _ _ _ _ _
end Go.Proofs.Ytoaidbmkfdpagaa.AM
