import Derived.Test.YtllabonhgkocfaaNear
import Derived.Test.YtllabonhgkocfaaReplies
/- Law: games to the end. -/
namespace Go.Proofs.Ytllabonhgkocfaa.AM
open Go
set_option maxRecDepth 1000000
set_option linter.unusedSimpArgs false
set_option linter.unusedVariables false
theorem place_of {i : Nat} (h : i < 6) : placeB (i : Int) = true := by
  unfold placeB
  simp
  omega
theorem pV_useful {r : List Int} (hq : okRack r = true) {p : Nat × Nat} (hp : p ∈ usefulL r) : pV r p.1 p.2 = .tup [.agg ((pourR r p.1 p.2).map (C.int .i64)), .c (.int .i64 (pourN r p.1 p.2 : Int)), .c (.bool true)] := by
  obtain ⟨h1, h2, h3⟩ := mem_usefulL hp
  have hb : pB r p.1 p.2 = true := by
    unfold pB
    rw [hq, place_of h1, place_of h2]
    simpa using h3
  unfold pV pR pN
  rw [hb]
  simp
theorem c_impl_UsefulPours (r : List Int) (h : RackOK r) : fnI pr np 64 [.agg (r.map (C.int .i64))] [] = some (.tup [.c (.sl 0 0 (usefulL r).length 2), .c (.bool true)], [.cells (flatC (usefulL r) ++ padC r) true]) := by
  have hr := h.len
  have h24 := take24 hr
  have hq : okRack r = true := (rack_eq r hr).symm.trans h.val
  have h1 := callA_pure (c_rack_impl r hr) (by simp) (by simp)
  rw [hq] at h1
  have h2 := callA_new (c_impl_useful r h) (by simp)
  rw [fb (fn := a64) rfl rfl]
  simp [a64, hr, h24, h1, h2, sub, cids_app, cmp_app]
theorem call_slz {F : Fns} {f n sz : Nat} {rest : List V} {b : Blk} {v : V} {ns : Heap} (hre : rest.flatMap V.ids = []) (hbi : b.ids = []) (hF : F f (.c (.sl 0 0 n sz) :: rest) [b] = some (v, b :: ns)) (i : Nat) (H : HF) (base : Nat) (hb : (H i == some b) = true) :
    callA F f (.c (.sl i 0 n sz) :: rest) H base = some (v.mp (back [i] base), ns.map (Blk.mp (back [i] base)), [(i, b)]) := by
  have hb : H i = some b := by simpa using hb
  exact callA_one (x := .c (.sl i 0 n sz)) hb (by simp) (by simp) hre hbi hF base
theorem call_slz2 {F : Fns} {f n n' sz : Nat} {b c : Blk} {v : V} (hbi : b.ids = []) (hci : c.ids = []) (hF : F f [.c (.sl 0 0 n sz), .c (.sl 1 0 n' sz)] [b, c] = some (v, [b, c])) (i j : Nat) (H : HF) (base : Nat) (hij : (i != j) = true) (hb : (H i == some b) = true) (hc : (H j == some c) = true) :
    callA F f [.c (.sl i 0 n sz), .c (.sl j 0 n' sz)] H base = some (v.mp (back [i, j] base), [], [(i, b), (j, c)]) := by
  have hb : H i = some b := by simpa using hb
  have hc : H j = some c := by simpa using hc
  have hij : i ≠ j := by simpa using hij
  have := callA_two (x := .c (.sl i 0 n sz)) (y := .c (.sl j 0 n' sz)) hij hb hc (by simp) (by simp) (by simp [pos]) (by simp [pos, hij]) hbi hci hF base
  exact this
theorem c_laws_rBig (bs : List Int) (o : Bool) (hn : bs.length ≤ 9223372036854775807) : fnI pr np 50 [.c (.sl 0 0 bs.length 1)] [byB bs o] = some (.c (.bool (decide (65536 < bs.length))), [byB bs o]) := by
  have e : decide ((65536 : Int) < (bs.length : Int)) = decide (65536 < bs.length) := by apply decide_eq_decide.2; omega
  rw [fb (fn := a50) rfl rfl]
  simp [a50, sub]
  omega
theorem c_laws_rPairs (l : List (Nat × Nat)) (hn : l.length < 1000000) (z z' : List C) (hz : cids z = []) (hz' : cids z' = []) : fnI pr np 56 [.c (.sl 0 0 l.length 2), .c (.sl 1 0 l.length 2)] [.cells (flatC l ++ z) true, .cells (flatC l ++ z') true] = some (.c (.bool true), [.cells (flatC l ++ z) true, .cells (flatC l ++ z') true]) := by
  have hzc : ∀ g, cmp g z = z := fun g => cmp_pure hz
  have hzc' : ∀ g, cmp g z' = z' := fun g => cmp_pure hz'
  rw [fb (fn := a56) rfl rfl]
  simp [a56]
  rw [loop_to (fun i => ([(0, V.c (C.sl 0 0 l.length 2)), (1, V.c (C.sl 1 0 l.length 2)), (5, V.c (C.int .i64 i))], [Blk.cells (flatC l ++ z) true, Blk.cells (flatC l ++ z') true])) l.length]
  · simp [sub, cids_app, cmp_app, hz, hz', hzc, hzc']
  · simp [sub, cids_app, cmp_app, hz, hz', hzc, hzc']
  · intro i hi
    have hi' : (i : Int) < (l.length : Int) := by omega
    have wi := wrapS (k := i) (by omega)
    have g1 := flatC_get l z i hi
    have g2 := flatC_get l z' i hi
    have b3 : i * 2 + 2 ≤ l.length * 2 := by omega
    have b4 : i * 2 + 2 ≤ l.length * 2 + z.length := by omega
    have b5 : i * 2 + 2 ≤ l.length * 2 + z'.length := by omega
    generalize l[i]'hi = q at *
    simp [hi, hi', wi, g1, g2, b3, b4, b5, flatC_len, sub, cids_app, cmp_app, hz, hz', hzc, hzc', conf, conf1]
theorem c_laws_rInts (l : List Int) (hn : l.length < 1000000) : fnI pr np 62 [.c (.sl 0 0 l.length 1), .c (.sl 1 0 l.length 1)] [.cells (l.map (C.int .i64)) true, .cells (l.map (C.int .i64)) true] = some (.c (.bool true), [.cells (l.map (C.int .i64)) true, .cells (l.map (C.int .i64)) true]) := by
  rw [fb (fn := a62) rfl rfl]
  simp [a62]
  rw [loop_to (fun i => ([(0, V.c (C.sl 0 0 l.length 1)), (1, V.c (C.sl 1 0 l.length 1)), (5, V.c (C.int .i64 i))], [Blk.cells (l.map (C.int .i64)) true, Blk.cells (l.map (C.int .i64)) true])) l.length]
  · simp [sub]
  · simp [sub]
  · intro i hi
    have hi' : (i : Int) < (l.length : Int) := by omega
    have wi := wrapS (k := i) (by omega)
    have g := drop_take1 hi
    have b3 : i + 1 ≤ l.length := by omega
    generalize l.getD i 0 = q at *
    simp [hi, hi', wi, g, b3, sub]
/-! ### plain laws -/
theorem endOut_all_nil {m : Nat} {r : List Int} : (usefulL r).length = 0 ↔ (endOut m r (usefulL r).length).length = 0 := by
  constructor
  · intro h
    have := endOut_len m r (usefulL r).length
    omega
  · intro h
    apply Classical.byContradiction
    intro hne
    have hpos : 0 < (usefulL r).length := by omega
    have hmem := List.getElem_mem hpos
    have hex : ∃ p ∈ usefulL r, endF m r p = endV (m + 1) r := by
      rcases bestOf_mem (endF m r) (usefulL r) (-1) with hb | ⟨p, hp, hb⟩
      · refine ⟨_, hmem, ?_⟩
        have h1 := bestOf_ge (endF m r) (usefulL r) (-1) _ hmem
        have h2 := endV_range m (pourR r ((usefulL r)[0]'hpos).1 ((usefulL r)[0]'hpos).2)
        have h3 : endF m r ((usefulL r)[0]'hpos) = -(endV m (pourR r ((usefulL r)[0]'hpos).1 ((usefulL r)[0]'hpos).2)) := rfl
        have h4 : endV (m + 1) r = bestOf (endF m r) (-1) (usefulL r) := rfl
        omega
      · exact ⟨p, hp, hb⟩
    obtain ⟨p, hp, he⟩ := hex
    have : p ∈ endOut m r (usefulL r).length := by
      unfold endOut
      rw [List.take_length]
      exact List.mem_filter.2 ⟨hp, by simpa using he⟩
    have := List.length_pos_of_mem this
    omega
theorem endOut_mem {m : Nat} {r : List Int} {p : Nat × Nat} (h : p ∈ endOut m r (usefulL r).length) : p ∈ usefulL r ∧ endF m r p = endV (m + 1) r := by
  unfold endOut at h
  rw [List.take_length] at h
  have := List.mem_filter.1 h
  exact ⟨this.1, by simpa using this.2⟩
theorem endV_lost {m : Nat} {r : List Int} (h : (usefulL r).length = 0) : endV (m + 1) r = -1 := by
  have : usefulL r = [] := List.length_eq_zero_iff.1 h
  show bestOf _ (-1) (usefulL r) = -1
  rw [this]
  rfl
set_option maxHeartbeats 8000000 in
theorem c_laws_FnEndGames (bs : List Int) (hlen : bs.length ≤ 9223372036854775807) (hrg : ∀ x ∈ bs, 0 ≤ x ∧ x < 256) : fnI pr np 10 [.c (.sl 0 0 bs.length 1)] [byB bs false] = some (.c (.bool true), [byB bs false]) := by
  have hbig := call_slz (rest := []) rfl (by simp) (c_laws_rBig bs false hlen) 0
  rw [fb (fn := a10) rfl rfl]
  by_cases hB : 65536 < bs.length
  · rw [decide_eq_true hB] at hbig
    simp [a10, hbig, sub]
  rw [decide_eq_false hB] at hbig
  have hb : Bytes bs := ⟨hrg, by omega⟩
  obtain ⟨R, n, hR, hn, hD⟩ := c_spec_DrawEndValue bs hb false
  have hD := call_slz (rest := []) rfl (by simp) hD 0
  have h24 := take24 hR
  have hE1 := callA_pure (c_impl_EndValue R hR n) (by simp) (by simp)
  have hE2 := callA_pure (c_spec_EndValue R hR n) (by simp) (by simp)
  have hP1 := callA_new (c_impl_EndPours R hR n) (by simp)
  have hP2 := callA_new (c_spec_EndPours R hR n) (by simp)
  have hL1 := callA_pure (c_impl_IsLost R hR) (by simp) (by simp)
  have hL2 := callA_pure (c_spec_IsLost R hR) (by simp) (by simp)
  have hR1 := callA_pure (c_rack_impl R hR) (by simp) (by simp)
  have hC1 := callA_new (c_impl_CountReplies R hR) (by simp)
  have hC2 := callA_new (c_spec_CountReplies R hR) (by simp)
  unfold pairV at hP1 hP2
  unfold replyV at hC1 hC2
  have hrl := repL_len R
  have hul := usefulL_len R
  have hK := call_slz2 (by simp) (by simp) (c_laws_rInts (repL R) (by omega)) 4 5
  have hz : cids (endPZ R n) = [] := by unfold endPZ; split; exact endPad_ids _ _; rfl
  have hzc : ∀ g, cmp g (endPZ R n) = endPZ R n := fun g => cmp_pure hz
  have hpl : (endPL R n).length ≤ 36 := by
    unfold endPL
    split
    · exact Nat.le_trans (endOut_len _ _ _) (usefulL_len R)
    · simp
  have hQ := call_slz2 (by simp [cids_app, hz]) (by simp) ((c_laws_rPairs (endPL R n) (by omega) (endPZ R n) [] hz rfl).trans (by rw [List.append_nil])) 2 3
  simp only [List.append_nil] at hQ hP2
  cases hq : okRack R with
  | false =>
    have e1 : endVV R n = 0 := by unfold endVV; rw [hq]; rfl
    have e2 : gameB R n 1 = false := by unfold gameB; rw [hq]; rfl
    have e3 : lostB R = false := by unfold lostB; rw [hq]; rfl
    rw [hq] at hE1 hE2 hL1 hL2 hR1 hC1 hC2
    rw [e1] at hE1 hE2
    rw [e2] at hP1 hP2
    rw [e3] at hL1 hL2
    simp only [Bool.false_and] at hE1 hE2
    simp [a10, hbig, hD, hE1, hE2, hP1, hP2, hL1, hL2, hR1, hC1, hC2, hK, hQ, hz, hzc, hR, h24, setAt_all, cids_app, cmp_app, sub]
  | true =>
    have hok : RackOK R := rackOK hR hq
    have e3 : lostB R = decide ((usefulL R).length = 0) := by unfold lostB; rw [hq]; rfl
    have e4 : repL R = repAll R := by unfold repL; rw [hq]; rfl
    have hlr := repAll_len R
    have hUs := callA_new (c_impl_UsefulPours R hok) (by simp)
    rw [hq] at hE1 hE2 hL1 hL2 hR1 hC1 hC2
    rw [e3] at hL1 hL2
    rw [e4] at hC1 hC2 hK
    simp only [hlr] at hC1 hC2 hK
    have hrng := endV_range n.toNat R
    by_cases c13 : 1 ≤ n ∧ n ≤ 3
    · obtain ⟨m, rfl⟩ : ∃ m : Nat, n = (m : Int) + 1 := ⟨(n - 1).toNat, by omega⟩
      have en : ((m : Int) + 1).toNat = m + 1 := by omega
      have en1 : ((m : Int) + 1).toNat - 1 = m := by omega
      have i0 : inB ((m : Int) + 1) 0 3 = true := by unfold inB; simp; omega
      have i1 : inB ((m : Int) + 1) 1 3 = true := by unfold inB; simp; omega
      have i2 : inB (m : Int) 0 3 = true := by unfold inB; simp; omega
      have e1 : endVV R ((m : Int) + 1) = endV (m + 1) R := by unfold endVV; rw [hq, i0, en]; rfl
      have e2 : gameB R ((m : Int) + 1) 1 = true := by unfold gameB; rw [hq, i1]; rfl
      have e5 : endPL R ((m : Int) + 1) = endOut m R (usefulL R).length := by unfold endPL; rw [e2, en1]; rfl
      have w0 : IntKind.i64.wrap ((m : Int) + 1 - 1) = (m : Int) := by rw [show (m : Int) + 1 - 1 = (m : Int) by omega]; exact wrapI (by omega) (by omega)
      have w0' : IntKind.i64.wrap (m : Int) = (m : Int) := wrapI (by omega) (by omega)
      rw [e1] at hE1 hE2
      rw [e2] at hP1 hP2
      rw [e5] at hP1 hP2 hQ hpl
      rw [en] at hrng
      rw [i0] at hE1 hE2
      simp only [Bool.true_and] at hE1 hE2
      have hnil := endOut_all_nil (m := m) (r := R)
      have hlost := endV_lost (m := m) (r := R)
      have hm3 : (m : Int) + 1 ≤ 3 := by omega
      have n0 : ¬ ((m : Int) + 1) = 0 := by omega
      have n0b : (((m : Int) + 1) == 0) = false := beq_eq_false_iff_ne.2 n0
      have n1 : (0 : Int) < (m : Int) + 1 := by omega
      have v1 : ¬ endV (m + 1) R < -1 := by omega
      have v2 : ¬ 1 < endV (m + 1) R := by omega
      have hmemO := fun (k : Nat) (hk : k < (endOut m R (usefulL R).length).length) => endOut_mem (List.getElem_mem hk)
      have hgetO := fun (k : Nat) (hk : k < (endOut m R (usefulL R).length).length) => flatC_take1 (endOut m R (usefulL R).length) (endPZ R ((m : Int) + 1)) hk
      generalize hO : endOut m R (usefulL R).length = O at *
      generalize endPZ R ((m : Int) + 1) = Z at *
      rcases Classical.em ((usefulL R).length = 0) with hU | hU
      · have hO0 : O.length = 0 := hnil.1 hU
        simp only [hO0] at hQ hP1 hP2
        simp only [hU] at hK hC1 hC2
        have hv : endV (m + 1) R = -1 := hlost hU
        simp [a10, hbig, hD, hE1, hE2, hP1, hP2, hL1, hL2, hR1, hC1, hC2, hK, hQ, hUs, hz, hzc, hR, h24, hlr, setAt_all, cids_app, cmp_app, sub, n0, n0b, n1, hv, hU, hO0]
        rw [loop_to (fun k => ([(3, V.c (C.ptr 1 0)), (4, V.c (C.int .i64 ((m : Int) + 1))), (5, V.c (C.int .i64 (endV (m + 1) R))), (9, V.c (C.sl 2 0 O.length 2)), (13, V.c (C.bool (decide ((usefulL R).length = 0)))), (14, V.c (C.bool true)), (17, V.c (C.sl 3 0 (usefulL R).length 1)), (21, V.c (C.int .i64 k))], [byB bs false, Blk.cells (R.map (C.int .i64)) true, Blk.cells (flatC O ++ Z) true, Blk.cells ((repAll R).map (C.int .i64)) true])) O.length]
        · simp [hbig, hUs, hR, h24, hlr, cids_app, cmp_app, hz, hzc, setAt_all, sub, hU, hO0, hv]
          rw [loop_to (fun k => ([(3, V.c (C.ptr 1 0)), (17, V.c (C.sl 2 0 (usefulL R).length 1)), (27, V.c (C.sl 3 0 (usefulL R).length 2)), (29, V.c (C.int .i64 k))], [byB bs false, Blk.cells (R.map (C.int .i64)) true, Blk.cells ((repAll R).map (C.int .i64)) true, Blk.cells (flatC (usefulL R) ++ padC R) true])) (usefulL R).length]
          · simp [sub, hU, hO0, hv]
          · simp [sub, cids_app, cmp_app, hU, hO0, hv]
          · intro k hk
            have hk' : (k : Int) < ((usefulL R).length : Int) := by omega
            have wk := wrapS (k := k) (by omega)
            have hp := List.getElem_mem hk
            obtain ⟨f1, f2⟩ := flatC_take1 (usefulL R) (padC R) hk
            have hP := callA_pure ((c_impl_Pour R hR ((usefulL R)[k]'hk).1 ((usefulL R)[k]'hk).2).trans (by rw [pV_useful hq hp])) (by simp) (by simp)
            obtain ⟨_, _, hnext⟩ := useful_pour hok hp
            have hU := callA_new (c_impl_UsefulPours (pourR R ((usefulL R)[k]'hk).1 ((usefulL R)[k]'hk).2) hnext) (by simp)
            have hget : ((repAll R).map (C.int .i64))[k]? = some (C.int .i64 (repN R ((usefulL R)[k]'hk))) := by simp [repAll, List.getElem?_eq_getElem hk]
            have hrep : (((repAll R).map (C.int .i64)).drop k).take 1 = [C.int .i64 (repN R ((usefulL R)[k]'hk))] := by
              have hk2 : k < ((repAll R).map (C.int .i64)).length := by simp [repAll_len]; exact hk
              rw [List.drop_eq_getElem_cons hk2, List.take_succ_cons, List.take_zero]
              rw [List.getElem?_eq_getElem hk2] at hget
              injection hget with hget
              rw [hget]
            unfold repN at hrep
            have hl24 := hnext.len
            have t24 := take24 hl24
            have b1 : k * 2 + 2 ≤ (usefulL R).length * 2 := by omega
            have b2 : k * 2 + 1 ≤ (usefulL R).length * 2 := by omega
            have b3 : k + 1 ≤ (usefulL R).length := by omega
            have b4 : k * 2 + 1 + 1 ≤ (usefulL R).length * 2 := by omega
            have b5 : k * 2 + 2 ≤ (usefulL R).length * 2 + (padC R).length := by omega
            have b6 : k * 2 + 1 + 1 ≤ (usefulL R).length * 2 + (padC R).length := by omega
            have b7 : k * 2 + 1 ≤ (usefulL R).length * 2 + (padC R).length := by omega
            have hlr := repAll_len R
            generalize pourR R ((usefulL R)[k]'hk).1 ((usefulL R)[k]'hk).2 = nx at *
            generalize (usefulL R)[k]'hk = pp at *
            simp [hk, hk', wk, f1, f2, hP, hU, hrep, hR, h24, hl24, t24, b1, b2, b3, b4, b5, b6, b7, hlr, flatC_len, setAt_all, sub, cids_app, cmp_app]
        · simp [sub, cids_app, cmp_app, hz, hzc, hU, hO0, hv]
        · intro k hk
          have hk' : (k : Int) < (O.length : Int) := by omega
          have wk := wrapS (k := k) (by omega)
          obtain ⟨hp, hval⟩ := hmemO k hk
          obtain ⟨f1, f2⟩ := hgetO k hk
          have hP := callA_pure ((c_impl_Pour R hR (O[k]'hk).1 (O[k]'hk).2).trans (by rw [pV_useful hq hp])) (by simp) (by simp)
          obtain ⟨_, _, hnext⟩ := useful_pour hok hp
          have hl24 := hnext.len
          have hnq : okRack (pourR R (O[k]'hk).1 (O[k]'hk).2) = true := (rack_eq _ hl24).symm.trans hnext.val
          have hEn := callA_pure (c_impl_EndValue (pourR R (O[k]'hk).1 (O[k]'hk).2) hl24 (m : Int)) (by simp) (by simp)
          have eEn : endVV (pourR R (O[k]'hk).1 (O[k]'hk).2) (m : Int) = endV m (pourR R (O[k]'hk).1 (O[k]'hk).2) := by unfold endVV; rw [hnq, i2]; simp
          rw [eEn, hnq, i2] at hEn
          simp only [Bool.true_and] at hEn
          have t24 := take24 hl24
          unfold endF at hval
          have hr2 := endV_range m (pourR R (O[k]'hk).1 (O[k]'hk).2)
          have b5 : k * 2 + 2 ≤ O.length * 2 + Z.length := by omega
          have b6 : k * 2 + 1 + 1 ≤ O.length * 2 + Z.length := by omega
          have b7 : k * 2 + 1 ≤ O.length * 2 + Z.length := by omega
          generalize pourR R (O[k]'hk).1 (O[k]'hk).2 = nx at *
          generalize O[k]'hk = pp at *
          generalize endV m nx = ev at *
          have wn : IntKind.i64.wrap (-ev) = -ev := wrapI (by omega) (by omega)
          have wv : IntKind.i64.wrap (endV (m + 1) R) = endV (m + 1) R := wrapI (by omega) (by omega)
          simp [hk, hk', wk, f1, f2, hP, hEn, w0, w0', wn, wv, hval, hR, h24, hl24, t24, b5, b6, b7, flatC_len, setAt_all, sub, cids_app, cmp_app, hz, hzc]
      · have hO0 : ¬ O.length = 0 := fun h => hU (hnil.2 h)
        have hU1 : ¬ usefulL R = [] := fun h => hU (by rw [h]; rfl)
        have hO1 : ¬ O = [] := fun h => hO0 (by rw [h]; rfl)
        have hU2 : (usefulL R).isEmpty = false := by simpa using hU1
        have hO2 : O.isEmpty = false := by simpa using hO1
        have hO3 : ((O.length : Int) == 0) = false := beq_eq_false_iff_ne.2 (by omega)
        have hU3 : (((usefulL R).length : Int) == 0) = false := beq_eq_false_iff_ne.2 (by omega)
        simp [a10, hbig, hD, hE1, hE2, hP1, hP2, hL1, hL2, hR1, hC1, hC2, hK, hQ, hUs, hz, hzc, hR, h24, hlr, setAt_all, cids_app, cmp_app, sub, n0, n0b, n1, v1, v2, hU, hO0, hU1, hO1, hU2, hO2, hU3, hO3]
        rw [loop_to (fun k => ([(3, V.c (C.ptr 1 0)), (4, V.c (C.int .i64 ((m : Int) + 1))), (5, V.c (C.int .i64 (endV (m + 1) R))), (9, V.c (C.sl 2 0 O.length 2)), (13, V.c (C.bool (decide ((usefulL R).length = 0)))), (14, V.c (C.bool true)), (17, V.c (C.sl 3 0 (usefulL R).length 1)), (21, V.c (C.int .i64 k))], [byB bs false, Blk.cells (R.map (C.int .i64)) true, Blk.cells (flatC O ++ Z) true, Blk.cells ((repAll R).map (C.int .i64)) true])) O.length]
        · simp [hbig, hUs, hR, h24, hlr, cids_app, cmp_app, hz, hzc, setAt_all, sub, hU, hO0, hU1, hO1, hU2, hO2, hU3, hO3]
          rw [loop_to (fun k => ([(3, V.c (C.ptr 1 0)), (17, V.c (C.sl 2 0 (usefulL R).length 1)), (27, V.c (C.sl 3 0 (usefulL R).length 2)), (29, V.c (C.int .i64 k))], [byB bs false, Blk.cells (R.map (C.int .i64)) true, Blk.cells ((repAll R).map (C.int .i64)) true, Blk.cells (flatC (usefulL R) ++ padC R) true])) (usefulL R).length]
          · simp [sub, hU, hO0, hU1, hO1, hU2, hO2, hU3, hO3]
          · simp [sub, cids_app, cmp_app, hU, hO0, hU1, hO1, hU2, hO2, hU3, hO3]
          · intro k hk
            have hk' : (k : Int) < ((usefulL R).length : Int) := by omega
            have wk := wrapS (k := k) (by omega)
            have hp := List.getElem_mem hk
            obtain ⟨f1, f2⟩ := flatC_take1 (usefulL R) (padC R) hk
            have hP := callA_pure ((c_impl_Pour R hR ((usefulL R)[k]'hk).1 ((usefulL R)[k]'hk).2).trans (by rw [pV_useful hq hp])) (by simp) (by simp)
            obtain ⟨_, _, hnext⟩ := useful_pour hok hp
            have hU := callA_new (c_impl_UsefulPours (pourR R ((usefulL R)[k]'hk).1 ((usefulL R)[k]'hk).2) hnext) (by simp)
            have hget : ((repAll R).map (C.int .i64))[k]? = some (C.int .i64 (repN R ((usefulL R)[k]'hk))) := by simp [repAll, List.getElem?_eq_getElem hk]
            have hrep : (((repAll R).map (C.int .i64)).drop k).take 1 = [C.int .i64 (repN R ((usefulL R)[k]'hk))] := by
              have hk2 : k < ((repAll R).map (C.int .i64)).length := by simp [repAll_len]; exact hk
              rw [List.drop_eq_getElem_cons hk2, List.take_succ_cons, List.take_zero]
              rw [List.getElem?_eq_getElem hk2] at hget
              injection hget with hget
              rw [hget]
            unfold repN at hrep
            have hl24 := hnext.len
            have t24 := take24 hl24
            have b1 : k * 2 + 2 ≤ (usefulL R).length * 2 := by omega
            have b2 : k * 2 + 1 ≤ (usefulL R).length * 2 := by omega
            have b3 : k + 1 ≤ (usefulL R).length := by omega
            have b4 : k * 2 + 1 + 1 ≤ (usefulL R).length * 2 := by omega
            have b5 : k * 2 + 2 ≤ (usefulL R).length * 2 + (padC R).length := by omega
            have b6 : k * 2 + 1 + 1 ≤ (usefulL R).length * 2 + (padC R).length := by omega
            have b7 : k * 2 + 1 ≤ (usefulL R).length * 2 + (padC R).length := by omega
            have hlr := repAll_len R
            generalize pourR R ((usefulL R)[k]'hk).1 ((usefulL R)[k]'hk).2 = nx at *
            generalize (usefulL R)[k]'hk = pp at *
            simp [hk, hk', wk, f1, f2, hP, hU, hrep, hR, h24, hl24, t24, b1, b2, b3, b4, b5, b6, b7, hlr, flatC_len, setAt_all, sub, cids_app, cmp_app]
        · simp [sub, cids_app, cmp_app, hz, hzc, hU, hO0, hU1, hO1, hU2, hO2, hU3, hO3]
        · intro k hk
          have hk' : (k : Int) < (O.length : Int) := by omega
          have wk := wrapS (k := k) (by omega)
          obtain ⟨hp, hval⟩ := hmemO k hk
          obtain ⟨f1, f2⟩ := hgetO k hk
          have hP := callA_pure ((c_impl_Pour R hR (O[k]'hk).1 (O[k]'hk).2).trans (by rw [pV_useful hq hp])) (by simp) (by simp)
          obtain ⟨_, _, hnext⟩ := useful_pour hok hp
          have hl24 := hnext.len
          have hnq : okRack (pourR R (O[k]'hk).1 (O[k]'hk).2) = true := (rack_eq _ hl24).symm.trans hnext.val
          have hEn := callA_pure (c_impl_EndValue (pourR R (O[k]'hk).1 (O[k]'hk).2) hl24 (m : Int)) (by simp) (by simp)
          have eEn : endVV (pourR R (O[k]'hk).1 (O[k]'hk).2) (m : Int) = endV m (pourR R (O[k]'hk).1 (O[k]'hk).2) := by unfold endVV; rw [hnq, i2]; simp
          rw [eEn, hnq, i2] at hEn
          simp only [Bool.true_and] at hEn
          have t24 := take24 hl24
          unfold endF at hval
          have hr2 := endV_range m (pourR R (O[k]'hk).1 (O[k]'hk).2)
          have b5 : k * 2 + 2 ≤ O.length * 2 + Z.length := by omega
          have b6 : k * 2 + 1 + 1 ≤ O.length * 2 + Z.length := by omega
          have b7 : k * 2 + 1 ≤ O.length * 2 + Z.length := by omega
          generalize pourR R (O[k]'hk).1 (O[k]'hk).2 = nx at *
          generalize O[k]'hk = pp at *
          generalize endV m nx = ev at *
          have wn : IntKind.i64.wrap (-ev) = -ev := wrapI (by omega) (by omega)
          have wv : IntKind.i64.wrap (endV (m + 1) R) = endV (m + 1) R := wrapI (by omega) (by omega)
          simp [hk, hk', wk, f1, f2, hP, hEn, w0, w0', wn, wv, hval, hR, h24, hl24, t24, b5, b6, b7, flatC_len, setAt_all, sub, cids_app, cmp_app, hz, hzc]
    · have hcase : n = 0 ∨ n = -1 ∨ n = 4 := by omega
      have e6 : gameB R n 1 = false := by
        unfold gameB inB
        rw [hq]
        simp
        omega
      have e7 : endPL R n = [] := by unfold endPL; rw [e6]; rfl
      rw [e6, e7] at hP1 hP2
      rw [e7] at hQ
      have e9 : endPZ R n = [] := by unfold endPZ; rw [e6]; rfl
      rw [e9] at hP1 hQ
      simp only [List.length_nil, List.append_nil] at hQ hP1 hP2
      rcases Classical.em ((usefulL R).length = 0) with hU | hU
      · simp only [hU] at hK hC1 hC2
        rcases hcase with rfl | rfl | rfl
        · have i0 : inB (0) 0 3 = true := by decide
          have e1 : endVV R (0) = 0 := by unfold endVV; rw [hq, i0]; rfl
          rw [e1, i0] at hE1 hE2
          simp only [Bool.and_false, Bool.and_true] at hE1 hE2
          simp [a10, hbig, hD, hE1, hE2, hP1, hP2, hL1, hL2, hR1, hC1, hC2, hK, hQ, hUs, hz, hzc, hR, h24, hlr, setAt_all, cids_app, cmp_app, sub, hU]
          rw [loop_to (fun k => ([(3, V.c (C.ptr 1 0)), (17, V.c (C.sl 2 0 (usefulL R).length 1)), (27, V.c (C.sl 3 0 (usefulL R).length 2)), (29, V.c (C.int .i64 k))], [byB bs false, Blk.cells (R.map (C.int .i64)) true, Blk.cells ((repAll R).map (C.int .i64)) true, Blk.cells (flatC (usefulL R) ++ padC R) true])) (usefulL R).length]
          · simp [sub, hU]
          · simp [sub, cids_app, cmp_app, hU]
          · intro k hk
            have hk' : (k : Int) < ((usefulL R).length : Int) := by omega
            have wk := wrapS (k := k) (by omega)
            have hp := List.getElem_mem hk
            obtain ⟨f1, f2⟩ := flatC_take1 (usefulL R) (padC R) hk
            have hP := callA_pure ((c_impl_Pour R hR ((usefulL R)[k]'hk).1 ((usefulL R)[k]'hk).2).trans (by rw [pV_useful hq hp])) (by simp) (by simp)
            obtain ⟨_, _, hnext⟩ := useful_pour hok hp
            have hU := callA_new (c_impl_UsefulPours (pourR R ((usefulL R)[k]'hk).1 ((usefulL R)[k]'hk).2) hnext) (by simp)
            have hget : ((repAll R).map (C.int .i64))[k]? = some (C.int .i64 (repN R ((usefulL R)[k]'hk))) := by simp [repAll, List.getElem?_eq_getElem hk]
            have hrep : (((repAll R).map (C.int .i64)).drop k).take 1 = [C.int .i64 (repN R ((usefulL R)[k]'hk))] := by
              have hk2 : k < ((repAll R).map (C.int .i64)).length := by simp [repAll_len]; exact hk
              rw [List.drop_eq_getElem_cons hk2, List.take_succ_cons, List.take_zero]
              rw [List.getElem?_eq_getElem hk2] at hget
              injection hget with hget
              rw [hget]
            unfold repN at hrep
            have hl24 := hnext.len
            have t24 := take24 hl24
            have b1 : k * 2 + 2 ≤ (usefulL R).length * 2 := by omega
            have b2 : k * 2 + 1 ≤ (usefulL R).length * 2 := by omega
            have b3 : k + 1 ≤ (usefulL R).length := by omega
            have b4 : k * 2 + 1 + 1 ≤ (usefulL R).length * 2 := by omega
            have b5 : k * 2 + 2 ≤ (usefulL R).length * 2 + (padC R).length := by omega
            have b6 : k * 2 + 1 + 1 ≤ (usefulL R).length * 2 + (padC R).length := by omega
            have b7 : k * 2 + 1 ≤ (usefulL R).length * 2 + (padC R).length := by omega
            have hlr := repAll_len R
            generalize pourR R ((usefulL R)[k]'hk).1 ((usefulL R)[k]'hk).2 = nx at *
            generalize (usefulL R)[k]'hk = pp at *
            simp [hk, hk', wk, f1, f2, hP, hU, hrep, hR, h24, hl24, t24, b1, b2, b3, b4, b5, b6, b7, hlr, flatC_len, setAt_all, sub, cids_app, cmp_app]
        · have i0 : inB (-1) 0 3 = false := by decide
          have e1 : endVV R (-1) = 0 := by unfold endVV; rw [hq, i0]; rfl
          rw [e1, i0] at hE1 hE2
          simp only [Bool.and_false, Bool.and_true] at hE1 hE2
          simp [a10, hbig, hD, hE1, hE2, hP1, hP2, hL1, hL2, hR1, hC1, hC2, hK, hQ, hUs, hz, hzc, hR, h24, hlr, setAt_all, cids_app, cmp_app, sub, hU]
          rw [loop_to (fun k => ([(3, V.c (C.ptr 1 0)), (17, V.c (C.sl 2 0 (usefulL R).length 1)), (27, V.c (C.sl 3 0 (usefulL R).length 2)), (29, V.c (C.int .i64 k))], [byB bs false, Blk.cells (R.map (C.int .i64)) true, Blk.cells ((repAll R).map (C.int .i64)) true, Blk.cells (flatC (usefulL R) ++ padC R) true])) (usefulL R).length]
          · simp [sub, hU]
          · simp [sub, cids_app, cmp_app, hU]
          · intro k hk
            have hk' : (k : Int) < ((usefulL R).length : Int) := by omega
            have wk := wrapS (k := k) (by omega)
            have hp := List.getElem_mem hk
            obtain ⟨f1, f2⟩ := flatC_take1 (usefulL R) (padC R) hk
            have hP := callA_pure ((c_impl_Pour R hR ((usefulL R)[k]'hk).1 ((usefulL R)[k]'hk).2).trans (by rw [pV_useful hq hp])) (by simp) (by simp)
            obtain ⟨_, _, hnext⟩ := useful_pour hok hp
            have hU := callA_new (c_impl_UsefulPours (pourR R ((usefulL R)[k]'hk).1 ((usefulL R)[k]'hk).2) hnext) (by simp)
            have hget : ((repAll R).map (C.int .i64))[k]? = some (C.int .i64 (repN R ((usefulL R)[k]'hk))) := by simp [repAll, List.getElem?_eq_getElem hk]
            have hrep : (((repAll R).map (C.int .i64)).drop k).take 1 = [C.int .i64 (repN R ((usefulL R)[k]'hk))] := by
              have hk2 : k < ((repAll R).map (C.int .i64)).length := by simp [repAll_len]; exact hk
              rw [List.drop_eq_getElem_cons hk2, List.take_succ_cons, List.take_zero]
              rw [List.getElem?_eq_getElem hk2] at hget
              injection hget with hget
              rw [hget]
            unfold repN at hrep
            have hl24 := hnext.len
            have t24 := take24 hl24
            have b1 : k * 2 + 2 ≤ (usefulL R).length * 2 := by omega
            have b2 : k * 2 + 1 ≤ (usefulL R).length * 2 := by omega
            have b3 : k + 1 ≤ (usefulL R).length := by omega
            have b4 : k * 2 + 1 + 1 ≤ (usefulL R).length * 2 := by omega
            have b5 : k * 2 + 2 ≤ (usefulL R).length * 2 + (padC R).length := by omega
            have b6 : k * 2 + 1 + 1 ≤ (usefulL R).length * 2 + (padC R).length := by omega
            have b7 : k * 2 + 1 ≤ (usefulL R).length * 2 + (padC R).length := by omega
            have hlr := repAll_len R
            generalize pourR R ((usefulL R)[k]'hk).1 ((usefulL R)[k]'hk).2 = nx at *
            generalize (usefulL R)[k]'hk = pp at *
            simp [hk, hk', wk, f1, f2, hP, hU, hrep, hR, h24, hl24, t24, b1, b2, b3, b4, b5, b6, b7, hlr, flatC_len, setAt_all, sub, cids_app, cmp_app]
        · have i0 : inB (4) 0 3 = false := by decide
          have e1 : endVV R (4) = 0 := by unfold endVV; rw [hq, i0]; rfl
          rw [e1, i0] at hE1 hE2
          simp only [Bool.and_false, Bool.and_true] at hE1 hE2
          simp [a10, hbig, hD, hE1, hE2, hP1, hP2, hL1, hL2, hR1, hC1, hC2, hK, hQ, hUs, hz, hzc, hR, h24, hlr, setAt_all, cids_app, cmp_app, sub, hU]
          rw [loop_to (fun k => ([(3, V.c (C.ptr 1 0)), (17, V.c (C.sl 2 0 (usefulL R).length 1)), (27, V.c (C.sl 3 0 (usefulL R).length 2)), (29, V.c (C.int .i64 k))], [byB bs false, Blk.cells (R.map (C.int .i64)) true, Blk.cells ((repAll R).map (C.int .i64)) true, Blk.cells (flatC (usefulL R) ++ padC R) true])) (usefulL R).length]
          · simp [sub, hU]
          · simp [sub, cids_app, cmp_app, hU]
          · intro k hk
            have hk' : (k : Int) < ((usefulL R).length : Int) := by omega
            have wk := wrapS (k := k) (by omega)
            have hp := List.getElem_mem hk
            obtain ⟨f1, f2⟩ := flatC_take1 (usefulL R) (padC R) hk
            have hP := callA_pure ((c_impl_Pour R hR ((usefulL R)[k]'hk).1 ((usefulL R)[k]'hk).2).trans (by rw [pV_useful hq hp])) (by simp) (by simp)
            obtain ⟨_, _, hnext⟩ := useful_pour hok hp
            have hU := callA_new (c_impl_UsefulPours (pourR R ((usefulL R)[k]'hk).1 ((usefulL R)[k]'hk).2) hnext) (by simp)
            have hget : ((repAll R).map (C.int .i64))[k]? = some (C.int .i64 (repN R ((usefulL R)[k]'hk))) := by simp [repAll, List.getElem?_eq_getElem hk]
            have hrep : (((repAll R).map (C.int .i64)).drop k).take 1 = [C.int .i64 (repN R ((usefulL R)[k]'hk))] := by
              have hk2 : k < ((repAll R).map (C.int .i64)).length := by simp [repAll_len]; exact hk
              rw [List.drop_eq_getElem_cons hk2, List.take_succ_cons, List.take_zero]
              rw [List.getElem?_eq_getElem hk2] at hget
              injection hget with hget
              rw [hget]
            unfold repN at hrep
            have hl24 := hnext.len
            have t24 := take24 hl24
            have b1 : k * 2 + 2 ≤ (usefulL R).length * 2 := by omega
            have b2 : k * 2 + 1 ≤ (usefulL R).length * 2 := by omega
            have b3 : k + 1 ≤ (usefulL R).length := by omega
            have b4 : k * 2 + 1 + 1 ≤ (usefulL R).length * 2 := by omega
            have b5 : k * 2 + 2 ≤ (usefulL R).length * 2 + (padC R).length := by omega
            have b6 : k * 2 + 1 + 1 ≤ (usefulL R).length * 2 + (padC R).length := by omega
            have b7 : k * 2 + 1 ≤ (usefulL R).length * 2 + (padC R).length := by omega
            have hlr := repAll_len R
            generalize pourR R ((usefulL R)[k]'hk).1 ((usefulL R)[k]'hk).2 = nx at *
            generalize (usefulL R)[k]'hk = pp at *
            simp [hk, hk', wk, f1, f2, hP, hU, hrep, hR, h24, hl24, t24, b1, b2, b3, b4, b5, b6, b7, hlr, flatC_len, setAt_all, sub, cids_app, cmp_app]
      · have hU1 : ¬ usefulL R = [] := fun h => hU (by rw [h]; rfl)
        have hU2 : (usefulL R).isEmpty = false := by simpa using hU1
        have hU3 : (((usefulL R).length : Int) == 0) = false := beq_eq_false_iff_ne.2 (by omega)
        rcases hcase with rfl | rfl | rfl
        · have i0 : inB (0) 0 3 = true := by decide
          have e1 : endVV R (0) = 0 := by unfold endVV; rw [hq, i0]; rfl
          rw [e1, i0] at hE1 hE2
          simp only [Bool.and_false, Bool.and_true] at hE1 hE2
          simp [a10, hbig, hD, hE1, hE2, hP1, hP2, hL1, hL2, hR1, hC1, hC2, hK, hQ, hUs, hz, hzc, hR, h24, hlr, setAt_all, cids_app, cmp_app, sub, hU, hU1, hU2, hU3]
          rw [loop_to (fun k => ([(3, V.c (C.ptr 1 0)), (17, V.c (C.sl 2 0 (usefulL R).length 1)), (27, V.c (C.sl 3 0 (usefulL R).length 2)), (29, V.c (C.int .i64 k))], [byB bs false, Blk.cells (R.map (C.int .i64)) true, Blk.cells ((repAll R).map (C.int .i64)) true, Blk.cells (flatC (usefulL R) ++ padC R) true])) (usefulL R).length]
          · simp [sub, hU, hU1, hU2, hU3]
          · simp [sub, cids_app, cmp_app, hU, hU1, hU2, hU3]
          · intro k hk
            have hk' : (k : Int) < ((usefulL R).length : Int) := by omega
            have wk := wrapS (k := k) (by omega)
            have hp := List.getElem_mem hk
            obtain ⟨f1, f2⟩ := flatC_take1 (usefulL R) (padC R) hk
            have hP := callA_pure ((c_impl_Pour R hR ((usefulL R)[k]'hk).1 ((usefulL R)[k]'hk).2).trans (by rw [pV_useful hq hp])) (by simp) (by simp)
            obtain ⟨_, _, hnext⟩ := useful_pour hok hp
            have hU := callA_new (c_impl_UsefulPours (pourR R ((usefulL R)[k]'hk).1 ((usefulL R)[k]'hk).2) hnext) (by simp)
            have hget : ((repAll R).map (C.int .i64))[k]? = some (C.int .i64 (repN R ((usefulL R)[k]'hk))) := by simp [repAll, List.getElem?_eq_getElem hk]
            have hrep : (((repAll R).map (C.int .i64)).drop k).take 1 = [C.int .i64 (repN R ((usefulL R)[k]'hk))] := by
              have hk2 : k < ((repAll R).map (C.int .i64)).length := by simp [repAll_len]; exact hk
              rw [List.drop_eq_getElem_cons hk2, List.take_succ_cons, List.take_zero]
              rw [List.getElem?_eq_getElem hk2] at hget
              injection hget with hget
              rw [hget]
            unfold repN at hrep
            have hl24 := hnext.len
            have t24 := take24 hl24
            have b1 : k * 2 + 2 ≤ (usefulL R).length * 2 := by omega
            have b2 : k * 2 + 1 ≤ (usefulL R).length * 2 := by omega
            have b3 : k + 1 ≤ (usefulL R).length := by omega
            have b4 : k * 2 + 1 + 1 ≤ (usefulL R).length * 2 := by omega
            have b5 : k * 2 + 2 ≤ (usefulL R).length * 2 + (padC R).length := by omega
            have b6 : k * 2 + 1 + 1 ≤ (usefulL R).length * 2 + (padC R).length := by omega
            have b7 : k * 2 + 1 ≤ (usefulL R).length * 2 + (padC R).length := by omega
            have hlr := repAll_len R
            generalize pourR R ((usefulL R)[k]'hk).1 ((usefulL R)[k]'hk).2 = nx at *
            generalize (usefulL R)[k]'hk = pp at *
            simp [hk, hk', wk, f1, f2, hP, hU, hrep, hR, h24, hl24, t24, b1, b2, b3, b4, b5, b6, b7, hlr, flatC_len, setAt_all, sub, cids_app, cmp_app]
        · have i0 : inB (-1) 0 3 = false := by decide
          have e1 : endVV R (-1) = 0 := by unfold endVV; rw [hq, i0]; rfl
          rw [e1, i0] at hE1 hE2
          simp only [Bool.and_false, Bool.and_true] at hE1 hE2
          simp [a10, hbig, hD, hE1, hE2, hP1, hP2, hL1, hL2, hR1, hC1, hC2, hK, hQ, hUs, hz, hzc, hR, h24, hlr, setAt_all, cids_app, cmp_app, sub, hU, hU1, hU2, hU3]
          rw [loop_to (fun k => ([(3, V.c (C.ptr 1 0)), (17, V.c (C.sl 2 0 (usefulL R).length 1)), (27, V.c (C.sl 3 0 (usefulL R).length 2)), (29, V.c (C.int .i64 k))], [byB bs false, Blk.cells (R.map (C.int .i64)) true, Blk.cells ((repAll R).map (C.int .i64)) true, Blk.cells (flatC (usefulL R) ++ padC R) true])) (usefulL R).length]
          · simp [sub, hU, hU1, hU2, hU3]
          · simp [sub, cids_app, cmp_app, hU, hU1, hU2, hU3]
          · intro k hk
            have hk' : (k : Int) < ((usefulL R).length : Int) := by omega
            have wk := wrapS (k := k) (by omega)
            have hp := List.getElem_mem hk
            obtain ⟨f1, f2⟩ := flatC_take1 (usefulL R) (padC R) hk
            have hP := callA_pure ((c_impl_Pour R hR ((usefulL R)[k]'hk).1 ((usefulL R)[k]'hk).2).trans (by rw [pV_useful hq hp])) (by simp) (by simp)
            obtain ⟨_, _, hnext⟩ := useful_pour hok hp
            have hU := callA_new (c_impl_UsefulPours (pourR R ((usefulL R)[k]'hk).1 ((usefulL R)[k]'hk).2) hnext) (by simp)
            have hget : ((repAll R).map (C.int .i64))[k]? = some (C.int .i64 (repN R ((usefulL R)[k]'hk))) := by simp [repAll, List.getElem?_eq_getElem hk]
            have hrep : (((repAll R).map (C.int .i64)).drop k).take 1 = [C.int .i64 (repN R ((usefulL R)[k]'hk))] := by
              have hk2 : k < ((repAll R).map (C.int .i64)).length := by simp [repAll_len]; exact hk
              rw [List.drop_eq_getElem_cons hk2, List.take_succ_cons, List.take_zero]
              rw [List.getElem?_eq_getElem hk2] at hget
              injection hget with hget
              rw [hget]
            unfold repN at hrep
            have hl24 := hnext.len
            have t24 := take24 hl24
            have b1 : k * 2 + 2 ≤ (usefulL R).length * 2 := by omega
            have b2 : k * 2 + 1 ≤ (usefulL R).length * 2 := by omega
            have b3 : k + 1 ≤ (usefulL R).length := by omega
            have b4 : k * 2 + 1 + 1 ≤ (usefulL R).length * 2 := by omega
            have b5 : k * 2 + 2 ≤ (usefulL R).length * 2 + (padC R).length := by omega
            have b6 : k * 2 + 1 + 1 ≤ (usefulL R).length * 2 + (padC R).length := by omega
            have b7 : k * 2 + 1 ≤ (usefulL R).length * 2 + (padC R).length := by omega
            have hlr := repAll_len R
            generalize pourR R ((usefulL R)[k]'hk).1 ((usefulL R)[k]'hk).2 = nx at *
            generalize (usefulL R)[k]'hk = pp at *
            simp [hk, hk', wk, f1, f2, hP, hU, hrep, hR, h24, hl24, t24, b1, b2, b3, b4, b5, b6, b7, hlr, flatC_len, setAt_all, sub, cids_app, cmp_app]
        · have i0 : inB (4) 0 3 = false := by decide
          have e1 : endVV R (4) = 0 := by unfold endVV; rw [hq, i0]; rfl
          rw [e1, i0] at hE1 hE2
          simp only [Bool.and_false, Bool.and_true] at hE1 hE2
          simp [a10, hbig, hD, hE1, hE2, hP1, hP2, hL1, hL2, hR1, hC1, hC2, hK, hQ, hUs, hz, hzc, hR, h24, hlr, setAt_all, cids_app, cmp_app, sub, hU, hU1, hU2, hU3]
          rw [loop_to (fun k => ([(3, V.c (C.ptr 1 0)), (17, V.c (C.sl 2 0 (usefulL R).length 1)), (27, V.c (C.sl 3 0 (usefulL R).length 2)), (29, V.c (C.int .i64 k))], [byB bs false, Blk.cells (R.map (C.int .i64)) true, Blk.cells ((repAll R).map (C.int .i64)) true, Blk.cells (flatC (usefulL R) ++ padC R) true])) (usefulL R).length]
          · simp [sub, hU, hU1, hU2, hU3]
          · simp [sub, cids_app, cmp_app, hU, hU1, hU2, hU3]
          · intro k hk
            have hk' : (k : Int) < ((usefulL R).length : Int) := by omega
            have wk := wrapS (k := k) (by omega)
            have hp := List.getElem_mem hk
            obtain ⟨f1, f2⟩ := flatC_take1 (usefulL R) (padC R) hk
            have hP := callA_pure ((c_impl_Pour R hR ((usefulL R)[k]'hk).1 ((usefulL R)[k]'hk).2).trans (by rw [pV_useful hq hp])) (by simp) (by simp)
            obtain ⟨_, _, hnext⟩ := useful_pour hok hp
            have hU := callA_new (c_impl_UsefulPours (pourR R ((usefulL R)[k]'hk).1 ((usefulL R)[k]'hk).2) hnext) (by simp)
            have hget : ((repAll R).map (C.int .i64))[k]? = some (C.int .i64 (repN R ((usefulL R)[k]'hk))) := by simp [repAll, List.getElem?_eq_getElem hk]
            have hrep : (((repAll R).map (C.int .i64)).drop k).take 1 = [C.int .i64 (repN R ((usefulL R)[k]'hk))] := by
              have hk2 : k < ((repAll R).map (C.int .i64)).length := by simp [repAll_len]; exact hk
              rw [List.drop_eq_getElem_cons hk2, List.take_succ_cons, List.take_zero]
              rw [List.getElem?_eq_getElem hk2] at hget
              injection hget with hget
              rw [hget]
            unfold repN at hrep
            have hl24 := hnext.len
            have t24 := take24 hl24
            have b1 : k * 2 + 2 ≤ (usefulL R).length * 2 := by omega
            have b2 : k * 2 + 1 ≤ (usefulL R).length * 2 := by omega
            have b3 : k + 1 ≤ (usefulL R).length := by omega
            have b4 : k * 2 + 1 + 1 ≤ (usefulL R).length * 2 := by omega
            have b5 : k * 2 + 2 ≤ (usefulL R).length * 2 + (padC R).length := by omega
            have b6 : k * 2 + 1 + 1 ≤ (usefulL R).length * 2 + (padC R).length := by omega
            have b7 : k * 2 + 1 ≤ (usefulL R).length * 2 + (padC R).length := by omega
            have hlr := repAll_len R
            generalize pourR R ((usefulL R)[k]'hk).1 ((usefulL R)[k]'hk).2 = nx at *
            generalize (usefulL R)[k]'hk = pp at *
            simp [hk, hk', wk, f1, f2, hP, hU, hrep, hR, h24, hl24, t24, b1, b2, b3, b4, b5, b6, b7, hlr, flatC_len, setAt_all, sub, cids_app, cmp_app]
end Go.Proofs.Ytllabonhgkocfaa.AM
