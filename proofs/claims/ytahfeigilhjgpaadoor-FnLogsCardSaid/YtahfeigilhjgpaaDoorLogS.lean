import Derived.Test.YtahfeigilhjgpaaDoorLogR
/- Law: logs. -/
namespace Go.Proofs.YtahfeigilhjgpaaDoor.AM
open Go
set_option maxRecDepth 1000000
set_option linter.unusedSimpArgs false
set_option linter.unusedVariables false
set_option maxHeartbeats 16000000 in
theorem c_laws_FnLogs (bs : List Int) (hlen : bs.length ≤ 9223372036854775807) (hrg : ∀ x ∈ bs, 0 ≤ x ∧ x < 256) : fnI pr np 5 [.c (.sl 0 0 bs.length 1)] [byB bs false] = some (.c (.bool true), [byB bs false]) := by
  have hbig := call_slz (rest := []) rfl (by simp) (c_laws_vBig bs false hlen) 0
  rw [fb (fn := a5) rfl rfl rfl]
  by_cases hB : 65536 < bs.length
  · rw [decide_eq_true hB] at hbig
    simp [a5, hbig, sub]
  · rw [decide_eq_false hB] at hbig
    have hb : Bytes bs := ⟨hrg, by omega⟩
    obtain ⟨v, hD0, a0, b0, ha0, hb0, rfl⟩ := c_DrawIsValidRecord bs hb false
    have kD0 := call_slz (rest := []) rfl (by simp) hD0 0
    obtain ⟨bs1, hb1, hC1⟩ := c_laws_vCut bs hb (by omega) false 1 (by decide)
    have kC1 := call_slz (rest := [.c (.int .i64 1)]) rfl (by simp) hC1 0
    obtain ⟨v, hD1, k1, a1, b1, ha1, hbb1, rfl⟩ := c_DrawEncodeRecord bs1 hb1 true
    have kD1 := call_slz (rest := []) rfl (by simp) hD1 2
    have e1 := callA_pure (c_spec_EncodeRecord k1 a1 b1 (by omega) (by omega)) (by simp [recV]) (by simp)
    have e2 := callA_pure (c_impl_EncodeRecord k1 a1 b1 (by omega) (by omega)) (by simp [recV]) (by simp)
    generalize (if (decide (0 ≤ k1) && decide (k1 ≤ 59) && recB a1 b1) = true then lineT k1.toNat a1 b1 ++ [10] else []) = t1 at *
    generalize (decide (0 ≤ k1) && decide (k1 ≤ 59) && recB a1 b1) = q1 at *
    obtain ⟨bs2, hb2, hC2⟩ := c_laws_vCut bs hb (by omega) false 2 (by decide)
    have kC2 := call_slz (rest := [.c (.int .i64 2)]) rfl (by simp) hC2 0
    obtain ⟨v, hD2, d2, p2, c2, hd2, hp2, hc2, hc2', rfl⟩ := c_DrawIsValidLog bs2 hb2 true
    have kD2 := call_slz (rest := []) rfl (by simp) hD2 4
    obtain ⟨bs3, hb3, hC3⟩ := c_laws_vCut bs hb (by omega) false 3 (by decide)
    have kC3 := call_slz (rest := [.c (.int .i64 3)]) rfl (by simp) hC3 0
    obtain ⟨v, hD3, d, p, c, a, b, hd, hp, hc, hc', ha, hb', rfl⟩ := c_DrawAppendRecord bs3 hb3 true
    have kD3 := call_slz (rest := []) rfl (by simp) hD3 6
    have v1 := callA_pure (c_spec_IsValidRecord a0 b0 (by omega) (by omega)) (by simp [recV]) (by simp)
    have v2 := callA_pure (c_impl_IsValidRecord a0 b0 (by omega) (by omega)) (by simp [recV]) (by simp)
    rw [show (cmdB a0 && decide ((b0.length : Int) ≤ 250) && plainT b0) = recB a0 b0 from rfl] at v2
    generalize recB a0 b0 = q0 at *
    have l1 := callA_pure (c_spec_IsValidLog d2 p2 c2 (by omega) (by omega)) (by simp) (by simp)
    have l2 := callA_pure (c_impl_IsValidLog d2 p2 c2 (by omega) (by omega)) (by simp) (by simp)
    generalize validS d2 p2 c2 = q2 at *
    obtain ⟨sd, sp, sc, sq, hS, hsd, hsp, hsr⟩ := sync_facts d p c hd hp
    have s1 := callA_pure ((c_spec_SyncLog d p c (by omega) (by omega)).trans (by rw [hS])) (by simp) (by simp)
    have s2 := callA_pure ((c_impl_SyncLog d p c (by omega) (by omega)).trans (by rw [hS])) (by simp) (by simp)
    have r1 := callA_new (c_impl_LogRecords d p c (by omega) (by omega)) (by simp)
    have r2 := callA_new (c_spec_LogRecords d p c (by omega) (by omega)) (by simp)
    have r3 := callA_new (c_impl_LogRecords sd sp sc (by omega) (by omega)) (by simp)
    have hlr := recsV_len d p c
    have w1 := call_sl2 (by simp) (by simp) (c_laws_vRecords (recsV d p c) (recsV d p c) (recsV d p c).length (by omega) (by omega) (by omega) rfl) 13 14
    obtain ⟨nd, nq, nc, ne, hA, hcase⟩ := app_facts d p c a b
    have ap1 := callA_pure ((c_spec_AppendRecord d p c a b (by omega) (by omega) (by omega) (by omega)).trans (by rw [hA])) (by simp [recV]) (by simp)
    have ap2 := callA_pure ((c_impl_AppendRecord d p c a b (by omega) (by omega) (by omega) (by omega)).trans (by rw [hA])) (by simp [recV]) (by simp)
    unfold recV at *
    have w2 : sq = true → callA (fnI pr np) 34 = callA (fnI pr np) 34 := fun _ => rfl
    rcases hcase with ⟨hne, rfl, rfl, rfl⟩ | ⟨rfl, hnd, hnq, hnv, hnr⟩
    · cases sq with
      | false =>
        generalize recsV sd sp sc = rs at *
        generalize recsV nd nq nc = al at *
        generalize validS nd nq nc = vq at *
        simp [a5, hbig, kD0, kC1, kD1, e1, e2, kC2, kD2, kC3, kD3, v1, v2, l1, l2, s1, s2, r1, r2, r3, w1, ap1, ap2, hne, conf, conf1, setAt, sub]
      | true =>
        have hrs := hsr rfl
        rw [hrs] at r3
        have w3 := call_sl2 (by simp) (by simp) (c_laws_vRecords (recsV nd nq nc) (recsV nd nq nc) (recsV nd nq nc).length (by omega) (by omega) (by omega) rfl) 15 13
        generalize recsV nd nq nc = al at *
        generalize validS nd nq nc = vq at *
        generalize validS sd sp sc = vs at *
        simp [a5, hbig, kD0, kC1, kD1, e1, e2, kC2, kD2, kC3, kD3, v1, v2, l1, l2, s1, s2, r1, r2, r3, w1, w3, ap1, ap2, hne, conf, conf1, setAt, sub]
    · have r4 := callA_new (c_impl_LogRecords nd nq nc (by omega) (by omega)) (by simp)
      have l3 := callA_pure (c_impl_IsValidLog nd nq nc (by omega) (by omega)) (by simp) (by simp)
      rw [hnv] at l3 r4
      rw [hnr] at r4
      have hln : (recsV d p c ++ [(a, b)]).length = (recsV d p c).length + 1 := by simp
      have w5 := call_sl2 (by simp) (by simp) (c_laws_vRecords (recsV d p c ++ [(a, b)]) (recsV d p c) (recsV d p c).length (by omega) (by omega) (by omega) (by rw [List.take_left, List.take_length])) 16 13
      have hg : ((recC (recsV d p c ++ [(a, b)])).drop ((recsV d p c).length * 2)).take 2 = [C.str a, C.str b] := (recC_get _ _ (a, b) (by simp)).2.2
      rw [hln] at r4
      have wl : IntKind.i64.wrap (((recsV d p c).length : Int) + 1) = ((recsV d p c).length : Int) + 1 := wrapI (by omega) (by omega)
      have lc : (recC (recsV d p c ++ [(a, b)])).length = ((recsV d p c).length + 1) * 2 := by simp
      have hb1 : (recsV d p c).length * 2 + 2 ≤ ((recsV d p c).length + 1) * 2 := by omega
      have hb2 : (recsV d p c).length < (recsV d p c).length + 1 := by omega
      have hb3 : (recsV d p c).length ≤ (recsV d p c).length + 1 := by omega
      have hb4 : ((recsV d p c).length : Int) < ((recsV d p c).length : Int) + 1 := by omega
      have hb5 : ((recsV d p c).length : Int) ≤ ((recsV d p c).length : Int) + 1 := by omega
      have pid : cids (recC (recsV d p c ++ [(a, b)])) = [] := by simp
      have pcm : ∀ g, cmp g (recC (recsV d p c ++ [(a, b)])) = recC (recsV d p c ++ [(a, b)]) := fun g => by simp
      generalize hR2 : recC (recsV d p c ++ [(a, b)]) = R2 at *
      cases sq with
      | false =>
        generalize recsV sd sp sc = rs at *
        generalize recsV d p c = al at *
        generalize validS d p c = vq at *
        simp [a5, hbig, kD0, kC1, kD1, e1, e2, kC2, kD2, kC3, kD3, v1, v2, l1, l2, s1, s2, r1, r2, r3, w1, ap1, ap2, r4, l3, w5, hg, wl, lc, hb1, hb2, hb3, hb4, hb5, pid, pcm, conf, conf1, setAt, sub]
      | true =>
        have hrs := hsr rfl
        rw [hrs] at r3
        have w3 := call_sl2 (by simp) (by simp) (c_laws_vRecords (recsV d p c) (recsV d p c) (recsV d p c).length (by omega) (by omega) (by omega) rfl) 15 13
        generalize recsV d p c = al at *
        generalize validS d p c = vq at *
        generalize validS sd sp sc = vs at *
        simp [a5, hbig, kD0, kC1, kD1, e1, e2, kC2, kD2, kC3, kD3, v1, v2, l1, l2, s1, s2, r1, r2, r3, w1, w3, ap1, ap2, r4, l3, w5, hg, wl, lc, hb1, hb2, hb3, hb4, hb5, pid, pcm, conf, conf1, setAt, sub]
end Go.Proofs.YtahfeigilhjgpaaDoor.AM
