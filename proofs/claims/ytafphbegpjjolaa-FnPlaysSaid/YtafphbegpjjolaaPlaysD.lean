import Derived.Test.YtafphbegpjjolaaPlaysC
import Derived.Test.YtafphbegpjjolaaVCut
/- Law: plays. -/
namespace Go.Proofs.Ytafphbegpjjolaa.AM
open Go
set_option maxRecDepth 1000000
set_option linter.unusedSimpArgs false
set_option linter.unusedVariables false
def pCells (x : Int × Int) : Blk := .cells [.int .i64 x.1, .int .i64 x.2] true
set_option maxHeartbeats 16000000 in
theorem c_laws_FnPlays (bs : List Int) (hlen : bs.length ≤ 9223372036854775807) (hrg : ∀ x ∈ bs, 0 ≤ x ∧ x < 256) : fnI pr nq 3 [.c (.sl 0 0 bs.length 1)] [byB bs false] = some (.c (.bool true), [byB bs false]) := by
  have hbig := callN_slz (rest := []) rfl (by simp) (up (c_laws_vBig bs false hlen)) 0
  rw [fq (fn := a3) rfl rfl rfl]
  by_cases hB : 65536 < bs.length
  · rw [decide_eq_true hB] at hbig
    simp [a3, hbig, sub]
  rw [decide_eq_false hB] at hbig
  have hb : Bytes bs := ⟨hrg, by omega⟩
  obtain ⟨_, hD0, R, n, hR, rfl⟩ := c_spec_DrawChanceSortedBy bs hb false
  have gD0 := callN_slz (rest := []) rfl (by simp) (up hD0) 0
  obtain ⟨bs1, hb1, hcut1⟩ := c_laws_vCut bs hb (by omega) false 1 (by omega)
  have hcut1 := callN_slz (rest := [.c (.int .i64 1)]) rfl (by simp) (up hcut1) 0
  obtain ⟨_, hD1, U, k, hU, rfl⟩ := c_spec_DrawBestChance bs1 hb1 true
  have gD1 := callN_slz (rest := []) rfl (by simp) (up hD1) 8
  have R24 := take24 hR
  have U24 := take24 hU
  simp only [a3]
  generalize hD : (ACode.seq (ACode.seq (ACode.region (AOper.mk (some 285) none _ :: _) _) _) _) = cD
  -- what comes behind the games of the best first pour
  have main : ∀ (z : Env) (i9 i13 : Nat) (h : Heap) (x1 x2 x3 y1 y2 y3 y4 y5 y6 : Blk), ((i9 = 4 ∧ i13 = 6 ∧ h = [byB bs false, Blk.cells (R.map (C.int .i64)) true, Blk.cells [.int .i64 (meanF w1 R n).1, .int .i64 (meanF w1 R n).2] true, x1, Blk.cells [.int .i64 (meanF w2 R n).1, .int .i64 (meanF w2 R n).2] true, x2, Blk.cells [.int .i64 (meanF w3 R n).1, .int .i64 (meanF w3 R n).2] true, x3, y1, y2, y3, y4, y5, y6]) ∨
      (i9 = 3 ∧ i13 = 4 ∧ h = [byB bs false, Blk.cells (R.map (C.int .i64)) true, Blk.cells [.int .i64 (meanF w1 R n).1, .int .i64 (meanF w1 R n).2] true, Blk.cells [.int .i64 (meanF w2 R n).1, .int .i64 (meanF w2 R n).2] true, Blk.cells [.int .i64 (meanF w3 R n).1, .int .i64 (meanF w3 R n).2] true, y1, y2, y3, y4])) →
      leaveK 1 [RV.t 2] (exI pr nq 1 cD ((3, V.c (C.ptr 1 0)) :: (4, V.c (C.int .i64 n)) :: (5, V.c (C.ptr 2 0)) :: (6, V.c (C.bool (playB R n 2))) :: (9, V.c (C.ptr i9 0)) :: (13, V.c (C.ptr i13 0)) :: (17, V.c (C.int .i64 (endsN R n))) :: (21, V.c (C.int .i64 (crN R))) :: z) h) = some (.c (.bool true), [byB bs false]) := by
    intro z i9 i13 h x1 x2 x3 y1 y2 y3 y4 y5 y6 hh
    rw [← hD]
    cases hq : playB R n 2 with
    | false => rcases hh with ⟨rfl, rfl, rfl⟩ | ⟨rfl, rfl, rfl⟩ <;> simp [sub]
    | true =>
      obtain ⟨h, h0, h2⟩ := playB_facts hR hq
      obtain ⟨m, rfl⟩ := Int.eq_ofNat_of_zero_le h0
      have hm : m ≤ 2 := by omega
      have hk : okRack R = true := (rack_eq R h.len).symm.trans h.val
      have e1 : meanF w1 R (m : Int) = meanV w1 endB m R := by simp [meanF, hq]
      have e2 : meanF w2 R (m : Int) = meanV w2 endB m R := by simp [meanF, hq]
      have e3 : meanF w3 R (m : Int) = meanV w3 endB m R := by simp [meanF, hq]
      have e4 : endsN R (m : Int) = (endsX R m).length := by simp [endsN, hq]
      rw [e1, e2, e3] at hh
      rw [e4]
      clear e1 e2 e3 e4
      have hF := end_facts h hm
      generalize meanV w1 endB m R = A at *
      generalize meanV w2 endB m R = B at *
      generalize meanV w3 endB m R = D at *
      generalize (endsX R m).length = e at *
      obtain ⟨⟨S, s1, s2⟩, f2, f3, f4, f5, f6⟩ := hF
      have u1 := callA_new (up (c_impl_UsefulPours R h)) (by simp)
      have u2 := callA_pure (up (c_impl_IsSorted R hR)) (by simp) (by simp)
      rw [hk] at u2
      have he1 : ¬ (e : Int) < 1 := by omega
      have hw0 : IntKind.i64.wrap 0 = 0 := wrapI (by omega) (by omega)
      have hw1 : IntKind.i64.wrap 1 = 1 := wrapI (by omega) (by omega)
      have hm3 : m = 0 ∨ m = 1 ∨ m = 2 := by omega
      rcases hm3 with rfl | rfl | rfl
      · obtain ⟨rfl, g2⟩ := f4 rfl
        by_cases hA : A.1 = 0
        · obtain ⟨a1, a2⟩ := A
          obtain rfl : a1 = 0 := hA
          simp at s1
          rcases hh with ⟨rfl, rfl, rfl⟩ | ⟨rfl, rfl, rfl⟩ <;> simp [s1, s2, f2, u1, u2, R24, hR, sub]
        · have hs : sortP R = true := by
            rcases g2 with g2 | g2
            · exact absurd g2 hA
            · exact g2
          have hA' : ¬ (A.1 : Int) = 0 := by omega
          have hA2 : ((A.1 : Int) == 0) = false := beq_eq_false_iff_ne.2 hA'
          have hA3 : ((A.1 : Int) != 0) = true := by simp [bne, hA2]
          rw [hs] at u2
          rcases hh with ⟨rfl, rfl, rfl⟩ | ⟨rfl, rfl, rfl⟩ <;> simp [s1, s2, f2, u1, u2, hA, hA', hA2, hA3, R24, hR, sub]
      · obtain ⟨A', B', t1, t2, t3, t4⟩ := f6 (by omega)
        have t1 := t1
        simp at t1 t2
        have g := f5 rfl
        cases hs : sortP R with
        | true =>
          rw [hs] at u2
          rcases hh with ⟨rfl, rfl, rfl⟩ | ⟨rfl, rfl, rfl⟩ <;> simp [s1, s2, f2, u1, u2, he1, hw0, hw1, R24, hR, t1, t2, t3, t4, sub, setAt, setAt_all]
        | false =>
          rw [hs] at u2
          have g : (usefulL R).length = 0 ∨ e ≤ (usefulL R).length := by
            rcases g with g | g
            · rw [hs] at g; cases g
            · exact g
          by_cases hz : (usefulL R).length = 0
          · rcases hh with ⟨rfl, rfl, rfl⟩ | ⟨rfl, rfl, rfl⟩ <;> simp [s1, s2, f2, u1, u2, he1, hw0, hw1, hz, R24, hR, t1, t2, t3, t4, sub, setAt, setAt_all]
          · have hz1 : 0 < (usefulL R).length := by omega
            have hz2 : ¬ (usefulL R).length < e := by omega
            rcases hh with ⟨rfl, rfl, rfl⟩ | ⟨rfl, rfl, rfl⟩ <;> simp [s1, s2, f2, u1, u2, he1, hw0, hw1, hz, hz1, hz2, R24, hR, t1, t2, t3, t4, sub, setAt, setAt_all]
      · obtain ⟨A', B', t1, t2, t3, t4⟩ := f6 (by omega)
        simp at t1 t2
        rcases hh with ⟨rfl, rfl, rfl⟩ | ⟨rfl, rfl, rfl⟩ <;> simp [s1, s2, f2, u1, u2, he1, hw0, hw1, R24, hR, t1, t2, t3, t4, sub, setAt, setAt_all]
  generalize hC : (ACode.seq (ACode.seq (ACode.region (AOper.mk (some 219) none _ :: _) _) _) _) = cB
  have mainB : leaveK 1 [RV.t 2] (exI pr nq 1 cB [(3, V.c (C.ptr 1 0)), (4, V.c (C.int .i64 n)), (5, V.c (C.ptr 2 0)), (6, V.c (C.bool (playB R n 2))), (9, V.c (C.ptr 4 0)), (13, V.c (C.ptr 6 0)), (17, V.c (C.int .i64 (endsN R n))), (21, V.c (C.int .i64 (crN R))), (25, V.c (C.ptr 9 0)), (26, V.c (C.int .i64 k)), (27, V.c (C.ptr 10 0)), (28, V.c (C.ptr 11 0)), (29, V.c (C.bool (bestB U k))), (218, V.c (C.bool false))]
      [byB bs false, Blk.cells (R.map (C.int .i64)) true, Blk.cells [.int .i64 (meanF w1 R n).1, .int .i64 (meanF w1 R n).2] true, Blk.cells [.int .i64 (meanF w1 R n).1, .int .i64 (meanF w1 R n).2] true, Blk.cells [.int .i64 (meanF w2 R n).1, .int .i64 (meanF w2 R n).2] true, Blk.cells [.int .i64 (meanF w2 R n).1, .int .i64 (meanF w2 R n).2] true, Blk.cells [.int .i64 (meanF w3 R n).1, .int .i64 (meanF w3 R n).2] true, Blk.cells [.int .i64 (meanF w3 R n).1, .int .i64 (meanF w3 R n).2] true,
        byB bs1 true, Blk.cells (U.map (C.int .i64)) true, Blk.cells [.int .i64 (bestV U k).1.1, .int .i64 (bestV U k).1.2] true, Blk.cells [.int .i64 (bestV U k).2.1, .int .i64 (bestV U k).2.2] true, Blk.cells [.int .i64 (bestV U k).1.1, .int .i64 (bestV U k).1.2] true, Blk.cells [.int .i64 (bestV U k).2.1, .int .i64 (bestV U k).2.2] true]) = some (.c (.bool true), [byB bs false]) := by
    rw [← hC]
    cases hq : bestB U k with
    | false =>
      simp
      exact main _ 4 6 _ _ _ _ _ _ _ _ _ _ (.inl ⟨rfl, rfl, rfl⟩)
    | true =>
      have hq2 := hq
      unfold bestB at hq2
      simp only [Bool.and_eq_true, Bool.not_eq_true'] at hq2
      obtain ⟨hq3, he⟩ := hq2
      obtain ⟨h, h0, h2⟩ := playB_facts hU hq3
      obtain ⟨m, rfl⟩ := Int.eq_ofNat_of_zero_le h0
      have hm : m ≤ 1 := by omega
      have hk : okRack U = true := (rack_eq U h.len).symm.trans h.val
      have hl := endB_useful U he
      have hl30 := usefulL_len30 U
      obtain ⟨p, hp, hbest, hall⟩ := best_all hm h (0, 0) hl
      have hbv : bestV U (m : Int) = (p, (((partM w1 m U p).1 : Int), ((partM w1 m U p).2 : Int))) := by
        unfold bestV bestOf2
        rw [if_pos hq]
        exact hbest
      rw [hbv]
      have u1 := callA_new (up (c_impl_UsefulPours U h)) (by simp)
      have hvp := c_laws_vPour (usefulL U) (padC U) (padC_ids U) (by omega) p.1 p.2
      rw [decide_eq_true (show (p.1, p.2) ∈ usefulL U from hp)] at hvp
      have gvp := callN_slz (rest := [.agg [.int .i64 p.1, .int .i64 p.2]]) rfl (by simp [cids_app]) (up hvp) 14
      have hF : ∀ a b c d : Nat, a * d < 9223372036854775808 → c * b < 9223372036854775808 → fnI pr nq 24 [.agg [.int .i64 a, .int .i64 b], .agg [.int .i64 c, .int .i64 d]] [] = some (.c (.bool (decide (a * d < c * b))), []) := fun a b c d h1 h2 => up (c_laws_vLess a b c d h1 h2)
      obtain ⟨px1, px2, px3⟩ := part_num hm h hp
      simp [u1, gvp, hU, U24, sub, cids_app, cmp_app]
      rw [loop_to (fun i => ([(3, V.c (C.ptr 1 0)), (4, V.c (C.int .i64 n)), (5, V.c (C.ptr 2 0)), (6, V.c (C.bool (playB R n 2))), (9, V.c (C.ptr 3 0)), (13, V.c (C.ptr 4 0)), (17, V.c (C.int .i64 (endsN R n))), (21, V.c (C.int .i64 (crN R))), (25, V.c (C.ptr 5 0)), (26, V.c (C.int .i64 m)), (27, V.c (C.ptr 6 0)), (28, V.c (C.ptr 7 0)), (33, V.c (C.sl 8 0 (usefulL U).length 2)), (35, V.c (C.int .i64 i))],
        [byB bs false, Blk.cells (R.map (C.int .i64)) true, Blk.cells [.int .i64 (meanF w1 R n).1, .int .i64 (meanF w1 R n).2] true, Blk.cells [.int .i64 (meanF w2 R n).1, .int .i64 (meanF w2 R n).2] true, Blk.cells [.int .i64 (meanF w3 R n).1, .int .i64 (meanF w3 R n).2] true, Blk.cells (U.map (C.int .i64)) true, Blk.cells [.int .i64 p.1, .int .i64 p.2] true, Blk.cells [.int .i64 (partM w1 m U p).1, .int .i64 (partM w1 m U p).2] true, Blk.cells (flatC (usefulL U) ++ padC U) true])) (usefulL U).length]
      · simp
        exact main _ 3 4 _ (.dead) (.dead) (.dead) _ _ _ _ (.dead) (.dead) (.inr ⟨rfl, rfl, rfl⟩)
      · simp [sub, cids_app, cmp_app]
      · intro i hi
        have hqm := List.getElem_mem hi
        obtain ⟨_, _, hrk⟩ := useful_pour h hqm
        have hle := hall _ hqm
        obtain ⟨qx1, qx2, qx3⟩ := part_num hm h hqm
        have hpv := callA_pure (up (c_impl_Pour U hU ((usefulL U)[i]'hi).1 ((usefulL U)[i]'hi).2)) (by simp) (by simp [pV])
        rw [pV_useful2 hk hqm] at hpv
        have hch := callA_pure (up (c_impl_ChanceSortedBy (pourR U ((usefulL U)[i]'hi).1 ((usefulL U)[i]'hi).2) hrk.len (m : Int))) (by simp) (by simp [meanR])
        rw [meanR_at (w := w1) hrk (m := m) (by omega)] at hch
        have ep : meanV w1 endB m (pourR U ((usefulL U)[i]'hi).1 ((usefulL U)[i]'hi).2) = partM w1 m U ((usefulL U)[i]'hi) := rfl
        rw [ep] at hch
        obtain ⟨g1, g2⟩ := flatC_take1 (usefulL U) (padC U) hi
        have g3 := flatC_get (usefulL U) (padC U) i hi
        have b1 : i * 2 + 1 ≤ (usefulL U).length * 2 + (padC U).length := by omega
        have b2 : i * 2 + 1 + 1 ≤ (usefulL U).length * 2 + (padC U).length := by omega
        have b3 : i * 2 + 2 ≤ (usefulL U).length * 2 + (padC U).length := by omega
        have wi := wrapS (k := i) (by omega)
        have hrl := hrk.len
        have hr24 := take24 hrl
        have hless := less_call (a := (partM w1 m U p).1) (b := (partM w1 m U p).2) (c := (partM w1 m U ((usefulL U)[i]'hi)).1) (d := (partM w1 m U ((usefulL U)[i]'hi)).2) hF hle (by
          have : (partM w1 m U p).1 * (partM w1 m U ((usefulL U)[i]'hi)).2 ≤ 720 * 30 := Nat.mul_le_mul px3 qx2
          omega)
        generalize pourR U ((usefulL U)[i]'hi).1 ((usefulL U)[i]'hi).2 = Y at *
        generalize hqi : (usefulL U)[i]'hi = q at *
        by_cases hqp : q = p
        · subst hqp
          generalize partM w1 m U q = x at *
          simp [hi, hU, U24, g1, g2, g3, b1, b2, b3, wi, hpv, hch, hrl, hr24, hless, conf, conf1, setAt, setAt_all, sub, cids_app, cmp_app]
        · have hqp' : ¬ ((q.1 : Int) = (p.1 : Int) ∧ (q.2 : Int) = (p.2 : Int)) := fun e => hqp (Prod.ext (by omega) (by omega))
          generalize partM w1 m U q = y at *
          generalize partM w1 m U p = x at *
          simp [hi, hU, U24, g1, g2, g3, b1, b2, b3, wi, hpv, hch, hrl, hr24, hless, conf, conf1, setAt, setAt_all, sub, cids_app, cmp_app, hqp']
  have v1 := callA_pure (up (c_impl_ChanceSortedBy R hR n)) (by simp) (by simp [meanR])
  have v2 := callA_pure (up (c_spec_ChanceSortedBy R hR n)) (by simp) (by simp [meanR])
  have v3 := callA_pure (up (c_impl_ChanceStuckBy R hR n)) (by simp) (by simp [meanR])
  have v4 := callA_pure (up (c_spec_ChanceStuckBy R hR n)) (by simp) (by simp [meanR])
  have v5 := callA_pure (up (c_impl_MeanRunsBehind R hR n)) (by simp) (by simp [meanR])
  have v6 := callA_pure (up (c_spec_MeanRunsBehind R hR n)) (by simp) (by simp [meanR])
  have v7 := callA_pure (q_ends R hR n) (by simp) (by simp [endsV])
  simp only [xFn] at v7
  have v8 := callA_pure (up (c_spec_CountEnds R hR n)) (by simp) (by simp [endsV])
  have v9 := callA_pure (up (c_impl_CountRuns R hR)) (by simp) (by simp)
  have v10 := callA_pure (up (c_spec_CountRuns R hR)) (by simp) (by simp)
  have v11 := callA_pure (up (c_impl_BestChance U hU k)) (by simp) (by simp [bestRV])
  have v12 := callA_pure (up (c_spec_BestChance U hU k)) (by simp) (by simp [bestRV])
  have hqt : playB R n 2 = true → okRack R = true := fun h => by
    unfold playB at h
    simp only [Bool.and_eq_true] at h
    exact h.1
  unfold meanR at v1 v2 v3 v4 v5 v6
  unfold endsV at v7 v8
  unfold bestRV at v11 v12
  clear main hD hC
  generalize meanF w1 R n = A at *
  generalize meanF w2 R n = B at *
  generalize meanF w3 R n = D at *
  generalize endsN R n = e at *
  generalize crN R = ru at *
  generalize bestV U k = be at *
  generalize bestB U k = bb at *
  generalize playB R n 2 = q at *
  generalize okRack R = t at *
  cases q with
  | false =>
    simp [hbig, gD0, gD1, hcut1, v1, v2, v3, v4, v5, v6, v7, v8, v9, v10, v11, v12, hR, hU, R24, U24, conf, conf1, setAt, setAt_all, sub]
    simpa using mainB
  | true =>
    obtain rfl := hqt rfl
    simp [hbig, gD0, gD1, hcut1, v1, v2, v3, v4, v5, v6, v7, v8, v9, v10, v11, v12, hR, hU, R24, U24, conf, conf1, setAt, setAt_all, sub]
    simpa using mainB
end Go.Proofs.Ytafphbegpjjolaa.AM
