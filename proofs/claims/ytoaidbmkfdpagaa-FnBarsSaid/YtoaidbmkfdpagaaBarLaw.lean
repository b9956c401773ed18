import Derived.Test.YtoaidbmkfdpagaaDrawBars
import Derived.Test.YtoaidbmkfdpagaaBarQ
import Derived.Test.YtoaidbmkfdpagaaVCut
/- Law: bars. -/
namespace Go.Proofs.Ytoaidbmkfdpagaa.AM
open Go
set_option maxRecDepth 1000000
set_option linter.unusedSimpArgs false
set_option linter.unusedVariables false
theorem callB_slz {F : Fns} {f n sz : Nat} {rest : List V} {b : Blk} {v : V} {ns : Heap} (hre : rest.flatMap V.ids = []) (hbi : b.ids = []) (hF : F f (.c (.sl 0 0 n sz) :: rest) [b] = some (v, b :: ns)) (i : Nat) (H : HF) (base : Nat) (hb : (H i == some b) = true) :
    callA F f (.c (.sl i 0 n sz) :: rest) H base = some (v.mp (back [i] base), ns.map (Blk.mp (back [i] base)), [(i, b)]) := by
  have hb : H i = some b := by simpa using hb
  exact callA_one (x := .c (.sl i 0 n sz)) hb (by simp) (by simp) hre hbi hF base
theorem c_impl_IsSorted (r : List Int) (hr : r.length = 24) : fnI pr np 79 [.agg (r.map (C.int .i64))] [] = some (.tup [.c (.bool (okRack r && sortP r)), .c (.bool (okRack r))], []) := by
  have h24 := take24 hr
  have hk := callA_pure (c_rack_impl r hr) (by simp) (by simp)
  rw [fb (fn := a79) rfl rfl]
  cases hq : okRack r with
  | false => rw [hq] at hk; simp [a79, hr, h24, hk]
  | true =>
    rw [hq] at hk
    have hs := callA_pure (c_impl_isSorted r (rackOK hr hq)) (by simp) (by simp)
    simp [a79, hr, h24, hk, hs]
theorem confB {r : List Int} (hr : r.length = 24) (m n : Int) : conf [CK.int .i64, CK.int .i64, CK.int .i64, CK.int .i64, CK.int .i64, CK.int .i64, CK.int .i64, CK.int .i64, CK.int .i64, CK.int .i64, CK.int .i64, CK.int .i64, CK.int .i64, CK.int .i64, CK.int .i64, CK.int .i64, CK.int .i64, CK.int .i64, CK.int .i64, CK.int .i64, CK.int .i64, CK.int .i64, CK.int .i64, CK.int .i64, CK.int .i64, CK.int .i64] (barC r m n) = true := by
  have : barC r m n = (r ++ [m, n]).map (C.int .i64) := by simp [barC]
  rw [this]
  exact conf_ints 26 _ (by simp [hr])
theorem doV_full {r : List Int} {m n : Int} (hr : r.length = 24) (k a b c : Int) : ∃ (S : List Int) (x y : Int) (q : Bool), S.length = 24 ∧ (q = true → doO r m n k a b c = some (S, x) ∧ y = n + 1) ∧ doV r m n k a b c = .tup [.agg (barC S x y), .c (.bool q)] := by
  cases h : doO r m n k a b c with
  | none => exact ⟨List.replicate 24 0, 0, 0, false, by simp, (fun h => nomatch h), by unfold doV; rw [h, barC_zero]⟩
  | some p =>
    obtain ⟨s, x⟩ := p
    have hl : s.length = 24 := by
      have h2 : srv ⟨r, m, n⟩ ⟨k, a, b, c⟩ = some ⟨s, x, n + 1⟩ := by unfold srv; dsimp only; rw [h]; rfl
      exact (srv_ok h2 hr).1
    exact ⟨s, x, n + 1, true, hl, (fun _ => ⟨rfl, rfl⟩), by unfold doV; rw [h]⟩
theorem doV_of {r : List Int} {m n k a b c : Int} {s : List Int} {x : Int} (h : doO r m n k a b c = some (s, x)) : doV r m n k a b c = .tup [.agg (barC s x (n + 1)), .c (.bool true)] := by unfold doV; rw [h]
set_option maxHeartbeats 16000000 in
theorem c_laws_FnBars (bs : List Int) (hlen : bs.length ≤ 9223372036854775807) (hrg : ∀ x ∈ bs, 0 ≤ x ∧ x < 256) : fnI pr np 7 [.c (.sl 0 0 bs.length 1)] [byB bs false] = some (.c (.bool true), [byB bs false]) := by
  have hbig := callB_slz (rest := []) rfl (by simp) (c_laws_vBig bs false hlen) 0
  rw [fb (fn := a7) rfl rfl]
  by_cases hB : 65536 < bs.length
  · rw [decide_eq_true hB] at hbig
    simp [a7, hbig, sub]
  rw [decide_eq_false hB] at hbig
  have hb : Bytes bs := ⟨hrg, by omega⟩
  obtain ⟨Q, hQ, hD⟩ := c_spec_DrawNewBar bs hb false
  have hD := callB_slz (rest := []) rfl (by simp) hD 0
  obtain ⟨bs1, hb1, hcut1⟩ := c_laws_vCut bs hb (by omega) false 1 (by omega)
  have hcut1 := callB_slz (rest := [.c (.int .i64 1)]) rfl (by simp) hcut1 0
  obtain ⟨bs2, hb2, hcut2⟩ := c_laws_vCut bs hb (by omega) false 2 (by omega)
  have hcut2 := callB_slz (rest := [.c (.int .i64 2)]) rfl (by simp) hcut2 0
  obtain ⟨r, m, n, k, a, b, c, hr, hD1⟩ := c_spec_DrawDoServe bs1 hb1 true
  have hD1 := callB_slz (rest := []) rfl (by simp) hD1 4
  obtain ⟨v, h', hD2, R, M, N, l, hR, hll, rfl, rfl⟩ := c_spec_DrawDoServes bs2 hb2 true
  have hD2 := callB_slz (rest := []) rfl (by simp) hD2 9
  obtain ⟨Q1, hQ1, _, hnb⟩ := newBar_form Q hQ
  have v1 := c_impl_NewBar Q hQ
  have v2 := c_spec_NewBar Q hQ
  rw [hnb] at v1 v2
  have v1 := callA_pure v1 (by simp) (by simp)
  have v2 := callA_pure v2 (by simp) (by simp)
  obtain ⟨E, x5, y5, i5, q5, hE, hq5, hsv⟩ := svs_form ⟨R, M, N⟩ hR l
  have v5 := c_impl_DoServes ⟨R, M, N⟩ hR l (by omega) true
  have v6 := c_spec_DoServes ⟨R, M, N⟩ hR l (by omega) true
  rw [hsv] at v5 v6
  have v5 := call_xslE (x := .agg (barC R M N)) (by simp) (by simp) v5
  have v6 := call_xslE (x := .agg (barC R M N)) (by simp) (by simp) v6
  have v7 := c_impl_RunsLeft r hr m n
  have v8 := c_spec_RunsLeft r hr m n
  unfold runsLeft at v7 v8
  rw [show okBar r m n = barOK r m n from rfl] at v7 v8
  have v7 := callA_pure v7 (by simp) (by simp)
  have v8 := callA_pure v8 (by simp) (by simp)
  have v9 := callA_pure (c_bar_impl r hr m n) (by simp) (by simp)
  have v10 := callA_pure (show fnI pr np 78 [.agg (barC r m n)] [] = some (.c (.bool (barOK r m n)), []) from c_spec_IsBar r hr m n) (by simp) (by simp)
  have v11 := callA_pure (c_bar_impl E hE x5 y5) (by simp) (by simp)
  have v12 := callA_pure (c_impl_IsSorted r hr) (by simp) (by simp)
  have q24 := take24 hQ
  have bq := barC_all hQ1 0 0
  have lq := (barC_parts Q1 hQ1 0 0).1
  have br := barC_all hr m n
  have lr := (barC_parts r hr m n).1
  have rr := barC_rack hr m n
  have bR := barC_all hR M N
  have lR := (barC_parts R hR M N).1
  have bE := barC_all hE x5 y5
  have lE := (barC_parts E hE x5 y5).1
  have cq := confB hQ1 0 0
  have cE := confB hE x5 y5
  obtain ⟨S, x, y, q, hS, hq, hdv⟩ := doV_full hr (m := m) (n := n) k a b c
  have v3 := c_impl_DoServe r hr m n k a b c
  have v4 := c_spec_DoServe r hr m n k a b c
  rw [hdv] at v3 v4
  have v3 := callA_pure v3 (by simp) (by simp)
  have v4 := callA_pure v4 (by simp) (by simp)
  have bS := barC_all hS x y
  have lS := (barC_parts S hS x y).1
  have cS := confB hS x y
  simp only [a7]
  generalize hC2 : (ACode.seq (ACode.seq (ACode.region (AOper.mk (some 176) none _ :: _) _) _) _) = d2
  generalize hC1 : (ACode.seq (ACode.seq (ACode.region (AOper.mk (some 150) none _ :: _) _) _) _) = d1
  have fin2 : ∀ (xs : Env), leaveK 1 [RV.t 2] (exI pr np 1 d2 ([(8, V.c (C.ptr 5 0)), (9, V.c (C.ptr 6 0)), (10, V.c (C.ptr 7 0)), (11, V.c (C.bool q))] ++ xs) [byB bs false, Blk.cells (Q.map (C.int .i64)) true, Blk.cells (barC Q1 0 0) true, Blk.cells (barC Q1 0 0) true, byB bs1 true, Blk.cells (barC r m n) true, Blk.cells [C.int .i64 k, C.int .i64 a, C.int .i64 b, C.int .i64 c] true, Blk.cells (barC S x y) true, Blk.cells (barC S x y) true, byB bs2 true, Blk.cells (cF l) true, Blk.cells (barC R M N) true, Blk.cells (barC E x5 y5) true, Blk.cells (barC E x5 y5) true]) = some (.c (.bool true), [byB bs false]) := by
    intro xs
    subst hC2
    cases q with
    | false => simp [sub]
    | true =>
      obtain ⟨hdo, hy⟩ := hq rfl
      obtain ⟨hb1, d, hs1, hs2, hb2⟩ := doO_some hdo
      obtain ⟨i1, i2⟩ := barOK_range hb1
      obtain ⟨j1, j2⟩ := barOK_range hb2
      have w1 := callA_pure (c_bar_impl S hS x y) (by simp) (by simp)
      rw [show barOK S x y = true by rw [hy]; exact hb2] at w1
      have gy := barC_n hS x y
      have gn := barC_n hr m n
      have gx := barC_m hS x y
      have gm := barC_m hr m n
      have wn : IntKind.i64.wrap (n + 1) = y := (wrapI (by omega) (by omega)).trans hy.symm
      have wx : IntKind.i64.wrap (x - m) = x - m := wrapI (by omega) (by omega)
      have cr := confB hr m n
      by_cases hy1 : y = 1000
      · have hyb : (y == 1000) = true := beq_iff_eq.2 hy1
        have hyd : (y = 1000) = True := eq_true hy1
        simp [bS, lS, lr, w1, gy, gn, wn, hyb, hyd, sub]
      · have hy1b : (y == 1000) = false := beq_eq_false_iff_ne.2 hy1
        have hn1 : n + 1 ≠ 1000 := by omega
        by_cases hk1 : k = 1
        · subst hk1
          have hbk := doO_back hr hdo hn1
          rw [← hy] at hbk
          have u1 := c_impl_DoServe S hS x y 5 a b (x - m)
          rw [doV_of hbk] at u1
          have u1 := callA_pure u1 (by simp) (by simp)
          have br2 := barC_all hr m (y + 1)
          have lr2 := (barC_parts r hr m (y + 1)).1
          have st := barC_setn hr m (y + 1) n
          simp [bS, lS, br, lr, w1, gy, gn, gx, gm, wn, wx, hy1, hy1b, u1, br2, lr2, st, cr, setAt_all, setAt, sub]
        · have hk1b : (k == 1) = false := beq_eq_false_iff_ne.2 hk1
          by_cases hk2 : k = 2
          · subst hk2
            have htk := doO_take hr hdo hn1
            rw [← hy] at htk
            have u1 := c_impl_DoServe S hS x y 3 a 0 0
            rw [doV_of htk] at u1
            have u1 := callA_pure u1 (by simp) (by simp)
            have br2 := barC_all hr x (y + 1)
            have lr2 := (barC_parts r hr x (y + 1)).1
            have rr2 := barC_rack hr x (y + 1)
            have c24 := conf24 r hr
            simp [bS, lS, br, lr, rr, w1, gy, gn, gx, gm, wn, wx, hy1, hy1b, u1, br2, lr2, rr2, c24, setAt_all, setAt, sub]
          · have hk2b : (k == 2) = false := beq_eq_false_iff_ne.2 hk2
            simp [bS, lS, br, lr, w1, gy, gn, wn, hy1, hy1b, hk1, hk1b, hk2, hk2b, sub]
  simp [hbig, hD, hD1, hD2, hcut1, hcut2, hQ, q24, v1, v2, v5, v6, v7, v8, v9, v10, v11, v12, bq, lq, br, lr, rr, bR, lR, bE, lE, cq, cE, hr, conf1, setAt_all, setAt, back, sub, v3, v4, bS, lS, cS]
  subst hC1
  have hleft : barOK r m n = true → 0 ≤ spare r ∧ (sortP r = true → spare r = 0) := by
    intro hb
    have hk := rackOK hr (barOK_rack hb)
    exact ⟨spare_pos hk, spare_zero hk⟩
  have hrk : barOK r m n = true → okRack r = true := barOK_rack
  generalize spare r = sp at *
  clear v1 v2 v3 v4 v5 v6 v7 v8 hD hD1 hD2 hcut1 hcut2 hbig hC2
  cases q5 with
  | false =>
    cases hone : barOK r m n with
    | false =>
      simp [sub]
      exact fin2 _
    | true =>
      obtain ⟨p1, p2⟩ := hleft hone
      rw [hrk hone] at v12
      have p1' : ¬ sp < 0 := by omega
      cases hso : sortP r with
      | false =>
        rw [hso] at v12
        simp [v12, lr, rr, p1, p1', sub]
        exact fin2 _
      | true =>
        rw [hso] at v12
        have p3 := p2 hso
        simp [v12, lr, rr, p1, p1', p3, sub]
        exact fin2 _
  | true =>
    rw [hq5 rfl] at v11
    cases hone : barOK r m n with
    | false =>
      simp [v11, bE, lE, sub]
      exact fin2 _
    | true =>
      obtain ⟨p1, p2⟩ := hleft hone
      rw [hrk hone] at v12
      have p1' : ¬ sp < 0 := by omega
      cases hso : sortP r with
      | false =>
        rw [hso] at v12
        simp [v11, bE, lE, v12, lr, rr, p1, p1', sub]
        exact fin2 _
      | true =>
        rw [hso] at v12
        have p3 := p2 hso
        simp [v11, bE, lE, v12, lr, rr, p1, p1', p3, sub]
        exact fin2 _
end Go.Proofs.Ytoaidbmkfdpagaa.AM
