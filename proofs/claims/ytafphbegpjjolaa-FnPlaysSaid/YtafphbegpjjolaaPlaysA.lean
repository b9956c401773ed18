import Derived.Test.YtafphbegpjjolaaPlaysP
import Derived.Test.YtafphbegpjjolaaDrawPl
/- Contracts: what the law on plays asks of fractions, pours and racks. -/
namespace Go.Proofs.Ytafphbegpjjolaa.AM
open Go
set_option maxRecDepth 1000000
set_option linter.unusedSimpArgs false
set_option linter.unusedVariables false
theorem c_laws_vLess (a b c d : Nat) (h1 : a * d < 9223372036854775808) (h2 : c * b < 9223372036854775808) : fnI pr np 24 [.agg [.int .i64 a, .int .i64 b], .agg [.int .i64 c, .int .i64 d]] [] = some (.c (.bool (decide (a * d < c * b))), []) := by
  have w1 : IntKind.i64.wrap ((a : Int) * (d : Int)) = ((a * d : Nat) : Int) := by rw [← Int.natCast_mul]; exact wrapN h1
  have w2 : IntKind.i64.wrap ((c : Int) * (b : Int)) = ((c * b : Nat) : Int) := by rw [← Int.natCast_mul]; exact wrapN h2
  have e : decide (((a * d : Nat) : Int) < ((c * b : Nat) : Int)) = decide (a * d < c * b) := by apply decide_eq_decide.2; omega
  generalize a * d = x at *
  generalize c * b = y at *
  rw [fb (fn := a24) rfl rfl]
  simp [a24, w1, w2, e]
def vSumL (x y : Nat × Nat) : Nat × Nat := cutF (x.1 * (y.2 / Nat.gcd x.2 y.2) + y.1 * (x.2 / Nat.gcd x.2 y.2)) (x.2 / Nat.gcd x.2 y.2 * y.2)
set_option maxHeartbeats 4000000 in
theorem c_laws_vPlusL (a b c d : Nat) (hb : b ≤ 1000000000000000) (hd : d ≤ 1000000000000000) (hb0 : 0 < b) (hd0 : 0 < d) (hn1 : a * (d / Nat.gcd b d) ≤ 1000000000000000) (hn2 : c * (b / Nat.gcd b d) ≤ 1000000000000000) (hn3 : b / Nat.gcd b d * d ≤ 1000000000000000) : fnI pr np 25 [.agg [.int .i64 a, .int .i64 b], .agg [.int .i64 c, .int .i64 d]] [] = some (.agg [.int .i64 (vSumL (a, b) (c, d)).1, .int .i64 (vSumL (a, b) (c, d)).2], []) := by
  have hg : 0 < Nat.gcd b d := Nat.gcd_pos_of_pos_right b hd0
  have hq2 : 0 < b / Nat.gcd b d := Nat.div_pos (Nat.le_of_dvd hb0 (Nat.gcd_dvd_left b d)) hg
  have l1 : b / Nat.gcd b d ≤ 1000000000000000 := Nat.le_trans (Nat.div_le_self _ _) hb
  have l2 : d / Nat.gcd b d ≤ 1000000000000000 := Nat.le_trans (Nat.div_le_self _ _) hd
  have z1 : (d : Int).tdiv (Nat.gcd b d : Int) = ((d / Nat.gcd b d : Nat) : Int) := rfl
  have z2 : (b : Int).tdiv (Nat.gcd b d : Int) = ((b / Nat.gcd b d : Nat) : Int) := rfl
  have hS : vSumL (a, b) (c, d) = cutF (a * (d / Nat.gcd b d) + c * (b / Nat.gcd b d)) (b / Nat.gcd b d * d) := rfl
  rw [hS]
  rw [fb (fn := a25) rfl rfl]
  simp [a25]
  generalize hL : (ACode.loop _ [2, 3, 4, 5, 6]) = L
  have key : ∀ (y x : Nat) (e : Env) (h : Heap), gcE 0 [2, 3, 4, 5, 6] e h = some ([(2, V.c (C.ptr 0 0)), (3, V.c (C.ptr 1 0)), (4, V.c (C.ptr 2 0)), (5, V.c (C.int .i64 x)), (6, V.c (C.int .i64 y))], [Blk.cells [C.int .i64 a, C.int .i64 b] true, Blk.cells [C.int .i64 c, C.int .i64 d] true, Blk.cells [C.int .i64 0, C.int .i64 0] true]) →
      exI pr np 0 L e h = some (.exit 0, [(2, V.c (C.ptr 0 0)), (3, V.c (C.ptr 1 0)), (4, V.c (C.ptr 2 0)), (5, V.c (C.int .i64 (Nat.gcd x y))), (6, V.c (C.int .i64 0)), (14, V.c (C.bool false))], [Blk.cells [C.int .i64 a, C.int .i64 b] true, Blk.cells [C.int .i64 c, C.int .i64 d] true, Blk.cells [C.int .i64 0, C.int .i64 0] true]) := by
    intro y
    induction y using Nat.strongRecOn with
    | ind y ih =>
      intro x e h hg
      rw [← hL, exI_loop', hg]
      by_cases hy : y = 0
      · subst hy
        simp
      · have hy' : ¬ (y : Int) = 0 := by omega
        have hy2 : (0 : Int) < (y : Int) := by omega
        have hy3 : 0 < y := by omega
        have ht : (x : Int).tmod (y : Int) = ((x % y : Nat) : Int) := rfl
        have hlt : x % y < y := Nat.mod_lt _ (by omega)
        simp [hy, hy', hy2, hy3, ht, -Int.natCast_emod, sub]
        rw [hL]
        refine (ih (x % y) hlt y _ _ ?_).trans ?_
        · simp [sub]
        · rw [Nat.gcd_comm y, ← Nat.gcd_rec, Nat.gcd_comm]
  rw [key d b _ _ (by simp [sub])]
  clear key hL
  have hg' : ¬ ((Nat.gcd b d : Nat) : Int) = 0 := by omega
  generalize hgd : Nat.gcd b d = g at *
  have hgz : ¬ g = 0 := by omega
  generalize hq1 : d / g = q1 at *
  generalize hq2e : b / g = q2 at *
  have w1 : IntKind.i64.wrap (q1 : Int) = (q1 : Int) := wrapI (by omega) (by omega)
  have w2 : IntKind.i64.wrap (q2 : Int) = (q2 : Int) := wrapI (by omega) (by omega)
  have n4 : 0 < q2 * d := Nat.mul_pos hq2 hd0
  have w3 : IntKind.i64.wrap ((a : Int) * (q1 : Int)) = ((a * q1 : Nat) : Int) := by rw [← Int.natCast_mul]; exact wrapN (by omega)
  have w4 : IntKind.i64.wrap ((c : Int) * (q2 : Int)) = ((c * q2 : Nat) : Int) := by rw [← Int.natCast_mul]; exact wrapN (by omega)
  have w5 : IntKind.i64.wrap ((q2 : Int) * (d : Int)) = ((q2 * d : Nat) : Int) := by rw [← Int.natCast_mul]; exact wrapN (by omega)
  generalize a * q1 = p1 at *
  generalize c * q2 = p2 at *
  have w6 : IntKind.i64.wrap ((p1 : Int) + (p2 : Int)) = ((p1 + p2 : Nat) : Int) := (wrapI (by omega) (by omega)).trans (by omega)
  have n5 : p1 + p2 ≤ 2000000000000000 := by omega
  generalize p1 + p2 = T at *
  generalize q2 * d = U at *
  simp [hg', hgz, z1, z2, w1, w2, w3, w4, w5, w6, sub]
  generalize hL : (ACode.loop _ [4, 5, 6, 7, 8]) = L
  have key : ∀ (y x : Nat) (e : Env) (h : Heap), gcE 0 [4, 5, 6, 7, 8] e h = some ([(4, V.c (C.ptr 0 0)), (5, V.c (C.int .i64 x)), (6, V.c (C.int .i64 y)), (7, V.c (C.int .i64 T)), (8, V.c (C.int .i64 U))], [Blk.cells [C.int .i64 0, C.int .i64 0] true]) →
      exI pr np 0 L e h = some (.exit 2, [(4, V.c (C.ptr 0 0)), (5, V.c (C.int .i64 (Nat.gcd x y))), (6, V.c (C.int .i64 0)), (7, V.c (C.int .i64 T)), (8, V.c (C.int .i64 U)), (44, V.c (C.bool false))], [Blk.cells [C.int .i64 0, C.int .i64 0] true]) := by
    intro y
    induction y using Nat.strongRecOn with
    | ind y ih =>
      intro x e h hg
      rw [← hL, exI_loop', hg]
      by_cases hy : y = 0
      · subst hy
        simp
      · have hy' : ¬ (y : Int) = 0 := by omega
        have hy2 : (0 : Int) < (y : Int) := by omega
        have hy3 : 0 < y := by omega
        have ht : (x : Int).tmod (y : Int) = ((x % y : Nat) : Int) := rfl
        have hlt : x % y < y := Nat.mod_lt _ (by omega)
        simp [hy, hy', hy2, hy3, ht, -Int.natCast_emod, sub]
        rw [hL]
        refine (ih (x % y) hlt y _ _ ?_).trans ?_
        · simp [sub]
        · rw [Nat.gcd_comm y, ← Nat.gcd_rec, Nat.gcd_comm]
  rw [key U T _ _ (by simp [sub])]
  clear key hL
  unfold cutF
  have hG : 0 < Nat.gcd T U := Nat.gcd_pos_of_pos_right T n4
  have hG' : ¬ ((Nat.gcd T U : Nat) : Int) = 0 := by omega
  have y1 : (T : Int).tdiv (Nat.gcd T U : Int) = ((T / Nat.gcd T U : Nat) : Int) := rfl
  have y2 : (U : Int).tdiv (Nat.gcd T U : Int) = ((U / Nat.gcd T U : Nat) : Int) := rfl
  have m1 : T / Nat.gcd T U ≤ T := Nat.div_le_self _ _
  have m2 : U / Nat.gcd T U ≤ U := Nat.div_le_self _ _
  generalize T / Nat.gcd T U = X at *
  generalize U / Nat.gcd T U = Y at *
  generalize Nat.gcd T U = G at *
  have hGz : ¬ G = 0 := by omega
  have u1 : IntKind.i64.wrap (X : Int) = (X : Int) := wrapI (by omega) (by omega)
  have u2 : IntKind.i64.wrap (Y : Int) = (Y : Int) := wrapI (by omega) (by omega)
  simp [hG', hGz, y1, y2, u1, u2, setAt, setAt_all, sub]
/-- a sum of at most 1 -/
theorem vSumL_small {x y : Nat × Nat} (hx : 0 < x.2) (hy : 0 < y.2) (h : x.1 * y.2 + y.1 * x.2 ≤ x.2 * y.2) : (vSumL x y).1 ≤ (vSumL x y).2 := by
  have hg : 0 < Nat.gcd x.2 y.2 := Nat.gcd_pos_of_pos_right _ hy
  obtain ⟨u, hu⟩ := Nat.gcd_dvd_left x.2 y.2
  obtain ⟨v, hv⟩ := Nat.gcd_dvd_right x.2 y.2
  unfold vSumL
  refine Nat.div_le_div_right ?_
  generalize Nat.gcd x.2 y.2 = g at *
  have e1 : x.2 / g = u := by rw [hu]; exact Nat.mul_div_cancel_left u hg
  have e2 : y.2 / g = v := by rw [hv]; exact Nat.mul_div_cancel_left v hg
  rw [e1, e2]
  have : g * (x.1 * v + y.1 * u) ≤ g * (u * y.2) := by
    calc g * (x.1 * v + y.1 * u) = x.1 * (g * v) + y.1 * (g * u) := by rw [Nat.mul_add]; ac_rfl
      _ = x.1 * y.2 + y.1 * x.2 := by rw [← hu, ← hv]
      _ ≤ x.2 * y.2 := h
      _ = g * u * y.2 := by rw [← hu]
      _ = g * (u * y.2) := by ac_rfl
  exact Nat.le_of_mul_le_mul_left this hg
theorem vSumL_pos {x y : Nat × Nat} (hx : 0 < x.2) (hy : 0 < y.2) : 0 < (vSumL x y).2 := by
  have hg : 0 < Nat.gcd x.2 y.2 := Nat.gcd_pos_of_pos_right _ hy
  exact cutF_pos (Nat.mul_pos (Nat.div_pos (Nat.le_of_dvd hx (Nat.gcd_dvd_left _ _)) hg) hy)
theorem c_impl_IsSorted (r : List Int) (hr : r.length = 24) : fnI pr np 26 [.agg (r.map (C.int .i64))] [] = some (.tup [.c (.bool (okRack r && sortP r)), .c (.bool (okRack r))], []) := by
  have h24 := take24 hr
  have hk := callA_pure (c_rack_impl r hr) (by simp) (by simp)
  rw [fb (fn := a26) rfl rfl]
  cases hq : okRack r with
  | false => rw [hq] at hk; simp [a26, hr, h24, hk]
  | true =>
    rw [hq] at hk
    have hs := callA_pure (c_impl_isSorted r (rackOK hr hq)) (by simp) (by simp)
    simp [a26, hr, h24, hk, hs]
def crN (r : List Int) : Nat := if okRack r = true then runsFrom r 0 6 else 0
theorem c_impl_CountRuns (r : List Int) (hr : r.length = 24) : fnI pr np 15 [.agg (r.map (C.int .i64))] [] = some (.tup [.c (.int .i64 (crN r)), .c (.bool (okRack r))], []) := by
  have h24 := take24 hr
  have hk := callA_pure (c_rack_impl r hr) (by simp) (by simp)
  rw [fb (fn := a15) rfl rfl]
  unfold crN
  cases hq : okRack r with
  | false => rw [hq] at hk; simp [a15, hr, h24, hk]
  | true =>
    rw [hq] at hk
    have hs := callA_pure (c_impl_countRuns r hr (rackOK hr hq).val) (by simp) (by simp)
    simp [a15, hr, h24, hk, hs]
theorem c_spec_CountRuns (r : List Int) (hr : r.length = 24) : fnI pr np 16 [.agg (r.map (C.int .i64))] [] = some (.tup [.c (.int .i64 (crN r)), .c (.bool (okRack r))], []) := by
  have h24 := take24 hr
  have hk := callA_pure (c_rack_spec r hr) (by simp) (by simp)
  rw [fb (fn := a16) rfl rfl]
  unfold crN
  cases hq : okRack r with
  | false => rw [hq] at hk; simp [a16, hr, h24, hk]
  | true =>
    rw [hq] at hk
    have hs := callA_pure (c_spec_l6Runs r hr (rackOK hr hq).val) (by simp) (by simp)
    simp [a16, hr, h24, hk, hs]
theorem place_of2 {i : Nat} (h : i < 6) : placeB (i : Int) = true := by
  unfold placeB
  simp
  omega
theorem pV_useful2 {r : List Int} (hq : okRack r = true) {p : Nat × Nat} (hp : p ∈ usefulL r) : pV r p.1 p.2 = .tup [.agg ((pourR r p.1 p.2).map (C.int .i64)), .c (.int .i64 (pourN r p.1 p.2 : Int)), .c (.bool true)] := by
  obtain ⟨h1, h2, h3⟩ := mem_usefulL hp
  have hb : pB r p.1 p.2 = true := by
    unfold pB
    rw [hq, place_of2 h1, place_of2 h2]
    simpa using h3
  unfold pV pR pN
  rw [hb]
  simp
theorem c_impl_UsefulPours (r : List Int) (h : RackOK r) : fnI pr np 21 [.agg (r.map (C.int .i64))] [] = some (.tup [.c (.sl 0 0 (usefulL r).length 2), .c (.bool true)], [.cells (flatC (usefulL r) ++ padC r) true]) := by
  have hr := h.len
  have h24 := take24 hr
  have hq : okRack r = true := (rack_eq r hr).symm.trans h.val
  have h1 := callA_pure (c_rack_impl r hr) (by simp) (by simp)
  rw [hq] at h1
  have h2 := callA_new (c_impl_useful r h) (by simp)
  rw [fb (fn := a21) rfl rfl]
  simp [a21, hr, h24, h1, h2, sub, cids_app, cmp_app]
theorem c_laws_vPour (l : List (Nat × Nat)) (z : List C) (hz : cids z = []) (hl : l.length ≤ 1000) (a b : Nat) : fnI pr np 22 [.c (.sl 0 0 l.length 2), .agg [.int .i64 a, .int .i64 b]] [.cells (flatC l ++ z) true] = some (.c (.bool (decide ((a, b) ∈ l))), [.cells (flatC l ++ z) true]) := by
  obtain ⟨K, hK1, hK2, hK3⟩ := first_exit (fun k => decide (l.getD k (0, 0) = (a, b))) l.length
  have hzm : ∀ g, cmp g z = z := fun g => cmp_pure hz
  have hget : ∀ k (hk : k < l.length), l.getD k (0, 0) = l[k]'hk := fun k hk => by rw [List.getD_eq_getElem?_getD, List.getElem?_eq_getElem hk]; rfl
  rw [fb (fn := a22) rfl rfl]
  simp [a22]
  rw [loop_to (fun k => ([(0, V.c (C.sl 0 0 l.length 2)), (3, V.c (C.ptr 1 0)), (5, V.c (C.int .i64 k))], [Blk.cells (flatC l ++ z) true, Blk.cells [C.int .i64 a, C.int .i64 b] true])) K]
  · by_cases hk : K < l.length
    · have hx : l[K]'hk = (a, b) := by
        rcases hK2 with h | h
        · omega
        · rw [← hget K hk]; exact of_decide_eq_true h
      have hm : (a, b) ∈ l := by rw [← hx]; exact List.getElem_mem hk
      have gk := flatC_get l z K hk
      rw [hx] at gk
      have b1 : K * 2 + 2 ≤ l.length * 2 + z.length := by omega
      simp [hk, gk, b1, hm, hz, hzm, conf, conf1, sub]
    · have hm : ¬ (a, b) ∈ l := by
        intro hm
        obtain ⟨j, hj, he⟩ := List.mem_iff_getElem.1 hm
        have := of_decide_eq_false (hK3 j (by omega))
        rw [hget j hj] at this
        exact this he
      simp [hk, hm, hz, hzm, sub]
  · simp [hz, hzm, sub]
  · intro k hk
    have hkl : k < l.length := by omega
    have hx := of_decide_eq_false (hK3 k hk)
    rw [hget k hkl] at hx
    have gk := flatC_get l z k hkl
    generalize l[k]'hkl = p at *
    obtain ⟨c, d⟩ := p
    have hne : ¬ ((c : Int) = (a : Int) ∧ (d : Int) = (b : Int)) := fun h => hx (by rw [Prod.mk.injEq]; omega)
    have b1 : k * 2 + 2 ≤ l.length * 2 + z.length := by omega
    have wk := wrapS (k := k) (by omega)
    have hne' : ¬ (c = a ∧ d = b) := fun h => hx (by rw [h.1, h.2])
    simp [hkl, gk, b1, wk, hne', hz, hzm, conf, conf1, sub]
    intro h1 h2
    exact absurd ⟨h1, h2⟩ hne
end Go.Proofs.Ytafphbegpjjolaa.AM
