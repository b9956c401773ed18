import Derived.Test.YtenheijeahpbkaaT15
namespace Go.Proofs.Ytenheijeahpbkaa.AM
open Go
set_option maxRecDepth 1000000
set_option linter.unusedSimpArgs false
set_option linter.unusedVariables false
/-- how many colors from k on are there -/
def colorsFrom (c : List Int) (k : Nat) : Nat → Nat
  | 0 => 0
  | d + 1 => (if 0 < c.getD k 0 then 1 else 0) + colorsFrom c (k + 1) d
theorem colorsFrom_le (c : List Int) : ∀ (d k : Nat), colorsFrom c k d ≤ d
  | 0, _ => Nat.le_refl _
  | d + 1, k => by
    have := colorsFrom_le c d (k + 1)
    unfold colorsFrom
    split <;> omega
theorem runsFrom_le {r : List Int} (hr : r.length = 24) : ∀ (d i : Nat), i + d ≤ 6 → runsFrom r i d ≤ 4 * d
  | 0, _, _ => Nat.le_refl _
  | d + 1, i, h => by
    have := runsFrom_le hr d (i + 1) (by omega)
    have h2 := runsOf_len (tubeAt r i)
    rw [tubeAt_len hr (by omega)] at h2
    unfold runsFrom
    omega
def cnts (r : List Int) : List Int := bumps r [0, 0, 0, 0, 0, 0] 0 24
theorem cnts_small (r : List Int) : small (cnts r) 24 := by
  have := small_bumps r 24 _ 0 0 zeros6
  unfold cnts
  simpa using this
def spare (r : List Int) : Int := (runsFrom r 0 6 : Int) - (colorsFrom (cnts r) 1 5 : Int)
theorem c57 (r : List Int) (hr : r.length = 24) (hv : rackP r = true) : fnI pr np 57 [.agg (r.map (C.int .i64))] [] = some (.tup [.c (.int .i64 (spare r)), .c (.bool true)], []) := by
  have h24 : (r.map (C.int .i64)).take 24 = r.map (C.int .i64) := List.take_of_length_le (by simp; omega)
  have h36 := c36 r hr
  rw [hv] at h36
  have hc36 := callA_pure h36 (by simp) (by simp)
  have hc77 := callA_pure (c77 r hr hv) (by simp) (by simp)
  have h78 := c78 r hr hv
  rw [show bumps r [0, 0, 0, 0, 0, 0] 0 24 = cnts r from rfl] at h78
  have hc78 := callA_pure h78 (by simp) (by simp)
  have hcl : (cnts r).length = 6 := (cnts_small r).1
  have hsa : setAt [C.int .i64 0, C.int .i64 0, C.int .i64 0, C.int .i64 0, C.int .i64 0, C.int .i64 0] 0 ((cnts r).map (C.int .i64)) = (cnts r).map (C.int .i64) := setAt_all _ _ (by simp [hcl])
  have hr24 := runsFrom_le hr 6 0 (Nat.le_refl _)
  rw [fb (fn := a57) rfl rfl]
  simp [a57, hr, h24, hc36, hc77, hc78, hcl, hsa]
  generalize hL1 : (ACode.loop _ _) = L1
  generalize hR : (ACode.seq _ ACode.ret) = R
  have key : ∀ (d k : Nat) (A : Int) (e : Env) (h : Heap), k + d = 5 → -(k : Int) ≤ A ∧ A ≤ 24 → gcE 0 [4, 15, 16, 17] e h = some ([(4, V.c (C.int .i64 A)), (15, V.c (C.sl 0 1 5 1)), (16, V.c (C.int .i64 5)), (17, V.c (C.int .i64 k))], [Blk.cells ((cnts r).map (C.int .i64)) true]) → leaveK 0 [RV.t 2, RV.t 3] (seqK pr np 0 R (blockK 0 (exI pr np 0 L1 e h))) = some (.tup [.c (.int .i64 (A - (colorsFrom (cnts r) (1 + k) d : Int))), .c (.bool true)], []) := by
    intro d
    induction d with
    | zero =>
      intro k A e h hk hA hg
      have hk : k = 5 := by omega
      subst hk
      rw [← hL1, exI_loop', hg]
      simp [← hR, colorsFrom]
    | succ d ih =>
      intro k A e h hk hA hg
      have hk5 : k < 5 := by omega
      have hk' : (k : Int) < 5 := by omega
      have hx := take1 (c := cnts r) (j := 1 + k) (by omega)
      have hxr : 0 ≤ (cnts r).getD (1 + k) 0 := by
        rw [List.getD_eq_getElem?_getD, List.getElem?_eq_getElem (by omega)]
        exact ((cnts_small r).2 _ (List.getElem_mem _)).1
      have hlen : 1 + k + 1 ≤ 6 := by omega
      have hwk : IntKind.i64.wrap ((k : Int) + 1) = ((k + 1 : Nat) : Int) := by rw [wrapI (by omega) (by omega)]; rfl
      have ih := ih (k + 1)
      rw [show 1 + (k + 1) = 1 + k + 1 by omega] at ih
      unfold colorsFrom
      generalize (cnts r).getD (1 + k) 0 = x at hx hxr
      rw [← hL1, exI_loop', hg]
      by_cases hx1 : 0 < x
      · have hmin : (if (1 : Int) < x then (1 : Int) else x) = 1 := by split <;> omega
        have hw : IntKind.i64.wrap (A - 1) = A - 1 := wrapI (by omega) (by omega)
        simp [hk', hk5, hcl, hx, hlen, hmin, hw, hwk, hx1]
        rw [hL1]
        refine (ih (A - 1) _ _ (by omega) (by omega) ?_).trans ?_
        · rw [gcE_told (L := [0]) (by simp [gcL, upto, reach, idsAt, envIds]) (by simp [closed, inL, idsAt, envIds])]
          simp [sub, pos]
        · simp; omega
      · have hx0 : x = 0 := by omega
        subst hx0
        have hw : IntKind.i64.wrap A = A := wrapI (by omega) (by omega)
        simp [hk', hk5, hcl, hx, hlen, hw, hwk]
        rw [hL1]
        refine (ih A _ _ (by omega) (by omega) ?_).trans ?_
        · rw [gcE_told (L := [0]) (by simp [gcL, upto, reach, idsAt, envIds]) (by simp [closed, inL, idsAt, envIds])]
          simp [sub, pos]
        · simp
  refine (key 5 0 (runsFrom r 0 6) _ _ rfl (by omega) ?_).trans (by simp [spare])
  rw [gcE_told (L := [1]) (by simp [gcL, upto, reach, idsAt, envIds]) (by simp [closed, inL, idsAt, envIds])]
  simp [sub, pos]
/-- what both answer -/
def runsLeft (r : List Int) (m n : Int) : V := .tup [.c (.int .i64 (if okBar r m n then spare r else 0)), .c (.bool (okBar r m n))]
theorem okBar_rack {r : List Int} {m n : Int} (hr : r.length = 24) (h : okBar r m n = true) : rackP r = true := by
  rw [rack_eq r hr]
  unfold okBar at h
  simp only [Bool.and_eq_true] at h
  exact h.1.1
theorem c34 (r : List Int) (hr : r.length = 24) (m n : Int) : fnI pr np 34 [.agg (barC r m n)] [] = some (runsLeft r m n, []) := by
  have h12 := c12 r hr m n
  rw [rack_eq r hr, show (!anyFrom (rowBad r) 0 6 && (decide (0 ≤ m) && decide (m ≤ 9999)) && (decide (0 ≤ n) && decide (n ≤ 1000))) = okBar r m n from rfl, show r.map (C.int .i64) ++ [C.int .i64 m, C.int .i64 n] = barC r m n from rfl] at h12
  have hc := callA_pure h12 (by simp [barC_ids]) (by simp)
  obtain ⟨b0, b24, _, _, b26⟩ := barC_parts r hr m n
  unfold runsLeft
  cases hq : okBar r m n with
  | true =>
    rw [hq] at hc
    have hc57 := callA_pure (c57 r hr (okBar_rack hr hq)) (by simp) (by simp)
    rw [fb (fn := a34) rfl rfl]
    simp [a34, b0, b24, b26, hc, hc57]
  | false =>
    rw [hq] at hc
    rw [fb (fn := a34) rfl rfl]
    simp [a34, b0, b24, b26, hc]
theorem c33 (r : List Int) (hr : r.length = 24) (m n : Int) : fnI pr np 33 [.agg (barC r m n)] [] = some (runsLeft r m n, []) := by
  have h35 := c35 r hr m n
  rw [show (!anyFrom (rowBad r) 0 6 && (decide (0 ≤ m) && decide (m ≤ 9999)) && (decide (0 ≤ n) && decide (n ≤ 1000))) = okBar r m n from rfl, show r.map (C.int .i64) ++ [C.int .i64 m, C.int .i64 n] = barC r m n from rfl] at h35
  have hc := callA_pure h35 (by simp [barC_ids]) (by simp)
  have hbids := barC_ids r m n
  obtain ⟨b0, b24, _, _, b26⟩ := barC_parts r hr m n
  unfold runsLeft
  cases hq : okBar r m n with
  | false =>
    rw [hq] at hc
    rw [fb (fn := a33) rfl rfl]
    simp [a33, b0, b24, b26, hc]
  | true =>
    rw [hq] at hc
    have hv := okBar_rack hr hq
    have h55 := c55 r hr hv
    rw [show bumps r [0, 0, 0, 0, 0, 0] 0 24 = cnts r from rfl] at h55
    have hc55 := callA_pure h55 (by simp) (by simp)
    have hc56 := callA_pure (c56 r hr hv) (by simp) (by simp)
    have hcl : (cnts r).length = 6 := (cnts_small r).1
    have hsa : setAt [C.int .i64 0, C.int .i64 0, C.int .i64 0, C.int .i64 0, C.int .i64 0, C.int .i64 0] 0 ((cnts r).map (C.int .i64)) = (cnts r).map (C.int .i64) := setAt_all _ _ (by simp [hcl])
    have hr24 := runsFrom_le hr 6 0 (Nat.le_refl _)
    have hgc : ∀ (live : List Nat) (e : Env) (g : Heap), envIds (restrict e live) = [0, 1] → gcE 0 live e (Blk.cells (barC r m n) true :: Blk.cells ((cnts r).map (C.int .i64)) true :: g) = some ((restrict e live).map (fun p => (p.1, p.2.mp (pos [0, 1]))), [Blk.cells (barC r m n) true, Blk.cells ((cnts r).map (C.int .i64)) true]) := by
      intro live e g he
      rw [gcE_told (L := [0, 1]) (by rw [he]; simp [gcL, upto, reach, idsAt, hbids]) (by rw [he]; simp [closed, inL, idsAt, hbids])]
      simp [sub, cmp_pure hbids]
    rw [fb (fn := a33) rfl rfl]
    simp [a33, b0, b24, b26, hc, hc55, hcl, hsa]
    generalize hL1 : (ACode.loop _ _) = L1
    generalize hR : (ACode.seq _ ACode.ret) = R
    have key : ∀ (d k A : Nat), k + d = 5 → A ≤ k → leaveK 0 [RV.t 2, RV.t 3] (seqK pr np 0 R (blockK 0 (exI pr np 0 L1 [(1, V.c (C.ptr 0 0)), (4, V.c (C.int .i64 A)), (5, V.c (C.ptr 1 0)), (6, V.c (C.int .i64 ((k + 1 : Nat) : Int)))] [Blk.cells (barC r m n) true, Blk.cells ((cnts r).map (C.int .i64)) true]))) = some (.tup [.c (.int .i64 ((runsFrom r 0 6 : Int) - ((A + colorsFrom (cnts r) (1 + k) d : Nat) : Int))), .c (.bool true)], []) := by
      intro d
      induction d with
      | zero =>
        intro k A hk hA
        have hk : k = 5 := by omega
        subst hk
        have hw : IntKind.i64.wrap ((runsFrom r 0 6 : Int) - (A : Int)) = (runsFrom r 0 6 : Int) - (A : Int) := wrapI (by omega) (by omega)
        rw [← hL1, exI_loop', hgc _ _ _ (by simp [envIds])]
        simp [← hR, colorsFrom, pos, b0, b24, hc56, hw]
      | succ d ih =>
        intro k A hk hA
        have hk5 : k < 5 := by omega
        have hk' : (k : Int) + 1 ≤ 5 := by omega
        have hk0 : (0 : Int) ≤ (k : Int) + 1 := by omega
        have hk6 : (k : Int) + 1 < 6 := by omega
        have hkn : ((k : Int) + 1).toNat = 1 + k := by omega
        have hx := take1 (c := cnts r) (j := 1 + k) (by omega)
        have hxr : 0 ≤ (cnts r).getD (1 + k) 0 := by
          rw [List.getD_eq_getElem?_getD, List.getElem?_eq_getElem (by omega)]
          exact ((cnts_small r).2 _ (List.getElem_mem _)).1
        have hlen : 1 + k + 1 ≤ 6 := by omega
        have hwk : IntKind.i64.wrap ((k : Int) + 1 + 1) = ((k + 1 + 1 : Nat) : Int) := by rw [wrapI (by omega) (by omega)]; rfl
        have hwA : IntKind.i64.wrap ((A : Int) + 1) = ((A + 1 : Nat) : Int) := by rw [wrapI (by omega) (by omega)]; rfl
        have ih := ih (k + 1)
        rw [show 1 + (k + 1) = 1 + k + 1 by omega] at ih
        unfold colorsFrom
        generalize (cnts r).getD (1 + k) 0 = x at hx hxr
        rw [← hL1, exI_loop', hgc _ _ _ (by simp [envIds])]
        by_cases hx1 : 0 < x
        · simp [pos, hk', hk0, hk6, hkn, hcl, hx, hlen, hwk, hwA, hx1]
          rw [hL1]
          refine (Eq.trans ?_ (ih (A + 1) (by omega) (by omega))).trans ?_
          · simp
          · simp; omega
        · simp [pos, hk', hk0, hk6, hkn, hcl, hx, hlen, hwk, hx1]
          rw [hL1]
          refine (Eq.trans ?_ (ih A (by omega) (by omega))).trans ?_
          · simp
          · simp
    exact (key 5 0 0 rfl (by omega)).trans (by simp [spare])
theorem c9 (r : List Int) (hr : r.length = 24) (m n : Int) : fnI pr np 9 [.agg (barC r m n)] [] = some (.c (.bool true), []) := by
  have hidr := barC_ids r m n
  have hc33 := callA_pure (c33 r hr m n) (by simp [hidr]) (by simp [runsLeft])
  have hc34 := callA_pure (c34 r hr m n) (by simp [hidr]) (by simp [runsLeft])
  have hc11 := callA_pure (c11 r hr m n) (by simp [hidr]) (by simp [hidr])
  unfold runsLeft at hc33 hc34
  generalize (if okBar r m n then spare r else 0) = x at hc33 hc34
  obtain ⟨h0, _, _, _, h26⟩ := barC_parts r hr m n
  rw [fb (fn := a9) rfl rfl]
  simp [a9, h0, h26, hc11, hc33, hc34]
end Go.Proofs.Ytenheijeahpbkaa.AM
