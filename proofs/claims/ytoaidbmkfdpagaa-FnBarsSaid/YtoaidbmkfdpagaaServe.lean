import Derived.Test.YtoaidbmkfdpagaaBack
/- Contracts: a bar is served; the law. -/
namespace Go.Proofs.Ytoaidbmkfdpagaa.AM
open Go
set_option maxRecDepth 1000000
set_option linter.unusedSimpArgs false
set_option linter.unusedVariables false
/-! ### a bar's cells -/
theorem barC_len {r : List Int} (hr : r.length = 24) (m n : Int) : (barC r m n).length = 26 := (barC_parts r hr m n).1
@[simp] theorem barC_id (r : List Int) (m n : Int) : cids (barC r m n) = [] := barC_ids r m n
@[simp] theorem barC_mp (g : Nat → Nat) (r : List Int) (m n : Int) : cmp g (barC r m n) = barC r m n := cmp_pure (barC_ids r m n)
@[simp] theorem barC_dead (r : List Int) (m n : Int) : noDead (barC r m n) = true := noDead_bar r m n
theorem barC_rack {r : List Int} (hr : r.length = 24) (m n : Int) : (barC r m n).take 24 = r.map (C.int .i64) := (barC_parts r hr m n).2.1
theorem barC_m {r : List Int} (hr : r.length = 24) (m n : Int) : ((barC r m n).drop 24).take 1 = [C.int .i64 m] := by rw [(barC_parts r hr m n).2.2.1]; rfl
theorem barC_n {r : List Int} (hr : r.length = 24) (m n : Int) : ((barC r m n).drop 25).take 1 = [C.int .i64 n] := by rw [(barC_parts r hr m n).2.2.2.1]; rfl
theorem barC_all {r : List Int} (hr : r.length = 24) (m n : Int) : (barC r m n).take 26 = barC r m n := (barC_parts r hr m n).2.2.2.2
theorem barC_set {r s : List Int} (hr : r.length = 24) (hs : s.length = 24) (m n : Int) : setAt (barC r m n) 0 (s.map (C.int .i64)) = barC s m n := by
  have := setAt_front (s.map (C.int .i64)) (r.map (C.int .i64)) [C.int .i64 m, C.int .i64 n] [] (by simp [hr, hs])
  simpa [barC] using this
theorem barC_setm {r : List Int} (hr : r.length = 24) (m n x : Int) : (barC r m n).set 24 (C.int .i64 x) = barC r x n := by
  unfold barC
  rw [List.set_append_right _ _ (by simp; omega)]
  simp [hr]
theorem barC_setn {r : List Int} (hr : r.length = 24) (m n x : Int) : (barC r m n).set 25 (C.int .i64 x) = barC r m x := by
  unfold barC
  rw [List.set_append_right _ _ (by simp; omega)]
  simp [hr]
def barOK (r : List Int) (m n : Int) : Bool := okRack r && (decide (0 ≤ m) && decide (m ≤ 9999)) && (decide (0 ≤ n) && decide (n ≤ 1000))
theorem c_bar_impl (r : List Int) (hr : r.length = 24) (m n : Int) : fnI pr np 77 [.agg (barC r m n)] [] = some (.c (.bool (barOK r m n)), []) := by
  have h := c_impl_IsBar r hr m n
  rw [rack_eq r hr] at h
  exact h
theorem c_bar_spec (r : List Int) (hr : r.length = 24) (m n : Int) : fnI pr np 163 [.agg (barC r m n)] [] = some (.c (.bool (barOK r m n)), []) := c_spec_l12Good r hr m n
/-! ### what a serve does -/
def svO (r : List Int) (k a b c : Int) : Option (List Int × Int) :=
  if k = 1 ∧ c = 0 then (if pB r a b = true then some (pR r a b, pN r a b) else none)
  else if k = 2 ∧ c = 0 then (if ptB r a b = true then some (ptR r a b, 0) else none)
  else if k = 3 ∧ b = 0 ∧ c = 0 then (if tkB r a = true then some (tkR r a, 0) else none)
  else if k = 4 ∧ c = 0 then (if swB r a b = true then some (swR r a b, 0) else none)
  else if k = 5 then (if pbB r a b c = true then some (pbR r a b c, -c) else none)
  else none
theorem pN_range (r : List Int) (a b : Int) : 0 ≤ pN r a b ∧ pN r a b ≤ 4 := by
  unfold pN
  split
  · have := pourN_le4 r a.toNat b.toNat
    omega
  · omega
theorem pb_range {r : List Int} {a b c : Int} (h : pbB r a b c = true) : 1 ≤ c ∧ c ≤ 4 := by
  unfold pbB bkB bkC at h
  simp only [Bool.and_eq_true] at h
  obtain ⟨_, ⟨⟨⟨_, h3⟩, _⟩, _⟩⟩ := h
  simp only [inB, Bool.and_eq_true, decide_eq_true_eq] at h3
  unfold bkM at h3
  omega
theorem svO_facts {r : List Int} (hr : r.length = 24) {k a b c : Int} {s : List Int} {d : Int} (h : svO r k a b c = some (s, d)) : s.length = 24 ∧ -4 ≤ d ∧ d ≤ 4 := by
  unfold svO at h
  split at h
  · split at h
    · injection h with h; injection h with h1 h2; subst h1; subst h2
      have := pN_range r a b
      exact ⟨pR_len hr a b, by omega, by omega⟩
    · cases h
  · split at h
    · split at h
      · injection h with h; injection h with h1 h2; subst h1; subst h2
        exact ⟨ptR_len hr a b, by omega, by omega⟩
      · cases h
    · split at h
      · split at h
        · injection h with h; injection h with h1 h2; subst h1; subst h2
          exact ⟨tkR_len hr a, by omega, by omega⟩
        · cases h
      · split at h
        · split at h
          · injection h with h; injection h with h1 h2; subst h1; subst h2
            exact ⟨swR_len hr a b, by omega, by omega⟩
          · cases h
        · split at h
          · split at h
            · rename_i hp
              injection h with h; injection h with h1 h2; subst h1; subst h2
              have := pb_range hp
              exact ⟨pbR_len hr a b c, by omega, by omega⟩
            · cases h
          · cases h
def svV (r : List Int) (m n k a b c : Int) : V := match svO r k a b c with
  | some (s, d) => .tup [.agg (barC s (m + d) (n + 1)), .c (.bool true)]
  | none => .tup [.agg (List.replicate 26 (C.int .i64 0)), .c (.bool false)]
set_option maxHeartbeats 8000000 in
theorem c_impl_serve (r : List Int) (hr : r.length = 24) (m n : Int) (hm : 0 ≤ m ∧ m ≤ 9999) (hn : 0 ≤ n ∧ n ≤ 1000) (k a b c : Int) : fnI pr np 162 [.agg (barC r m n), .agg [.int .i64 k, .int .i64 a, .int .i64 b, .int .i64 c]] [] = some (svV r m n k a b c, []) := by
  have l0 := barC_len hr m n
  have l1 := barC_rack hr m n
  have l2 := barC_all hr m n
  have wn : IntKind.i64.wrap (n + 1) = n + 1 := wrapI (by omega) (by omega)
  have w0 : IntKind.i64.wrap m = m := wrapI (by omega) (by omega)
  have fin : ∀ s : List Int, s.length = 24 → ∀ x, (barC s x n).length = 26 ∧ setAt (barC r m n) 0 (s.map (C.int .i64)) = barC s m n ∧ ((barC s x n).drop 24).take 1 = [C.int .i64 x] ∧ ((barC s x n).drop 25).take 1 = [C.int .i64 n] ∧ (∀ y, (barC s m n).set 24 (C.int .i64 y) = barC s y n) ∧ (∀ y, (barC s x n).set 25 (C.int .i64 y) = barC s x y) ∧ (∀ y, (barC s x y).take 26 = barC s x y) ∧ (∀ y, (barC s x y).length = 26) ∧ (s.map (C.int .i64)).take 24 = s.map (C.int .i64) := fun s hs x => ⟨barC_len hs _ _, barC_set hr hs m n, barC_m hs x n, barC_n hs x n, fun y => barC_setm hs m n y, fun y => barC_setn hs x n y, fun y => barC_all hs x y, fun y => barC_len hs x y, take24 hs⟩
  rw [fb (fn := a162) rfl rfl]
  unfold svV svO
  by_cases k1 : k = 1
  · subst k1
    by_cases hc : c = 0
    · subst hc
      have h := c_impl_Pour r hr a b
      unfold pV at h
      have hl := pR_len hr a b
      have hN := pN_range r a b
      have w1 : IntKind.i64.wrap (m + pN r a b) = m + pN r a b := wrapI (by omega) (by omega)
      cases q : pB r a b with
      | false =>
        rw [q] at h
        have h := callA_pure h (by simp) (by simp)
        obtain ⟨f0, f1, f2, f3, f4, f5, f6, f7, f8⟩ := fin _ hl m
        generalize pR r a b = s at *
        generalize pN r a b = d at *
        simp [a162, l0, l1, l2, h, hl, f0, f1, f8, setAt_all, sub]
      | true =>
        rw [q] at h
        have h := callA_pure h (by simp) (by simp)
        obtain ⟨f0, f1, f2, f3, f4, f5, f6, f7, f8⟩ := fin _ hl (m + pN r a b)
        have g2 := barC_m hl m n
        have g0 := barC_len hl m n
        generalize pR r a b = s at *
        generalize pN r a b = d at *
        simp [a162, l0, l1, l2, h, hl, f0, f1, f2, f3, f4, f5, f6, f7, f8, g0, g2, w1, wn, setAt_all, setAt, sub]
    · simp [a162, l0, l1, l2, hc, setAt_all, sub]
  · by_cases k2 : k = 2
    · subst k2
      by_cases hc : c = 0
      · subst hc
        have h := c_impl_PutLayer r hr a b
        unfold ptV at h
        have hl := ptR_len hr a b
        obtain ⟨f0, f1, f2, f3, f4, f5, f6, f7, f8⟩ := fin _ hl m
        cases q : ptB r a b with
        | false =>
          rw [q] at h
          have h := callA_pure h (by simp) (by simp)
          generalize ptR r a b = s at *
          simp [a162, l0, l1, l2, h, hl, f0, f1, f8, setAt_all, sub]
        | true =>
          rw [q] at h
          have h := callA_pure h (by simp) (by simp)
          generalize ptR r a b = s at *
          simp [a162, l0, l1, l2, h, hl, f0, f1, f2, f3, f4, f5, f6, f7, f8, w0, wn, setAt_all, setAt, sub]
      · simp [a162, l0, l1, l2, hc, setAt_all, sub]
    · by_cases k3 : k = 3
      · subst k3
        by_cases hb : b = 0
        · subst hb
          by_cases hc : c = 0
          · subst hc
            have h := c_impl_TakeLayer r hr a
            unfold tkV at h
            have hl := tkR_len hr a
            obtain ⟨f0, f1, f2, f3, f4, f5, f6, f7, f8⟩ := fin _ hl m
            cases q : tkB r a with
            | false =>
              rw [q] at h
              have h := callA_pure h (by simp) (by simp)
              generalize tkR r a = s at *
              simp [a162, l0, l1, l2, h, hl, f0, f1, f8, setAt_all, sub]
            | true =>
              rw [q] at h
              have h := callA_pure h (by simp) (by simp)
              generalize tkR r a = s at *
              simp [a162, l0, l1, l2, h, hl, f0, f1, f2, f3, f4, f5, f6, f7, f8, w0, wn, setAt_all, setAt, sub]
          · simp [a162, l0, l1, l2, hc, setAt_all, sub]
        · have hb' : (b == 0) = false := beq_eq_false_iff_ne.2 hb
          simp [a162, l0, l1, l2, hb, hb', setAt_all, sub]
      · by_cases k4 : k = 4
        · subst k4
          by_cases hc : c = 0
          · subst hc
            have h := c_impl_SwapTubes r hr a b
            unfold swV at h
            have hl := swR_len hr a b
            obtain ⟨f0, f1, f2, f3, f4, f5, f6, f7, f8⟩ := fin _ hl m
            cases q : swB r a b with
            | false =>
              rw [q] at h
              have h := callA_pure h (by simp) (by simp)
              generalize swR r a b = s at *
              simp [a162, l0, l1, l2, h, hl, f0, f1, f8, setAt_all, sub]
            | true =>
              rw [q] at h
              have h := callA_pure h (by simp) (by simp)
              generalize swR r a b = s at *
              simp [a162, l0, l1, l2, h, hl, f0, f1, f2, f3, f4, f5, f6, f7, f8, w0, wn, setAt_all, setAt, sub]
          · simp [a162, l0, l1, l2, hc, setAt_all, sub]
        · by_cases k5 : k = 5
          · subst k5
            have h := c_impl_PourBack r hr a b c
            unfold pbV at h
            have hl := pbR_len hr a b c
            cases q : pbB r a b c with
            | false =>
              rw [q] at h
              have h := callA_pure h (by simp) (by simp)
              obtain ⟨f0, f1, f2, f3, f4, f5, f6, f7, f8⟩ := fin _ hl m
              generalize pbR r a b c = s at *
              simp [a162, l0, l1, l2, h, hl, f0, f1, f8, setAt_all, sub]
            | true =>
              rw [q] at h
              have h := callA_pure h (by simp) (by simp)
              have hc := pb_range q
              have wneg : IntKind.i64.wrap (-c) = -c := wrapI (by omega) (by omega)
              have w1 : IntKind.i64.wrap (m + -c) = m + -c := wrapI (by omega) (by omega)
              obtain ⟨f0, f1, f2, f3, f4, f5, f6, f7, f8⟩ := fin _ hl (m + -c)
              have g2 := barC_m hl m n
              have g0 := barC_len hl m n
              generalize pbR r a b c = s at *
              simp [a162, l0, l1, l2, h, hl, f0, f1, f2, f3, f4, f5, f6, f7, f8, g0, g2, wneg, w1, wn, setAt_all, setAt, sub]
          · have e1 : (k == 1) = false := beq_eq_false_iff_ne.2 k1
            have e2 : (k == 2) = false := beq_eq_false_iff_ne.2 k2
            have e3 : (k == 3) = false := beq_eq_false_iff_ne.2 k3
            have e4 : (k == 4) = false := beq_eq_false_iff_ne.2 k4
            have e5 : (k == 5) = false := beq_eq_false_iff_ne.2 k5
            simp [a162, l0, l1, l2, k1, k2, k3, k4, k5, e1, e2, e3, e4, e5, setAt_all, sub]
/-- a bar behind a serve, if it is valid -/
def doO (r : List Int) (m n k a b c : Int) : Option (List Int × Int) := if barOK r m n = true then (match svO r k a b c with | some (s, d) => if barOK s (m + d) (n + 1) = true then some (s, m + d) else none | none => none) else none
def doV (r : List Int) (m n k a b c : Int) : V := match doO r m n k a b c with
  | some (s, x) => .tup [.agg (barC s x (n + 1)), .c (.bool true)]
  | none => .tup [.agg (List.replicate 26 (C.int .i64 0)), .c (.bool false)]
theorem barOK_range {r : List Int} {m n : Int} (h : barOK r m n = true) : (0 ≤ m ∧ m ≤ 9999) ∧ (0 ≤ n ∧ n ≤ 1000) := by
  simp only [barOK, Bool.and_eq_true, decide_eq_true_eq] at h
  exact ⟨h.1.2, h.2⟩
set_option maxHeartbeats 4000000 in
theorem c_impl_DoServe (r : List Int) (hr : r.length = 24) (m n k a b c : Int) : fnI pr np 70 [.agg (barC r m n), .agg [.int .i64 k, .int .i64 a, .int .i64 b, .int .i64 c]] [] = some (doV r m n k a b c, []) := by
  have l0 := barC_len hr m n
  have l2 := barC_all hr m n
  have h0 := callA_pure (c_bar_impl r hr m n) (by simp) (by simp)
  rw [fb (fn := a70) rfl rfl]
  unfold doV doO
  cases hq : barOK r m n with
  | false => rw [hq] at h0; simp [a70, l0, l2, h0, setAt_all, sub]
  | true =>
    rw [hq] at h0
    obtain ⟨hm, hn⟩ := barOK_range hq
    have h1 := c_impl_serve r hr m n hm hn k a b c
    unfold svV at h1
    cases hs : svO r k a b c with
    | none =>
      rw [hs] at h1
      have h1 := callA_pure h1 (by simp) (by simp)
      simp [a70, l0, l2, h0, h1, setAt_all, sub]
    | some p =>
      obtain ⟨s, d⟩ := p
      obtain ⟨hl, _, _⟩ := svO_facts hr hs
      rw [hs] at h1
      have h1 := callA_pure h1 (by simp) (by simp)
      have h2 := callA_pure (c_bar_impl s hl (m + d) (n + 1)) (by simp) (by simp)
      have l3 := barC_len hl (m + d) (n + 1)
      have l4 := barC_all hl (m + d) (n + 1)
      cases hq2 : barOK s (m + d) (n + 1) with
      | false => rw [hq2] at h2; simp [a70, l0, l2, l3, l4, h0, h1, h2, hq2, setAt_all, sub]
      | true => rw [hq2] at h2; simp [a70, l0, l2, l3, l4, h0, h1, h2, hq2, setAt_all, sub]
end Go.Proofs.Ytoaidbmkfdpagaa.AM
