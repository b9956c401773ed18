import Derived.Test.YtoaidbmkfdpagaaServe
/- Contracts: the reference's serve of a bar; the law. -/
namespace Go.Proofs.Ytoaidbmkfdpagaa.AM
open Go
set_option maxRecDepth 1000000
set_option linter.unusedSimpArgs false
set_option linter.unusedVariables false
def mkO (r : List Int) (m k a b c : Int) : (List Int × Int) × Bool :=
  if k = 1 then ((pR r a b, m + pN r a b), pB r a b)
  else if k = 2 then ((ptR r a b, m), ptB r a b)
  else if k = 3 then ((tkR r a, m), tkB r a)
  else if k = 4 then ((swR r a b, m), swB r a b)
  else if k = 5 then (if pbB r a b c = true then ((pbR r a b c, m - c), true) else ((r, m), false))
  else ((r, m), false)
theorem mkO_len {r : List Int} (hr : r.length = 24) (m k a b c : Int) : (mkO r m k a b c).1.1.length = 24 := by
  unfold mkO
  split
  · exact pR_len hr a b
  · split
    · exact ptR_len hr a b
    · split
      · exact tkR_len hr a
      · split
        · exact swR_len hr a b
        · split
          · split
            · exact pbR_len hr a b c
            · exact hr
          · exact hr
def mkSV (r : List Int) (m n k a b c : Int) : V := .tup [.agg (barC (mkO r m k a b c).1.1 (mkO r m k a b c).1.2 n), .c (.bool (mkO r m k a b c).2)]
set_option maxHeartbeats 8000000 in
theorem c_spec_l12Make (r : List Int) (hr : r.length = 24) (m n : Int) (hm : 0 ≤ m ∧ m ≤ 9999) (k a b c : Int) : fnI pr np 223 [.agg (barC r m n), .agg [.int .i64 k, .int .i64 a, .int .i64 b, .int .i64 c]] [] = some (mkSV r m n k a b c, []) := by
  have l0 := barC_len hr m n
  have l1 := barC_rack hr m n
  have l2 := barC_all hr m n
  have fin : ∀ s : List Int, s.length = 24 → (barC s m n).length = 26 ∧ setAt (barC r m n) 0 (s.map (C.int .i64)) = barC s m n ∧ ((barC s m n).drop 24).take 1 = [C.int .i64 m] ∧ (∀ y, (barC s m n).set 24 (C.int .i64 y) = barC s y n) ∧ (∀ x y, (barC s x y).take 26 = barC s x y) ∧ (∀ x y, (barC s x y).length = 26) ∧ (s.map (C.int .i64)).take 24 = s.map (C.int .i64) := fun s hs => ⟨barC_len hs _ _, barC_set hr hs m n, barC_m hs m n, fun y => barC_setm hs m n y, fun x y => barC_all hs x y, fun x y => barC_len hs x y, take24 hs⟩
  rw [fb (fn := a223) rfl rfl]
  unfold mkSV mkO
  by_cases k1 : k = 1
  · subst k1
    have h := c_spec_Pour r hr a b
    unfold pV at h
    have hl := pR_len hr a b
    have hN := pN_range r a b
    have w1 : IntKind.i64.wrap (m + pN r a b) = m + pN r a b := wrapI (by omega) (by omega)
    generalize pB r a b = q at *
    have h := callA_pure h (by simp) (by simp)
    obtain ⟨f0, f1, f2, f3, f4, f5, f6⟩ := fin _ hl
    generalize pR r a b = s at *
    generalize pN r a b = d at *
    simp [a223, l0, l1, l2, h, hl, f0, f1, f2, f3, f4, f5, f6, w1, setAt_all, setAt, sub]
  · by_cases k2 : k = 2
    · subst k2
      have h := c_spec_PutLayer r hr a b
      unfold ptV at h
      have hl := ptR_len hr a b
      generalize ptB r a b = q at *
      have h := callA_pure h (by simp) (by simp)
      obtain ⟨f0, f1, f2, f3, f4, f5, f6⟩ := fin _ hl
      generalize ptR r a b = s at *
      simp [a223, l0, l1, l2, h, hl, f0, f1, f2, f3, f4, f5, f6, setAt_all, setAt, sub]
    · by_cases k3 : k = 3
      · subst k3
        have h := c_spec_TakeLayer r hr a
        unfold tkV at h
        have hl := tkR_len hr a
        generalize tkB r a = q at *
        have h := callA_pure h (by simp) (by simp)
        obtain ⟨f0, f1, f2, f3, f4, f5, f6⟩ := fin _ hl
        generalize tkR r a = s at *
        simp [a223, l0, l1, l2, h, hl, f0, f1, f2, f3, f4, f5, f6, setAt_all, setAt, sub]
      · by_cases k4 : k = 4
        · subst k4
          have h := c_spec_SwapTubes r hr a b
          unfold swV at h
          have hl := swR_len hr a b
          generalize swB r a b = q at *
          have h := callA_pure h (by simp) (by simp)
          obtain ⟨f0, f1, f2, f3, f4, f5, f6⟩ := fin _ hl
          generalize swR r a b = s at *
          simp [a223, l0, l1, l2, h, hl, f0, f1, f2, f3, f4, f5, f6, setAt_all, setAt, sub]
        · by_cases k5 : k = 5
          · subst k5
            have h := c_spec_PourBack r hr a b c
            unfold pbV at h
            have hl := pbR_len hr a b c
            obtain ⟨f0, f1, f2, f3, f4, f5, f6⟩ := fin _ hl
            cases q : pbB r a b c with
            | false =>
              rw [q] at h
              have h := callA_pure h (by simp) (by simp)
              generalize pbR r a b c = s at *
              simp [a223, l0, l1, l2, h, hl, f0, f1, f6, setAt_all, sub]
            | true =>
              rw [q] at h
              have h := callA_pure h (by simp) (by simp)
              have hc := pb_range q
              have w1 : IntKind.i64.wrap (m - c) = m - c := wrapI (by omega) (by omega)
              generalize pbR r a b c = s at *
              simp [a223, l0, l1, l2, h, hl, f0, f1, f2, f3, f4, f5, f6, w1, setAt_all, setAt, sub]
          · simp [a223, l0, l1, l2, k1, k2, k3, k4, k5, setAt_all, sub]
def plnB (k b c : Int) : Bool := if k = 3 then decide (b = 0) && decide (c = 0) else if k = 5 then true else decide (c = 0)
theorem c_spec_l12Plain (k a b c : Int) : fnI pr np 224 [.agg [.int .i64 k, .int .i64 a, .int .i64 b, .int .i64 c]] [] = some (.c (.bool (plnB k b c)), []) := by
  rw [fb (fn := a224) rfl rfl]
  unfold plnB
  by_cases k3 : k = 3
  · subst k3
    by_cases hb : b = 0
    · subst hb; simp [a224, sub]; rfl
    · have hb' : (b == 0) = false := beq_eq_false_iff_ne.2 hb
      simp [a224, hb, hb', sub]
  · by_cases k5 : k = 5
    · subst k5; simp [a224, sub]
    · simp [a224, k3, k5, sub]; rfl
theorem sv_of_mk (r : List Int) (m k a b c : Int) : svO r k a b c = if plnB k b c = true ∧ (mkO r m k a b c).2 = true then some ((mkO r m k a b c).1.1, (mkO r m k a b c).1.2 - m) else none := by
  have e1 : ∀ x : Int, m + x - m = x := fun x => by omega
  have e2 : ∀ x : Int, m - x - m = -x := fun x => by omega
  unfold svO mkO plnB
  by_cases k1 : k = 1
  · subst k1
    by_cases hc : c = 0 <;> simp [hc, e1]
  · by_cases k2 : k = 2
    · subst k2
      by_cases hc : c = 0 <;> simp [hc]
    · by_cases k3 : k = 3
      · subst k3
        by_cases hb : b = 0 <;> by_cases hc : c = 0 <;> simp [hb, hc]
      · by_cases k4 : k = 4
        · subst k4
          by_cases hc : c = 0 <;> simp [hc]
        · by_cases k5 : k = 5
          · subst k5
            by_cases hq : pbB r a b c = true <;> simp [hq, e2]
          · simp [k1, k2, k3, k4, k5]
set_option maxHeartbeats 4000000 in
theorem c_spec_l12Do (r : List Int) (hr : r.length = 24) (m n k a b c : Int) (hq : barOK r m n = true) : fnI pr np 164 [.agg (barC r m n), .agg [.int .i64 k, .int .i64 a, .int .i64 b, .int .i64 c]] [] = some (doV r m n k a b c, []) := by
  obtain ⟨hm, hn⟩ := barOK_range hq
  have l0 := barC_len hr m n
  have l2 := barC_all hr m n
  have l3 := barC_n hr m n
  have wn : IntKind.i64.wrap (n + 1) = n + 1 := wrapI (by omega) (by omega)
  have h1 := c_spec_l12Make r hr m n hm k a b c
  have h2 := callA_pure (c_spec_l12Plain k a b c) (by simp) (by simp)
  have hsv := sv_of_mk r m k a b c
  have hl := mkO_len hr m k a b c
  unfold mkSV at h1
  rw [fb (fn := a164) rfl rfl]
  unfold doV doO
  rw [hq, hsv]
  generalize mkO r m k a b c = M at *
  obtain ⟨⟨s, x⟩, q⟩ := M
  simp only at h1 hl hsv ⊢
  have h1 := callA_pure h1 (by simp) (by simp)
  have h3 := callA_pure (c_bar_spec s hl x (n + 1)) (by simp) (by simp)
  have f0 := barC_len hl x n
  have f1 := fun y => barC_setn hl x n y
  have f2 := fun y => barC_all hl x y
  have f3 := fun y => barC_len hl x y
  have ex : m + (x - m) = x := by omega
  cases q with
  | false => simp [a164, l0, l2, l3, h1, h2, f0, f1, f2, f3, wn, setAt_all, setAt, sub]
  | true =>
    cases hp : plnB k b c with
    | false => rw [hp] at h2; simp [a164, l0, l2, l3, h1, h2, f0, f1, f2, f3, wn, setAt_all, setAt, sub]
    | true =>
      rw [hp] at h2
      cases hg : barOK s x (n + 1) with
      | false => rw [hg] at h3; simp [a164, l0, l2, l3, h1, h2, h3, f0, f1, f2, f3, wn, ex, hg, setAt_all, setAt, sub]
      | true => rw [hg] at h3; simp [a164, l0, l2, l3, h1, h2, h3, f0, f1, f2, f3, wn, ex, hg, setAt_all, setAt, sub]
theorem doV_eq (r : List Int) (hr : r.length = 24) (m n k a b c : Int) : ∃ (s : List Int) (x y : Int) (q : Bool), s.length = 24 ∧ doV r m n k a b c = .tup [.agg (barC s x y), .c (.bool q)] := by
  unfold doV
  cases h : doO r m n k a b c with
  | none => exact ⟨List.replicate 24 0, 0, 0, false, by simp, by rw [barC_zero]⟩
  | some p =>
    obtain ⟨s, x⟩ := p
    refine ⟨s, x, n + 1, true, ?_, rfl⟩
    unfold doO at h
    split at h
    · split at h
      · rename_i s' d hs
        split at h
        · injection h with h; injection h with h1 h2; subst h1
          exact (svO_facts hr hs).1
        · cases h
      · cases h
    · cases h
theorem c_spec_DoServe (r : List Int) (hr : r.length = 24) (m n k a b c : Int) : fnI pr np 71 [.agg (barC r m n), .agg [.int .i64 k, .int .i64 a, .int .i64 b, .int .i64 c]] [] = some (doV r m n k a b c, []) := by
  have l0 := barC_len hr m n
  have l2 := barC_all hr m n
  have h0 := callA_pure (c_bar_spec r hr m n) (by simp) (by simp)
  cases hq : barOK r m n with
  | false =>
    rw [fb (fn := a71) rfl rfl]
    unfold doV doO
    rw [hq] at h0 ⊢
    simp [a71, l0, l2, h0, setAt_all, sub]
  | true =>
    rw [hq] at h0
    have h1 := c_spec_l12Do r hr m n k a b c hq
    obtain ⟨s, x, y, q, hl, e⟩ := doV_eq r hr m n k a b c
    rw [e] at h1 ⊢
    have h1 := callA_pure h1 (by simp) (by simp)
    have l3 := barC_len hl x y
    have l4 := barC_all hl x y
    rw [fb (fn := a71) rfl rfl]
    simp [a71, l0, l2, l3, l4, h0, h1, setAt_all, sub]
end Go.Proofs.Ytoaidbmkfdpagaa.AM
