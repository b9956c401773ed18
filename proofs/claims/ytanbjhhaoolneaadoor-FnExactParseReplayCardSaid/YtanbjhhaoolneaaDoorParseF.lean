import Derived.Test.YtanbjhhaoolneaaDoorParseE
/- What both read is the same; the law's contract. -/
namespace Go.Proofs.YtanbjhhaoolneaaDoor.AM
open Go
set_option maxRecDepth 1000000
set_option linter.unusedSimpArgs false
set_option linter.unusedVariables false
theorem dig_two {w : List UInt8} (h : dig w = true) : two w = true := by
  unfold dig at h
  simp only [Bool.and_eq_true] at h
  exact h.1.1
theorem two_dig {w : List UInt8} {r : List Int} (h : two w = true) (hc : canZ r (pz w) = true) : dig w = true := by
  obtain ⟨i, j, e1, e2, hi, hj, _⟩ := canZ_facts hc
  unfold pz num at e1 e2
  simp only at e1 e2
  unfold dig
  rw [h]
  simp only [Bool.true_and, Bool.and_eq_true, decide_eq_true_eq]
  omega
theorem rep_same (s : List UInt8) : repI s = repS s := by
  cases hok : okS (headW s) with
  | false => unfold repI repS; rw [hok]; simp
  | true =>
    cases hb : repB (rkS (headW s)) ((tailW s).map pz) with
    | false => unfold repI repS; rw [hb]; simp
    | true =>
      have hb' := hb
      unfold repB at hb'
      simp only [Bool.and_eq_true, decide_eq_true_eq, List.length_map] at hb'
      obtain ⟨⟨_, hl⟩, hall⟩ := hb'
      have h61 : (splC 32 s).length ≤ 61 := by rw [headW_tailW]; simp; omega
      have hh := okS_len hok
      have hdt : (tailW s).all two = true → (tailW s).all dig = true ∧ s.length ≤ 209 := by
        intro h2
        constructor
        · rw [tail_all]
          intro j hj
          have h3 := (tail_all s two).1 h2 j hj
          unfold allCan at hall
          rw [List.all_eq_true] at hall
          have h4 := hall j (by simp; exact hj)
          rw [canAt_eq _ (by simpa using hj)] at h4
          rw [List.getElem_map] at h4
          rw [List.getD_eq_getElem?_getD, List.getElem?_eq_getElem hj] at h3 ⊢
          exact two_dig h3 h4
        · have h5 : s.length = (joinC 32 (headW s :: tailW s)).length := by rw [← headW_tailW, joinC_splC]
          rw [joinC_len 32 _ _ (fun y hy => by
            rw [List.all_eq_true] at h2
            have := h2 y hy
            simpa [two] using this)] at h5
          omega
      unfold repI repS
      rw [hok, hb]
      cases h2 : (tailW s).all two with
      | true =>
        obtain ⟨h3, h4⟩ := hdt h2
        rw [h3]
        simp [h61, h4]
      | false =>
        cases h3 : (tailW s).all dig with
        | false => simp
        | true =>
          exfalso
          have : (tailW s).all two = true := by
            rw [List.all_eq_true] at h3 ⊢
            exact fun x hx => dig_two (h3 x hx)
          rw [this] at h2
          cases h2
theorem parR_len (q : Bool) (s : List UInt8) : (parR q s).length = 24 := by
  unfold parR
  split
  · exact rkS_len _
  · simp
theorem parL_len (s : List UInt8) : (parL (repS s) s).length ≤ 60 := by
  unfold parL
  split
  · rename_i h
    unfold repS at h
    simp only [Bool.and_eq_true] at h
    exact (repB_facts (rkS_len _) h.2).2.1
  · simp
theorem c_laws_FnExactParseReplay (s : List UInt8) (_ : s.length ≤ 9223372036854775807) : fnI pr np 3 [.c (.str s)] [] = some (.c (.bool true), []) := by
  rw [fb (fn := a3) rfl rfl rfl]
  by_cases hl : s.length ≤ 1048576
  · have hlI : ¬ (1048576 : Int) < (s.length : Int) := by omega
    have h1 := c_spec_ParseReplay s hl
    have h2 := c_impl_ParseReplay s hl
    rw [rep_same s] at h2
    have hrr := parR_len (repS s) s
    have hm := parL_len s
    unfold parX parV at h1 h2
    generalize parL (repS s) s = m at *
    generalize parR (repS s) s = rr at *
    generalize repS s = q at *
    have g1 := callA_new h1 (by simp)
    have g2 := callA_new h2 (by simp)
    have e0 := call_rep2 (by simp) (by simp) (c_laws_eqReplay rr hrr m (by omega) true true)
    have k0 := call_repW (rest := [.c (.int .i64 1)]) rfl (by simp) (by simp [markC_ids]) (c_laws_markReplay rr hrr m (by omega))
    have d0 := call_repW (rest := [.c (.int .i64 1)]) rfl (by simp [markC_ids]) (by simp [markC_ids]) (c_laws_heldReplay rr hrr m.length (by omega))
    have t4 := fun i => repC_all hrr (C.sl i 0 m.length 2)
    have p2 := mk1_pos (m.length * 2)
    simp [a3, hlI, hrr, t4, g1, g2, e0, k0, d0, p2, repV, z25_eq, z25_setAll hrr, repV_mp, setAt_all, markC_ids, markC_cmp, stillE, madeA, sub]
  · have hlI : (1048576 : Int) < (s.length : Int) := by omega
    simp [a3, hlI, sub]
end Go.Proofs.YtanbjhhaoolneaaDoor.AM
