import Derived.Test.YtoaidbmkfdpagaaRacks
import Derived.Test.YtoaidbmkfdpagaaTubeGame
import Derived.Test.YtoaidbmkfdpagaaCalls
/- Contracts: a party is played. -/
namespace Go.Proofs.Ytoaidbmkfdpagaa.AM
open Go
set_option maxRecDepth 1000000
set_option linter.unusedSimpArgs false
set_option linter.unusedVariables false
/-- the first number from i on where g does not hold -/
def stopFrom (g : Nat → Bool) (i : Nat) : Nat → Nat
  | 0 => i
  | d + 1 => if g i = true then stopFrom g (i + 1) d else i
theorem stop_spec (g : Nat → Bool) : ∀ (d i : Nat), i ≤ stopFrom g i d ∧ stopFrom g i d ≤ i + d ∧ (stopFrom g i d = i + d ∨ g (stopFrom g i d) = false) ∧ ∀ j, i ≤ j → j < stopFrom g i d → g j = true
  | 0, i => ⟨Nat.le_refl _, Nat.le_refl _, .inl rfl, fun j h1 h2 => by simp [stopFrom] at h2; omega⟩
  | d + 1, i => by
    unfold stopFrom
    by_cases h : g i = true
    · rw [if_pos h]
      obtain ⟨a, b, c, e⟩ := stop_spec g d (i + 1)
      refine ⟨by omega, by omega, c.imp (fun h => by omega) id, fun j h1 h2 => ?_⟩
      by_cases hj : j = i
      · rw [hj]; exact h
      · exact e j (by omega) h2
    · rw [if_neg h]
      exact ⟨Nat.le_refl _, by omega, .inr (by simpa using h), fun j h1 h2 => by omega⟩
def goAt (r : List Int) (l : List (Int × Int)) (k : Nat) : Bool := canAt r l k && !idleP (rackF r (l.take k)) (l.getD k (0, 0)).1.toNat (l.getD k (0, 0)).2.toNat
def gainAt (r : List Int) (l : List (Int × Int)) (k : Nat) : Int := gainP (rackF r (l.take k)) ((l.getD k (0, 0)).1.toNat, (l.getD k (0, 0)).2.toNat)
def ptsTo (r : List Int) (l : List (Int × Int)) : Nat → Int × Int
  | 0 => (0, 0)
  | k + 1 => if k % 2 = 0 then ((ptsTo r l k).1 + gainAt r l k, (ptsTo r l k).2) else ((ptsTo r l k).1, (ptsTo r l k).2 + gainAt r l k)
theorem ptsTo_range (r : List Int) (l : List (Int × Int)) : ∀ k : Nat, -(6 * (k : Int)) ≤ (ptsTo r l k).1 ∧ (ptsTo r l k).1 ≤ 6 * k ∧ -(6 * (k : Int)) ≤ (ptsTo r l k).2 ∧ (ptsTo r l k).2 ≤ 6 * k
  | 0 => by simp [ptsTo]
  | k + 1 => by
    have ih := ptsTo_range r l k
    have hg := gain_range (rackF r (l.take k)) ((l.getD k (0, 0)).1.toNat, (l.getD k (0, 0)).2.toNat)
    have hg : -6 ≤ gainAt r l k ∧ gainAt r l k ≤ 6 := hg
    simp only [ptsTo]
    split <;> simp only <;> omega
def stopK (r : List Int) (l : List (Int × Int)) : Nat := stopFrom (goAt r l) 0 l.length
def ppB (r : List Int) (l : List (Int × Int)) : Bool := okRack r && decide (l.length ≤ 60)
def ppR (r : List Int) (l : List (Int × Int)) : List Int := if ppB r l = true then rackF r (l.take (stopK r l)) else List.replicate 24 0
def ppP (r : List Int) (l : List (Int × Int)) : Int × Int := if ppB r l = true then ptsTo r l (stopK r l) else (0, 0)
def ppN (r : List Int) (l : List (Int × Int)) : Nat := if ppB r l = true then stopK r l else 0
def ppV (r : List Int) (l : List (Int × Int)) : V := .tup [.agg ((ppR r l).map (C.int .i64)), .agg [.int .i64 (ppP r l).1, .int .i64 (ppP r l).2], .c (.int .i64 (ppN r l)), .c (.bool (ppB r l))]
theorem ppR_len {r : List Int} (hr : r.length = 24) (l : List (Int × Int)) : (ppR r l).length = 24 := by
  unfold ppR
  split
  · exact rackF_len hr _
  · simp
/-- the facts of one turn -/
structure PlayOK (r : List Int) (l : List (Int × Int)) (k : Nat) (hk : k < l.length) (i j : Nat) : Prop where
  e1 : (l[k]'hk).1 = (i : Int)
  e2 : (l[k]'hk).2 = (j : Int)
  hi : i < 6
  hj : j < 6
  ne : i ≠ j
  idle : idleP (rackF r (l.take k)) i j = false
  gain : gainAt r l k = gainP (rackF r (l.take k)) (i, j)
  next : rackF r (l.take (k + 1)) = pourR (rackF r (l.take k)) i j
theorem play_ok (r : List Int) (l : List (Int × Int)) {k : Nat} (hk : k < l.length) (hg : goAt r l k = true) : ∃ i j, PlayOK r l k hk i j := by
  simp only [goAt, Bool.and_eq_true, Bool.not_eq_true'] at hg
  obtain ⟨h1, h2⟩ := hg
  have hget : l.getD k (0, 0) = l[k]'hk := by rw [List.getD_eq_getElem?_getD, List.getElem?_eq_getElem hk]; rfl
  rw [canAt_eq r hk] at h1
  obtain ⟨i, j, e1, e2, hi, hj, hcan, t1, t2⟩ := canZ_facts h1
  rw [hget, t1, t2] at h2
  refine ⟨i, j, e1, e2, hi, hj, canP_ne hcan, h2, ?_, ?_⟩
  · unfold gainAt; rw [hget, t1, t2]
  · rw [rackF_succ r hk]; unfold pourZ; rw [t1, t2]
/-- where it stops: no pour, or an idle one -/
theorem stop_cases (r : List Int) (l : List (Int × Int)) {k : Nat} (hk : k < l.length) (hg : goAt r l k = false) : canZ (rackF r (l.take k)) (l[k]'hk) = false ∨ ∃ i j : Nat, (l[k]'hk).1 = (i : Int) ∧ (l[k]'hk).2 = (j : Int) ∧ i < 6 ∧ j < 6 ∧ canZ (rackF r (l.take k)) (l[k]'hk) = true ∧ idleP (rackF r (l.take k)) i j = true := by
  have hget : l.getD k (0, 0) = l[k]'hk := by rw [List.getD_eq_getElem?_getD, List.getElem?_eq_getElem hk]; rfl
  unfold goAt at hg
  rw [canAt_eq r hk, hget] at hg
  cases hc : canZ (rackF r (l.take k)) (l[k]'hk) with
  | false => exact .inl rfl
  | true =>
    right
    obtain ⟨i, j, e1, e2, hi, hj, hcan, t1, t2⟩ := canZ_facts hc
    rw [hc, t1, t2] at hg
    exact ⟨i, j, e1, e2, hi, hj, rfl, by simpa using hg⟩
theorem play_rack {r : List Int} (h : RackOK r) (l : List (Int × Int)) {k : Nat} (hk : k ≤ l.length) (hg : ∀ j, j < k → goAt r l j = true) : RackOK (rackF r (l.take k)) :=
  rackF_ok h l k hk fun j hj => by have := hg j hj; simp only [goAt, Bool.and_eq_true] at this; exact this.1
set_option maxHeartbeats 4000000 in
theorem c_spec_PlayParty (r : List Int) (hr : r.length = 24) (l : List (Int × Int)) (o : Bool) : fnI pr np 56 [.agg (r.map (C.int .i64)), .c (.sl 0 0 l.length 2)] [.cells (cZ l) o] = some (ppV r l, [.cells (cZ l) o]) := by
  have h1 := callA_pure (c_rack_spec r hr) (by simp) (by simp)
  have h24 := take24 hr
  rw [fb (fn := a56) rfl rfl]
  unfold ppV ppR ppP ppN ppB
  cases hq : okRack r with
  | false => rw [hq] at h1; simp [a56, hr, h24, h1, setAt, idOf, sub]
  | true =>
    rw [hq] at h1
    by_cases hl : l.length ≤ 60
    · have hl' := gt60 hl
      have h := rackOK hr hq
      obtain ⟨_, hK1, hK2, hK3⟩ := stop_spec (goAt r l) l.length 0
      rw [show stopFrom (goAt r l) 0 l.length = stopK r l from rfl] at hK1 hK2 hK3
      generalize stopK r l = K at *
      simp [a56, hr, h24, h1, hl, hl', setAt]
      rw [loop_to (fun k => ([(1, V.c (C.sl 0 0 l.length 2)), (2, V.c (C.ptr 1 0)), (4, V.c (C.ptr 2 0)), (5, V.c (C.ptr 3 0)), (8, V.c (C.ptr 4 0)), (9, V.c (C.int .i64 k))], [Blk.cells (cZ l) o, Blk.cells ((rackF r (l.take k)).map (C.int .i64)) true, Blk.cells (List.replicate 24 (C.int .i64 0)) true, Blk.cells [C.int .i64 0, C.int .i64 0] true, Blk.cells [C.int .i64 (ptsTo r l k).1, C.int .i64 (ptsTo r l k).2] true])) K]
      · have hro := play_rack h l (k := K) (by omega) fun j hj => hK3 j (by omega) hj
        have hrl := hro.len
        have hr24 := take24 hrl
        by_cases hk : K < l.length
        · have hbad : goAt r l K = false := by rcases hK2 with e | e; omega; exact e
          have g := cZ_get l hk
          obtain ⟨g3, g4⟩ := cZ_get1 l hk
          have b1 : K * 2 + 2 ≤ l.length * 2 := by omega
          have b1' : K * 2 + 1 ≤ l.length * 2 := by omega
          have hc := callA_pure (c_spec_l6Can _ hro (l[K]'hk)) (by simp) (by simp)
          rcases stop_cases r l hk hbad with hcan | ⟨i, j, ei, ej, hi, hj, hcan, hid⟩
          · rw [hcan] at hc
            simp [hk, g, b1, hc, hrl, hr24, setAt_all, setAt, idOf, sub]
          · rw [hcan] at hc
            have hdl := callA_pure (c_spec_l2Idle _ hro hi hj) (by simp) (by simp)
            rw [hid] at hdl
            rw [ei, ej] at g hc
            rw [ei] at g3; rw [ej] at g4
            simp [hk, g, g3, g4, b1, b1', hc, hdl, hrl, hr24, setAt_all, setAt, idOf, sub]
        · have hKe : K = l.length := by omega
          subst hKe
          rw [List.take_length] at hrl hr24
          simp [hrl, hr24, setAt_all, setAt, idOf, sub]
      · simp [rackF, ptsTo, cids_rep, cmp_rep, sub]
      · intro k hk
        have hkl : k < l.length := by omega
        have hgk := hK3 k (by omega) hk
        obtain ⟨i, j, P⟩ := play_ok r l hkl hgk
        have hro := play_rack h l (k := k) (by omega) fun j hj => hK3 j (by omega) (by omega)
        have hrl := hro.len
        have hr24 := take24 hrl
        have hcz : canZ (rackF r (l.take k)) (l[k]'hkl) = true := by
          simp only [goAt, Bool.and_eq_true] at hgk
          rw [← canAt_eq r hkl]; exact hgk.1
        have hc := callA_pure (c_spec_l6Can _ hro (l[k]'hkl)) (by simp) (by simp)
        rw [hcz] at hc
        have hdl := callA_pure (c_spec_l2Idle _ hro P.hi P.hj) (by simp) (by simp)
        rw [P.idle] at hdl
        have hgn := callA_pure (c_spec_l10Gain _ hro (p := (i, j)) P.hi P.hj P.ne) (by simp) (by simp)
        have g := cZ_get l hkl
        obtain ⟨g3, g4⟩ := cZ_get1 l hkl
        rw [P.e1, P.e2] at g hc
        rw [P.e1] at g3; rw [P.e2] at g4
        have b1 : k * 2 + 2 ≤ l.length * 2 := by omega
        have b1' : k * 2 + 1 ≤ l.length * 2 := by omega
        have wk := wrapS (k := k) (by omega)
        have hpl := pourR_len hrl i j
        have hp24 := take24 hpl
        have hnext := P.next
        have hgain := P.gain
        have hpr := ptsTo_range r l k
        have hgr := gain_range (rackF r (l.take k)) (i, j)
        have ht : (k : Int).tmod 2 = ((k % 2 : Nat) : Int) := rfl
        have w1 : IntKind.i64.wrap ((ptsTo r l k).1 + gainP (rackF r (l.take k)) (i, j)) = (ptsTo r l k).1 + gainP (rackF r (l.take k)) (i, j) := wrapI (by omega) (by omega)
        have w2 : IntKind.i64.wrap ((ptsTo r l k).2 + gainP (rackF r (l.take k)) (i, j)) = (ptsTo r l k).2 + gainP (rackF r (l.take k)) (i, j) := wrapI (by omega) (by omega)
        have hp2 : k % 2 = 0 ∨ k % 2 = 1 := by omega
        rcases hp2 with hm | hm
        · rw [hm] at ht
          have hps : ptsTo r l (k + 1) = ((ptsTo r l k).1 + gainP (rackF r (l.take k)) (i, j), (ptsTo r l k).2) := by simp only [ptsTo, hm, if_true, hgain]
          simp [hkl, g, g3, g4, b1, b1', hc, hdl, hgn, wk, hrl, hr24, hpl, hp24, hnext, ht, w1, hps, setAt_all, setAt, cids_rep, cmp_rep, sub, -Int.natCast_emod]
        · rw [hm] at ht
          have hps : ptsTo r l (k + 1) = ((ptsTo r l k).1, (ptsTo r l k).2 + gainP (rackF r (l.take k)) (i, j)) := by simp only [ptsTo, hm, hgain]; rfl
          simp [hkl, g, g3, g4, b1, b1', hc, hdl, hgn, wk, hrl, hr24, hpl, hp24, hnext, ht, w2, hps, setAt_all, setAt, cids_rep, cmp_rep, sub, -Int.natCast_emod]
    · have hl' : (60 : Int) < (l.length : Int) := by omega
      simp [a56, hr, h24, h1, hl, hl', setAt, idOf, sub]
set_option maxHeartbeats 4000000 in
theorem c_impl_PlayParty (r : List Int) (hr : r.length = 24) (l : List (Int × Int)) (o : Bool) : fnI pr np 55 [.agg (r.map (C.int .i64)), .c (.sl 0 0 l.length 2)] [.cells (cZ l) o] = some (ppV r l, [.cells (cZ l) o]) := by
  have h1 := callA_pure (c_rack_impl r hr) (by simp) (by simp)
  have h24 := take24 hr
  rw [fb (fn := a55) rfl rfl]
  unfold ppV ppR ppP ppN ppB
  cases hq : okRack r with
  | false => rw [hq] at h1; simp [a55, hr, h24, h1, setAt, idOf, sub]
  | true =>
    rw [hq] at h1
    by_cases hl : l.length ≤ 60
    · have hl' := gt60 hl
      have h := rackOK hr hq
      obtain ⟨_, hK1, hK2, hK3⟩ := stop_spec (goAt r l) l.length 0
      rw [show stopFrom (goAt r l) 0 l.length = stopK r l from rfl] at hK1 hK2 hK3
      generalize stopK r l = K at *
      simp [a55, hr, h24, h1, hl, hl', setAt]
      rw [loop_to (fun k => ([(1, V.c (C.sl 0 0 l.length 2)), (2, V.c (C.ptr 1 0)), (4, V.c (C.ptr 2 0)), (5, V.c (C.ptr 3 0)), (8, V.c (C.ptr 4 0)), (23, V.c (C.sl 0 0 l.length 2)), (24, V.c (C.int .i64 l.length)), (25, V.c (C.int .i64 k))], [Blk.cells (cZ l) o, Blk.cells ((rackF r (l.take k)).map (C.int .i64)) true, Blk.cells (List.replicate 24 (C.int .i64 0)) true, Blk.cells [C.int .i64 0, C.int .i64 0] true, Blk.cells [C.int .i64 (ptsTo r l k).1, C.int .i64 (ptsTo r l k).2] true])) K]
      · have hro := play_rack h l (k := K) (by omega) fun j hj => hK3 j (by omega) hj
        have hrl := hro.len
        have hr24 := take24 hrl
        by_cases hk : K < l.length
        · have hbad : goAt r l K = false := by rcases hK2 with e | e; omega; exact e
          have g := cZ_get l hk
          have b1 : K * 2 + 2 ≤ l.length * 2 := by omega
          have hc := callA_pure (c_impl_canPourPath _ hro (l[K]'hk)) (by simp) (by simp)
          rcases stop_cases r l hk hbad with hcan | ⟨i, j, ei, ej, hi, hj, hcan, hid⟩
          · rw [hcan] at hc
            simp [hk, g, b1, hc, hrl, hr24, setAt_all, setAt, idOf, sub]
          · rw [hcan] at hc
            have hdl := callA_pure (c_impl_isIdle _ hro hi hj) (by simp) (by simp)
            rw [hid] at hdl
            rw [ei, ej] at g hc
            simp [hk, g, b1, hc, hdl, hrl, hr24, setAt_all, setAt, idOf, sub]
        · have hKe : K = l.length := by omega
          subst hKe
          rw [List.take_length] at hrl hr24
          simp [hrl, hr24, setAt_all, setAt, idOf, sub]
      · simp [rackF, ptsTo, cids_rep, cmp_rep, sub]
      · intro k hk
        have hkl : k < l.length := by omega
        have hgk := hK3 k (by omega) hk
        obtain ⟨i, j, P⟩ := play_ok r l hkl hgk
        have hro := play_rack h l (k := k) (by omega) fun j hj => hK3 j (by omega) (by omega)
        have hrl := hro.len
        have hr24 := take24 hrl
        have hcz : canZ (rackF r (l.take k)) (l[k]'hkl) = true := by
          simp only [goAt, Bool.and_eq_true] at hgk
          rw [← canAt_eq r hkl]; exact hgk.1
        have hc := callA_pure (c_impl_canPourPath _ hro (l[k]'hkl)) (by simp) (by simp)
        rw [hcz] at hc
        have hdl := callA_pure (c_impl_isIdle _ hro P.hi P.hj) (by simp) (by simp)
        rw [P.idle] at hdl
        have hgn := callA_pure (c_impl_points _ hro (p := (i, j)) P.hi P.hj P.ne) (by simp) (by simp)
        have g := cZ_get l hkl
        rw [P.e1, P.e2] at g hc
        have b1 : k * 2 + 2 ≤ l.length * 2 := by omega
        have wk := wrapS (k := k) (by omega)
        have hpl := pourR_len hrl i j
        have hp24 := take24 hpl
        have hnext := P.next
        have hgain := P.gain
        have hpr := ptsTo_range r l k
        have hgr := gain_range (rackF r (l.take k)) (i, j)
        have ht : (k : Int).tmod 2 = ((k % 2 : Nat) : Int) := rfl
        have w1 : IntKind.i64.wrap ((ptsTo r l k).1 + gainP (rackF r (l.take k)) (i, j)) = (ptsTo r l k).1 + gainP (rackF r (l.take k)) (i, j) := wrapI (by omega) (by omega)
        have w2 : IntKind.i64.wrap ((ptsTo r l k).2 + gainP (rackF r (l.take k)) (i, j)) = (ptsTo r l k).2 + gainP (rackF r (l.take k)) (i, j) := wrapI (by omega) (by omega)
        have hp2 : k % 2 = 0 ∨ k % 2 = 1 := by omega
        rcases hp2 with hm | hm
        · rw [hm] at ht
          have hps : ptsTo r l (k + 1) = ((ptsTo r l k).1 + gainP (rackF r (l.take k)) (i, j), (ptsTo r l k).2) := by simp only [ptsTo, hm, if_true, hgain]
          simp [hkl, g, b1, hc, hdl, hgn, wk, hrl, hr24, hpl, hp24, hnext, ht, w1, hps, setAt_all, setAt, cids_rep, cmp_rep, sub, -Int.natCast_emod]
        · rw [hm] at ht
          have hps : ptsTo r l (k + 1) = ((ptsTo r l k).1, (ptsTo r l k).2 + gainP (rackF r (l.take k)) (i, j)) := by simp only [ptsTo, hm, hgain]; rfl
          simp [hkl, g, b1, hc, hdl, hgn, wk, hrl, hr24, hpl, hp24, hnext, ht, w2, hps, setAt_all, setAt, cids_rep, cmp_rep, sub, -Int.natCast_emod]
    · have hl' : (60 : Int) < (l.length : Int) := by omega
      simp [a55, hr, h24, h1, hl, hl', setAt, idOf, sub]
end Go.Proofs.Ytoaidbmkfdpagaa.AM
