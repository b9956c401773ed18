import Derived.Test.YtllabonhgkocfaaUndo
/- Contracts: whether two pours can be exchanged. -/
namespace Go.Proofs.Ytllabonhgkocfaa.AM
open Go
set_option maxRecDepth 1000000
set_option linter.unusedSimpArgs false
set_option linter.unusedVariables false
def cswB (r : List Int) (l : List (Int × Int)) (k : Int) : Bool := repB r l && inB k 0 ((l.length : Int) - 2)
def cswA (r : List Int) (l : List (Int × Int)) (k : Int) : Bool := cswB r l k && (repB r (swapL l k.toNat) && decide (rackF r (swapL l k.toNat) = rackF r l))
def cswV (r : List Int) (l : List (Int × Int)) (k : Int) : V := .tup [.c (.bool (cswA r l k)), .c (.bool (cswB r l k))]
theorem swapL_get {l : List (Int × Int)} {K : Nat} (h1 : K < l.length) (h2 : K + 1 < l.length) : swapL l K = (l.set K (l[K + 1]'h2)).set (K + 1) (l[K]'h1) := by
  unfold swapL
  rw [List.getD_eq_getElem?_getD, List.getD_eq_getElem?_getD, List.getElem?_eq_getElem h1, List.getElem?_eq_getElem h2]
  rfl
set_option maxHeartbeats 4000000 in
theorem c_spec_CanSwap (r : List Int) (hr : r.length = 24) (l : List (Int × Int)) (o : Bool) (k : Int) : fnI pr np 20 [repV r 0 l.length, .c (.int .i64 k)] [.cells (cZ l) o] = some (cswV r l k, [.cells (cZ l) o]) := by
  have h0 := c_spec_l11Racks r hr l o
  have t2 := repC_drop hr (C.sl 0 0 l.length 2)
  have t3 := repC_all hr (C.sl 0 0 l.length 2)
  rw [fb (fn := a20) rfl rfl]
  unfold cswV cswA cswB
  cases hq : repB r l with
  | false =>
    rw [racksV_f hq] at h0
    have hc := call_rep (rest := []) rfl (by simp) h0
    simp [a20, repV, hr, t2, t3, hc, sub]
  | true =>
    rw [racksV_t hq] at h0
    have hc := call_rep (rest := []) rfl (by simp) h0
    obtain ⟨h, hl, hg⟩ := repB_facts hr hq
    have w : IntKind.i64.wrap ((l.length : Int) - 2) = (l.length : Int) - 2 := wrapI (by omega) (by omega)
    have hin := callA_pure (c_spec_l1In k 0 ((l.length : Int) - 2)) (by simp) (by simp)
    rw [show (decide ((0 : Int) ≤ k) && decide (k ≤ (l.length : Int) - 2)) = inB k 0 ((l.length : Int) - 2) from rfl] at hin
    cases hb : inB k 0 ((l.length : Int) - 2) with
    | false => rw [hb] at hin; simp [a20, repV, hr, t2, t3, hc, w, hin, sub]
    | true =>
      rw [hb] at hin
      have hk : 0 ≤ k ∧ k ≤ (l.length : Int) - 2 := by simpa [inB] using hb
      obtain ⟨K, rfl⟩ : ∃ K : Nat, k = (K : Int) := ⟨k.toNat, by omega⟩
      have h1 : K < l.length := by omega
      have h2 : K + 1 < l.length := by omega
      have hcut := call_rep (rest := [.c (.int .i64 (l.length : Int))]) rfl (by simp) (c_spec_l11Cut r hr l (by omega) l.length (Nat.le_refl _) o)
      rw [List.take_length] at hcut
      have wk := wrapS (k := K) (by omega)
      have g1 := cZ_get l h1
      have g2 := cZ_get l h2
      have s1 := cZ_set2 l K (l[K + 1]'h2)
      have s2 := cZ_set2 (l.set K (l[K + 1]'h2)) (K + 1) (l[K]'h1)
      rw [← swapL_get h1 h2] at s2
      have b1 : K * 2 + 2 ≤ l.length * 2 := by omega
      have x1 : (0 : Int) ≤ (K : Int) + 1 := by omega
      have x2 : (K : Int) + 1 < (l.length : Int) := by omega
      have x3 : (K : Int) < (l.length : Int) := by omega
      have b2 : (K + 1) * 2 + 2 ≤ l.length * 2 := by omega
      have t5 := fun i => repC_drop hr (C.sl i 0 l.length 2)
      have t6 := fun i => repC_all hr (C.sl i 0 l.length 2)
      have h9 := c_spec_l11Racks r hr (swapL l K) true
      rw [swapL_len] at h9
      have e1 := outC_get hr l l.length (Nat.le_refl _)
      rw [rackF_all] at e1
      have hol := outI_len hr l l.length
      have b3 : l.length * 24 + 24 ≤ (l.length + 1) * 24 := by omega
      have b4 : (l.length : Int) < (l.length : Int) + 1 := by omega
      have wl : IntKind.i64.wrap (l.length : Int) = (l.length : Int) := wrapI (by omega) (by omega)
      cases hq2 : repB r (swapL l K) with
      | false =>
        rw [racksV_f hq2] at h9
        have hc2 := call_rep (rest := []) rfl (by simp) h9
        simp [a20, repV, hr, t2, t3, t5, t6, hc, w, hin, hcut, wk, g1, g2, s1, s2, b1, b2, h1, h2, x1, x2, x3, hc2, hq2, z25_eq, z25_setAll hr, repV_mp, setAt_all, setAt, idOf, stillE, madeA, sub]
      | true =>
        rw [racksV_t hq2] at h9
        have e2 := outC_get hr (swapL l K) (swapL l K).length (Nat.le_refl _)
        rw [rackF_all, swapL_len] at e2
        have hol2 := outI_len hr (swapL l K) l.length
        rw [swapL_len] at h9
        have hc2 := call_rep (rest := []) rfl (by simp) h9
        have c1 := conf24 _ (rackF_len hr (swapL l K))
        have c2 := conf24 _ (rackF_len hr l)
        simp [a20, repV, hr, t2, t3, t5, t6, hc, w, hin, hcut, wk, g1, g2, s1, s2, b1, b2, h1, h2, x1, x2, x3, hc2, hq2, e1, e2, hol, hol2, b3, b4, wl, c1, c2, ints_inj, z25_eq, z25_setAll hr, repV_mp, setAt_all, setAt, idOf, stillE, madeA, sub]
set_option maxHeartbeats 4000000 in
theorem c_impl_CanSwap (r : List Int) (hr : r.length = 24) (l : List (Int × Int)) (o : Bool) (k : Int) : fnI pr np 22 [repV r 0 l.length, .c (.int .i64 k)] [.cells (cZ l) o] = some (cswV r l k, [.cells (cZ l) o]) := by
  have h0 := c_impl_racks r hr l o
  have t2 := repC_drop hr (C.sl 0 0 l.length 2)
  have t3 := repC_all hr (C.sl 0 0 l.length 2)
  rw [fb (fn := a22) rfl rfl]
  unfold cswV cswA cswB
  cases hq : repB r l with
  | false =>
    rw [racksV_f hq] at h0
    have hc := call_rep (rest := []) rfl (by simp) h0
    simp [a22, repV, hr, t2, t3, hc, sub]
  | true =>
    rw [racksV_t hq] at h0
    have hc := call_rep (rest := []) rfl (by simp) h0
    obtain ⟨h, hl, hg⟩ := repB_facts hr hq
    have w : IntKind.i64.wrap ((l.length : Int) - 2) = (l.length : Int) - 2 := wrapI (by omega) (by omega)
    have hin := callA_pure (c_impl_within k 0 ((l.length : Int) - 2)) (by simp) (by simp)
    rw [show (decide ((0 : Int) ≤ k) && decide (k ≤ (l.length : Int) - 2)) = inB k 0 ((l.length : Int) - 2) from rfl] at hin
    cases hb : inB k 0 ((l.length : Int) - 2) with
    | false => rw [hb] at hin; simp [a22, repV, hr, t2, t3, hc, w, hin, sub]
    | true =>
      rw [hb] at hin
      have hk : 0 ≤ k ∧ k ≤ (l.length : Int) - 2 := by simpa [inB] using hb
      obtain ⟨K, rfl⟩ : ∃ K : Nat, k = (K : Int) := ⟨k.toNat, by omega⟩
      have h1 : K < l.length := by omega
      have h2 : K + 1 < l.length := by omega
      have hw := fun (i : Nat) => call_with1 hr (l := l) (n0 := l.length) (k := 0) (n := l.length) (off := 0) rfl (by omega) (by omega) o 0 i
      rw [List.drop_zero, List.take_length] at hw
      have wk := wrapS (k := K) (by omega)
      have g1 := cZ_get l h1
      have g2 := cZ_get l h2
      have s1 := cZ_set2 l K (l[K + 1]'h2)
      have s2 := cZ_set2 (l.set K (l[K + 1]'h2)) (K + 1) (l[K]'h1)
      rw [← swapL_get h1 h2] at s2
      have b1 : K * 2 + 2 ≤ l.length * 2 := by omega
      have x1 : (0 : Int) ≤ (K : Int) + 1 := by omega
      have x2 : (K : Int) + 1 < (l.length : Int) := by omega
      have x3 : (K : Int) < (l.length : Int) := by omega
      have b2 : (K + 1) * 2 + 2 ≤ l.length * 2 := by omega
      have t5 := fun i => repC_drop hr (C.sl i 0 l.length 2)
      have t6 := fun i => repC_all hr (C.sl i 0 l.length 2)
      have h9 := c_impl_racks r hr (swapL l K) true
      rw [swapL_len] at h9
      have e1 := outC_get hr l l.length (Nat.le_refl _)
      rw [rackF_all] at e1
      have hol := outI_len hr l l.length
      have b3 : l.length * 24 + 24 ≤ (l.length + 1) * 24 := by omega
      have b4 : (l.length : Int) < (l.length : Int) + 1 := by omega
      have wl : IntKind.i64.wrap (l.length : Int) = (l.length : Int) := wrapI (by omega) (by omega)
      cases hq2 : repB r (swapL l K) with
      | false =>
        rw [racksV_f hq2] at h9
        have hc2 := call_rep (rest := []) rfl (by simp) h9
        simp [a22, repV, hr, t2, t3, t5, t6, hc, w, hin, hw, wk, g1, g2, s1, s2, b1, b2, h1, h2, x1, x2, x3, hc2, hq2, z25_eq, z25_setAll hr, repV_mp, setAt_all, setAt, idOf, stillE, madeA, sub]
      | true =>
        rw [racksV_t hq2] at h9
        have e2 := outC_get hr (swapL l K) (swapL l K).length (Nat.le_refl _)
        rw [rackF_all, swapL_len] at e2
        have hol2 := outI_len hr (swapL l K) l.length
        rw [swapL_len] at h9
        have hc2 := call_rep (rest := []) rfl (by simp) h9
        have c1 := conf24 _ (rackF_len hr (swapL l K))
        have c2 := conf24 _ (rackF_len hr l)
        simp [a22, repV, hr, t2, t3, t5, t6, hc, w, hin, hw, wk, g1, g2, s1, s2, b1, b2, h1, h2, x1, x2, x3, hc2, hq2, e1, e2, hol, hol2, b3, b4, wl, c1, c2, ints_inj, z25_eq, z25_setAll hr, repV_mp, setAt_all, setAt, idOf, stillE, madeA, sub]
theorem c_laws_FnExactCanSwap (r : List Int) (hr : r.length = 24) (l : List (Int × Int)) (hn : l.length ≤ 9223372036854775807) (k : Int) (_ : -9223372036854775808 ≤ k ∧ k < 9223372036854775808) : fnI pr np 4 [repV r 0 l.length, .c (.int .i64 k)] [.cells (cZ l) false] = some (.c (.bool true), [.cells (cZ l) false]) := by
  have hsz := call_rep (rest := [.c (.int .i64 1048576)]) rfl (by simp) (c_laws_szReplay r hr l hn false)
  have t3 := fun i => repC_all hr (C.sl i 0 l.length 2)
  rw [fb (fn := a4) rfl rfl]
  by_cases hl : l.length ≤ 1048576
  · rw [if_pos hl] at hsz
    have hneg : ¬ (1048576 - (l.length : Int)) < 0 := by omega
    have hto := call_rep (rest := []) rfl (by simp) (c_laws_toReplay r hr l hl false)
    have h1 := call_rep (rest := [.c (.int .i64 k)]) rfl (by simp) (c_spec_CanSwap r hr l true k)
    have h2 := call_rep (rest := [.c (.int .i64 k)]) rfl (by simp) (c_impl_CanSwap r hr l true k)
    have heq := call_rep2 (by simp) (by simp) (c_laws_eqReplay r hr l hl true true)
    unfold cswV at h1 h2
    generalize cswA r l k = s at h1 h2
    generalize cswB r l k = q at h1 h2
    simp [a4, repV, hr, t3, hsz, hneg, hto, h1, h2, heq, z25_eq, z25_setAll hr, repV_mp, setAt_all, idOf, stillE, madeA, sub]
  · rw [if_neg hl] at hsz
    simp [a4, repV, hr, t3, hsz, sub]
end Go.Proofs.Ytllabonhgkocfaa.AM
