import Derived.Test.YtoaidbmkfdpagaaRepLaws
import Derived.Test.YtoaidbmkfdpagaaSorted
/- Contracts: laws of replays: a rack, solved, layers. -/
namespace Go.Proofs.Ytoaidbmkfdpagaa.AM
open Go
set_option maxRecDepth 1000000
set_option linter.unusedSimpArgs false
set_option linter.unusedVariables false
theorem repB_facts {r : List Int} (hr : r.length = 24) {l : List (Int × Int)} (h : repB r l = true) : RackOK r ∧ l.length ≤ 60 ∧ (∀ j, j < l.length → canAt r l j = true) := by
  simp only [repB, Bool.and_eq_true, decide_eq_true_eq] at h
  exact ⟨rackOK hr h.1.1, h.1.2, fun j hj => List.all_eq_true.1 h.2 j (List.mem_range.2 hj)⟩
theorem rackF_all (r : List Int) (l : List (Int × Int)) : rackF r (l.take l.length) = rackF r l := by rw [List.take_length]
/-! ### a rack of a replay -/
def rrB (r : List Int) (l : List (Int × Int)) (k : Int) : Bool := repB r l && inB k 0 l.length
def rrR (r : List Int) (l : List (Int × Int)) (k : Int) : List Int := if rrB r l k = true then rackF r (l.take k.toNat) else List.replicate 24 0
def rrV (r : List Int) (l : List (Int × Int)) (k : Int) : V := .tup [.agg ((rrR r l k).map (C.int .i64)), .c (.bool (rrB r l k))]
theorem rrR_len {r : List Int} (hr : r.length = 24) (l : List (Int × Int)) (k : Int) : (rrR r l k).length = 24 := by
  unfold rrR
  split
  · exact rackF_len hr _
  · simp
theorem c_impl_ReplayRack (r : List Int) (hr : r.length = 24) (l : List (Int × Int)) (o : Bool) (k : Int) : fnI pr np 44 [repV r 0 l.length, .c (.int .i64 k)] [.cells (cZ l) o] = some (rrV r l k, [.cells (cZ l) o]) := by
  have h0 := c_impl_racks r hr l o
  have t3 := repC_all hr (C.sl 0 0 l.length 2)
  have t2 := repC_drop hr (C.sl 0 0 l.length 2)
  rw [fb (fn := a44) rfl rfl]
  unfold rrV rrR rrB
  cases hq : repB r l with
  | true =>
    rw [racksV_t hq] at h0
    have hc := call_rep (rest := []) rfl (by simp) h0
    have hin := callA_pure (c_impl_within k 0 l.length) (by simp) (by simp)
    rw [show (decide ((0 : Int) ≤ k) && decide (k ≤ l.length)) = inB k 0 l.length from rfl] at hin
    cases hb : inB k 0 l.length with
    | true =>
      rw [hb] at hin
      have h1 : 0 ≤ k ∧ k ≤ l.length := by simpa [inB] using hb
      obtain ⟨K, rfl⟩ : ∃ K : Nat, k = (K : Int) := ⟨k.toNat, by omega⟩
      have hK : K ≤ l.length := by omega
      have g := outC_get hr l l.length hK
      have hol := outI_len hr l l.length
      have b1 : K < l.length + 1 := by omega
      have b1' : (K : Int) < (l.length : Int) + 1 := by omega
      have b2 : K * 24 + 24 ≤ (l.length + 1) * 24 := by omega
      have hpl := rackF_len hr (l.take K)
      have hp24 := take24 hpl
      simp [a44, repV, hr, t2, t3, hc, hin, g, hol, b1, b1', b2, hpl, hp24, setAt_all, sub]
    | false =>
      rw [hb] at hin
      simp [a44, repV, hr, t2, t3, hc, hin, setAt, sub]
  | false =>
    rw [racksV_f hq] at h0
    have hc := call_rep (rest := []) rfl (by simp) h0
    simp [a44, repV, hr, t3, hc, setAt, sub]
/-! ### solved -/
def solB (r : List Int) (l : List (Int × Int)) : Bool := repB r l && sortP (rackF r l)
theorem c_impl_solves (r : List Int) (hr : r.length = 24) (l : List (Int × Int)) (o : Bool) : fnI pr np 133 [repV r 0 l.length] [.cells (cZ l) o] = some (.c (.bool (solB r l)), [.cells (cZ l) o]) := by
  have h0 := c_impl_racks r hr l o
  have t3 := repC_all hr (C.sl 0 0 l.length 2)
  rw [fb (fn := a133) rfl rfl]
  unfold solB
  cases hq : repB r l with
  | true =>
    rw [racksV_t hq] at h0
    have hc := call_rep (rest := []) rfl (by simp) h0
    obtain ⟨h, hl, hg⟩ := repB_facts hr hq
    have w : IntKind.i64.wrap (l.length : Int) = (l.length : Int) := wrapI (by omega) (by omega)
    have ho := rackF_ok h l l.length (Nat.le_refl _) hg
    rw [rackF_all] at ho
    have hs := callA_pure (c_impl_isSorted _ ho) (by simp) (by simp)
    have g := outC_get hr l l.length (Nat.le_refl _)
    rw [rackF_all] at g
    have hol := outI_len hr l l.length
    have b1' : (l.length : Int) < (l.length : Int) + 1 := by omega
    have b2 : l.length * 24 + 24 ≤ (l.length + 1) * 24 := by omega
    simp [a133, repV, hr, t3, hc, w, g, hol, b1', b2, hs, sub]
  | false =>
    rw [racksV_f hq] at h0
    have hc := call_rep (rest := []) rfl (by simp) h0
    simp [a133, repV, hr, t3, hc, sub]
def solV (r : List Int) (l : List (Int × Int)) : V := .tup [.c (.bool (solB r l)), .c (.bool (repB r l))]
theorem c_impl_DoesSolve (r : List Int) (hr : r.length = 24) (l : List (Int × Int)) (o : Bool) : fnI pr np 40 [repV r 0 l.length] [.cells (cZ l) o] = some (solV r l, [.cells (cZ l) o]) := by
  have t3 := repC_all hr (C.sl 0 0 l.length 2)
  have h1 := call_rep (rest := []) rfl (by simp) (c_impl_IsReplay r hr l o)
  have h2 := call_rep (rest := []) rfl (by simp) (c_impl_solves r hr l o)
  rw [fb (fn := a40) rfl rfl]
  unfold solV solB at *
  cases hq : repB r l with
  | true => rw [hq] at h1 h2; simp [a40, repV, hr, t3, h1, h2, sub]
  | false => rw [hq] at h1 h2; simp [a40, repV, hr, t3, h1, sub]
theorem c_spec_DoesSolve (r : List Int) (hr : r.length = 24) (l : List (Int × Int)) (o : Bool) : fnI pr np 41 [repV r 0 l.length] [.cells (cZ l) o] = some (solV r l, [.cells (cZ l) o]) := by
  have h0 := c_spec_l11Racks r hr l o
  have t3 := repC_all hr (C.sl 0 0 l.length 2)
  rw [fb (fn := a41) rfl rfl]
  unfold solV solB
  cases hq : repB r l with
  | true =>
    rw [racksV_t hq] at h0
    have hc := call_rep (rest := []) rfl (by simp) h0
    obtain ⟨h, hl, hg⟩ := repB_facts hr hq
    have w : IntKind.i64.wrap (l.length : Int) = (l.length : Int) := wrapI (by omega) (by omega)
    have ho := rackF_ok h l l.length (Nat.le_refl _) hg
    rw [rackF_all] at ho
    have hs := callA_pure (c_spec_l2Sorted _ ho) (by simp) (by simp)
    have g := outC_get hr l l.length (Nat.le_refl _)
    rw [rackF_all] at g
    have hol := outI_len hr l l.length
    have b1' : (l.length : Int) < (l.length : Int) + 1 := by omega
    have b2 : l.length * 24 + 24 ≤ (l.length + 1) * 24 := by omega
    simp [a41, repV, hr, t3, hc, w, g, hol, b1', b2, hs, sub]
  | false =>
    rw [racksV_f hq] at h0
    have hc := call_rep (rest := []) rfl (by simp) h0
    simp [a41, repV, hr, t3, hc, sub]
/-! ### layers that are moved -/
def movedTo (r : List Int) (l : List (Int × Int)) (k : Nat) : Nat := ((List.range k).map fun j => pourN (rackF r (l.take j)) (l.getD j (0, 0)).1.toNat (l.getD j (0, 0)).2.toNat).sum
theorem movedTo_succ (r : List Int) (l : List (Int × Int)) {k : Nat} (hk : k < l.length) : movedTo r l (k + 1) = movedTo r l k + pourN (rackF r (l.take k)) (l[k]'hk).1.toNat (l[k]'hk).2.toNat := by
  unfold movedTo
  rw [List.range_succ, List.map_append, List.sum_append]
  simp [hk]
theorem pourN_le4 (r : List Int) (i j : Nat) : pourN r i j ≤ 4 := by unfold pourN; omega
theorem movedTo_le (r : List Int) (l : List (Int × Int)) : ∀ k, k ≤ l.length → movedTo r l k ≤ 4 * k
  | 0, _ => by simp [movedTo]
  | k + 1, h => by
    have := movedTo_le r l k (by omega)
    have := pourN_le4 (rackF r (l.take k)) (l[k]'(by omega)).1.toNat (l[k]'(by omega)).2.toNat
    rw [movedTo_succ r l (by omega)]
    omega
def movV (r : List Int) (l : List (Int × Int)) : V := .tup [.c (.int .i64 (if repB r l = true then (movedTo r l l.length : Int) else 0)), .c (.bool (repB r l))]
end Go.Proofs.Ytoaidbmkfdpagaa.AM
