import Derived.Test.YtcnlkmooifoljaaDoorRepLaws
import Derived.Test.YtcnlkmooifoljaaDoorConfs
import Derived.Test.YtcnlkmooifoljaaDoorSorted
/- Contracts: laws of replays: a rack, solved, layers. -/
namespace Go.Proofs.YtcnlkmooifoljaaDoor.AM
open Go
set_option maxRecDepth 1000000
set_option linter.unusedSimpArgs false
set_option linter.unusedVariables false
theorem repB_facts {r : List Int} (hr : r.length = 24) {l : List (Int × Int)} (h : repB r l = true) : RackOK r ∧ l.length ≤ 60 ∧ (∀ j, j < l.length → canAt r l j = true) := by
  simp only [repB, Bool.and_eq_true, decide_eq_true_eq] at h
  exact ⟨rackOK hr h.1.1, h.1.2, fun j hj => List.all_eq_true.1 h.2 j (List.mem_range.2 hj)⟩
theorem rackF_all (r : List Int) (l : List (Int × Int)) : rackF r (l.take l.length) = rackF r l := by rw [List.take_length]
/-! ### a rack of a replay -/
def rrB (r : List Int) (l : List (Int × Int)) (k : Int) : Bool := repB r l && inB k 0 l.length
def rrR (r : List Int) (l : List (Int × Int)) (k : Int) : List Int := if rrB r l k = true then rackF r (l.take k.toNat) else List.replicate 24 0
def rrV (r : List Int) (l : List (Int × Int)) (k : Int) : V := .tup [.agg ((rrR r l k).map (C.int .i64)), .c (.bool (rrB r l k))]
theorem rrR_len {r : List Int} (hr : r.length = 24) (l : List (Int × Int)) (k : Int) : (rrR r l k).length = 24 := by
  unfold rrR
  split
  · exact rackF_len hr _
  · simp
/-! ### solved -/
def solB (r : List Int) (l : List (Int × Int)) : Bool := repB r l && sortP (rackF r l)
def solV (r : List Int) (l : List (Int × Int)) : V := .tup [.c (.bool (solB r l)), .c (.bool (repB r l))]
/-! ### layers that are moved -/
def movedTo (r : List Int) (l : List (Int × Int)) (k : Nat) : Nat := ((List.range k).map fun j => pourN (rackF r (l.take j)) (l.getD j (0, 0)).1.toNat (l.getD j (0, 0)).2.toNat).sum
theorem movedTo_succ (r : List Int) (l : List (Int × Int)) {k : Nat} (hk : k < l.length) : movedTo r l (k + 1) = movedTo r l k + pourN (rackF r (l.take k)) (l[k]'hk).1.toNat (l[k]'hk).2.toNat := by
  unfold movedTo
  rw [List.range_succ, List.map_append, List.sum_append]
  simp [hk]
theorem movedTo_le (r : List Int) (l : List (Int × Int)) : ∀ k, k ≤ l.length → movedTo r l k ≤ 4 * k
  | 0, _ => by simp [movedTo]
  | k + 1, h => by
    have := movedTo_le r l k (by omega)
    have := pourN_le4 (rackF r (l.take k)) (l[k]'(by omega)).1.toNat (l[k]'(by omega)).2.toNat
    rw [movedTo_succ r l (by omega)]
    omega
def movV (r : List Int) (l : List (Int × Int)) : V := .tup [.c (.int .i64 (if repB r l = true then (movedTo r l l.length : Int) else 0)), .c (.bool (repB r l))]
end Go.Proofs.YtcnlkmooifoljaaDoor.AM
