import Derived.Test.YtcnlkmooifoljaaDoorEndGame
/- Contracts: sorted racks. -/
namespace Go.Proofs.YtcnlkmooifoljaaDoor.AM
open Go
set_option maxRecDepth 1000000
set_option linter.unusedSimpArgs false
set_option linter.unusedVariables false
/-- a sorted rack: tubes of one run at most, each of a color of its own -/
def sortTo (r : List Int) (seen : List Int) (i : Nat) : Nat → Bool
  | 0 => true
  | d + 1 => match runsOf (tubeAt r i) with
    | [] => sortTo r seen (i + 1) d
    | [p] => !decide (p.1 ∈ seen) && sortTo r (seen ++ [p.1]) (i + 1) d
    | _ :: _ :: _ => false
def sortP (r : List Int) : Bool := sortTo r [] 0 6
theorem runs_colT : allT (fun t => (runsOf t).all fun p => decide (1 ≤ p.1) && decide (p.1 ≤ 5)) = true := by kernel_rfl
theorem run_col {t : List Int} (ht : t.length = 4) (hv : tubeP t = true) {p : Int × Int} (hp : p ∈ runsOf t) : ∃ c : Nat, p.1 = (c : Int) ∧ 1 ≤ c ∧ c ≤ 5 := by
  have := List.all_eq_true.1 (tubes_all runs_colT ht hv) p hp
  simp only [Bool.and_eq_true, decide_eq_true_eq] at this
  exact ⟨p.1.toNat, by omega, by omega, by omega⟩
def seenB (s : List Int) : List C := [C.bool (decide (0 ∈ s)), C.bool (decide (1 ∈ s)), C.bool (decide (2 ∈ s)), C.bool (decide (3 ∈ s)), C.bool (decide (4 ∈ s)), C.bool (decide (5 ∈ s))]
@[simp] theorem seenB_len (s : List Int) : (seenB s).length = 6 := rfl
@[simp] theorem seenB_ids (s : List Int) : cids (seenB s) = [] := rfl
@[simp] theorem seenB_cmp (g : Nat → Nat) (s : List Int) : cmp g (seenB s) = seenB s := rfl
theorem seenB_get (s : List Int) {c : Nat} (hc : c ≤ 5) : ((seenB s).drop c).take 1 = [C.bool (decide ((c : Int) ∈ s))] := by
  have : c = 0 ∨ c = 1 ∨ c = 2 ∨ c = 3 ∨ c = 4 ∨ c = 5 := by omega
  rcases this with rfl | rfl | rfl | rfl | rfl | rfl <;> rfl
theorem seenB_set (s : List Int) {c : Nat} (hc : c ≤ 5) : (seenB s).set c (C.bool true) = seenB (s ++ [(c : Int)]) := by
  have : c = 0 ∨ c = 1 ∨ c = 2 ∨ c = 3 ∨ c = 4 ∨ c = 5 := by omega
  rcases this with rfl | rfl | rfl | rfl | rfl | rfl <;> simp [seenB]
end Go.Proofs.YtcnlkmooifoljaaDoor.AM
