import Derived.Test.YtafphbegpjjolaaBaseC
/- Plain laws: sums over the tubes. -/
namespace Go.Proofs.Ytafphbegpjjolaa.AM
open Go
def sumTo (f : Nat → Nat) : Nat → Nat
  | 0 => 0
  | n + 1 => sumTo f n + f n
theorem sumTo_two {f g : Nat → Nat} {i j : Nat} (hij : i ≠ j) (h : ∀ k, k ≠ i → k ≠ j → f k = g k) : ∀ n, sumTo f n + (if i < n then g i else 0) + (if j < n then g j else 0) = sumTo g n + (if i < n then f i else 0) + (if j < n then f j else 0)
  | 0 => by simp [sumTo]
  | n + 1 => by
    have ih := sumTo_two hij h n
    simp only [sumTo]
    by_cases hi : n = i
    · subst hi
      have e3 : (j < n + 1) = (j < n) := by apply propext; omega
      rw [if_neg (Nat.lt_irrefl n), if_neg (Nat.lt_irrefl n)] at ih
      rw [if_pos (Nat.lt_succ_self n), if_pos (Nat.lt_succ_self n)]
      simp only [e3]
      omega
    · by_cases hj : n = j
      · subst hj
        have e3 : (i < n + 1) = (i < n) := by apply propext; omega
        rw [if_neg (Nat.lt_irrefl n), if_neg (Nat.lt_irrefl n)] at ih
        rw [if_pos (Nat.lt_succ_self n), if_pos (Nat.lt_succ_self n)]
        simp only [e3]
        omega
      · have e := h n hi hj
        have e1 : (i < n + 1) = (i < n) := by apply propext; omega
        have e2 : (j < n + 1) = (j < n) := by apply propext; omega
        simp only [e1, e2]
        omega
theorem sumTo_two6 {f g : Nat → Nat} {i j : Nat} (hi : i < 6) (hj : j < 6) (hij : i ≠ j) (h : ∀ k, k ≠ i → k ≠ j → f k = g k) : sumTo f 6 + g i + g j = sumTo g 6 + f i + f j := by
  have := sumTo_two hij h 6
  simpa [hi, hj] using this
end Go.Proofs.Ytafphbegpjjolaa.AM
