import Derived.Test.YtoaidbmkfdpagaaRacks
/- Deals: definitions and plain laws, no program in sight. -/
namespace Go.Proofs.Ytoaidbmkfdpagaa.AM
open Go
set_option maxRecDepth 1000000
set_option linter.unusedSimpArgs false
set_option linter.unusedVariables false
/-! ### binomials -/
def ch : Nat → Nat → Nat
  | _, 0 => 1
  | 0, _ + 1 => 0
  | n + 1, k + 1 => ch n k + ch n (k + 1)
theorem ch_zero (n : Nat) : ch n 0 = 1 := by cases n <;> rfl
theorem ch_mul : ∀ n i : Nat, (i + 1) * ch (n + 1) (i + 1) = (n + 1) * ch n i
  | 0, 0 => rfl
  | 0, i + 1 => by simp [ch]
  | n + 1, 0 => by
    have h := ch_mul n 0
    have e : ch (n + 1 + 1) (0 + 1) = ch (n + 1) 0 + ch (n + 1) (0 + 1) := rfl
    rw [e, Nat.mul_add, h, ch_zero, ch_zero]
    omega
  | n + 1, i + 1 => by
    have h1 := ch_mul n i
    have h2 := ch_mul n (i + 1)
    have e : ch (n + 1 + 1) (i + 1 + 1) = ch (n + 1) (i + 1) + ch (n + 1) (i + 1 + 1) := rfl
    have e2 : ch (n + 1) (i + 1) = ch n i + ch n (i + 1) := rfl
    rw [e, Nat.mul_add, h2, Nat.add_mul (i + 1) 1, h1, Nat.add_mul (n + 1) 1 (ch (n + 1) (i + 1))]
    have e3 : (n + 1) * ch (n + 1) (i + 1) = (n + 1) * ch n i + (n + 1) * ch n (i + 1) := by rw [e2, Nat.mul_add]
    omega
theorem ch_over : ∀ n d : Nat, ch n (n + 1 + d) = 0
  | 0, d => by rw [show 0 + 1 + d = d + 1 by omega]; rfl
  | n + 1, d => by
    rw [show n + 1 + 1 + d = (n + 1 + d) + 1 by omega]
    have e : ch (n + 1) ((n + 1 + d) + 1) = ch n (n + 1 + d) + ch n (n + 1 + d + 1) := rfl
    rw [e, ch_over n d, show n + 1 + d + 1 = n + 1 + (d + 1) by omega, ch_over n (d + 1)]
theorem ch_self : ∀ n : Nat, ch n n = 1
  | 0 => rfl
  | n + 1 => by
    have e : ch (n + 1) (n + 1) = ch n n + ch n (n + 1) := rfl
    have := ch_over n 0
    rw [e, ch_self n]
    simp only [Nat.add_zero] at this
    omega
theorem ch_pow (k : Nat) : ∀ i j : Nat, ch (i + j) i * k ^ j ≤ (k + 1) ^ (i + j)
  | 0, j => by rw [ch_zero, Nat.one_mul, Nat.zero_add]; exact Nat.pow_le_pow_left (by omega) j
  | i + 1, 0 => by
    rw [Nat.add_zero, ch_self, Nat.pow_zero]
    have : 0 < (k + 1) ^ (i + 1) := Nat.pow_pos (by omega)
    omega
  | i + 1, j + 1 => by
    have h1 := ch_pow k i (j + 1)
    have h2 := ch_pow k (i + 1) j
    have e1 : i + 1 + (j + 1) = i + (j + 1) + 1 := by omega
    have e2 : i + 1 + j = i + (j + 1) := by omega
    rw [e2] at h2
    rw [e1]
    have e : ch (i + (j + 1) + 1) (i + 1) = ch (i + (j + 1)) i + ch (i + (j + 1)) (i + 1) := rfl
    rw [e, Nat.add_mul, Nat.pow_succ (k + 1), Nat.mul_add, Nat.mul_one]
    have h3 : ch (i + (j + 1)) (i + 1) * k ^ (j + 1) ≤ (k + 1) ^ (i + (j + 1)) * k := by
      rw [Nat.pow_succ k, ← Nat.mul_assoc]
      exact Nat.mul_le_mul_right _ h2
    omega
/-! ### in how many orders -/
/-- after i layers more of one color -/
def waysIn (a p : Nat) : Nat → Nat
  | 0 => a
  | i + 1 => waysIn a p i * (p + i + 1) / (i + 1)
theorem waysIn_pos {a p : Nat} (ha : 0 < a) : ∀ i, 0 < waysIn a p i
  | 0 => ha
  | i + 1 => by
    have := waysIn_pos (p := p) ha i
    refine Nat.div_pos ?_ (by omega)
    calc i + 1 ≤ p + i + 1 := by omega
      _ = 1 * (p + i + 1) := by omega
      _ ≤ waysIn a p i * (p + i + 1) := Nat.mul_le_mul_right _ this
theorem waysIn_le (a p : Nat) : ∀ i, waysIn a p i ≤ a * ch (p + i) i
  | 0 => by rw [ch_zero, Nat.mul_one]; exact Nat.le_refl _
  | i + 1 => by
    have ih := waysIn_le a p i
    have h := ch_mul (p + i) i
    refine Nat.div_le_of_le_mul ?_
    calc waysIn a p i * (p + i + 1) ≤ a * ch (p + i) i * (p + i + 1) := Nat.mul_le_mul_right _ ih
      _ = a * ((p + i + 1) * ch (p + i) i) := by ac_rfl
      _ = a * ((i + 1) * ch (p + i + 1) (i + 1)) := by rw [h]
      _ = (i + 1) * (a * ch (p + (i + 1)) (i + 1)) := by rw [show p + (i + 1) = p + i + 1 by omega]; ac_rfl
theorem waysIn_pow {a p k : Nat} (ha : a ≤ k ^ p) (i : Nat) : waysIn a p i ≤ (k + 1) ^ (p + i) := by
  have h1 := waysIn_le a p i
  have h2 := ch_pow k i p
  rw [Nat.add_comm i p] at h2
  calc waysIn a p i ≤ a * ch (p + i) i := h1
    _ ≤ k ^ p * ch (p + i) i := Nat.mul_le_mul_right _ ha
    _ = ch (p + i) i * k ^ p := Nat.mul_comm _ _
    _ ≤ _ := h2
/-- the state of the loop over colors: ways, and layers so far -/
def waysTo (c : List Nat) : Nat → Nat × Nat
  | 0 => (1, 0)
  | j + 1 => (waysIn (waysTo c j).1 (waysTo c j).2 (c.getD j 0), (waysTo c j).2 + c.getD j 0)
def ways (c : List Nat) : Nat := (waysTo c 6).1
theorem waysTo_pos (c : List Nat) : ∀ j, 0 < (waysTo c j).1
  | 0 => Nat.one_pos
  | j + 1 => waysIn_pos (waysTo_pos c j) _
theorem waysTo_pow (c : List Nat) : ∀ j, (waysTo c j).1 ≤ (j + 1) ^ (waysTo c j).2
  | 0 => Nat.le_refl _
  | j + 1 => waysIn_pow (waysTo_pow c j) _
theorem waysTo_sum (c : List Nat) : ∀ j, (waysTo c j).2 = (c.take j).sum
  | 0 => by simp [waysTo]
  | j + 1 => by
    show (waysTo c j).2 + c.getD j 0 = _
    rw [waysTo_sum c j]
    by_cases h : j < c.length
    · rw [List.take_succ_eq_append_getElem h, List.sum_append]
      simp [List.getD_eq_getElem?_getD, List.getElem?_eq_getElem h]
    · rw [List.take_of_length_le (by omega), List.take_of_length_le (by omega), List.getD_eq_getElem?_getD, List.getElem?_eq_none (by omega)]
      simp
/-! ### each tube of one color -/
def plainN : List Nat → List Nat → Nat
  | [], _ => 1
  | m :: ms, c => if m = 0 then plainN ms c else ((List.range 6).map fun j => if m ≤ c.getD j 0 then plainN ms (c.set j (c.getD j 0 - m)) else 0).sum
def plainTo (m : Nat) (ms c : List Nat) (k : Nat) : Nat := ((List.range k).map fun j => if m ≤ c.getD j 0 then plainN ms (c.set j (c.getD j 0 - m)) else 0).sum
theorem plainTo_succ (m : Nat) (ms c : List Nat) (k : Nat) : plainTo m ms c (k + 1) = plainTo m ms c k + if m ≤ c.getD k 0 then plainN ms (c.set k (c.getD k 0 - m)) else 0 := by
  unfold plainTo
  rw [List.range_succ, List.map_append, List.sum_append]
  simp
theorem plainN_cons (m : Nat) (ms c : List Nat) (h : m ≠ 0) : plainN (m :: ms) c = plainTo m ms c 6 := by
  rw [plainN, if_neg h]; rfl
theorem plainN_le : ∀ (ms c : List Nat), plainN ms c ≤ 6 ^ ms.length
  | [], c => by simp [plainN]
  | m :: ms, c => by
    have hx : ∀ c, plainN ms c ≤ 6 ^ ms.length := plainN_le ms
    by_cases h : m = 0
    · rw [plainN, if_pos h, List.length_cons, Nat.pow_succ]
      have := hx c
      omega
    · rw [plainN_cons m ms c h, List.length_cons, Nat.pow_succ]
      have hk : ∀ k, plainTo m ms c k ≤ k * 6 ^ ms.length := by
        intro k
        induction k with
        | zero => simp [plainTo]
        | succ k ih =>
          rw [plainTo_succ, Nat.add_mul]
          have : (if m ≤ c.getD k 0 then plainN ms (c.set k (c.getD k 0 - m)) else 0) ≤ 6 ^ ms.length := by
            split
            · exact hx _
            · exact Nat.zero_le _
          omega
      have := hk 6
      omega
theorem plainTo_le (m : Nat) (ms c : List Nat) (k : Nat) : plainTo m ms c k ≤ k * 6 ^ ms.length := by
  induction k with
  | zero => simp [plainTo]
  | succ k ih =>
    rw [plainTo_succ, Nat.add_mul]
    have : (if m ≤ c.getD k 0 then plainN ms (c.set k (c.getD k 0 - m)) else 0) ≤ 6 ^ ms.length := by
      split
      · exact plainN_le _ _
      · exact Nat.zero_le _
    omega
end Go.Proofs.Ytoaidbmkfdpagaa.AM
