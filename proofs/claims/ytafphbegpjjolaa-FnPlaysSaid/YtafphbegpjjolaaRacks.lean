import Derived.Test.YtafphbegpjjolaaRepDefs
/- Contracts: the racks of a replay. -/
namespace Go.Proofs.Ytafphbegpjjolaa.AM
open Go
set_option maxRecDepth 1000000
set_option linter.unusedSimpArgs false
set_option linter.unusedVariables false
def placeB (a : Int) : Bool := decide (0 ≤ a) && decide (a ≤ 5)
def canZ (r : List Int) (p : Int × Int) : Bool := placeB p.1 && placeB p.2 && canP r p.1.toNat p.2.toNat
def pourZ (r : List Int) (p : Int × Int) : List Int := pourR r p.1.toNat p.2.toNat
def rackF (r : List Int) (l : List (Int × Int)) : List Int := l.foldl pourZ r
def outI (r : List Int) (l : List (Int × Int)) (k : Nat) : List Int := (List.range (k + 1)).flatMap fun j => rackF r (l.take j)
def canAt (r : List Int) (l : List (Int × Int)) (k : Nat) : Bool := canZ (rackF r (l.take k)) (l.getD k (0, 0))
def allCan (r : List Int) (l : List (Int × Int)) : Bool := (List.range l.length).all (canAt r l)
/-- a valid replay -/
def repB (r : List Int) (l : List (Int × Int)) : Bool := okRack r && decide (l.length ≤ 60) && allCan r l
theorem pourZ_len {r : List Int} (hr : r.length = 24) (p : Int × Int) : (pourZ r p).length = 24 := pourR_len hr _ _
theorem rackF_len {r : List Int} (hr : r.length = 24) : ∀ (l : List (Int × Int)), (rackF r l).length = 24 := by
  intro l
  induction l generalizing r with
  | nil => exact hr
  | cons p l ih => exact ih (pourZ_len hr p)
theorem rackF_succ (r : List Int) {l : List (Int × Int)} {k : Nat} (hk : k < l.length) : rackF r (l.take (k + 1)) = pourZ (rackF r (l.take k)) (l[k]'hk) := by
  unfold rackF
  rw [take_snoc hk, List.foldl_append]
  rfl
theorem outI_zero (r : List Int) (l : List (Int × Int)) : outI r l 0 = r := by simp [outI, rackF]
theorem outI_succ (r : List Int) (l : List (Int × Int)) (k : Nat) : outI r l (k + 1) = outI r l k ++ rackF r (l.take (k + 1)) := by
  unfold outI
  rw [List.range_succ (n := k + 1), List.flatMap_append]
  simp
theorem outI_len {r : List Int} (hr : r.length = 24) (l : List (Int × Int)) : ∀ k, (outI r l k).length = (k + 1) * 24
  | 0 => by rw [outI_zero, hr]
  | k + 1 => by rw [outI_succ, List.length_append, outI_len hr l k, rackF_len hr]; omega
theorem outI_get {r : List Int} (hr : r.length = 24) (l : List (Int × Int)) : ∀ (k : Nat) {j : Nat}, j ≤ k → ((outI r l k).drop (j * 24)).take 24 = rackF r (l.take j)
  | 0, j, hj => by
    have : j = 0 := by omega
    subst this
    rw [outI_zero]
    simp [rackF, List.take_of_length_le (show r.length ≤ 24 by omega)]
  | k + 1, j, hj => by
    have hl := outI_len hr l k
    rw [outI_succ]
    by_cases h : j = k + 1
    · subst h
      rw [List.drop_append, hl, List.drop_of_length_le (by omega), Nat.sub_self]
      simp [List.take_of_length_le (show (rackF r (l.take (k + 1))).length ≤ 24 by rw [rackF_len hr]; omega)]
    · have hj' : j ≤ k := by omega
      rw [List.drop_append_of_le_length (by omega), List.take_append_of_le_length (by simp; omega)]
      exact outI_get hr l k hj'
theorem outC_get {r : List Int} (hr : r.length = 24) (l : List (Int × Int)) (k : Nat) {j : Nat} (hj : j ≤ k) : (((outI r l k).map (C.int .i64)).drop (j * 24)).take 24 = (rackF r (l.take j)).map (C.int .i64) := by
  rw [← outI_get hr l k hj, List.map_take, List.map_drop]
theorem canAt_eq (r : List Int) {l : List (Int × Int)} {k : Nat} (hk : k < l.length) : canAt r l k = canZ (rackF r (l.take k)) (l[k]'hk) := by
  unfold canAt
  rw [List.getD_eq_getElem?_getD, List.getElem?_eq_getElem hk]
  rfl
theorem canZ_facts {r : List Int} {p : Int × Int} (h : canZ r p = true) : ∃ i j : Nat, p.1 = (i : Int) ∧ p.2 = (j : Int) ∧ i < 6 ∧ j < 6 ∧ canP r i j = true ∧ p.1.toNat = i ∧ p.2.toNat = j := by
  simp only [canZ, placeB, Bool.and_eq_true, decide_eq_true_eq] at h
  exact ⟨p.1.toNat, p.2.toNat, by omega, by omega, by omega, by omega, h.2, rfl, rfl⟩
theorem rackF_ok {r : List Int} (h : RackOK r) (l : List (Int × Int)) : ∀ k, k ≤ l.length → (∀ j, j < k → canAt r l j = true) → RackOK (rackF r (l.take k))
  | 0, _, _ => by simpa [rackF] using h
  | k + 1, hk, hc => by
    have ih := rackF_ok h l k (by omega) fun j hj => hc j (by omega)
    have hck := hc k (by omega)
    rw [canAt_eq r (by omega)] at hck
    obtain ⟨i, j, _, _, hi, hj, hcan, e1, e2⟩ := canZ_facts hck
    rw [rackF_succ r (by omega)]
    unfold pourZ
    rw [e1, e2]
    exact ih.pour hi hj (canP_ne hcan)
theorem c_impl_isPlace (a : Int) : fnI pr np 87 [.c (.int .i64 a)] [] = some (.c (.bool (placeB a)), []) := by
  have hc := callA_pure (c_impl_within a 0 5) (by simp) (by simp)
  rw [fb (fn := a87) rfl rfl]
  simp [a87, hc, placeB]
theorem c_spec_l2Place (a : Int) : fnI pr np 89 [.c (.int .i64 a)] [] = some (.c (.bool (placeB a)), []) := by
  have hc := callA_pure (c_spec_l1In a 0 5) (by simp) (by simp)
  rw [fb (fn := a89) rfl rfl]
  simp [a89, hc, placeB]
theorem place_nat {a : Int} (h : placeB a = true) : ∃ i : Nat, a = (i : Int) ∧ i < 6 ∧ a.toNat = i := by
  simp only [placeB, Bool.and_eq_true, decide_eq_true_eq] at h
  exact ⟨a.toNat, by omega, by omega, rfl⟩
/-- the answer of racks: the racks behind each pour, or none -/
def racksV (r : List Int) (l : List (Int × Int)) (o : Bool) : V × Heap :=
  if repB r l = true then (.tup [.c (.sl 1 0 (l.length + 1) 24), .c (.bool true)], [.cells (cZ l) o, .cells ((outI r l l.length).map (C.int .i64)) true])
  else (.tup [.c (.sl 1 0 0 24), .c (.bool false)], [.cells (cZ l) o, .cells [] true])
theorem gt60 {n : Nat} (h : n ≤ 60) : ¬ (60 : Int) < (n : Int) := by omega
end Go.Proofs.Ytafphbegpjjolaa.AM
