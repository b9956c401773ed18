import Derived.Test.YtcnlkmooifoljaaDoorRacks
/- The text of a rack and of a replay: plain laws. -/
namespace Go.Proofs.YtcnlkmooifoljaaDoor.AM
open Go
set_option maxRecDepth 1000000
set_option linter.unusedSimpArgs false
set_option linter.unusedVariables false
/-- the sign of a layer; a digit -/
def chB (c : Int) : UInt8 := if c = 0 then 46 else UInt8.ofNat (96 + c.toNat)
def dgB (a : Int) : UInt8 := UInt8.ofNat (48 + a.toNat)
def tbT (r : List Int) (i : Nat) : List UInt8 := (tubeAt r i).map chB
def sepT (i : Nat) : List UInt8 := if i = 0 then [] else [47]
def preT (r : List Int) (i : Nat) : List UInt8 := (List.range i).flatMap fun j => sepT j ++ tbT r j
theorem preT_succ (r : List Int) (i : Nat) : preT r (i + 1) = preT r i ++ (sepT i ++ tbT r i) := by
  unfold preT
  rw [List.range_succ, List.flatMap_append]
  simp
theorem tbT_len {r : List Int} (hr : r.length = 24) {i : Nat} (hi : i < 6) : (tbT r i).length = 4 := by unfold tbT; rw [List.length_map, tubeAt_len hr hi]
theorem preT_len {r : List Int} (hr : r.length = 24) : ∀ i, i ≤ 6 → (preT r i).length ≤ i * 5
  | 0, _ => by simp [preT]
  | i + 1, h => by
    have ih := preT_len hr i (by omega)
    rw [preT_succ]
    simp only [List.length_append, tbT_len hr (i := i) (by omega)]
    have : (sepT i).length ≤ 1 := by unfold sepT; split <;> simp
    omega
def txK (r : List Int) (l : List (Int × Int)) (k : Nat) : List UInt8 := preT r 6 ++ (l.take k).flatMap fun p => [32, dgB p.1, dgB p.2]
def txR (r : List Int) (l : List (Int × Int)) : List UInt8 := txK r l l.length
theorem txK_succ (r : List Int) {l : List (Int × Int)} {k : Nat} (hk : k < l.length) : txK r l (k + 1) = txK r l k ++ [32, dgB (l[k]'hk).1, dgB (l[k]'hk).2] := by
  unfold txK
  rw [List.take_add_one, List.getElem?_eq_getElem hk, List.flatMap_append, List.append_assoc]
  rfl
theorem txK_len {r : List Int} (hr : r.length = 24) (l : List (Int × Int)) : ∀ k, k ≤ l.length → (txK r l k).length ≤ 30 + 3 * k
  | 0, _ => by
    have := preT_len hr 6 (by omega)
    simp [txK]
    omega
  | k + 1, h => by
    have := txK_len hr l k (by omega)
    rw [txK_succ r (by omega)]
    simp
    omega
theorem tube_col {t : List Int} (ht : t.length = 4) (h : tubeP t = true) {k : Nat} (hk : k < 4) : 0 ≤ t.getD k 0 ∧ t.getD k 0 ≤ 5 := by
  obtain ⟨a, b, c, d, rfl⟩ := len4 ht
  rw [tube_eq] at h
  simp at h
  match k, hk with
  | 0, _ => simp; omega
  | 1, _ => simp; omega
  | 2, _ => simp; omega
  | 3, _ => simp; omega
theorem six_of {x : Int} (h : 0 ≤ x ∧ x ≤ 5) : x = 0 ∨ x = 1 ∨ x = 2 ∨ x = 3 ∨ x = 4 ∨ x = 5 := by omega
theorem take_one (l : List UInt8) {k : Nat} (hk : k < l.length) : l.take (k + 1) = l.take k ++ [l.getD k 0] := by
  rw [List.take_add_one, List.getElem?_eq_getElem hk, List.getD_eq_getElem?_getD, List.getElem?_eq_getElem hk]
  rfl
theorem tbT_get {r : List Int} (hr : r.length = 24) {i k : Nat} (hi : i < 6) (hk : k < 4) : (tbT r i).getD k 0 = chB ((tubeAt r i).getD k 0) := by
  have h4 := tubeAt_len hr hi
  unfold tbT
  rw [List.getD_eq_getElem?_getD, List.getD_eq_getElem?_getD, List.getElem?_map, List.getElem?_eq_getElem (by omega)]
  rfl
end Go.Proofs.YtcnlkmooifoljaaDoor.AM
