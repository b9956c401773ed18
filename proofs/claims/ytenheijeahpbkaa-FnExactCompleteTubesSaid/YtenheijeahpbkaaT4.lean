import Derived.Test.YtenheijeahpbkaaT3
namespace Go.Proofs.Ytenheijeahpbkaa.AM
open Go
set_option maxRecDepth 100000
set_option linter.unusedSimpArgs false
theorem len4 {t : List Int} (h : t.length = 4) : ∃ a b c d, t = [a, b, c, d] := by
  match t, h with
  | [a, b, c, d], _ => exact ⟨a, b, c, d, rfl⟩
def layN : List Int → Nat
  | [] => 0
  | x :: r => if x = 0 then 0 else layN r + 1
theorem lay_eq {t : List Int} (h : t.length = 4) : lay t = (layN t : Int) ∧ layN t ≤ 4 := by
  obtain ⟨a, b, c, d, rfl⟩ := len4 h
  by_cases ha : a = 0
  · simp [lay, layN, firstNot, ha]
  · have ha' : ¬ (0 : Int) = a := fun e => ha e.symm
    by_cases hb : b = 0
    · simp [lay, layN, firstNot, ha, ha', hb]
    · have hb' : ¬ (0 : Int) = b := fun e => hb e.symm
      by_cases hc : c = 0
      · simp [lay, layN, firstNot, ha, ha', hb, hb', hc]
      · have hc' : ¬ (0 : Int) = c := fun e => hc e.symm
        by_cases hd : d = 0
        · simp [lay, layN, firstNot, ha, ha', hb, hb', hc, hc', hd]
        · have hd' : ¬ (0 : Int) = d := fun e => hd e.symm
          simp [lay, layN, firstNot, ha, ha', hb, hb', hc, hc', hd, hd']
def colP (x : Int) : Bool := decide (1 ≤ x) && decide (x ≤ 5)
def tubeP (t : List Int) : Bool := (t.take (layN t)).all colP && (t.drop (layN t)).all fun x => x == 0
theorem c60 (t : List Int) (ht : t.length = 4) : fnI pr np 60 [.agg (t.map (C.int .i64))] [] = some (.c (.bool (tubeP t)), []) := by
  obtain ⟨hlay, hle⟩ := lay_eq ht
  have hw : ∀ l : List Int, (cids (l.map (C.int .i64))) = [] := cids_ints _
  have hc81 := callA_pure (c81 t ht) (by simp) (by simp)
  have hc1 := fun base => callA_gen (F := fnI pr np) (f := 64) (args := [.c (.sl 0 0 (layN t) 1), .c (.fn 82 [])]) (H := lkp [.cells (t.map (C.int .i64)) true]) (L := [0]) (by simp [reach, idsAt]) (by simp [closed, inL, idsAt]) (by simp [sub]) (by simp [pos]) (c64 (g := 82) (p := colP) c82 t 0 (layN t) (by omega) (by omega) true) (by simp) base
  have hc2 := fun base => callA_gen (F := fnI pr np) (f := 64) (args := [.c (.sl 0 (layN t) (4 - layN t) 1), .c (.fn 83 [])]) (H := lkp [.cells (t.map (C.int .i64)) true]) (L := [0]) (by simp [reach, idsAt]) (by simp [closed, inL, idsAt]) (by simp [sub]) (by simp [pos]) (c64 (g := 83) (p := fun x => x == 0) c83 t (layN t) (4 - layN t) (by omega) (by omega) true) (by simp) base
  have hld : (t.drop (layN t)).take (4 - layN t) = t.drop (layN t) := List.take_of_length_le (by simp; omega)
  have hl4 : (t.map (C.int .i64)).take 4 = t.map (C.int .i64) := List.take_of_length_le (by simp; omega)
  rw [fb (fn := a60) rfl rfl]
  have hle2 : (layN t : Int) ≤ 4 := by omega
  have hd0 : t.drop 0 = t := rfl
  by_cases h1 : (t.take (layN t)).all colP = true
  · have h1' := h1
    simp only [List.all_eq_true] at h1'
    simp only [hd0, h1] at hc1
    simp [a60, hc81, hlay, ht, hl4, hle, hle2, hc1, hc2, hld, tubeP, h1]
  · have h1 : (t.take (layN t)).all colP = false := by simpa using h1
    simp only [hd0, h1] at hc1
    simp [a60, hc81, hlay, ht, hl4, hle, hle2, hc1, hc2, hld, tubeP, h1]
end Go.Proofs.Ytenheijeahpbkaa.AM
