import Derived.Test.YtenheijeahpbkaaT17
namespace Go.Proofs.Ytenheijeahpbkaa.AM
open Go
set_option maxRecDepth 1000000
set_option linter.unusedSimpArgs false
set_option linter.unusedVariables false
theorem top_all (t : List Int) (ht : t.length = 4) (h : tubeP t = true) : fnI pr np 69 [.agg (t.map (C.int .i64))] [] = some (.tup [.c (.int .i64 (topOf t).1), .c (.int .i64 (topOf t).2)], []) := by
  obtain ⟨a, b, c, d, rfl⟩ := len4 ht
  rw [tube_eq] at h
  simp at h
  by_cases ha : 0 < a
  · by_cases hb : 0 < b
    · by_cases hc : 0 < c
      · by_cases hd : 0 < d
        · exact t69_4 a b c d ha hb hc hd
        · have : d = 0 := by omega
          subst this
          exact t69_3 a b c ha hb hc
      · have h1 : c = 0 := by omega
        have h2 : d = 0 := by omega
        subst h1; subst h2
        exact t69_2 a b ha hb
    · have h0 : b = 0 := by omega
      have h1 : c = 0 := by omega
      have h2 : d = 0 := by omega
      subst h0; subst h1; subst h2
      exact t69_1 a ha
  · have h3 : a = 0 := by omega
    have h0 : b = 0 := by omega
    have h1 : c = 0 := by omega
    have h2 : d = 0 := by omega
    subst h3; subst h0; subst h1; subst h2
    exact t69_0
def fullP (t : List Int) : Bool := decide (layN t = 4) && decide ((runsOf t).length = 1)
theorem c70 (t : List Int) (ht : t.length = 4) (h : tubeP t = true) : fnI pr np 70 [.agg (t.map (C.int .i64))] [] = some (.c (.bool (fullP t)), []) := by
  have h81 := c81 t ht
  rw [(lay_eq ht).1] at h81
  have hc81 := callA_pure h81 (by simp) (by simp)
  have hc88 := callA_new (runs_both t ht h).2 (by simp)
  have ht4 : (t.map (C.int .i64)).take 4 = t.map (C.int .i64) := List.take_of_length_le (by simp; omega)
  rw [fb (fn := a70) rfl rfl]
  unfold fullP
  by_cases hl : layN t = 4
  · have hl' : (layN t : Int) = 4 := by omega
    by_cases hn : (runsOf t).length = 1
    · have hn' : ((runsOf t).length : Int) = 1 := by omega
      simp [a70, ht, ht4, hc81, hc88, runsV, back, hl, hl', hn, hn']
    · have hn' : ¬ ((runsOf t).length : Int) = 1 := by omega
      simp [a70, ht, ht4, hc81, hc88, runsV, back, hl, hl', hn, hn']
  · have hl' : ((layN t : Int) == 4) = false := by
      have : ¬ (layN t : Int) = 4 := by omega
      simpa using this
    simp [a70, ht, ht4, hc81, hc88, runsV, back, hl, hl']
theorem full_eq (t : List Int) (ht : t.length = 4) (h : tubeP t = true) : decide ((topOf t).2 = 4) = fullP t := by
  obtain ⟨a, b, c, d, rfl⟩ := len4 ht
  rw [tube_eq] at h
  simp at h
  rw [Bool.eq_iff_iff]
  by_cases hd : 0 < d
  · have ha0 : ¬ a = 0 := by omega
    have hb0 : ¬ b = 0 := by omega
    have hc0 : ¬ c = 0 := by omega
    have hd0 : ¬ d = 0 := by omega
    by_cases e1 : d = c
    · subst e1
      by_cases e2 : d = b
      · subst e2
        by_cases e3 : d = a
        · subst e3; simp [fullP, layN, runsOf, topOf, topRun, hd, ha0]
        · have e3' : ¬ a = d := fun e => e3 e.symm
          simp [fullP, layN, runsOf, topOf, topRun, hd, ha0, hb0, e3, e3']
      · have e2' : ¬ b = d := fun e => e2 e.symm
        by_cases e3 : a = b
        · simp [fullP, layN, runsOf, topOf, topRun, hd, ha0, hb0, hc0, hd0, e2, e2', e3]
        · simp [fullP, layN, runsOf, topOf, topRun, hd, ha0, hb0, hc0, hd0, e2, e2', e3]
    · have e1' : ¬ c = d := fun e => e1 e.symm
      by_cases e2 : b = c <;> by_cases e3 : a = b <;> simp [fullP, layN, runsOf, topOf, topRun, hd, ha0, hb0, hc0, hd0, e1, e1', e2, e3] <;> (split <;> simp)
  · have hd0 : d = 0 := by omega
    subst hd0
    by_cases hc : 0 < c <;> by_cases hb : 0 < b <;> by_cases ha : 0 < a <;> simp [fullP, layN, topOf, topRun, hc, hb, ha] <;> (repeat' split) <;> first | omega | simp
end Go.Proofs.Ytenheijeahpbkaa.AM
