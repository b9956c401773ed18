import Derived.Test.YtahfeigilhjgpaaDoorDrawT
/- Contracts: texts, records and logs are drawn. -/
namespace Go.Proofs.YtahfeigilhjgpaaDoor.AM
open Go
set_option maxRecDepth 1000000
set_option linter.unusedSimpArgs false
set_option linter.unusedVariables false
theorem spoil_with {k : Nat} (h : k < 5) : ∃ w : UInt8, (([35, 64, 10, 48, 49] : Tx).drop k).take 1 = [w] ∧ 1 ≤ (([35, 64, 10, 48, 49] : Tx).drop k).length ∧ k ≤ 5 := by
  have : k = 0 ∨ k = 1 ∨ k = 2 ∨ k = 3 ∨ k = 4 := by omega
  rcases this with rfl | rfl | rfl | rfl | rfl <;> exact ⟨_, rfl, by decide, by decide⟩
set_option maxHeartbeats 4000000 in
theorem c_spoilt (bs : List Int) (hb : Bytes bs) (o : Bool) (p : Nat) (hp : p + 6 < 1000000000) (s : Int) (t : Tx) (ht : t.length ≤ 60000) : ∃ (x : Tx) (p' : Nat) (s' : Int), x.length ≤ t.length + 1 ∧ p' ≤ p + 6 ∧ fnI pr np 73 [.c (.ptr 0 0), .c (.str t), .c (.str [35, 64, 10, 48, 49])] [curB 1 bs.length p s, byB bs o] = some (.c (.str x), [curB 1 bs.length p' s', byB bs o]) := by
  by_cases h0 : t = []
  · subst h0
    refine ⟨[35], p, s, by decide, by omega, ?_⟩
    rw [fb (fn := a73) rfl rfl rfl]
    simp [a73, sub]
  · have hpos : 0 < t.length := List.length_pos_iff.2 h0
    obtain ⟨i, p1, s1, hi, hp1, hF1⟩ := c_pick bs hb o p (by omega) s t.length (by omega) (by omega)
    have k1 := call_cur (rest := [.c (.int .i64 t.length)]) rfl hF1 0 1
    obtain ⟨k, p2, s2, hk, hp2, hF2⟩ := c_pick bs hb o p1 (by omega) s1 5 (by decide) (by decide)
    have k2 := call_cur (rest := [.c (.int .i64 5)]) rfl hF2 0 1
    obtain ⟨m, p3, s3, hm, hp3, hF3⟩ := c_pick bs hb o p2 (by omega) s2 3 (by decide) (by decide)
    have k3 := call_cur (rest := [.c (.int .i64 3)]) rfl hF3 0 1
    obtain ⟨w, hw, hw1, hw5⟩ := spoil_with (k := k) (by omega)
    have hw1' : 1 ≤ 5 - k := by omega
    have hw2 : (1 : Int) ≤ ((5 - k : Nat) : Int) := by omega
    have hi' : i < t.length := by omega
    have hle : i ≤ t.length := by omega
    have hle1 : i + 1 ≤ t.length := by omega
    have hle' : (i : Int) ≤ (t.length : Int) := by omega
    have hle1' : (i : Int) + 1 ≤ (t.length : Int) := by omega
    have wi := wrapS (k := i) (by omega)
    have q1 : i ≤ 9223372036854775806 := by omega
    have q8 : t.length ≤ 9223372036854775807 := by omega
    have q2 : (0 : Int) ≤ (i : Int) + 1 := by omega
    have q3 : i + (1 + (t.length - i)) ≤ 9223372036854775807 := by omega
    have q4 : i + (1 + (t.length - (i + 1))) ≤ 9223372036854775807 := by omega
    have q5 : i + (t.length - (i + 1)) ≤ 9223372036854775807 := by omega
    have q6 : i + 1 + (t.length - i) ≤ 9223372036854775807 := by omega
    have q7 : i + 1 + (t.length - (i + 1)) ≤ 9223372036854775807 := by omega
    have tk : (t.take i).length = i := by rw [List.length_take]; omega
    by_cases m0 : (m : Int) = 0
    · have : m = 0 := by omega
      subst this
      refine ⟨t.take i ++ [w] ++ t.drop i, p3, s3, ?_, by omega, ?_⟩
      · simp; omega
      · rw [fb (fn := a73) rfl rfl rfl]
        simp [a73, h0, k1, k2, k3, hw, hw1, hw1', hw2, hw5, hle, hle', q1, q2, q3, q4, q5, q6, q7, q8, tk, sub]
    · by_cases m1 : (m : Int) = 1
      · have : m = 1 := by omega
        subst this
        refine ⟨t.take i ++ [w] ++ t.drop (i + 1), p3, s3, ?_, by omega, ?_⟩
        · simp; omega
        · rw [fb (fn := a73) rfl rfl rfl]
          simp [a73, h0, k1, k2, k3, hw, hw1, hw1', hw2, hw5, hle, hle', q1, q2, q3, q4, q5, q6, q7, q8, tk, hle1, hle1', wi, sub]
      · have m0' : ¬ m = 0 := by omega
        have m1' : ¬ m = 1 := by omega
        refine ⟨t.take i ++ t.drop (i + 1), p3, s3, ?_, by omega, ?_⟩
        · simp; omega
        · rw [fb (fn := a73) rfl rfl rfl]
          simp [a73, h0, k1, k2, k3, m0, m1, m0', m1', hw, hw1, hw1', hw2, hw5, hle, hle', q1, q2, q3, q4, q5, q6, q7, q8, tk, hle1, hle1', wi, sub]

/-- what a drawn record is -/
def DrawnR (bs : List Int) (o : Bool) (p : Nat) (v : V) (h' : Heap) : Prop := ∃ (a b : Tx) (p' : Nat) (s' : Int), a.length ≤ 20 ∧ b.length ≤ 20 ∧ p' ≤ p + 8 ∧ v = recV a b ∧ h' = [curB 1 bs.length p' s', byB bs o]
abbrev words1 : List Tx := [[114, 97, 99, 107], [112, 111, 117, 114, 32, 48, 32, 49], [120], [112, 117, 116, 32, 50, 32, 51], [48, 32, 49]]
abbrev words2 : List Tx := [[], [51], [63], [97, 64, 98], [51, 32, 49, 32, 50]]
abbrev words3 : List Tx := [[], [97, 64, 98], [97, 35], [10], [0, 0, 0]]
abbrev words4 : List Tx := [[35], [10], [127]]
set_option maxHeartbeats 8000000 in
theorem c_logRecord (bs : List Int) (hb : Bytes bs) (o : Bool) (p : Nat) (hp : p + 100 < 1000000000) (s : Int) : ∃ (v : V) (h' : Heap), fnI pr np 57 [.c (.ptr 0 0)] [curB 1 bs.length p s, byB bs o] = some (v, h') ∧ DrawnR bs o p v h' := by
  obtain ⟨a, p1, s1, ha, hp1, hF1⟩ := c_of bs hb o p (by omega) s words1 (by decide) (by decide)
  have ha := len_of (n := 20) (by decide) ha
  obtain ⟨b, p2, s2, hb2, hp2, hF2⟩ := c_of bs hb o p1 (by omega) s1 words2 (by decide) (by decide)
  have hb2 := len_of (n := 20) (by decide) hb2
  have k1 := call_among (by simp) hF1 0 3 1
  have k2 := call_among (by simp) hF2 0 4 1
  obtain ⟨m, p3, s3, hm, hp3, hF3⟩ := c_pick bs hb o p2 (by omega) s2 24 (by decide) (by decide)
  have k3 := call_cur (rest := [.c (.int .i64 24)]) rfl hF3 0 1
  simp [strC] at k1 k2
  rw [fb (fn := a57) rfl rfl rfl]
  by_cases m0 : (m : Int) = 0
  · have : m = 0 := by omega
    subst this
    obtain ⟨c, p4, s4, hc, hp4, hF4⟩ := c_of bs hb o p3 (by omega) s3 words3 (by decide) (by decide)
    have hc := len_of (n := 20) (by decide) hc
    have k4 := call_among (by simp) hF4 0 7 1
    simp [strC] at k4
    simp [a57, k1, k2, k3, k4, setAt, stillE, madeA, idOf, sub]
    first | exact ⟨c, b, p4, s4, hc, hb2, by omega, rfl, rfl⟩ | exact ⟨_, _, ⟨rfl, rfl⟩, c, b, p4, s4, hc, hb2, by omega, rfl, rfl⟩ | exact ⟨_, _, rfl, c, b, p4, s4, hc, hb2, by omega, rfl, rfl⟩
  · by_cases m1 : (m : Int) = 1
    · have : m = 1 := by omega
      subst this
      obtain ⟨c, p4, s4, hc, hp4, hF4⟩ := c_of bs hb o p3 (by omega) s3 words4 (by decide) (by decide)
      have hc := len_of (n := 20) (by decide) hc
      have k4 := call_among (by simp) hF4 0 6 1
      simp [strC] at k4
      simp [a57, k1, k2, k3, k4, setAt, stillE, madeA, idOf, sub]
      first | exact ⟨a, c, p4, s4, ha, hc, by omega, rfl, rfl⟩ | exact ⟨_, _, ⟨rfl, rfl⟩, a, c, p4, s4, ha, hc, by omega, rfl, rfl⟩ | exact ⟨_, _, rfl, a, c, p4, s4, ha, hc, by omega, rfl, rfl⟩
    · have m0' : ¬ m = 0 := by omega
      have m1' : ¬ m = 1 := by omega
      simp [a57, k1, k2, k3, m0, m1, m0', m1', setAt, stillE, madeA, idOf, sub]
      first | exact ⟨a, b, p3, s3, ha, hb2, by omega, rfl, rfl⟩ | exact ⟨_, _, ⟨rfl, rfl⟩, a, b, p3, s3, ha, hb2, by omega, rfl, rfl⟩ | exact ⟨_, _, rfl, a, b, p3, s3, ha, hb2, by omega, rfl, rfl⟩
end Go.Proofs.YtahfeigilhjgpaaDoor.AM
