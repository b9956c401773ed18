import Derived.Test.YtafphbegpjjolaaBotsD
import Derived.Test.YtafphbegpjjolaaSumP
/- Plain laws: what a pour does to runs and bottoms; the bottoms of a sorted rack. -/
namespace Go.Proofs.Ytafphbegpjjolaa.AM
open Go
set_option maxRecDepth 1000000
set_option linter.unusedSimpArgs false
set_option linter.unusedVariables false
def bdF (r : List Int) (k : Nat) : Nat := (runsOf (tubeAt r k)).length - 1
def btF (r : List Int) (c k : Nat) : Nat := if botN r k = c then 1 else 0
theorem bdTo_sum (r : List Int) : ∀ n, bdTo r n = sumTo (bdF r) n
  | 0 => rfl
  | n + 1 => by simp only [bdTo, sumTo, bdTo_sum r n]; rfl
theorem botCnt_sum (r : List Int) (c : Nat) : ∀ n, botCnt r c n = sumTo (btF r c) n
  | 0 => rfl
  | n + 1 => by simp only [botCnt, sumTo, botCnt_sum r c n]; rfl
def bTake (t : List Int) : Bool := (List.range 5).all fun n => decide (n = 0) || decide ((topOf t).2 < (n : Int)) || (decide ((runsOf (takeGo (layN t) n t)).length + (if (n : Int) = (topOf t).2 then 1 else 0) = (runsOf t).length) && decide ((takeGo (layN t) n t).getD 0 0 = if n = layN t then 0 else t.getD 0 0) && (decide (n ≠ layN t) || (decide (t.getD 0 0 = (topOf t).1) && decide ((runsOf t).length = 1))))
theorem bTake_all : allT bTake = true := by kernel_rfl
def bPut (t : List Int) : Bool := (List.range 5).all fun n => decide (n = 0) || decide (4 - layN t < n) || ([1, 2, 3, 4, 5] : List Int).all fun c => !(decide ((topOf t).1 = 0) || decide ((topOf t).1 = c)) || (decide ((runsOf (putGo (layN t) c n t)).length = if layN t = 0 then 1 else (runsOf t).length) && decide ((putGo (layN t) c n t).getD 0 0 = if layN t = 0 then c else t.getD 0 0))
theorem bPut_all : allT bPut = true := by kernel_rfl
/-- what a pour does to runs and bottoms -/
structure PourB (r : List Int) (i j : Nat) : Prop where
  other : ∀ k, k ≠ i → k ≠ j → tubeAt (pourR r i j) k = tubeAt r k
  i1 : (runsOf (tubeAt (pourR r i j) i)).length + (if (pourN r i j : Int) = (topOf (tubeAt r i)).2 then 1 else 0) = (runsOf (tubeAt r i)).length
  i2 : botN (pourR r i j) i = if pourN r i j = layN (tubeAt r i) then 0 else botN r i
  i3 : pourN r i j = layN (tubeAt r i) → botN r i = (topOf (tubeAt r i)).1.toNat ∧ (runsOf (tubeAt r i)).length = 1
  j1 : (runsOf (tubeAt (pourR r i j) j)).length = if layN (tubeAt r j) = 0 then 1 else (runsOf (tubeAt r j)).length
  j2 : botN (pourR r i j) j = if layN (tubeAt r j) = 0 then (topOf (tubeAt r i)).1.toNat else botN r j
  jr : layN (tubeAt r j) = 0 → (runsOf (tubeAt r j)).length = 0 ∧ botN r j = 0
  n1 : 1 ≤ pourN r i j
  n2 : (pourN r i j : Int) ≤ (topOf (tubeAt r i)).2
  n3 : layN (tubeAt r j) + pourN r i j ≤ 4
  c1 : 1 ≤ (topOf (tubeAt r i)).1 ∧ (topOf (tubeAt r i)).1 ≤ 5
theorem canP_iff {r : List Int} {i j : Nat} (h : canP r i j = true) : i ≠ j ∧ 0 < (topOf (tubeAt r i)).1 ∧ layN (tubeAt r j) < 4 ∧ ((topOf (tubeAt r j)).1 = 0 ∨ (topOf (tubeAt r j)).1 = (topOf (tubeAt r i)).1) := by
  simp only [canP, Bool.and_eq_true, Bool.or_eq_true, Bool.not_eq_true', decide_eq_true_eq, decide_eq_false_iff_not] at h
  exact ⟨h.1.1.1, h.1.1.2, h.1.2, h.2⟩
theorem pour_b {r : List Int} (h : RackOK r) {i j : Nat} (hi : i < 6) (hj : j < 6) (hc : canP r i j = true) : PourB r i j := by
  obtain ⟨hij, hc1, hc2, hc3⟩ := canP_iff hc
  have oi := h.top hi
  have oj := h.top hj
  have n2 : (pourN r i j : Int) ≤ (topOf (tubeAt r i)).2 := by unfold pourN; have := oi.n0; omega
  have hpos : 0 < (topOf (tubeAt r i)).2 := by
    have := oi.n0
    have h1 : ¬ (topOf (tubeAt r i)).2 = 0 := fun e => by have := oi.cn.2 e; omega
    omega
  have n1 : 1 ≤ pourN r i j := by unfold pourN; omega
  have hni : pourN r i j ≤ layN (tubeAt r i) := by have := oi.nl; omega
  have n3 : layN (tubeAt r j) + pourN r i j ≤ 4 := by unfold pourN; omega
  have ht := fun k => tube_pourGo (i := i) (j := j) (f := layN (tubeAt r i)) (t := layN (tubeAt r j)) (c := (topOf (tubeAt r i)).1) hij oi.l4 (pourN r i j) r hni n3 k
  have hti : tubeAt (pourR r i j) i = takeGo (layN (tubeAt r i)) (pourN r i j) (tubeAt r i) := by unfold pourR; rw [ht]; simp
  have htj : tubeAt (pourR r i j) j = putGo (layN (tubeAt r j)) (topOf (tubeAt r i)).1 (pourN r i j) (tubeAt r j) := by unfold pourR; rw [ht]; simp [Ne.symm hij]
  have h5 := oi.c5
  have fi := List.all_eq_true.1 (tubes_all bTake_all (h.t4 hi) (h.tv hi)) (pourN r i j) (List.mem_range.2 (by have := oi.l4; omega))
  have fj := List.all_eq_true.1 (tubes_all bPut_all (h.t4 hj) (h.tv hj)) (pourN r i j) (List.mem_range.2 (by omega))
  have x1 : decide (pourN r i j = 0) = false := decide_eq_false (by omega)
  have x2 : decide ((topOf (tubeAt r i)).2 < (pourN r i j : Int)) = false := decide_eq_false (by omega)
  have x3 : decide (4 - layN (tubeAt r j) < pourN r i j) = false := decide_eq_false (by omega)
  rw [x1, x2] at fi
  rw [x1, x3] at fj
  simp only [Bool.false_or, Bool.and_eq_true, decide_eq_true_eq, Bool.or_eq_true] at fi
  obtain ⟨⟨f1, f2⟩, f3⟩ := fi
  simp only [Bool.false_or] at fj
  have fj := List.all_eq_true.1 fj (topOf (tubeAt r i)).1 (by
    have : (topOf (tubeAt r i)).1 = 1 ∨ (topOf (tubeAt r i)).1 = 2 ∨ (topOf (tubeAt r i)).1 = 3 ∨ (topOf (tubeAt r i)).1 = 4 ∨ (topOf (tubeAt r i)).1 = 5 := by omega
    rcases this with e | e | e | e | e <;> rw [e] <;> simp)
  have x4 : (decide ((topOf (tubeAt r j)).1 = 0) || decide ((topOf (tubeAt r j)).1 = (topOf (tubeAt r i)).1)) = true := by simpa using hc3
  rw [x4] at fj
  simp only [Bool.not_true, Bool.false_or, Bool.and_eq_true, decide_eq_true_eq] at fj
  obtain ⟨g1, g2⟩ := fj
  refine ⟨fun k k1 k2 => by unfold pourR; rw [ht]; simp [k1, k2], by rw [hti]; exact f1, ?_, fun e => ?_, by rw [htj]; exact g1, ?_, fun e => ?_, n1, n2, n3, by omega⟩
  · unfold botN
    rw [hti, f2]
    split <;> rfl
  · rcases f3 with h3 | h3
    · exact absurd e h3
    · exact ⟨by unfold botN; rw [h3.1], h3.2⟩
  · unfold botN
    rw [htj, g2]
    split <;> rfl
  · have r0 := oj.rl.2 e
    exact ⟨r0, (bot_facts h hj).2.2.1 r0⟩
/-! ### a sorted rack has no bound -/
def botFrom (r : List Int) (c i : Nat) : Nat → Nat
  | 0 => 0
  | d + 1 => (if botN r i = c then 1 else 0) + botFrom r c (i + 1) d
def oneT (t : List Int) : Bool := match runsOf t with
  | [] => decide (t.getD 0 0 = 0)
  | [p] => decide (t.getD 0 0 = p.1)
  | _ => true
theorem oneT_all : allT oneT = true := by kernel_rfl
theorem sort_bots {r : List Int} (h : RackOK r) : ∀ (d i : Nat) (s : List Int), i + d ≤ 6 → sortTo r s i d = true → (∀ k, i ≤ k → k < i + d → (runsOf (tubeAt r k)).length ≤ 1) ∧ ∀ c : Nat, 1 ≤ c → botFrom r c i d ≤ 1 ∧ ((c : Int) ∈ s → botFrom r c i d = 0)
  | 0, i, s, _, _ => ⟨fun k h1 h2 => by omega, fun c _ => ⟨by simp [botFrom], fun _ => rfl⟩⟩
  | d + 1, i, s, hd, hs => by
    have ho := tubes_all oneT_all (h.t4 (i := i) (by omega)) (h.tv (by omega))
    unfold oneT at ho
    unfold sortTo at hs
    split at hs
    · rename_i hq
      rw [hq] at ho
      simp only [decide_eq_true_eq] at ho
      have hb : botN r i = 0 := by unfold botN; rw [ho]; rfl
      obtain ⟨a, b⟩ := sort_bots h d (i + 1) s (by omega) hs
      refine ⟨fun k h1 h2 => ?_, fun c hc => ?_⟩
      · by_cases e : k = i
        · subst e; rw [hq]; simp
        · exact a k (by omega) (by omega)
      · have := b c hc
        have e : ¬ botN r i = c := by omega
        simp only [botFrom, if_neg e, Nat.zero_add]
        exact this
    · rename_i p hq
      rw [hq] at ho
      simp only [decide_eq_true_eq] at ho
      simp only [Bool.and_eq_true, Bool.not_eq_true', decide_eq_false_iff_not] at hs
      obtain ⟨hs1, hs2⟩ := hs
      obtain ⟨a, b⟩ := sort_bots h d (i + 1) (s ++ [p.1]) (by omega) hs2
      obtain ⟨c0, hc0, _, _⟩ := run_col (h.t4 (i := i) (by omega)) (h.tv (by omega)) (p := p) (by rw [hq]; simp)
      have hb : botN r i = c0 := by unfold botN; rw [ho, hc0]; rfl
      refine ⟨fun k h1 h2 => ?_, fun c hc => ?_⟩
      · by_cases e : k = i
        · subst e; rw [hq]; simp
        · exact a k (by omega) (by omega)
      · have hh := b c hc
        by_cases e : c0 = c
        · subst e
          have h0 := hh.2 (by rw [← hc0]; simp)
          simp only [botFrom, hb, if_true, h0]
          exact ⟨by omega, fun hm => absurd (by rw [hc0]; exact hm) hs1⟩
        · have e' : ¬ botN r i = c := by omega
          simp only [botFrom, if_neg e', Nat.zero_add]
          exact ⟨hh.1, fun hm => hh.2 (by simp [hm])⟩
    · cases hs
end Go.Proofs.Ytafphbegpjjolaa.AM
