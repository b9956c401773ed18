import Derived.Test.YtafphbegpjjolaaSorted
/- Bottoms of tubes. -/
namespace Go.Proofs.Ytafphbegpjjolaa.AM
open Go
set_option maxRecDepth 1000000
set_option linter.unusedSimpArgs false
set_option linter.unusedVariables false
/-- the color at a tube's bottom -/
def botN (r : List Int) (i : Nat) : Nat := ((tubeAt r i).getD 0 0).toNat
def botCnt (r : List Int) (c : Nat) : Nat → Nat
  | 0 => 0
  | k + 1 => botCnt r c k + if botN r k = c then 1 else 0
def botC (r : List Int) (k : Nat) : List C := [C.int .i64 (botCnt r 0 k), C.int .i64 (botCnt r 1 k), C.int .i64 (botCnt r 2 k), C.int .i64 (botCnt r 3 k), C.int .i64 (botCnt r 4 k), C.int .i64 (botCnt r 5 k)]
@[simp] theorem botC_len (r : List Int) (k : Nat) : (botC r k).length = 6 := rfl
@[simp] theorem botC_ids (r : List Int) (k : Nat) : cids (botC r k) = [] := rfl
@[simp] theorem botC_dead (r : List Int) (k : Nat) : noDead (botC r k) = true := rfl
@[simp] theorem botC_cmp (g : Nat → Nat) (r : List Int) (k : Nat) : cmp g (botC r k) = botC r k := rfl
theorem botCnt_le (r : List Int) (c : Nat) : ∀ k, botCnt r c k ≤ k
  | 0 => Nat.le_refl _
  | k + 1 => by have := botCnt_le r c k; simp only [botCnt]; split <;> omega
theorem botC_get (r : List Int) (k : Nat) {c : Nat} (hc : c ≤ 5) : ((botC r k).drop c).take 1 = [C.int .i64 (botCnt r c k)] := by
  have : c = 0 ∨ c = 1 ∨ c = 2 ∨ c = 3 ∨ c = 4 ∨ c = 5 := by omega
  rcases this with rfl | rfl | rfl | rfl | rfl | rfl <;> rfl
theorem botC_set (r : List Int) (k : Nat) {c : Nat} (hc : c ≤ 5) (hb : botN r k = c) : (botC r k).set c (C.int .i64 ((botCnt r c k : Int) + 1)) = botC r (k + 1) := by
  have : c = 0 ∨ c = 1 ∨ c = 2 ∨ c = 3 ∨ c = 4 ∨ c = 5 := by omega
  rcases this with rfl | rfl | rfl | rfl | rfl | rfl <;> simp [botC, botCnt, hb]
theorem bot_colT : allT (fun t => decide (0 ≤ t.getD 0 0) && decide (t.getD 0 0 ≤ 5) && ((runsOf t).length == 0) == (t.getD 0 0 == 0)) = true := by kernel_rfl
theorem bot_facts {r : List Int} (h : RackOK r) {i : Nat} (hi : i < 6) : botN r i ≤ 5 ∧ ((tubeAt r i).map (C.int .i64)).take 1 = [C.int .i64 (botN r i)] ∧ ((runsOf (tubeAt r i)).length = 0 ↔ botN r i = 0) := by
  have := tubes_all bot_colT (h.t4 hi) (h.tv hi)
  simp only [Bool.and_eq_true, decide_eq_true_eq, beq_iff_eq] at this
  obtain ⟨⟨h1, h2⟩, h3⟩ := this
  obtain ⟨a, b, c, d, ht⟩ := len4 (h.t4 hi)
  unfold botN
  rw [ht] at h1 h2 h3 ⊢
  simp at h1 h2 h3 ⊢
  refine ⟨by omega, by omega, ?_⟩
  rw [Bool.eq_iff_iff] at h3
  simp at h3
  rw [h3]
  omega
theorem cell_bot {r : List Int} (h : RackOK r) {i : Nat} (hi : i < 6) : ((r.map (C.int .i64)).drop (i * 4)).take 1 = [C.int .i64 (botN r i)] := by
  have := (bot_facts h hi).2.1
  rw [← cells_tube, List.take_take] at this
  exact this
def bdTo (r : List Int) : Nat → Nat
  | 0 => 0
  | k + 1 => bdTo r k + ((runsOf (tubeAt r k)).length - 1)
end Go.Proofs.Ytafphbegpjjolaa.AM
