import Derived.Test.YtafphbegpjjolaaMapF
import Derived.Test.YtafphbegpjjolaaRacks
/- Contracts: the order of racks, and putting a rack to its place among others. -/
namespace Go.Proofs.Ytafphbegpjjolaa.AM
open Go
set_option maxRecDepth 1000000
set_option linter.unusedSimpArgs false
set_option linter.unusedVariables false
theorem lexB_first : ∀ (a b : List Int) (K : Nat), a.length = b.length → K < a.length → (∀ j, j < K → a.getD j 0 = b.getD j 0) → a.getD K 0 ≠ b.getD K 0 → lexB a b = decide (a.getD K 0 < b.getD K 0)
  | x :: a, y :: b, 0, _, _, _, h => by
    simp only [List.getD_cons_zero] at h ⊢
    simp [lexB, h]
  | x :: a, y :: b, K + 1, hl, hK, he, h => by
    have h0 := he 0 (by omega)
    simp only [List.getD_cons_zero] at h0
    subst h0
    simp only [lexB, if_true, List.getD_cons_succ] at h ⊢
    exact lexB_first a b K (by simpa using hl) (by simpa using hK) (fun j hj => by simpa using he (j + 1) (by omega)) h
  | [], _, _, _, hK, _, _ => by simp at hK
  | _ :: _, [], _, hl, _, _, _ => by simp at hl
theorem getD_ext {a b : List Int} (hl : a.length = b.length) (h : ∀ j, j < a.length → a.getD j 0 = b.getD j 0) : a = b := by
  apply List.ext_getElem hl
  intro j h1 h2
  have := h j h1
  rwa [List.getD_eq_getElem?_getD, List.getD_eq_getElem?_getD, List.getElem?_eq_getElem h1, List.getElem?_eq_getElem h2] at this
def envB (i : Nat) : Env := [(2, .c (.ptr 0 0)), (3, .c (.ptr 1 0)), (5, .c (.int .i64 i))]
def envB2 (i k : Nat) : Env := [(2, .c (.ptr 0 0)), (3, .c (.ptr 1 0)), (5, .c (.int .i64 i)), (6, .c (.int .i64 k))]
theorem c_spec_l2Before (a b : List Int) (ha : a.length = 24) (hb : b.length = 24) : fnI pr np 95 [.agg (a.map (C.int .i64)), .agg (b.map (C.int .i64))] [] = some (.c (.bool (lexB a b)), []) := by
  obtain ⟨K, hK1, hK2, hK3⟩ := first_exit (fun k => decide (a.getD k 0 ≠ b.getD k 0)) 24
  have ga : ∀ i k : Nat, i < 6 → k < 4 → ((a.map (C.int .i64)).drop (i * 4 + k)).take 1 = [C.int .i64 (a.getD (i * 4 + k) 0)] := fun i k hi hk => drop_take1 (by omega)
  have gb : ∀ i k : Nat, i < 6 → k < 4 → ((b.map (C.int .i64)).drop (i * 4 + k)).take 1 = [C.int .i64 (b.getD (i * 4 + k) 0)] := fun i k hi hk => drop_take1 (by omega)
  have hsame : ∀ j, j < K → a.getD j 0 = b.getD j 0 := fun j hj => by simpa using hK3 j hj
  have hlex : lexB a b = if K < 24 then decide (a.getD K 0 < b.getD K 0) else false := by
    by_cases hk : K < 24
    · rw [if_pos hk]
      refine lexB_first a b K (ha.trans hb.symm) (by omega) hsame ?_
      rcases hK2 with h | h
      · omega
      · exact of_decide_eq_true h
    · rw [if_neg hk]
      have : a = b := getD_ext (ha.trans hb.symm) fun j hj => hsame j (by omega)
      rw [this, lexB_irr]
  rw [fb (fn := a95) rfl rfl]
  generalize lexB a b = X at hlex ⊢
  obtain ⟨I, hI⟩ : ∃ I, I = K / 4 := ⟨_, rfl⟩
  obtain ⟨J, hJ⟩ : ∃ J, J = K % 4 := ⟨_, rfl⟩
  have e1 : I * 4 + J = K := by omega
  have hm : J < 4 := by omega
  have hm' : (J : Int) < 4 := by omega
  simp [a95, ha, hb]
  rw [loop_to (fun i => (envB i, [Blk.cells (a.map (C.int .i64)) true, Blk.cells (b.map (C.int .i64)) true])) I]
  · by_cases hk : K < 24
    · have hd : a.getD K 0 ≠ b.getD K 0 := by
        rcases hK2 with h | h
        · omega
        · exact of_decide_eq_true h
      have hi : I < 6 := by omega
      have hi' : (I : Int) < 6 := by omega
      simp [envB, hi, hi']
      rw [loop_to (fun k => (envB2 I k, [Blk.cells (a.map (C.int .i64)) true, Blk.cells (b.map (C.int .i64)) true])) J]
      · have g1 := ga I J hi (by omega)
        have g2 := gb I J hi (by omega)
        have b1 : I * 4 + J + 1 ≤ 24 := by omega
        rw [e1] at g1 g2 b1
        have hd2 : (a.getD K 0 == b.getD K 0) = false := beq_eq_false_iff_ne.2 hd
        rw [if_pos hk] at hlex
        generalize a.getD K 0 = x at *
        generalize b.getD K 0 = y at *
        simp [envB2, hi', hm', g1, g2, b1, e1, ha, hb, hk, hd, hd2, hlex]
      · simp [envB2, sub]
      · intro k hk2
        have g1 := ga I k hi (by omega)
        have g2 := gb I k hi (by omega)
        have b1 : I * 4 + k + 1 ≤ 24 := by omega
        have hs := hsame (I * 4 + k) (by omega)
        have hm : (k : Int) < 4 := by omega
        have wk := wrapS (k := k) (by omega)
        rw [hs] at g1
        generalize b.getD (I * 4 + k) 0 = y at *
        simp [envB2, hi', hm, g1, g2, b1, ha, hb, wk, sub]
    · have : I = 6 := by omega
      subst this
      rw [if_neg hk] at hlex
      simp [envB, hk, hlex]
  · simp [envB, sub]
  · intro i hi
    have hi6 : i < 6 := by omega
    have hi' : (i : Int) < 6 := by omega
    have wi := wrapS (k := i) (by omega)
    simp [envB, hi']
    rw [loop_to (fun k => (envB2 i k, [Blk.cells (a.map (C.int .i64)) true, Blk.cells (b.map (C.int .i64)) true])) 4]
    · simp [envB2, wi, sub]
    · simp [envB2, sub]
    · intro k hk
      have hk' : (k : Int) < 4 := by omega
      have g1 := ga i k hi6 (by omega)
      have g2 := gb i k hi6 (by omega)
      have b1 : i * 4 + k + 1 ≤ 24 := by omega
      have hs := hsame (i * 4 + k) (by omega)
      have wk := wrapS (k := k) (by omega)
      rw [hs] at g1
      generalize b.getD (i * 4 + k) 0 = y at *
      simp [envB2, hi', hk', g1, g2, b1, ha, hb, wk, sub]
end Go.Proofs.Ytafphbegpjjolaa.AM
