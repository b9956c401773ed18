import Derived.Test.YtoaidbmkfdpagaaPlayP
import Derived.Test.YtoaidbmkfdpagaaHurt
import Derived.Test.YtoaidbmkfdpagaaSumP
/- Plain laws of games of tubes: a value is at most the number of turns, points are tubes that are completed, the best party has the value. -/
namespace Go.Proofs.Ytoaidbmkfdpagaa.AM
open Go
set_option maxRecDepth 1000000
set_option linter.unusedSimpArgs false
set_option linter.unusedVariables false
def fulF (r : List Int) (k : Nat) : Nat := if fullP (tubeAt r k) = true then 1 else 0
theorem fullN_eq (r : List Int) : fullN r = fulF r 0 + fulF r 1 + fulF r 2 + fulF r 3 + fulF r 4 + fulF r 5 := by
  have key : ∀ (d i : Nat), (fullsFrom r i (d + 1)).length = fulF r i + (fullsFrom r (i + 1) d).length := by
    intro d i
    simp only [fullsFrom, fulF]
    split
    · simp; omega
    · simp
  unfold fullN
  rw [key 5 0, key 4 1, key 3 2, key 2 3, key 1 4, key 0 5]
  simp only [fullsFrom, List.length_nil]
  omega
theorem fullN_sum (r : List Int) : fullN r = sumTo (fulF r) 6 := by
  rw [fullN_eq]
  simp only [sumTo]
  omega
theorem fulF_le (r : List Int) (k : Nat) : fulF r k ≤ 1 := by unfold fulF; split <;> omega
theorem tube_other {r : List Int} (h : RackOK r) {i j : Nat} (hi : i < 6) (hj : j < 6) (hc : canP r i j = true) {k : Nat} (k1 : k ≠ i) (k2 : k ≠ j) : tubeAt (pourR r i j) k = tubeAt r k := by
  have hij := canP_ne hc
  have oi := h.top hi
  have n2 : (pourN r i j : Int) ≤ (topOf (tubeAt r i)).2 := by unfold pourN; have := oi.n0; omega
  have hni : pourN r i j ≤ layN (tubeAt r i) := by have := oi.nl; omega
  have oj := h.top hj
  have n3 : layN (tubeAt r j) + pourN r i j ≤ 4 := by unfold pourN; have := oj.l4; omega
  unfold pourR
  rw [tube_pourGo hij oi.l4 _ _ hni n3]
  rw [if_neg k1, if_neg k2]
theorem gain_one {r : List Int} (h : RackOK r) {p : Nat × Nat} (hp : p ∈ usefulL r) : -1 ≤ gainP r p ∧ gainP r p ≤ 1 := by
  obtain ⟨hi, hj, hc⟩ := mem_usefulL hp
  have hij := canP_ne hc
  have hj0 : fulF r p.2 = 0 := by unfold fulF; rw [useful_notfull hp]; rfl
  have ho : ∀ k, k ≠ p.1 → k ≠ p.2 → fulF (pourR r p.1 p.2) k = fulF r k := fun k k1 k2 => by unfold fulF; rw [tube_other h hi hj hc k1 k2]
  have hi0 : fulF (pourR r p.1 p.2) p.1 = 0 ∨ fulF (pourR r p.1 p.2) p.1 ≤ fulF r p.1 := by
    by_cases e : fulF r p.1 = 1
    · right; rw [e]; exact fulF_le _ _
    · left
      -- a tube that loses layers is not complete
      have oi := h.top hi
      have oj := h.top hj
      have hc1 : 0 < (topOf (tubeAt r p.1)).1 ∧ layN (tubeAt r p.2) < 4 := by
        simp only [canP, Bool.and_eq_true, Bool.or_eq_true, Bool.not_eq_true', decide_eq_true_eq, decide_eq_false_iff_not] at hc
        exact ⟨hc.1.1.2, hc.1.2⟩
      have n2 : (pourN r p.1 p.2 : Int) ≤ (topOf (tubeAt r p.1)).2 := by unfold pourN; have := oi.n0; omega
      have hni : pourN r p.1 p.2 ≤ layN (tubeAt r p.1) := by have := oi.nl; omega
      have n3 : layN (tubeAt r p.2) + pourN r p.1 p.2 ≤ 4 := by unfold pourN; have := oj.l4; omega
      have hpos : 0 < (topOf (tubeAt r p.1)).2 := by
        have := oi.n0
        have h1 : ¬ (topOf (tubeAt r p.1)).2 = 0 := fun e => by have := oi.cn.2 e; omega
        omega
      have n1 : 1 ≤ pourN r p.1 p.2 := by unfold pourN; omega
      have hti : tubeAt (pourR r p.1 p.2) p.1 = takeGo (layN (tubeAt r p.1)) (pourN r p.1 p.2) (tubeAt r p.1) := by
        unfold pourR; rw [tube_pourGo hij oi.l4 _ _ hni n3]; simp
      have hT : allT (fun t => (List.range 5).all fun n => decide (n = 0) || decide (layN t < n) || !fullP (takeGo (layN t) n t)) = true := by kernel_rfl
      have := List.all_eq_true.1 (tubes_all hT (h.t4 hi) (h.tv hi)) (pourN r p.1 p.2) (List.mem_range.2 (by have := oi.l4; omega))
      rw [decide_eq_false (show ¬ pourN r p.1 p.2 = 0 by omega), decide_eq_false (show ¬ layN (tubeAt r p.1) < pourN r p.1 p.2 by omega)] at this
      simp only [Bool.false_or, Bool.not_eq_true'] at this
      unfold fulF
      rw [hti, this]
      rfl
  have b1 := fulF_le (pourR r p.1 p.2) p.1
  have b2 := fulF_le (pourR r p.1 p.2) p.2
  have b3 := fulF_le r p.1
  have hs : fullN (pourR r p.1 p.2) + fulF r p.1 + fulF r p.2 = fullN r + fulF (pourR r p.1 p.2) p.1 + fulF (pourR r p.1 p.2) p.2 := by
    have := sumTo_two6 (f := fulF (pourR r p.1 p.2)) (g := fulF r) hi hj hij (fun k k1 k2 => ho k k1 k2)
    rw [fullN_sum, fullN_sum]
    exact this
  unfold gainP
  omega
theorem tubeV_le : ∀ (n : Nat) (r : List Int), RackOK r → -(n : Int) ≤ tubeV n r ∧ tubeV n r ≤ (n : Int)
  | 0, _, _ => by simp [tubeV]
  | n + 1, r, h => by
    have hf : ∀ p ∈ usefulL r, -((n : Int) + 1) ≤ tubeF n r p ∧ tubeF n r p ≤ (n : Int) + 1 := by
      intro p hp
      obtain ⟨_, _, hn⟩ := useful_pour h hp
      have h1 := gain_one h hp
      have h2 := tubeV_le n _ hn
      unfold tubeF
      omega
    by_cases hz : (usefulL r).length = 0
    · simp only [tubeV, if_pos hz]; omega
    · have e : tubeV (n + 1) r = bestOf (tubeF n r) (-100) (usefulL r) := by simp only [tubeV, if_neg hz]; rfl
      rw [e]
      have hpos : 0 < (usefulL r).length := by omega
      have hm := List.getElem_mem hpos
      have h1 := bestOf_ge (tubeF n r) (usefulL r) (-100) _ hm
      have h2 := hf _ hm
      rcases bestOf_mem (tubeF n r) (usefulL r) (-100) with h3 | ⟨p, hp, h3⟩
      · have := bestOf_ub (tubeF n r) ((n : Int) + 1) (usefulL r) (-100) (by omega) (fun p hp => (hf p hp).2)
        omega
      · have := hf p hp
        omega
/-! ### points are tubes that are completed -/
theorem pts_full (r : List Int) (l : List (Int × Int)) : ∀ k, k ≤ l.length → (ptsTo r l k).1 + (ptsTo r l k).2 = (fullN (rackF r (l.take k)) : Int) - (fullN r : Int)
  | 0, _ => by simp [ptsTo, rackF]
  | k + 1, hk => by
    have ih := pts_full r l k (by omega)
    have hk' : k < l.length := by omega
    have hget : l.getD k (0, 0) = l[k]'hk' := by rw [List.getD_eq_getElem?_getD, List.getElem?_eq_getElem hk']; rfl
    have hg : gainAt r l k = (fullN (rackF r (l.take (k + 1))) : Int) - (fullN (rackF r (l.take k)) : Int) := by
      unfold gainAt gainP
      rw [rackF_succ r hk', hget]
      rfl
    simp only [ptsTo]
    split <;> simp only <;> omega
/-! ### the best party -/
def toZ (l : List (Nat × Nat)) : List (Int × Int) := l.map fun p => ((p.1 : Int), (p.2 : Int))
@[simp] theorem toZ_len (l : List (Nat × Nat)) : (toZ l).length = l.length := by simp [toZ]
theorem toZ_flat (l : List (Nat × Nat)) : cZ (toZ l) = flatC l := by
  unfold cZ flatC flatZ flatI toZ
  rw [List.flatMap_map]
theorem partyGo_cons {n : Nat} {r : List Int} {p : Nat × Nat} {l : List (Nat × Nat)} (h : bestLL (n + 1) r = p :: l) : partyGo (n + 1) r = p :: partyGo n (pourR r p.1 p.2) := by
  rw [partyGo, h]
theorem partyGo_nil {n : Nat} {r : List Int} (h : bestLL (n + 1) r = []) : partyGo (n + 1) r = [] := by
  rw [partyGo, h]
theorem bestLL_val {n : Nat} {r : List Int} {p : Nat × Nat} (h : p ∈ bestLL (n + 1) r) : tubeV (n + 1) r = gainP r p - tubeV n (pourR r p.1 p.2) := by
  unfold bestLL bestL at h
  obtain ⟨h1, h2⟩ := List.mem_filter.1 h
  have hz : (usefulL r).length ≠ 0 := by
    intro e
    have : usefulL r = [] := List.length_eq_zero_iff.1 e
    rw [this] at h1
    simp at h1
  rw [tubeTo_all n r hz] at h2
  have : tubeF n r p = tubeV (n + 1) r := by simpa using h2
  rw [← this]
  rfl
theorem bestLL_nil {n : Nat} (hn : n ≤ 10) {r : List Int} (h : bestLL (n + 1) r = []) : tubeV (n + 1) r = 0 := by
  by_cases hz : (usefulL r).length = 0
  · simp only [tubeV, if_pos hz]
  · obtain ⟨k, hk⟩ : ∃ k, (usefulL r).length = k + 1 := ⟨(usefulL r).length - 1, by omega⟩
    have := bestL_pos hn r (k := k) (by omega)
    have h' : bestL n r (usefulL r).length = [] := h
    rw [hk] at h'
    exact absurd (by rw [h']; rfl) this
theorem goAt_cons (r : List Int) (p : Nat × Nat) (l : List (Int × Int)) (k : Nat) : goAt r (((p.1 : Int), (p.2 : Int)) :: l) (k + 1) = goAt (pourR r p.1 p.2) l k := rfl
theorem goAt_zero {r : List Int} {p : Nat × Nat} (hp : p ∈ usefulL r) (l : List (Int × Int)) : goAt r (((p.1 : Int), (p.2 : Int)) :: l) 0 = true := by
  obtain ⟨hi, hj, hc⟩ := mem_usefulL hp
  have hid : idleP r p.1 p.2 = false := by
    have := (List.mem_filter.1 hp).2
    simpa using this
  unfold goAt canAt canZ placeB
  simp only [List.take_zero, List.getD_cons_zero]
  have e : rackF r [] = r := rfl
  have e1 : ((p.1 : Int)).toNat = p.1 := by omega
  have e2 : ((p.2 : Int)).toNat = p.2 := by omega
  rw [e, e1, e2, hc, hid]
  simp
  omega
theorem gainAt_cons (r : List Int) (p : Nat × Nat) (l : List (Int × Int)) (k : Nat) : gainAt r (((p.1 : Int), (p.2 : Int)) :: l) (k + 1) = gainAt (pourR r p.1 p.2) l k := rfl
theorem pts_cons (r : List Int) (p : Nat × Nat) (l : List (Int × Int)) : ∀ k, ptsTo r (((p.1 : Int), (p.2 : Int)) :: l) (k + 1) = (gainP r p + (ptsTo (pourR r p.1 p.2) l k).2, (ptsTo (pourR r p.1 p.2) l k).1)
  | 0 => by
    have e : gainAt r (((p.1 : Int), (p.2 : Int)) :: l) 0 = gainP r p := rfl
    simp [ptsTo, e]
  | k + 1 => by
    have ih := pts_cons r p l k
    rw [ptsTo, ih]
    conv => rhs; rw [ptsTo]
    rw [gainAt_cons]
    by_cases h : k % 2 = 0
    · have h' : ¬ (k + 1) % 2 = 0 := by omega
      rw [if_neg h', if_pos h]
    · have h' : (k + 1) % 2 = 0 := by omega
      rw [if_pos h', if_neg h]
      simp only [Prod.mk.injEq, and_true]
      omega
theorem party_all : ∀ (n : Nat) (r : List Int), n ≤ 10 → RackOK r → (∀ k, k < (partyGo n r).length → goAt r (toZ (partyGo n r)) k = true) ∧ (ptsTo r (toZ (partyGo n r)) (partyGo n r).length).1 - (ptsTo r (toZ (partyGo n r)) (partyGo n r).length).2 = tubeV n r
  | 0, r, _, _ => ⟨fun k hk => by simp [partyGo] at hk, by simp [partyGo, ptsTo, tubeV]⟩
  | n + 1, r, hn, h => by
    cases hb : bestLL (n + 1) r with
    | nil =>
      rw [partyGo_nil hb, bestLL_nil (by omega) hb]
      exact ⟨fun k hk => by simp at hk, by simp [ptsTo]⟩
    | cons p l =>
      have hp : p ∈ bestLL (n + 1) r := by rw [hb]; simp
      have hu := bestLL_mem hp
      obtain ⟨_, _, hnx⟩ := useful_pour h hu
      obtain ⟨ih1, ih2⟩ := party_all n (pourR r p.1 p.2) (by omega) hnx
      rw [partyGo_cons hb, bestLL_val hp]
      have ez : toZ (p :: partyGo n (pourR r p.1 p.2)) = ((p.1 : Int), (p.2 : Int)) :: toZ (partyGo n (pourR r p.1 p.2)) := rfl
      rw [ez]
      refine ⟨fun k hk => ?_, ?_⟩
      · cases k with
        | zero => exact goAt_zero hu _
        | succ k => rw [goAt_cons]; exact ih1 k (by simp at hk; omega)
      · rw [List.length_cons, pts_cons]
        simp only
        omega
theorem stopK_all {r : List Int} {l : List (Int × Int)} (h : ∀ k, k < l.length → goAt r l k = true) : stopK r l = l.length := by
  obtain ⟨_, h2, h3, h4⟩ := stop_spec (goAt r l) l.length 0
  unfold stopK
  rcases h3 with h3 | h3
  · omega
  · apply Classical.byContradiction
    intro hne
    rw [h (stopFrom (goAt r l) 0 l.length) (by omega)] at h3
    cases h3
theorem stopK_le (r : List Int) (l : List (Int × Int)) : stopK r l ≤ l.length := by
  obtain ⟨_, h2, _, _⟩ := stop_spec (goAt r l) l.length 0
  unfold stopK
  omega
theorem party_play {r : List Int} (h : RackOK r) {n : Int} (hg : gameB r n 0 = true) : ppB r (toZ (partyL r n)) = true ∧ ppN r (toZ (partyL r n)) = (partyL r n).length ∧ (ppP r (toZ (partyL r n))).1 - (ppP r (toZ (partyL r n))).2 = tubeV n.toNat r ∧ (partyL r n).length ≤ 3 := by
  have hP : partyL r n = partyGo n.toNat r := by unfold partyL; rw [if_pos hg]
  have hq : okRack r = true := (rack_eq r h.len).symm.trans h.val
  have h0 : 0 ≤ n ∧ n ≤ 3 := by
    simp only [gameB, Bool.and_eq_true] at hg
    simpa [inB] using hg.2
  have hl := partyGo_len n.toNat r
  obtain ⟨h1, h2⟩ := party_all n.toNat r (by omega) h
  rw [hP]
  have hB : ppB r (toZ (partyGo n.toNat r)) = true := by unfold ppB; rw [hq]; simp; omega
  have hS : stopK r (toZ (partyGo n.toNat r)) = (partyGo n.toNat r).length := by rw [stopK_all (by simpa using h1)]; simp
  refine ⟨hB, by unfold ppN; rw [if_pos hB, hS], ?_, by omega⟩
  unfold ppP
  rw [if_pos hB, hS]
  exact h2
theorem pts_sum {r : List Int} (l : List (Int × Int)) (hB : ppB r l = true) : (ppP r l).1 + (ppP r l).2 = (fullN (ppR r l) : Int) - (fullN r : Int) := by
  unfold ppP ppR
  rw [if_pos hB, if_pos hB]
  exact pts_full r l _ (stopK_le r l)
end Go.Proofs.Ytoaidbmkfdpagaa.AM
