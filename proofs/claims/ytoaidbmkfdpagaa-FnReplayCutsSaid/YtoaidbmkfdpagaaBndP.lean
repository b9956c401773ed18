import Derived.Test.YtoaidbmkfdpagaaCutL
import Derived.Test.YtoaidbmkfdpagaaSumP
import Derived.Test.YtoaidbmkfdpagaaBound
import Derived.Test.YtoaidbmkfdpagaaDrop
/- Plain laws: the bound along pours; cuts have fewer pours; a replay without its idle pours is a replay. -/
namespace Go.Proofs.Ytoaidbmkfdpagaa.AM
open Go
set_option maxRecDepth 1000000
set_option linter.unusedSimpArgs false
set_option linter.unusedVariables false
def bdF (r : List Int) (k : Nat) : Nat := (runsOf (tubeAt r k)).length - 1
def btF (r : List Int) (c k : Nat) : Nat := if botN r k = c then 1 else 0
theorem bdTo_sum (r : List Int) : ∀ n, bdTo r n = sumTo (bdF r) n
  | 0 => rfl
  | n + 1 => by simp only [bdTo, sumTo, bdTo_sum r n]; rfl
theorem botCnt_sum (r : List Int) (c : Nat) : ∀ n, botCnt r c n = sumTo (btF r c) n
  | 0 => rfl
  | n + 1 => by simp only [botCnt, sumTo, botCnt_sum r c n]; rfl
def bTake (t : List Int) : Bool := (List.range 5).all fun n => decide (n = 0) || decide ((topOf t).2 < (n : Int)) || (decide ((runsOf (takeGo (layN t) n t)).length + (if (n : Int) = (topOf t).2 then 1 else 0) = (runsOf t).length) && decide ((takeGo (layN t) n t).getD 0 0 = if n = layN t then 0 else t.getD 0 0) && (decide (n ≠ layN t) || (decide (t.getD 0 0 = (topOf t).1) && decide ((runsOf t).length = 1))))
theorem bTake_all : allT bTake = true := by kernel_rfl
def bPut (t : List Int) : Bool := (List.range 5).all fun n => decide (n = 0) || decide (4 - layN t < n) || ([1, 2, 3, 4, 5] : List Int).all fun c => !(decide ((topOf t).1 = 0) || decide ((topOf t).1 = c)) || (decide ((runsOf (putGo (layN t) c n t)).length = if layN t = 0 then 1 else (runsOf t).length) && decide ((putGo (layN t) c n t).getD 0 0 = if layN t = 0 then c else t.getD 0 0))
theorem bPut_all : allT bPut = true := by kernel_rfl
/-- what a pour does to runs and bottoms -/
structure PourB (r : List Int) (i j : Nat) : Prop where
  other : ∀ k, k ≠ i → k ≠ j → tubeAt (pourR r i j) k = tubeAt r k
  i1 : (runsOf (tubeAt (pourR r i j) i)).length + (if (pourN r i j : Int) = (topOf (tubeAt r i)).2 then 1 else 0) = (runsOf (tubeAt r i)).length
  i2 : botN (pourR r i j) i = if pourN r i j = layN (tubeAt r i) then 0 else botN r i
  i3 : pourN r i j = layN (tubeAt r i) → botN r i = (topOf (tubeAt r i)).1.toNat ∧ (runsOf (tubeAt r i)).length = 1
  j1 : (runsOf (tubeAt (pourR r i j) j)).length = if layN (tubeAt r j) = 0 then 1 else (runsOf (tubeAt r j)).length
  j2 : botN (pourR r i j) j = if layN (tubeAt r j) = 0 then (topOf (tubeAt r i)).1.toNat else botN r j
  jr : layN (tubeAt r j) = 0 → (runsOf (tubeAt r j)).length = 0 ∧ botN r j = 0
  n1 : 1 ≤ pourN r i j
  n2 : (pourN r i j : Int) ≤ (topOf (tubeAt r i)).2
  n3 : layN (tubeAt r j) + pourN r i j ≤ 4
  c1 : 1 ≤ (topOf (tubeAt r i)).1 ∧ (topOf (tubeAt r i)).1 ≤ 5
theorem canP_iff {r : List Int} {i j : Nat} (h : canP r i j = true) : i ≠ j ∧ 0 < (topOf (tubeAt r i)).1 ∧ layN (tubeAt r j) < 4 ∧ ((topOf (tubeAt r j)).1 = 0 ∨ (topOf (tubeAt r j)).1 = (topOf (tubeAt r i)).1) := by
  simp only [canP, Bool.and_eq_true, Bool.or_eq_true, Bool.not_eq_true', decide_eq_true_eq, decide_eq_false_iff_not] at h
  exact ⟨h.1.1.1, h.1.1.2, h.1.2, h.2⟩
theorem pour_b {r : List Int} (h : RackOK r) {i j : Nat} (hi : i < 6) (hj : j < 6) (hc : canP r i j = true) : PourB r i j := by
  obtain ⟨hij, hc1, hc2, hc3⟩ := canP_iff hc
  have oi := h.top hi
  have oj := h.top hj
  have n2 : (pourN r i j : Int) ≤ (topOf (tubeAt r i)).2 := by unfold pourN; have := oi.n0; omega
  have hpos : 0 < (topOf (tubeAt r i)).2 := by
    have := oi.n0
    have h1 : ¬ (topOf (tubeAt r i)).2 = 0 := fun e => by have := oi.cn.2 e; omega
    omega
  have n1 : 1 ≤ pourN r i j := by unfold pourN; omega
  have hni : pourN r i j ≤ layN (tubeAt r i) := by have := oi.nl; omega
  have n3 : layN (tubeAt r j) + pourN r i j ≤ 4 := by unfold pourN; omega
  have ht := fun k => tube_pourGo (i := i) (j := j) (f := layN (tubeAt r i)) (t := layN (tubeAt r j)) (c := (topOf (tubeAt r i)).1) hij oi.l4 (pourN r i j) r hni n3 k
  have hti : tubeAt (pourR r i j) i = takeGo (layN (tubeAt r i)) (pourN r i j) (tubeAt r i) := by unfold pourR; rw [ht]; simp
  have htj : tubeAt (pourR r i j) j = putGo (layN (tubeAt r j)) (topOf (tubeAt r i)).1 (pourN r i j) (tubeAt r j) := by unfold pourR; rw [ht]; simp [Ne.symm hij]
  have h5 := oi.c5
  have fi := List.all_eq_true.1 (tubes_all bTake_all (h.t4 hi) (h.tv hi)) (pourN r i j) (List.mem_range.2 (by have := oi.l4; omega))
  have fj := List.all_eq_true.1 (tubes_all bPut_all (h.t4 hj) (h.tv hj)) (pourN r i j) (List.mem_range.2 (by omega))
  have x1 : decide (pourN r i j = 0) = false := decide_eq_false (by omega)
  have x2 : decide ((topOf (tubeAt r i)).2 < (pourN r i j : Int)) = false := decide_eq_false (by omega)
  have x3 : decide (4 - layN (tubeAt r j) < pourN r i j) = false := decide_eq_false (by omega)
  rw [x1, x2] at fi
  rw [x1, x3] at fj
  simp only [Bool.false_or, Bool.and_eq_true, decide_eq_true_eq, Bool.or_eq_true] at fi
  obtain ⟨⟨f1, f2⟩, f3⟩ := fi
  simp only [Bool.false_or] at fj
  have fj := List.all_eq_true.1 fj (topOf (tubeAt r i)).1 (by
    have : (topOf (tubeAt r i)).1 = 1 ∨ (topOf (tubeAt r i)).1 = 2 ∨ (topOf (tubeAt r i)).1 = 3 ∨ (topOf (tubeAt r i)).1 = 4 ∨ (topOf (tubeAt r i)).1 = 5 := by omega
    rcases this with e | e | e | e | e <;> rw [e] <;> simp)
  have x4 : (decide ((topOf (tubeAt r j)).1 = 0) || decide ((topOf (tubeAt r j)).1 = (topOf (tubeAt r i)).1)) = true := by simpa using hc3
  rw [x4] at fj
  simp only [Bool.not_true, Bool.false_or, Bool.and_eq_true, decide_eq_true_eq] at fj
  obtain ⟨g1, g2⟩ := fj
  refine ⟨fun k k1 k2 => by unfold pourR; rw [ht]; simp [k1, k2], by rw [hti]; exact f1, ?_, fun e => ?_, by rw [htj]; exact g1, ?_, fun e => ?_, n1, n2, n3, by omega⟩
  · unfold botN
    rw [hti, f2]
    split <;> rfl
  · rcases f3 with h3 | h3
    · exact absurd e h3
    · exact ⟨by unfold botN; rw [h3.1], h3.2⟩
  · unfold botN
    rw [htj, g2]
    split <;> rfl
  · have r0 := oj.rl.2 e
    exact ⟨r0, (bot_facts h hj).2.2.1 r0⟩
set_option maxHeartbeats 1000000 in
theorem pour_bound {r : List Int} (h : RackOK r) {i j : Nat} (hi : i < 6) (hj : j < 6) (hc : canP r i j = true) : boundN r ≤ boundN (pourR r i j) + 1 := by
  have P := pour_b h hi hj hc
  have hij := canP_ne hc
  have ob : ∀ k, k ≠ i → k ≠ j → botN (pourR r i j) k = botN r k := fun k k1 k2 => by unfold botN; rw [P.other k k1 k2]
  have bi := (bot_facts h hi).1
  have bj := (bot_facts h hj).1
  -- boundaries
  have hb := sumTo_two6 (f := bdF r) (g := bdF (pourR r i j)) hi hj hij (fun k k1 k2 => by unfold bdF; rw [P.other k k1 k2])
  rw [← bdTo_sum, ← bdTo_sum] at hb
  have hbj : bdF (pourR r i j) j = bdF r j := by
    unfold bdF
    rw [P.j1]
    split
    · rename_i e; rw [(P.jr e).1]
    · rfl
  have hbi : bdF r i ≤ bdF (pourR r i j) i + 1 := by
    have := P.i1
    unfold bdF
    split at this <;> omega
  have hbe : pourN r i j = layN (tubeAt r i) → bdF r i = 0 := fun e => by unfold bdF; rw [(P.i3 e).2]
  -- bottoms
  have hd : ∀ d, 1 ≤ d → botCnt r d 6 ≤ botCnt (pourR r i j) d 6 + if d = (topOf (tubeAt r i)).1.toNat ∧ pourN r i j = layN (tubeAt r i) then 1 else 0 := by
    intro d hd
    have hs := sumTo_two6 (f := btF r d) (g := btF (pourR r i j) d) hi hj hij (fun k k1 k2 => by unfold btF; rw [ob k k1 k2])
    rw [← botCnt_sum, ← botCnt_sum] at hs
    have hJ : btF r d j ≤ btF (pourR r i j) d j := by
      unfold btF
      rw [P.j2]
      by_cases e2 : layN (tubeAt r j) = 0
      · rw [(P.jr e2).2, if_neg (show ¬ 0 = d by omega)]
        exact Nat.zero_le _
      · rw [if_neg e2]
        exact Nat.le_refl _
    have hI : btF r d i ≤ btF (pourR r i j) d i + if d = (topOf (tubeAt r i)).1.toNat ∧ pourN r i j = layN (tubeAt r i) then 1 else 0 := by
      unfold btF
      rw [P.i2]
      by_cases e : pourN r i j = layN (tubeAt r i)
      · have e3 := (P.i3 e).1
        by_cases e2 : botN r i = d
        · rw [if_pos e2, if_pos (show d = (topOf (tubeAt r i)).1.toNat ∧ pourN r i j = layN (tubeAt r i) from ⟨by omega, e⟩)]; omega
        · rw [if_neg e2]; omega
      · rw [if_neg e]; omega
    omega
  have hcol := P.c1
  obtain ⟨c, hcc⟩ : ∃ c : Nat, (topOf (tubeAt r i)).1.toNat = c := ⟨_, rfl⟩
  have hc15 : c = 1 ∨ c = 2 ∨ c = 3 ∨ c = 4 ∨ c = 5 := by omega
  rw [hcc] at hd
  unfold boundN
  simp only [exTo]
  by_cases e : pourN r i j = layN (tubeAt r i)
  · have h0 := hbe e
    have hne : ∀ d, 1 ≤ d → d ≠ c → botCnt r d 6 ≤ botCnt (pourR r i j) d 6 := by
      intro d h1 h2
      have := hd d h1
      rwa [if_neg (fun x => h2 x.1), Nat.add_zero] at this
    have hcc : botCnt r c 6 ≤ botCnt (pourR r i j) c 6 + 1 := by
      have := hd c (by omega)
      rwa [if_pos ⟨rfl, e⟩] at this
    clear hd
    rcases hc15 with e1 | e1 | e1 | e1 | e1 <;> rw [e1] at hne hcc
    · have := hne 2 (by decide) (by decide); have := hne 3 (by decide) (by decide); have := hne 4 (by decide) (by decide); have := hne 5 (by decide) (by decide)
      simp only [Nat.zero_add, Nat.reduceAdd]; omega
    · have := hne 1 (by decide) (by decide); have := hne 3 (by decide) (by decide); have := hne 4 (by decide) (by decide); have := hne 5 (by decide) (by decide)
      simp only [Nat.zero_add, Nat.reduceAdd]; omega
    · have := hne 1 (by decide) (by decide); have := hne 2 (by decide) (by decide); have := hne 4 (by decide) (by decide); have := hne 5 (by decide) (by decide)
      simp only [Nat.zero_add, Nat.reduceAdd]; omega
    · have := hne 1 (by decide) (by decide); have := hne 2 (by decide) (by decide); have := hne 3 (by decide) (by decide); have := hne 5 (by decide) (by decide)
      simp only [Nat.zero_add, Nat.reduceAdd]; omega
    · have := hne 1 (by decide) (by decide); have := hne 2 (by decide) (by decide); have := hne 3 (by decide) (by decide); have := hne 4 (by decide) (by decide)
      simp only [Nat.zero_add, Nat.reduceAdd]; omega
  · have hne : ∀ d, 1 ≤ d → botCnt r d 6 ≤ botCnt (pourR r i j) d 6 := by
      intro d h1
      have := hd d h1
      rwa [if_neg (fun x => e x.2), Nat.add_zero] at this
    clear hd
    have := hne 1 (by decide); have := hne 2 (by decide); have := hne 3 (by decide); have := hne 4 (by decide); have := hne 5 (by decide)
    simp only [Nat.zero_add, Nat.reduceAdd]; omega
theorem path_bound : ∀ (l : List (Int × Int)) (r : List Int), RackOK r → (∀ j, j < l.length → canAt r l j = true) → boundN r ≤ boundN (rackF r l) + l.length
  | [], r, _, _ => by simp [rackF]
  | p :: l, r, h, hg => by
    have h0 := hg 0 (by simp)
    have h0' : canZ r p = true := h0
    unfold canZ placeB at h0'
    simp only [Bool.and_eq_true, decide_eq_true_eq] at h0'
    have hc := h0'.2
    have hi : p.1.toNat < 6 := by omega
    have hj : p.2.toNat < 6 := by omega
    have hn : RackOK (pourZ r p) := h.pour hi hj (canP_ne hc)
    have ih := path_bound l (pourZ r p) hn (fun j hj => hg (j + 1) (by simp; omega))
    have hb := pour_bound h hi hj hc
    have e : rackF r (p :: l) = rackF (pourZ r p) l := rfl
    rw [e, List.length_cons]
    have e2 : boundN (pourZ r p) = boundN (pourR r p.1.toNat p.2.toNat) := rfl
    omega
/-! ### a sorted rack has no bound -/
def botFrom (r : List Int) (c i : Nat) : Nat → Nat
  | 0 => 0
  | d + 1 => (if botN r i = c then 1 else 0) + botFrom r c (i + 1) d
def oneT (t : List Int) : Bool := match runsOf t with
  | [] => decide (t.getD 0 0 = 0)
  | [p] => decide (t.getD 0 0 = p.1)
  | _ => true
theorem oneT_all : allT oneT = true := by kernel_rfl
theorem sort_bots {r : List Int} (h : RackOK r) : ∀ (d i : Nat) (s : List Int), i + d ≤ 6 → sortTo r s i d = true → (∀ k, i ≤ k → k < i + d → (runsOf (tubeAt r k)).length ≤ 1) ∧ ∀ c : Nat, 1 ≤ c → botFrom r c i d ≤ 1 ∧ ((c : Int) ∈ s → botFrom r c i d = 0)
  | 0, i, s, _, _ => ⟨fun k h1 h2 => by omega, fun c _ => ⟨by simp [botFrom], fun _ => rfl⟩⟩
  | d + 1, i, s, hd, hs => by
    have ho := tubes_all oneT_all (h.t4 (i := i) (by omega)) (h.tv (by omega))
    unfold oneT at ho
    unfold sortTo at hs
    split at hs
    · rename_i hq
      rw [hq] at ho
      simp only [decide_eq_true_eq] at ho
      have hb : botN r i = 0 := by unfold botN; rw [ho]; rfl
      obtain ⟨a, b⟩ := sort_bots h d (i + 1) s (by omega) hs
      refine ⟨fun k h1 h2 => ?_, fun c hc => ?_⟩
      · by_cases e : k = i
        · subst e; rw [hq]; simp
        · exact a k (by omega) (by omega)
      · have := b c hc
        have e : ¬ botN r i = c := by omega
        simp only [botFrom, if_neg e, Nat.zero_add]
        exact this
    · rename_i p hq
      rw [hq] at ho
      simp only [decide_eq_true_eq] at ho
      simp only [Bool.and_eq_true, Bool.not_eq_true', decide_eq_false_iff_not] at hs
      obtain ⟨hs1, hs2⟩ := hs
      obtain ⟨a, b⟩ := sort_bots h d (i + 1) (s ++ [p.1]) (by omega) hs2
      obtain ⟨c0, hc0, _, _⟩ := run_col (h.t4 (i := i) (by omega)) (h.tv (by omega)) (p := p) (by rw [hq]; simp)
      have hb : botN r i = c0 := by unfold botN; rw [ho, hc0]; rfl
      refine ⟨fun k h1 h2 => ?_, fun c hc => ?_⟩
      · by_cases e : k = i
        · subst e; rw [hq]; simp
        · exact a k (by omega) (by omega)
      · have hh := b c hc
        by_cases e : c0 = c
        · subst e
          have h0 := hh.2 (by rw [← hc0]; simp)
          simp only [botFrom, hb, if_true, h0]
          exact ⟨by omega, fun hm => absurd (by rw [hc0]; exact hm) hs1⟩
        · have e' : ¬ botN r i = c := by omega
          simp only [botFrom, if_neg e', Nat.zero_add]
          exact ⟨hh.1, fun hm => hh.2 (by simp [hm])⟩
    · cases hs
theorem sort_bound {r : List Int} (h : RackOK r) (hs : sortP r = true) : boundN r = 0 := by
  obtain ⟨a, b⟩ := sort_bots h 6 0 [] (by omega) hs
  have hbd : ∀ k, k ≤ 6 → bdTo r k = 0 := by
    intro k
    induction k with
    | zero => intro _; rfl
    | succ k ih =>
      intro hk
      have := a k (by omega) (by omega)
      simp only [bdTo, ih (by omega)]
      omega
  have hbt : ∀ c, 1 ≤ c → botCnt r c 6 ≤ 1 := by
    intro c hc
    have := (b c hc).1
    simp only [botFrom, Nat.zero_add, Nat.reduceAdd] at this
    simp only [botCnt, Nat.zero_add, Nat.reduceAdd]
    omega
  have hex : ∀ k, exTo r k = 0 := by
    intro k
    induction k with
    | zero => rfl
    | succ k ih =>
      have := hbt (k + 1) (by omega)
      simp only [exTo, ih]
      omega
  unfold boundN
  rw [hbd 6 (by omega), hex 5]
/-- a certificate is not below 0 -/
theorem cert_pos {r : List Int} (hr : r.length = 24) {l : List (Int × Int)} (hs : solB r l = true) : boundN r ≤ l.length := by
  unfold solB at hs
  simp only [Bool.and_eq_true] at hs
  obtain ⟨h, hl, hg⟩ := repB_facts hr hs.1
  have h1 := path_bound l r h hg
  have ho := rackF_ok h l l.length (Nat.le_refl _) hg
  rw [rackF_all] at ho
  have h2 := sort_bound ho hs.2
  omega
/-! ### cuts and idle pours -/
theorem cutIt_len (r : List Int) (l : List (Int × Int)) : ∀ j, j ≤ cutK r l → (cutIt r l j).length + j ≤ l.length
  | 0, _ => by simp [cutIt]
  | j + 1, hj => by
    have ih := cutIt_len r l j (by omega)
    have := cutStep_len (cutK_more r l (j := j) (by omega))
    have e : cutIt r l (j + 1) = cutStep r (cutIt r l j) := rfl
    rw [e]
    omega
theorem cutR_le (r : List Int) (l : List (Int × Int)) : (cutR r l).length + cutK r l ≤ l.length := cutIt_len r l _ (Nat.le_refl _)
theorem cutR_same (r : List Int) (l : List (Int × Int)) : loopsA r l = [] ↔ (cutR r l).length = l.length := by
  constructor
  · intro h
    have : cutK r l = 0 := by
      apply Classical.byContradiction
      intro h0
      exact cutK_more r l (j := 0) (by omega) h
    unfold cutR
    rw [this]
    rfl
  · intro h
    have h1 := cutR_le r l
    have h2 : cutK r l = 0 := by omega
    have h3 := cutR_loops r l
    unfold cutR at h3
    rw [h2] at h3
    exact h3
theorem drop_repAux {r : List Int} : ∀ (l : List (Int × Int)) (s : List Int × List (Int × Int)), s.1 = rackF r s.2 → repB r s.2 = true → s.2.length + l.length ≤ 60 → repB r (l.foldl dropStep s).2 = true
  | [], s, _, h, _ => h
  | p :: l, s, h1, h2, h3 => by
    rw [List.foldl_cons]
    rw [List.length_cons] at h3
    unfold dropStep
    split
    · rename_i hc
      refine drop_repAux l _ ?_ ?_ ?_
      · show pourZ s.1 p = rackF r (s.2 ++ [p])
        rw [rackF_app, ← h1]
        rfl
      · show repB r (s.2 ++ [p]) = true
        rw [add_rep]
        unfold adB
        rw [h2, ← h1, hc.1]
        simp
        omega
      · show (s.2 ++ [p]).length + l.length ≤ 60
        simp
        omega
    · exact drop_repAux l s h1 h2 (by omega)
theorem repB_nil {r : List Int} (h : okRack r = true) : repB r [] = true := repB_iff.2 ⟨h, by simp, fun j hj => by simp at hj⟩
theorem dropF_rep {r : List Int} {l : List (Int × Int)} (h : repB r l = true) : repB r (dropF r l).2 = true := by
  obtain ⟨h1, h2, _⟩ := repB_iff.1 h
  exact drop_repAux l (r, []) rfl (repB_nil h1) (by simpa using h2)
end Go.Proofs.Ytoaidbmkfdpagaa.AM
