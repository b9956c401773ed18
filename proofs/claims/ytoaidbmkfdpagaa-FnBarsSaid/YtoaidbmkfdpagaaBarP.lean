import Derived.Test.YtoaidbmkfdpagaaServes
import Derived.Test.YtoaidbmkfdpagaaBotsP
/- Plain laws of bars: runs that are left, pours poured back, layers put and taken. -/
namespace Go.Proofs.Ytoaidbmkfdpagaa.AM
open Go
set_option maxRecDepth 1000000
set_option linter.unusedSimpArgs false
set_option linter.unusedVariables false
/-! ### runs that are left -/
theorem bump_get {c : List Int} {n x : Int} (h : small c n) (hx : 0 ≤ x ∧ x ≤ 5) (q : Nat) (hq : q ≤ 5) : (bump c x).getD q 0 = c.getD q 0 + if x = (q : Int) then 1 else 0 := by
  have hl := h.1
  unfold bump
  rw [List.getD_eq_getElem?_getD, List.getElem?_set, List.getD_eq_getElem?_getD, List.getD_eq_getElem?_getD]
  by_cases e : x = (q : Int)
  · have e1 : x.toNat = q := by omega
    have e2 : q < c.length := by omega
    rw [if_pos e, if_pos e1, e1, if_pos e2]
    simp
  · have e1 : ¬ x.toNat = q := by omega
    rw [if_neg e, if_neg e1]
    simp
theorem bumps_get (r : List Int) (hx : ∀ j, j < 24 → 0 ≤ cellAt r j ∧ cellAt r j ≤ 5) (q : Nat) (hq : q ≤ 5) : ∀ (d : Nat) (c : List Int) (j : Nat) (n : Int), j + d ≤ 24 → small c n → 0 ≤ c.getD q 0 → (c.getD q 0 ≤ (bumps r c j d).getD q 0) ∧ (c.getD q 0 < (bumps r c j d).getD q 0 ↔ ∃ k, j ≤ k ∧ k < j + d ∧ cellAt r k = (q : Int))
  | 0, c, j, n, _, _, _ => by
    refine ⟨Int.le_refl _, ?_⟩
    simp only [bumps, Int.lt_irrefl, false_iff]
    rintro ⟨k, h1, h2, _⟩
    omega
  | d + 1, c, j, n, hj, hs, h0 => by
    have hb := bump_get hs (hx j (by omega)) q hq
    have hs2 := small_bump (x := cellAt r j) hs
    have h02 : 0 ≤ (bump c (cellAt r j)).getD q 0 := by rw [hb]; split <;> omega
    obtain ⟨i1, i2⟩ := bumps_get r hx q hq d (bump c (cellAt r j)) (j + 1) (n + 1) (by omega) hs2 h02
    simp only [bumps]
    generalize (bumps r (bump c (cellAt r j)) (j + 1) d).getD q 0 = B at *
    by_cases e : cellAt r j = (q : Int)
    · rw [if_pos e] at hb
      refine ⟨by omega, ⟨fun _ => ⟨j, by omega, by omega, e⟩, fun _ => by omega⟩⟩
    · rw [if_neg e] at hb
      rw [hb] at i1 i2
      simp only [Int.add_zero] at i1 i2
      refine ⟨i1, i2.trans ⟨?_, ?_⟩⟩
      · rintro ⟨k, h1, h2, h3⟩
        exact ⟨k, by omega, by omega, h3⟩
      · rintro ⟨k, h1, h2, h3⟩
        refine ⟨k, ?_, by omega, h3⟩
        by_cases ek : k = j
        · subst ek; exact absurd h3 e
        · omega
theorem cells_range {r : List Int} (h : RackOK r) : ∀ j, j < 24 → 0 ≤ cellAt r j ∧ cellAt r j ≤ 5 := by
  intro j hj
  have := rack_cell h.len h.val (i := j / 4) (k := j % 4) (by omega) (by omega)
  rwa [show j / 4 * 4 + j % 4 = j by omega] at this
theorem cnts_pos {r : List Int} (h : RackOK r) {q : Nat} (hq : q ≤ 5) : 0 < (cnts r).getD q 0 ↔ ∃ k, k < 6 ∧ (q : Int) ∈ tubeAt r k := by
  have z : ([0, 0, 0, 0, 0, 0] : List Int).getD q 0 = 0 := by
    have : q = 0 ∨ q = 1 ∨ q = 2 ∨ q = 3 ∨ q = 4 ∨ q = 5 := by omega
    rcases this with rfl | rfl | rfl | rfl | rfl | rfl <;> rfl
  have := (bumps_get r (cells_range h) q hq 24 [0, 0, 0, 0, 0, 0] 0 0 (by omega) zeros6 (by rw [z]; omega)).2
  rw [z] at this
  refine this.trans ⟨?_, ?_⟩
  · rintro ⟨k, _, h2, h3⟩
    refine ⟨k / 4, by omega, ?_⟩
    have := tubeAt_cell h.len (i := k / 4) (k := k % 4) (by omega) (by omega)
    rw [show k / 4 * 4 + k % 4 = k by omega, h3] at this
    rw [← this, List.getD_eq_getElem?_getD]
    have hl := h.t4 (i := k / 4) (by omega)
    rw [List.getElem?_eq_getElem (by omega)]
    exact List.getElem_mem _
  · rintro ⟨k, h1, h2⟩
    obtain ⟨m, hm, he⟩ := List.mem_iff_getElem.1 h2
    have hl := h.t4 h1
    refine ⟨k * 4 + m, by omega, by omega, ?_⟩
    rw [← tubeAt_cell h.len h1 (by omega), List.getD_eq_getElem?_getD, List.getElem?_eq_getElem hm, he]
    rfl
/-- how many of the colors 1..5 a tube has -/
def hasC (t : List Int) (q : Nat) : Nat := if (q : Int) ∈ t then 1 else 0
def colT (t : List Int) : Bool := decide (hasC t 1 + hasC t 2 + hasC t 3 + hasC t 4 + hasC t 5 ≤ (runsOf t).length) && (decide (1 < (runsOf t).length) || decide (hasC t 1 + hasC t 2 + hasC t 3 + hasC t 4 + hasC t 5 = (runsOf t).length)) && (List.range 6).all fun q => decide (1 < (runsOf t).length) || decide (q = 0) || decide (hasC t q = if t.getD 0 0 = (q : Int) then 1 else 0)
theorem colT_all : allT colT = true := by kernel_rfl
def hasN (r : List Int) (q : Nat) : Nat → Nat
  | 0 => 0
  | k + 1 => hasN r q k + hasC (tubeAt r k) q
theorem hasN_pos (r : List Int) (q : Nat) : ∀ n, 0 < hasN r q n ↔ ∃ k, k < n ∧ (q : Int) ∈ tubeAt r k
  | 0 => by simp [hasN]
  | n + 1 => by
    have ih := hasN_pos r q n
    simp only [hasN, hasC]
    by_cases e : (q : Int) ∈ tubeAt r n
    · rw [if_pos e]
      exact ⟨fun _ => ⟨n, by omega, e⟩, fun _ => by omega⟩
    · rw [if_neg e, Nat.add_zero, ih]
      constructor
      · rintro ⟨k, h1, h2⟩; exact ⟨k, by omega, h2⟩
      · rintro ⟨k, h1, h2⟩
        refine ⟨k, ?_, h2⟩
        by_cases ek : k = n
        · subst ek; exact absurd h2 e
        · omega
theorem runsFrom_to (r : List Int) : runsFrom r 0 6 = (runsOf (tubeAt r 0)).length + (runsOf (tubeAt r 1)).length + (runsOf (tubeAt r 2)).length + (runsOf (tubeAt r 3)).length + (runsOf (tubeAt r 4)).length + (runsOf (tubeAt r 5)).length := by
  simp only [runsFrom, Nat.zero_add, Nat.reduceAdd]; omega
theorem colors_to (c : List Int) : colorsFrom c 1 5 = (if 0 < c.getD 1 0 then 1 else 0) + (if 0 < c.getD 2 0 then 1 else 0) + (if 0 < c.getD 3 0 then 1 else 0) + (if 0 < c.getD 4 0 then 1 else 0) + (if 0 < c.getD 5 0 then 1 else 0) := by
  simp only [colorsFrom, Nat.reduceAdd]; omega
theorem colT_facts {r : List Int} (h : RackOK r) {k : Nat} (hk : k < 6) : hasC (tubeAt r k) 1 + hasC (tubeAt r k) 2 + hasC (tubeAt r k) 3 + hasC (tubeAt r k) 4 + hasC (tubeAt r k) 5 ≤ (runsOf (tubeAt r k)).length ∧ ((runsOf (tubeAt r k)).length ≤ 1 → hasC (tubeAt r k) 1 + hasC (tubeAt r k) 2 + hasC (tubeAt r k) 3 + hasC (tubeAt r k) 4 + hasC (tubeAt r k) 5 = (runsOf (tubeAt r k)).length) ∧ ((runsOf (tubeAt r k)).length ≤ 1 → ∀ q, 1 ≤ q → q ≤ 5 → hasC (tubeAt r k) q = if botN r k = q then 1 else 0) := by
  have := tubes_all colT_all (h.t4 hk) (h.tv hk)
  unfold colT at this
  simp only [Bool.and_eq_true, Bool.or_eq_true, decide_eq_true_eq] at this
  obtain ⟨⟨h1, h2⟩, h3⟩ := this
  refine ⟨h1, fun hl => ?_, fun hl q hq1 hq5 => ?_⟩
  · rcases h2 with h2 | h2
    · omega
    · exact h2
  · have := List.all_eq_true.1 h3 q (List.mem_range.2 (by omega))
    simp only [Bool.or_eq_true, decide_eq_true_eq] at this
    have hb := (tubes_all bot_colT (h.t4 hk) (h.tv hk))
    simp only [Bool.and_eq_true, decide_eq_true_eq] at hb
    rcases this with (h4 | h4) | h4
    · omega
    · omega
    · rw [h4]
      unfold botN
      by_cases e : (tubeAt r k).getD 0 0 = (q : Int)
      · rw [if_pos e, if_pos (by omega)]
      · rw [if_neg e, if_neg (by omega)]
theorem spare_pos {r : List Int} (h : RackOK r) : 0 ≤ spare r := by
  unfold spare
  rw [runsFrom_to, colors_to]
  have k : ∀ q, q ≤ 5 → (if 0 < (cnts r).getD q 0 then 1 else 0) ≤ hasN r q 6 := by
    intro q hq
    have h1 := (cnts_pos h hq).trans (hasN_pos r q 6).symm
    split
    · rename_i e; exact h1.1 e
    · exact Nat.zero_le _
  have k1 := k 1 (by omega)
  have k2 := k 2 (by omega)
  have k3 := k 3 (by omega)
  have k4 := k 4 (by omega)
  have k5 := k 5 (by omega)
  simp only [hasN] at k1 k2 k3 k4 k5
  have t0 := (colT_facts h (k := 0) (by omega)).1
  have t1 := (colT_facts h (k := 1) (by omega)).1
  have t2 := (colT_facts h (k := 2) (by omega)).1
  have t3 := (colT_facts h (k := 3) (by omega)).1
  have t4 := (colT_facts h (k := 4) (by omega)).1
  have t5 := (colT_facts h (k := 5) (by omega)).1
  omega
theorem spare_zero {r : List Int} (h : RackOK r) (hs : sortP r = true) : spare r = 0 := by
  obtain ⟨a, b⟩ := sort_bots h 6 0 [] (by omega) hs
  unfold spare
  rw [runsFrom_to, colors_to]
  have k : ∀ q, 1 ≤ q → q ≤ 5 → hasN r q 6 = if 0 < (cnts r).getD q 0 then 1 else 0 := by
    intro q hq1 hq
    have h1 := (cnts_pos h hq).trans (hasN_pos r q 6).symm
    have h2 := (b q hq1).1
    simp only [botFrom, Nat.zero_add, Nat.reduceAdd] at h2
    have h3 : hasN r q 6 ≤ 1 := by
      simp only [hasN]
      rw [(colT_facts h (k := 0) (by omega)).2.2 (a 0 (by omega) (by omega)) q hq1 hq, (colT_facts h (k := 1) (by omega)).2.2 (a 1 (by omega) (by omega)) q hq1 hq, (colT_facts h (k := 2) (by omega)).2.2 (a 2 (by omega) (by omega)) q hq1 hq, (colT_facts h (k := 3) (by omega)).2.2 (a 3 (by omega) (by omega)) q hq1 hq, (colT_facts h (k := 4) (by omega)).2.2 (a 4 (by omega) (by omega)) q hq1 hq, (colT_facts h (k := 5) (by omega)).2.2 (a 5 (by omega) (by omega)) q hq1 hq]
      omega
    split
    · rename_i e; have := h1.1 e; omega
    · rename_i e
      have : ¬ 0 < hasN r q 6 := fun x => e (h1.2 x)
      omega
  rw [← k 1 (by omega) (by omega), ← k 2 (by omega) (by omega), ← k 3 (by omega) (by omega), ← k 4 (by omega) (by omega), ← k 5 (by omega) (by omega)]
  simp only [hasN]
  have t0 := (colT_facts h (k := 0) (by omega)).2.1 (a 0 (by omega) (by omega))
  have t1 := (colT_facts h (k := 1) (by omega)).2.1 (a 1 (by omega) (by omega))
  have t2 := (colT_facts h (k := 2) (by omega)).2.1 (a 2 (by omega) (by omega))
  have t3 := (colT_facts h (k := 3) (by omega)).2.1 (a 3 (by omega) (by omega))
  have t4 := (colT_facts h (k := 4) (by omega)).2.1 (a 4 (by omega) (by omega))
  have t5 := (colT_facts h (k := 5) (by omega)).2.1 (a 5 (by omega) (by omega))
  omega
/-! ### pours poured back -/
theorem rack_ext {r s : List Int} (hr : r.length = 24) (hs : s.length = 24) (h : ∀ k, k < 6 → tubeAt r k = tubeAt s k) : r = s := by
  apply List.ext_getElem (by omega)
  intro m h1 h2
  have := h (m / 4) (by omega)
  unfold tubeAt at this
  have e := congrArg (fun l => l[m % 4]?) this
  simp only [List.getElem?_take, List.getElem?_drop] at e
  rw [if_pos (by omega), if_pos (by omega), show m / 4 * 4 + m % 4 = m by omega, List.getElem?_eq_getElem h1, List.getElem?_eq_getElem h2] at e
  exact Option.some.inj e
def backTake (t : List Int) : Bool := (List.range 5).all fun n => decide (n = 0) || decide ((topOf t).2 < (n : Int)) || (decide (layN (takeGo (layN t) n t) = layN t - n) && decide (putGo (layN t - n) (topOf t).1 n (takeGo (layN t) n t) = t))
theorem backTake_all : allT backTake = true := by kernel_rfl
def backPut (t : List Int) : Bool := (List.range 5).all fun n => decide (n = 0) || decide (4 - layN t < n) || ([1, 2, 3, 4, 5] : List Int).all fun c => !(decide ((topOf t).1 = 0) || decide ((topOf t).1 = c)) || (decide (layN (putGo (layN t) c n t) = layN t + n) && decide (topOf (putGo (layN t) c n t) = (c, (topOf t).2 + (n : Int))) && decide (takeGo (layN t + n) n (putGo (layN t) c n t) = t))
theorem backPut_all : allT backPut = true := by kernel_rfl
theorem pour_back {r : List Int} (h : RackOK r) {i j : Nat} (hi : i < 6) (hj : j < 6) (hc : canP r i j = true) : bkT (pourR r i j) i j (pourN r i j) = r ∧ (pourN r i j : Int) ≤ bkM (pourR r i j) i j ∧ 1 ≤ pourN r i j := by
  have P := pour_b h hi hj hc
  obtain ⟨hij, hc1, hc2, hc3⟩ := canP_iff hc
  have oi := h.top hi
  have oj := h.top hj
  have n1 := P.n1
  have n2 := P.n2
  have n3 := P.n3
  have hni : pourN r i j ≤ layN (tubeAt r i) := by have := oi.nl; omega
  have ht := fun k => tube_pourGo (i := i) (j := j) (f := layN (tubeAt r i)) (t := layN (tubeAt r j)) (c := (topOf (tubeAt r i)).1) hij oi.l4 (pourN r i j) r hni n3 k
  have hti : tubeAt (pourR r i j) i = takeGo (layN (tubeAt r i)) (pourN r i j) (tubeAt r i) := by unfold pourR; rw [ht]; simp
  have htj : tubeAt (pourR r i j) j = putGo (layN (tubeAt r j)) (topOf (tubeAt r i)).1 (pourN r i j) (tubeAt r j) := by unfold pourR; rw [ht]; simp [Ne.symm hij]
  have fi := List.all_eq_true.1 (tubes_all backTake_all (h.t4 hi) (h.tv hi)) (pourN r i j) (List.mem_range.2 (by have := oi.l4; omega))
  have fj := List.all_eq_true.1 (tubes_all backPut_all (h.t4 hj) (h.tv hj)) (pourN r i j) (List.mem_range.2 (by omega))
  have x1 : decide (pourN r i j = 0) = false := decide_eq_false (by omega)
  have x2 : decide ((topOf (tubeAt r i)).2 < (pourN r i j : Int)) = false := decide_eq_false (by omega)
  have x3 : decide (4 - layN (tubeAt r j) < pourN r i j) = false := decide_eq_false (by omega)
  rw [x1, x2] at fi
  rw [x1, x3] at fj
  simp only [Bool.false_or, Bool.and_eq_true, decide_eq_true_eq] at fi
  obtain ⟨f1, f2⟩ := fi
  simp only [Bool.false_or] at fj
  have h5 := oi.c5
  have fj := List.all_eq_true.1 fj (topOf (tubeAt r i)).1 (by
    have : (topOf (tubeAt r i)).1 = 1 ∨ (topOf (tubeAt r i)).1 = 2 ∨ (topOf (tubeAt r i)).1 = 3 ∨ (topOf (tubeAt r i)).1 = 4 ∨ (topOf (tubeAt r i)).1 = 5 := by omega
    rcases this with e | e | e | e | e <;> rw [e] <;> simp)
  have x4 : (decide ((topOf (tubeAt r j)).1 = 0) || decide ((topOf (tubeAt r j)).1 = (topOf (tubeAt r i)).1)) = true := by simpa using hc3
  rw [x4] at fj
  simp only [Bool.not_true, Bool.false_or, Bool.and_eq_true, decide_eq_true_eq] at fj
  obtain ⟨⟨g1, g2⟩, g3⟩ := fj
  rw [← hti] at f1 f2
  rw [← htj] at g1 g2 g3
  have l4 := oi.l4
  have hj0 := oj.n0
  have hpl := pourR_len h.len i j
  refine ⟨?_, ?_, n1⟩
  · apply rack_ext (bkT_len hpl _ _ _) h.len
    intro k hk
    unfold bkT
    rw [g1, f1, g2]
    rw [tube_pourGo (Ne.symm hij) (by omega) _ _ (by omega) (by omega)]
    by_cases e1 : k = j
    · subst e1
      rw [if_pos rfl]
      exact g3
    · rw [if_neg e1]
      by_cases e2 : k = i
      · subst e2
        rw [if_pos rfl]
        exact f2
      · rw [if_neg e2, P.other k e2 e1]
  · unfold bkM
    rw [g2, f1]
    simp only
    omega
theorem back_of_pour {r : List Int} (h : RackOK r) {a b : Int} (hp : pB r a b = true) : pbB (pourR r a.toNat b.toNat) a b (pourN r a.toNat b.toNat) = true ∧ bkT (pourR r a.toNat b.toNat) a.toNat b.toNat (pourN r a.toNat b.toNat : Int).toNat = r := by
  unfold pB placeB at hp
  simp only [Bool.and_eq_true, decide_eq_true_eq] at hp
  obtain ⟨⟨h0, ⟨ha, hb⟩⟩, hc⟩ := hp
  have hi : a.toNat < 6 := by omega
  have hj : b.toNat < 6 := by omega
  obtain ⟨e1, e2, e3⟩ := pour_back h hi hj hc
  have hij := canP_ne hc
  have hn : RackOK (pourR r a.toNat b.toNat) := h.pour hi hj hij
  have ho : okRack (pourR r a.toNat b.toNat) = true := (rack_eq _ hn.len).symm.trans hn.val
  have hab : (a == b) = false := beq_eq_false_iff_ne.2 (fun e => hij (by rw [e]))
  have en : (pourN r a.toNat b.toNat : Int).toNat = pourN r a.toNat b.toNat := by omega
  refine ⟨?_, by rw [en]; exact e1⟩
  unfold pbB bkB bkC bkE placeB inB
  rw [en, e1, ho, hc, hab]
  simp
  omega
/-! ### layers put and taken -/
def putBack (t : List Int) : Bool := decide (4 ≤ layN t) || (decide (t.getD (layN t) 0 = 0) && ([1, 2, 3, 4, 5] : List Int).all fun c => decide (layN (t.set (layN t) c) = layN t + 1))
theorem putBack_all : allT putBack = true := by kernel_rfl
theorem take_of_put {r : List Int} (h : RackOK r) {i c : Int} (hp : ptB r i c = true) (hq : okRack (ptR r i c) = true) : tkB (ptR r i c) i = true ∧ tkR (ptR r i c) i = r := by
  have hR : ptR r i c = r.set (i.toNat * 4 + layN (tubeAt r i.toNat)) c := by unfold ptR; rw [if_pos hp]
  unfold ptB placeB colB at hp
  simp only [Bool.and_eq_true, decide_eq_true_eq, Bool.not_eq_true', beq_eq_false_iff_ne] at hp
  obtain ⟨⟨⟨h0, h1⟩, h2⟩, h3⟩ := hp
  have hi : i.toNat < 6 := by omega
  have l4 := (h.top hi).l4
  have hb := tubes_all putBack_all (h.t4 hi) (h.tv hi)
  unfold putBack at hb
  rw [decide_eq_false (show ¬ 4 ≤ layN (tubeAt r i.toNat) by omega)] at hb
  simp only [Bool.false_or, Bool.and_eq_true, decide_eq_true_eq] at hb
  have hb2 := List.all_eq_true.1 hb.2 c (by
    have : c = 1 ∨ c = 2 ∨ c = 3 ∨ c = 4 ∨ c = 5 := by omega
    rcases this with e | e | e | e | e <;> rw [e] <;> simp)
  simp only [decide_eq_true_eq] at hb2
  have ht : tubeAt (ptR r i c) i.toNat = (tubeAt r i.toNat).set (layN (tubeAt r i.toNat)) c := by
    rw [hR, tubeAt_set r (by omega)]
    simp
  have hl : layN (tubeAt (ptR r i c) i.toNat) = layN (tubeAt r i.toNat) + 1 := by rw [ht, hb2]
  have hB : tkB (ptR r i c) i = true := by
    unfold tkB placeB
    rw [hq, hl]
    simp
    omega
  refine ⟨hB, ?_⟩
  unfold tkR
  rw [if_pos hB, hl, hR]
  have z : r.getD (i.toNat * 4 + layN (tubeAt r i.toNat)) 0 = 0 := by
    have := tubeAt_cell h.len hi (k := layN (tubeAt r i.toNat)) (by omega)
    unfold cellAt at this
    rw [← this]
    exact hb.1
  rw [show layN (tubeAt r i.toNat) + 1 - 1 = layN (tubeAt r i.toNat) by omega, List.set_set]
  have hlt : i.toNat * 4 + layN (tubeAt r i.toNat) < r.length := by rw [h.len]; omega
  rw [List.getD_eq_getElem?_getD, List.getElem?_eq_getElem hlt] at z
  simp only [Option.getD_some] at z
  rw [← z, List.set_getElem_self]
end Go.Proofs.Ytoaidbmkfdpagaa.AM
