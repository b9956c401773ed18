import Derived.Test.YtoaidbmkfdpagaaRepLawsB
/- Contracts: the bound of a rack; the certificate of a replay. -/
namespace Go.Proofs.Ytoaidbmkfdpagaa.AM
open Go
set_option maxRecDepth 1000000
set_option linter.unusedSimpArgs false
set_option linter.unusedVariables false
/-- the color at a tube's bottom -/
def botN (r : List Int) (i : Nat) : Nat := ((tubeAt r i).getD 0 0).toNat
def botCnt (r : List Int) (c : Nat) : Nat → Nat
  | 0 => 0
  | k + 1 => botCnt r c k + if botN r k = c then 1 else 0
def botC (r : List Int) (k : Nat) : List C := [C.int .i64 (botCnt r 0 k), C.int .i64 (botCnt r 1 k), C.int .i64 (botCnt r 2 k), C.int .i64 (botCnt r 3 k), C.int .i64 (botCnt r 4 k), C.int .i64 (botCnt r 5 k)]
@[simp] theorem botC_len (r : List Int) (k : Nat) : (botC r k).length = 6 := rfl
@[simp] theorem botC_ids (r : List Int) (k : Nat) : cids (botC r k) = [] := rfl
@[simp] theorem botC_dead (r : List Int) (k : Nat) : noDead (botC r k) = true := rfl
@[simp] theorem botC_cmp (g : Nat → Nat) (r : List Int) (k : Nat) : cmp g (botC r k) = botC r k := rfl
theorem botCnt_le (r : List Int) (c : Nat) : ∀ k, botCnt r c k ≤ k
  | 0 => Nat.le_refl _
  | k + 1 => by have := botCnt_le r c k; simp only [botCnt]; split <;> omega
theorem botC_get (r : List Int) (k : Nat) {c : Nat} (hc : c ≤ 5) : ((botC r k).drop c).take 1 = [C.int .i64 (botCnt r c k)] := by
  have : c = 0 ∨ c = 1 ∨ c = 2 ∨ c = 3 ∨ c = 4 ∨ c = 5 := by omega
  rcases this with rfl | rfl | rfl | rfl | rfl | rfl <;> rfl
theorem botC_set (r : List Int) (k : Nat) {c : Nat} (hc : c ≤ 5) (hb : botN r k = c) : (botC r k).set c (C.int .i64 ((botCnt r c k : Int) + 1)) = botC r (k + 1) := by
  have : c = 0 ∨ c = 1 ∨ c = 2 ∨ c = 3 ∨ c = 4 ∨ c = 5 := by omega
  rcases this with rfl | rfl | rfl | rfl | rfl | rfl <;> simp [botC, botCnt, hb]
theorem bot_colT : allT (fun t => decide (0 ≤ t.getD 0 0) && decide (t.getD 0 0 ≤ 5) && ((runsOf t).length == 0) == (t.getD 0 0 == 0)) = true := by kernel_rfl
theorem bot_facts {r : List Int} (h : RackOK r) {i : Nat} (hi : i < 6) : botN r i ≤ 5 ∧ ((tubeAt r i).map (C.int .i64)).take 1 = [C.int .i64 (botN r i)] ∧ ((runsOf (tubeAt r i)).length = 0 ↔ botN r i = 0) := by
  have := tubes_all bot_colT (h.t4 hi) (h.tv hi)
  simp only [Bool.and_eq_true, decide_eq_true_eq, beq_iff_eq] at this
  obtain ⟨⟨h1, h2⟩, h3⟩ := this
  obtain ⟨a, b, c, d, ht⟩ := len4 (h.t4 hi)
  unfold botN
  rw [ht] at h1 h2 h3 ⊢
  simp at h1 h2 h3 ⊢
  refine ⟨by omega, by omega, ?_⟩
  rw [Bool.eq_iff_iff] at h3
  simp at h3
  rw [h3]
  omega
theorem cell_bot {r : List Int} (h : RackOK r) {i : Nat} (hi : i < 6) : ((r.map (C.int .i64)).drop (i * 4)).take 1 = [C.int .i64 (botN r i)] := by
  have := (bot_facts h hi).2.1
  rw [← cells_tube, List.take_take] at this
  exact this
theorem c_spec_l6Bottoms (r : List Int) (h : RackOK r) : fnI pr np 207 [.agg (r.map (C.int .i64))] [] = some (.agg (botC r 6), []) := by
  have hr := h.len
  rw [fb (fn := a207) rfl rfl]
  simp [a207, hr, setAt]
  rw [loop_to (fun k => ([(1, V.c (C.ptr 0 0)), (2, V.c (C.ptr 1 0)), (3, V.c (C.ptr 2 0)), (4, V.c (C.int .i64 k))], [Blk.cells (r.map (C.int .i64)) true, Blk.cells [C.int .i64 0, C.int .i64 0, C.int .i64 0, C.int .i64 0, C.int .i64 0, C.int .i64 0] true, Blk.cells (botC r k) true])) 6]
  · have : (botC r 6).take 6 = botC r 6 := rfl
    simp [this, setAt_all]
  · simp [botC, botCnt, sub]
  · intro k hk
    have hk' : (k : Int) < 6 := by omega
    obtain ⟨hb5, _, _⟩ := bot_facts h hk
    have g := cell_bot h hk
    have g2 := botC_get r k hb5
    have hs := botC_set r k hb5 rfl
    have hle := botCnt_le r (botN r k) k
    have wk := wrapS (k := k) (by omega)
    have wc := wrapS (k := botCnt r (botN r k) k) (by omega)
    have b1 : k * 4 + 1 ≤ 24 := by omega
    have b2 : (botN r k : Int) < 6 := by omega
    have b2' : botN r k < 6 := by omega
    have b3 : botN r k + 1 ≤ 6 := by omega
    generalize botN r k = c at *
    simp [hk, hk', hr, g, g2, wk, wc, b1, b2, b2', b3, hb5, hs, setAt, sub]
theorem c_impl_bottoms (r : List Int) (h : RackOK r) : fnI pr np 205 [.agg (r.map (C.int .i64))] [] = some (.agg (botC r 6), []) := by
  have hr := h.len
  have h24 := take24 hr
  rw [fb (fn := a205) rfl rfl]
  simp [a205, hr, h24, setAt]
  rw [loop_to (fun k => ([(2, V.c (C.ptr 0 0)), (3, V.c (C.ptr 1 0)), (7, V.agg (r.map (C.int .i64))), (8, V.c (C.int .i64 k))], [Blk.cells [C.int .i64 0, C.int .i64 0, C.int .i64 0, C.int .i64 0, C.int .i64 0, C.int .i64 0] true, Blk.cells (botC r k) true])) 6]
  · have : (botC r 6).take 6 = botC r 6 := rfl
    simp [this, setAt_all]
  · simp [botC, botCnt, sub]
  · intro k hk
    have hk' : (k : Int) < 6 := by omega
    obtain ⟨hb5, g, _⟩ := bot_facts h hk
    have hm := cells_tube r k
    have ht4 := h.t4 hk
    have g2 := botC_get r k hb5
    have hs := botC_set r k hb5 rfl
    have hle := botCnt_le r (botN r k) k
    have wk := wrapS (k := k) (by omega)
    have wc := wrapS (k := botCnt r (botN r k) k) (by omega)
    have b1 : k * 4 + 4 ≤ 24 := by omega
    have b2 : (botN r k : Int) < 6 := by omega
    have b2' : botN r k < 6 := by omega
    have b3 : botN r k + 1 ≤ 6 := by omega
    generalize botN r k = c at *
    simp [hk, hk', hr, hm, ht4, g, g2, wk, wc, b1, b2, b2', b3, hb5, hs, setAt_all, setAt, sub]
/-! ### boundaries -/
def bdTo (r : List Int) : Nat → Nat
  | 0 => 0
  | k + 1 => bdTo r k + ((runsOf (tubeAt r k)).length - 1)
theorem bdTo_le {r : List Int} (h : RackOK r) : ∀ k, k ≤ 6 → bdTo r k ≤ 4 * k
  | 0, _ => Nat.le_refl _
  | k + 1, hk => by
    have := bdTo_le h k (by omega)
    have h1 := runsOf_len (tubeAt r k)
    have h2 := h.t4 (i := k) (by omega)
    simp only [bdTo]; omega
theorem bd_eq {r : List Int} (h : RackOK r) : bdTo r 6 + 6 = runsFrom r 0 6 + botCnt r 0 6 := by
  have f0 := (bot_facts h (i := 0) (by omega)).2.2
  have f1 := (bot_facts h (i := 1) (by omega)).2.2
  have f2 := (bot_facts h (i := 2) (by omega)).2.2
  have f3 := (bot_facts h (i := 3) (by omega)).2.2
  have f4 := (bot_facts h (i := 4) (by omega)).2.2
  have f5 := (bot_facts h (i := 5) (by omega)).2.2
  simp only [bdTo, runsFrom, botCnt]
  generalize (runsOf (tubeAt r 0)).length = n0 at *
  generalize (runsOf (tubeAt r 1)).length = n1 at *
  generalize (runsOf (tubeAt r 2)).length = n2 at *
  generalize (runsOf (tubeAt r 3)).length = n3 at *
  generalize (runsOf (tubeAt r 4)).length = n4 at *
  generalize (runsOf (tubeAt r 5)).length = n5 at *
  have key : ∀ n b : Nat, (n = 0 ↔ b = 0) → n - 1 + 1 = n + if b = 0 then 1 else 0 := by
    intro n b hh
    by_cases hb : b = 0
    · have := hh.2 hb; simp [hb, this]
    · have : n ≠ 0 := fun e => hb (hh.1 e)
      simp [hb]; omega
  have k0 := key _ _ f0
  have k1 := key _ _ f1
  have k2 := key _ _ f2
  have k3 := key _ _ f3
  have k4 := key _ _ f4
  have k5 := key _ _ f5
  omega
theorem c_spec_l6Boundaries (r : List Int) (h : RackOK r) : fnI pr np 206 [.agg (r.map (C.int .i64))] [] = some (.c (.int .i64 (bdTo r 6)), []) := by
  have hr := h.len
  have h24 := take24 hr
  have h1 := callA_pure (c_spec_l6Runs r hr h.val) (by simp) (by simp)
  have h2 := callA_pure (c_spec_l6Bottoms r h) (by simp) (by simp)
  have he := bd_eq h
  have hb := bdTo_le h 6 (by omega)
  have hc := botCnt_le r 0 6
  have g : (botC r 6).take 1 = [C.int .i64 (botCnt r 0 6)] := rfl
  have w1 : IntKind.i64.wrap ((runsFrom r 0 6 : Int) - 6) = (runsFrom r 0 6 : Int) - 6 := wrapI (by omega) (by omega)
  have w2 : IntKind.i64.wrap ((runsFrom r 0 6 : Int) - 6 + (botCnt r 0 6 : Int)) = (bdTo r 6 : Int) := by rw [wrapI (by omega) (by omega)]; omega
  rw [fb (fn := a206) rfl rfl]
  simp [a206, hr, h24, h1, h2, g, w1, w2]
theorem c_impl_countBoundaries (r : List Int) (h : RackOK r) : fnI pr np 204 [.agg (r.map (C.int .i64))] [] = some (.c (.int .i64 (bdTo r 6)), []) := by
  have hr := h.len
  have h24 := take24 hr
  rw [fb (fn := a204) rfl rfl]
  simp [a204, hr, h24]
  rw [loop_to (fun k => ([(3, V.c (C.int .i64 (bdTo r k))), (7, V.agg (r.map (C.int .i64))), (8, V.c (C.int .i64 k))], [])) 6]
  · simp
  · simp [bdTo, sub]
  · intro k hk
    have hk' : (k : Int) < 6 := by omega
    have ht4 := h.t4 hk
    have hcall := callA_new (runs_both _ ht4 (h.tv hk)).2 (by simp)
    have hm := cells_tube r k
    have ht44 : ((tubeAt r k).map (C.int .i64)).take 4 = (tubeAt r k).map (C.int .i64) := List.take_of_length_le (by simp; omega)
    have hb := bdTo_le h k (by omega)
    have hl := runsOf_len (tubeAt r k)
    have wk := wrapS (k := k) (by omega)
    have b1 : k * 4 + 4 ≤ 24 := by omega
    have hst : bdTo r (k + 1) = bdTo r k + ((runsOf (tubeAt r k)).length - 1) := rfl
    unfold runsV at hcall
    generalize (runsOf (tubeAt r k)).length = n at *
    cases n with
    | zero =>
      have wz : IntKind.i64.wrap 0 = 0 := by decide
      have w1 : IntKind.i64.wrap (-1) = -1 := by decide
      have w2 : IntKind.i64.wrap (bdTo r k : Int) = (bdTo r k : Int) := wrapI (by omega) (by omega)
      simp at hst
      simp [hk, hk', hr, hm, ht4, ht44, hcall, wk, b1, setAt_all, w1, w2, wz, hst, sub]
    | succ n =>
      have w1 : IntKind.i64.wrap (n : Int) = (n : Int) := wrapI (by omega) (by omega)
      have wz : IntKind.i64.wrap 0 = 0 := by decide
      have w2 : IntKind.i64.wrap ((bdTo r k : Int) + (n : Int)) = ((bdTo r k + n : Nat) : Int) := by rw [wrapI (by omega) (by omega)]; simp
      have hge : ¬ ((n : Int) < 0) := by omega
      simp at hst
      by_cases hn : n = 0
      · subst hn
        simp at w2
        simp [hk, hk', hr, hm, ht4, ht44, hcall, wk, b1, setAt_all, w1, w2, wz, hst, sub]
      · have hp : (0 : Int) < (n : Int) := by omega
        have hp' : 0 < n := by omega
        simp [hk, hk', hr, hm, ht4, ht44, hcall, wk, b1, setAt_all, w1, w2, hge, hst, sub]
def exTo (r : List Int) : Nat → Nat
  | 0 => 0
  | k + 1 => exTo r k + (botCnt r (k + 1) 6 - 1)
theorem exTo_le (r : List Int) : ∀ k, exTo r k ≤ 6 * k
  | 0 => Nat.le_refl _
  | k + 1 => by have := exTo_le r k; have := botCnt_le r (k + 1) 6; simp only [exTo]; omega
def boundN (r : List Int) : Nat := bdTo r 6 + exTo r 5
theorem c_impl_bound (r : List Int) (h : RackOK r) : fnI pr np 135 [.agg (r.map (C.int .i64))] [] = some (.c (.int .i64 (boundN r)), []) := by
  have hr := h.len
  have h24 := take24 hr
  have h1 := callA_pure (c_impl_countBoundaries r h) (by simp) (by simp)
  have h2 := callA_pure (c_impl_bottoms r h) (by simp) (by simp)
  have hbl := bdTo_le h 6 (by omega)
  rw [fb (fn := a135) rfl rfl]
  simp [a135, hr, h24, h1, h2, setAt_all]
  rw [loop_to (fun k => ([(3, V.c (C.int .i64 ((bdTo r 6 + exTo r k : Nat) : Int))), (11, V.c (C.sl 0 1 5 1)), (12, V.c (C.int .i64 5)), (13, V.c (C.int .i64 k))], [Blk.cells (botC r 6) true])) 5]
  · simp [boundN]
  · simp [exTo, sub]
  · intro k hk
    have hk' : (k : Int) < 5 := by omega
    have g := botC_get r 6 (c := k + 1) (by omega)
    rw [Nat.add_comm k 1] at g
    have hc := botCnt_le r (k + 1) 6
    have he := exTo_le r k
    have wk := wrapS (k := k) (by omega)
    have b1 : 1 + k + 1 ≤ 6 := by omega
    have hst : exTo r (k + 1) = exTo r k + (botCnt r (k + 1) 6 - 1) := rfl
    rw [Nat.add_comm 1 k] at g
    generalize botCnt r (k + 1) 6 = n at *
    rw [Nat.add_comm k 1] at g
    cases n with
    | zero =>
      have wz : IntKind.i64.wrap 0 = 0 := by decide
      have w1 : IntKind.i64.wrap (-1) = -1 := by decide
      have w2 : IntKind.i64.wrap ((bdTo r 6 : Int) + (exTo r k : Int)) = (bdTo r 6 : Int) + (exTo r k : Int) := wrapI (by omega) (by omega)
      simp at hst
      simp [hk, hk', g, wk, b1, w1, w2, wz, hst, sub]
    | succ n =>
      have w1 : IntKind.i64.wrap (n : Int) = (n : Int) := wrapI (by omega) (by omega)
      have wz : IntKind.i64.wrap 0 = 0 := by decide
      have w2 : IntKind.i64.wrap ((bdTo r 6 : Int) + (exTo r k : Int) + (n : Int)) = (bdTo r 6 : Int) + ((exTo r k : Int) + (n : Int)) := by rw [wrapI (by omega) (by omega)]; omega
      have hge : ¬ ((n : Int) < 0) := by omega
      simp at hst
      by_cases hn : n = 0
      · subst hn
        simp at w2
        simp [hk, hk', g, wk, b1, w1, w2, wz, hst, sub]
      · have hp : (0 : Int) < (n : Int) := by omega
        have hp' : 0 < n := by omega
        simp [hk, hk', g, wk, b1, w1, w2, hge, hst, sub]
theorem c_spec_l6Bound (r : List Int) (h : RackOK r) : fnI pr np 136 [.agg (r.map (C.int .i64))] [] = some (.c (.int .i64 (boundN r)), []) := by
  have hr := h.len
  have h24 := take24 hr
  have h1 := callA_pure (c_spec_l6Boundaries r h) (by simp) (by simp)
  have h2 := callA_pure (c_spec_l6Bottoms r h) (by simp) (by simp)
  have hbl := bdTo_le h 6 (by omega)
  rw [fb (fn := a136) rfl rfl]
  simp [a136, hr, h24, h1, h2, setAt_all]
  rw [loop_to (fun k => ([(3, V.c (C.int .i64 ((bdTo r 6 + exTo r k : Nat) : Int))), (4, V.c (C.ptr 0 0)), (5, V.c (C.int .i64 ((k + 1 : Nat) : Int)))], [Blk.cells (botC r 6) true])) 5]
  · simp [boundN]
  · simp [exTo, sub]
  · intro k hk
    have hk' : (k : Int) + 1 ≤ 5 := by omega
    have hk'' : (k : Int) + 1 < 6 := by omega
    have hk3 : ((k : Int) + 1).toNat = k + 1 := by omega
    have hk4 : (0 : Int) ≤ (k : Int) + 1 := by omega
    have g := botC_get r 6 (c := k + 1) (by omega)
    have hc := botCnt_le r (k + 1) 6
    have he := exTo_le r k
    have wk := wrapS (k := k + 1) (by omega)
    have b1 : k + 1 + 1 ≤ 6 := by omega
    have hst : exTo r (k + 1) = exTo r k + (botCnt r (k + 1) 6 - 1) := rfl
    generalize botCnt r (k + 1) 6 = n at *
    have wn : IntKind.i64.wrap ((n : Int) - 1) = (n : Int) - 1 := wrapI (by omega) (by omega)
    have hmost := callA_pure (c_spec_l1Most 0 ((n : Int) - 1)) (by simp) (by simp)
    have hmx : max (0 : Int) ((n : Int) - 1) = ((n - 1 : Nat) : Int) := by omega
    rw [hmx] at hmost
    have w2 : IntKind.i64.wrap ((bdTo r 6 : Int) + (exTo r k : Int) + ((n - 1 : Nat) : Int)) = (bdTo r 6 : Int) + ((exTo r k : Int) + ((n - 1 : Nat) : Int)) := by rw [wrapI (by omega) (by omega)]; omega
    generalize n - 1 = q at *
    simp at wk
    simp [hk, hk', hk'', hk3, hk4, g, wk, b1, wn, hmost, w2, hst, sub]
/-! ### the certificate -/
def certV (r : List Int) (l : List (Int × Int)) : V := .tup [.c (.int .i64 (if solB r l = true then (l.length : Int) - (boundN r : Int) else 0)), .c (.bool (solB r l))]
theorem boundN_le {r : List Int} (h : RackOK r) : boundN r ≤ 54 := by
  have h1 := bdTo_le h 6 (by omega)
  have h2 := exTo_le r 5
  unfold boundN; omega
theorem c_impl_CertifyReplay (r : List Int) (hr : r.length = 24) (l : List (Int × Int)) (o : Bool) : fnI pr np 42 [repV r 0 l.length] [.cells (cZ l) o] = some (certV r l, [.cells (cZ l) o]) := by
  have t3 := repC_all hr (C.sl 0 0 l.length 2)
  have t1 := repC_take hr (C.sl 0 0 l.length 2)
  have t2 := repC_drop hr (C.sl 0 0 l.length 2)
  have h1 := call_rep (rest := []) rfl (by simp) (c_impl_solves r hr l o)
  rw [fb (fn := a42) rfl rfl]
  unfold certV
  cases hq : solB r l with
  | true =>
    have hrep : repB r l = true := by unfold solB at hq; simp only [Bool.and_eq_true] at hq; exact hq.1
    obtain ⟨h, hl, hg⟩ := repB_facts hr hrep
    have hb := callA_pure (c_impl_bound r h) (by simp) (by simp)
    have hle := boundN_le h
    have w : IntKind.i64.wrap ((l.length : Int) - (boundN r : Int)) = (l.length : Int) - (boundN r : Int) := wrapI (by omega) (by omega)
    rw [hq] at h1
    simp [a42, repV, hr, t1, t2, t3, h1, hb, w, sub]
  | false => rw [hq] at h1; simp [a42, repV, hr, t3, h1, sub]
theorem c_spec_CertifyReplay (r : List Int) (hr : r.length = 24) (l : List (Int × Int)) (o : Bool) : fnI pr np 43 [repV r 0 l.length] [.cells (cZ l) o] = some (certV r l, [.cells (cZ l) o]) := by
  have h0 := c_spec_l11Racks r hr l o
  have t3 := repC_all hr (C.sl 0 0 l.length 2)
  have t1 := repC_take hr (C.sl 0 0 l.length 2)
  have t2 := repC_drop hr (C.sl 0 0 l.length 2)
  rw [fb (fn := a43) rfl rfl]
  unfold certV solB
  cases hq : repB r l with
  | true =>
    rw [racksV_t hq] at h0
    have hc := call_rep (rest := []) rfl (by simp) h0
    obtain ⟨h, hl, hg⟩ := repB_facts hr hq
    have w : IntKind.i64.wrap (l.length : Int) = (l.length : Int) := wrapI (by omega) (by omega)
    have ho := rackF_ok h l l.length (Nat.le_refl _) hg
    rw [rackF_all] at ho
    have hs := callA_pure (c_spec_l2Sorted _ ho) (by simp) (by simp)
    have g := outC_get hr l l.length (Nat.le_refl _)
    rw [rackF_all] at g
    have hol := outI_len hr l l.length
    have b1' : (l.length : Int) < (l.length : Int) + 1 := by omega
    have b2 : l.length * 24 + 24 ≤ (l.length + 1) * 24 := by omega
    have hb := callA_pure (c_spec_l6Bound r h) (by simp) (by simp)
    have hle := boundN_le h
    have w2 : IntKind.i64.wrap ((l.length : Int) - (boundN r : Int)) = (l.length : Int) - (boundN r : Int) := wrapI (by omega) (by omega)
    cases hsq : sortP (rackF r l) with
    | true => rw [hsq] at hs; simp [a43, repV, hr, t1, t2, t3, hc, w, g, hol, b1', b2, hs, hb, w2, sub]
    | false => rw [hsq] at hs; simp [a43, repV, hr, t1, t2, t3, hc, w, g, hol, b1', b2, hs, sub]
  | false =>
    rw [racksV_f hq] at h0
    have hc := call_rep (rest := []) rfl (by simp) h0
    simp [a43, repV, hr, t3, hc, sub]
end Go.Proofs.Ytoaidbmkfdpagaa.AM
