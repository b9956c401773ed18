import Derived.Test.YtafphbegpjjolaaSorted
import Derived.Test.YtafphbegpjjolaaPairS
/- Contracts: means of plays. -/
namespace Go.Proofs.Ytafphbegpjjolaa.AM
open Go
set_option maxRecDepth 1000000
set_option linter.unusedSimpArgs false
set_option linter.unusedVariables false
def movesL (r : List Int) : List (Nat × Nat) := if sortP r = true then [] else usefulL r
def endB (r : List Int) : Bool := sortP r || decide ((usefulL r).length = 0)
theorem endB_moves (r : List Int) : endB r = decide ((movesL r).length = 0) := by
  unfold endB movesL
  cases sortP r <;> simp
theorem moves_of (r : List Int) (h : endB r = false) : movesL r = usefulL r ∧ 0 < (usefulL r).length ∧ sortP r = false := by
  unfold endB at h
  simp only [Bool.or_eq_false_iff, decide_eq_false_iff_not] at h
  exact ⟨by simp [movesL, h.1], by omega, h.1⟩
theorem endB_useful : ∀ r, endB r = false → 0 < (usefulL r).length := fun r h => (moves_of r h).2.1
theorem c_spec_l9Moves (r : List Int) (h : RackOK r) : fnI pr np 51 [.agg (r.map (C.int .i64))] [] = some (.c (.sl 0 0 (movesL r).length 2), [.cells (flatC (movesL r)) true]) := by
  have hr := h.len
  have h24 := take24 hr
  have h1 := callA_pure (c_spec_l2Sorted r h) (by simp) (by simp)
  have h2 := callA_new (c_spec_l2Useful r h) (by simp)
  rw [fb (fn := a51) rfl rfl]
  unfold movesL
  cases hq : sortP r with
  | true => rw [hq] at h1; simp [a51, hr, h24, h1, flatC_nil, sub]
  | false => rw [hq] at h1; simp [a51, hr, h24, h1, h2, sub]
theorem c_impl_isEnd (r : List Int) (h : RackOK r) : fnI pr np 41 [.agg (r.map (C.int .i64))] [] = some (.c (.bool (endB r)), []) := by
  have hr := h.len
  have h24 := take24 hr
  have h1 := callA_pure (c_impl_isSorted r h) (by simp) (by simp)
  have h2 := callA_new (c_impl_useful r h) (by simp)
  rw [fb (fn := a41) rfl rfl]
  unfold endB
  cases hq : sortP r with
  | true => rw [hq] at h1; simp [a41, hr, h24, h1]
  | false =>
    rw [hq] at h1
    by_cases hz : (usefulL r).length = 0
    · simp [a41, hr, h24, h1, h2, hz]
    · have hz' : (((usefulL r).length : Int) == 0) = false := beq_eq_false_iff_ne.2 (by omega)
      simp [a41, hr, h24, h1, h2, hz, hz']
def stuckP (r : List Int) : Bool := !sortP r && decide ((usefulL r).length = 0)
theorem c_impl_isStuck (r : List Int) (h : RackOK r) : fnI pr np 39 [.agg (r.map (C.int .i64))] [] = some (.c (.bool (stuckP r)), []) := by
  have hr := h.len
  have h24 := take24 hr
  have h1 := callA_pure (c_impl_isSorted r h) (by simp) (by simp)
  have h2 := callA_new (c_impl_useful r h) (by simp)
  rw [fb (fn := a39) rfl rfl]
  unfold stuckP
  cases hq : sortP r with
  | true => rw [hq] at h1; simp [a39, hr, h24, h1]
  | false =>
    rw [hq] at h1
    by_cases hz : (usefulL r).length = 0
    · simp [a39, hr, h24, h1, h2, hz]
    · have hz' : (((usefulL r).length : Int) == 0) = false := beq_eq_false_iff_ne.2 (by omega)
      simp [a39, hr, h24, h1, h2, hz, hz']
def w1 (r : List Int) : Nat := if sortP r = true then 1 else 0
def w2 (r : List Int) : Nat := if stuckP r = true then 1 else 0
def w3 (r : List Int) : Nat := runsFrom r 0 6
theorem runsFrom_le4 {r : List Int} (hr : r.length = 24) : ∀ (d i : Nat), i + d ≤ 6 → runsFrom r i d ≤ 4 * d
  | 0, _, _ => by simp [runsFrom]
  | d + 1, i, h => by
    have h1 := runsOf_len (tubeAt r i)
    have h2 := tubeAt_len hr (i := i) (by omega)
    have h3 := runsFrom_le4 hr d (i + 1) (by omega)
    simp only [runsFrom]
    omega
theorem w1_le : ∀ r : List Int, r.length = 24 → rackP r = true → w1 r ≤ 24 := fun r _ _ => by unfold w1; split <;> omega
theorem w2_le : ∀ r : List Int, r.length = 24 → rackP r = true → w2 r ≤ 24 := fun r _ _ => by unfold w2; split <;> omega
theorem w3_le : ∀ r : List Int, r.length = 24 → rackP r = true → w3 r ≤ 24 := fun r hr _ => by have := runsFrom_le4 hr 6 0 (by omega); unfold w3; omega
/-- a number asked for, by its kind -/
inductive Kind : Nat → (List Int → Nat) → Prop
  | a : Kind 1 w1
  | b : Kind 2 w2
  | c : Kind 3 w3
theorem Kind.le {k : Nat} {w : List Int → Nat} (h : Kind k w) : ∀ r : List Int, r.length = 24 → rackP r = true → w r ≤ 24 := by
  cases h
  · exact w1_le
  · exact w2_le
  · exact w3_le
theorem c_spec_l9Worth {k : Nat} {w : List Int → Nat} (hk : Kind k w) (r : List Int) (h : RackOK r) : fnI pr np 64 [.agg (r.map (C.int .i64)), .c (.int .i64 k)] [] = some (.c (.int .i64 (w r)), []) := by
  have hr := h.len
  have h24 := take24 hr
  have h1 := callA_pure (c_spec_l2Sorted r h) (by simp) (by simp)
  have h2 := callA_new (c_spec_l2Useful r h) (by simp)
  have h3 := callA_pure (c_spec_l6Runs r hr h.val) (by simp) (by simp)
  rw [fb (fn := a64) rfl rfl]
  cases hk with
  | c => simp [a64, hr, h24, h3, w3]
  | a =>
    unfold w1
    cases hq : sortP r <;> rw [hq] at h1 <;> simp [a64, hr, h24, h1]
  | b =>
    unfold w2 stuckP
    cases hq : sortP r with
    | true => rw [hq] at h1; simp [a64, hr, h24, h1]
    | false =>
      rw [hq] at h1
      by_cases hz : (usefulL r).length = 0
      · simp [a64, hr, h24, h1, h2, hz]
      · have hz' : (((usefulL r).length : Int) == 0) = false := beq_eq_false_iff_ne.2 (by omega)
        simp [a64, hr, h24, h1, h2, hz, hz']
theorem c_chanceSorted_1 (r : List Int) (h : RackOK r) : fnI pr np 63 [.agg (r.map (C.int .i64))] [] = some (.c (.int .i64 (w1 r)), []) := by
  have hr := h.len
  have h24 := take24 hr
  have h1 := callA_pure (c_impl_isSorted r h) (by simp) (by simp)
  rw [fb (fn := a63) rfl rfl]
  unfold w1
  cases hq : sortP r <;> rw [hq] at h1 <;> simp [a63, hr, h24, h1]
theorem c_ChanceStuckBy_1 (r : List Int) (h : RackOK r) : fnI pr np 38 [.agg (r.map (C.int .i64))] [] = some (.c (.int .i64 (w2 r)), []) := by
  have hr := h.len
  have h24 := take24 hr
  have h1 := callA_pure (c_impl_isStuck r h) (by simp) (by simp)
  rw [fb (fn := a38) rfl rfl]
  unfold w2
  cases hq : stuckP r <;> rw [hq] at h1 <;> simp [a38, hr, h24, h1]
/-! ### sums of fractions -/
def fracV (x : Nat × Nat) : V := .agg [.int .i64 x.1, .int .i64 x.2]
@[simp] theorem fracV_ids (x : Nat × Nat) : (fracV x).ids = [] := rfl
structure PlusOK (x y : Nat × Nat) : Prop where
  a : x.1 * y.2 + y.1 * x.2 < 9223372036854775808
  b : x.2 * y.2 < 9223372036854775808
  p : 0 < x.2 * y.2
theorem wrapN {n : Nat} (h : n < 9223372036854775808) : IntKind.i64.wrap (n : Int) = (n : Int) := wrapI (by omega) (by omega)
theorem PlusOK.w {x y : Nat × Nat} (h : PlusOK x y) : IntKind.i64.wrap ((x.1 : Int) * (y.2 : Int)) = ((x.1 * y.2 : Nat) : Int) ∧ IntKind.i64.wrap ((y.1 : Int) * (x.2 : Int)) = ((y.1 * x.2 : Nat) : Int) ∧
    IntKind.i64.wrap (((x.1 * y.2 : Nat) : Int) + ((y.1 * x.2 : Nat) : Int)) = ((x.1 * y.2 + y.1 * x.2 : Nat) : Int) ∧ IntKind.i64.wrap ((x.2 : Int) * (y.2 : Int)) = ((x.2 * y.2 : Nat) : Int) := by
  have ha := h.a
  have hb := h.b
  refine ⟨?_, ?_, ?_, ?_⟩
  · rw [← Int.natCast_mul]; exact wrapN (by omega)
  · rw [← Int.natCast_mul]; exact wrapN (by omega)
  · rw [← Int.natCast_add]; exact wrapN (by omega)
  · rw [← Int.natCast_mul]; exact wrapN (by omega)
theorem c_spec_l7Plus {x y : Nat × Nat} (h : PlusOK x y) : fnI pr np 65 [.agg [.int .i64 x.1, .int .i64 x.2], .agg [.int .i64 y.1, .int .i64 y.2]] [] = some (.agg [.int .i64 (plusF x y).1, .int .i64 (plusF x y).2], []) := by
  have hc := callA_pure (c_spec_l7Cut _ _ h.a h.b h.p) (by simp) (by simp)
  obtain ⟨u1, u2, u3, u4⟩ := h.w
  unfold plusF
  generalize cutF (x.1 * y.2 + y.1 * x.2) (x.2 * y.2) = z at *
  generalize hA : x.1 * y.2 + y.1 * x.2 = A at *
  generalize hB : x.2 * y.2 = B at *
  generalize hC : x.1 * y.2 = C1 at *
  generalize hD : y.1 * x.2 = D at *
  rw [fb (fn := a65) rfl rfl]
  simp [a65, u1, u2, u3, u4, hc]
theorem c_impl_plus {x y : Nat × Nat} (h : PlusOK x y) : fnI pr np 67 [.agg [.int .i64 x.1, .int .i64 x.2], .agg [.int .i64 y.1, .int .i64 y.2]] [] = some (.agg [.int .i64 (plusF x y).1, .int .i64 (plusF x y).2], []) := by
  have hc := callA_pure (c_impl_fraction _ _ h.a h.b h.p) (by simp) (by simp)
  obtain ⟨u1, u2, u3, u4⟩ := h.w
  unfold plusF
  generalize cutF (x.1 * y.2 + y.1 * x.2) (x.2 * y.2) = z at *
  generalize hA : x.1 * y.2 + y.1 * x.2 = A at *
  generalize hB : x.2 * y.2 = B at *
  generalize hC : x.1 * y.2 = C1 at *
  generalize hD : y.1 * x.2 = D at *
  rw [fb (fn := a67) rfl rfl]
  simp [a67, u1, u2, u3, u4, hc]
/-! ### the mean -/
def partM (w : List Int → Nat) (n : Nat) (r : List Int) (p : Nat × Nat) : Nat × Nat := meanV w endB n (pourR r p.1 p.2)
def mTo (w : List Int → Nat) (n : Nat) (r : List Int) (k : Nat) : Nat × Nat := meanTo (partM w n r) (usefulL r).length ((usefulL r).take k)
theorem mTo_zero (w : List Int → Nat) (n : Nat) (r : List Int) : mTo w n r 0 = (0, 1) := by simp [mTo, meanTo]
theorem mTo_all (w : List Int → Nat) (n : Nat) (r : List Int) (h : endB r = false) : mTo w n r (usefulL r).length = meanV w endB (n + 1) r := by
  unfold mTo meanV
  rw [List.take_length, h]
  rfl
theorem mTo_succ (w : List Int → Nat) (n : Nat) (r : List Int) {k : Nat} (hk : k < (usefulL r).length) : mTo w n r (k + 1) = plusF (mTo w n r k) (cutF (partM w n r ((usefulL r)[k]'hk)).1 ((partM w n r ((usefulL r)[k]'hk)).2 * (usefulL r).length)) := by
  unfold mTo
  rw [take_snoc hk, meanTo_snoc]
/-- the facts that a turn needs -/
structure TurnOK (w : List Int → Nat) (n : Nat) (r : List Int) (k : Nat) (hk : k < (usefulL r).length) : Prop where
  c1 : (partM w n r ((usefulL r)[k]'hk)).1 < 9223372036854775808
  c2 : (partM w n r ((usefulL r)[k]'hk)).2 * (usefulL r).length < 9223372036854775808
  c3 : 0 < (partM w n r ((usefulL r)[k]'hk)).2 * (usefulL r).length
  pl : PlusOK (mTo w n r k) (cutF (partM w n r ((usefulL r)[k]'hk)).1 ((partM w n r ((usefulL r)[k]'hk)).2 * (usefulL r).length))
theorem turn_num {x y : Nat × Nat} {L : Nat} (m0 : 0 < x.2) (m2 : x.2 ≤ 30) (m3 : x.1 ≤ 24 * x.2) (hl : L ≤ 30) (hL : 0 < L) (s1 : 0 < y.2) (s2 : y.2 ≤ 69872686884000) (s3 : y.1 ≤ 24 * 69872686884000) : x.1 < 9223372036854775808 ∧ x.2 * L < 9223372036854775808 ∧ 0 < x.2 * L ∧ PlusOK y (cutF x.1 (x.2 * L)) := by
  have c2 : x.2 * L ≤ 900 := Nat.le_trans (Nat.mul_le_mul m2 hl) (by decide)
  have c3 : 0 < x.2 * L := Nat.mul_pos m0 hL
  have z := cutF_le x.1 (x.2 * L)
  have zp := cutF_pos (a := x.1) c3
  have x1 : x.1 ≤ 720 := by omega
  generalize cutF x.1 (x.2 * L) = z' at *
  refine ⟨by omega, by omega, c3, ⟨?_, ?_, Nat.mul_pos s1 zp⟩⟩
  · have t1 : y.1 * z'.2 ≤ 24 * 69872686884000 * 900 := Nat.mul_le_mul s3 (by omega)
    have t2 : z'.1 * y.2 ≤ 720 * 69872686884000 := Nat.mul_le_mul (by omega) s2
    omega
  · have t1 : y.2 * z'.2 ≤ 69872686884000 * 900 := Nat.mul_le_mul s2 (by omega)
    omega
theorem turn_ok {w : List Int → Nat} (hw : ∀ r : List Int, r.length = 24 → rackP r = true → w r ≤ 24) {n : Nat} (hn : n ≤ 1) {r : List Int} (h : RackOK r) {k : Nat} (hk : k < (usefulL r).length) : TurnOK w n r k hk := by
  obtain ⟨hi, hj, hp⟩ := useful_pour h (List.getElem_mem hk)
  obtain ⟨m1, m2⟩ := mean_ok (e := endB) hw endB_useful hn hp.len hp.val
  have hl := usefulL_len30 r
  obtain ⟨s1, s2, s3⟩ := meanTo_small (e := endB) hw endB_useful hn h.len h.val (by omega) k (by omega)
  have m0 := m1.pos
  have m3 := m1.most
  obtain ⟨a, b, c, d⟩ := turn_num (x := partM w n r ((usefulL r)[k]'hk)) (y := mTo w n r k) m0 m2 m3 hl (by omega) s1 s2 s3
  exact ⟨a, b, c, d⟩
set_option maxHeartbeats 4000000 in
theorem c_spec_l9Mean {kd : Nat} {w : List Int → Nat} (hkd : Kind kd w) : ∀ (n : Nat) (hn : n ≤ 2) (r : List Int) (h : RackOK r), fnI pr np 36 [.agg (r.map (C.int .i64)), .c (.int .i64 n), .c (.int .i64 kd)] [] = some (.agg [.int .i64 (meanV w endB n r).1, .int .i64 (meanV w endB n r).2], []) := by
  intro n
  induction n with
  | zero =>
    intro hn r h
    have hr := h.len
    have h24 := take24 hr
    have hm := callA_new (c_spec_l9Moves r h) (by simp)
    have hw := callA_pure (c_spec_l9Worth hkd r h) (by simp) (by simp)
    rw [fb (fn := a36) rfl rfl]
    simp [a36, meanV, hr, h24, hm, hw]
  | succ n ih =>
    intro hn r h
    have hr := h.len
    have h24 := take24 hr
    have hm := callA_new (c_spec_l9Moves r h) (by simp)
    have hw := callA_pure (c_spec_l9Worth hkd r h) (by simp) (by simp)
    have hn0 : (((n + 1 : Nat) : Int) == 0) = false := beq_eq_false_iff_ne.2 (by omega)
    rw [fb (fn := a36) rfl rfl]
    simp only [a36]
    generalize hN : ((n + 1 : Nat) : Int) = N at hn0 ⊢
    cases he : endB r with
    | true =>
      have hz : (movesL r).length = 0 := by have := endB_moves r; rw [he] at this; simpa using this.symm
      simp [hr, h24, hm, hw, hn0, hz, meanV, he]
    | false =>
      obtain ⟨hmv, hl, _⟩ := moves_of r he
      rw [hmv] at hm
      have hz : (((usefulL r).length : Int) == 0) = false := beq_eq_false_iff_ne.2 (by omega)
      have hl30 := usefulL_len30 r
      simp [hr, h24, hm, hn0, hz]
      rw [loop_to (fun k => ([(1, V.c (C.int .i64 N)), (2, V.c (C.int .i64 kd)), (3, V.c (C.ptr 0 0)), (6, V.c (C.ptr 1 0)), (7, V.c (C.sl 2 0 (usefulL r).length 2)), (8, V.c (C.ptr 3 0)), (9, V.c (C.int .i64 k))], [Blk.cells (r.map (C.int .i64)) true, Blk.cells [C.int .i64 0, C.int .i64 0] true, Blk.cells (flatC (usefulL r)) true, Blk.cells [C.int .i64 (mTo w n r k).1, C.int .i64 (mTo w n r k).2] true])) (usefulL r).length]
      · simp [mTo_all w n r he]
      · simp [mTo_zero, sub]
      · intro k hkl
        obtain ⟨hi, hj, hp⟩ := useful_pour h (List.getElem_mem hkl)
        have ht := turn_ok (n := n) hkd.le (by omega) h hkl
        have hst := mTo_succ w n r hkl
        have hc := callA_pure (c_spec_l2Pour r h hi hj) (by simp) (by simp)
        have hrec := callA_pure (ih (by omega) _ hp) (by simp) (by simp)
        have hcut := callA_pure (c_spec_l7Cut _ _ ht.c1 ht.c2 ht.c3) (by simp) (by simp)
        have hplus := callA_pure (c_spec_l7Plus ht.pl) (by simp) (by simp)
        have hwm : IntKind.i64.wrap (((partM w n r ((usefulL r)[k]'hkl)).2 : Int) * ((usefulL r).length : Int)) = (((partM w n r ((usefulL r)[k]'hkl)).2 * (usefulL r).length : Nat) : Int) := by rw [← Int.natCast_mul]; exact wrapN ht.c2
        rw [← hst] at hplus
        have e1 : meanV w endB n (pourR r ((usefulL r)[k]'hkl).1 ((usefulL r)[k]'hkl).2) = partM w n r ((usefulL r)[k]'hkl) := rfl
        rw [e1] at hrec
        generalize partM w n r ((usefulL r)[k]'hkl) = x at *
        have hwn : IntKind.i64.wrap (N - 1) = (n : Int) := by rw [wrapI (by omega) (by omega)]; omega
        have hg := flatC_take1 (usefulL r) [] hkl
        rw [List.append_nil] at hg
        obtain ⟨g1, g2⟩ := hg
        have b1 : k * 2 + 2 ≤ (usefulL r).length * 2 := by omega
        have b2 : k * 2 + 1 ≤ (usefulL r).length * 2 := by omega
        have wk := wrapS (k := k) (by omega)
        have hpl := hp.len
        have hp24 := take24 hpl
        generalize hX : x.2 * (usefulL r).length = X at *
        simp [hkl, hr, h24, hc, hrec, hwn, hcut, hplus, hwm, g1, g2, b1, b2, wk, hpl, hp24, setAt_all, setAt, sub]
set_option maxHeartbeats 4000000 in
theorem c_impl_mean {g : Nat} {w : List Int → Nat} (hle : ∀ r : List Int, r.length = 24 → rackP r = true → w r ≤ 24) (hg : ∀ r : List Int, RackOK r → fnI pr np g [.agg (r.map (C.int .i64))] [] = some (.c (.int .i64 (w r)), [])) : ∀ (n : Nat) (hn : n ≤ 2) (r : List Int) (h : RackOK r), fnI pr np 37 [.agg (r.map (C.int .i64)), .c (.int .i64 n), .c (.fn g [])] [] = some (.agg [.int .i64 (meanV w endB n r).1, .int .i64 (meanV w endB n r).2], []) := by
  intro n
  induction n with
  | zero =>
    intro hn r h
    have hr := h.len
    have h24 := take24 hr
    have hw := callA_pure (hg r h) (by simp) (by simp)
    rw [fb (fn := a37) rfl rfl]
    simp [a37, meanV, hr, h24, hw]
  | succ n ih =>
    intro hn r h
    have hr := h.len
    have h24 := take24 hr
    have hm := callA_new (c_impl_useful r h) (by simp)
    have hend := callA_pure (c_impl_isEnd r h) (by simp) (by simp)
    have hw := callA_pure (hg r h) (by simp) (by simp)
    have hn0 : (((n + 1 : Nat) : Int) == 0) = false := beq_eq_false_iff_ne.2 (by omega)
    rw [fb (fn := a37) rfl rfl]
    simp only [a37]
    generalize hN : ((n + 1 : Nat) : Int) = N at hn0 ⊢
    cases he : endB r with
    | true =>
      rw [he] at hend
      simp [hr, h24, hend, hw, hn0, meanV, he]
    | false =>
      rw [he] at hend
      have hl := endB_useful r he
      have hl30 := usefulL_len30 r
      simp [hr, h24, hm, hn0, hend]
      rw [loop_to (fun k => ([(1, V.c (C.int .i64 N)), (2, V.c (C.fn g [])), (3, V.c (C.ptr 0 0)), (6, V.c (C.ptr 1 0)), (7, V.c (C.sl 2 0 (usefulL r).length 2)), (8, V.c (C.ptr 3 0)), (27, V.c (C.sl 2 0 (usefulL r).length 2)), (28, V.c (C.int .i64 (usefulL r).length)), (29, V.c (C.int .i64 k))], [Blk.cells (r.map (C.int .i64)) true, Blk.cells [C.int .i64 0, C.int .i64 0] true, Blk.cells (flatC (usefulL r) ++ padC r) true, Blk.cells [C.int .i64 (mTo w n r k).1, C.int .i64 (mTo w n r k).2] true])) (usefulL r).length]
      · simp [mTo_all w n r he]
      · simp [mTo_zero, sub]
      · intro k hkl
        obtain ⟨hi, hj, hp⟩ := useful_pour h (List.getElem_mem hkl)
        have ht := turn_ok (n := n) hle (by omega) h hkl
        have hst := mTo_succ w n r hkl
        have hc := callA_pure (c_impl_pour r h hi hj) (by simp) (by simp)
        have hrec := callA_pure (ih (by omega) _ hp) (by simp) (by simp)
        have hcut := callA_pure (c_impl_fraction _ _ ht.c1 ht.c2 ht.c3) (by simp) (by simp)
        have hplus := callA_pure (c_impl_plus ht.pl) (by simp) (by simp)
        have hwm : IntKind.i64.wrap (((partM w n r ((usefulL r)[k]'hkl)).2 : Int) * ((usefulL r).length : Int)) = (((partM w n r ((usefulL r)[k]'hkl)).2 * (usefulL r).length : Nat) : Int) := by rw [← Int.natCast_mul]; exact wrapN ht.c2
        rw [← hst] at hplus
        have e1 : meanV w endB n (pourR r ((usefulL r)[k]'hkl).1 ((usefulL r)[k]'hkl).2) = partM w n r ((usefulL r)[k]'hkl) := rfl
        rw [e1] at hrec
        generalize partM w n r ((usefulL r)[k]'hkl) = x at *
        have hwn : IntKind.i64.wrap (N - 1) = (n : Int) := by rw [wrapI (by omega) (by omega)]; omega
        have hg := flatC_get (usefulL r) (padC r) k hkl
        have b1 : k * 2 + 2 ≤ (usefulL r).length * 2 + (padC r).length := by omega
        have wk := wrapS (k := k) (by omega)
        have hpl := hp.len
        have hp24 := take24 hpl
        generalize hX : x.2 * (usefulL r).length = X at *
        simp [hkl, hr, h24, hc, hrec, hwn, hcut, hplus, hwm, hg, b1, wk, hpl, hp24, setAt_all, setAt, sub]
end Go.Proofs.Ytafphbegpjjolaa.AM
