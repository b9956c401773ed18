import Derived.Test.YtafphbegpjjolaaServeDefs
import Derived.Test.YtafphbegpjjolaaConfs
/- Contracts: pours poured back. -/
namespace Go.Proofs.Ytafphbegpjjolaa.AM
open Go
set_option maxRecDepth 1000000
set_option linter.unusedSimpArgs false
set_option linter.unusedVariables false
theorem rackP_go {r : List Int} (hr : r.length = 24) (hv : rackP r = true) {i j : Nat} (hi : i < 6) (hj : j < 6) (hij : i ≠ j) {n : Nat} (h1 : n ≤ layN (tubeAt r i)) (h2 : layN (tubeAt r j) + n ≤ 4) {c : Int} (hc : 1 ≤ c ∧ c ≤ 5) : rackP (pourGo i j (layN (tubeAt r i)) (layN (tubeAt r j)) c n r) = true := by
  rw [rackP_iff]
  intro k hk
  have hti := rackP_tube hv hi
  have htj := rackP_tube hv hj
  have oi := top_ok (tubeAt_len hr hi) hti
  rw [tube_pourGo hij oi.l4 _ _ h1 h2]
  by_cases e1 : k = i
  · rw [if_pos e1]
    have := List.all_eq_true.1 (tubes_all takeT_all (tubeAt_len hr hi) hti) n (List.mem_range.2 (by have := oi.l4; omega))
    simp only [Bool.or_eq_true, decide_eq_true_eq] at this
    rcases this with h | h
    · omega
    · exact h
  · rw [if_neg e1]
    by_cases e2 : k = j
    · rw [if_pos e2]
      have := List.all_eq_true.1 (tubes_all putT_all (tubeAt_len hr hj) htj) n (List.mem_range.2 (by omega))
      simp only [Bool.or_eq_true, decide_eq_true_eq] at this
      rcases this with h | h
      · omega
      · refine List.all_eq_true.1 h _ ?_
        have : c = 1 ∨ c = 2 ∨ c = 3 ∨ c = 4 ∨ c = 5 := by omega
        rcases this with e | e | e | e | e <;> rw [e] <;> simp
    · rw [if_neg e2]
      exact rackP_tube hv hk
def bkT (r : List Int) (a b m : Nat) : List Int := pourGo b a (layN (tubeAt r b)) (layN (tubeAt r a)) (topOf (tubeAt r b)).1 m r
def bkM (r : List Int) (a b : Nat) : Int := min (topOf (tubeAt r b)).2 (4 - (layN (tubeAt r a) : Int))
/-- so far that the rack before is built -/
def bkC (r : List Int) (a b m : Int) : Bool := placeB a && placeB b && !(a == b) && inB m 1 (bkM r a.toNat b.toNat) && canP (bkT r a.toNat b.toNat m.toNat) a.toNat b.toNat
def bkE (r : List Int) (a b m : Int) : Bool := (pourR (bkT r a.toNat b.toNat m.toNat) a.toNat b.toNat == r) && ((pourN (bkT r a.toNat b.toNat m.toNat) a.toNat b.toNat : Int) == m)
def bkB (r : List Int) (a b m : Int) : Bool := bkC r a b m && bkE r a b m
def bkX (r : List Int) (a b m : Int) : List Int := if bkC r a b m = true then bkT r a.toNat b.toNat m.toNat else List.replicate 24 0
def bkY (r : List Int) (a b m : Int) : List Int := if bkB r a b m = true then bkT r a.toNat b.toNat m.toNat else List.replicate 24 0
theorem bkT_len {r : List Int} (hr : r.length = 24) (a b m : Nat) : (bkT r a b m).length = 24 := by unfold bkT; rw [pourGo_len, hr]
theorem bkX_len {r : List Int} (hr : r.length = 24) (a b m : Int) : (bkX r a b m).length = 24 := by
  unfold bkX; split
  · exact bkT_len hr _ _ _
  · simp
theorem bkY_len {r : List Int} (hr : r.length = 24) (a b m : Int) : (bkY r a b m).length = 24 := by
  unfold bkY; split
  · exact bkT_len hr _ _ _
  · simp
theorem bk_ok {r : List Int} (h : RackOK r) {a b m : Nat} (ha : a < 6) (hb : b < 6) (hab : a ≠ b) (hm : inB (m : Int) 1 (bkM r a b) = true) : RackOK (bkT r a b m) := by
  have oa := h.top ha
  have ob := h.top hb
  simp only [inB, Bool.and_eq_true, decide_eq_true_eq] at hm
  unfold bkM at hm
  have := ob.nl; have := ob.cn; have := ob.c0; have := ob.c5; have := oa.l4
  refine ⟨bkT_len h.len _ _ _, rackP_go h.len h.val hb ha (fun e => hab e.symm) (by omega) (by omega) ⟨?_, by omega⟩⟩
  have : ¬ (topOf (tubeAt r b)).1 = 0 := by omega
  omega
def bkV (r : List Int) (a b m : Int) : V := .tup [.agg ((bkX r a b m).map (C.int .i64)), .c (.bool (bkB r a b m))]
def bkW (r : List Int) (a b m : Int) : V := .tup [.agg ((bkY r a b m).map (C.int .i64)), .c (.bool (bkB r a b m))]
set_option maxHeartbeats 8000000 in
theorem c_spec_l5Back (r : List Int) (h : RackOK r) (a b m : Int) : fnI pr np 58 [.agg (r.map (C.int .i64)), .agg [.int .i64 a, .int .i64 b, .int .i64 m]] [] = some (bkW r a b m, []) := by
  have hr := h.len
  have h24 := take24 hr
  have p1 := callA_pure (c_spec_l2Place a) (by simp) (by simp)
  have p2 := callA_pure (c_spec_l2Place b) (by simp) (by simp)
  rw [fb (fn := a58) rfl rfl]
  unfold bkW bkY bkB bkC
  cases q1 : placeB a with
  | false => rw [q1] at p1; simp [a58, hr, h24, p1, setAt_all, sub]
  | true =>
    rw [q1] at p1
    cases q2 : placeB b with
    | false => rw [q2] at p2; simp [a58, hr, h24, p1, p2, setAt_all, sub]
    | true =>
      rw [q2] at p2
      obtain ⟨A, rfl, hA, tA⟩ := place_nat q1
      obtain ⟨B, rfl, hB, tB⟩ := place_nat q2
      simp only [Int.toNat_natCast]
      by_cases e : A = B
      · subst e
        simp [a58, hr, h24, p1, setAt_all, sub]
      · have e' : ¬ (A : Int) = (B : Int) := by omega
        have e2 : ((A : Int) == (B : Int)) = false := beq_eq_false_iff_ne.2 e'
        have cB := callA_pure (top_all _ (h.t4 hB) (h.tv hB)) (by simp) (by simp)
        have mA := callA_pure (c_many _ (h.t4 hA) (h.tv hA)) (by simp) (by simp)
        have mB := callA_pure (c_many _ (h.t4 hB) (h.tv hB)) (by simp) (by simp)
        have tI := cells_tube r A
        have tJ := cells_tube r B
        have li : A * 4 + 4 ≤ 24 := by omega
        have lj : B * 4 + 4 ≤ 24 := by omega
        have hA' : (A : Int) < 6 := by omega
        have hB' : (B : Int) < 6 := by omega
        have oa := h.top hA
        have ob := h.top hB
        have hin := callA_pure (c_spec_l1In m 1 (bkM r A B)) (by simp) (by simp)
        rw [show (decide ((1 : Int) ≤ m) && decide (m ≤ bkM r A B)) = inB m 1 (bkM r A B) from rfl] at hin
        have hmn := callA_pure (c_spec_l1Least (topOf (tubeAt r B)).2 (4 - (layN (tubeAt r A) : Int))) (by simp) (by simp)
        rw [show min (topOf (tubeAt r B)).2 (4 - (layN (tubeAt r A) : Int)) = bkM r A B from rfl] at hmn
        have w0 : IntKind.i64.wrap (4 - (layN (tubeAt r A) : Int)) = 4 - (layN (tubeAt r A) : Int) := by have := oa.l4; exact wrapI (by omega) (by omega)
        cases q3 : inB m 1 (bkM r A B) with
        | false =>
          rw [q3] at hin
          simp [a58, hr, h24, p1, p2, e, e', e2, tI, tJ, li, lj, hA, hB, hA', hB', cB, mA, mB, w0, hmn, hin, setAt_all, setAt, stillE, madeA, idOf, sub]
        | true =>
          rw [q3] at hin
          have hm1 : 1 ≤ m ∧ m ≤ bkM r A B := by simpa [inB] using q3
          obtain ⟨N, rfl⟩ : ∃ N : Nat, m = (N : Int) := ⟨m.toNat, by omega⟩
          have hbk := bk_ok h hA hB e q3
          have hbl := hbk.len
          have hb24 := take24 hbl
          have hcp := callA_pure (c_spec_l2Can _ hbk hA hB) (by simp) (by simp)
          have hp := callA_pure (c_spec_l2Pour _ hbk hA hB) (by simp) (by simp)
          have hpl := pourR_len hbl A B
          have hp24 := take24 hpl
          have c1 := conf24 _ hpl
          have c2 := conf24 _ hr
          have hNb : N ≤ layN (tubeAt r B) ∧ layN (tubeAt r A) + N ≤ 4 := by
            have := ob.nl; have := oa.l4; unfold bkM at hm1; omega
          have hb4 := ob.l4
          unfold bkE
          simp only [Int.toNat_natCast]
          have hT : bkT r A B N = pourGo B A (layN (tubeAt r B)) (layN (tubeAt r A)) (topOf (tubeAt r B)).1 N r := rfl
          simp [a58, hr, h24, p1, p2, e, e', e2, tI, tJ, li, lj, hA, hB, hA', hB', cB, mA, mB, w0, hmn, hin, setAt_all, setAt, stillE, madeA, idOf]
          clear cB mA mB w0 hmn
          generalize layN (tubeAt r A) = la at *
          generalize layN (tubeAt r B) = lb at *
          generalize (topOf (tubeAt r B)).1 = c at *
          rw [loop_to (fun k => ([(2, V.c (C.ptr 0 0)), (3, V.c (C.ptr 1 0)), (4, V.c (C.ptr 2 0)), (6, V.c (C.int .i64 c)), (8, V.c (C.int .i64 la)), (9, V.c (C.int .i64 lb)), (10, V.c (C.ptr 3 0)), (11, V.c (C.int .i64 k))], [Blk.cells (r.map (C.int .i64)) true, Blk.cells [C.int .i64 A, C.int .i64 B, C.int .i64 N] true, Blk.cells (List.replicate 24 (C.int .i64 0)) true, Blk.cells ((pourGo B A lb la c k r).map (C.int .i64)) true])) N]
          · rw [← hT]
            generalize bkT r A B N = T at *
            cases q4 : canP T A B with
            | false =>
              rw [q4] at hcp
              simp [hr, h24, hbl, hb24, hcp, setAt_all, sub]
            | true =>
              rw [q4] at hcp
              by_cases q5 : pourR T A B = r
              · by_cases q6 : (pourN T A B : Int) = (N : Int)
                · simp [hr, h24, hbl, hb24, hcp, hp, hpl, hp24, c1, c2, ints_inj, q5, q6, setAt_all, setAt, stillE, madeA, idOf, sub]
                · simp [hr, h24, hbl, hb24, hcp, hp, hpl, hp24, c1, c2, ints_inj, q5, q6, setAt_all, setAt, stillE, madeA, idOf, sub]
              · simp [hr, h24, hbl, hb24, hcp, hp, hpl, hp24, c1, c2, ints_inj, q5, setAt_all, setAt, stillE, madeA, idOf, sub]
          · simp [pourGo]
          · intro k hk
            have hl := pourGo_len B A lb la c k r
            obtain ⟨u, hu⟩ : ∃ u : Nat, u = la + k := ⟨_, rfl⟩
            obtain ⟨v, hv⟩ : ∃ v : Nat, v = lb - 1 - k := ⟨_, rfl⟩
            have w1 : IntKind.i64.wrap ((lb : Int) - 1) = (lb : Int) - 1 := wrapI (by omega) (by omega)
            have w2 : IntKind.i64.wrap ((lb : Int) - 1 - (k : Int)) = (v : Int) := (wrapI (by omega) (by omega)).trans (by omega)
            have w3 : IntKind.i64.wrap ((la : Int) + (k : Int)) = (u : Int) := (wrapI (by omega) (by omega)).trans (by omega)
            have w4 := wrapS (k := k) (by omega)
            have hv4 : v < 4 := by omega
            have hu4 : u < 4 := by omega
            have hv4' : (v : Int) < 4 := by omega
            have hu4' : (u : Int) < 4 := by omega
            have lv : B * 4 + v + 1 ≤ 24 := by omega
            have lu : A * 4 + u + 1 ≤ 24 := by omega
            have hset : (((pourGo B A lb la c k r).map (C.int .i64)).set (B * 4 + v) (C.int .i64 0)).set (A * 4 + u) (C.int .i64 c) = (pourGo B A lb la c (k + 1) r).map (C.int .i64) := by simp [pourGo, pourStep, List.map_set, ← hu, ← hv]
            simp [hl, hr, hk, hA, hB, hA', hB', w1, w2, w3, w4, hv4, hu4, hv4', hu4', lv, lu, hset]
/-! ### of any rack -/
def pbB (r : List Int) (a b m : Int) : Bool := okRack r && bkB r a b m
def pbR (r : List Int) (a b m : Int) : List Int := if pbB r a b m = true then bkT r a.toNat b.toNat m.toNat else List.replicate 24 0
theorem pbR_len {r : List Int} (hr : r.length = 24) (a b m : Int) : (pbR r a b m).length = 24 := by
  unfold pbR; split
  · exact bkT_len hr _ _ _
  · simp
def pbV (r : List Int) (a b m : Int) : V := .tup [.agg ((pbR r a b m).map (C.int .i64)), .c (.bool (pbB r a b m))]
end Go.Proofs.Ytafphbegpjjolaa.AM
