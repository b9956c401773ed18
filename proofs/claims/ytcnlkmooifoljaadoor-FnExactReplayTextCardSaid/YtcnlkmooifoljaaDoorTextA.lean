import Derived.Test.YtcnlkmooifoljaaDoorTextP
import Derived.Test.YtcnlkmooifoljaaDoorJoinP
/- Contracts: signs, digits, the reference's text of a rack. -/
namespace Go.Proofs.YtcnlkmooifoljaaDoor.AM
open Go
set_option maxRecDepth 1000000
set_option linter.unusedSimpArgs false
set_option linter.unusedVariables false
theorem c_impl_colorText {c : Int} (h : 0 ≤ c ∧ c ≤ 5) : fnI pr np 35 [.c (.int .i64 c)] [] = some (.c (.str [chB c]), []) := by
  rcases six_of h with rfl | rfl | rfl | rfl | rfl | rfl
  all_goals exact (fnI_iff pr np).2 ⟨30, by kernel_rfl⟩
theorem c_spec_l1Num5 {c : Int} (h : 0 ≤ c ∧ c ≤ 5) : fnI pr np 20 [.c (.int .i64 c)] [] = some (.c (.str [dgB c]), []) := by
  rcases six_of h with rfl | rfl | rfl | rfl | rfl | rfl
  all_goals exact (fnI_iff pr np).2 ⟨30, by kernel_rfl⟩
theorem c_itoa5 {c : Int} (h : 0 ≤ c ∧ c ≤ 5) : fnI pr np 25 [.c (.int .i64 c)] [] = some (.c (.str [dgB c]), []) := by
  rcases six_of h with rfl | rfl | rfl | rfl | rfl | rfl
  all_goals exact (fnI_iff pr np).2 ⟨1, by kernel_rfl⟩
theorem cell_get {r : List Int} (hr : r.length = 24) {i k : Nat} (hi : i < 6) (hk : k < 4) : ((r.map (C.int .i64)).drop (i * 4 + k)).take 1 = [C.int .i64 ((tubeAt r i).getD k 0)] := by
  rw [tubeAt_cell hr hi hk]
  rw [List.drop_eq_getElem_cons (by simp; omega)]
  simp [cellAt, List.getD_eq_getElem?_getD, List.getElem?_eq_getElem (show i * 4 + k < r.length by omega)]
theorem sl_one {x : Int} (h : 0 ≤ x ∧ x ≤ 5) : ((([46, 97, 98, 99, 100, 101] : List UInt8).take (x.toNat + 1)).drop x.toNat) = [chB x] := by
  rcases six_of h with rfl | rfl | rfl | rfl | rfl | rfl <;> rfl
theorem c_spec_l2Text (r : List Int) (h : RackOK r) : fnI pr np 19 [.agg (r.map (C.int .i64))] [] = some (.c (.str (preT r 6)), []) := by
  have hr := h.len
  have h24 := take24 hr
  have w1 : IntKind.i64.wrap 1 = 1 := by decide
  have w2 : IntKind.i64.wrap 2 = 2 := by decide
  have w3 : IntKind.i64.wrap 3 = 3 := by decide
  have w4 : IntKind.i64.wrap 4 = 4 := by decide
  have w5 : IntKind.i64.wrap 5 = 5 := by decide
  have w6 : IntKind.i64.wrap 6 = 6 := by decide
  rw [fb (fn := a19) rfl rfl rfl]
  simp [a19, hr, h24, sub]
  rw [loop_to (fun i => ([(1, V.c (C.ptr 0 0)), (3, V.c (C.str (preT r i))), (4, V.c (C.int .i64 i))], [Blk.cells (r.map (C.int .i64)) true])) 6]
  · simp [sub]
  · simp [sub, preT]
  · intro i hi
    have hiI : (i : Int) < 6 := by omega
    have wi := wrapS (k := i) (by omega)
    have hpl := preT_len hr i (by omega)
    have ht4 := tbT_len hr hi
    rw [preT_succ]
    have hsp : (preT r i ++ sepT i).length ≤ 31 := by
      have : (sepT i).length ≤ 1 := by unfold sepT; split <;> simp
      rw [List.length_append]; omega
    have inner : ∀ (p : List UInt8) (hp : p.length ≤ 31) (k : Nat), k < 4 → (p ++ (tbT r i).take k).length + 1 ≤ 9223372036854775807 := fun p hp k hk => by simp; omega
    have hend : (tbT r i).take 4 = tbT r i := List.take_of_length_le (by omega)
    have step : ∀ k, k < 4 → ∃ x, 0 ≤ x ∧ x ≤ 5 ∧ ((r.map (C.int .i64)).drop (i * 4 + k)).take 1 = [C.int .i64 x] ∧ (tbT r i).take (k + 1) = (tbT r i).take k ++ [chB x] := fun k hk => by
      have hc := tube_col (h.t4 hi) (h.tv hi) hk
      exact ⟨_, hc.1, hc.2, cell_get hr hi hk, by rw [take_one _ (by omega), tbT_get hr hi hk]⟩
    by_cases h0 : i = 0
    · subst h0
      have e0 : preT r 0 = [] := rfl
      have e1 : sepT 0 = [] := rfl
      rw [e0, e1]
      simp [hr, sub]
      rw [loop_to (fun k => ([(1, V.c (C.ptr 0 0)), (3, V.c (C.str ((tbT r 0).take k))), (4, V.c (C.int .i64 0)), (5, V.c (C.int .i64 k))], [Blk.cells (r.map (C.int .i64)) true])) 4]
      · simp [sub, hend, w1]
      · simp [sub]
      · intro k hk
        obtain ⟨x, x0, x5, g, tk⟩ := step k hk
        have hkI : (k : Int) < 4 := by omega
        have wk := wrapS (k := k) (by omega)
        have b1 := inner [] (by simp) k hk
        simp only [List.nil_append] at b1
        generalize (tbT r 0).take k = q at *
        rw [tk]
        simp at g
        have k3 : k ≤ 23 := by omega
        rcases six_of ⟨x0, x5⟩ with rfl | rfl | rfl | rfl | rfl | rfl
        all_goals simp [hkI, hk, hr, g, k3, wk, w1, w2, w3, w4, w5, w6, b1, chB, sub]
    · have hpos : 0 < i := by omega
      have h0I : (0 : Int) < (i : Int) := by omega
      have hb : (preT r i).length + 1 ≤ 9223372036854775807 := by omega
      have e1 : sepT i = [47] := by unfold sepT; rw [if_neg h0]
      have e2 : preT r i ++ (sepT i ++ tbT r i) = (preT r i ++ [47]) ++ tbT r i := by rw [e1, List.append_assoc]
      rw [e1] at hsp
      rw [e2]
      generalize hq : preT r i = q0 at *
      generalize hp : q0 ++ [47] = p at *
      simp [hiI, h0I, hpos, hi, h0, hb, hp, hr, sub]
      rw [loop_to (fun k => ([(1, V.c (C.ptr 0 0)), (3, V.c (C.str (p ++ (tbT r i).take k))), (4, V.c (C.int .i64 i)), (5, V.c (C.int .i64 k))], [Blk.cells (r.map (C.int .i64)) true])) 4]
      · simp [sub, hend, wi]
      · simp [sub]
      · intro k hk
        obtain ⟨x, x0, x5, g, tk⟩ := step k hk
        have hkI : (k : Int) < 4 := by omega
        have wk := wrapS (k := k) (by omega)
        have b1 := inner p (by omega) k hk
        have hle : i * 4 + k ≤ 23 := by omega
        rw [tk, ← List.append_assoc]
        generalize p ++ (tbT r i).take k = q at *
        rcases six_of ⟨x0, x5⟩ with rfl | rfl | rfl | rfl | rfl | rfl
        all_goals simp [hkI, hk, hi, hiI, hle, hr, g, b1, wk, w1, w2, w3, w4, w5, w6, chB, sub]
end Go.Proofs.YtcnlkmooifoljaaDoor.AM
