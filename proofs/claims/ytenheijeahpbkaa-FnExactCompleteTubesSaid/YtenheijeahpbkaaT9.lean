import Derived.Test.YtenheijeahpbkaaT7
namespace Go.Proofs.Ytenheijeahpbkaa.AM
open Go
set_option maxRecDepth 100000
set_option linter.unusedSimpArgs false
theorem c84 (a b c d : Int) : fnI pr np 84 [.agg [.int .i64 a, .int .i64 b, .int .i64 c, .int .i64 d], .agg [.int .i64 a, .int .i64 b, .int .i64 c, .int .i64 d]] [] = some (.c (.bool true), []) := by
  rw [fb (fn := a84) rfl rfl]
  simp [a84, exI_loop', gcE, gcL, upto, reach, idsAt, closed, inL, sub, pos, envIds, IntKind.wrap, IntKind.bits, IntKind.signed]
set_option maxHeartbeats 2000000 in
theorem c62 (r : List Int) (hr : r.length = 24) : fnI pr np 62 [.agg (r.map (C.int .i64)), .agg (r.map (C.int .i64))] [] = some (.c (.bool true), []) := by
  have hc := fun a b c d => callA_pure (c84 a b c d) (by simp) (by simp)
  obtain ⟨x0, x1, x2, x3, x4, x5, x6, x7, x8, x9, x10, x11, x12, x13, x14, x15, x16, x17, x18, x19, x20, x21, x22, x23, rfl⟩ := len24 hr
  rw [fb (fn := a62) rfl rfl]
  simp [a62, exI_loop', gcE, gcL, upto, reach, idsAt, closed, inL, sub, pos, envIds, IntKind.wrap, IntKind.bits, IntKind.signed, hc, stillA]
theorem c40 (r : List Int) (hr : r.length = 24) : fnI pr np 40 [.agg (r.map (C.int .i64)), .agg (r.map (C.int .i64))] [] = some (.c (.bool true), []) := by
  have hc := callA_pure (c62 r hr) (by simp) (by simp)
  have h24 : (r.map (C.int .i64)).take 24 = r.map (C.int .i64) := List.take_of_length_le (by simp; omega)
  rw [fb (fn := a40) rfl rfl]
  simp [a40, hc, hr, h24]
theorem barC_parts (r : List Int) (hr : r.length = 24) (m n : Int) : (barC r m n).length = 26 ∧ (barC r m n).take 24 = r.map (C.int .i64) ∧ (barC r m n).drop 24 = [C.int .i64 m, C.int .i64 n] ∧ (barC r m n).drop 25 = [C.int .i64 n] ∧ (barC r m n).take 26 = barC r m n := by
  refine ⟨by simp [barC, hr], ?_, ?_, ?_, List.take_of_length_le (by simp [barC, hr])⟩
  · unfold barC; rw [List.take_append_of_le_length (by simp; omega), List.take_of_length_le (by simp; omega)]
  · unfold barC; rw [List.drop_append_of_le_length (by simp; omega), List.drop_of_length_le (by simp; omega)]; rfl
  · have h25 : (barC r m n).drop 24 = [C.int .i64 m, C.int .i64 n] := by unfold barC; rw [List.drop_append_of_le_length (by simp; omega), List.drop_of_length_le (by simp; omega)]; rfl
    rw [show 25 = 24 + 1 from rfl, ← List.drop_drop, h25]; rfl
theorem c16 (r : List Int) (hr : r.length = 24) (m n : Int) : fnI pr np 16 [.agg (barC r m n), .agg (barC r m n)] [] = some (.c (.bool true), []) := by
  have hc := callA_pure (c40 r hr) (by simp) (by simp)
  obtain ⟨h0, h1, h2, h3, h4⟩ := barC_parts r hr m n
  have hids := barC_ids r m n
  rw [fb (fn := a16) rfl rfl]
  simp [a16, hc, h0, h1, h2, h3, h4]
def okRack (r : List Int) : Bool := !anyFrom (rowBad r) 0 6
theorem barC_zero : barC (List.replicate 24 0) 0 0 = List.replicate 26 (C.int .i64 0) := by decide
def newBar (r : List Int) : V := .tup [.agg (if okRack r then barC r 0 0 else List.replicate 26 (C.int .i64 0)), .c (.bool (okRack r))]
theorem c13 (r : List Int) (hr : r.length = 24) : fnI pr np 13 [.agg (r.map (C.int .i64))] [] = some (newBar r, []) := by
  have hc := callA_pure (c38 r hr) (by simp) (by simp)
  rw [show (!anyFrom (rowBad r) 0 6) = okRack r from rfl] at hc
  obtain ⟨x0, x1, x2, x3, x4, x5, x6, x7, x8, x9, x10, x11, x12, x13, x14, x15, x16, x17, x18, x19, x20, x21, x22, x23, rfl⟩ := len24 hr
  unfold newBar
  generalize okRack [x0, x1, x2, x3, x4, x5, x6, x7, x8, x9, x10, x11, x12, x13, x14, x15, x16, x17, x18, x19, x20, x21, x22, x23] = q at hc ⊢
  simp only [List.map_cons, List.map_nil] at hc
  rw [fb (fn := a13) rfl rfl]
  cases q <;> simp [a13, hc, barC]
theorem c15 (r : List Int) (hr : r.length = 24) : fnI pr np 15 [.agg (r.map (C.int .i64))] [] = some (newBar r, []) := by
  have h12 := c12 r hr 0 0
  rw [rack_eq r hr, show (!anyFrom (rowBad r) 0 6) = okRack r from rfl] at h12
  simp only [Int.le_refl, decide_true, Bool.true_and, Bool.and_true, show decide ((0 : Int) ≤ 9999) = true from rfl, show decide ((0 : Int) ≤ 1000) = true from rfl] at h12
  have hc := callA_pure h12 (by have := barC_ids r 0 0; unfold barC at this; simp [this]) (by simp)
  obtain ⟨x0, x1, x2, x3, x4, x5, x6, x7, x8, x9, x10, x11, x12, x13, x14, x15, x16, x17, x18, x19, x20, x21, x22, x23, rfl⟩ := len24 hr
  unfold newBar
  generalize okRack [x0, x1, x2, x3, x4, x5, x6, x7, x8, x9, x10, x11, x12, x13, x14, x15, x16, x17, x18, x19, x20, x21, x22, x23] = q at hc ⊢
  simp only [List.map_cons, List.map_nil, List.cons_append, List.nil_append] at hc
  rw [fb (fn := a15) rfl rfl]
  cases q <;> simp [a15, hc, barC]
theorem c14 (r : List Int) (hr : r.length = 24) : fnI pr np 14 [.agg (r.map (C.int .i64))] [] = some (.agg (r.map (C.int .i64)), []) := by
  obtain ⟨x0, x1, x2, x3, x4, x5, x6, x7, x8, x9, x10, x11, x12, x13, x14, x15, x16, x17, x18, x19, x20, x21, x22, x23, rfl⟩ := len24 hr
  exact (fnI_iff pr np).2 ⟨30, by kernel_rfl⟩
end Go.Proofs.Ytenheijeahpbkaa.AM
