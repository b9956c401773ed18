import Derived.Test.YtenheijeahpbkaaT11
namespace Go.Proofs.Ytenheijeahpbkaa.AM
open Go
set_option maxRecDepth 1000000
set_option linter.unusedSimpArgs false
set_option linter.unusedVariables false
set_option maxHeartbeats 4000000 in
theorem r88_0   : fnI pr np 88 [.agg [.int .i64 0, .int .i64 0, .int .i64 0, .int .i64 0]] [] = some (runsV [0, 0, 0, 0]) := by
  have hcall := callA_pure (c81 [0, 0, 0, 0] rfl) (by simp) (by simp)
  have hl : lay [0, 0, 0, 0] = 0 := by simp [lay, firstNot]
  rw [hl] at hcall
  simp only [List.map_cons, List.map_nil] at hcall
  rw [fb (fn := a88) rfl rfl]
  simp [a88, exI_loop', gcE, gcL, upto, reach, idsAt, closed, inL, sub, envIds, pos, cut, IntKind.wrap, IntKind.bits, IntKind.signed, runsV, runsOf, runsC, HOp.ev, appSrc, maxRoom, stillA, hcall]
set_option maxHeartbeats 4000000 in
theorem r88_1 (a : Int) (ha : 0 < a) : fnI pr np 88 [.agg [.int .i64 a, .int .i64 0, .int .i64 0, .int .i64 0]] [] = some (runsV [a, 0, 0, 0]) := by
  have ha0 : ¬ a = 0 := by omega
  have ha1 : ¬ 0 = a := by omega
  have hcall := callA_pure (c81 [a, 0, 0, 0] rfl) (by simp) (by simp)
  have hl : lay [a, 0, 0, 0] = 1 := by simp [lay, firstNot, ha0, ha1]
  rw [hl] at hcall
  simp only [List.map_cons, List.map_nil] at hcall
  rw [fb (fn := a88) rfl rfl]
  simp [a88, exI_loop', gcE, gcL, upto, reach, idsAt, closed, inL, sub, envIds, pos, cut, IntKind.wrap, IntKind.bits, IntKind.signed, runsV, runsOf, runsC, HOp.ev, appSrc, maxRoom, stillA, hcall, ha, ha0, ha1]
set_option maxHeartbeats 4000000 in
theorem r88_2 (a b : Int) (ha : 0 < a) (hb : 0 < b) : fnI pr np 88 [.agg [.int .i64 a, .int .i64 b, .int .i64 0, .int .i64 0]] [] = some (runsV [a, b, 0, 0]) := by
  have ha0 : ¬ a = 0 := by omega
  have ha1 : ¬ 0 = a := by omega
  have hb0 : ¬ b = 0 := by omega
  have hb1 : ¬ 0 = b := by omega
  have hcall := callA_pure (c81 [a, b, 0, 0] rfl) (by simp) (by simp)
  have hl : lay [a, b, 0, 0] = 2 := by simp [lay, firstNot, ha0, ha1, hb0, hb1]
  rw [hl] at hcall
  simp only [List.map_cons, List.map_nil] at hcall
  rw [fb (fn := a88) rfl rfl]
  by_cases e0 : a = b
  · subst e0
    simp [a88, exI_loop', gcE, gcL, upto, reach, idsAt, closed, inL, sub, envIds, pos, cut, IntKind.wrap, IntKind.bits, IntKind.signed, runsV, runsOf, runsC, HOp.ev, appSrc, maxRoom, stillA, hcall, ha, ha0, ha1, hb, hb0, hb1]
  · have e0' : ¬ b = a := fun e => e0 e.symm
    simp [a88, exI_loop', gcE, gcL, upto, reach, idsAt, closed, inL, sub, envIds, pos, cut, IntKind.wrap, IntKind.bits, IntKind.signed, runsV, runsOf, runsC, HOp.ev, appSrc, maxRoom, stillA, hcall, ha, ha0, ha1, hb, hb0, hb1, e0, e0']
set_option maxHeartbeats 4000000 in
theorem r88_3 (a b c : Int) (ha : 0 < a) (hb : 0 < b) (hc : 0 < c) : fnI pr np 88 [.agg [.int .i64 a, .int .i64 b, .int .i64 c, .int .i64 0]] [] = some (runsV [a, b, c, 0]) := by
  have ha0 : ¬ a = 0 := by omega
  have ha1 : ¬ 0 = a := by omega
  have hb0 : ¬ b = 0 := by omega
  have hb1 : ¬ 0 = b := by omega
  have hc0 : ¬ c = 0 := by omega
  have hc1 : ¬ 0 = c := by omega
  have hcall := callA_pure (c81 [a, b, c, 0] rfl) (by simp) (by simp)
  have hl : lay [a, b, c, 0] = 3 := by simp [lay, firstNot, ha0, ha1, hb0, hb1, hc0, hc1]
  rw [hl] at hcall
  simp only [List.map_cons, List.map_nil] at hcall
  rw [fb (fn := a88) rfl rfl]
  by_cases e0 : a = b
  · subst e0
    by_cases e1 : a = c
    · subst e1
      simp [a88, exI_loop', gcE, gcL, upto, reach, idsAt, closed, inL, sub, envIds, pos, cut, IntKind.wrap, IntKind.bits, IntKind.signed, runsV, runsOf, runsC, HOp.ev, appSrc, maxRoom, stillA, hcall, ha, ha0, ha1, hb, hb0, hb1, hc, hc0, hc1]
    · have e1' : ¬ c = a := fun e => e1 e.symm
      simp [a88, exI_loop', gcE, gcL, upto, reach, idsAt, closed, inL, sub, envIds, pos, cut, IntKind.wrap, IntKind.bits, IntKind.signed, runsV, runsOf, runsC, HOp.ev, appSrc, maxRoom, stillA, hcall, ha, ha0, ha1, hb, hb0, hb1, hc, hc0, hc1, e1, e1']
  · have e0' : ¬ b = a := fun e => e0 e.symm
    by_cases e1 : b = c
    · subst e1
      simp [a88, exI_loop', gcE, gcL, upto, reach, idsAt, closed, inL, sub, envIds, pos, cut, IntKind.wrap, IntKind.bits, IntKind.signed, runsV, runsOf, runsC, HOp.ev, appSrc, maxRoom, stillA, hcall, ha, ha0, ha1, hb, hb0, hb1, hc, hc0, hc1, e0, e0']
    · have e1' : ¬ c = b := fun e => e1 e.symm
      simp [a88, exI_loop', gcE, gcL, upto, reach, idsAt, closed, inL, sub, envIds, pos, cut, IntKind.wrap, IntKind.bits, IntKind.signed, runsV, runsOf, runsC, HOp.ev, appSrc, maxRoom, stillA, hcall, ha, ha0, ha1, hb, hb0, hb1, hc, hc0, hc1, e0, e0', e1, e1']
set_option maxHeartbeats 4000000 in
theorem r88_4 (a b c d : Int) (ha : 0 < a) (hb : 0 < b) (hc : 0 < c) (hd : 0 < d) : fnI pr np 88 [.agg [.int .i64 a, .int .i64 b, .int .i64 c, .int .i64 d]] [] = some (runsV [a, b, c, d]) := by
  have ha0 : ¬ a = 0 := by omega
  have ha1 : ¬ 0 = a := by omega
  have hb0 : ¬ b = 0 := by omega
  have hb1 : ¬ 0 = b := by omega
  have hc0 : ¬ c = 0 := by omega
  have hc1 : ¬ 0 = c := by omega
  have hd0 : ¬ d = 0 := by omega
  have hd1 : ¬ 0 = d := by omega
  have hcall := callA_pure (c81 [a, b, c, d] rfl) (by simp) (by simp)
  have hl : lay [a, b, c, d] = 4 := by simp [lay, firstNot, ha0, ha1, hb0, hb1, hc0, hc1, hd0, hd1]
  rw [hl] at hcall
  simp only [List.map_cons, List.map_nil] at hcall
  rw [fb (fn := a88) rfl rfl]
  by_cases e0 : a = b
  · subst e0
    by_cases e1 : a = c
    · subst e1
      by_cases e2 : a = d
      · subst e2
        simp [a88, exI_loop', gcE, gcL, upto, reach, idsAt, closed, inL, sub, envIds, pos, cut, IntKind.wrap, IntKind.bits, IntKind.signed, runsV, runsOf, runsC, HOp.ev, appSrc, maxRoom, stillA, hcall, ha, ha0, ha1, hb, hb0, hb1, hc, hc0, hc1, hd, hd0, hd1]
      · have e2' : ¬ d = a := fun e => e2 e.symm
        simp [a88, exI_loop', gcE, gcL, upto, reach, idsAt, closed, inL, sub, envIds, pos, cut, IntKind.wrap, IntKind.bits, IntKind.signed, runsV, runsOf, runsC, HOp.ev, appSrc, maxRoom, stillA, hcall, ha, ha0, ha1, hb, hb0, hb1, hc, hc0, hc1, hd, hd0, hd1, e2, e2']
    · have e1' : ¬ c = a := fun e => e1 e.symm
      by_cases e2 : c = d
      · subst e2
        simp [a88, exI_loop', gcE, gcL, upto, reach, idsAt, closed, inL, sub, envIds, pos, cut, IntKind.wrap, IntKind.bits, IntKind.signed, runsV, runsOf, runsC, HOp.ev, appSrc, maxRoom, stillA, hcall, ha, ha0, ha1, hb, hb0, hb1, hc, hc0, hc1, hd, hd0, hd1, e1, e1']
      · have e2' : ¬ d = c := fun e => e2 e.symm
        simp [a88, exI_loop', gcE, gcL, upto, reach, idsAt, closed, inL, sub, envIds, pos, cut, IntKind.wrap, IntKind.bits, IntKind.signed, runsV, runsOf, runsC, HOp.ev, appSrc, maxRoom, stillA, hcall, ha, ha0, ha1, hb, hb0, hb1, hc, hc0, hc1, hd, hd0, hd1, e1, e1', e2, e2']
  · have e0' : ¬ b = a := fun e => e0 e.symm
    by_cases e1 : b = c
    · subst e1
      by_cases e2 : b = d
      · subst e2
        simp [a88, exI_loop', gcE, gcL, upto, reach, idsAt, closed, inL, sub, envIds, pos, cut, IntKind.wrap, IntKind.bits, IntKind.signed, runsV, runsOf, runsC, HOp.ev, appSrc, maxRoom, stillA, hcall, ha, ha0, ha1, hb, hb0, hb1, hc, hc0, hc1, hd, hd0, hd1, e0, e0']
      · have e2' : ¬ d = b := fun e => e2 e.symm
        simp [a88, exI_loop', gcE, gcL, upto, reach, idsAt, closed, inL, sub, envIds, pos, cut, IntKind.wrap, IntKind.bits, IntKind.signed, runsV, runsOf, runsC, HOp.ev, appSrc, maxRoom, stillA, hcall, ha, ha0, ha1, hb, hb0, hb1, hc, hc0, hc1, hd, hd0, hd1, e0, e0', e2, e2']
    · have e1' : ¬ c = b := fun e => e1 e.symm
      by_cases e2 : c = d
      · subst e2
        simp [a88, exI_loop', gcE, gcL, upto, reach, idsAt, closed, inL, sub, envIds, pos, cut, IntKind.wrap, IntKind.bits, IntKind.signed, runsV, runsOf, runsC, HOp.ev, appSrc, maxRoom, stillA, hcall, ha, ha0, ha1, hb, hb0, hb1, hc, hc0, hc1, hd, hd0, hd1, e0, e0', e1, e1']
      · have e2' : ¬ d = c := fun e => e2 e.symm
        simp [a88, exI_loop', gcE, gcL, upto, reach, idsAt, closed, inL, sub, envIds, pos, cut, IntKind.wrap, IntKind.bits, IntKind.signed, runsV, runsOf, runsC, HOp.ev, appSrc, maxRoom, stillA, hcall, ha, ha0, ha1, hb, hb0, hb1, hc, hc0, hc1, hd, hd0, hd1, e0, e0', e1, e1', e2, e2']
end Go.Proofs.Ytenheijeahpbkaa.AM
