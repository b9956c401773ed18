import Derived.Test.YtenheijeahpbkaaT10
namespace Go.Proofs.Ytenheijeahpbkaa.AM
open Go
set_option maxRecDepth 1000000
set_option linter.unusedSimpArgs false
set_option linter.unusedVariables false
/-- the runs of a tube: colors and how many -/
def runsOf : List Int → List (Int × Int)
  | [] => []
  | x :: r => if x = 0 then [] else match runsOf r with
    | [] => [(x, 1)]
    | (y, n) :: l => if x = y then (y, n + 1) :: l else (x, 1) :: (y, n) :: l
def runsC (t : List Int) : List C := (runsOf t).flatMap fun p => [C.int .i64 p.1, C.int .i64 p.2]
def runsV (t : List Int) : V × Heap := (.c (.sl 0 0 (runsOf t).length 2), [.cells (runsC t) true])
def pos1 (a : Int) : Int := if 0 < a then 1 else 0
theorem c87 (a b c d : Int) : fnI pr np 87 [.agg [.int .i64 a, .int .i64 b, .int .i64 c, .int .i64 d]] [] = some (.c (.int .i64 (pos1 a + pos1 b + pos1 c + pos1 d)), []) := by
  rw [fb (fn := a87) rfl rfl]
  by_cases ha : 0 < a <;> by_cases hb : 0 < b <;> by_cases hc : 0 < c <;> by_cases hd : 0 < d <;> simp [a87, exI_loop', gcE_one, envIds, pos, IntKind.wrap, IntKind.bits, IntKind.signed, ha, hb, hc, hd, pos1]

set_option maxHeartbeats 4000000 in
theorem r76_0   : fnI pr np 76 [.agg [.int .i64 0, .int .i64 0, .int .i64 0, .int .i64 0]] [] = some (runsV [0, 0, 0, 0]) := by
  have hcall := callA_pure (c87 0 0 0 0) (by simp) (by simp)
  simp only [pos1,  if_true, if_false, Int.lt_irrefl, Int.add_zero, Int.zero_add, show (1 : Int) + 1 = 2 from rfl, show (2 : Int) + 1 = 3 from rfl, show (3 : Int) + 1 = 4 from rfl] at hcall
  rw [fb (fn := a76) rfl rfl]
  simp [a76, exI_loop', gcE, gcL, upto, reach, idsAt, closed, inL, sub, envIds, pos, cut, IntKind.wrap, IntKind.bits, IntKind.signed, runsV, runsOf, runsC, HOp.ev, appSrc, maxRoom, stillA, hcall]
set_option maxHeartbeats 4000000 in
theorem r76_1 (a : Int) (ha : 0 < a) : fnI pr np 76 [.agg [.int .i64 a, .int .i64 0, .int .i64 0, .int .i64 0]] [] = some (runsV [a, 0, 0, 0]) := by
  have ha0 : ¬ a = 0 := by omega
  have ha1 : ¬ 0 = a := by omega
  have hcall := callA_pure (c87 a 0 0 0) (by simp) (by simp)
  simp only [pos1, ha,  if_true, if_false, Int.lt_irrefl, Int.add_zero, Int.zero_add, show (1 : Int) + 1 = 2 from rfl, show (2 : Int) + 1 = 3 from rfl, show (3 : Int) + 1 = 4 from rfl] at hcall
  rw [fb (fn := a76) rfl rfl]
  simp [a76, exI_loop', gcE, gcL, upto, reach, idsAt, closed, inL, sub, envIds, pos, cut, IntKind.wrap, IntKind.bits, IntKind.signed, runsV, runsOf, runsC, HOp.ev, appSrc, maxRoom, stillA, hcall, ha, ha0, ha1]
set_option maxHeartbeats 4000000 in
theorem r76_2 (a b : Int) (ha : 0 < a) (hb : 0 < b) : fnI pr np 76 [.agg [.int .i64 a, .int .i64 b, .int .i64 0, .int .i64 0]] [] = some (runsV [a, b, 0, 0]) := by
  have ha0 : ¬ a = 0 := by omega
  have ha1 : ¬ 0 = a := by omega
  have hb0 : ¬ b = 0 := by omega
  have hb1 : ¬ 0 = b := by omega
  have hcall := callA_pure (c87 a b 0 0) (by simp) (by simp)
  simp only [pos1, ha, hb,  if_true, if_false, Int.lt_irrefl, Int.add_zero, Int.zero_add, show (1 : Int) + 1 = 2 from rfl, show (2 : Int) + 1 = 3 from rfl, show (3 : Int) + 1 = 4 from rfl] at hcall
  rw [fb (fn := a76) rfl rfl]
  by_cases e0 : a = b
  · subst e0
    simp [a76, exI_loop', gcE, gcL, upto, reach, idsAt, closed, inL, sub, envIds, pos, cut, IntKind.wrap, IntKind.bits, IntKind.signed, runsV, runsOf, runsC, HOp.ev, appSrc, maxRoom, stillA, hcall, ha, ha0, ha1, hb, hb0, hb1]
  · have e0' : ¬ b = a := fun e => e0 e.symm
    simp [a76, exI_loop', gcE, gcL, upto, reach, idsAt, closed, inL, sub, envIds, pos, cut, IntKind.wrap, IntKind.bits, IntKind.signed, runsV, runsOf, runsC, HOp.ev, appSrc, maxRoom, stillA, hcall, ha, ha0, ha1, hb, hb0, hb1, e0, e0']
set_option maxHeartbeats 4000000 in
theorem r76_3 (a b c : Int) (ha : 0 < a) (hb : 0 < b) (hc : 0 < c) : fnI pr np 76 [.agg [.int .i64 a, .int .i64 b, .int .i64 c, .int .i64 0]] [] = some (runsV [a, b, c, 0]) := by
  have ha0 : ¬ a = 0 := by omega
  have ha1 : ¬ 0 = a := by omega
  have hb0 : ¬ b = 0 := by omega
  have hb1 : ¬ 0 = b := by omega
  have hc0 : ¬ c = 0 := by omega
  have hc1 : ¬ 0 = c := by omega
  have hcall := callA_pure (c87 a b c 0) (by simp) (by simp)
  simp only [pos1, ha, hb, hc,  if_true, if_false, Int.lt_irrefl, Int.add_zero, Int.zero_add, show (1 : Int) + 1 = 2 from rfl, show (2 : Int) + 1 = 3 from rfl, show (3 : Int) + 1 = 4 from rfl] at hcall
  rw [fb (fn := a76) rfl rfl]
  by_cases e0 : a = b
  · subst e0
    by_cases e1 : a = c
    · subst e1
      simp [a76, exI_loop', gcE, gcL, upto, reach, idsAt, closed, inL, sub, envIds, pos, cut, IntKind.wrap, IntKind.bits, IntKind.signed, runsV, runsOf, runsC, HOp.ev, appSrc, maxRoom, stillA, hcall, ha, ha0, ha1, hb, hb0, hb1, hc, hc0, hc1]
    · have e1' : ¬ c = a := fun e => e1 e.symm
      simp [a76, exI_loop', gcE, gcL, upto, reach, idsAt, closed, inL, sub, envIds, pos, cut, IntKind.wrap, IntKind.bits, IntKind.signed, runsV, runsOf, runsC, HOp.ev, appSrc, maxRoom, stillA, hcall, ha, ha0, ha1, hb, hb0, hb1, hc, hc0, hc1, e1, e1']
  · have e0' : ¬ b = a := fun e => e0 e.symm
    by_cases e1 : b = c
    · subst e1
      simp [a76, exI_loop', gcE, gcL, upto, reach, idsAt, closed, inL, sub, envIds, pos, cut, IntKind.wrap, IntKind.bits, IntKind.signed, runsV, runsOf, runsC, HOp.ev, appSrc, maxRoom, stillA, hcall, ha, ha0, ha1, hb, hb0, hb1, hc, hc0, hc1, e0, e0']
    · have e1' : ¬ c = b := fun e => e1 e.symm
      simp [a76, exI_loop', gcE, gcL, upto, reach, idsAt, closed, inL, sub, envIds, pos, cut, IntKind.wrap, IntKind.bits, IntKind.signed, runsV, runsOf, runsC, HOp.ev, appSrc, maxRoom, stillA, hcall, ha, ha0, ha1, hb, hb0, hb1, hc, hc0, hc1, e0, e0', e1, e1']
set_option maxHeartbeats 4000000 in
theorem r76_4 (a b c d : Int) (ha : 0 < a) (hb : 0 < b) (hc : 0 < c) (hd : 0 < d) : fnI pr np 76 [.agg [.int .i64 a, .int .i64 b, .int .i64 c, .int .i64 d]] [] = some (runsV [a, b, c, d]) := by
  have ha0 : ¬ a = 0 := by omega
  have ha1 : ¬ 0 = a := by omega
  have hb0 : ¬ b = 0 := by omega
  have hb1 : ¬ 0 = b := by omega
  have hc0 : ¬ c = 0 := by omega
  have hc1 : ¬ 0 = c := by omega
  have hd0 : ¬ d = 0 := by omega
  have hd1 : ¬ 0 = d := by omega
  have hcall := callA_pure (c87 a b c d) (by simp) (by simp)
  simp only [pos1, ha, hb, hc, hd,  if_true, if_false, Int.lt_irrefl, Int.add_zero, Int.zero_add, show (1 : Int) + 1 = 2 from rfl, show (2 : Int) + 1 = 3 from rfl, show (3 : Int) + 1 = 4 from rfl] at hcall
  rw [fb (fn := a76) rfl rfl]
  by_cases e0 : a = b
  · subst e0
    by_cases e1 : a = c
    · subst e1
      by_cases e2 : a = d
      · subst e2
        simp [a76, exI_loop', gcE, gcL, upto, reach, idsAt, closed, inL, sub, envIds, pos, cut, IntKind.wrap, IntKind.bits, IntKind.signed, runsV, runsOf, runsC, HOp.ev, appSrc, maxRoom, stillA, hcall, ha, ha0, ha1, hb, hb0, hb1, hc, hc0, hc1, hd, hd0, hd1]
      · have e2' : ¬ d = a := fun e => e2 e.symm
        simp [a76, exI_loop', gcE, gcL, upto, reach, idsAt, closed, inL, sub, envIds, pos, cut, IntKind.wrap, IntKind.bits, IntKind.signed, runsV, runsOf, runsC, HOp.ev, appSrc, maxRoom, stillA, hcall, ha, ha0, ha1, hb, hb0, hb1, hc, hc0, hc1, hd, hd0, hd1, e2, e2']
    · have e1' : ¬ c = a := fun e => e1 e.symm
      by_cases e2 : c = d
      · subst e2
        simp [a76, exI_loop', gcE, gcL, upto, reach, idsAt, closed, inL, sub, envIds, pos, cut, IntKind.wrap, IntKind.bits, IntKind.signed, runsV, runsOf, runsC, HOp.ev, appSrc, maxRoom, stillA, hcall, ha, ha0, ha1, hb, hb0, hb1, hc, hc0, hc1, hd, hd0, hd1, e1, e1']
      · have e2' : ¬ d = c := fun e => e2 e.symm
        simp [a76, exI_loop', gcE, gcL, upto, reach, idsAt, closed, inL, sub, envIds, pos, cut, IntKind.wrap, IntKind.bits, IntKind.signed, runsV, runsOf, runsC, HOp.ev, appSrc, maxRoom, stillA, hcall, ha, ha0, ha1, hb, hb0, hb1, hc, hc0, hc1, hd, hd0, hd1, e1, e1', e2, e2']
  · have e0' : ¬ b = a := fun e => e0 e.symm
    by_cases e1 : b = c
    · subst e1
      by_cases e2 : b = d
      · subst e2
        simp [a76, exI_loop', gcE, gcL, upto, reach, idsAt, closed, inL, sub, envIds, pos, cut, IntKind.wrap, IntKind.bits, IntKind.signed, runsV, runsOf, runsC, HOp.ev, appSrc, maxRoom, stillA, hcall, ha, ha0, ha1, hb, hb0, hb1, hc, hc0, hc1, hd, hd0, hd1, e0, e0']
      · have e2' : ¬ d = b := fun e => e2 e.symm
        simp [a76, exI_loop', gcE, gcL, upto, reach, idsAt, closed, inL, sub, envIds, pos, cut, IntKind.wrap, IntKind.bits, IntKind.signed, runsV, runsOf, runsC, HOp.ev, appSrc, maxRoom, stillA, hcall, ha, ha0, ha1, hb, hb0, hb1, hc, hc0, hc1, hd, hd0, hd1, e0, e0', e2, e2']
    · have e1' : ¬ c = b := fun e => e1 e.symm
      by_cases e2 : c = d
      · subst e2
        simp [a76, exI_loop', gcE, gcL, upto, reach, idsAt, closed, inL, sub, envIds, pos, cut, IntKind.wrap, IntKind.bits, IntKind.signed, runsV, runsOf, runsC, HOp.ev, appSrc, maxRoom, stillA, hcall, ha, ha0, ha1, hb, hb0, hb1, hc, hc0, hc1, hd, hd0, hd1, e0, e0', e1, e1']
      · have e2' : ¬ d = c := fun e => e2 e.symm
        simp [a76, exI_loop', gcE, gcL, upto, reach, idsAt, closed, inL, sub, envIds, pos, cut, IntKind.wrap, IntKind.bits, IntKind.signed, runsV, runsOf, runsC, HOp.ev, appSrc, maxRoom, stillA, hcall, ha, ha0, ha1, hb, hb0, hb1, hc, hc0, hc1, hd, hd0, hd1, e0, e0', e1, e1', e2, e2']
end Go.Proofs.Ytenheijeahpbkaa.AM
