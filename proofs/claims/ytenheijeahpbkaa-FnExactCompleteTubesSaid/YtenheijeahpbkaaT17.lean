import Derived.Test.YtenheijeahpbkaaT16
namespace Go.Proofs.Ytenheijeahpbkaa.AM
open Go
set_option maxRecDepth 1000000
set_option linter.unusedSimpArgs false
set_option linter.unusedVariables false
def topRun (c : Int) : List Int → Int
  | [] => 0
  | x :: r => if x = c then 1 + topRun c r else 0
def topOf : List Int → Int × Int
  | [a, b, c, d] => if 0 < d then (d, 1 + topRun d [c, b, a]) else if 0 < c then (c, 1 + topRun c [b, a]) else if 0 < b then (b, 1 + topRun b [a]) else if 0 < a then (a, 1) else (0, 0)
  | _ => (0, 0)
set_option maxHeartbeats 4000000 in
theorem t69_0   : fnI pr np 69 [.agg [.int .i64 0, .int .i64 0, .int .i64 0, .int .i64 0]] [] = some (.tup [.c (.int .i64 (topOf [0, 0, 0, 0]).1), .c (.int .i64 (topOf [0, 0, 0, 0]).2)], []) := by
  have hcall := callA_pure (c87 0 0 0 0) (by simp) (by simp)
  simp only [pos1,  if_true, if_false, Int.lt_irrefl, Int.add_zero, Int.zero_add, show (1 : Int) + 1 = 2 from rfl, show (2 : Int) + 1 = 3 from rfl, show (3 : Int) + 1 = 4 from rfl] at hcall
  rw [fb (fn := a69) rfl rfl]
  simp [a69, exI_loop', gcE, gcL, upto, reach, idsAt, closed, inL, sub, envIds, pos, IntKind.wrap, IntKind.bits, IntKind.signed, stillA, topOf, topRun, hcall]
set_option maxHeartbeats 4000000 in
theorem t69_1 (a : Int) (ha : 0 < a) : fnI pr np 69 [.agg [.int .i64 a, .int .i64 0, .int .i64 0, .int .i64 0]] [] = some (.tup [.c (.int .i64 (topOf [a, 0, 0, 0]).1), .c (.int .i64 (topOf [a, 0, 0, 0]).2)], []) := by
  have ha0 : ¬ a = 0 := by omega
  have ha1 : ¬ 0 = a := by omega
  have hcall := callA_pure (c87 a 0 0 0) (by simp) (by simp)
  simp only [pos1, ha,  if_true, if_false, Int.lt_irrefl, Int.add_zero, Int.zero_add, show (1 : Int) + 1 = 2 from rfl, show (2 : Int) + 1 = 3 from rfl, show (3 : Int) + 1 = 4 from rfl] at hcall
  rw [fb (fn := a69) rfl rfl]
  simp [a69, exI_loop', gcE, gcL, upto, reach, idsAt, closed, inL, sub, envIds, pos, IntKind.wrap, IntKind.bits, IntKind.signed, stillA, topOf, topRun, hcall, ha, ha0, ha1]
set_option maxHeartbeats 4000000 in
theorem t69_2 (a b : Int) (ha : 0 < a) (hb : 0 < b) : fnI pr np 69 [.agg [.int .i64 a, .int .i64 b, .int .i64 0, .int .i64 0]] [] = some (.tup [.c (.int .i64 (topOf [a, b, 0, 0]).1), .c (.int .i64 (topOf [a, b, 0, 0]).2)], []) := by
  have ha0 : ¬ a = 0 := by omega
  have ha1 : ¬ 0 = a := by omega
  have hb0 : ¬ b = 0 := by omega
  have hb1 : ¬ 0 = b := by omega
  have hcall := callA_pure (c87 a b 0 0) (by simp) (by simp)
  simp only [pos1, ha, hb,  if_true, if_false, Int.lt_irrefl, Int.add_zero, Int.zero_add, show (1 : Int) + 1 = 2 from rfl, show (2 : Int) + 1 = 3 from rfl, show (3 : Int) + 1 = 4 from rfl] at hcall
  rw [fb (fn := a69) rfl rfl]
  by_cases e0 : b = a
  · subst e0
    simp [a69, exI_loop', gcE, gcL, upto, reach, idsAt, closed, inL, sub, envIds, pos, IntKind.wrap, IntKind.bits, IntKind.signed, stillA, topOf, topRun, hcall, ha, ha0, ha1, hb, hb0, hb1]
  · have e0' : ¬ a = b := fun e => e0 e.symm
    simp [a69, exI_loop', gcE, gcL, upto, reach, idsAt, closed, inL, sub, envIds, pos, IntKind.wrap, IntKind.bits, IntKind.signed, stillA, topOf, topRun, hcall, ha, ha0, ha1, hb, hb0, hb1, e0, e0']
set_option maxHeartbeats 4000000 in
theorem t69_3 (a b c : Int) (ha : 0 < a) (hb : 0 < b) (hc : 0 < c) : fnI pr np 69 [.agg [.int .i64 a, .int .i64 b, .int .i64 c, .int .i64 0]] [] = some (.tup [.c (.int .i64 (topOf [a, b, c, 0]).1), .c (.int .i64 (topOf [a, b, c, 0]).2)], []) := by
  have ha0 : ¬ a = 0 := by omega
  have ha1 : ¬ 0 = a := by omega
  have hb0 : ¬ b = 0 := by omega
  have hb1 : ¬ 0 = b := by omega
  have hc0 : ¬ c = 0 := by omega
  have hc1 : ¬ 0 = c := by omega
  have hcall := callA_pure (c87 a b c 0) (by simp) (by simp)
  simp only [pos1, ha, hb, hc,  if_true, if_false, Int.lt_irrefl, Int.add_zero, Int.zero_add, show (1 : Int) + 1 = 2 from rfl, show (2 : Int) + 1 = 3 from rfl, show (3 : Int) + 1 = 4 from rfl] at hcall
  rw [fb (fn := a69) rfl rfl]
  by_cases e1 : c = b
  · subst e1
    by_cases e0 : c = a
    · subst e0
      simp [a69, exI_loop', gcE, gcL, upto, reach, idsAt, closed, inL, sub, envIds, pos, IntKind.wrap, IntKind.bits, IntKind.signed, stillA, topOf, topRun, hcall, ha, ha0, ha1, hb, hb0, hb1, hc, hc0, hc1]
    · have e0' : ¬ a = c := fun e => e0 e.symm
      simp [a69, exI_loop', gcE, gcL, upto, reach, idsAt, closed, inL, sub, envIds, pos, IntKind.wrap, IntKind.bits, IntKind.signed, stillA, topOf, topRun, hcall, ha, ha0, ha1, hb, hb0, hb1, hc, hc0, hc1, e0, e0']
  · have e1' : ¬ b = c := fun e => e1 e.symm
    simp [a69, exI_loop', gcE, gcL, upto, reach, idsAt, closed, inL, sub, envIds, pos, IntKind.wrap, IntKind.bits, IntKind.signed, stillA, topOf, topRun, hcall, ha, ha0, ha1, hb, hb0, hb1, hc, hc0, hc1, e1, e1']
set_option maxHeartbeats 4000000 in
theorem t69_4 (a b c d : Int) (ha : 0 < a) (hb : 0 < b) (hc : 0 < c) (hd : 0 < d) : fnI pr np 69 [.agg [.int .i64 a, .int .i64 b, .int .i64 c, .int .i64 d]] [] = some (.tup [.c (.int .i64 (topOf [a, b, c, d]).1), .c (.int .i64 (topOf [a, b, c, d]).2)], []) := by
  have ha0 : ¬ a = 0 := by omega
  have ha1 : ¬ 0 = a := by omega
  have hb0 : ¬ b = 0 := by omega
  have hb1 : ¬ 0 = b := by omega
  have hc0 : ¬ c = 0 := by omega
  have hc1 : ¬ 0 = c := by omega
  have hd0 : ¬ d = 0 := by omega
  have hd1 : ¬ 0 = d := by omega
  have hcall := callA_pure (c87 a b c d) (by simp) (by simp)
  simp only [pos1, ha, hb, hc, hd,  if_true, if_false, Int.lt_irrefl, Int.add_zero, Int.zero_add, show (1 : Int) + 1 = 2 from rfl, show (2 : Int) + 1 = 3 from rfl, show (3 : Int) + 1 = 4 from rfl] at hcall
  rw [fb (fn := a69) rfl rfl]
  by_cases e2 : d = c
  · subst e2
    by_cases e1 : d = b
    · subst e1
      by_cases e0 : d = a
      · subst e0
        simp [a69, exI_loop', gcE, gcL, upto, reach, idsAt, closed, inL, sub, envIds, pos, IntKind.wrap, IntKind.bits, IntKind.signed, stillA, topOf, topRun, hcall, ha, ha0, ha1, hb, hb0, hb1, hc, hc0, hc1, hd, hd0, hd1]
      · have e0' : ¬ a = d := fun e => e0 e.symm
        simp [a69, exI_loop', gcE, gcL, upto, reach, idsAt, closed, inL, sub, envIds, pos, IntKind.wrap, IntKind.bits, IntKind.signed, stillA, topOf, topRun, hcall, ha, ha0, ha1, hb, hb0, hb1, hc, hc0, hc1, hd, hd0, hd1, e0, e0']
    · have e1' : ¬ b = d := fun e => e1 e.symm
      simp [a69, exI_loop', gcE, gcL, upto, reach, idsAt, closed, inL, sub, envIds, pos, IntKind.wrap, IntKind.bits, IntKind.signed, stillA, topOf, topRun, hcall, ha, ha0, ha1, hb, hb0, hb1, hc, hc0, hc1, hd, hd0, hd1, e1, e1']
  · have e2' : ¬ c = d := fun e => e2 e.symm
    simp [a69, exI_loop', gcE, gcL, upto, reach, idsAt, closed, inL, sub, envIds, pos, IntKind.wrap, IntKind.bits, IntKind.signed, stillA, topOf, topRun, hcall, ha, ha0, ha1, hb, hb0, hb1, hc, hc0, hc1, hd, hd0, hd1, e2, e2']
end Go.Proofs.Ytenheijeahpbkaa.AM
