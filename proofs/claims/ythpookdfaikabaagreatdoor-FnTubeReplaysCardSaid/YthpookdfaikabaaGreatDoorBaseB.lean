import Derived.Test.YthpookdfaikabaaGreatDoorBaseA
namespace Go.Proofs.YthpookdfaikabaaGreatDoor.AM
open Go
set_option maxRecDepth 1000000
set_option linter.unusedSimpArgs false
set_option linter.unusedVariables false
/-- the runs of a tube: colors and how many -/
def runsOf : List Int → List (Int × Int)
  | [] => []
  | x :: r => if x = 0 then [] else match runsOf r with
    | [] => [(x, 1)]
    | (y, n) :: l => if x = y then (y, n + 1) :: l else (x, 1) :: (y, n) :: l
def runsC (t : List Int) : List C := (runsOf t).flatMap fun p => [C.int .i64 p.1, C.int .i64 p.2]
def runsV (t : List Int) : V × Heap := (.c (.sl 0 0 (runsOf t).length 2), [.cells (runsC t) true])
def pos1 (a : Int) : Int := if 0 < a then 1 else 0
theorem c_spec_l2Many (a b c d : Int) : fnI pr np 73 [.agg [.int .i64 a, .int .i64 b, .int .i64 c, .int .i64 d]] [] = some (.c (.int .i64 (pos1 a + pos1 b + pos1 c + pos1 d)), []) := by
  rw [fb (fn := a73) rfl rfl rfl]
  by_cases ha : 0 < a <;> by_cases hb : 0 < b <;> by_cases hc : 0 < c <;> by_cases hd : 0 < d <;> simp [a73, exI_loop', gcE_one, envIds, pos, IntKind.wrap, IntKind.bits, IntKind.signed, ha, hb, hc, hd, pos1]

set_option maxHeartbeats 4000000 in
theorem r_spec_l2Runs_0   : fnI pr np 123 [.agg [.int .i64 0, .int .i64 0, .int .i64 0, .int .i64 0]] [] = some (runsV [0, 0, 0, 0]) := by
  have hcall := callA_pure (c_spec_l2Many 0 0 0 0) (by simp) (by simp)
  simp only [pos1,  if_true, if_false, Int.lt_irrefl, Int.add_zero, Int.zero_add, show (1 : Int) + 1 = 2 from rfl, show (2 : Int) + 1 = 3 from rfl, show (3 : Int) + 1 = 4 from rfl] at hcall
  rw [fb (fn := a123) rfl rfl rfl]
  simp [a123, exI_loop', gcE, gcL, upto, reach, idsAt, closed, inL, sub, envIds, pos, cut, IntKind.wrap, IntKind.bits, IntKind.signed, runsV, runsOf, runsC, HOp.ev, appSrc, maxRoom, stillA, hcall]
set_option maxHeartbeats 4000000 in
theorem r_spec_l2Runs_1 (a : Int) (ha : 0 < a) : fnI pr np 123 [.agg [.int .i64 a, .int .i64 0, .int .i64 0, .int .i64 0]] [] = some (runsV [a, 0, 0, 0]) := by
  have ha0 : ¬ a = 0 := by omega
  have ha1 : ¬ 0 = a := by omega
  have hcall := callA_pure (c_spec_l2Many a 0 0 0) (by simp) (by simp)
  simp only [pos1, ha,  if_true, if_false, Int.lt_irrefl, Int.add_zero, Int.zero_add, show (1 : Int) + 1 = 2 from rfl, show (2 : Int) + 1 = 3 from rfl, show (3 : Int) + 1 = 4 from rfl] at hcall
  rw [fb (fn := a123) rfl rfl rfl]
  simp [a123, exI_loop', gcE, gcL, upto, reach, idsAt, closed, inL, sub, envIds, pos, cut, IntKind.wrap, IntKind.bits, IntKind.signed, runsV, runsOf, runsC, HOp.ev, appSrc, maxRoom, stillA, hcall, ha, ha0, ha1]
set_option maxHeartbeats 4000000 in
theorem r_spec_l2Runs_2 (a b : Int) (ha : 0 < a) (hb : 0 < b) : fnI pr np 123 [.agg [.int .i64 a, .int .i64 b, .int .i64 0, .int .i64 0]] [] = some (runsV [a, b, 0, 0]) := by
  have ha0 : ¬ a = 0 := by omega
  have ha1 : ¬ 0 = a := by omega
  have hb0 : ¬ b = 0 := by omega
  have hb1 : ¬ 0 = b := by omega
  have hcall := callA_pure (c_spec_l2Many a b 0 0) (by simp) (by simp)
  simp only [pos1, ha, hb,  if_true, if_false, Int.lt_irrefl, Int.add_zero, Int.zero_add, show (1 : Int) + 1 = 2 from rfl, show (2 : Int) + 1 = 3 from rfl, show (3 : Int) + 1 = 4 from rfl] at hcall
  rw [fb (fn := a123) rfl rfl rfl]
  by_cases e0 : a = b
  · subst e0
    simp [a123, exI_loop', gcE, gcL, upto, reach, idsAt, closed, inL, sub, envIds, pos, cut, IntKind.wrap, IntKind.bits, IntKind.signed, runsV, runsOf, runsC, HOp.ev, appSrc, maxRoom, stillA, hcall, ha, ha0, ha1, hb, hb0, hb1]
  · have e0' : ¬ b = a := fun e => e0 e.symm
    simp [a123, exI_loop', gcE, gcL, upto, reach, idsAt, closed, inL, sub, envIds, pos, cut, IntKind.wrap, IntKind.bits, IntKind.signed, runsV, runsOf, runsC, HOp.ev, appSrc, maxRoom, stillA, hcall, ha, ha0, ha1, hb, hb0, hb1, e0, e0']
set_option maxHeartbeats 4000000 in
theorem r_spec_l2Runs_3 (a b c : Int) (ha : 0 < a) (hb : 0 < b) (hc : 0 < c) : fnI pr np 123 [.agg [.int .i64 a, .int .i64 b, .int .i64 c, .int .i64 0]] [] = some (runsV [a, b, c, 0]) := by
  have ha0 : ¬ a = 0 := by omega
  have ha1 : ¬ 0 = a := by omega
  have hb0 : ¬ b = 0 := by omega
  have hb1 : ¬ 0 = b := by omega
  have hc0 : ¬ c = 0 := by omega
  have hc1 : ¬ 0 = c := by omega
  have hcall := callA_pure (c_spec_l2Many a b c 0) (by simp) (by simp)
  simp only [pos1, ha, hb, hc,  if_true, if_false, Int.lt_irrefl, Int.add_zero, Int.zero_add, show (1 : Int) + 1 = 2 from rfl, show (2 : Int) + 1 = 3 from rfl, show (3 : Int) + 1 = 4 from rfl] at hcall
  rw [fb (fn := a123) rfl rfl rfl]
  by_cases e0 : a = b
  · subst e0
    by_cases e1 : a = c
    · subst e1
      simp [a123, exI_loop', gcE, gcL, upto, reach, idsAt, closed, inL, sub, envIds, pos, cut, IntKind.wrap, IntKind.bits, IntKind.signed, runsV, runsOf, runsC, HOp.ev, appSrc, maxRoom, stillA, hcall, ha, ha0, ha1, hb, hb0, hb1, hc, hc0, hc1]
    · have e1' : ¬ c = a := fun e => e1 e.symm
      simp [a123, exI_loop', gcE, gcL, upto, reach, idsAt, closed, inL, sub, envIds, pos, cut, IntKind.wrap, IntKind.bits, IntKind.signed, runsV, runsOf, runsC, HOp.ev, appSrc, maxRoom, stillA, hcall, ha, ha0, ha1, hb, hb0, hb1, hc, hc0, hc1, e1, e1']
  · have e0' : ¬ b = a := fun e => e0 e.symm
    by_cases e1 : b = c
    · subst e1
      simp [a123, exI_loop', gcE, gcL, upto, reach, idsAt, closed, inL, sub, envIds, pos, cut, IntKind.wrap, IntKind.bits, IntKind.signed, runsV, runsOf, runsC, HOp.ev, appSrc, maxRoom, stillA, hcall, ha, ha0, ha1, hb, hb0, hb1, hc, hc0, hc1, e0, e0']
    · have e1' : ¬ c = b := fun e => e1 e.symm
      simp [a123, exI_loop', gcE, gcL, upto, reach, idsAt, closed, inL, sub, envIds, pos, cut, IntKind.wrap, IntKind.bits, IntKind.signed, runsV, runsOf, runsC, HOp.ev, appSrc, maxRoom, stillA, hcall, ha, ha0, ha1, hb, hb0, hb1, hc, hc0, hc1, e0, e0', e1, e1']
set_option maxHeartbeats 4000000 in
theorem r_spec_l2Runs_4 (a b c d : Int) (ha : 0 < a) (hb : 0 < b) (hc : 0 < c) (hd : 0 < d) : fnI pr np 123 [.agg [.int .i64 a, .int .i64 b, .int .i64 c, .int .i64 d]] [] = some (runsV [a, b, c, d]) := by
  have ha0 : ¬ a = 0 := by omega
  have ha1 : ¬ 0 = a := by omega
  have hb0 : ¬ b = 0 := by omega
  have hb1 : ¬ 0 = b := by omega
  have hc0 : ¬ c = 0 := by omega
  have hc1 : ¬ 0 = c := by omega
  have hd0 : ¬ d = 0 := by omega
  have hd1 : ¬ 0 = d := by omega
  have hcall := callA_pure (c_spec_l2Many a b c d) (by simp) (by simp)
  simp only [pos1, ha, hb, hc, hd,  if_true, if_false, Int.lt_irrefl, Int.add_zero, Int.zero_add, show (1 : Int) + 1 = 2 from rfl, show (2 : Int) + 1 = 3 from rfl, show (3 : Int) + 1 = 4 from rfl] at hcall
  rw [fb (fn := a123) rfl rfl rfl]
  by_cases e0 : a = b
  · subst e0
    by_cases e1 : a = c
    · subst e1
      by_cases e2 : a = d
      · subst e2
        simp [a123, exI_loop', gcE, gcL, upto, reach, idsAt, closed, inL, sub, envIds, pos, cut, IntKind.wrap, IntKind.bits, IntKind.signed, runsV, runsOf, runsC, HOp.ev, appSrc, maxRoom, stillA, hcall, ha, ha0, ha1, hb, hb0, hb1, hc, hc0, hc1, hd, hd0, hd1]
      · have e2' : ¬ d = a := fun e => e2 e.symm
        simp [a123, exI_loop', gcE, gcL, upto, reach, idsAt, closed, inL, sub, envIds, pos, cut, IntKind.wrap, IntKind.bits, IntKind.signed, runsV, runsOf, runsC, HOp.ev, appSrc, maxRoom, stillA, hcall, ha, ha0, ha1, hb, hb0, hb1, hc, hc0, hc1, hd, hd0, hd1, e2, e2']
    · have e1' : ¬ c = a := fun e => e1 e.symm
      by_cases e2 : c = d
      · subst e2
        simp [a123, exI_loop', gcE, gcL, upto, reach, idsAt, closed, inL, sub, envIds, pos, cut, IntKind.wrap, IntKind.bits, IntKind.signed, runsV, runsOf, runsC, HOp.ev, appSrc, maxRoom, stillA, hcall, ha, ha0, ha1, hb, hb0, hb1, hc, hc0, hc1, hd, hd0, hd1, e1, e1']
      · have e2' : ¬ d = c := fun e => e2 e.symm
        simp [a123, exI_loop', gcE, gcL, upto, reach, idsAt, closed, inL, sub, envIds, pos, cut, IntKind.wrap, IntKind.bits, IntKind.signed, runsV, runsOf, runsC, HOp.ev, appSrc, maxRoom, stillA, hcall, ha, ha0, ha1, hb, hb0, hb1, hc, hc0, hc1, hd, hd0, hd1, e1, e1', e2, e2']
  · have e0' : ¬ b = a := fun e => e0 e.symm
    by_cases e1 : b = c
    · subst e1
      by_cases e2 : b = d
      · subst e2
        simp [a123, exI_loop', gcE, gcL, upto, reach, idsAt, closed, inL, sub, envIds, pos, cut, IntKind.wrap, IntKind.bits, IntKind.signed, runsV, runsOf, runsC, HOp.ev, appSrc, maxRoom, stillA, hcall, ha, ha0, ha1, hb, hb0, hb1, hc, hc0, hc1, hd, hd0, hd1, e0, e0']
      · have e2' : ¬ d = b := fun e => e2 e.symm
        simp [a123, exI_loop', gcE, gcL, upto, reach, idsAt, closed, inL, sub, envIds, pos, cut, IntKind.wrap, IntKind.bits, IntKind.signed, runsV, runsOf, runsC, HOp.ev, appSrc, maxRoom, stillA, hcall, ha, ha0, ha1, hb, hb0, hb1, hc, hc0, hc1, hd, hd0, hd1, e0, e0', e2, e2']
    · have e1' : ¬ c = b := fun e => e1 e.symm
      by_cases e2 : c = d
      · subst e2
        simp [a123, exI_loop', gcE, gcL, upto, reach, idsAt, closed, inL, sub, envIds, pos, cut, IntKind.wrap, IntKind.bits, IntKind.signed, runsV, runsOf, runsC, HOp.ev, appSrc, maxRoom, stillA, hcall, ha, ha0, ha1, hb, hb0, hb1, hc, hc0, hc1, hd, hd0, hd1, e0, e0', e1, e1']
      · have e2' : ¬ d = c := fun e => e2 e.symm
        simp [a123, exI_loop', gcE, gcL, upto, reach, idsAt, closed, inL, sub, envIds, pos, cut, IntKind.wrap, IntKind.bits, IntKind.signed, runsV, runsOf, runsC, HOp.ev, appSrc, maxRoom, stillA, hcall, ha, ha0, ha1, hb, hb0, hb1, hc, hc0, hc1, hd, hd0, hd1, e0, e0', e1, e1', e2, e2']
end Go.Proofs.YthpookdfaikabaaGreatDoor.AM

namespace Go.Proofs.YthpookdfaikabaaGreatDoor.AM
open Go
set_option maxRecDepth 1000000
set_option linter.unusedSimpArgs false
set_option linter.unusedVariables false
set_option maxHeartbeats 4000000 in
theorem r_impl_runs_0   : fnI pr np 96 [.agg [.int .i64 0, .int .i64 0, .int .i64 0, .int .i64 0]] [] = some (runsV [0, 0, 0, 0]) := by
  have hcall := callA_pure (c_impl_layers [0, 0, 0, 0] rfl) (by simp) (by simp)
  have hl : lay [0, 0, 0, 0] = 0 := by simp [lay, firstNot]
  rw [hl] at hcall
  simp only [List.map_cons, List.map_nil] at hcall
  rw [fb (fn := a96) rfl rfl rfl]
  simp [a96, exI_loop', gcE, gcL, upto, reach, idsAt, closed, inL, sub, envIds, pos, cut, IntKind.wrap, IntKind.bits, IntKind.signed, runsV, runsOf, runsC, HOp.ev, appSrc, maxRoom, stillA, hcall]
set_option maxHeartbeats 4000000 in
theorem r_impl_runs_1 (a : Int) (ha : 0 < a) : fnI pr np 96 [.agg [.int .i64 a, .int .i64 0, .int .i64 0, .int .i64 0]] [] = some (runsV [a, 0, 0, 0]) := by
  have ha0 : ¬ a = 0 := by omega
  have ha1 : ¬ 0 = a := by omega
  have hcall := callA_pure (c_impl_layers [a, 0, 0, 0] rfl) (by simp) (by simp)
  have hl : lay [a, 0, 0, 0] = 1 := by simp [lay, firstNot, ha0, ha1]
  rw [hl] at hcall
  simp only [List.map_cons, List.map_nil] at hcall
  rw [fb (fn := a96) rfl rfl rfl]
  simp [a96, exI_loop', gcE, gcL, upto, reach, idsAt, closed, inL, sub, envIds, pos, cut, IntKind.wrap, IntKind.bits, IntKind.signed, runsV, runsOf, runsC, HOp.ev, appSrc, maxRoom, stillA, hcall, ha, ha0, ha1]
set_option maxHeartbeats 4000000 in
theorem r_impl_runs_2 (a b : Int) (ha : 0 < a) (hb : 0 < b) : fnI pr np 96 [.agg [.int .i64 a, .int .i64 b, .int .i64 0, .int .i64 0]] [] = some (runsV [a, b, 0, 0]) := by
  have ha0 : ¬ a = 0 := by omega
  have ha1 : ¬ 0 = a := by omega
  have hb0 : ¬ b = 0 := by omega
  have hb1 : ¬ 0 = b := by omega
  have hcall := callA_pure (c_impl_layers [a, b, 0, 0] rfl) (by simp) (by simp)
  have hl : lay [a, b, 0, 0] = 2 := by simp [lay, firstNot, ha0, ha1, hb0, hb1]
  rw [hl] at hcall
  simp only [List.map_cons, List.map_nil] at hcall
  rw [fb (fn := a96) rfl rfl rfl]
  by_cases e0 : a = b
  · subst e0
    simp [a96, exI_loop', gcE, gcL, upto, reach, idsAt, closed, inL, sub, envIds, pos, cut, IntKind.wrap, IntKind.bits, IntKind.signed, runsV, runsOf, runsC, HOp.ev, appSrc, maxRoom, stillA, hcall, ha, ha0, ha1, hb, hb0, hb1]
  · have e0' : ¬ b = a := fun e => e0 e.symm
    simp [a96, exI_loop', gcE, gcL, upto, reach, idsAt, closed, inL, sub, envIds, pos, cut, IntKind.wrap, IntKind.bits, IntKind.signed, runsV, runsOf, runsC, HOp.ev, appSrc, maxRoom, stillA, hcall, ha, ha0, ha1, hb, hb0, hb1, e0, e0']
set_option maxHeartbeats 4000000 in
theorem r_impl_runs_3 (a b c : Int) (ha : 0 < a) (hb : 0 < b) (hc : 0 < c) : fnI pr np 96 [.agg [.int .i64 a, .int .i64 b, .int .i64 c, .int .i64 0]] [] = some (runsV [a, b, c, 0]) := by
  have ha0 : ¬ a = 0 := by omega
  have ha1 : ¬ 0 = a := by omega
  have hb0 : ¬ b = 0 := by omega
  have hb1 : ¬ 0 = b := by omega
  have hc0 : ¬ c = 0 := by omega
  have hc1 : ¬ 0 = c := by omega
  have hcall := callA_pure (c_impl_layers [a, b, c, 0] rfl) (by simp) (by simp)
  have hl : lay [a, b, c, 0] = 3 := by simp [lay, firstNot, ha0, ha1, hb0, hb1, hc0, hc1]
  rw [hl] at hcall
  simp only [List.map_cons, List.map_nil] at hcall
  rw [fb (fn := a96) rfl rfl rfl]
  by_cases e0 : a = b
  · subst e0
    by_cases e1 : a = c
    · subst e1
      simp [a96, exI_loop', gcE, gcL, upto, reach, idsAt, closed, inL, sub, envIds, pos, cut, IntKind.wrap, IntKind.bits, IntKind.signed, runsV, runsOf, runsC, HOp.ev, appSrc, maxRoom, stillA, hcall, ha, ha0, ha1, hb, hb0, hb1, hc, hc0, hc1]
    · have e1' : ¬ c = a := fun e => e1 e.symm
      simp [a96, exI_loop', gcE, gcL, upto, reach, idsAt, closed, inL, sub, envIds, pos, cut, IntKind.wrap, IntKind.bits, IntKind.signed, runsV, runsOf, runsC, HOp.ev, appSrc, maxRoom, stillA, hcall, ha, ha0, ha1, hb, hb0, hb1, hc, hc0, hc1, e1, e1']
  · have e0' : ¬ b = a := fun e => e0 e.symm
    by_cases e1 : b = c
    · subst e1
      simp [a96, exI_loop', gcE, gcL, upto, reach, idsAt, closed, inL, sub, envIds, pos, cut, IntKind.wrap, IntKind.bits, IntKind.signed, runsV, runsOf, runsC, HOp.ev, appSrc, maxRoom, stillA, hcall, ha, ha0, ha1, hb, hb0, hb1, hc, hc0, hc1, e0, e0']
    · have e1' : ¬ c = b := fun e => e1 e.symm
      simp [a96, exI_loop', gcE, gcL, upto, reach, idsAt, closed, inL, sub, envIds, pos, cut, IntKind.wrap, IntKind.bits, IntKind.signed, runsV, runsOf, runsC, HOp.ev, appSrc, maxRoom, stillA, hcall, ha, ha0, ha1, hb, hb0, hb1, hc, hc0, hc1, e0, e0', e1, e1']
set_option maxHeartbeats 4000000 in
theorem r_impl_runs_4 (a b c d : Int) (ha : 0 < a) (hb : 0 < b) (hc : 0 < c) (hd : 0 < d) : fnI pr np 96 [.agg [.int .i64 a, .int .i64 b, .int .i64 c, .int .i64 d]] [] = some (runsV [a, b, c, d]) := by
  have ha0 : ¬ a = 0 := by omega
  have ha1 : ¬ 0 = a := by omega
  have hb0 : ¬ b = 0 := by omega
  have hb1 : ¬ 0 = b := by omega
  have hc0 : ¬ c = 0 := by omega
  have hc1 : ¬ 0 = c := by omega
  have hd0 : ¬ d = 0 := by omega
  have hd1 : ¬ 0 = d := by omega
  have hcall := callA_pure (c_impl_layers [a, b, c, d] rfl) (by simp) (by simp)
  have hl : lay [a, b, c, d] = 4 := by simp [lay, firstNot, ha0, ha1, hb0, hb1, hc0, hc1, hd0, hd1]
  rw [hl] at hcall
  simp only [List.map_cons, List.map_nil] at hcall
  rw [fb (fn := a96) rfl rfl rfl]
  by_cases e0 : a = b
  · subst e0
    by_cases e1 : a = c
    · subst e1
      by_cases e2 : a = d
      · subst e2
        simp [a96, exI_loop', gcE, gcL, upto, reach, idsAt, closed, inL, sub, envIds, pos, cut, IntKind.wrap, IntKind.bits, IntKind.signed, runsV, runsOf, runsC, HOp.ev, appSrc, maxRoom, stillA, hcall, ha, ha0, ha1, hb, hb0, hb1, hc, hc0, hc1, hd, hd0, hd1]
      · have e2' : ¬ d = a := fun e => e2 e.symm
        simp [a96, exI_loop', gcE, gcL, upto, reach, idsAt, closed, inL, sub, envIds, pos, cut, IntKind.wrap, IntKind.bits, IntKind.signed, runsV, runsOf, runsC, HOp.ev, appSrc, maxRoom, stillA, hcall, ha, ha0, ha1, hb, hb0, hb1, hc, hc0, hc1, hd, hd0, hd1, e2, e2']
    · have e1' : ¬ c = a := fun e => e1 e.symm
      by_cases e2 : c = d
      · subst e2
        simp [a96, exI_loop', gcE, gcL, upto, reach, idsAt, closed, inL, sub, envIds, pos, cut, IntKind.wrap, IntKind.bits, IntKind.signed, runsV, runsOf, runsC, HOp.ev, appSrc, maxRoom, stillA, hcall, ha, ha0, ha1, hb, hb0, hb1, hc, hc0, hc1, hd, hd0, hd1, e1, e1']
      · have e2' : ¬ d = c := fun e => e2 e.symm
        simp [a96, exI_loop', gcE, gcL, upto, reach, idsAt, closed, inL, sub, envIds, pos, cut, IntKind.wrap, IntKind.bits, IntKind.signed, runsV, runsOf, runsC, HOp.ev, appSrc, maxRoom, stillA, hcall, ha, ha0, ha1, hb, hb0, hb1, hc, hc0, hc1, hd, hd0, hd1, e1, e1', e2, e2']
  · have e0' : ¬ b = a := fun e => e0 e.symm
    by_cases e1 : b = c
    · subst e1
      by_cases e2 : b = d
      · subst e2
        simp [a96, exI_loop', gcE, gcL, upto, reach, idsAt, closed, inL, sub, envIds, pos, cut, IntKind.wrap, IntKind.bits, IntKind.signed, runsV, runsOf, runsC, HOp.ev, appSrc, maxRoom, stillA, hcall, ha, ha0, ha1, hb, hb0, hb1, hc, hc0, hc1, hd, hd0, hd1, e0, e0']
      · have e2' : ¬ d = b := fun e => e2 e.symm
        simp [a96, exI_loop', gcE, gcL, upto, reach, idsAt, closed, inL, sub, envIds, pos, cut, IntKind.wrap, IntKind.bits, IntKind.signed, runsV, runsOf, runsC, HOp.ev, appSrc, maxRoom, stillA, hcall, ha, ha0, ha1, hb, hb0, hb1, hc, hc0, hc1, hd, hd0, hd1, e0, e0', e2, e2']
    · have e1' : ¬ c = b := fun e => e1 e.symm
      by_cases e2 : c = d
      · subst e2
        simp [a96, exI_loop', gcE, gcL, upto, reach, idsAt, closed, inL, sub, envIds, pos, cut, IntKind.wrap, IntKind.bits, IntKind.signed, runsV, runsOf, runsC, HOp.ev, appSrc, maxRoom, stillA, hcall, ha, ha0, ha1, hb, hb0, hb1, hc, hc0, hc1, hd, hd0, hd1, e0, e0', e1, e1']
      · have e2' : ¬ d = c := fun e => e2 e.symm
        simp [a96, exI_loop', gcE, gcL, upto, reach, idsAt, closed, inL, sub, envIds, pos, cut, IntKind.wrap, IntKind.bits, IntKind.signed, runsV, runsOf, runsC, HOp.ev, appSrc, maxRoom, stillA, hcall, ha, ha0, ha1, hb, hb0, hb1, hc, hc0, hc1, hd, hd0, hd1, e0, e0', e1, e1', e2, e2']
end Go.Proofs.YthpookdfaikabaaGreatDoor.AM

namespace Go.Proofs.YthpookdfaikabaaGreatDoor.AM
open Go
set_option maxRecDepth 1000000
set_option linter.unusedSimpArgs false
set_option linter.unusedVariables false
theorem runs_s (t : List Int) (ht : t.length = 4) (h : tubeP t = true) : fnI pr np 123 [.agg (t.map (C.int .i64))] [] = some (runsV t) := by
  obtain ⟨a, b, c, d, rfl⟩ := len4 ht
  rw [tube_eq] at h
  simp at h
  by_cases ha : 0 < a
  · by_cases hb : 0 < b
    · by_cases hc : 0 < c
      · by_cases hd : 0 < d
        · exact r_spec_l2Runs_4 a b c d ha hb hc hd
        · have : d = 0 := by omega
          subst this
          exact r_spec_l2Runs_3 a b c ha hb hc
      · have h1 : c = 0 := by omega
        have h2 : d = 0 := by omega
        subst h1; subst h2
        exact r_spec_l2Runs_2 a b ha hb
    · have h0 : b = 0 := by omega
      have h1 : c = 0 := by omega
      have h2 : d = 0 := by omega
      subst h0; subst h1; subst h2
      exact r_spec_l2Runs_1 a ha
  · have h3 : a = 0 := by omega
    have h0 : b = 0 := by omega
    have h1 : c = 0 := by omega
    have h2 : d = 0 := by omega
    subst h3; subst h0; subst h1; subst h2
    exact r_spec_l2Runs_0
theorem runs_i (t : List Int) (ht : t.length = 4) (h : tubeP t = true) : fnI pr np 96 [.agg (t.map (C.int .i64))] [] = some (runsV t) := by
  obtain ⟨a, b, c, d, rfl⟩ := len4 ht
  rw [tube_eq] at h
  simp at h
  by_cases ha : 0 < a
  · by_cases hb : 0 < b
    · by_cases hc : 0 < c
      · by_cases hd : 0 < d
        · exact r_impl_runs_4 a b c d ha hb hc hd
        · have : d = 0 := by omega
          subst this
          exact r_impl_runs_3 a b c ha hb hc
      · have h1 : c = 0 := by omega
        have h2 : d = 0 := by omega
        subst h1; subst h2
        exact r_impl_runs_2 a b ha hb
    · have h0 : b = 0 := by omega
      have h1 : c = 0 := by omega
      have h2 : d = 0 := by omega
      subst h0; subst h1; subst h2
      exact r_impl_runs_1 a ha
  · have h3 : a = 0 := by omega
    have h0 : b = 0 := by omega
    have h1 : c = 0 := by omega
    have h2 : d = 0 := by omega
    subst h3; subst h0; subst h1; subst h2
    exact r_impl_runs_0
theorem runsOf_len : ∀ t : List Int, (runsOf t).length ≤ t.length
  | [] => Nat.le_refl _
  | x :: r => by
    have := runsOf_len r
    unfold runsOf
    split
    · simp
    · split
      · simp
      · rename_i y n l hl
        rw [hl] at this
        split
        · simp at this ⊢; omega
        · simp at this ⊢; omega
def tubeAt (r : List Int) (i : Nat) : List Int := (r.drop (i * 4)).take 4
theorem tubeAt_len {r : List Int} (hr : r.length = 24) {i : Nat} (hi : i < 6) : (tubeAt r i).length = 4 := by
  unfold tubeAt; simp; omega
theorem tubesFrom_mem (r : List Int) : ∀ (d i j : Nat), i ≤ j → j < i + d → tubeAt r j ∈ tubesFrom r i d
  | 0, i, j, h1, h2 => by omega
  | d + 1, i, j, h1, h2 => by
    unfold tubesFrom
    by_cases hij : j = i
    · subst hij; exact List.mem_cons_self
    · exact List.mem_cons_of_mem _ (tubesFrom_mem r d (i + 1) j (by omega) (by omega))
theorem rackP_tube {r : List Int} (h : rackP r = true) {i : Nat} (hi : i < 6) : tubeP (tubeAt r i) = true :=
  List.all_eq_true.1 h _ (tubesFrom_mem r 6 0 i (Nat.zero_le _) (by omega))
/-- how many runs the tubes from i on have -/
def runsFrom (r : List Int) (i : Nat) : Nat → Nat
  | 0 => 0
  | d + 1 => (runsOf (tubeAt r i)).length + runsFrom r (i + 1) d
theorem c_spec_l6Runs (r : List Int) (hr : r.length = 24) (hv : rackP r = true) : fnI pr np 111 [.agg (r.map (C.int .i64))] [] = some (.c (.int .i64 (runsFrom r 0 6)), []) := by
  rw [fb (fn := a111) rfl rfl rfl]
  simp [a111, hr]
  generalize hL : (ACode.loop _ _) = L
  generalize hR : (ACode.seq _ ACode.ret) = R
  have key : ∀ (d i A : Nat) (g : Heap), i + d = 6 → A ≤ 4 * i → leaveK 0 [RV.t 2] (seqK pr np 0 R (blockK 0 (exI pr np 0 L [(1, V.c (C.ptr 0 0)), (3, V.c (C.int .i64 A)), (4, V.c (C.int .i64 i))] (Blk.cells (r.map (C.int .i64)) true :: g)))) = some (V.c (C.int .i64 ((A + runsFrom r i d : Nat) : Int)), []) := by
    intro d
    induction d with
    | zero =>
      intro i A g hi hA
      have hi : i = 6 := by omega
      subst hi
      rw [← hL, exI_loop', gcE_one (by simp) (by simp [envIds])]
      simp [runsFrom, ← hR, pos]
    | succ d ih =>
      intro i A g hin hA
      have hi : i < 6 := by omega
      have hi' : (i : Int) < 6 := by omega
      have ht4 := tubeAt_len hr hi
      have hlen : i * 4 + 4 ≤ 24 := by omega
      have hrl := runsOf_len (tubeAt r i)
      have hcall := callA_new (runs_s _ ht4 (rackP_tube hv hi)) (by simp)
      have hm : ((r.map (C.int .i64)).drop (i * 4)).take 4 = (tubeAt r i).map (C.int .i64) := by simp [tubeAt]
      have hw : IntKind.i64.wrap ((i : Int) + 1) = ((i + 1 : Nat) : Int) := by rw [wrapI (by omega) (by omega)]; rfl
      have hw2 : IntKind.i64.wrap ((A : Int) + ((runsOf (tubeAt r i)).length : Int)) = ((A + (runsOf (tubeAt r i)).length : Nat) : Int) := by rw [wrapI (by omega) (by omega)]; simp
      have ih := fun g => ih (i + 1) (A + (runsOf (tubeAt r i)).length) g (by omega) (by omega)
      rw [← hL, exI_loop', gcE_one (by simp) (by simp [envIds])]
      simp [pos, hi, hi', hr, hlen, hm, hcall, hw, hw2, runsV, back]
      rw [hL]
      refine (ih _).trans ?_
      simp [runsFrom, Nat.add_assoc]
  exact (key 6 0 0 [] rfl (by omega)).trans (by simp)
end Go.Proofs.YthpookdfaikabaaGreatDoor.AM

namespace Go.Proofs.YthpookdfaikabaaGreatDoor.AM
open Go
set_option maxRecDepth 1000000
set_option linter.unusedSimpArgs false
set_option linter.unusedVariables false
theorem tubeP_range {a b c d : Int} (h : tubeP [a, b, c, d] = true) : (0 ≤ a ∧ a ≤ 5) ∧ (0 ≤ b ∧ b ≤ 5) ∧ (0 ≤ c ∧ c ≤ 5) ∧ (0 ≤ d ∧ d ≤ 5) := by
  rw [tube_eq] at h
  simp at h
  omega
def bump (c : List Int) (x : Int) : List Int := c.set x.toNat (c.getD x.toNat 0 + 1)
def bumps (r : List Int) (c : List Int) (j : Nat) : Nat → List Int
  | 0 => c
  | d + 1 => bumps r (bump c (cellAt r j)) (j + 1) d
def small (c : List Int) (n : Int) : Prop := c.length = 6 ∧ ∀ x ∈ c, 0 ≤ x ∧ x ≤ n
theorem small_bump {c : List Int} {n x : Int} (h : small c n) : small (bump c x) (n + 1) := by
  refine ⟨by simp [bump, h.1], fun y hy => ?_⟩
  unfold bump at hy
  rcases List.mem_or_eq_of_mem_set hy with hy | rfl
  · have := h.2 y hy; omega
  · rw [List.getD_eq_getElem?_getD]
    by_cases hx : x.toNat < c.length
    · rw [List.getElem?_eq_getElem hx]
      have := h.2 _ (List.getElem_mem hx)
      simp only [Option.getD_some]; omega
    · rw [List.getElem?_eq_none (by omega)]
      have h0 : 0 ≤ n := by
        have h6 := h.1
        match c, h6 with
        | y :: _, _ => have := h.2 y (by simp); omega
      simp; omega
theorem bumps_add (r : List Int) : ∀ (a : Nat) (c : List Int) (j b : Nat), bumps r c j (a + b) = bumps r (bumps r c j a) (j + a) b
  | 0, c, j, b => by simp [bumps]
  | a + 1, c, j, b => by
    rw [show a + 1 + b = (a + b) + 1 by omega]
    simp only [bumps]
    rw [bumps_add r a, show j + 1 + a = j + (a + 1) by omega]
theorem small_bumps (r : List Int) : ∀ (d : Nat) (c : List Int) (j : Nat) (n : Int), small c n → small (bumps r c j d) (n + d)
  | 0, c, j, n, h => by simpa [bumps] using h
  | d + 1, c, j, n, h => by
    have := small_bumps r d (bump c (cellAt r j)) (j + 1) (n + 1) (small_bump h)
    simp only [bumps]
    rw [show n + ((d + 1 : Nat) : Int) = n + 1 + d by omega]
    exact this
theorem zeros6 : small [0, 0, 0, 0, 0, 0] 0 := ⟨rfl, by simp⟩
/-- the cells of a valid rack are colors or empty -/
theorem rack_cell {r : List Int} (hr : r.length = 24) (hv : rackP r = true) {i k : Nat} (hi : i < 6) (hk : k < 4) : 0 ≤ cellAt r (i * 4 + k) ∧ cellAt r (i * 4 + k) ≤ 5 := by
  have h := rackP_tube hv hi
  obtain ⟨a, b, c, d, ht⟩ := len4 (tubeAt_len hr hi)
  have hcell : (tubeAt r i)[k]? = some (cellAt r (i * 4 + k)) := by
    unfold tubeAt cellAt
    rw [List.getElem?_take, if_pos hk, List.getElem?_drop, List.getD_eq_getElem?_getD, List.getElem?_eq_getElem (show i * 4 + k < r.length by omega)]
    rfl
  rw [ht] at h hcell
  obtain ⟨h1, h2, h3, h4⟩ := tubeP_range h
  match k, hk with
  | 0, _ =>
    have : a = cellAt r (i * 4 + 0) := Option.some.inj hcell
    omega
  | 1, _ =>
    have : b = cellAt r (i * 4 + 1) := Option.some.inj hcell
    omega
  | 2, _ =>
    have : c = cellAt r (i * 4 + 2) := Option.some.inj hcell
    omega
  | 3, _ =>
    have : d = cellAt r (i * 4 + 3) := Option.some.inj hcell
    omega
theorem take1 {c : List Int} {j : Nat} (hj : j < c.length) : ((c.map (C.int .i64)).drop j).take 1 = [C.int .i64 (c.getD j 0)] := by
  rw [List.drop_eq_getElem_cons (by simp; omega)]
  simp [List.getD_eq_getElem?_getD, List.getElem?_eq_getElem hj]
theorem setAt_one (c : List Int) (j : Nat) (y : Int) : setAt (c.map (C.int .i64)) j [C.int .i64 y] = (c.set j y).map (C.int .i64) := by
  simp [setAt, List.map_set]
end Go.Proofs.YthpookdfaikabaaGreatDoor.AM

namespace Go.Proofs.YthpookdfaikabaaGreatDoor.AM
open Go
set_option maxRecDepth 1000000
set_option linter.unusedSimpArgs false
set_option linter.unusedVariables false
theorem tubeAt_cell {r : List Int} (hr : r.length = 24) {i k : Nat} (hi : i < 6) (hk : k < 4) : (tubeAt r i).getD k 0 = cellAt r (i * 4 + k) := by
  unfold tubeAt cellAt
  rw [List.getD_eq_getElem?_getD, List.getD_eq_getElem?_getD, List.getElem?_take, if_pos hk, List.getElem?_drop]
theorem c_impl_countColors (r : List Int) (hr : r.length = 24) (hv : rackP r = true) : fnI pr np 51 [.agg (r.map (C.int .i64))] [] = some (.agg ((bumps r [0, 0, 0, 0, 0, 0] 0 24).map (C.int .i64)), []) := by
  have hgc : ∀ (live : List Nat) (e : Env) (c : List Int) (g : Heap), envIds (restrict e live) = [0, 1] → gcE 0 live e (Blk.cells [C.int .i64 0, C.int .i64 0, C.int .i64 0, C.int .i64 0, C.int .i64 0, C.int .i64 0] true :: Blk.cells (c.map (C.int .i64)) true :: g) = some ((restrict e live).map (fun p => (p.1, p.2.mp (pos [0, 1]))), [Blk.cells [C.int .i64 0, C.int .i64 0, C.int .i64 0, C.int .i64 0, C.int .i64 0, C.int .i64 0] true, Blk.cells (c.map (C.int .i64)) true]) := by
    intro live e c g he
    rw [gcE_told (L := [0, 1]) (by rw [he]; simp [gcL, upto, reach, idsAt]) (by rw [he]; simp [closed, inL, idsAt])]
    simp [sub]
  have h24 : (r.map (C.int .i64)).take 24 = r.map (C.int .i64) := List.take_of_length_le (by simp; omega)
  rw [fb (fn := a51) rfl rfl rfl]
  simp [a51, hr, h24]
  generalize hL1 : (ACode.loop _ [2, 3, 9, 10]) = L1
  generalize hR : (ACode.seq _ ACode.ret) = R
  have key : ∀ (d i : Nat) (c : List Int) (e : Env) (h : Heap), i + d = 6 → small c (4 * i) → gcE 0 [2, 3, 9, 10] e h = some ([(2, V.c (C.ptr 0 0)), (3, V.c (C.ptr 1 0)), (9, V.agg (r.map (C.int .i64))), (10, V.c (C.int .i64 i))], [Blk.cells [C.int .i64 0, C.int .i64 0, C.int .i64 0, C.int .i64 0, C.int .i64 0, C.int .i64 0] true, Blk.cells (c.map (C.int .i64)) true]) → leaveK 0 [RV.cell 2 6 true] (seqK pr np 0 R (blockK 0 (exI pr np 0 L1 e h))) = some (V.agg ((bumps r c (i * 4) (d * 4)).map (C.int .i64)), []) := by
    intro d
    induction d with
    | zero =>
      intro i c e h hi hc hg
      have hi : i = 6 := by omega
      subst hi
      have hc6 : c.length = 6 := hc.1
      have ht6 : (c.map (C.int .i64)).take 6 = c.map (C.int .i64) := List.take_of_length_le (by simp; omega)
      have hsa : setAt [C.int .i64 0, C.int .i64 0, C.int .i64 0, C.int .i64 0, C.int .i64 0, C.int .i64 0] 0 (c.map (C.int .i64)) = c.map (C.int .i64) := setAt_all _ _ (by simp [hc6])
      rw [← hL1, exI_loop', hg]
      simp [bumps, ← hR, hc6, ht6, hsa]
    | succ d ih =>
      intro i c e h hin hc hg
      have hi : i < 6 := by omega
      have hi' : (i : Int) < 6 := by omega
      have hw : IntKind.i64.wrap ((i : Int) + 1) = ((i + 1 : Nat) : Int) := by rw [wrapI (by omega) (by omega)]; rfl
      have ht4 := tubeAt_len hr hi
      have hm : ((r.map (C.int .i64)).drop (i * 4)).take 4 = (tubeAt r i).map (C.int .i64) := by simp [tubeAt]
      have hsa : setAt [C.int .i64 0, C.int .i64 0, C.int .i64 0, C.int .i64 0] 0 ((tubeAt r i).map (C.int .i64)) = (tubeAt r i).map (C.int .i64) := setAt_all _ _ (by simp [ht4])
      have htt : ((tubeAt r i).map (C.int .i64)).take 4 = (tubeAt r i).map (C.int .i64) := List.take_of_length_le (by simp; omega)
      rw [← hL1, exI_loop', hg]
      simp [hi', hi, hr, hm, ht4, hsa, htt]
      generalize hL2 : (ACode.loop _ [2, 3, 9, 10, 13, 14]) = L2
      have key2 : ∀ (d k : Nat) (c : List Int) (g : Heap), k + d = 4 → small c (4 * i + k) → exI pr np 0 L2 [(2, V.c (C.ptr 0 0)), (3, V.c (C.ptr 1 0)), (9, V.agg (r.map (C.int .i64))), (10, V.c (C.int .i64 i)), (13, V.agg ((tubeAt r i).map (C.int .i64))), (14, V.c (C.int .i64 k))] (Blk.cells [C.int .i64 0, C.int .i64 0, C.int .i64 0, C.int .i64 0, C.int .i64 0, C.int .i64 0] true :: Blk.cells (c.map (C.int .i64)) true :: g) = some (.exit 2, [(2, V.c (C.ptr 0 0)), (3, V.c (C.ptr 1 0)), (9, V.agg (r.map (C.int .i64))), (10, V.c (C.int .i64 i)), (13, V.agg ((tubeAt r i).map (C.int .i64))), (14, V.c (C.int .i64 4)), (15, V.c (C.bool false))], [Blk.cells [C.int .i64 0, C.int .i64 0, C.int .i64 0, C.int .i64 0, C.int .i64 0, C.int .i64 0] true, Blk.cells ((bumps r c (i * 4 + k) d).map (C.int .i64)) true]) := by
        intro d
        induction d with
        | zero =>
          intro k c g hk hc
          have hk : k = 4 := by omega
          subst hk
          rw [← hL2, exI_loop', hgc _ _ _ _ (by simp [envIds])]
          simp [bumps, pos]
        | succ d ih2 =>
          intro k c g hk hc
          have hk4 : k < 4 := by omega
          have hk' : (k : Int) < 4 := by omega
          have hwk : IntKind.i64.wrap ((k : Int) + 1) = ((k + 1 : Nat) : Int) := by rw [wrapI (by omega) (by omega)]; rfl
          have hx := take1 (c := tubeAt r i) (j := k) (by omega)
          rw [tubeAt_cell hr hi hk4] at hx
          obtain ⟨hx0', hx5⟩ := rack_cell hr hv hi hk4
          have hx6' : cellAt r (i * 4 + k) < 6 := by omega
          generalize hxc : cellAt r (i * 4 + k) = x at hx hx0' hx6'
          have hcl : c.length = 6 := hc.1
          have hxn : x.toNat < 6 := by omega
          have hxn1 : x.toNat + 1 ≤ 6 := by omega
          have hy := take1 (c := c) (j := x.toNat) (by omega)
          have hyr : 0 ≤ c.getD x.toNat 0 ∧ c.getD x.toNat 0 ≤ 4 * i + k := by
            rw [List.getD_eq_getElem?_getD, List.getElem?_eq_getElem (by omega)]
            exact hc.2 _ (List.getElem_mem _)
          have hwy : IntKind.i64.wrap (c.getD x.toNat 0 + 1) = c.getD x.toNat 0 + 1 := wrapI (by omega) (by omega)
          have hset := setAt_one c x.toNat (c.getD x.toNat 0 + 1)
          have ih2 := fun g => ih2 (k + 1) (bump c x) g (by omega) (by have := small_bump (x := x) hc; rwa [show (4 * (i : Int) + ((k + 1 : Nat) : Int)) = 4 * i + k + 1 by omega])
          generalize hyv : c.getD x.toNat 0 = y at hy hwy hset
          have hbump : bump c x = c.set x.toNat (y + 1) := by unfold bump; rw [hyv]
          rw [← hL2, exI_loop', hgc _ _ _ _ (by simp [envIds])]
          simp [pos, hi', hk', hi, hk4, hr, hx, ht4, hx0', hx6', hcl, hxn, hxn1, hy, hwy, hwk, -setAt, hset]
          rw [hL2]
          refine (Eq.trans ?_ (ih2 [])).trans ?_
          · rw [hbump]; simp
          · simp [bumps, hxc, Nat.add_assoc]
      have k2 := fun g => key2 4 0 c g rfl (by simpa using hc)
      push_cast at k2
      simp only [k2]
      have ih := ih (i + 1) (bumps r c (i * 4) 4)
      simp [hw]
      rw [← hL2, hL1]
      refine (ih _ _ (by omega) (by have := small_bumps r 4 c (i * 4) _ hc; rwa [show (4 * ((i + 1 : Nat) : Int)) = 4 * i + ((4 : Nat) : Int) by omega]) ?_).trans ?_
      · rw [hgc _ _ _ _ (by simp [envIds])]
        simp [pos]
      · rw [show (d + 1) * 4 = 4 + d * 4 by omega, bumps_add, show i * 4 + 4 = (i + 1) * 4 by omega]
  refine (key 6 0 [0, 0, 0, 0, 0, 0] _ _ rfl (by simpa using zeros6) ?_).trans (by simp)
  rw [gcE_told (L := [1, 2]) (by simp [gcL, upto, reach, idsAt, envIds]) (by simp [closed, inL, idsAt, envIds])]
  simp [sub, pos]
end Go.Proofs.YthpookdfaikabaaGreatDoor.AM

namespace Go.Proofs.YthpookdfaikabaaGreatDoor.AM
open Go
set_option maxRecDepth 1000000
set_option linter.unusedSimpArgs false
set_option linter.unusedVariables false
/-- how many colors from k on are there -/
def colorsFrom (c : List Int) (k : Nat) : Nat → Nat
  | 0 => 0
  | d + 1 => (if 0 < c.getD k 0 then 1 else 0) + colorsFrom c (k + 1) d
theorem colorsFrom_le (c : List Int) : ∀ (d k : Nat), colorsFrom c k d ≤ d
  | 0, _ => Nat.le_refl _
  | d + 1, k => by
    have := colorsFrom_le c d (k + 1)
    unfold colorsFrom
    split <;> omega
theorem runsFrom_le {r : List Int} (hr : r.length = 24) : ∀ (d i : Nat), i + d ≤ 6 → runsFrom r i d ≤ 4 * d
  | 0, _, _ => Nat.le_refl _
  | d + 1, i, h => by
    have := runsFrom_le hr d (i + 1) (by omega)
    have h2 := runsOf_len (tubeAt r i)
    rw [tubeAt_len hr (by omega)] at h2
    unfold runsFrom
    omega
def cnts (r : List Int) : List Int := bumps r [0, 0, 0, 0, 0, 0] 0 24
theorem cnts_small (r : List Int) : small (cnts r) 24 := by
  have := small_bumps r 24 _ 0 0 zeros6
  unfold cnts
  simpa using this
def spare (r : List Int) : Int := (runsFrom r 0 6 : Int) - (colorsFrom (cnts r) 1 5 : Int)
/-- what both answer -/
def runsLeft (r : List Int) (m n : Int) : V := .tup [.c (.int .i64 (if okBar r m n then spare r else 0)), .c (.bool (okBar r m n))]
theorem okBar_rack {r : List Int} {m n : Int} (hr : r.length = 24) (h : okBar r m n = true) : rackP r = true := by
  rw [rack_eq r hr]
  unfold okBar at h
  simp only [Bool.and_eq_true] at h
  exact h.1.1
end Go.Proofs.YthpookdfaikabaaGreatDoor.AM

namespace Go.Proofs.YthpookdfaikabaaGreatDoor.AM
open Go
set_option maxRecDepth 1000000
set_option linter.unusedSimpArgs false
set_option linter.unusedVariables false
def topRun (c : Int) : List Int → Int
  | [] => 0
  | x :: r => if x = c then 1 + topRun c r else 0
def topOf : List Int → Int × Int
  | [a, b, c, d] => if 0 < d then (d, 1 + topRun d [c, b, a]) else if 0 < c then (c, 1 + topRun c [b, a]) else if 0 < b then (b, 1 + topRun b [a]) else if 0 < a then (a, 1) else (0, 0)
  | _ => (0, 0)
set_option maxHeartbeats 4000000 in
theorem t_spec_l2Top_0   : fnI pr np 72 [.agg [.int .i64 0, .int .i64 0, .int .i64 0, .int .i64 0]] [] = some (.tup [.c (.int .i64 (topOf [0, 0, 0, 0]).1), .c (.int .i64 (topOf [0, 0, 0, 0]).2)], []) := by
  have hcall := callA_pure (c_spec_l2Many 0 0 0 0) (by simp) (by simp)
  simp only [pos1,  if_true, if_false, Int.lt_irrefl, Int.add_zero, Int.zero_add, show (1 : Int) + 1 = 2 from rfl, show (2 : Int) + 1 = 3 from rfl, show (3 : Int) + 1 = 4 from rfl] at hcall
  rw [fb (fn := a72) rfl rfl rfl]
  simp [a72, exI_loop', gcE, gcL, upto, reach, idsAt, closed, inL, sub, envIds, pos, IntKind.wrap, IntKind.bits, IntKind.signed, stillA, topOf, topRun, hcall]
set_option maxHeartbeats 4000000 in
theorem t_spec_l2Top_1 (a : Int) (ha : 0 < a) : fnI pr np 72 [.agg [.int .i64 a, .int .i64 0, .int .i64 0, .int .i64 0]] [] = some (.tup [.c (.int .i64 (topOf [a, 0, 0, 0]).1), .c (.int .i64 (topOf [a, 0, 0, 0]).2)], []) := by
  have ha0 : ¬ a = 0 := by omega
  have ha1 : ¬ 0 = a := by omega
  have hcall := callA_pure (c_spec_l2Many a 0 0 0) (by simp) (by simp)
  simp only [pos1, ha,  if_true, if_false, Int.lt_irrefl, Int.add_zero, Int.zero_add, show (1 : Int) + 1 = 2 from rfl, show (2 : Int) + 1 = 3 from rfl, show (3 : Int) + 1 = 4 from rfl] at hcall
  rw [fb (fn := a72) rfl rfl rfl]
  simp [a72, exI_loop', gcE, gcL, upto, reach, idsAt, closed, inL, sub, envIds, pos, IntKind.wrap, IntKind.bits, IntKind.signed, stillA, topOf, topRun, hcall, ha, ha0, ha1]
set_option maxHeartbeats 4000000 in
theorem t_spec_l2Top_2 (a b : Int) (ha : 0 < a) (hb : 0 < b) : fnI pr np 72 [.agg [.int .i64 a, .int .i64 b, .int .i64 0, .int .i64 0]] [] = some (.tup [.c (.int .i64 (topOf [a, b, 0, 0]).1), .c (.int .i64 (topOf [a, b, 0, 0]).2)], []) := by
  have ha0 : ¬ a = 0 := by omega
  have ha1 : ¬ 0 = a := by omega
  have hb0 : ¬ b = 0 := by omega
  have hb1 : ¬ 0 = b := by omega
  have hcall := callA_pure (c_spec_l2Many a b 0 0) (by simp) (by simp)
  simp only [pos1, ha, hb,  if_true, if_false, Int.lt_irrefl, Int.add_zero, Int.zero_add, show (1 : Int) + 1 = 2 from rfl, show (2 : Int) + 1 = 3 from rfl, show (3 : Int) + 1 = 4 from rfl] at hcall
  rw [fb (fn := a72) rfl rfl rfl]
  by_cases e0 : b = a
  · subst e0
    simp [a72, exI_loop', gcE, gcL, upto, reach, idsAt, closed, inL, sub, envIds, pos, IntKind.wrap, IntKind.bits, IntKind.signed, stillA, topOf, topRun, hcall, ha, ha0, ha1, hb, hb0, hb1]
  · have e0' : ¬ a = b := fun e => e0 e.symm
    simp [a72, exI_loop', gcE, gcL, upto, reach, idsAt, closed, inL, sub, envIds, pos, IntKind.wrap, IntKind.bits, IntKind.signed, stillA, topOf, topRun, hcall, ha, ha0, ha1, hb, hb0, hb1, e0, e0']
set_option maxHeartbeats 4000000 in
theorem t_spec_l2Top_3 (a b c : Int) (ha : 0 < a) (hb : 0 < b) (hc : 0 < c) : fnI pr np 72 [.agg [.int .i64 a, .int .i64 b, .int .i64 c, .int .i64 0]] [] = some (.tup [.c (.int .i64 (topOf [a, b, c, 0]).1), .c (.int .i64 (topOf [a, b, c, 0]).2)], []) := by
  have ha0 : ¬ a = 0 := by omega
  have ha1 : ¬ 0 = a := by omega
  have hb0 : ¬ b = 0 := by omega
  have hb1 : ¬ 0 = b := by omega
  have hc0 : ¬ c = 0 := by omega
  have hc1 : ¬ 0 = c := by omega
  have hcall := callA_pure (c_spec_l2Many a b c 0) (by simp) (by simp)
  simp only [pos1, ha, hb, hc,  if_true, if_false, Int.lt_irrefl, Int.add_zero, Int.zero_add, show (1 : Int) + 1 = 2 from rfl, show (2 : Int) + 1 = 3 from rfl, show (3 : Int) + 1 = 4 from rfl] at hcall
  rw [fb (fn := a72) rfl rfl rfl]
  by_cases e1 : c = b
  · subst e1
    by_cases e0 : c = a
    · subst e0
      simp [a72, exI_loop', gcE, gcL, upto, reach, idsAt, closed, inL, sub, envIds, pos, IntKind.wrap, IntKind.bits, IntKind.signed, stillA, topOf, topRun, hcall, ha, ha0, ha1, hb, hb0, hb1, hc, hc0, hc1]
    · have e0' : ¬ a = c := fun e => e0 e.symm
      simp [a72, exI_loop', gcE, gcL, upto, reach, idsAt, closed, inL, sub, envIds, pos, IntKind.wrap, IntKind.bits, IntKind.signed, stillA, topOf, topRun, hcall, ha, ha0, ha1, hb, hb0, hb1, hc, hc0, hc1, e0, e0']
  · have e1' : ¬ b = c := fun e => e1 e.symm
    simp [a72, exI_loop', gcE, gcL, upto, reach, idsAt, closed, inL, sub, envIds, pos, IntKind.wrap, IntKind.bits, IntKind.signed, stillA, topOf, topRun, hcall, ha, ha0, ha1, hb, hb0, hb1, hc, hc0, hc1, e1, e1']
set_option maxHeartbeats 4000000 in
theorem t_spec_l2Top_4 (a b c d : Int) (ha : 0 < a) (hb : 0 < b) (hc : 0 < c) (hd : 0 < d) : fnI pr np 72 [.agg [.int .i64 a, .int .i64 b, .int .i64 c, .int .i64 d]] [] = some (.tup [.c (.int .i64 (topOf [a, b, c, d]).1), .c (.int .i64 (topOf [a, b, c, d]).2)], []) := by
  have ha0 : ¬ a = 0 := by omega
  have ha1 : ¬ 0 = a := by omega
  have hb0 : ¬ b = 0 := by omega
  have hb1 : ¬ 0 = b := by omega
  have hc0 : ¬ c = 0 := by omega
  have hc1 : ¬ 0 = c := by omega
  have hd0 : ¬ d = 0 := by omega
  have hd1 : ¬ 0 = d := by omega
  have hcall := callA_pure (c_spec_l2Many a b c d) (by simp) (by simp)
  simp only [pos1, ha, hb, hc, hd,  if_true, if_false, Int.lt_irrefl, Int.add_zero, Int.zero_add, show (1 : Int) + 1 = 2 from rfl, show (2 : Int) + 1 = 3 from rfl, show (3 : Int) + 1 = 4 from rfl] at hcall
  rw [fb (fn := a72) rfl rfl rfl]
  by_cases e2 : d = c
  · subst e2
    by_cases e1 : d = b
    · subst e1
      by_cases e0 : d = a
      · subst e0
        simp [a72, exI_loop', gcE, gcL, upto, reach, idsAt, closed, inL, sub, envIds, pos, IntKind.wrap, IntKind.bits, IntKind.signed, stillA, topOf, topRun, hcall, ha, ha0, ha1, hb, hb0, hb1, hc, hc0, hc1, hd, hd0, hd1]
      · have e0' : ¬ a = d := fun e => e0 e.symm
        simp [a72, exI_loop', gcE, gcL, upto, reach, idsAt, closed, inL, sub, envIds, pos, IntKind.wrap, IntKind.bits, IntKind.signed, stillA, topOf, topRun, hcall, ha, ha0, ha1, hb, hb0, hb1, hc, hc0, hc1, hd, hd0, hd1, e0, e0']
    · have e1' : ¬ b = d := fun e => e1 e.symm
      simp [a72, exI_loop', gcE, gcL, upto, reach, idsAt, closed, inL, sub, envIds, pos, IntKind.wrap, IntKind.bits, IntKind.signed, stillA, topOf, topRun, hcall, ha, ha0, ha1, hb, hb0, hb1, hc, hc0, hc1, hd, hd0, hd1, e1, e1']
  · have e2' : ¬ c = d := fun e => e2 e.symm
    simp [a72, exI_loop', gcE, gcL, upto, reach, idsAt, closed, inL, sub, envIds, pos, IntKind.wrap, IntKind.bits, IntKind.signed, stillA, topOf, topRun, hcall, ha, ha0, ha1, hb, hb0, hb1, hc, hc0, hc1, hd, hd0, hd1, e2, e2']
end Go.Proofs.YthpookdfaikabaaGreatDoor.AM

namespace Go.Proofs.YthpookdfaikabaaGreatDoor.AM
open Go
set_option maxRecDepth 1000000
set_option linter.unusedSimpArgs false
set_option linter.unusedVariables false
theorem top_all (t : List Int) (ht : t.length = 4) (h : tubeP t = true) : fnI pr np 72 [.agg (t.map (C.int .i64))] [] = some (.tup [.c (.int .i64 (topOf t).1), .c (.int .i64 (topOf t).2)], []) := by
  obtain ⟨a, b, c, d, rfl⟩ := len4 ht
  rw [tube_eq] at h
  simp at h
  by_cases ha : 0 < a
  · by_cases hb : 0 < b
    · by_cases hc : 0 < c
      · by_cases hd : 0 < d
        · exact t_spec_l2Top_4 a b c d ha hb hc hd
        · have : d = 0 := by omega
          subst this
          exact t_spec_l2Top_3 a b c ha hb hc
      · have h1 : c = 0 := by omega
        have h2 : d = 0 := by omega
        subst h1; subst h2
        exact t_spec_l2Top_2 a b ha hb
    · have h0 : b = 0 := by omega
      have h1 : c = 0 := by omega
      have h2 : d = 0 := by omega
      subst h0; subst h1; subst h2
      exact t_spec_l2Top_1 a ha
  · have h3 : a = 0 := by omega
    have h0 : b = 0 := by omega
    have h1 : c = 0 := by omega
    have h2 : d = 0 := by omega
    subst h3; subst h0; subst h1; subst h2
    exact t_spec_l2Top_0
def fullP (t : List Int) : Bool := decide (layN t = 4) && decide ((runsOf t).length = 1)
theorem full_eq (t : List Int) (ht : t.length = 4) (h : tubeP t = true) : decide ((topOf t).2 = 4) = fullP t := by
  obtain ⟨a, b, c, d, rfl⟩ := len4 ht
  rw [tube_eq] at h
  simp at h
  rw [Bool.eq_iff_iff]
  by_cases hd : 0 < d
  · have ha0 : ¬ a = 0 := by omega
    have hb0 : ¬ b = 0 := by omega
    have hc0 : ¬ c = 0 := by omega
    have hd0 : ¬ d = 0 := by omega
    by_cases e1 : d = c
    · subst e1
      by_cases e2 : d = b
      · subst e2
        by_cases e3 : d = a
        · subst e3; simp [fullP, layN, runsOf, topOf, topRun, hd, ha0]
        · have e3' : ¬ a = d := fun e => e3 e.symm
          simp [fullP, layN, runsOf, topOf, topRun, hd, ha0, hb0, e3, e3']
      · have e2' : ¬ b = d := fun e => e2 e.symm
        by_cases e3 : a = b
        · simp [fullP, layN, runsOf, topOf, topRun, hd, ha0, hb0, hc0, hd0, e2, e2', e3]
        · simp [fullP, layN, runsOf, topOf, topRun, hd, ha0, hb0, hc0, hd0, e2, e2', e3]
    · have e1' : ¬ c = d := fun e => e1 e.symm
      by_cases e2 : b = c <;> by_cases e3 : a = b <;> simp [fullP, layN, runsOf, topOf, topRun, hd, ha0, hb0, hc0, hd0, e1, e1', e2, e3] <;> (split <;> simp)
  · have hd0 : d = 0 := by omega
    subst hd0
    by_cases hc : 0 < c <;> by_cases hb : 0 < b <;> by_cases ha : 0 < a <;> simp [fullP, layN, topOf, topRun, hc, hb, ha] <;> (repeat' split) <;> first | omega | simp
end Go.Proofs.YthpookdfaikabaaGreatDoor.AM

namespace Go.Proofs.YthpookdfaikabaaGreatDoor.AM
open Go
set_option maxRecDepth 1000000
set_option linter.unusedSimpArgs false
set_option linter.unusedVariables false
/-- the complete tubes from i on -/
def fullsFrom (r : List Int) (i : Nat) : Nat → List Int
  | 0 => []
  | d + 1 => (if fullP (tubeAt r i) = true then [(i : Int)] else []) ++ fullsFrom r (i + 1) d
end Go.Proofs.YthpookdfaikabaaGreatDoor.AM

namespace Go.Proofs.YthpookdfaikabaaGreatDoor.AM
open Go
set_option maxRecDepth 1000000
set_option linter.unusedSimpArgs false
set_option linter.unusedVariables false
end Go.Proofs.YthpookdfaikabaaGreatDoor.AM

