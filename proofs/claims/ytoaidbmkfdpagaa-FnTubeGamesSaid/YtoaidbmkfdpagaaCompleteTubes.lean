import Derived.Test.YtoaidbmkfdpagaaBaseB
namespace Go.Proofs.Ytoaidbmkfdpagaa.AM
open Go
set_option maxRecDepth 1000000
set_option linter.unusedSimpArgs false
set_option linter.unusedVariables false
def fulls (r : List Int) : List Int := if okRack r then fullsFrom r 0 6 else []
def fullsV (r : List Int) : V × Heap := (.tup [.c (.sl 0 0 (fulls r).length 1), .c (.bool (okRack r))], [.cells ((fulls r).map (C.int .i64)) true])
theorem c_spec_CompleteTubes (r : List Int) (hr : r.length = 24) : fnI pr np 58 [.agg (r.map (C.int .i64))] [] = some (fullsV r) := by
  have h24 : (r.map (C.int .i64)).take 24 = r.map (C.int .i64) := List.take_of_length_le (by simp; omega)
  have h38 := c_spec_l2Rack r hr
  rw [show (!anyFrom (rowBad r) 0 6) = okRack r from rfl] at h38
  have hc := callA_pure h38 (by simp) (by simp)
  unfold fullsV fulls
  cases hq : okRack r with
  | true =>
    rw [hq] at hc
    have hv : rackP r = true := (rack_eq r hr).trans hq
    have hc50 := callA_new (c_spec_l10Complete r hr hv) (by simp)
    rw [fb (fn := a58) rfl rfl]
    simp [a58, hr, h24, hc, hc50, back, cut, gcL, upto, reach, idsAt, closed, inL, sub, pos]
  | false =>
    rw [hq] at hc
    rw [fb (fn := a58) rfl rfl]
    simp [a58, hr, h24, hc, cut, gcL, upto, reach, idsAt, closed, inL, sub, pos]
theorem c_impl_CompleteTubes (r : List Int) (hr : r.length = 24) : fnI pr np 57 [.agg (r.map (C.int .i64))] [] = some (fullsV r) := by
  have h24 : (r.map (C.int .i64)).take 24 = r.map (C.int .i64) := List.take_of_length_le (by simp; omega)
  have h36 := c_impl_IsRack r hr
  rw [rack_eq r hr, show (!anyFrom (rowBad r) 0 6) = okRack r from rfl] at h36
  have hc := callA_pure h36 (by simp) (by simp)
  unfold fullsV fulls
  cases hq : okRack r with
  | true =>
    rw [hq] at hc
    have hv : rackP r = true := (rack_eq r hr).trans hq
    have hc51 := callA_new (c_impl_complete r hr hv) (by simp)
    rw [fb (fn := a57) rfl rfl]
    simp [a57, hr, h24, hc, hc51, back, cut, gcL, upto, reach, idsAt, closed, inL, sub, pos]
  | false =>
    rw [hq] at hc
    rw [fb (fn := a57) rfl rfl]
    simp [a57, hr, h24, hc, cut, gcL, upto, reach, idsAt, closed, inL, sub, pos]
end Go.Proofs.Ytoaidbmkfdpagaa.AM
