import Derived.Test.YtafphbegpjjolaaDrawR
/- Contracts: places and colors are drawn. -/
namespace Go.Proofs.Ytafphbegpjjolaa.AM
open Go
set_option maxRecDepth 1000000
set_option linter.unusedSimpArgs false
set_option linter.unusedVariables false
theorem poursL_len36 (r : List Int) : (poursL r).length ≤ 36 := poursTo_len r 36
theorem flatC_take2 (l : List (Nat × Nat)) {k : Nat} (h : k < l.length) : ((flatC l).drop (k * 2)).take 2 = [C.int .i64 (l[k]'h).1, C.int .i64 (l[k]'h).2] := by
  have := flatC_get l [] k h
  rwa [List.append_nil] at this
end Go.Proofs.Ytafphbegpjjolaa.AM
