import Derived.Test.YtoaidbmkfdpagaaLoopsL
/- Contracts: what the laws ask of a replay that comes back. -/
namespace Go.Proofs.Ytoaidbmkfdpagaa.AM
open Go
set_option maxRecDepth 1000000
set_option linter.unusedSimpArgs false
set_option linter.unusedVariables false
/-- a replay and whether it is one, the pours in block 1 -/
def backV (rr : List Int) (m : List (Int × Int)) (q : Bool) : V := .tup [.agg (rr.map (C.int .i64) ++ [C.sl 1 0 m.length 2]), .c (.bool q)]
end Go.Proofs.Ytoaidbmkfdpagaa.AM
