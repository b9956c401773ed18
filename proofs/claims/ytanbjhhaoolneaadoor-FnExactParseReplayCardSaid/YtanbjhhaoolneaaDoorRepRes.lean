import Derived.Test.YtanbjhhaoolneaaDoorLoopsL
/- Contracts: what the laws ask of a replay that comes back. -/
namespace Go.Proofs.YtanbjhhaoolneaaDoor.AM
open Go
set_option maxRecDepth 1000000
set_option linter.unusedSimpArgs false
set_option linter.unusedVariables false
theorem c_laws_heldReplay (r : List Int) (hr : r.length = 24) (n : Nat) (hn : n < 1000000) : fnI pr np 8 [repV r 0 n, .c (.int .i64 1)] [.cells (markC (n * 2)) true] = some (.c (.int .i64 (mk1 (n * 2))), [.cells (markC (n * 2)) true]) := by
  have t2 := repC_drop hr (C.sl 0 0 n 2)
  have h0 := c_laws_heldIntA2S n [] rfl hn
  simp only [List.append_nil] at h0
  have hc := call_slW (rest := [.c (.int .i64 1)]) rfl (by simp [markC_ids]) (by simp [markC_ids]) h0
  have hp := mk1_pos (n * 2)
  rw [fb (fn := a8) rfl rfl rfl]
  simp [a8, repV, hr, t2, hc, hp, markC_ids, markC_cmp, sub]
/-- a replay and whether it is one, the pours in block 1 -/
def backV (rr : List Int) (m : List (Int × Int)) (q : Bool) : V := .tup [.agg (rr.map (C.int .i64) ++ [C.sl 1 0 m.length 2]), .c (.bool q)]
end Go.Proofs.YtanbjhhaoolneaaDoor.AM
