import Derived.Test.YtenheijeahpbkaaT21
namespace Go.Proofs.Ytenheijeahpbkaa.AM
open Go
set_option maxRecDepth 1000000
set_option linter.unusedSimpArgs false
set_option linter.unusedVariables false
theorem c26 (l : List Int) (hn : l.length < 1000000) : fnI pr np 26 [.c (.sl 0 0 l.length 1), .c (.sl 1 0 l.length 1)] [.cells (l.map (C.int .i64)) true, .cells (l.map (C.int .i64)) true] = some (.c (.bool true), [.cells (l.map (C.int .i64)) true, .cells (l.map (C.int .i64)) true]) := by
  rw [fb (fn := a26) rfl rfl]
  simp [a26]
  generalize hL : (ACode.loop _ _) = L
  generalize hR : (ACode.seq _ ACode.ret) = R
  have key : ∀ (d i : Nat), i + d = l.length → leaveK 2 [RV.t 4] (seqK pr np 2 R (blockK 0 (exI pr np 2 L [(0, V.c (C.sl 0 0 l.length 1)), (1, V.c (C.sl 1 0 l.length 1)), (5, V.c (C.int .i64 i))] [.cells (l.map (C.int .i64)) true, .cells (l.map (C.int .i64)) true]))) = some (.c (.bool true), [.cells (l.map (C.int .i64)) true, .cells (l.map (C.int .i64)) true]) := by
    intro d
    induction d with
    | zero =>
      intro i hi
      have hi : i = l.length := by omega
      subst hi
      rw [← hL, exI_loop', gcE_old' (by simp) (by simp) (by simp [wfH])]
      simp [← hR, cut_old', wfH]
    | succ d ih =>
      intro i hin
      have hi : i < l.length := by omega
      have hi1 : i + 1 ≤ l.length := by omega
      have hx := take1 (c := l) (j := i) hi
      have hw : IntKind.i64.wrap ((i : Int) + 1) = ((i + 1 : Nat) : Int) := by rw [wrapI (by omega) (by omega)]; rfl
      have ih := ih (i + 1) (by omega)
      rw [← hL, exI_loop', gcE_old' (by simp) (by simp) (by simp [wfH])]
      simp [hi, hi1, hx, hw]
      rw [hL]
      exact ih
  exact key l.length 0 (by omega)
end Go.Proofs.Ytenheijeahpbkaa.AM
