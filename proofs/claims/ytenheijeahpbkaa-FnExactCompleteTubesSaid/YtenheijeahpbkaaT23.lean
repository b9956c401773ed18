import Derived.Test.YtenheijeahpbkaaT22
namespace Go.Proofs.Ytenheijeahpbkaa.AM
open Go
set_option maxRecDepth 1000000
set_option linter.unusedSimpArgs false
set_option linter.unusedVariables false
def marks (n : Nat) : List Int := (List.range n).map fun i => ((i + 1 : Nat) : Int)
theorem c27 (l : List Int) (hl : l.length ≤ 6) : fnI pr np 27 [.c (.sl 0 0 l.length 1), .c (.int .i64 1)] [.cells (l.map (C.int .i64)) true] = some (.c (.int .i64 ((l.length + 1 : Nat) : Int)), [.cells ((marks l.length).map (C.int .i64)) true]) := by
  match l, hl with
  | [], _ => exact (fnI_iff pr np).2 ⟨20, by kernel_rfl⟩
  | [x0], _ => exact (fnI_iff pr np).2 ⟨20, by kernel_rfl⟩
  | [x0, x1], _ => exact (fnI_iff pr np).2 ⟨20, by kernel_rfl⟩
  | [x0, x1, x2], _ => exact (fnI_iff pr np).2 ⟨20, by kernel_rfl⟩
  | [x0, x1, x2, x3], _ => exact (fnI_iff pr np).2 ⟨20, by kernel_rfl⟩
  | [x0, x1, x2, x3, x4], _ => exact (fnI_iff pr np).2 ⟨20, by kernel_rfl⟩
  | [x0, x1, x2, x3, x4, x5], _ => exact (fnI_iff pr np).2 ⟨20, by kernel_rfl⟩
  | x0 :: x1 :: x2 :: x3 :: x4 :: x5 :: x6 :: r, h => simp at h
theorem c28 (n : Nat) (hn : n ≤ 6) : fnI pr np 28 [.c (.sl 0 0 n 1), .c (.int .i64 1)] [.cells ((marks n).map (C.int .i64)) true] = some (.c (.int .i64 ((n + 1 : Nat) : Int)), [.cells ((marks n).map (C.int .i64)) true]) := by
  match n, hn with
  | 0, _ => exact (fnI_iff pr np).2 ⟨20, by kernel_rfl⟩
  | 1, _ => exact (fnI_iff pr np).2 ⟨20, by kernel_rfl⟩
  | 2, _ => exact (fnI_iff pr np).2 ⟨20, by kernel_rfl⟩
  | 3, _ => exact (fnI_iff pr np).2 ⟨20, by kernel_rfl⟩
  | 4, _ => exact (fnI_iff pr np).2 ⟨20, by kernel_rfl⟩
  | 5, _ => exact (fnI_iff pr np).2 ⟨20, by kernel_rfl⟩
  | 6, _ => exact (fnI_iff pr np).2 ⟨20, by kernel_rfl⟩
end Go.Proofs.Ytenheijeahpbkaa.AM
