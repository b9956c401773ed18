import Derived.Test.YtenheijeahpbkaaT23
namespace Go.Proofs.Ytenheijeahpbkaa.AM
open Go
set_option maxRecDepth 1000000
set_option linter.unusedSimpArgs false
set_option linter.unusedVariables false
theorem fullsFrom_le (r : List Int) : ∀ (d i : Nat), (fullsFrom r i d).length ≤ d
  | 0, _ => Nat.le_refl _
  | d + 1, i => by
    have := fullsFrom_le r d (i + 1)
    unfold fullsFrom
    split <;> simp <;> omega
theorem c7 (r : List Int) (hr : r.length = 24) : fnI pr np 7 [.agg (r.map (C.int .i64))] [] = some (.c (.bool true), []) := by
  have h24 : (r.map (C.int .i64)).take 24 = r.map (C.int .i64) := List.take_of_length_le (by simp; omega)
  have hc14 := callA_pure (c14 r hr) (by simp) (by simp)
  have hc24 := callA_new (c24 r hr) (by simp)
  have hc25 := callA_new (c25 r hr) (by simp)
  have hl6 : (fulls r).length ≤ 6 := by unfold fulls; split; exact fullsFrom_le r 6 0; simp
  unfold fullsV at hc24 hc25
  generalize fulls r = l at hc24 hc25 hl6
  generalize okRack r = q at hc24 hc25
  have h26a := fun base => callA_gen (F := fnI pr np) (f := 26) (args := [.c (.sl 2 0 l.length 1), .c (.sl 1 0 l.length 1)]) (H := lkp [.cells (r.map (C.int .i64)) true, .cells (l.map (C.int .i64)) true, .cells (l.map (C.int .i64)) true]) (L := [2, 1]) (by simp [reach, idsAt]) (by simp [closed, inL, idsAt]) (by simp [sub]) (by simp [pos]) (c26 l (by omega)) (by simp) base
  have h27 := fun base => callA_gen (F := fnI pr np) (f := 27) (args := [.c (.sl 2 0 l.length 1), .c (.int .i64 1)]) (H := lkp [.cells (r.map (C.int .i64)) true, .cells (l.map (C.int .i64)) true, .cells (l.map (C.int .i64)) true]) (L := [2]) (by simp [reach, idsAt]) (by simp [closed, inL, idsAt]) (by simp [sub]) (by simp [pos]) (c27 l hl6) (by simp) base
  have h28a := fun base => callA_gen (F := fnI pr np) (f := 28) (args := [.c (.sl 2 0 l.length 1), .c (.int .i64 1)]) (H := lkp [.cells (r.map (C.int .i64)) true, .cells (l.map (C.int .i64)) true, .cells ((marks l.length).map (C.int .i64)) true]) (L := [2]) (by simp [reach, idsAt]) (by simp [closed, inL, idsAt]) (by simp [sub]) (by simp [pos]) (c28 l.length hl6) (by simp) base
  have h26b := fun base => callA_gen (F := fnI pr np) (f := 26) (args := [.c (.sl 3 0 l.length 1), .c (.sl 1 0 l.length 1)]) (H := lkp [.cells (r.map (C.int .i64)) true, .cells (l.map (C.int .i64)) true, .cells ((marks l.length).map (C.int .i64)) true, .cells (l.map (C.int .i64)) true]) (L := [3, 1]) (by simp [reach, idsAt]) (by simp [closed, inL, idsAt]) (by simp [sub]) (by simp [pos]) (c26 l (by omega)) (by simp) base
  have h28b := fun base => callA_gen (F := fnI pr np) (f := 28) (args := [.c (.sl 2 0 l.length 1), .c (.int .i64 1)]) (H := lkp [.cells (r.map (C.int .i64)) true, .cells (l.map (C.int .i64)) true, .cells ((marks l.length).map (C.int .i64)) true, .cells (l.map (C.int .i64)) true]) (L := [2]) (by simp [reach, idsAt]) (by simp [closed, inL, idsAt]) (by simp [sub]) (by simp [pos]) (c28 l.length hl6) (by simp) base
  have hp : ¬ ((l.length : Int) + 1 < 0) := by omega
  rw [fb (fn := a7) rfl rfl]
  simp [a7, hr, h24, hc14, hc24, hc25, h26a, h27, h28a, h26b, h28b, back, hp]
end Go.Proofs.Ytenheijeahpbkaa.AM
