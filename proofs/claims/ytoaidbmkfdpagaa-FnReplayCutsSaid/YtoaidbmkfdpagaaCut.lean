import Derived.Test.YtoaidbmkfdpagaaRepMore
/- Contracts: replays with other pours: copies, parts, one more. -/
namespace Go.Proofs.Ytoaidbmkfdpagaa.AM
open Go
set_option maxRecDepth 1000000
set_option linter.unusedSimpArgs false
set_option linter.unusedVariables false
/-- the part of a replay up to n pours -/
theorem c_spec_l11Cut (r : List Int) (hr : r.length = 24) (l : List (Int × Int)) (hl : l.length ≤ 1048576) (n : Nat) (hn : n ≤ l.length) (o : Bool) : fnI pr np 124 [repV r 0 l.length, .c (.int .i64 n)] [.cells (cZ l) o] = some (repV r 1 n, [.cells (cZ l) o, .cells (cZ (l.take n)) true]) := by
  have t1 := repC_take hr (C.sl 0 0 l.length 2)
  have t2 := repC_drop hr (C.sl 0 0 l.length 2)
  have hroom : n ≤ 68719476736 := by omega
  have hnl : (n : Int) ≤ (l.length : Int) := by omega
  have hcut := cZ_takeN l n
  have b1 : n * 2 ≤ l.length * 2 := by omega
  rw [fb (fn := a124) rfl rfl]
  unfold repV
  simp [a124, hr, t1, t2, hroom, hn, hnl, hcut, b1, z25_eq, z25_set hr, z25_setAll hr, repC_set hr, repC_all hr, idOf, madeA, cids_app, cmp_app, sub]
/-! ### slices.Grow and slices.Concat -/
theorem c_grow_zero : fnI pr np 237 [.c .nsl, .c (.int .i64 0)] [] = some (.c .nsl, []) := (fnI_iff pr np).2 ⟨30, by kernel_rfl⟩
theorem c_grow_pos (n : Nat) (h0 : 0 < n) (hn : n ≤ 4194304) : fnI pr np 237 [.c .nsl, .c (.int .i64 n)] [] = some (.c (.sl 0 0 0 2), [.cells (List.replicate (n * 2) (C.int .i64 0)) true]) := by
  have h1 : ¬ (n : Int) < 0 := by omega
  have h2 : (0 : Int) < (n : Int) := by omega
  have w : IntKind.i64.wrap (n : Int) = (n : Int) := wrapI (by omega) (by omega)
  have wz : IntKind.i64.wrap 0 = 0 := by decide
  have hroom : (n : Int) ≤ 68719476736 := by omega
  rw [fb (fn := a237) rfl rfl]
  simp [a237, h0, h1, h2, w, wz, hroom, inst_two, cids_rep, cmp_rep, sub]
/-- one list: a copy of its part -/
theorem c_concat1 (l : List (Int × Int)) (k n : Nat) (hk : k + n ≤ l.length) (hl : l.length ≤ 1048576) (o : Bool) : fnI pr np 196 [.c (.sl 0 0 1 1)] [.cells [.sl 1 (k * 2) n 2] true, .cells (cZ l) o] = some (.c (.sl 2 0 n 2), [.cells [.sl 1 (k * 2) n 2] true, .cells (cZ l) o, .cells (cZ ((l.drop k).take n)) true]) := by
  have w : IntKind.i64.wrap (n : Int) = (n : Int) := wrapI (by omega) (by omega)
  have wz : IntKind.i64.wrap 0 = 0 := by decide
  have w1 : IntKind.i64.wrap 1 = 1 := by decide
  have hneg : ¬ (n : Int) < 0 := by omega
  have b1 : k * 2 + n * 2 ≤ l.length * 2 := by omega
  have hroom : n ≤ 68719476736 := by omega
  have hcut : ((cZ l).drop (k * 2)).take (n * 2) = cZ ((l.drop k).take n) := by rw [cZ_drop, cZ_takeN]
  rw [fb (fn := a196) rfl rfl]
  by_cases h0 : n = 0
  · subst h0
    have hg := callA_pure c_grow_zero (by simp) (by simp)
    have hk2 : k * 2 ≤ l.length * 2 := by omega
    simp [a196, exI_loop', wz, w1, hg, hk2, cZ_nil, sub]
  · have hg := callA_new (c_grow_pos n (by omega) (by omega)) (by simp)
    simp [a196, exI_loop', w, wz, w1, hneg, hg, b1, hroom, hcut, cids_rep, cmp_rep, sub]
/-- a replay with a part of pours: heap: the pours, the list of one slice -/
theorem c_impl_with1 (r : List Int) (hr : r.length = 24) (l : List (Int × Int)) (n0 k n : Nat) (hk : k + n ≤ l.length) (hl : l.length ≤ 1048576) (o : Bool) : fnI pr np 121 [repV r 0 n0, .c (.sl 1 0 1 1)] [.cells (cZ l) o, .cells [.sl 0 (k * 2) n 2] true] = some (repV r 2 n, [.cells (cZ l) o, .cells [.sl 0 (k * 2) n 2] true, .cells (cZ ((l.drop k).take n)) true]) := by
  have t1 := repC_take hr (C.sl 0 0 n0 2)
  have hc := fun (G : Heap) (base : Nat) => callA_gen (F := fnI pr np) (f := 196) (args := [.c (.sl 1 0 1 1)]) (H := lkp (.cells (cZ l) o :: .cells [.sl 0 (k * 2) n 2] true :: G)) (L := [1, 0]) (by simp) (by simp) (by simp [sub]) (by simp) (c_concat1 l k n hk hl o) (by simp) base
  rw [fb (fn := a121) rfl rfl]
  unfold repV
  simp [a121, hr, t1, hc, z25_eq, z25_set hr, z25_setAll hr, repC_set hr, repC_all hr, idOf, madeA, cids_app, cmp_app, sub]
end Go.Proofs.Ytoaidbmkfdpagaa.AM
