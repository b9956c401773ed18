import Derived.Test.YtoaidbmkfdpagaaUndo
/- Contracts: one pour more. -/
namespace Go.Proofs.Ytoaidbmkfdpagaa.AM
open Go
set_option maxRecDepth 1000000
set_option linter.unusedSimpArgs false
set_option linter.unusedVariables false
def adL (r : List Int) (l : List (Int × Int)) (p : Int × Int) : List (Int × Int) := if adB r l p = true then l ++ [p] else []
def adR (r : List Int) (l : List (Int × Int)) (p : Int × Int) : List Int := if adB r l p = true then r else List.replicate 24 0
theorem adR_len {r : List Int} (hr : r.length = 24) (l : List (Int × Int)) (p : Int × Int) : (adR r l p).length = 24 := by
  unfold adR; split
  · exact hr
  · simp
theorem adL_len (r : List Int) (l : List (Int × Int)) (p : Int × Int) : (adL r l p).length ≤ 60 := by
  unfold adL adB
  split
  · rename_i h
    simp only [Bool.and_eq_true, decide_eq_true_eq] at h
    simp; omega
  · simp
/-- two lists of pours in blocks of their own, put together -/
theorem c_concat2 (l l2 : List (Int × Int)) (hl : l.length ≤ 1048576) (hl2 : l2.length ≤ 1048576) (h0 : 0 < l2.length) (o o2 : Bool) : fnI pr np 196 [.c (.sl 0 0 2 1)] [.cells [.sl 1 0 l.length 2, .sl 2 0 l2.length 2] true, .cells (cZ l) o, .cells (cZ l2) o2] = some (.c (.sl 3 0 (l.length + l2.length) 2), [.cells [.sl 1 0 l.length 2, .sl 2 0 l2.length 2] true, .cells (cZ l) o, .cells (cZ l2) o2, .cells (cZ (l ++ l2)) true]) := by
  have w1 : IntKind.i64.wrap (1 : Int) = 1 := by decide
  have w2 : IntKind.i64.wrap (2 : Int) = 2 := by decide
  have wn : IntKind.i64.wrap (l.length : Int) = (l.length : Int) := wrapI (by omega) (by omega)
  have ws : IntKind.i64.wrap ((l.length : Int) + (l2.length : Int)) = ((l.length + l2.length : Nat) : Int) := wrapI (by omega) (by omega)
  have hneg : ¬ (l.length : Int) < 0 := by omega
  have hneg2 : ¬ ((l.length + l2.length : Nat) : Int) < 0 := by omega
  have hroom : l.length ≤ 68719476736 := by omega
  have hroom2 : l.length + l2.length ≤ 68719476736 := by omega
  have k1 := cZ_take l
  have k2 := cZ_take l2
  have hg := callA_new (c_grow_pos (l.length + l2.length) (by omega) (by omega)) (by simp)
  rw [fb (fn := a196) rfl rfl]
  simp [a196, exI_loop', w1, w2, wn, ws, hneg, hneg2, hroom, hroom2, k1, k2, hg, cZ_app, cids_rep, cmp_rep, -Int.natCast_add, sub]
theorem c_impl_with2 (r : List Int) (hr : r.length = 24) (l l2 : List (Int × Int)) (n0 : Nat) (hl : l.length ≤ 1048576) (hl2 : l2.length ≤ 1048576) (h0 : 0 < l2.length) (o o2 : Bool) : fnI pr np 121 [repV r 0 n0, .c (.sl 1 0 2 1)] [.cells (cZ l) o, .cells [.sl 0 0 l.length 2, .sl 2 0 l2.length 2] true, .cells (cZ l2) o2] = some (repV r 3 (l.length + l2.length), [.cells (cZ l) o, .cells [.sl 0 0 l.length 2, .sl 2 0 l2.length 2] true, .cells (cZ l2) o2, .cells (cZ (l ++ l2)) true]) := by
  have t1 := repC_take hr (C.sl 0 0 n0 2)
  have hc := fun (G : Heap) (base : Nat) => callA_gen (F := fnI pr np) (f := 196) (args := [.c (.sl 1 0 2 1)]) (H := lkp (.cells (cZ l) o :: .cells [.sl 0 0 l.length 2, .sl 2 0 l2.length 2] true :: .cells (cZ l2) o2 :: G)) (L := [1, 0, 2]) (by simp) (by simp) (by simp [sub]) (by simp) (c_concat2 l l2 hl hl2 h0 o o2) (by simp) base
  rw [fb (fn := a121) rfl rfl]
  unfold repV
  simp [a121, hr, t1, hc, z25_eq, z25_set hr, z25_setAll hr, repC_set hr, repC_all hr, idOf, madeA, cids_app, cmp_app, sub]
theorem call_with2 {r : List Int} (hr : r.length = 24) {l l2 : List (Int × Int)} {n0 n n2 : Nat} (hnl : n = l.length) (hn2 : n2 = l2.length) (hl : l.length ≤ 1048576) (hl2 : l2.length ≤ 1048576) (h0 : 0 < l2.length) (o o2 : Bool) (j i k : Nat) (H : HF) (base : Nat) (hji : (j != i) = true) (hjk : (j != k) = true) (hik : (i != k) = true) (hj : (H j == some (Blk.cells (cZ l) o)) = true) (hi : (H i == some (Blk.cells [.sl j 0 n 2, .sl k 0 n2 2] true)) = true) (hk : (H k == some (Blk.cells (cZ l2) o2)) = true) :
    callA (fnI pr np) 121 [.agg (r.map (C.int .i64) ++ [C.sl j 0 n0 2]), .c (.sl i 0 2 1)] H base = some (.agg (r.map (C.int .i64) ++ [C.sl base 0 (n + n2) 2]), [.cells (cZ (l ++ l2)) true], [(j, .cells (cZ l) o), (i, .cells [.sl j 0 n 2, .sl k 0 n2 2] true), (k, .cells (cZ l2) o2)]) := by
  subst hnl; subst hn2
  have hj : H j = some (Blk.cells (cZ l) o) := by simpa using hj
  have hi : H i = some (Blk.cells [.sl j 0 l.length 2, .sl k 0 l2.length 2] true) := by simpa using hi
  have hk : H k = some (Blk.cells (cZ l2) o2) := by simpa using hk
  have hji : j ≠ i := by simpa using hji
  have hjk : j ≠ k := by simpa using hjk
  have hik : i ≠ k := by simpa using hik
  have hij : ¬ i = j := fun e => hji e.symm
  have hkj : ¬ k = j := fun e => hjk e.symm
  have hki : ¬ k = i := fun e => hik e.symm
  have h := callA_gen (F := fnI pr np) (f := 121) (args := [.agg (r.map (C.int .i64) ++ [C.sl j 0 n0 2]), .c (.sl i 0 2 1)]) (H := H) (L := [j, i, k]) (by simp [reach, idsAt, hj, hi, hk, hji, hij, hkj, hki, cids_app]) (by simp [closed, hj, hi, hk, idsAt, inL, cids_app]) (show sub [j, i, k] H = [.cells (cZ l) o, .cells [.sl 0 0 l.length 2, .sl 2 0 l2.length 2] true, .cells (cZ l2) o2] by simp [sub, hj, hi, hk, pos, hji, hjk, hik, hij, hkj, hki]) (show _ = [repV r 0 n0, .c (.sl 1 0 2 1)] by simp [pos, repV, hji, cmp_app]) (c_impl_with2 r hr l l2 n0 hl hl2 h0 o o2) (by simp) base
  rw [h]
  simp [repV, back, cmp_app]
end Go.Proofs.Ytoaidbmkfdpagaa.AM
