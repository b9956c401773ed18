import Derived.Test.YtanbjhhaoolneaaDoorRepLawsB
import Derived.Test.YtanbjhhaoolneaaDoorCalls
/- Contracts: the loops of a replay. -/
namespace Go.Proofs.YtanbjhhaoolneaaDoor.AM
open Go
set_option maxRecDepth 1000000
set_option linter.unusedSimpArgs false
set_option linter.unusedVariables false
def rkA (r : List Int) (l : List (Int × Int)) (k : Nat) : List Int := rackF r (l.take k)
def innerTo (r : List Int) (l : List (Int × Int)) (k j : Nat) : List (Nat × Nat) := ((List.range j).filter fun m => decide (k < m) && decide (rkA r l k = rkA r l m)).map fun m => (k, m)
def outerTo (r : List Int) (l : List (Int × Int)) (k : Nat) : List (Nat × Nat) := (List.range k).flatMap fun q => innerTo r l q (l.length + 1)
theorem innerTo_zero (r : List Int) (l : List (Int × Int)) (k : Nat) : innerTo r l k (k + 1) = [] := by
  unfold innerTo
  rw [List.map_eq_nil_iff, List.filter_eq_nil_iff]
  intro m hm
  have := List.mem_range.1 hm
  simp; omega
theorem innerTo_succ (r : List Int) (l : List (Int × Int)) (k j : Nat) (h : k < j) : innerTo r l k (j + 1) = innerTo r l k j ++ if rkA r l k = rkA r l j then [(k, j)] else [] := by
  unfold innerTo
  rw [List.range_succ, List.filter_append, List.map_append]
  congr 1
  by_cases he : rkA r l k = rkA r l j <;> simp [h, he]
theorem outerTo_succ (r : List Int) (l : List (Int × Int)) (k : Nat) : outerTo r l (k + 1) = outerTo r l k ++ innerTo r l k (l.length + 1) := by
  unfold outerTo
  rw [List.range_succ, List.flatMap_append]
  simp
theorem innerTo_len (r : List Int) (l : List (Int × Int)) (k j : Nat) : (innerTo r l k j).length ≤ j := by
  unfold innerTo
  rw [List.length_map]
  exact Nat.le_trans (List.length_filter_le _ _) (by simp)
theorem outerTo_len (r : List Int) (l : List (Int × Int)) : ∀ k, (outerTo r l k).length ≤ k * (l.length + 1)
  | 0 => by simp [outerTo]
  | k + 1 => by
    have ih := outerTo_len r l k
    have := innerTo_len r l k (l.length + 1)
    rw [outerTo_succ, List.length_append, Nat.add_mul]
    omega
def loopsL (r : List Int) (l : List (Int × Int)) : List (Nat × Nat) := if repB r l = true then outerTo r l (l.length + 1) else []
theorem loopsL_len {r : List Int} (hr : r.length = 24) (l : List (Int × Int)) : (loopsL r l).length ≤ 61 * 61 := by
  unfold loopsL
  split
  · rename_i h
    obtain ⟨_, hl, _⟩ := repB_facts hr h
    exact Nat.le_trans (outerTo_len r l _) (Nat.mul_le_mul (by omega) (by omega))
  · simp
def lpV (r : List Int) (l : List (Int × Int)) : V := .tup [.c (.sl 1 0 (loopsL r l).length 2), .c (.bool (repB r l))]
/-! ### marks -/
theorem callA_oneW {F : Fns} {f : Nat} {x x0 : V} {rest : List V} {i : Nat} {H : HF} {b b' : Blk} {v : V} (hb : H i = some b) (hx : x.ids = [i]) (hx0 : x.mp (fun j => if i = j then 0 else 1) = x0) (hre : rest.flatMap V.ids = []) (hbi : b.ids = []) (hbi' : b'.ids = []) (hF : F f (x0 :: rest) [b] = some (v, [b'])) (base : Nat) :
    callA F f (x :: rest) H base = some (v.mp (back [i] base), [], [(i, b')]) := by
  have hr : reach H 64 ((x :: rest).flatMap V.ids) [] = [i] := by simp [hx, hre, reach, idsAt, hb, hbi]
  have hp : pos [i] = fun j => if i = j then 0 else 1 := by funext j; simp [pos]
  have hm : (x :: rest).map (V.mp (pos [i])) = x0 :: rest := by
    rw [List.map_cons, hp, hx0, mps_pure hre]
  have h := callA_gen (F := F) (f := f) (args := x :: rest) (H := H) (L := [i]) hr (by simp [closed, hb, idsAt, hbi, inL, hx, hre]) (show sub [i] H = [b] by simp [sub, hb, mp_ids hbi]) hm hF (by simp) base
  rw [h]
  simp [mp_ids hbi']
theorem call_repW {F : Fns} {f : Nat} {r : List Int} {n : Nat} {rest : List V} {b b' : Blk} {v : V} (hre : rest.flatMap V.ids = []) (hbi : b.ids = []) (hbi' : b'.ids = []) (hF : F f (repV r 0 n :: rest) [b] = some (v, [b'])) (i : Nat) (H : HF) (base : Nat) (hb : (H i == some b) = true) :
    callA F f (.agg (r.map (C.int .i64) ++ [C.sl i 0 n 2]) :: rest) H base = some (v.mp (back [i] base), [], [(i, b')]) := by
  have hb : H i = some b := by simpa using hb
  exact callA_oneW (x := repV r i n) hb (by simp) (by rw [repV_mp]; simp) hre hbi hbi' hF base
theorem call_slW {F : Fns} {f n : Nat} {rest : List V} {b b' : Blk} {v : V} (hre : rest.flatMap V.ids = []) (hbi : b.ids = []) (hbi' : b'.ids = []) (hF : F f (.c (.sl 0 0 n 2) :: rest) [b] = some (v, [b'])) (i : Nat) (H : HF) (base : Nat) (hb : (H i == some b) = true) :
    callA F f (.c (.sl i 0 n 2) :: rest) H base = some (v.mp (back [i] base), [], [(i, b')]) := by
  have hb : H i = some b := by simpa using hb
  exact callA_oneW (x := .c (.sl i 0 n 2)) hb (by simp) (by simp) hre hbi hbi' hF base
theorem cZ_idsD (l : List (Int × Int)) (j : Nat) : cids ((cZ l).drop j) = [] := by
  have e := congrArg cids (List.take_append_drop j (cZ l))
  rw [cids_app, cZ_ids] at e
  exact (List.append_eq_nil_iff.1 e).2
theorem c_laws_markIntA2Z (l : List (Int × Int)) (hn : l.length ≤ 1048576) : fnI pr np 18 [.c (.sl 0 0 l.length 2), .c (.int .i64 1)] [.cells (cZ l) true] = some (.c (.int .i64 (mk1 (l.length * 2))), [.cells (markC (l.length * 2)) true]) := by
  have hcm : ∀ g j, cmp g ((cZ l).drop j) = (cZ l).drop j := fun g j => cmp_pure (cZ_idsD l j)
  rw [fb (fn := a18) rfl rfl rfl]
  simp [a18]
  rw [loop_to (fun i => ([(0, V.c (C.sl 0 0 l.length 2)), (1, V.c (C.int .i64 (mk1 (i * 2)))), (5, V.c (C.int .i64 i))], [.cells (markC (i * 2) ++ (cZ l).drop (i * 2)) true])) l.length]
  · have e : (cZ l).drop (l.length * 2) = [] := List.drop_of_length_le (by simp)
    simp [e, markC_ids, markC_cmp, sub]
  · simp [markC, mk1, sub]
  · intro i hi
    have wi := wrapS (k := i) (by omega)
    have w1 := mk1_wrap (j := i * 2) (by omega)
    have w2 := mk1_wrap (j := i * 2 + 1) (by omega)
    have e2 : (i + 1) * 2 = i * 2 + 1 + 1 := by omega
    have hL : (cZ l).length = l.length * 2 := by simp
    have s1 := mark_step (cZ l) (i * 2) (by omega)
    have s2 := mark_step (cZ l) (i * 2 + 1) (by omega)
    have L1 : (markC (i * 2) ++ (cZ l).drop (i * 2)).length = l.length * 2 := by rw [List.length_append, markC_len, List.length_drop]; omega
    have L2 : (markC (i * 2 + 1) ++ (cZ l).drop (i * 2 + 1)).length = l.length * 2 := by rw [List.length_append, markC_len, List.length_drop]; omega
    have b1 : i * 2 + 1 ≤ l.length * 2 := by omega
    have b2 : i * 2 + 1 + 1 ≤ l.length * 2 := by omega
    have h0 := cZ_idsD l (i * 2)
    have h1 := cZ_idsD l (i * 2 + 1)
    have h2 := cZ_idsD l (i * 2 + 1 + 1)
    have c0 := fun g => hcm g (i * 2)
    have c1 := fun g => hcm g (i * 2 + 1)
    have c2 := fun g => hcm g (i * 2 + 1 + 1)
    generalize (cZ l).drop (i * 2) = D0 at *
    generalize (cZ l).drop (i * 2 + 1) = D1 at *
    simp only [e2]
    generalize (cZ l).drop (i * 2 + 1 + 1) = D2 at *
    rw [List.length_append] at L1 L2
    simp [exI_loop', hi, wi, w1, w2, s1, s2, L1, L2, b1, b2, h0, h1, h2, c0, c1, c2, markC_ids, markC_cmp, sub, wz1, wz2]
theorem c_laws_markReplay (r : List Int) (hr : r.length = 24) (l : List (Int × Int)) (hn : l.length ≤ 1048576) : fnI pr np 7 [repV r 0 l.length, .c (.int .i64 1)] [.cells (cZ l) true] = some (.c (.int .i64 (mk1 (l.length * 2))), [.cells (markC (l.length * 2)) true]) := by
  have t2 := repC_drop hr (C.sl 0 0 l.length 2)
  have hc := call_slW (rest := [.c (.int .i64 1)]) rfl (by simp) (by simp [markC_ids]) (c_laws_markIntA2Z l hn)
  rw [fb (fn := a7) rfl rfl rfl]
  simp [a7, repV, hr, t2, hc, markC_ids, markC_cmp, sub]
end Go.Proofs.YtanbjhhaoolneaaDoor.AM
