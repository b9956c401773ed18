import Derived.Test.YtoaidbmkfdpagaaRepLawsB
import Derived.Test.YtoaidbmkfdpagaaCalls
/- Contracts: the loops of a replay. -/
namespace Go.Proofs.Ytoaidbmkfdpagaa.AM
open Go
set_option maxRecDepth 1000000
set_option linter.unusedSimpArgs false
set_option linter.unusedVariables false
def rkA (r : List Int) (l : List (Int × Int)) (k : Nat) : List Int := rackF r (l.take k)
def innerTo (r : List Int) (l : List (Int × Int)) (k j : Nat) : List (Nat × Nat) := ((List.range j).filter fun m => decide (k < m) && decide (rkA r l k = rkA r l m)).map fun m => (k, m)
def outerTo (r : List Int) (l : List (Int × Int)) (k : Nat) : List (Nat × Nat) := (List.range k).flatMap fun q => innerTo r l q (l.length + 1)
theorem innerTo_zero (r : List Int) (l : List (Int × Int)) (k : Nat) : innerTo r l k (k + 1) = [] := by
  unfold innerTo
  rw [List.map_eq_nil_iff, List.filter_eq_nil_iff]
  intro m hm
  have := List.mem_range.1 hm
  simp; omega
theorem innerTo_succ (r : List Int) (l : List (Int × Int)) (k j : Nat) (h : k < j) : innerTo r l k (j + 1) = innerTo r l k j ++ if rkA r l k = rkA r l j then [(k, j)] else [] := by
  unfold innerTo
  rw [List.range_succ, List.filter_append, List.map_append]
  congr 1
  by_cases he : rkA r l k = rkA r l j <;> simp [h, he]
theorem outerTo_succ (r : List Int) (l : List (Int × Int)) (k : Nat) : outerTo r l (k + 1) = outerTo r l k ++ innerTo r l k (l.length + 1) := by
  unfold outerTo
  rw [List.range_succ, List.flatMap_append]
  simp
theorem innerTo_len (r : List Int) (l : List (Int × Int)) (k j : Nat) : (innerTo r l k j).length ≤ j := by
  unfold innerTo
  rw [List.length_map]
  exact Nat.le_trans (List.length_filter_le _ _) (by simp)
theorem outerTo_len (r : List Int) (l : List (Int × Int)) : ∀ k, (outerTo r l k).length ≤ k * (l.length + 1)
  | 0 => by simp [outerTo]
  | k + 1 => by
    have ih := outerTo_len r l k
    have := innerTo_len r l k (l.length + 1)
    rw [outerTo_succ, List.length_append, Nat.add_mul]
    omega
theorem conf_ints : ∀ (n : Nat) (x : List Int), x.length = n → conf (List.replicate n (.int .i64)) (x.map (C.int .i64)) = true
  | 0, [], _ => rfl
  | n + 1, a :: x, h => by
    have := conf_ints n x (by simpa using h)
    simp only [List.replicate_succ, List.map_cons, conf, conf1, this]
    rfl
  | 0, _ :: _, h => by simp at h
  | _ + 1, [], h => by simp at h
theorem conf24 (x : List Int) (h : x.length = 24) : conf [CK.int .i64, CK.int .i64, CK.int .i64, CK.int .i64, CK.int .i64, CK.int .i64, CK.int .i64, CK.int .i64, CK.int .i64, CK.int .i64, CK.int .i64, CK.int .i64, CK.int .i64, CK.int .i64, CK.int .i64, CK.int .i64, CK.int .i64, CK.int .i64, CK.int .i64, CK.int .i64, CK.int .i64, CK.int .i64, CK.int .i64, CK.int .i64] (x.map (C.int .i64)) = true := conf_ints 24 x h
theorem ints_inj (x y : List Int) : (x.map (C.int .i64) = y.map (C.int .i64)) = (x = y) := by
  apply propext
  constructor
  · intro h
    induction x generalizing y with
    | nil => cases y with
      | nil => rfl
      | cons b y => simp at h
    | cons a x ih => cases y with
      | nil => simp at h
      | cons b y =>
        simp only [List.map_cons, List.cons.injEq, C.int.injEq, true_and] at h
        rw [h.1, ih y h.2]
  · intro h; rw [h]
set_option maxHeartbeats 4000000 in
theorem c_spec_l11Loops (r : List Int) (hr : r.length = 24) (l : List (Int × Int)) (hl : l.length ≤ 60) : fnI pr np 125 [.c (.sl 0 0 (l.length + 1) 24)] [.cells ((outI r l l.length).map (C.int .i64)) true] = some (.c (.sl 1 0 (outerTo r l (l.length + 1)).length 2), [.cells ((outI r l l.length).map (C.int .i64)) true, .cells (flatC (outerTo r l (l.length + 1))) true]) := by
  have hol := outI_len hr l l.length
  have hl1 : ∀ k, k ≤ l.length + 1 → (outerTo r l k).length ≤ 61 * 61 := fun k hk => Nat.le_trans (outerTo_len r l k) (Nat.mul_le_mul (by omega) (by omega))
  rw [fb (fn := a125) rfl rfl]
  simp [a125]
  rw [loop_to (fun k => ([(0, V.c (C.sl 0 0 (l.length + 1) 24)), (3, V.c (C.sl 1 0 (outerTo r l k).length 2)), (4, V.c (C.int .i64 k))], [Blk.cells ((outI r l l.length).map (C.int .i64)) true, Blk.cells (flatC (outerTo r l k)) true])) (l.length + 1)]
  · simp [sub]
  · simp [outerTo, flatC_nil, sub]
  · intro k hk
    have hk' : (k : Int) < (l.length : Int) + 1 := by omega
    have wk := wrapS (k := k) (by omega)
    have hlo := hl1 k (by omega)
    have hos := outerTo_succ r l k
    simp [hk, hk', wk]
    rw [loop_to' (fun j => ([(0, V.c (C.sl 0 0 (l.length + 1) 24)), (3, V.c (C.sl 1 0 (outerTo r l k ++ innerTo r l k j).length 2)), (4, V.c (C.int .i64 k)), (5, V.c (C.int .i64 j))], [Blk.cells ((outI r l l.length).map (C.int .i64)) true, Blk.cells (flatC (outerTo r l k ++ innerTo r l k j)) true])) (k + 1) (l.length - k)]
    · have he : k + 1 + (l.length - k) = l.length + 1 := by omega
      rw [he, ← hos]
      simp [wk, sub]
    · simp [innerTo_zero, sub]
    · intro j hj1 hj2
      have hj' : (j : Int) < (l.length : Int) + 1 := by omega
      have hjl : j < l.length + 1 := by omega
      have wj := wrapS (k := j) (by omega)
      have g1 := outC_get hr l l.length (j := k) (by omega)
      have g2 := outC_get hr l l.length (j := j) (by omega)
      have b1 : k * 24 + 24 ≤ (l.length + 1) * 24 := by omega
      have b2 : j * 24 + 24 ≤ (l.length + 1) * 24 := by omega
      have c1 := conf24 _ (rackF_len hr (l.take k))
      have c2 := conf24 _ (rackF_len hr (l.take j))
      have hst := innerTo_succ r l k j (by omega)
      have hil := innerTo_len r l k j
      have htk := flatC_take' (outerTo r l k ++ innerTo r l k j)
      have hroom : (outerTo r l k ++ innerTo r l k j).length + 1 ≤ 68719476736 := by rw [List.length_append]; omega
      by_cases he : rackF r (l.take k) = rackF r (l.take j)
      · have he' : rkA r l k = rkA r l j := he
        have hst2 : outerTo r l k ++ innerTo r l k (j + 1) = (outerTo r l k ++ innerTo r l k j) ++ [(k, j)] := by rw [hst, if_pos he', List.append_assoc]
        simp only [hst2]
        generalize outerTo r l k ++ innerTo r l k j = X at *
        simp [hk', hj', hjl, hk, wj, g1, g2, hol, b1, b2, c1, c2, ints_inj, he, hroom, htk, flatC_app, flatC_one, sub]
      · have he' : ¬ rkA r l k = rkA r l j := he
        rw [if_neg he', List.append_nil] at hst
        simp only [hst]
        generalize outerTo r l k ++ innerTo r l k j = X at *
        simp [hk', hj', hjl, hk, wj, g1, g2, hol, b1, b2, c1, c2, ints_inj, he, sub]
set_option maxHeartbeats 4000000 in
theorem c_impl_loops (r : List Int) (hr : r.length = 24) (l : List (Int × Int)) (hq : repB r l = true) (o : Bool) : fnI pr np 122 [repV r 0 l.length] [.cells (cZ l) o] = some (.c (.sl 1 0 (outerTo r l (l.length + 1)).length 2), [.cells (cZ l) o, .cells (flatC (outerTo r l (l.length + 1))) true]) := by
  obtain ⟨_, hl, _⟩ := repB_facts hr hq
  have h0 := c_impl_racks r hr l o
  rw [racksV_t hq] at h0
  have hc := call_rep (rest := []) rfl (by simp) h0
  have t3 := repC_all hr (C.sl 0 0 l.length 2)
  have hol := outI_len hr l l.length
  have hl1 : ∀ k, k ≤ l.length + 1 → (outerTo r l k).length ≤ 61 * 61 := fun k hk => Nat.le_trans (outerTo_len r l k) (Nat.mul_le_mul (by omega) (by omega))
  rw [fb (fn := a122) rfl rfl]
  simp [a122, repV, hr, t3, hc]
  rw [loop_to (fun k => ([(3, V.c (C.sl 1 0 (l.length + 1) 24)), (5, V.c (C.sl 2 0 (outerTo r l k).length 2)), (14, V.c (C.int .i64 ((l.length : Int) + 1))), (15, V.c (C.int .i64 k))], [Blk.cells (cZ l) o, Blk.cells ((outI r l l.length).map (C.int .i64)) true, Blk.cells (flatC (outerTo r l k)) true])) (l.length + 1)]
  · simp [sub]
  · simp [outerTo, flatC_nil, sub]
  · intro k hk
    have hk' : (k : Int) < (l.length : Int) + 1 := by omega
    have wk := wrapS (k := k) (by omega)
    have hlo := hl1 k (by omega)
    have hos := outerTo_succ r l k
    simp [hk, hk', wk]
    rw [loop_to' (fun j => ([(3, V.c (C.sl 1 0 (l.length + 1) 24)), (5, V.c (C.sl 2 0 (outerTo r l k ++ innerTo r l k j).length 2)), (6, V.c (C.int .i64 k)), (7, V.c (C.int .i64 j)), (14, V.c (C.int .i64 ((l.length : Int) + 1))), (15, V.c (C.int .i64 k))], [Blk.cells (cZ l) o, Blk.cells ((outI r l l.length).map (C.int .i64)) true, Blk.cells (flatC (outerTo r l k ++ innerTo r l k j)) true])) (k + 1) (l.length - k)]
    · have he : k + 1 + (l.length - k) = l.length + 1 := by omega
      rw [he, ← hos]
      simp [wk, sub]
    · simp [innerTo_zero, sub]
    · intro j hj1 hj2
      have hj' : (j : Int) < (l.length : Int) + 1 := by omega
      have hjl : j < l.length + 1 := by omega
      have wj := wrapS (k := j) (by omega)
      have g1 := outC_get hr l l.length (j := k) (by omega)
      have g2 := outC_get hr l l.length (j := j) (by omega)
      have b1 : k * 24 + 24 ≤ (l.length + 1) * 24 := by omega
      have b2 : j * 24 + 24 ≤ (l.length + 1) * 24 := by omega
      have c1 := conf24 _ (rackF_len hr (l.take k))
      have c2 := conf24 _ (rackF_len hr (l.take j))
      have hst := innerTo_succ r l k j (by omega)
      have hil := innerTo_len r l k j
      have htk := flatC_take' (outerTo r l k ++ innerTo r l k j)
      have hroom : (outerTo r l k ++ innerTo r l k j).length + 1 ≤ 68719476736 := by rw [List.length_append]; omega
      by_cases he : rackF r (l.take k) = rackF r (l.take j)
      · have he' : rkA r l k = rkA r l j := he
        have hst2 : outerTo r l k ++ innerTo r l k (j + 1) = (outerTo r l k ++ innerTo r l k j) ++ [(k, j)] := by rw [hst, if_pos he', List.append_assoc]
        simp only [hst2]
        generalize outerTo r l k ++ innerTo r l k j = X at *
        simp [hk', hj', hjl, hk, wj, g1, g2, hol, b1, b2, c1, c2, ints_inj, he, hroom, htk, flatC_app, flatC_one, sub]
      · have he' : ¬ rkA r l k = rkA r l j := he
        rw [if_neg he', List.append_nil] at hst
        simp only [hst]
        generalize outerTo r l k ++ innerTo r l k j = X at *
        simp [hk', hj', hjl, hk, wj, g1, g2, hol, b1, b2, c1, c2, ints_inj, he, sub]
def loopsL (r : List Int) (l : List (Int × Int)) : List (Nat × Nat) := if repB r l = true then outerTo r l (l.length + 1) else []
theorem loopsL_len {r : List Int} (hr : r.length = 24) (l : List (Int × Int)) : (loopsL r l).length ≤ 61 * 61 := by
  unfold loopsL
  split
  · rename_i h
    obtain ⟨_, hl, _⟩ := repB_facts hr h
    exact Nat.le_trans (outerTo_len r l _) (Nat.mul_le_mul (by omega) (by omega))
  · simp
def lpV (r : List Int) (l : List (Int × Int)) : V := .tup [.c (.sl 1 0 (loopsL r l).length 2), .c (.bool (repB r l))]
theorem c_impl_LoopsOf (r : List Int) (hr : r.length = 24) (l : List (Int × Int)) (o : Bool) : fnI pr np 35 [repV r 0 l.length] [.cells (cZ l) o] = some (lpV r l, .cells (cZ l) o :: [.cells (flatC (loopsL r l)) true]) := by
  have t3 := repC_all hr (C.sl 0 0 l.length 2)
  have h1 := call_rep (rest := []) rfl (by simp) (c_impl_IsReplay r hr l o)
  rw [fb (fn := a35) rfl rfl]
  unfold lpV loopsL
  cases hq : repB r l with
  | true =>
    rw [hq] at h1
    have h2 := call_rep (rest := []) rfl (by simp) (c_impl_loops r hr l hq o)
    simp [a35, repV, hr, t3, h1, h2, sub]
  | false => rw [hq] at h1; simp [a35, repV, hr, t3, h1, flatC_nil, sub]
theorem c_spec_LoopsOf (r : List Int) (hr : r.length = 24) (l : List (Int × Int)) (o : Bool) : fnI pr np 36 [repV r 0 l.length] [.cells (cZ l) o] = some (lpV r l, .cells (cZ l) o :: [.cells (flatC (loopsL r l)) true]) := by
  have h0 := c_spec_l11Racks r hr l o
  have t3 := repC_all hr (C.sl 0 0 l.length 2)
  rw [fb (fn := a36) rfl rfl]
  unfold lpV loopsL
  cases hq : repB r l with
  | true =>
    rw [racksV_t hq] at h0
    have hc := call_rep (rest := []) rfl (by simp) h0
    obtain ⟨h, hl, hg⟩ := repB_facts hr hq
    have h2 := fun base => callA_one (F := fnI pr np) (f := 125) (x := .c (.sl 3 0 (l.length + 1) 24)) (rest := []) (i := 3) (H := lkp [Blk.cells (cZ l) o, Blk.cells (r.map (C.int .i64) ++ [C.sl 0 0 l.length 2]) true, Blk.cells [] true, Blk.cells ((outI r l l.length).map (C.int .i64)) true]) rfl (by simp) (by simp) (by simp) (by simp) (c_spec_l11Loops r hr l hl) base
    simp [a36, repV, hr, t3, hc, h2, cids_app, cmp_app, sub]
  | false =>
    rw [racksV_f hq] at h0
    have hc := call_rep (rest := []) rfl (by simp) h0
    simp [a36, repV, hr, t3, hc, flatC_nil, sub]
/-! ### marks -/
theorem callA_oneW {F : Fns} {f : Nat} {x x0 : V} {rest : List V} {i : Nat} {H : HF} {b b' : Blk} {v : V} (hb : H i = some b) (hx : x.ids = [i]) (hx0 : x.mp (fun j => if i = j then 0 else 1) = x0) (hre : rest.flatMap V.ids = []) (hbi : b.ids = []) (hbi' : b'.ids = []) (hF : F f (x0 :: rest) [b] = some (v, [b'])) (base : Nat) :
    callA F f (x :: rest) H base = some (v.mp (back [i] base), [], [(i, b')]) := by
  have hr : reach H 64 ((x :: rest).flatMap V.ids) [] = [i] := by simp [hx, hre, reach, idsAt, hb, hbi]
  have hp : pos [i] = fun j => if i = j then 0 else 1 := by funext j; simp [pos]
  have hm : (x :: rest).map (V.mp (pos [i])) = x0 :: rest := by
    rw [List.map_cons, hp, hx0, mps_pure hre]
  have h := callA_gen (F := F) (f := f) (args := x :: rest) (H := H) (L := [i]) hr (by simp [closed, hb, idsAt, hbi, inL, hx, hre]) (show sub [i] H = [b] by simp [sub, hb, mp_ids hbi]) hm hF (by simp) base
  rw [h]
  simp [mp_ids hbi']
theorem call_repW {F : Fns} {f : Nat} {r : List Int} {n : Nat} {rest : List V} {b b' : Blk} {v : V} (hre : rest.flatMap V.ids = []) (hbi : b.ids = []) (hbi' : b'.ids = []) (hF : F f (repV r 0 n :: rest) [b] = some (v, [b'])) (i : Nat) (H : HF) (base : Nat) (hb : (H i == some b) = true) :
    callA F f (.agg (r.map (C.int .i64) ++ [C.sl i 0 n 2]) :: rest) H base = some (v.mp (back [i] base), [], [(i, b')]) := by
  have hb : H i = some b := by simpa using hb
  exact callA_oneW (x := repV r i n) hb (by simp) (by rw [repV_mp]; simp) hre hbi hbi' hF base
theorem call_slW {F : Fns} {f n : Nat} {rest : List V} {b b' : Blk} {v : V} (hre : rest.flatMap V.ids = []) (hbi : b.ids = []) (hbi' : b'.ids = []) (hF : F f (.c (.sl 0 0 n 2) :: rest) [b] = some (v, [b'])) (i : Nat) (H : HF) (base : Nat) (hb : (H i == some b) = true) :
    callA F f (.c (.sl i 0 n 2) :: rest) H base = some (v.mp (back [i] base), [], [(i, b')]) := by
  have hb : H i = some b := by simpa using hb
  exact callA_oneW (x := .c (.sl i 0 n 2)) hb (by simp) (by simp) hre hbi hbi' hF base
theorem cZ_idsD (l : List (Int × Int)) (j : Nat) : cids ((cZ l).drop j) = [] := by
  have e := congrArg cids (List.take_append_drop j (cZ l))
  rw [cids_app, cZ_ids] at e
  exact (List.append_eq_nil_iff.1 e).2
end Go.Proofs.Ytoaidbmkfdpagaa.AM
