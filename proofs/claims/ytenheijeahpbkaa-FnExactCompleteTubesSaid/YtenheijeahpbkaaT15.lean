import Derived.Test.YtenheijeahpbkaaT14
namespace Go.Proofs.Ytenheijeahpbkaa.AM
open Go
set_option maxRecDepth 1000000
set_option linter.unusedSimpArgs false
set_option linter.unusedVariables false
theorem tubeAt_cell {r : List Int} (hr : r.length = 24) {i k : Nat} (hi : i < 6) (hk : k < 4) : (tubeAt r i).getD k 0 = cellAt r (i * 4 + k) := by
  unfold tubeAt cellAt
  rw [List.getD_eq_getElem?_getD, List.getD_eq_getElem?_getD, List.getElem?_take, if_pos hk, List.getElem?_drop]
theorem c78 (r : List Int) (hr : r.length = 24) (hv : rackP r = true) : fnI pr np 78 [.agg (r.map (C.int .i64))] [] = some (.agg ((bumps r [0, 0, 0, 0, 0, 0] 0 24).map (C.int .i64)), []) := by
  have hgc : ∀ (live : List Nat) (e : Env) (c : List Int) (g : Heap), envIds (restrict e live) = [0, 1] → gcE 0 live e (Blk.cells [C.int .i64 0, C.int .i64 0, C.int .i64 0, C.int .i64 0, C.int .i64 0, C.int .i64 0] true :: Blk.cells (c.map (C.int .i64)) true :: g) = some ((restrict e live).map (fun p => (p.1, p.2.mp (pos [0, 1]))), [Blk.cells [C.int .i64 0, C.int .i64 0, C.int .i64 0, C.int .i64 0, C.int .i64 0, C.int .i64 0] true, Blk.cells (c.map (C.int .i64)) true]) := by
    intro live e c g he
    rw [gcE_told (L := [0, 1]) (by rw [he]; simp [gcL, upto, reach, idsAt]) (by rw [he]; simp [closed, inL, idsAt])]
    simp [sub]
  have h24 : (r.map (C.int .i64)).take 24 = r.map (C.int .i64) := List.take_of_length_le (by simp; omega)
  rw [fb (fn := a78) rfl rfl]
  simp [a78, hr, h24]
  generalize hL1 : (ACode.loop _ [2, 3, 9, 10]) = L1
  generalize hR : (ACode.seq _ ACode.ret) = R
  have key : ∀ (d i : Nat) (c : List Int) (e : Env) (h : Heap), i + d = 6 → small c (4 * i) → gcE 0 [2, 3, 9, 10] e h = some ([(2, V.c (C.ptr 0 0)), (3, V.c (C.ptr 1 0)), (9, V.agg (r.map (C.int .i64))), (10, V.c (C.int .i64 i))], [Blk.cells [C.int .i64 0, C.int .i64 0, C.int .i64 0, C.int .i64 0, C.int .i64 0, C.int .i64 0] true, Blk.cells (c.map (C.int .i64)) true]) → leaveK 0 [RV.cell 2 6 true] (seqK pr np 0 R (blockK 0 (exI pr np 0 L1 e h))) = some (V.agg ((bumps r c (i * 4) (d * 4)).map (C.int .i64)), []) := by
    intro d
    induction d with
    | zero =>
      intro i c e h hi hc hg
      have hi : i = 6 := by omega
      subst hi
      have hc6 : c.length = 6 := hc.1
      have ht6 : (c.map (C.int .i64)).take 6 = c.map (C.int .i64) := List.take_of_length_le (by simp; omega)
      have hsa : setAt [C.int .i64 0, C.int .i64 0, C.int .i64 0, C.int .i64 0, C.int .i64 0, C.int .i64 0] 0 (c.map (C.int .i64)) = c.map (C.int .i64) := setAt_all _ _ (by simp [hc6])
      rw [← hL1, exI_loop', hg]
      simp [bumps, ← hR, hc6, ht6, hsa]
    | succ d ih =>
      intro i c e h hin hc hg
      have hi : i < 6 := by omega
      have hi' : (i : Int) < 6 := by omega
      have hw : IntKind.i64.wrap ((i : Int) + 1) = ((i + 1 : Nat) : Int) := by rw [wrapI (by omega) (by omega)]; rfl
      have ht4 := tubeAt_len hr hi
      have hm : ((r.map (C.int .i64)).drop (i * 4)).take 4 = (tubeAt r i).map (C.int .i64) := by simp [tubeAt]
      have hsa : setAt [C.int .i64 0, C.int .i64 0, C.int .i64 0, C.int .i64 0] 0 ((tubeAt r i).map (C.int .i64)) = (tubeAt r i).map (C.int .i64) := setAt_all _ _ (by simp [ht4])
      have htt : ((tubeAt r i).map (C.int .i64)).take 4 = (tubeAt r i).map (C.int .i64) := List.take_of_length_le (by simp; omega)
      rw [← hL1, exI_loop', hg]
      simp [hi', hi, hr, hm, ht4, hsa, htt]
      generalize hL2 : (ACode.loop _ [2, 3, 9, 10, 13, 14]) = L2
      have key2 : ∀ (d k : Nat) (c : List Int) (g : Heap), k + d = 4 → small c (4 * i + k) → exI pr np 0 L2 [(2, V.c (C.ptr 0 0)), (3, V.c (C.ptr 1 0)), (9, V.agg (r.map (C.int .i64))), (10, V.c (C.int .i64 i)), (13, V.agg ((tubeAt r i).map (C.int .i64))), (14, V.c (C.int .i64 k))] (Blk.cells [C.int .i64 0, C.int .i64 0, C.int .i64 0, C.int .i64 0, C.int .i64 0, C.int .i64 0] true :: Blk.cells (c.map (C.int .i64)) true :: g) = some (.exit 2, [(2, V.c (C.ptr 0 0)), (3, V.c (C.ptr 1 0)), (9, V.agg (r.map (C.int .i64))), (10, V.c (C.int .i64 i)), (13, V.agg ((tubeAt r i).map (C.int .i64))), (14, V.c (C.int .i64 4)), (15, V.c (C.bool false))], [Blk.cells [C.int .i64 0, C.int .i64 0, C.int .i64 0, C.int .i64 0, C.int .i64 0, C.int .i64 0] true, Blk.cells ((bumps r c (i * 4 + k) d).map (C.int .i64)) true]) := by
        intro d
        induction d with
        | zero =>
          intro k c g hk hc
          have hk : k = 4 := by omega
          subst hk
          rw [← hL2, exI_loop', hgc _ _ _ _ (by simp [envIds])]
          simp [bumps, pos]
        | succ d ih2 =>
          intro k c g hk hc
          have hk4 : k < 4 := by omega
          have hk' : (k : Int) < 4 := by omega
          have hwk : IntKind.i64.wrap ((k : Int) + 1) = ((k + 1 : Nat) : Int) := by rw [wrapI (by omega) (by omega)]; rfl
          have hx := take1 (c := tubeAt r i) (j := k) (by omega)
          rw [tubeAt_cell hr hi hk4] at hx
          obtain ⟨hx0', hx5⟩ := rack_cell hr hv hi hk4
          have hx6' : cellAt r (i * 4 + k) < 6 := by omega
          generalize hxc : cellAt r (i * 4 + k) = x at hx hx0' hx6'
          have hcl : c.length = 6 := hc.1
          have hxn : x.toNat < 6 := by omega
          have hxn1 : x.toNat + 1 ≤ 6 := by omega
          have hy := take1 (c := c) (j := x.toNat) (by omega)
          have hyr : 0 ≤ c.getD x.toNat 0 ∧ c.getD x.toNat 0 ≤ 4 * i + k := by
            rw [List.getD_eq_getElem?_getD, List.getElem?_eq_getElem (by omega)]
            exact hc.2 _ (List.getElem_mem _)
          have hwy : IntKind.i64.wrap (c.getD x.toNat 0 + 1) = c.getD x.toNat 0 + 1 := wrapI (by omega) (by omega)
          have hset := setAt_one c x.toNat (c.getD x.toNat 0 + 1)
          have ih2 := fun g => ih2 (k + 1) (bump c x) g (by omega) (by have := small_bump (x := x) hc; rwa [show (4 * (i : Int) + ((k + 1 : Nat) : Int)) = 4 * i + k + 1 by omega])
          generalize hyv : c.getD x.toNat 0 = y at hy hwy hset
          have hbump : bump c x = c.set x.toNat (y + 1) := by unfold bump; rw [hyv]
          rw [← hL2, exI_loop', hgc _ _ _ _ (by simp [envIds])]
          simp [pos, hi', hk', hi, hk4, hr, hx, ht4, hx0', hx6', hcl, hxn, hxn1, hy, hwy, hwk, -setAt, hset]
          rw [hL2]
          refine (Eq.trans ?_ (ih2 [])).trans ?_
          · rw [hbump]; simp
          · simp [bumps, hxc, Nat.add_assoc]
      have k2 := fun g => key2 4 0 c g rfl (by simpa using hc)
      push_cast at k2
      simp only [k2]
      have ih := ih (i + 1) (bumps r c (i * 4) 4)
      simp [hw]
      rw [← hL2, hL1]
      refine (ih _ _ (by omega) (by have := small_bumps r 4 c (i * 4) _ hc; rwa [show (4 * ((i + 1 : Nat) : Int)) = 4 * i + ((4 : Nat) : Int) by omega]) ?_).trans ?_
      · rw [hgc _ _ _ _ (by simp [envIds])]
        simp [pos]
      · rw [show (d + 1) * 4 = 4 + d * 4 by omega, bumps_add, show i * 4 + 4 = (i + 1) * 4 by omega]
  refine (key 6 0 [0, 0, 0, 0, 0, 0] _ _ rfl (by simpa using zeros6) ?_).trans (by simp)
  rw [gcE_told (L := [1, 2]) (by simp [gcL, upto, reach, idsAt, envIds]) (by simp [closed, inL, idsAt, envIds])]
  simp [sub, pos]
end Go.Proofs.Ytenheijeahpbkaa.AM
