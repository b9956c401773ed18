import Derived.Test.YtenheijeahpbkaaT13
namespace Go.Proofs.Ytenheijeahpbkaa.AM
open Go
set_option maxRecDepth 1000000
set_option linter.unusedSimpArgs false
set_option linter.unusedVariables false
theorem tubeP_range {a b c d : Int} (h : tubeP [a, b, c, d] = true) : (0 ≤ a ∧ a ≤ 5) ∧ (0 ≤ b ∧ b ≤ 5) ∧ (0 ≤ c ∧ c ≤ 5) ∧ (0 ≤ d ∧ d ≤ 5) := by
  rw [tube_eq] at h
  simp at h
  omega
def bump (c : List Int) (x : Int) : List Int := c.set x.toNat (c.getD x.toNat 0 + 1)
def bumps (r : List Int) (c : List Int) (j : Nat) : Nat → List Int
  | 0 => c
  | d + 1 => bumps r (bump c (cellAt r j)) (j + 1) d
def small (c : List Int) (n : Int) : Prop := c.length = 6 ∧ ∀ x ∈ c, 0 ≤ x ∧ x ≤ n
theorem small_bump {c : List Int} {n x : Int} (h : small c n) : small (bump c x) (n + 1) := by
  refine ⟨by simp [bump, h.1], fun y hy => ?_⟩
  unfold bump at hy
  rcases List.mem_or_eq_of_mem_set hy with hy | rfl
  · have := h.2 y hy; omega
  · rw [List.getD_eq_getElem?_getD]
    by_cases hx : x.toNat < c.length
    · rw [List.getElem?_eq_getElem hx]
      have := h.2 _ (List.getElem_mem hx)
      simp only [Option.getD_some]; omega
    · rw [List.getElem?_eq_none (by omega)]
      have h0 : 0 ≤ n := by
        have h6 := h.1
        match c, h6 with
        | y :: _, _ => have := h.2 y (by simp); omega
      simp; omega
theorem bumps_add (r : List Int) : ∀ (a : Nat) (c : List Int) (j b : Nat), bumps r c j (a + b) = bumps r (bumps r c j a) (j + a) b
  | 0, c, j, b => by simp [bumps]
  | a + 1, c, j, b => by
    rw [show a + 1 + b = (a + b) + 1 by omega]
    simp only [bumps]
    rw [bumps_add r a, show j + 1 + a = j + (a + 1) by omega]
theorem small_bumps (r : List Int) : ∀ (d : Nat) (c : List Int) (j : Nat) (n : Int), small c n → small (bumps r c j d) (n + d)
  | 0, c, j, n, h => by simpa [bumps] using h
  | d + 1, c, j, n, h => by
    have := small_bumps r d (bump c (cellAt r j)) (j + 1) (n + 1) (small_bump h)
    simp only [bumps]
    rw [show n + ((d + 1 : Nat) : Int) = n + 1 + d by omega]
    exact this
theorem zeros6 : small [0, 0, 0, 0, 0, 0] 0 := ⟨rfl, by simp⟩
/-- the cells of a valid rack are colors or empty -/
theorem rack_cell {r : List Int} (hr : r.length = 24) (hv : rackP r = true) {i k : Nat} (hi : i < 6) (hk : k < 4) : 0 ≤ cellAt r (i * 4 + k) ∧ cellAt r (i * 4 + k) ≤ 5 := by
  have h := rackP_tube hv hi
  obtain ⟨a, b, c, d, ht⟩ := len4 (tubeAt_len hr hi)
  have hcell : (tubeAt r i)[k]? = some (cellAt r (i * 4 + k)) := by
    unfold tubeAt cellAt
    rw [List.getElem?_take, if_pos hk, List.getElem?_drop, List.getD_eq_getElem?_getD, List.getElem?_eq_getElem (show i * 4 + k < r.length by omega)]
    rfl
  rw [ht] at h hcell
  obtain ⟨h1, h2, h3, h4⟩ := tubeP_range h
  match k, hk with
  | 0, _ =>
    have : a = cellAt r (i * 4 + 0) := Option.some.inj hcell
    omega
  | 1, _ =>
    have : b = cellAt r (i * 4 + 1) := Option.some.inj hcell
    omega
  | 2, _ =>
    have : c = cellAt r (i * 4 + 2) := Option.some.inj hcell
    omega
  | 3, _ =>
    have : d = cellAt r (i * 4 + 3) := Option.some.inj hcell
    omega
theorem take1 {c : List Int} {j : Nat} (hj : j < c.length) : ((c.map (C.int .i64)).drop j).take 1 = [C.int .i64 (c.getD j 0)] := by
  rw [List.drop_eq_getElem_cons (by simp; omega)]
  simp [List.getD_eq_getElem?_getD, List.getElem?_eq_getElem hj]
theorem setAt_one (c : List Int) (j : Nat) (y : Int) : setAt (c.map (C.int .i64)) j [C.int .i64 y] = (c.set j y).map (C.int .i64) := by
  simp [setAt, List.map_set]
theorem c55 (r : List Int) (hr : r.length = 24) (hv : rackP r = true) : fnI pr np 55 [.agg (r.map (C.int .i64))] [] = some (.agg ((bumps r [0, 0, 0, 0, 0, 0] 0 24).map (C.int .i64)), []) := by
  have hgc : ∀ (live : List Nat) (e : Env) (c z : List Int), envIds (restrict e live) = [0, 1, 2] → gcE 0 live e [Blk.cells (r.map (C.int .i64)) true, Blk.cells (z.map (C.int .i64)) true, Blk.cells (c.map (C.int .i64)) true] = some ((restrict e live).map (fun p => (p.1, p.2.mp (pos [0, 1, 2]))), [Blk.cells (r.map (C.int .i64)) true, Blk.cells (z.map (C.int .i64)) true, Blk.cells (c.map (C.int .i64)) true]) := by
    intro live e c z he
    rw [gcE_told (L := [0, 1, 2]) (by rw [he]; simp [gcL, upto, reach, idsAt]) (by rw [he]; simp [closed, inL, idsAt])]
    simp [sub]
  rw [fb (fn := a55) rfl rfl]
  simp [a55, hr]
  have hz : ∀ z : List C, z = [C.int .i64 0, C.int .i64 0, C.int .i64 0, C.int .i64 0, C.int .i64 0, C.int .i64 0] → z = ([0, 0, 0, 0, 0, 0] : List Int).map (C.int .i64) := fun z h => h
  generalize hL1 : (ACode.loop _ [1, 2, 3, 4]) = L1
  generalize hR : (ACode.seq _ ACode.ret) = R
  have key : ∀ (d i : Nat) (c : List Int), i + d = 6 → small c (4 * i) → leaveK 0 [RV.cell 2 6 true] (seqK pr np 0 R (blockK 0 (exI pr np 0 L1 [(1, V.c (C.ptr 0 0)), (2, V.c (C.ptr 1 0)), (3, V.c (C.ptr 2 0)), (4, V.c (C.int .i64 i))] [Blk.cells (r.map (C.int .i64)) true, Blk.cells (([0, 0, 0, 0, 0, 0] : List Int).map (C.int .i64)) true, Blk.cells (c.map (C.int .i64)) true]))) = some (V.agg ((bumps r c (i * 4) (d * 4)).map (C.int .i64)), []) := by
    intro d
    induction d with
    | zero =>
      intro i c hi hc
      have hi : i = 6 := by omega
      subst hi
      have hc6 : c.length = 6 := hc.1
      have ht6 : (c.map (C.int .i64)).take 6 = c.map (C.int .i64) := List.take_of_length_le (by simp; omega)
      rw [← hL1, exI_loop', hgc _ _ _ _ (by simp [envIds])]
      have hsa : setAt [C.int .i64 0, C.int .i64 0, C.int .i64 0, C.int .i64 0, C.int .i64 0, C.int .i64 0] 0 (c.map (C.int .i64)) = c.map (C.int .i64) := setAt_all _ _ (by simp [hc6])
      simp [bumps, ← hR, pos, hc6, ht6, hsa]
    | succ d ih =>
      intro i c hin hc
      have hi : i < 6 := by omega
      have hi' : (i : Int) < 6 := by omega
      have hw : IntKind.i64.wrap ((i : Int) + 1) = ((i + 1 : Nat) : Int) := by rw [wrapI (by omega) (by omega)]; rfl
      rw [← hL1, exI_loop', hgc _ _ _ _ (by simp [envIds])]
      simp [pos, hi']
      generalize hL2 : (ACode.loop _ [1, 2, 3, 4, 5]) = L2
      have key2 : ∀ (d k : Nat) (c : List Int), k + d = 4 → small c (4 * i + k) → exI pr np 0 L2 [(1, V.c (C.ptr 0 0)), (2, V.c (C.ptr 1 0)), (3, V.c (C.ptr 2 0)), (4, V.c (C.int .i64 i)), (5, V.c (C.int .i64 k))] [Blk.cells (r.map (C.int .i64)) true, Blk.cells (([0, 0, 0, 0, 0, 0] : List Int).map (C.int .i64)) true, Blk.cells (c.map (C.int .i64)) true] = some (.exit 2, [(1, V.c (C.ptr 0 0)), (2, V.c (C.ptr 1 0)), (3, V.c (C.ptr 2 0)), (4, V.c (C.int .i64 i)), (5, V.c (C.int .i64 4)), (12, V.c (C.bool false))], [Blk.cells (r.map (C.int .i64)) true, Blk.cells (([0, 0, 0, 0, 0, 0] : List Int).map (C.int .i64)) true, Blk.cells ((bumps r c (i * 4 + k) d).map (C.int .i64)) true]) := by
        intro d
        induction d with
        | zero =>
          intro k c hk hc
          have hk : k = 4 := by omega
          subst hk
          rw [← hL2, exI_loop', hgc _ _ _ _ (by simp [envIds])]
          simp [bumps, pos]
        | succ d ih2 =>
          intro k c hk hc
          have hk4 : k < 4 := by omega
          have hk' : (k : Int) < 4 := by omega
          have hwk : IntKind.i64.wrap ((k : Int) + 1) = ((k + 1 : Nat) : Int) := by rw [wrapI (by omega) (by omega)]; rfl
          have hx := take1 (c := r) (j := i * 4 + k) (by omega)
          obtain ⟨hx0, hx5⟩ := rack_cell hr hv hi hk4
          have hx0' : 0 ≤ r.getD (i * 4 + k) 0 := hx0
          have hx6' : r.getD (i * 4 + k) 0 < 6 := by have : r.getD (i * 4 + k) 0 ≤ 5 := hx5; omega
          have hlen : i * 4 + k + 1 ≤ 24 := by omega
          generalize hxv : r.getD (i * 4 + k) 0 = x at hx hx0' hx6'
          have hxc : cellAt r (i * 4 + k) = x := hxv
          have hcl : c.length = 6 := hc.1
          have hxn : x.toNat < 6 := by omega
          have hxn1 : x.toNat + 1 ≤ 6 := by omega
          have hy := take1 (c := c) (j := x.toNat) (by omega)
          have hyr : 0 ≤ c.getD x.toNat 0 ∧ c.getD x.toNat 0 ≤ 4 * i + k := by
            rw [List.getD_eq_getElem?_getD, List.getElem?_eq_getElem (by omega)]
            exact hc.2 _ (List.getElem_mem _)
          have hwy : IntKind.i64.wrap (c.getD x.toNat 0 + 1) = c.getD x.toNat 0 + 1 := wrapI (by omega) (by omega)
          have hset := setAt_one c x.toNat (c.getD x.toNat 0 + 1)
          have ih2 := ih2 (k + 1) (bump c x) (by omega) (by have := small_bump (x := x) hc; rwa [show (4 * (i : Int) + ((k + 1 : Nat) : Int)) = 4 * i + k + 1 by omega])
          generalize hyv : c.getD x.toNat 0 = y at hy hwy hset
          have hbump : bump c x = c.set x.toNat (y + 1) := by unfold bump; rw [hyv]
          rw [← hL2, exI_loop', hgc _ _ _ _ (by simp [envIds])]
          simp only [List.map_cons, List.map_nil] at ih2 ⊢
          simp [pos, hi', hk', hi, hk4, hr, hx, hlen, hx0', hx6', hcl, hxn, hxn1, hy, hwy, hwk, -setAt, hset]
          rw [hL2]
          refine (Eq.trans ?_ ih2).trans ?_
          · rw [hbump]; simp
          · simp [bumps, hxc, Nat.add_assoc]
      have k2 := key2 4 0 c rfl (by simpa using hc)
      simp only [List.map_cons, List.map_nil] at k2
      push_cast at k2
      rw [k2]
      have ih := ih (i + 1) (bumps r c (i * 4) 4) (by omega) (by have := small_bumps r 4 c (i * 4) _ hc; rwa [show (4 * ((i + 1 : Nat) : Int)) = 4 * i + ((4 : Nat) : Int) by omega])
      simp [hw]
      rw [← hL2, hL1]
      simp only [List.map_cons, List.map_nil] at ih
      refine ih.trans ?_
      rw [show (d + 1) * 4 = 4 + d * 4 by omega, bumps_add, show i * 4 + 4 = (i + 1) * 4 by omega]
  exact (key 6 0 [0, 0, 0, 0, 0, 0] rfl (by simpa using zeros6)).trans (by simp)
end Go.Proofs.Ytenheijeahpbkaa.AM
