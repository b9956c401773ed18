import Derived.Test.YthpookdfaikabaaGreatDoorRepA
import Derived.Test.YthpookdfaikabaaGreatDoorRepD
/- Contracts: what the draws read out of bytes: some number in a range, with the cursor moved on. -/
namespace Go.Proofs.YthpookdfaikabaaGreatDoor.AM
open Go
set_option maxRecDepth 1000000
set_option linter.unusedSimpArgs false
set_option linter.unusedVariables false
/-- the test of a call that may write, where no far place is named: told at once (its unfolding makes proofs too deep for the kernel) -/
@[simp ↓ high] theorem farE_small {ks : List Nat} {e : Env} {us : List (Nat × Blk)} (h : (ks.all fun j => decide (j < 1000000)) = true) : farE ks e us = true := by
  unfold farE
  rw [List.all_eq_true]
  intro p _
  rw [List.all_eq_true] at h ⊢
  intro j hj
  rw [h j hj, Bool.true_or]
/-- one far place -/
theorem farE_one {ks : List Nat} {t : Nat} (h : (ks.all fun j => decide (j < 1000000) || decide (j = t + 1000000)) = true) (hm : (ks.contains (t + 1000000)) = true) (e : Env) (us : List (Nat × Blk)) : farE ks e us = us.all fun p => decide (idOf (get e t) ≠ some p.1) := by
  unfold farE
  congr 1
  funext p
  rw [Bool.eq_iff_iff, List.all_eq_true, decide_eq_true_eq]
  rw [List.all_eq_true] at h
  constructor
  · intro hx
    have := hx (t + 1000000) (by simpa using hm)
    rw [Nat.add_sub_cancel, decide_eq_false (show ¬ t + 1000000 < 1000000 by omega)] at this
    simpa using this
  · intro hx j hj
    have := h j hj
    simp only [Bool.or_eq_true, decide_eq_true_eq] at this ⊢
    rcases this with h1 | h1
    · exact .inl h1
    · right
      rw [h1, Nat.add_sub_cancel]
      exact hx
/-- a cursor: the bytes lie in block j -/
def curB (j n p : Nat) (s : Int) : Blk := .cells [.sl j 0 n 1, .int .i64 p, .int .u64 s] true
def byB (bs : List Int) (o : Bool) : Blk := .cells (bs.map (C.int .u8)) o
structure Bytes (bs : List Int) : Prop where
  rg : ∀ x ∈ bs, 0 ≤ x ∧ x < 256
  len : bs.length ≤ 1000000000
@[simp] theorem byB_ids (bs : List Int) (o : Bool) : (byB bs o).ids = [] := by simp [byB]
@[simp] theorem curB_ids (j n p : Nat) (s : Int) : (curB j n p s).ids = [j] := rfl
@[simp] theorem byB_mp (g : Nat → Nat) (bs : List Int) (o : Bool) : (byB bs o).mp g = byB bs o := mp_ids (by simp) g
@[simp] theorem curB_mp (g : Nat → Nat) (j n p : Nat) (s : Int) : (curB j n p s).mp g = curB (g j) n p s := rfl
theorem by_take1 {bs : List Int} {j : Nat} (h : j < bs.length) : ((bs.map (C.int .u8)).drop j).take 1 = [C.int .u8 (bs.getD j 0)] := by
  rw [List.drop_eq_getElem_cons (by simpa using h)]
  simp [List.getD_eq_getElem?_getD, List.getElem?_eq_getElem h]
theorem and255 (a : Nat) : ∃ z : Nat, z ≤ 255 ∧ IntKind.i64.wrap (IntKind.u64.wrap ((a &&& 255 % 2 ^ IntKind.u64.bits : Nat) : Int)) = (z : Int) := by
  have h : (a &&& 255 % 2 ^ IntKind.u64.bits : Nat) ≤ 255 := Nat.le_trans Nat.and_le_right (by decide)
  refine ⟨_, h, ?_⟩
  generalize (a &&& 255 % 2 ^ IntKind.u64.bits : Nat) = z at *
  have e : IntKind.u64.wrap (z : Int) = (z : Int) := by
    simp [IntKind.wrap, IntKind.bits, IntKind.signed]
    omega
  rw [e]
  exact wrapI (by omega) (by omega)
theorem c_next (bs : List Int) (hb : Bytes bs) (o : Bool) (p : Nat) (hp : p < 1000000000) (s : Int) : ∃ (x : Nat) (s' : Int), x ≤ 255 ∧ fnI pr np 80 [.c (.ptr 0 0)] [curB 1 bs.length p s, byB bs o] = some (.c (.int .i64 x), [curB 1 bs.length (p + 1) s', byB bs o]) := by
  have hlen := hb.len
  have wp := wrapS (k := p) (by omega)
  rw [fb (fn := a80) rfl rfl rfl]
  unfold curB byB
  by_cases h : p < bs.length
  · have g := by_take1 h
    have hm : bs.getD p 0 ∈ bs := by
      rw [List.getD_eq_getElem?_getD, List.getElem?_eq_getElem h]
      exact List.getElem_mem _
    obtain ⟨x1, x2⟩ := hb.rg _ hm
    generalize bs.getD p 0 = x at *
    obtain ⟨X, rfl⟩ : ∃ X : Nat, x = (X : Int) := ⟨x.toNat, by omega⟩
    have wx : IntKind.i64.wrap (X : Int) = (X : Int) := wrapI (by omega) (by omega)
    have b1 : p + 1 ≤ bs.length := by omega
    have hle : (p : Int) + 1 ≤ (bs.length : Int) := by omega
    refine ⟨X, IntKind.u64.wrap (IntKind.u64.wrap (IntKind.u64.wrap (s * 6364136223846793005) + IntKind.u64.wrap X) + 462197), by omega, ?_⟩
    simp [a80, h, g, wp, wx, b1, hle, setAt, stillE, madeA, idOf, sub]
  · by_cases h2 : p + 1 ≤ bs.length
    · omega
    · have hle : ¬ (p : Int) + 1 ≤ (bs.length : Int) := by omega
      have h' : ¬ (p : Int) < (bs.length : Int) := by omega
      obtain ⟨z, hz, hw⟩ := and255 (((IntKind.u64.wrap (IntKind.u64.wrap (IntKind.u64.wrap (s * 6364136223846793005) + IntKind.u64.wrap 0) + 462197)).fdiv (2 ^ min 40 IntKind.u64.bits) % 2 ^ IntKind.u64.bits).toNat)
      refine ⟨z, IntKind.u64.wrap (IntKind.u64.wrap (IntKind.u64.wrap (s * 6364136223846793005) + IntKind.u64.wrap 0) + 462197), hz, ?_⟩
      simp [a80, h, h', h2, wp, hle, setAt, stillE, madeA, idOf, binShift, binI, sub]
      exact hw
/-- a call with the cursor (and values that name no block), wherever it lies -/
theorem call_cur {F : Fns} {f n p p' : Nat} {s s' : Int} {bs : List Int} {o : Bool} {rest : List V} {v : V} (hre : rest.flatMap V.ids = []) (hF : F f (.c (.ptr 0 0) :: rest) [curB 1 n p s, byB bs o] = some (v, [curB 1 n p' s', byB bs o])) (i j : Nat) (H : HF) (base : Nat) (hij : (i != j) = true) (hi : (H i == some (curB j n p s)) = true) (hj : (H j == some (byB bs o)) = true) :
    callA F f (.c (.ptr i 0) :: rest) H base = some (v.mp (back [i, j] base), [], [(i, curB j n p' s'), (j, byB bs o)]) := by
  have hi : H i = some (curB j n p s) := by simpa using hi
  have hj : H j = some (byB bs o) := by simpa using hj
  have hij : i ≠ j := by simpa using hij
  have hji : ¬ j = i := fun e => hij e.symm
  have h := callA_gen (F := F) (f := f) (args := .c (.ptr i 0) :: rest) (H := H) (L := [i, j]) (by simp [hre, reach, idsAt, hi, hj, hji]) (by simp [closed, hi, hj, idsAt, inL, hre]) (show sub [i, j] H = [curB 1 n p s, byB bs o] by simp [sub, hi, hj, pos, hij]) (show (V.c (.ptr i 0) :: rest).map (V.mp (pos [i, j])) = .c (.ptr 0 0) :: rest by rw [List.map_cons, mps_pure hre]; simp [pos]) hF (by simp) base
  rw [h]
  simp [back]
theorem c_pick (bs : List Int) (hb : Bytes bs) (o : Bool) (p : Nat) (hp : p + 2 < 1000000000) (s : Int) (n : Int) (h0 : 0 ≤ n) (hn : n ≤ 60000) : ∃ (x p' : Nat) (s' : Int), ((x : Int) < n ∨ x = 0) ∧ p' ≤ p + 2 ∧ fnI pr np 55 [.c (.ptr 0 0), .c (.int .i64 n)] [curB 1 bs.length p s, byB bs o] = some (.c (.int .i64 x), [curB 1 bs.length p' s', byB bs o]) := by
  obtain ⟨N, rfl⟩ : ∃ N : Nat, n = (N : Int) := ⟨n.toNat, by omega⟩
  by_cases h1 : N ≤ 1
  · refine ⟨0, p, s, .inr rfl, by omega, ?_⟩
    rw [fb (fn := a55) rfl rfl rfl]
    have h1' : (N : Int) ≤ 1 := by omega
    simp [a55, h1, h1', sub]
  · have h1' : ¬ (N : Int) ≤ 1 := by omega
    obtain ⟨x, s1, hx, hF⟩ := c_next bs hb o p (by omega) s
    have hc := call_cur (rest := []) rfl hF 0 1
    have hz : ¬ (N : Int) = 0 := by omega
    have hz2 : ¬ N = 0 := by omega
    by_cases h2 : 200 < N
    · have h2' : (200 : Int) < (N : Int) := by omega
      obtain ⟨y, s2, hy, hF2⟩ := c_next bs hb o (p + 1) (by omega) s1
      have hc2 := call_cur (rest := []) rfl hF2 0 1
      have w1 : IntKind.i64.wrap ((x : Int) * 256) = ((x * 256 : Nat) : Int) := (wrapI (by omega) (by omega)).trans (by omega)
      have w2 : IntKind.i64.wrap (((x * 256 : Nat) : Int) + (y : Int)) = ((x * 256 + y : Nat) : Int) := (wrapI (by omega) (by omega)).trans (by omega)
      have ht : ((x * 256 + y : Nat) : Int).tmod (N : Int) = (((x * 256 + y) % N : Nat) : Int) := rfl
      have hlt : (x * 256 + y) % N < N := Nat.mod_lt _ (by omega)
      have w3 : IntKind.i64.wrap (((x * 256 + y) % N : Nat) : Int) = (((x * 256 + y) % N : Nat) : Int) := wrapI (by omega) (by omega)
      refine ⟨(x * 256 + y) % N, p + 2, s2, .inl (by omega), by omega, ?_⟩
      rw [fb (fn := a55) rfl rfl rfl]
      generalize (x * 256 + y) % N = z at *
      generalize x * 256 + y = u at *
      generalize x * 256 = t at *
      simp [a55, h1, h1', h2, h2', hz, hz2, hc, hc2, w1, w2, ht, w3, stillE, madeA, idOf, sub]
    · have h2' : ¬ (200 : Int) < (N : Int) := by omega
      have ht : (x : Int).tmod (N : Int) = ((x % N : Nat) : Int) := rfl
      have hlt : x % N < N := Nat.mod_lt _ (by omega)
      have w3 : IntKind.i64.wrap ((x % N : Nat) : Int) = ((x % N : Nat) : Int) := wrapI (by omega) (by omega)
      refine ⟨x % N, p + 1, s1, .inl (by omega), by omega, ?_⟩
      rw [fb (fn := a55) rfl rfl rfl]
      generalize x % N = z at *
      simp [a55, h1, h1', h2, h2', hz, hz2, hc, ht, w3, stillE, madeA, idOf, sub]
theorem c_one (bs : List Int) (hb : Bytes bs) (o : Bool) (p : Nat) (hp : p + 2 < 1000000000) (s : Int) (n : Int) (h0 : 0 ≤ n) (hn : n ≤ 60000) : ∃ (q : Bool) (p' : Nat) (s' : Int), p' ≤ p + 2 ∧ fnI pr np 42 [.c (.ptr 0 0), .c (.int .i64 n)] [curB 1 bs.length p s, byB bs o] = some (.c (.bool q), [curB 1 bs.length p' s', byB bs o]) := by
  obtain ⟨x, p', s', _, hp', hF⟩ := c_pick bs hb o p hp s n h0 hn
  have hc := call_cur (rest := [.c (.int .i64 n)]) rfl hF 0 1
  refine ⟨(x : Int) == 0, p', s', hp', ?_⟩
  rw [fb (fn := a42) rfl rfl rfl]
  simp [a42, hc, sub]
theorem c_among (bs : List Int) (hb : Bytes bs) (o : Bool) (p : Nat) (hp : p + 2 < 1000000000) (s : Int) (xs : List Int) (h0 : 0 < xs.length) (hn : xs.length ≤ 60000) : ∃ (x : Int) (p' : Nat) (s' : Int), x ∈ xs ∧ p' ≤ p + 2 ∧ fnI pr np 28 [.c (.ptr 0 0), .c (.sl 1 0 xs.length 1)] [curB 2 bs.length p s, .cells (xs.map (C.int .i64)) true, byB bs o] = some (.c (.int .i64 x), [curB 2 bs.length p' s', .cells (xs.map (C.int .i64)) true, byB bs o]) := by
  obtain ⟨x, p', s', hx, hp', hF⟩ := c_pick bs hb o p hp s xs.length (by omega) (by omega)
  have hc := call_cur (rest := [.c (.int .i64 xs.length)]) rfl hF 0 2
  have hxl : x < xs.length := by omega
  have g := drop_take1 hxl
  have hm : xs.getD x 0 ∈ xs := by
    rw [List.getD_eq_getElem?_getD, List.getElem?_eq_getElem hxl]
    exact List.getElem_mem _
  have b1 : x + 1 ≤ xs.length := by omega
  refine ⟨xs.getD x 0, p', s', hm, hp', ?_⟩
  rw [fb (fn := a28) rfl rfl rfl]
  generalize xs.getD x 0 = y at *
  simp [a28, hc, hxl, g, b1, sub]
theorem call_among {F : Fns} {f n p p' m : Nat} {s s' : Int} {bs : List Int} {o : Bool} {b : Blk} {v : V} (hbi : b.ids = []) (hF : F f [.c (.ptr 0 0), .c (.sl 1 0 m 1)] [curB 2 n p s, b, byB bs o] = some (v, [curB 2 n p' s', b, byB bs o])) (i k j : Nat) (H : HF) (base : Nat) (hij : (i != j) = true) (hik : (i != k) = true) (hkj : (k != j) = true) (hi : (H i == some (curB j n p s)) = true) (hk : (H k == some b) = true) (hj : (H j == some (byB bs o)) = true) :
    callA F f [.c (.ptr i 0), .c (.sl k 0 m 1)] H base = some (v.mp (back [i, k, j] base), [], [(i, curB j n p' s'), (k, b), (j, byB bs o)]) := by
  have hi : H i = some (curB j n p s) := by simpa using hi
  have hj : H j = some (byB bs o) := by simpa using hj
  have hk : H k = some b := by simpa using hk
  have hij : i ≠ j := by simpa using hij
  have hik : i ≠ k := by simpa using hik
  have hkj : k ≠ j := by simpa using hkj
  have hji : ¬ j = i := fun e => hij e.symm
  have hki : ¬ k = i := fun e => hik e.symm
  have hjk : ¬ j = k := fun e => hkj e.symm
  have h := callA_gen (F := F) (f := f) (args := [.c (.ptr i 0), .c (.sl k 0 m 1)]) (H := H) (L := [i, k, j]) (by simp [reach, idsAt, hi, hj, hk, hbi, hji, hki, hjk, hik, hkj, hij]) (by simp [closed, hi, hj, hk, hbi, idsAt, inL]) (show sub [i, k, j] H = [curB 2 n p s, b, byB bs o] by simp [sub, hi, hj, hk, pos, hij, hik, hkj, mp_ids hbi]) (show _ = [.c (.ptr 0 0), .c (.sl 1 0 m 1)] by simp [pos, hik]) hF (by simp) base
  rw [h]
  simp [back, mp_ids hbi]
end Go.Proofs.YthpookdfaikabaaGreatDoor.AM

/- Contracts: a rack is drawn. -/
namespace Go.Proofs.YthpookdfaikabaaGreatDoor.AM
open Go
set_option maxRecDepth 1000000
set_option linter.unusedSimpArgs false
set_option linter.unusedVariables false
/-- a value that lies in a list of literals lies between bounds -/
theorem lit_range {xs : List Int} {x lo hi : Int} (h : (xs.all fun y => decide (lo ≤ y) && decide (y ≤ hi)) = true) (hx : x ∈ xs) : lo ≤ x ∧ x ≤ hi := by
  have := List.all_eq_true.1 h x hx
  simpa using this
/-- one store of an int into a rack's cells -/
theorem put_one {r : List Int} (hr : r.length = 24) (i : Nat) (x : Int) : ∃ r' : List Int, r'.length = 24 ∧ (r.map (C.int .i64)).set i (C.int .i64 x) = r'.map (C.int .i64) := ⟨r.set i x, by simp [hr], set_ints r i x⟩
theorem put_four {r : List Int} (hr : r.length = 24) (i : Nat) (xs : List Int) : ∃ r' : List Int, r'.length = 24 ∧ setAt (r.map (C.int .i64)) i (xs.map (C.int .i64)) = r'.map (C.int .i64) := ⟨setI r i xs, by rw [setI_len, hr], setAt_ints xs r i⟩
/-- invariants: the filling of tubes, of one tube, the clearing of tubes, of one tube -/
def IvA (bs : List Int) (o : Bool) (c : Int) (T q k : Nat) (st : Env × Heap) : Prop := ∃ (R : List Int) (p' : Nat) (s' : Int), R.length = 24 ∧ p' ≤ q + 40 * k ∧ st = ([(0, V.c (C.ptr 0 0)), (2, V.c (C.ptr 2 0)), (3, V.c (C.ptr 3 0)), (4, V.c (C.int .i64 c)), (5, V.c (C.int .i64 T)), (6, V.c (C.int .i64 k))], [curB 1 bs.length p' s', byB bs o, Blk.cells (List.replicate 24 (C.int .i64 0)) true, Blk.cells (R.map (C.int .i64)) true])
def RsA (bs : List Int) (o : Bool) (c : Int) (T q : Nat) (r : Ex × Env × Heap) : Prop := ∃ (R : List Int) (p' : Nat) (s' i : Int), R.length = 24 ∧ p' ≤ q + 240 ∧ r = (.exit 0, [(0, V.c (C.ptr 0 0)), (2, V.c (C.ptr 2 0)), (3, V.c (C.ptr 3 0)), (4, V.c (C.int .i64 c)), (5, V.c (C.int .i64 T)), (6, V.c (C.int .i64 i)), (23, V.c (C.bool false))], [curB 1 bs.length p' s', byB bs o, Blk.cells (List.replicate 24 (C.int .i64 0)) true, Blk.cells (R.map (C.int .i64)) true])
def IvB (bs : List Int) (o : Bool) (c : Int) (T q i k : Nat) (st : Env × Heap) : Prop := ∃ (R : List Int) (p' : Nat) (s' : Int), R.length = 24 ∧ p' ≤ q + 6 * k ∧ st = ([(0, V.c (C.ptr 0 0)), (2, V.c (C.ptr 2 0)), (3, V.c (C.ptr 3 0)), (4, V.c (C.int .i64 c)), (5, V.c (C.int .i64 T)), (6, V.c (C.int .i64 i)), (7, V.c (C.int .i64 k))], [curB 1 bs.length p' s', byB bs o, Blk.cells (List.replicate 24 (C.int .i64 0)) true, Blk.cells (R.map (C.int .i64)) true])
def RsB (bs : List Int) (o : Bool) (c : Int) (T q i : Nat) (r : Ex × Env × Heap) : Prop := ∃ (R : List Int) (p' : Nat) (s' k : Int), R.length = 24 ∧ p' ≤ q + 36 ∧ r = (.exit 2, [(0, V.c (C.ptr 0 0)), (2, V.c (C.ptr 2 0)), (3, V.c (C.ptr 3 0)), (4, V.c (C.int .i64 c)), (5, V.c (C.int .i64 T)), (6, V.c (C.int .i64 i)), (7, V.c (C.int .i64 k)), (30, V.c (C.bool false))], [curB 1 bs.length p' s', byB bs o, Blk.cells (List.replicate 24 (C.int .i64 0)) true, Blk.cells (R.map (C.int .i64)) true, Blk.cells [C.int .i64 4, C.int .i64 3, C.int .i64 4, C.int .i64 2, C.int .i64 1, C.int .i64 0] true])
def IvC (bs : List Int) (o : Bool) (p3 : Nat) (s3 : Int) (k : Nat) (st : Env × Heap) : Prop := ∃ (R : List Int), R.length = 24 ∧ st = ([(0, V.c (C.ptr 0 0)), (2, V.c (C.ptr 2 0)), (3, V.c (C.ptr 3 0)), (8, V.c (C.int .i64 k))], [curB 1 bs.length p3 s3, byB bs o, Blk.cells (List.replicate 24 (C.int .i64 0)) true, Blk.cells (R.map (C.int .i64)) true])
def RsC (bs : List Int) (o : Bool) (p3 : Nat) (s3 : Int) (r : Ex × Env × Heap) : Prop := ∃ (R : List Int) (i : Int), R.length = 24 ∧ r = (.exit 4, [(0, V.c (C.ptr 0 0)), (2, V.c (C.ptr 2 0)), (3, V.c (C.ptr 3 0)), (8, V.c (C.int .i64 i)), (61, V.c (C.bool false))], [curB 1 bs.length p3 s3, byB bs o, Blk.cells (List.replicate 24 (C.int .i64 0)) true, Blk.cells (R.map (C.int .i64)) true])
def IvD (bs : List Int) (o : Bool) (p3 : Nat) (s3 : Int) (i k : Nat) (st : Env × Heap) : Prop := ∃ (R : List Int), R.length = 24 ∧ st = ([(0, V.c (C.ptr 0 0)), (2, V.c (C.ptr 2 0)), (3, V.c (C.ptr 3 0)), (8, V.c (C.int .i64 i)), (9, V.c (C.int .i64 ((k + 1 : Nat) : Int)))], [curB 1 bs.length p3 s3, byB bs o, Blk.cells (List.replicate 24 (C.int .i64 0)) true, Blk.cells (R.map (C.int .i64)) true])
def RsD (bs : List Int) (o : Bool) (p3 : Nat) (s3 : Int) (i : Nat) (r : Ex × Env × Heap) : Prop := ∃ (R : List Int) (k : Int), R.length = 24 ∧ r = (.exit 6, [(0, V.c (C.ptr 0 0)), (2, V.c (C.ptr 2 0)), (3, V.c (C.ptr 3 0)), (8, V.c (C.int .i64 i)), (9, V.c (C.int .i64 k)), (65, V.c (C.bool false))], [curB 1 bs.length p3 s3, byB bs o, Blk.cells (List.replicate 24 (C.int .i64 0)) true, Blk.cells (R.map (C.int .i64)) true])
/-- what a drawn rack is -/
def RkP (bs : List Int) (o : Bool) (p : Nat) (v : V) (h' : Heap) : Prop := ∃ (R : List Int) (p' : Nat) (s' : Int), R.length = 24 ∧ p' ≤ p + 400 ∧ v = .agg (R.map (C.int .i64)) ∧ h' = [curB 1 bs.length p' s', byB bs o]
set_option maxHeartbeats 16000000 in
theorem c_rack (bs : List Int) (hb : Bytes bs) (o : Bool) (p : Nat) (hp : p + 1000 < 1000000000) (s : Int) : ∃ (v : V) (h' : Heap), fnI pr np 81 [.c (.ptr 0 0)] [curB 1 bs.length p s, byB bs o] = some (v, h') ∧ RkP bs o p v h' := by
  obtain ⟨c, p1, s1, hc, hp1, hF1⟩ := c_among bs hb o p (by omega) s [2, 3, 2, 4, 5, 1] (by decide) (by decide)
  have hc := lit_range (lo := 1) (hi := 5) (by decide) hc
  obtain ⟨t, p2, s2, ht, hp2, hF2⟩ := c_among bs hb o p1 (by omega) s1 [3, 4, 2, 5, 6] (by decide) (by decide)
  have ht := lit_range (lo := 2) (hi := 6) (by decide) ht
  obtain ⟨T, rfl⟩ : ∃ T : Nat, t = (T : Int) := ⟨t.toNat, by omega⟩
  have k1 := call_among (by simp) hF1 0 3 1
  have k2 := call_among (by simp) hF2 0 4 1
  simp at k1 k2
  rw [fb (fn := a81) rfl rfl rfl]
  simp [a81, k1, k2, setAt_all]
  generalize hX : exI pr np 2 (ACode.loop _ _) _ _ = X
  have hl := loop_exit hX (IvA bs o c T p2) T (RsA bs o c T p2) ⟨([(0, V.c (C.ptr 0 0)), (2, V.c (C.ptr 2 0)), (3, V.c (C.ptr 3 0)), (4, V.c (C.int .i64 c)), (5, V.c (C.int .i64 T)), (6, V.c (C.int .i64 0))], [curB 1 bs.length p2 s2, byB bs o, Blk.cells (List.replicate 24 (C.int .i64 0)) true, Blk.cells ((List.replicate 24 0).map (C.int .i64)) true]), by simp, List.replicate 24 0, p2, s2, by simp, by omega, rfl⟩ ?_
  · obtain ⟨r, rfl, R, p3, s3, i, hR, hp3, rfl⟩ := hl
    clear hX
    simp
    generalize hX : exI pr np 2 (ACode.loop _ _) _ _ = X
    have hl := loop_exit hX (IvC bs o p3 s3) 6 (RsC bs o p3 s3) ⟨([(0, V.c (C.ptr 0 0)), (2, V.c (C.ptr 2 0)), (3, V.c (C.ptr 3 0)), (8, V.c (C.int .i64 0))], [curB 1 bs.length p3 s3, byB bs o, Blk.cells (List.replicate 24 (C.int .i64 0)) true, Blk.cells (R.map (C.int .i64)) true]), by simp, R, hR, rfl⟩ ?_
    · obtain ⟨r, rfl, R, i, hR, rfl⟩ := hl
      clear hX
      obtain ⟨q1, p4, s4, hp4, hG1⟩ := c_one bs hb o p3 (by omega) s3 3 (by decide) (by decide)
      have g1 := call_cur (rest := [.c (.int .i64 3)]) rfl hG1 0 1
      cases q1 with
      | false =>
        obtain ⟨z, pz, sz, hz, hpz, hGz⟩ := c_pick bs hb o p4 (by omega) s4 40 (by decide) (by decide)
        have gz := call_cur (rest := [.c (.int .i64 40)]) rfl hGz 0 1
        have r24 := take24 hR
        by_cases z0 : (z : Int) = 0
        · obtain ⟨x, px, sx, hx, hpx, hGx⟩ := c_pick bs hb o pz (by omega) sz 6 (by decide) (by decide)
          have gx := call_cur (rest := [.c (.int .i64 6)]) rfl hGx 0 1
          obtain ⟨y, py, sy, hy, hpy, hGy⟩ := c_pick bs hb o px (by omega) sx 4 (by decide) (by decide)
          have gy := call_cur (rest := [.c (.int .i64 4)]) rfl hGy 0 1
          obtain ⟨w, pw, sw, hw, hpw, hGw⟩ := c_among bs hb o py (by omega) sy [-1, 6, 4611686018427387904] (by decide) (by decide)
          have gw := call_among (by simp) hGw 0 4 1
          simp at gw
          have x6 : x < 6 := by omega
          have x6' : (x : Int) < 6 := by omega
          have y4 : y < 4 := by omega
          have y4' : (y : Int) < 4 := by omega
          have b1 : x * 4 + y + 1 ≤ 24 := by omega
          obtain ⟨R9, hR9, hset⟩ := put_one hR (x * 4 + y) w
          have r9 := take24 hR9
          have z0' : z = 0 := by omega
          subst z0'
          simp [g1, gz, gx, gy, gw, hR, hR9, x6, x6', y4, y4', b1, hset, r9, setAt_all, setAt, stillE, madeA, idOf]
          first | exact ⟨R9, pw, sw, hR9, by omega, rfl, rfl⟩ | exact ⟨_, _, ⟨rfl, rfl⟩, R9, pw, sw, hR9, by omega, rfl, rfl⟩ | exact ⟨_, _, rfl, R9, pw, sw, hR9, by omega, rfl, rfl⟩
        · by_cases z1 : (z : Int) = 1
          · obtain ⟨x, px, sx, hx, hpx, hGx⟩ := c_pick bs hb o pz (by omega) sz 6 (by decide) (by decide)
            have gx := call_cur (rest := [.c (.int .i64 6)]) rfl hGx 0 1
            have x6 : x < 6 := by omega
            have x6' : (x : Int) < 6 := by omega
            have b1 : x * 4 + 4 ≤ 24 := by omega
            obtain ⟨Ra, hRa, seta⟩ := put_one hR (x * 4) 0
            obtain ⟨Rb, hRb, setb⟩ := put_one hRa (x * 4 + 1) 1
            obtain ⟨Rc, hRc, setc⟩ := put_one hRb (x * 4 + 1 + 1) 0
            obtain ⟨R9, hR9, setd⟩ := put_one hRc (x * 4 + 1 + 1 + 1) 0
            have r9 := take24 hR9
            have z1' : z = 1 := by omega
            subst z1'
            simp [g1, gz, gx, hR, hR9, x6, x6', b1, seta, setb, setc, setd, r9, setAt_all, setAt, stillE, madeA, idOf]
            first | exact ⟨R9, px, sx, hR9, by omega, rfl, rfl⟩ | exact ⟨_, _, ⟨rfl, rfl⟩, R9, px, sx, hR9, by omega, rfl, rfl⟩ | exact ⟨_, _, rfl, R9, px, sx, hR9, by omega, rfl, rfl⟩
          · by_cases z2 : (z : Int) = 2
            · have z2' : z = 2 := by omega
              subst z2'
              simp [g1, gz, hR, r24, setAt_all, setAt, stillE, madeA, idOf]
              first | exact ⟨(List.replicate 24 0), pz, sz, (by simp), by omega, rfl, rfl⟩ | exact ⟨_, _, ⟨rfl, rfl⟩, (List.replicate 24 0), pz, sz, (by simp), by omega, rfl, rfl⟩ | exact ⟨_, _, rfl, (List.replicate 24 0), pz, sz, (by simp), by omega, rfl, rfl⟩
            · have y0 : ¬ z = 0 := by omega
              have y1 : ¬ z = 1 := by omega
              have y2 : ¬ z = 2 := by omega
              simp [g1, gz, hR, z0, z1, z2, y0, y1, y2, r24, setAt_all, setAt, stillE, madeA, idOf]
              first | exact ⟨R, pz, sz, hR, by omega, rfl, rfl⟩ | exact ⟨_, _, ⟨rfl, rfl⟩, R, pz, sz, hR, by omega, rfl, rfl⟩ | exact ⟨_, _, rfl, R, pz, sz, hR, by omega, rfl, rfl⟩
      | true =>
        obtain ⟨u, pu, su, hu, hpu, hGu⟩ := c_pick bs hb o p4 (by omega) s4 6 (by decide) (by decide)
        have gu := call_cur (rest := [.c (.int .i64 6)]) rfl hGu 0 1
        obtain ⟨v, pv, sv, hv, hpv, hGv⟩ := c_pick bs hb o pu (by omega) su 6 (by decide) (by decide)
        have gv := call_cur (rest := [.c (.int .i64 6)]) rfl hGv 0 1
        have u6 : u < 6 := by omega
        have u6' : (u : Int) < 6 := by omega
        have v6 : v < 6 := by omega
        have v6' : (v : Int) < 6 := by omega
        have bu : u * 4 + 4 ≤ 24 := by omega
        have bv : v * 4 + 4 ≤ 24 := by omega
        have tu := cells_tube R u
        have tv := cells_tube R v
        have lu := tubeAt_len hR u6
        have lv := tubeAt_len hR v6
        have qu : ((tubeAt R u).map (C.int .i64)).take 4 = (tubeAt R u).map (C.int .i64) := List.take_of_length_le (by simp [lu])
        have qv : ((tubeAt R v).map (C.int .i64)).take 4 = (tubeAt R v).map (C.int .i64) := List.take_of_length_le (by simp [lv])
        obtain ⟨R1, hR1, set1⟩ := put_four hR (u * 4) (tubeAt R v)
        obtain ⟨R2, hR2, set2⟩ := put_four hR1 (v * 4) (tubeAt R u)
        generalize tubeAt R u = tU at *
        generalize tubeAt R v = tV at *
        obtain ⟨z, pz, sz, hz, hpz, hGz⟩ := c_pick bs hb o pv (by omega) sv 40 (by decide) (by decide)
        have gz := call_cur (rest := [.c (.int .i64 40)]) rfl hGz 0 1
        have r24 := take24 hR2
        by_cases z0 : (z : Int) = 0
        · obtain ⟨x, px, sx, hx, hpx, hGx⟩ := c_pick bs hb o pz (by omega) sz 6 (by decide) (by decide)
          have gx := call_cur (rest := [.c (.int .i64 6)]) rfl hGx 0 1
          obtain ⟨y, py, sy, hy, hpy, hGy⟩ := c_pick bs hb o px (by omega) sx 4 (by decide) (by decide)
          have gy := call_cur (rest := [.c (.int .i64 4)]) rfl hGy 0 1
          obtain ⟨w, pw, sw, hw, hpw, hGw⟩ := c_among bs hb o py (by omega) sy [-1, 6, 4611686018427387904] (by decide) (by decide)
          have gw := call_among (by simp) hGw 0 6 1
          simp at gw
          have x6 : x < 6 := by omega
          have x6' : (x : Int) < 6 := by omega
          have y4 : y < 4 := by omega
          have y4' : (y : Int) < 4 := by omega
          have b1 : x * 4 + y + 1 ≤ 24 := by omega
          obtain ⟨R9, hR9, hset⟩ := put_one hR2 (x * 4 + y) w
          have r9 := take24 hR9
          have z0' : z = 0 := by omega
          subst z0'
          simp [g1, gz, gx, gy, gw, hR2, hR9, x6, x6', y4, y4', b1, hset, r9, setAt_all, setAt, stillE, madeA, idOf, gu, gv, u6, u6', v6, v6', bu, bv, tu, tv, lu, lv, qu, qv, set1, set2, hR, hR1]
          first | exact ⟨R9, pw, sw, hR9, by omega, rfl, rfl⟩ | exact ⟨_, _, ⟨rfl, rfl⟩, R9, pw, sw, hR9, by omega, rfl, rfl⟩ | exact ⟨_, _, rfl, R9, pw, sw, hR9, by omega, rfl, rfl⟩
        · by_cases z1 : (z : Int) = 1
          · obtain ⟨x, px, sx, hx, hpx, hGx⟩ := c_pick bs hb o pz (by omega) sz 6 (by decide) (by decide)
            have gx := call_cur (rest := [.c (.int .i64 6)]) rfl hGx 0 1
            have x6 : x < 6 := by omega
            have x6' : (x : Int) < 6 := by omega
            have b1 : x * 4 + 4 ≤ 24 := by omega
            obtain ⟨Ra, hRa, seta⟩ := put_one hR2 (x * 4) 0
            obtain ⟨Rb, hRb, setb⟩ := put_one hRa (x * 4 + 1) 1
            obtain ⟨Rc, hRc, setc⟩ := put_one hRb (x * 4 + 1 + 1) 0
            obtain ⟨R9, hR9, setd⟩ := put_one hRc (x * 4 + 1 + 1 + 1) 0
            have r9 := take24 hR9
            have z1' : z = 1 := by omega
            subst z1'
            simp [g1, gz, gx, hR2, hR9, x6, x6', b1, seta, setb, setc, setd, r9, setAt_all, setAt, stillE, madeA, idOf, gu, gv, u6, u6', v6, v6', bu, bv, tu, tv, lu, lv, qu, qv, set1, set2, hR, hR1]
            first | exact ⟨R9, px, sx, hR9, by omega, rfl, rfl⟩ | exact ⟨_, _, ⟨rfl, rfl⟩, R9, px, sx, hR9, by omega, rfl, rfl⟩ | exact ⟨_, _, rfl, R9, px, sx, hR9, by omega, rfl, rfl⟩
          · by_cases z2 : (z : Int) = 2
            · have z2' : z = 2 := by omega
              subst z2'
              simp [g1, gz, hR2, r24, setAt_all, setAt, stillE, madeA, idOf, gu, gv, u6, u6', v6, v6', bu, bv, tu, tv, lu, lv, qu, qv, set1, set2, hR, hR1]
              first | exact ⟨(List.replicate 24 0), pz, sz, (by simp), by omega, rfl, rfl⟩ | exact ⟨_, _, ⟨rfl, rfl⟩, (List.replicate 24 0), pz, sz, (by simp), by omega, rfl, rfl⟩ | exact ⟨_, _, rfl, (List.replicate 24 0), pz, sz, (by simp), by omega, rfl, rfl⟩
            · have y0 : ¬ z = 0 := by omega
              have y1 : ¬ z = 1 := by omega
              have y2 : ¬ z = 2 := by omega
              simp [g1, gz, hR2, z0, z1, z2, y0, y1, y2, r24, setAt_all, setAt, stillE, madeA, idOf, gu, gv, u6, u6', v6, v6', bu, bv, tu, tv, lu, lv, qu, qv, set1, set2, hR, hR1]
              first | exact ⟨R2, pz, sz, hR2, by omega, rfl, rfl⟩ | exact ⟨_, _, ⟨rfl, rfl⟩, R2, pz, sz, hR2, by omega, rfl, rfl⟩ | exact ⟨_, _, rfl, R2, pz, sz, hR2, by omega, rfl, rfl⟩
    · intro k hk st hst
      obtain ⟨R, hR, rfl⟩ := hst
      by_cases h6 : k < 6
      · left
        refine ⟨h6, ?_⟩
        have h6' : (k : Int) < 6 := by omega
        have wk := wrapS (k := k) (by omega)
        simp [h6, h6']
        generalize hX : exI pr np 2 (ACode.loop _ _) _ _ = X
        have hl := loop_exit hX (IvD bs o p3 s3 k) 3 (RsD bs o p3 s3 k) ⟨([(0, V.c (C.ptr 0 0)), (2, V.c (C.ptr 2 0)), (3, V.c (C.ptr 3 0)), (8, V.c (C.int .i64 k)), (9, V.c (C.int .i64 1))], [curB 1 bs.length p3 s3, byB bs o, Blk.cells (List.replicate 24 (C.int .i64 0)) true, Blk.cells (R.map (C.int .i64)) true]), by simp, R, hR, rfl⟩ ?_
        · obtain ⟨r, rfl, R, i, hR, rfl⟩ := hl
          clear hX
          simp [wk]
          first | exact ⟨R, hR, rfl⟩ | exact ⟨_, _, ⟨rfl, rfl⟩, R, hR, rfl⟩ | exact ⟨_, _, rfl, R, hR, rfl⟩
        · intro j hj st hst
          obtain ⟨R, hR, rfl⟩ := hst
          by_cases h3 : j < 3
          · left
            refine ⟨h3, ?_⟩
            have j1 : (j : Int) + 1 < 4 := by omega
            have j2 : (j : Int) < 4 := by omega
            have j3 : (0 : Int) ≤ (j : Int) + 1 := by omega
            have j4 : j + 1 < 4 := by omega
            have j5 : j < 4 := by omega
            have wj : IntKind.i64.wrap ((j : Int) + 1 + 1) = (j : Int) + 1 + 1 := wrapI (by omega) (by omega)
            have wj2 : IntKind.i64.wrap (j : Int) = (j : Int) := wrapI (by omega) (by omega)
            have g := drop_take1 (c := R) (j := k * 4 + j) (by omega)
            have b1 : k * 4 + j + 1 ≤ 24 := by omega
            have b2 : k * 4 + (j + 1) + 1 ≤ 24 := by omega
            obtain ⟨R', hR', hset⟩ := put_one hR (k * 4 + (j + 1)) 0
            by_cases h0 : R.getD (k * 4 + j) 0 = 0
            · rw [h0] at g
              simp [h6, h6', hR, j1, j2, j3, j4, j5, wj, wj2, g, b1, b2, hset, setAt]
              first | exact ⟨R', hR', rfl⟩ | exact ⟨_, _, ⟨rfl, rfl⟩, R', hR', rfl⟩ | exact ⟨_, _, rfl, R', hR', rfl⟩
            · generalize R.getD (k * 4 + j) 0 = x at *
              simp [h6, h6', hR, j1, j2, j3, j4, j5, wj, wj2, g, b1, b2, h0, setAt]
              first | exact ⟨R, hR, rfl⟩ | exact ⟨_, _, ⟨rfl, rfl⟩, R, hR, rfl⟩ | exact ⟨_, _, rfl, R, hR, rfl⟩
          · right
            have h3' : ¬ (j : Int) + 1 < 4 := by omega
            simp [h3, h3']
            exact ⟨R, _, hR, rfl⟩
      · right
        have h6' : ¬ (k : Int) < 6 := by omega
        simp [h6, h6']
        exact ⟨R, _, hR, rfl⟩
  · intro i hi st hst
    obtain ⟨R, p3, s3, hR, hp3, rfl⟩ := hst
    by_cases hT : i < T
    · left
      refine ⟨hT, ?_⟩
      have i6 : i < 6 := by omega
      have i6' : (i : Int) < 6 := by omega
      have wi := wrapS (k := i) (by omega)
      simp [hT]
      generalize hX : exI pr np 2 (ACode.loop _ _) _ _ = X
      have hl := loop_exit hX (IvB bs o c T p3 i) 5 (RsB bs o c T p3 i) ⟨([(0, V.c (C.ptr 0 0)), (2, V.c (C.ptr 2 0)), (3, V.c (C.ptr 3 0)), (4, V.c (C.int .i64 c)), (5, V.c (C.int .i64 T)), (6, V.c (C.int .i64 i)), (7, V.c (C.int .i64 0))], [curB 1 bs.length p3 s3, byB bs o, Blk.cells (List.replicate 24 (C.int .i64 0)) true, Blk.cells (R.map (C.int .i64)) true]), by simp, R, p3, s3, hR, by omega, rfl⟩ ?_
      · obtain ⟨r, rfl, R, p', s', k, hR, hp', rfl⟩ := hl
        clear hX
        simp [wi]
        first | exact ⟨R, p', s', hR, by omega, rfl⟩ | exact ⟨_, _, ⟨rfl, rfl⟩, R, p', s', hR, by omega, rfl⟩ | exact ⟨_, _, rfl, R, p', s', hR, by omega, rfl⟩
      · intro k hk st hst
        obtain ⟨R, p4, s4, hR, hp4, rfl⟩ := hst
        obtain ⟨x, p5, s5, hx, hp5, hG⟩ := c_among bs hb o p4 (by omega) s4 [4, 3, 4, 2, 1, 0] (by decide) (by decide)
        have hx := lit_range (lo := 0) (hi := 4) (by decide) hx
        have g1 := call_among (by simp) hG 0 4 1
        simp at g1
        by_cases hkx : (k : Int) < x
        · left
          have k5 : k < 5 := by omega
          have k4 : k < 4 := by omega
          have k4' : (k : Int) < 4 := by omega
          refine ⟨k5, ?_⟩
          obtain ⟨y, p6, s6, hy, hp6, hG2⟩ := c_pick bs hb o p5 (by omega) s5 c (by omega) (by omega)
          have g2 := call_cur (rest := [.c (.int .i64 c)]) rfl hG2 0 1
          have wk := wrapS (k := k) (by omega)
          have wy : IntKind.i64.wrap (1 + (y : Int)) = 1 + (y : Int) := wrapI (by omega) (by omega)
          obtain ⟨R', hR', hset⟩ := put_one hR (i * 4 + k) (1 + (y : Int))
          have b1 : i * 4 + k + 1 ≤ 24 := by omega
          by_cases hk0 : 0 < k
          · obtain ⟨q, p7, s7, hp7, hG3⟩ := c_one bs hb o p6 (by omega) s6 3 (by decide) (by decide)
            have g3 := call_cur (rest := [.c (.int .i64 3)]) rfl hG3 0 1
            have hk0' : (0 : Int) < (k : Int) := by omega
            obtain ⟨z, rfl⟩ : ∃ z, k = z + 1 := ⟨k - 1, by omega⟩
            have wz : IntKind.i64.wrap (z : Int) = (z : Int) := wrapI (by omega) (by omega)
            have z4 : z < 4 := by omega
            have z4' : (z : Int) < 4 := by omega
            have k4'' : (z : Int) + 1 < 4 := by omega
            have g := drop_take1 (c := R') (j := i * 4 + z) (by omega)
            have b2 : i * 4 + z + 1 ≤ 24 := by omega
            have hkx' : (z : Int) + 1 < x := by omega
            have z0 : (0 : Int) ≤ (z : Int) + 1 := by omega
            have z01 : (0 : Int) < (z : Int) + 1 := by omega
            have wk' : IntKind.i64.wrap ((z : Int) + 1 + 1) = (z : Int) + 1 + 1 := wrapI (by omega) (by omega)
            obtain ⟨R2, hR2, hset2⟩ := put_one hR' (i * 4 + (z + 1)) (R'.getD (i * 4 + z) 0)
            generalize R'.getD (i * 4 + z) 0 = w at *
            cases q with
            | true =>
              simp [hT, i6, i6', hR, hR', g1, g2, g3, hkx', k4, k4'', z0, z01, wz, z4, z4', wk', wy, b1, b2, g, hset, hset2, setAt, stillE, madeA, idOf]
              first | exact ⟨R2, p7, s7, hR2, by omega, rfl⟩ | exact ⟨_, _, ⟨rfl, rfl⟩, R2, p7, s7, hR2, by omega, rfl⟩ | exact ⟨_, _, rfl, R2, p7, s7, hR2, by omega, rfl⟩
            | false =>
              simp [hT, i6, i6', hR, hR', g1, g2, g3, hkx', k4, k4'', z0, z01, wz, z4, z4', wk', wy, b1, b2, g, hset, setAt, stillE, madeA, idOf]
              first | exact ⟨R', p7, s7, hR', by omega, rfl⟩ | exact ⟨_, _, ⟨rfl, rfl⟩, R', p7, s7, hR', by omega, rfl⟩ | exact ⟨_, _, rfl, R', p7, s7, hR', by omega, rfl⟩
          · have hk0 : k = 0 := by omega
            subst hk0
            have hkx' : 0 < x := by omega
            simp only [Nat.add_zero] at hset b1
            simp [hT, i6, i6', hR, hR', g1, g2, hkx', wy, b1, hset, setAt, stillE, madeA, idOf]
            first | exact ⟨R', p6, s6, hR', by omega, rfl⟩ | exact ⟨_, _, ⟨rfl, rfl⟩, R', p6, s6, hR', by omega, rfl⟩ | exact ⟨_, _, rfl, R', p6, s6, hR', by omega, rfl⟩
        · right
          simp [g1, hkx]
          exact ⟨R, p5, s5, _, hR, by omega, rfl⟩
    · right
      have hT' : ¬ (i : Int) < (T : Int) := by omega
      simp [hT, hT']
      exact ⟨R, p3, s3, _, hR, by omega, rfl⟩
end Go.Proofs.YthpookdfaikabaaGreatDoor.AM

/- Contracts: places and colors are drawn. -/
namespace Go.Proofs.YthpookdfaikabaaGreatDoor.AM
open Go
set_option maxRecDepth 1000000
set_option linter.unusedSimpArgs false
set_option linter.unusedVariables false
theorem c_place (bs : List Int) (hb : Bytes bs) (o : Bool) (p : Nat) (hp : p + 10 < 1000000000) (s : Int) : ∃ (x : Int) (p' : Nat) (s' : Int), p' ≤ p + 4 ∧ fnI pr np 60 [.c (.ptr 0 0)] [curB 1 bs.length p s, byB bs o] = some (.c (.int .i64 x), [curB 1 bs.length p' s', byB bs o]) := by
  obtain ⟨q, p1, s1, hp1, hG1⟩ := c_one bs hb o p (by omega) s 40 (by decide) (by decide)
  have g1 := call_cur (rest := [.c (.int .i64 40)]) rfl hG1 0 1
  cases q with
  | true =>
    obtain ⟨x, p2, s2, hx, hp2, hG2⟩ := c_among bs hb o p1 (by omega) s1 [-1, 6, 4611686018427387904] (by decide) (by decide)
    have g2 := call_among (by simp) hG2 0 2 1
    simp at g2
    refine ⟨x, p2, s2, by omega, ?_⟩
    rw [fb (fn := a60) rfl rfl rfl]
    simp [a60, g1, g2, sub]
  | false =>
    obtain ⟨x, p2, s2, hx, hp2, hG2⟩ := c_pick bs hb o p1 (by omega) s1 6 (by decide) (by decide)
    have g2 := call_cur (rest := [.c (.int .i64 6)]) rfl hG2 0 1
    refine ⟨x, p2, s2, by omega, ?_⟩
    rw [fb (fn := a60) rfl rfl rfl]
    simp [a60, g1, g2, sub]
theorem poursL_len36 (r : List Int) : (poursL r).length ≤ 36 := poursTo_len r 36
theorem flatC_take2 (l : List (Nat × Nat)) {k : Nat} (h : k < l.length) : ((flatC l).drop (k * 2)).take 2 = [C.int .i64 (l[k]'h).1, C.int .i64 (l[k]'h).2] := by
  have := flatC_get l [] k h
  rwa [List.append_nil] at this
/-! ### a pour is drawn -/
set_option maxHeartbeats 2000000 in
theorem c_drawPour (bs : List Int) (hb : Bytes bs) (o : Bool) (p : Nat) (hp : p + 20 < 1000000000) (s : Int) (r : List Int) (hr : r.length = 24) : ∃ (x y : Int) (p' : Nat) (s' : Int), p' ≤ p + 10 ∧ fnI pr np 34 [.c (.ptr 0 0), .agg (r.map (C.int .i64))] [curB 1 bs.length p s, byB bs o] = some (.agg [.int .i64 x, .int .i64 y], [curB 1 bs.length p' s', byB bs o]) := by
  have h24 := take24 hr
  have hk := callA_pure (c_rack_spec r hr) (by simp) (by simp)
  have two : ∀ (p1 : Nat) (s1 : Int), p1 ≤ p + 2 → ∃ (x y : Int) (p2 p' : Nat) (s2 s' : Int), p' ≤ p + 10 ∧ fnI pr np 60 [.c (.ptr 0 0)] [curB 1 bs.length p1 s1, byB bs o] = some (.c (.int .i64 x), [curB 1 bs.length p2 s2, byB bs o]) ∧ fnI pr np 60 [.c (.ptr 0 0)] [curB 1 bs.length p2 s2, byB bs o] = some (.c (.int .i64 y), [curB 1 bs.length p' s', byB bs o]) := by
    intro p1 s1 h1
    obtain ⟨x, p2, s2, h2, hF⟩ := c_place bs hb o p1 (by omega) s1
    obtain ⟨y, p3, s3, h3, hG⟩ := c_place bs hb o p2 (by omega) s2
    exact ⟨x, y, p2, p3, s2, s3, by omega, hF, hG⟩
  rw [fb (fn := a34) rfl rfl rfl]
  cases hq : okRack r with
  | false =>
    rw [hq] at hk
    obtain ⟨x, y, p2, p3, s2, s3, h3, hF, hG⟩ := two p s (by omega)
    have f1 := call_cur (rest := []) rfl hF 0 1
    have f2 := call_cur (rest := []) rfl hG 0 1
    refine ⟨x, y, p3, s3, h3, ?_⟩
    simp [a34, hr, h24, hk, f1, f2, setAt, sub]
  | true =>
    rw [hq] at hk
    have h := rackOK hr hq
    obtain ⟨q1, p1, s1, hp1, hG1⟩ := c_one bs hb o p (by omega) s 3 (by decide) (by decide)
    have g1 := call_cur (rest := [.c (.int .i64 3)]) rfl hG1 0 1
    cases q1 with
    | true =>
      obtain ⟨x, y, p2, p3, s2, s3, h3, hF, hG⟩ := two p1 s1 hp1
      have f1 := call_cur (rest := []) rfl hF 0 1
      have f2 := call_cur (rest := []) rfl hG 0 1
      refine ⟨x, y, p3, s3, h3, ?_⟩
      simp [a34, hr, h24, hk, g1, f1, f2, setAt, sub]
    | false =>
      have hu := callA_new (c_spec_l2Pours r h) (by simp)
      have hl := poursL_len36 r
      by_cases h0 : 0 < (poursL r).length
      · have h0' : (0 : Int) < ((poursL r).length : Int) := by omega
        obtain ⟨z, p2, s2, hz, hp2, hG2⟩ := c_pick bs hb o p1 (by omega) s1 (poursL r).length (by omega) (by omega)
        have g2 := call_cur (rest := [.c (.int .i64 (poursL r).length)]) rfl hG2 0 1
        have hzl : z < (poursL r).length := by omega
        have hzl' : (z : Int) < ((poursL r).length : Int) := by omega
        have g3 := flatC_take2 (poursL r) hzl
        have b1 : z * 2 + 2 ≤ (poursL r).length * 2 := by omega
        refine ⟨((poursL r)[z]'hzl).1, ((poursL r)[z]'hzl).2, p2, s2, by omega, ?_⟩
        simp [a34, hr, h24, hk, g1, hu, h0, h0', g2, hzl, hzl', g3, b1, flatC_len, setAt, sub]
      · have h0' : ¬ (0 : Int) < ((poursL r).length : Int) := by omega
        obtain ⟨x, y, p2, p3, s2, s3, h3, hF, hG⟩ := two p1 s1 hp1
        have f1 := call_cur (rest := []) rfl hF 0 1
        have f2 := call_cur (rest := []) rfl hG 0 1
        refine ⟨x, y, p3, s3, h3, ?_⟩
        simp [a34, hr, h24, hk, g1, hu, h0, h0', f1, f2, setAt, flatC_len, sub]
end Go.Proofs.YthpookdfaikabaaGreatDoor.AM

/- Contracts: pours are drawn; good pours of the reference. -/
namespace Go.Proofs.YthpookdfaikabaaGreatDoor.AM
open Go
set_option maxRecDepth 1000000
set_option linter.unusedSimpArgs false
set_option linter.unusedVariables false
/-! ### good pours -/
def goodP (r : List Int) (p : Nat × Nat) : Bool := decide (boundN (pourR r p.1 p.2) < boundN r)
def goodTo (r : List Int) (k : Nat) : List (Nat × Nat) := ((poursL r).take k).filter (goodP r)
def goodL (r : List Int) : List (Nat × Nat) := (poursL r).filter (goodP r)
theorem goodTo_len (r : List Int) (k : Nat) : (goodTo r k).length ≤ k := Nat.le_trans (List.length_filter_le _ _) (by simp; omega)
theorem goodTo_succ (r : List Int) {k : Nat} (hk : k < (poursL r).length) : goodTo r (k + 1) = goodTo r k ++ if goodP r ((poursL r)[k]'hk) = true then [(poursL r)[k]'hk] else [] := by
  unfold goodTo
  rw [take_snoc hk, List.filter_append]
  congr 1
  by_cases h : goodP r ((poursL r)[k]'hk) = true <;> simp [h]
theorem goodTo_all (r : List Int) : goodTo r (poursL r).length = goodL r := by unfold goodTo goodL; rw [List.take_length]
theorem goodL_len (r : List Int) : (goodL r).length ≤ 36 := Nat.le_trans (List.length_filter_le _ _) (poursL_len36 r)
theorem flatC_ones (l : List (Nat × Nat)) {k : Nat} (h : k < l.length) : ((flatC l).drop (k * 2)).take 1 = [C.int .i64 (l[k]'h).1] ∧ ((flatC l).drop (k * 2 + 1)).take 1 = [C.int .i64 (l[k]'h).2] := by
  have e := flatC_take2 l h
  have hl : (flatC l).length = l.length * 2 := flatC_len l
  have h1 : k * 2 < (flatC l).length := by omega
  have h2 : k * 2 + 1 < (flatC l).length := by omega
  rw [List.drop_eq_getElem_cons h1, List.take_succ_cons, List.drop_eq_getElem_cons h2, List.take_succ_cons] at e
  simp only [List.take_zero, List.cons.injEq, and_true] at e
  rw [List.drop_eq_getElem_cons h1, List.drop_eq_getElem_cons h2, List.take_succ_cons, List.take_succ_cons, e.1, e.2]
  exact ⟨rfl, rfl⟩
theorem c_spec_l6Good (r : List Int) (h : RackOK r) : fnI pr np 59 [.agg (r.map (C.int .i64))] [] = some (.c (.sl 0 0 (goodL r).length 2), [.cells (flatC (goodL r)) true]) := by
  have hr := h.len
  have h24 := take24 hr
  have hu := callA_new (c_spec_l2Pours r h) (by simp)
  have hl := poursL_len36 r
  have hb := callA_pure (c_spec_l6Bound r h) (by simp) (by simp)
  rw [fb (fn := a59) rfl rfl rfl]
  simp [a59, hr, h24, hu]
  rw [loop_to (fun k => ([(1, V.c (C.ptr 0 0)), (3, V.c (C.sl 1 0 (goodTo r k).length 2)), (4, V.c (C.sl 2 0 (poursL r).length 2)), (5, V.c (C.int .i64 k))], [Blk.cells (r.map (C.int .i64)) true, Blk.cells (flatC (goodTo r k)) true, Blk.cells (flatC (poursL r)) true])) (poursL r).length]
  · simp [goodTo_all, sub]
  · simp [goodTo, flatC_nil, sub]
  · intro k hk
    have hk' : (k : Int) < ((poursL r).length : Int) := by omega
    have hm := mem_poursL (List.getElem_mem hk)
    have hc := callA_pure (c_spec_l2Pour r h hm.1 hm.2.1) (by simp) (by simp)
    have hq := h.pour hm.1 hm.2.1 (canP_ne hm.2.2)
    have hb2 := callA_pure (c_spec_l6Bound _ hq) (by simp) (by simp)
    obtain ⟨g1, g2⟩ := flatC_ones (poursL r) hk
    have g3 := flatC_take2 (poursL r) hk
    have b1 : k * 2 + 2 ≤ (poursL r).length * 2 := by omega
    have b2 : k * 2 + 1 ≤ (poursL r).length * 2 := by omega
    have b3 : k * 2 + 1 + 1 ≤ (poursL r).length * 2 := by omega
    have wk := wrapS (k := k) (by omega)
    have hst := goodTo_succ r hk
    have hgl := goodTo_len r k
    have hpl := hq.len
    have hp24 := take24 hpl
    have htk : (flatC (goodTo r k)).take ((goodTo r k).length * 2) = flatC (goodTo r k) := List.take_of_length_le (by rw [flatC_len]; exact Nat.le_refl _)
    unfold goodP at hst
    generalize (poursL r)[k]'hk = p at *
    by_cases hlt : boundN (pourR r p.1 p.2) < boundN r
    · have hlt' : (boundN (pourR r p.1 p.2) : Int) < (boundN r : Int) := by omega
      have hroom : (goodTo r k).length + 1 ≤ 68719476736 := by omega
      rw [decide_eq_true hlt, if_pos rfl] at hst
      have hfl : flatC (goodTo r k) ++ [C.int .i64 p.1, C.int .i64 p.2] = flatC (goodTo r (k + 1)) := by rw [hst, flatC_app]; rfl
      have hln : (goodTo r k).length + 1 = (goodTo r (k + 1)).length := by rw [hst]; simp
      have hroom' : (goodTo r (k + 1)).length ≤ 68719476736 := by omega
      simp [hk, hk', hr, h24, hc, hb, hb2, g1, g2, g3, b1, b2, b3, wk, hpl, hp24, hlt, hlt', hroom, hroom', htk, hfl, hln, setAt_all, setAt, flatC_len, flatC_ids, sub]
    · have hlt' : ¬ (boundN (pourR r p.1 p.2) : Int) < (boundN r : Int) := by omega
      rw [decide_eq_false hlt] at hst
      simp at hst
      simp [hk, hk', hr, h24, hc, hb, hb2, g1, g2, g3, b1, b2, b3, wk, hpl, hp24, hlt, hlt', hst, setAt_all, setAt, flatC_len, flatC_ids, sub]
end Go.Proofs.YthpookdfaikabaaGreatDoor.AM

/- Contracts: a rack near its end is drawn; a rack and a number of pours. -/
namespace Go.Proofs.YthpookdfaikabaaGreatDoor.AM
open Go
set_option maxRecDepth 1000000
set_option linter.unusedSimpArgs false
set_option linter.unusedVariables false
def NvA (bs : List Int) (o : Bool) (q k : Nat) (st : Env × Heap) : Prop := ∃ (R : List Int) (p' : Nat) (s' : Int), R.length = 24 ∧ p' ≤ q + 40 * k ∧ st = ([(0, V.c (C.ptr 0 0)), (2, V.c (C.ptr 2 0)), (3, V.c (C.ptr 3 0)), (4, V.c (C.int .i64 k))], [curB 1 bs.length p' s', byB bs o, Blk.cells (List.replicate 24 (C.int .i64 0)) true, Blk.cells (R.map (C.int .i64)) true])
def NsA (bs : List Int) (o : Bool) (q : Nat) (r : Ex × Env × Heap) : Prop := ∃ (R : List Int) (p' : Nat) (s' i : Int) (h2 : Heap), R.length = 24 ∧ p' ≤ q + 250 ∧ r = (.exit 0, [(0, V.c (C.ptr 0 0)), (2, V.c (C.ptr 2 0)), (3, V.c (C.ptr 3 0)), (4, V.c (C.int .i64 i)), (17, V.c (C.bool false))], curB 1 bs.length p' s' :: byB bs o :: Blk.cells (List.replicate 24 (C.int .i64 0)) true :: Blk.cells (R.map (C.int .i64)) true :: h2)
def NvB (bs : List Int) (o : Bool) (c m : Int) (q i k : Nat) (st : Env × Heap) : Prop := ∃ (R : List Int) (p' : Nat) (s' : Int), R.length = 24 ∧ p' ≤ q + 6 * k ∧ st = ([(0, V.c (C.ptr 0 0)), (2, V.c (C.ptr 2 0)), (3, V.c (C.ptr 3 0)), (4, V.c (C.int .i64 i)), (5, V.c (C.int .i64 c)), (6, V.c (C.int .i64 m)), (7, V.c (C.int .i64 k))], [curB 1 bs.length p' s', byB bs o, Blk.cells (List.replicate 24 (C.int .i64 0)) true, Blk.cells (R.map (C.int .i64)) true])
def NsB (bs : List Int) (o : Bool) (c m : Int) (q i : Nat) (r : Ex × Env × Heap) : Prop := ∃ (R : List Int) (p' : Nat) (s' k : Int), R.length = 24 ∧ p' ≤ q + 24 ∧ r = (.exit 2, [(0, V.c (C.ptr 0 0)), (2, V.c (C.ptr 2 0)), (3, V.c (C.ptr 3 0)), (4, V.c (C.int .i64 i)), (5, V.c (C.int .i64 c)), (6, V.c (C.int .i64 m)), (7, V.c (C.int .i64 k)), (28, V.c (C.bool false))], [curB 1 bs.length p' s', byB bs o, Blk.cells (List.replicate 24 (C.int .i64 0)) true, Blk.cells (R.map (C.int .i64)) true])
set_option maxHeartbeats 4000000 in
theorem c_near (bs : List Int) (hb : Bytes bs) (o : Bool) (p : Nat) (hp : p + 1500 < 1000000000) (s : Int) : ∃ (v : V) (h' : Heap), fnI pr np 56 [.c (.ptr 0 0)] [curB 1 bs.length p s, byB bs o] = some (v, h') ∧ RkP bs o (p + 10) v h' := by
  obtain ⟨q1, p1, s1, hp1, hG1⟩ := c_one bs hb o p (by omega) s 3 (by decide) (by decide)
  have g1 := call_cur (rest := [.c (.int .i64 3)]) rfl hG1 0 1
  rw [fb (fn := a56) rfl rfl rfl]
  cases q1 with
  | true =>
    obtain ⟨v, h', hF, R, p2, s2, hR, hp2, rfl, rfl⟩ := c_rack bs hb o p1 (by omega) s1
    have g2 := call_cur (rest := []) rfl hF 0 1
    have r24 := take24 hR
    simp [a56, g1, g2, hR, r24, setAt_all]
    first | exact ⟨R, p2, s2, hR, by omega, rfl, rfl⟩ | exact ⟨_, _, ⟨rfl, rfl⟩, R, p2, s2, hR, by omega, rfl, rfl⟩ | exact ⟨_, _, rfl, R, p2, s2, hR, by omega, rfl, rfl⟩
  | false =>
    simp [a56, g1, setAt_all]
    generalize hX : exI pr np 2 (ACode.loop _ _) _ _ = X
    have hl := loop_exit hX (NvA bs o p1) 6 (NsA bs o p1) ⟨([(0, V.c (C.ptr 0 0)), (2, V.c (C.ptr 2 0)), (3, V.c (C.ptr 3 0)), (4, V.c (C.int .i64 0))], [curB 1 bs.length p1 s1, byB bs o, Blk.cells (List.replicate 24 (C.int .i64 0)) true, Blk.cells ((List.replicate 24 0).map (C.int .i64)) true]), by simp, List.replicate 24 0, p1, s1, by simp, by omega, rfl⟩ ?_
    · obtain ⟨r, rfl, R, p3, s3, i, h2, hR, hp3, rfl⟩ := hl
      clear hX
      have r24 := take24 hR
      simp [hR, r24, setAt_all]
      first | exact ⟨R, p3, s3, hR, by omega, rfl, rfl⟩ | exact ⟨_, _, ⟨rfl, rfl⟩, R, p3, s3, hR, by omega, rfl, rfl⟩ | exact ⟨_, _, rfl, R, p3, s3, hR, by omega, rfl, rfl⟩
    · intro k hk st hst
      obtain ⟨R, p2, s2, hR, hp2, rfl⟩ := hst
      obtain ⟨x, p3, s3, hx, hp3, hGx⟩ := c_among bs hb o p2 (by omega) s2 [3, 4, 5, 6] (by decide) (by decide)
      have hx := lit_range (lo := 3) (hi := 6) (by decide) hx
      have gx := call_among (by simp) hGx 0 4 1
      simp at gx
      by_cases hkx : (k : Int) < x
      · left
        have k6 : k < 6 := by omega
        have k6' : (k : Int) < 6 := by omega
        have wk := wrapS (k := k) (by omega)
        refine ⟨k6, ?_⟩
        obtain ⟨y, p4, s4, hy, hp4, hGy⟩ := c_pick bs hb o p3 (by omega) s3 3 (by decide) (by decide)
        have gy := call_cur (rest := [.c (.int .i64 3)]) rfl hGy 0 1
        obtain ⟨m, p5, s5, hm, hp5, hGm⟩ := c_among bs hb o p4 (by omega) s4 [3, 2, 3, 4, 1] (by decide) (by decide)
        have hm := lit_range (lo := 1) (hi := 4) (by decide) hm
        have gm := call_among (by simp) hGm 0 5 1
        simp at gm
        have wy : IntKind.i64.wrap (1 + (y : Int)) = 1 + (y : Int) := wrapI (by omega) (by omega)
        simp [gx, hkx, gy, gm, wy]
        generalize hX : exI pr np 2 (ACode.loop _ _) _ _ = X
        have hl := loop_exit hX (NvB bs o (1 + (y : Int)) m p5 k) 4 (NsB bs o (1 + (y : Int)) m p5 k) ⟨([(0, V.c (C.ptr 0 0)), (2, V.c (C.ptr 2 0)), (3, V.c (C.ptr 3 0)), (4, V.c (C.int .i64 k)), (5, V.c (C.int .i64 (1 + (y : Int)))), (6, V.c (C.int .i64 m)), (7, V.c (C.int .i64 0))], [curB 1 bs.length p5 s5, byB bs o, Blk.cells (List.replicate 24 (C.int .i64 0)) true, Blk.cells (R.map (C.int .i64)) true]), by simp, R, p5, s5, hR, by omega, rfl⟩ ?_
        · obtain ⟨r, rfl, R, p', s', kk, hR, hp', rfl⟩ := hl
          clear hX
          simp [wk]
          first | exact ⟨R, p', s', hR, by omega, rfl⟩ | exact ⟨_, _, ⟨rfl, rfl⟩, R, p', s', hR, by omega, rfl⟩ | exact ⟨_, _, rfl, R, p', s', hR, by omega, rfl⟩
        · intro j hj st hst
          obtain ⟨R, p6, s6, hR, hp6, rfl⟩ := hst
          by_cases hjm : (j : Int) < m
          · left
            have j4 : j < 4 := by omega
            have j4' : (j : Int) < 4 := by omega
            refine ⟨j4, ?_⟩
            have wj := wrapS (k := j) (by omega)
            obtain ⟨R', hR', hset⟩ := put_one hR (k * 4 + j) (1 + (y : Int))
            have b1 : k * 4 + j + 1 ≤ 24 := by omega
            by_cases hj0 : j = 0
            · subst hj0
              obtain ⟨q, p7, s7, hp7, hG3⟩ := c_one bs hb o p6 (by omega) s6 3 (by decide) (by decide)
              have g3 := call_cur (rest := [.c (.int .i64 3)]) rfl hG3 0 1
              have hm0 : 0 < m := by omega
              simp only [Nat.add_zero] at hset b1
              cases q with
              | false =>
                simp [hm0, k6, k6', hR, hR', g3, b1, hset, setAt, stillE, madeA, idOf]
                first | exact ⟨R', p7, s7, hR', by omega, rfl⟩ | exact ⟨_, _, ⟨rfl, rfl⟩, R', p7, s7, hR', by omega, rfl⟩ | exact ⟨_, _, rfl, R', p7, s7, hR', by omega, rfl⟩
              | true =>
                obtain ⟨z, p8, s8, hz, hp8, hG4⟩ := c_pick bs hb o p7 (by omega) s7 4 (by decide) (by decide)
                have g4 := call_cur (rest := [.c (.int .i64 4)]) rfl hG4 0 1
                have wz : IntKind.i64.wrap (1 + (z : Int)) = 1 + (z : Int) := wrapI (by omega) (by omega)
                obtain ⟨R2, hR2, hset2⟩ := put_one hR' (k * 4) (1 + (z : Int))
                simp [hm0, k6, k6', hR, hR', hR2, g3, g4, wz, b1, hset, hset2, setAt, stillE, madeA, idOf]
                first | exact ⟨R2, p8, s8, hR2, by omega, rfl⟩ | exact ⟨_, _, ⟨rfl, rfl⟩, R2, p8, s8, hR2, by omega, rfl⟩ | exact ⟨_, _, rfl, R2, p8, s8, hR2, by omega, rfl⟩
            · have hj0' : ¬ (j : Int) = 0 := by omega
              have hj0b : ((j : Int) == 0) = false := beq_eq_false_iff_ne.2 hj0'
              simp [hjm, j4, j4', hj0, hj0', hj0b, k6, k6', hR, hR', b1, wj, hset, setAt, stillE, madeA, idOf]
              first | exact ⟨R', p6, s6, hR', by omega, rfl⟩ | exact ⟨_, _, ⟨rfl, rfl⟩, R', p6, s6, hR', by omega, rfl⟩ | exact ⟨_, _, rfl, R', p6, s6, hR', by omega, rfl⟩
          · right
            simp [hjm]
            exact ⟨R, p6, s6, _, hR, by omega, rfl⟩
      · right
        simp [gx, hkx]
        exact ⟨R, p3, s3, _, _, hR, by omega, rfl⟩
end Go.Proofs.YthpookdfaikabaaGreatDoor.AM

