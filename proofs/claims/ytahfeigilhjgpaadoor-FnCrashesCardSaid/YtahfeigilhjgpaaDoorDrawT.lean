import Derived.Test.YtahfeigilhjgpaaDoorLogG
/- Contracts: what the draws read out of bytes: some number in a range, with the cursor moved on (a seat with strings). -/
namespace Go.Proofs.YtahfeigilhjgpaaDoor.AM
open Go
set_option maxRecDepth 1000000
set_option linter.unusedSimpArgs false
set_option linter.unusedVariables false
theorem drop_take1 {c : List Int} {j : Nat} (h : j < c.length) : ((c.map (C.int .i64)).drop j).take 1 = [C.int .i64 (c.getD j 0)] := by
  rw [List.drop_eq_getElem_cons (by simpa using h)]
  simp [List.getD_eq_getElem?_getD, List.getElem?_eq_getElem h]
/-- a cursor: the bytes lie in block j -/
def curB (j n p : Nat) (s : Int) : Blk := .cells [.sl j 0 n 1, .int .i64 p, .int .u64 s] true
def byB (bs : List Int) (o : Bool) : Blk := .cells (bs.map (C.int .u8)) o
structure Bytes (bs : List Int) : Prop where
  rg : ∀ x ∈ bs, 0 ≤ x ∧ x < 256
  len : bs.length ≤ 1000000000
@[simp] theorem byB_ids (bs : List Int) (o : Bool) : (byB bs o).ids = [] := by simp [byB]
@[simp] theorem curB_ids (j n p : Nat) (s : Int) : (curB j n p s).ids = [j] := rfl
@[simp] theorem byB_mp (g : Nat → Nat) (bs : List Int) (o : Bool) : (byB bs o).mp g = byB bs o := mp_ids (by simp) g
@[simp] theorem curB_mp (g : Nat → Nat) (j n p : Nat) (s : Int) : (curB j n p s).mp g = curB (g j) n p s := rfl
theorem by_take1 {bs : List Int} {j : Nat} (h : j < bs.length) : ((bs.map (C.int .u8)).drop j).take 1 = [C.int .u8 (bs.getD j 0)] := by
  rw [List.drop_eq_getElem_cons (by simpa using h)]
  simp [List.getD_eq_getElem?_getD, List.getElem?_eq_getElem h]
theorem and255 (a : Nat) : ∃ z : Nat, z ≤ 255 ∧ IntKind.i64.wrap (IntKind.u64.wrap ((a &&& 255 % 2 ^ IntKind.u64.bits : Nat) : Int)) = (z : Int) := by
  have h : (a &&& 255 % 2 ^ IntKind.u64.bits : Nat) ≤ 255 := Nat.le_trans Nat.and_le_right (by decide)
  refine ⟨_, h, ?_⟩
  generalize (a &&& 255 % 2 ^ IntKind.u64.bits : Nat) = z at *
  have e : IntKind.u64.wrap (z : Int) = (z : Int) := by
    simp [IntKind.wrap, IntKind.bits, IntKind.signed]
    omega
  rw [e]
  exact wrapI (by omega) (by omega)
theorem c_next (bs : List Int) (hb : Bytes bs) (o : Bool) (p : Nat) (hp : p < 1000000000) (s : Int) : ∃ (x : Nat) (s' : Int), x ≤ 255 ∧ fnI pr np 95 [.c (.ptr 0 0)] [curB 1 bs.length p s, byB bs o] = some (.c (.int .i64 x), [curB 1 bs.length (p + 1) s', byB bs o]) := by
  have hlen := hb.len
  have wp := wrapS (k := p) (by omega)
  rw [fb (fn := a95) rfl rfl rfl]
  unfold curB byB
  by_cases h : p < bs.length
  · have g := by_take1 h
    have hm : bs.getD p 0 ∈ bs := by
      rw [List.getD_eq_getElem?_getD, List.getElem?_eq_getElem h]
      exact List.getElem_mem _
    obtain ⟨x1, x2⟩ := hb.rg _ hm
    generalize bs.getD p 0 = x at *
    obtain ⟨X, rfl⟩ : ∃ X : Nat, x = (X : Int) := ⟨x.toNat, by omega⟩
    have wx : IntKind.i64.wrap (X : Int) = (X : Int) := wrapI (by omega) (by omega)
    have b1 : p + 1 ≤ bs.length := by omega
    have hle : (p : Int) + 1 ≤ (bs.length : Int) := by omega
    refine ⟨X, IntKind.u64.wrap (IntKind.u64.wrap (IntKind.u64.wrap (s * 6364136223846793005) + IntKind.u64.wrap X) + 462197), by omega, ?_⟩
    simp [a95, h, g, wp, wx, b1, hle, setAt, stillE, madeA, idOf, sub]
  · by_cases h2 : p + 1 ≤ bs.length
    · omega
    · have hle : ¬ (p : Int) + 1 ≤ (bs.length : Int) := by omega
      have h' : ¬ (p : Int) < (bs.length : Int) := by omega
      obtain ⟨z, hz, hw⟩ := and255 (((IntKind.u64.wrap (IntKind.u64.wrap (IntKind.u64.wrap (s * 6364136223846793005) + IntKind.u64.wrap 0) + 462197)).fdiv (2 ^ min 40 IntKind.u64.bits) % 2 ^ IntKind.u64.bits).toNat)
      refine ⟨z, IntKind.u64.wrap (IntKind.u64.wrap (IntKind.u64.wrap (s * 6364136223846793005) + IntKind.u64.wrap 0) + 462197), hz, ?_⟩
      simp [a95, h, h', h2, wp, hle, setAt, stillE, madeA, idOf, binShift, binI, sub]
      exact hw
/-- a call with the cursor (and values that name no block), wherever it lies -/
theorem call_cur {F : Fns} {f n p p' : Nat} {s s' : Int} {bs : List Int} {o : Bool} {rest : List V} {v : V} (hre : rest.flatMap V.ids = []) (hF : F f (.c (.ptr 0 0) :: rest) [curB 1 n p s, byB bs o] = some (v, [curB 1 n p' s', byB bs o])) (i j : Nat) (H : HF) (base : Nat) (hij : (i != j) = true) (hi : (H i == some (curB j n p s)) = true) (hj : (H j == some (byB bs o)) = true) :
    callA F f (.c (.ptr i 0) :: rest) H base = some (v.mp (back [i, j] base), [], [(i, curB j n p' s'), (j, byB bs o)]) := by
  have hi : H i = some (curB j n p s) := by simpa using hi
  have hj : H j = some (byB bs o) := by simpa using hj
  have hij : i ≠ j := by simpa using hij
  have hji : ¬ j = i := fun e => hij e.symm
  have h := callA_gen (F := F) (f := f) (args := .c (.ptr i 0) :: rest) (H := H) (L := [i, j]) (by simp [hre, reach, idsAt, hi, hj, hji]) (by simp [closed, hi, hj, idsAt, inL, hre]) (show sub [i, j] H = [curB 1 n p s, byB bs o] by simp [sub, hi, hj, pos, hij]) (show (V.c (.ptr i 0) :: rest).map (V.mp (pos [i, j])) = .c (.ptr 0 0) :: rest by rw [List.map_cons, mps_pure hre]; simp [pos]) hF (by simp) base
  rw [h]
  simp [back]
theorem c_pick (bs : List Int) (hb : Bytes bs) (o : Bool) (p : Nat) (hp : p + 2 < 1000000000) (s : Int) (n : Int) (h0 : 0 ≤ n) (hn : n ≤ 60000) : ∃ (x p' : Nat) (s' : Int), ((x : Int) < n ∨ x = 0) ∧ p' ≤ p + 2 ∧ fnI pr np 66 [.c (.ptr 0 0), .c (.int .i64 n)] [curB 1 bs.length p s, byB bs o] = some (.c (.int .i64 x), [curB 1 bs.length p' s', byB bs o]) := by
  obtain ⟨N, rfl⟩ : ∃ N : Nat, n = (N : Int) := ⟨n.toNat, by omega⟩
  by_cases h1 : N ≤ 1
  · refine ⟨0, p, s, .inr rfl, by omega, ?_⟩
    rw [fb (fn := a66) rfl rfl rfl]
    have h1' : (N : Int) ≤ 1 := by omega
    simp [a66, h1, h1', sub]
  · have h1' : ¬ (N : Int) ≤ 1 := by omega
    obtain ⟨x, s1, hx, hF⟩ := c_next bs hb o p (by omega) s
    have hc := call_cur (rest := []) rfl hF 0 1
    have hz : ¬ (N : Int) = 0 := by omega
    have hz2 : ¬ N = 0 := by omega
    by_cases h2 : 200 < N
    · have h2' : (200 : Int) < (N : Int) := by omega
      obtain ⟨y, s2, hy, hF2⟩ := c_next bs hb o (p + 1) (by omega) s1
      have hc2 := call_cur (rest := []) rfl hF2 0 1
      have w1 : IntKind.i64.wrap ((x : Int) * 256) = ((x * 256 : Nat) : Int) := (wrapI (by omega) (by omega)).trans (by omega)
      have w2 : IntKind.i64.wrap (((x * 256 : Nat) : Int) + (y : Int)) = ((x * 256 + y : Nat) : Int) := (wrapI (by omega) (by omega)).trans (by omega)
      have ht : ((x * 256 + y : Nat) : Int).tmod (N : Int) = (((x * 256 + y) % N : Nat) : Int) := rfl
      have hlt : (x * 256 + y) % N < N := Nat.mod_lt _ (by omega)
      have w3 : IntKind.i64.wrap (((x * 256 + y) % N : Nat) : Int) = (((x * 256 + y) % N : Nat) : Int) := wrapI (by omega) (by omega)
      refine ⟨(x * 256 + y) % N, p + 2, s2, .inl (by omega), by omega, ?_⟩
      rw [fb (fn := a66) rfl rfl rfl]
      generalize (x * 256 + y) % N = z at *
      generalize x * 256 + y = u at *
      generalize x * 256 = t at *
      simp [a66, h1, h1', h2, h2', hz, hz2, hc, hc2, w1, w2, ht, w3, stillE, madeA, idOf, sub]
    · have h2' : ¬ (200 : Int) < (N : Int) := by omega
      have ht : (x : Int).tmod (N : Int) = ((x % N : Nat) : Int) := rfl
      have hlt : x % N < N := Nat.mod_lt _ (by omega)
      have w3 : IntKind.i64.wrap ((x % N : Nat) : Int) = ((x % N : Nat) : Int) := wrapI (by omega) (by omega)
      refine ⟨x % N, p + 1, s1, .inl (by omega), by omega, ?_⟩
      rw [fb (fn := a66) rfl rfl rfl]
      generalize x % N = z at *
      simp [a66, h1, h1', h2, h2', hz, hz2, hc, ht, w3, stillE, madeA, idOf, sub]
theorem c_one (bs : List Int) (hb : Bytes bs) (o : Bool) (p : Nat) (hp : p + 2 < 1000000000) (s : Int) (n : Int) (h0 : 0 ≤ n) (hn : n ≤ 60000) : ∃ (q : Bool) (p' : Nat) (s' : Int), p' ≤ p + 2 ∧ fnI pr np 65 [.c (.ptr 0 0), .c (.int .i64 n)] [curB 1 bs.length p s, byB bs o] = some (.c (.bool q), [curB 1 bs.length p' s', byB bs o]) := by
  obtain ⟨x, p', s', _, hp', hF⟩ := c_pick bs hb o p hp s n h0 hn
  have hc := call_cur (rest := [.c (.int .i64 n)]) rfl hF 0 1
  refine ⟨(x : Int) == 0, p', s', hp', ?_⟩
  rw [fb (fn := a65) rfl rfl rfl]
  simp [a65, hc, sub]
theorem c_among (bs : List Int) (hb : Bytes bs) (o : Bool) (p : Nat) (hp : p + 2 < 1000000000) (s : Int) (xs : List Int) (h0 : 0 < xs.length) (hn : xs.length ≤ 60000) : ∃ (x : Int) (p' : Nat) (s' : Int), x ∈ xs ∧ p' ≤ p + 2 ∧ fnI pr np 58 [.c (.ptr 0 0), .c (.sl 1 0 xs.length 1)] [curB 2 bs.length p s, .cells (xs.map (C.int .i64)) true, byB bs o] = some (.c (.int .i64 x), [curB 2 bs.length p' s', .cells (xs.map (C.int .i64)) true, byB bs o]) := by
  obtain ⟨x, p', s', hx, hp', hF⟩ := c_pick bs hb o p hp s xs.length (by omega) (by omega)
  have hc := call_cur (rest := [.c (.int .i64 xs.length)]) rfl hF 0 2
  have hxl : x < xs.length := by omega
  have g := drop_take1 hxl
  have hm : xs.getD x 0 ∈ xs := by
    rw [List.getD_eq_getElem?_getD, List.getElem?_eq_getElem hxl]
    exact List.getElem_mem _
  have b1 : x + 1 ≤ xs.length := by omega
  refine ⟨xs.getD x 0, p', s', hm, hp', ?_⟩
  rw [fb (fn := a58) rfl rfl rfl]
  generalize xs.getD x 0 = y at *
  simp [a58, hc, hxl, g, b1, sub]
theorem call_among {F : Fns} {f n p p' m : Nat} {s s' : Int} {bs : List Int} {o : Bool} {b : Blk} {v : V} (hbi : b.ids = []) (hF : F f [.c (.ptr 0 0), .c (.sl 1 0 m 1)] [curB 2 n p s, b, byB bs o] = some (v, [curB 2 n p' s', b, byB bs o])) (i k j : Nat) (H : HF) (base : Nat) (hij : (i != j) = true) (hik : (i != k) = true) (hkj : (k != j) = true) (hi : (H i == some (curB j n p s)) = true) (hk : (H k == some b) = true) (hj : (H j == some (byB bs o)) = true) :
    callA F f [.c (.ptr i 0), .c (.sl k 0 m 1)] H base = some (v.mp (back [i, k, j] base), [], [(i, curB j n p' s'), (k, b), (j, byB bs o)]) := by
  have hi : H i = some (curB j n p s) := by simpa using hi
  have hj : H j = some (byB bs o) := by simpa using hj
  have hk : H k = some b := by simpa using hk
  have hij : i ≠ j := by simpa using hij
  have hik : i ≠ k := by simpa using hik
  have hkj : k ≠ j := by simpa using hkj
  have hji : ¬ j = i := fun e => hij e.symm
  have hki : ¬ k = i := fun e => hik e.symm
  have hjk : ¬ j = k := fun e => hkj e.symm
  have h := callA_gen (F := F) (f := f) (args := [.c (.ptr i 0), .c (.sl k 0 m 1)]) (H := H) (L := [i, k, j]) (by simp [reach, idsAt, hi, hj, hk, hbi, hji, hki, hjk, hik, hkj, hij]) (by simp [closed, hi, hj, hk, hbi, idsAt, inL]) (show sub [i, k, j] H = [curB 2 n p s, b, byB bs o] by simp [sub, hi, hj, hk, pos, hij, hik, hkj, mp_ids hbi]) (show _ = [.c (.ptr 0 0), .c (.sl 1 0 m 1)] by simp [pos, hik]) hF (by simp) base
  rw [h]
  simp [back, mp_ids hbi]
/-- a text out of a list of texts -/
theorem str_take1 {l : List Tx} {j : Nat} (h : j < l.length) : ((strC l).drop j).take 1 = [C.str (l.getD j [])] := by
  unfold strC
  rw [List.drop_eq_getElem_cons (by simpa using h)]
  simp [List.getD_eq_getElem?_getD, List.getElem?_eq_getElem h]
theorem c_of (bs : List Int) (hb : Bytes bs) (o : Bool) (p : Nat) (hp : p + 2 < 1000000000) (s : Int) (xs : List Tx) (h0 : 0 < xs.length) (hn : xs.length ≤ 60000) : ∃ (x : Tx) (p' : Nat) (s' : Int), x ∈ xs ∧ p' ≤ p + 2 ∧ fnI pr np 88 [.c (.ptr 0 0), .c (.sl 1 0 xs.length 1)] [curB 2 bs.length p s, .cells (strC xs) true, byB bs o] = some (.c (.str x), [curB 2 bs.length p' s', .cells (strC xs) true, byB bs o]) := by
  obtain ⟨x, p', s', hx, hp', hF⟩ := c_pick bs hb o p hp s xs.length (by omega) (by omega)
  have hc := call_cur (rest := [.c (.int .i64 xs.length)]) rfl hF 0 2
  have hxl : x < xs.length := by omega
  have g := str_take1 hxl
  have hm : xs.getD x [] ∈ xs := by
    rw [List.getD_eq_getElem?_getD, List.getElem?_eq_getElem hxl]
    exact List.getElem_mem _
  have b1 : x + 1 ≤ xs.length := by omega
  refine ⟨xs.getD x [], p', s', hm, hp', ?_⟩
  rw [fb (fn := a88) rfl rfl rfl]
  generalize xs.getD x [] = y at *
  simp [a88, hc, hxl, g, b1, sub]
/-- what a drawn text is: no longer than asked -/
theorem len_of {xs : List Tx} {x : Tx} {n : Nat} (h : (xs.all fun y => decide (y.length ≤ n)) = true) (hx : x ∈ xs) : x.length ≤ n := by
  have := List.all_eq_true.1 h x hx
  simpa using this
end Go.Proofs.YtahfeigilhjgpaaDoor.AM
