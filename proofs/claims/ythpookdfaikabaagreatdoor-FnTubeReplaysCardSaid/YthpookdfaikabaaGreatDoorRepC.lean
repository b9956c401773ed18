import Derived.Test.YthpookdfaikabaaGreatDoorRepB
/- Contracts: replays with other pours: copies, parts, one more. -/
namespace Go.Proofs.YthpookdfaikabaaGreatDoor.AM
open Go
set_option maxRecDepth 1000000
set_option linter.unusedSimpArgs false
set_option linter.unusedVariables false
/-- the part of a replay up to n pours -/
theorem c_spec_l11Cut (r : List Int) (hr : r.length = 24) (l : List (Int × Int)) (hl : l.length ≤ 1048576) (n : Nat) (hn : n ≤ l.length) (o : Bool) : fnI pr np 37 [repV r 0 l.length, .c (.int .i64 n)] [.cells (cZ l) o] = some (repV r 1 n, [.cells (cZ l) o, .cells (cZ (l.take n)) true]) := by
  have t1 := repC_take hr (C.sl 0 0 l.length 2)
  have t2 := repC_drop hr (C.sl 0 0 l.length 2)
  have hroom : n ≤ 68719476736 := by omega
  have hnl : (n : Int) ≤ (l.length : Int) := by omega
  have hcut := cZ_takeN l n
  have b1 : n * 2 ≤ l.length * 2 := by omega
  rw [fb (fn := a37) rfl rfl rfl]
  unfold repV
  simp [a37, hr, t1, t2, hroom, hn, hnl, hcut, b1, z25_eq, z25_set hr, z25_setAll hr, repC_set hr, repC_all hr, idOf, madeA, cids_app, cmp_app, sub]
/-! ### slices.Grow and slices.Concat -/
theorem c_grow_zero : fnI pr np 83 [.c .nsl, .c (.int .i64 0)] [] = some (.c .nsl, []) := (fnI_iff pr np).2 ⟨30, by kernel_rfl⟩
theorem c_grow_pos (n : Nat) (h0 : 0 < n) (hn : n ≤ 4194304) : fnI pr np 83 [.c .nsl, .c (.int .i64 n)] [] = some (.c (.sl 0 0 0 2), [.cells (List.replicate (n * 2) (C.int .i64 0)) true]) := by
  have h1 : ¬ (n : Int) < 0 := by omega
  have h2 : (0 : Int) < (n : Int) := by omega
  have w : IntKind.i64.wrap (n : Int) = (n : Int) := wrapI (by omega) (by omega)
  have wz : IntKind.i64.wrap 0 = 0 := by decide
  have hroom : (n : Int) ≤ 68719476736 := by omega
  rw [fb (fn := a83) rfl rfl rfl]
  simp [a83, h0, h1, h2, w, wz, hroom, inst_two, cids_rep, cmp_rep, sub]
/-- one list: a copy of its part -/
theorem c_concat1 (l : List (Int × Int)) (k n : Nat) (hk : k + n ≤ l.length) (hl : l.length ≤ 1048576) (o : Bool) : fnI pr np 62 [.c (.sl 0 0 1 1)] [.cells [.sl 1 (k * 2) n 2] true, .cells (cZ l) o] = some (.c (.sl 2 0 n 2), [.cells [.sl 1 (k * 2) n 2] true, .cells (cZ l) o, .cells (cZ ((l.drop k).take n)) true]) := by
  have w : IntKind.i64.wrap (n : Int) = (n : Int) := wrapI (by omega) (by omega)
  have wz : IntKind.i64.wrap 0 = 0 := by decide
  have w1 : IntKind.i64.wrap 1 = 1 := by decide
  have hneg : ¬ (n : Int) < 0 := by omega
  have b1 : k * 2 + n * 2 ≤ l.length * 2 := by omega
  have hroom : n ≤ 68719476736 := by omega
  have hcut : ((cZ l).drop (k * 2)).take (n * 2) = cZ ((l.drop k).take n) := by rw [cZ_drop, cZ_takeN]
  rw [fb (fn := a62) rfl rfl rfl]
  by_cases h0 : n = 0
  · subst h0
    have hg := callA_pure c_grow_zero (by simp) (by simp)
    have hk2 : k * 2 ≤ l.length * 2 := by omega
    simp [a62, exI_loop', wz, w1, hg, hk2, cZ_nil, sub]
  · have hg := callA_new (c_grow_pos n (by omega) (by omega)) (by simp)
    simp [a62, exI_loop', w, wz, w1, hneg, hg, b1, hroom, hcut, cids_rep, cmp_rep, sub]
/-- a replay with a part of pours: heap: the pours, the list of one slice -/
theorem c_impl_with1 (r : List Int) (hr : r.length = 24) (l : List (Int × Int)) (n0 k n : Nat) (hk : k + n ≤ l.length) (hl : l.length ≤ 1048576) (o : Bool) : fnI pr np 35 [repV r 0 n0, .c (.sl 1 0 1 1)] [.cells (cZ l) o, .cells [.sl 0 (k * 2) n 2] true] = some (repV r 2 n, [.cells (cZ l) o, .cells [.sl 0 (k * 2) n 2] true, .cells (cZ ((l.drop k).take n)) true]) := by
  have t1 := repC_take hr (C.sl 0 0 n0 2)
  have hc := fun (G : Heap) (base : Nat) => callA_gen (F := fnI pr np) (f := 62) (args := [.c (.sl 1 0 1 1)]) (H := lkp (.cells (cZ l) o :: .cells [.sl 0 (k * 2) n 2] true :: G)) (L := [1, 0]) (by simp) (by simp) (by simp [sub]) (by simp) (c_concat1 l k n hk hl o) (by simp) base
  rw [fb (fn := a35) rfl rfl rfl]
  unfold repV
  simp [a35, hr, t1, hc, z25_eq, z25_set hr, z25_setAll hr, repC_set hr, repC_all hr, idOf, madeA, cids_app, cmp_app, sub]
end Go.Proofs.YthpookdfaikabaaGreatDoor.AM

/- Contracts: pours undone; the law's pattern for a replay that comes back. -/
namespace Go.Proofs.YthpookdfaikabaaGreatDoor.AM
open Go
set_option maxRecDepth 1000000
set_option linter.unusedSimpArgs false
set_option linter.unusedVariables false
def unB (r : List Int) (l : List (Int × Int)) (k : Int) : Bool := repB r l && inB k 0 l.length
def unL (r : List Int) (l : List (Int × Int)) (k : Int) : List (Int × Int) := if unB r l k = true then l.take (l.length - k.toNat) else []
def unR (r : List Int) (l : List (Int × Int)) (k : Int) : List Int := if unB r l k = true then r else List.replicate 24 0
theorem unR_len {r : List Int} (hr : r.length = 24) (l : List (Int × Int)) (k : Int) : (unR r l k).length = 24 := by
  unfold unR; split
  · exact hr
  · simp
theorem c_spec_UndoPours (r : List Int) (hr : r.length = 24) (l : List (Int × Int)) (o : Bool) (k : Int) : fnI pr np 14 [repV r 0 l.length, .c (.int .i64 k)] [.cells (cZ l) o] = some (backV (unR r l k) (unL r l k) (unB r l k), [.cells (cZ l) o, .cells (cZ (unL r l k)) true]) := by
  have h1 := call_rep (rest := []) rfl (by simp) (c_spec_IsReplay r hr l o)
  have t3 := fun i n => repC_all hr (C.sl i 0 n 2)
  have t2 := repC_drop hr (C.sl 0 0 l.length 2)
  rw [fb (fn := a14) rfl rfl rfl]
  unfold backV unL unR unB
  cases hq : repB r l with
  | false => rw [hq] at h1; simp [a14, repV, hr, t3, h1, z25_eq, setAt_all, cZ_nil, sub]
  | true =>
    rw [hq] at h1
    obtain ⟨h, hl, _⟩ := repB_facts hr hq
    have hin := callA_pure (c_spec_l1In k 0 l.length) (by simp) (by simp)
    rw [show (decide ((0 : Int) ≤ k) && decide (k ≤ l.length)) = inB k 0 l.length from rfl] at hin
    cases hb : inB k 0 l.length with
    | false => rw [hb] at hin; simp [a14, repV, hr, t2, t3, h1, hin, z25_eq, setAt_all, cZ_nil, sub]
    | true =>
      rw [hb] at hin
      have hk : 0 ≤ k ∧ k ≤ l.length := by simpa [inB] using hb
      obtain ⟨K, rfl⟩ : ∃ K : Nat, k = (K : Int) := ⟨k.toNat, by omega⟩
      have w : IntKind.i64.wrap ((l.length : Int) - (K : Int)) = ((l.length - K : Nat) : Int) := (wrapI (by omega) (by omega)).trans (by omega)
      have hcut := call_rep (rest := [.c (.int .i64 ((l.length - K : Nat) : Int))]) rfl (by simp) (c_spec_l11Cut r hr l (by omega) (l.length - K) (by omega) o)
      have hlen : (l.take (l.length - K)).length = l.length - K := by rw [List.length_take]; omega
      simp [a14, repV, hr, t2, t3, h1, hin, w, hcut, hlen, z25_eq, z25_setAll hr, repV_mp, setAt_all, sub]
theorem call_with1 {r : List Int} (hr : r.length = 24) {l : List (Int × Int)} {n0 k n off : Nat} (hoff : off = k * 2) (hk : k + n ≤ l.length) (hl : l.length ≤ 1048576) (o : Bool) (j i : Nat) (H : HF) (base : Nat) (hji : (j != i) = true) (hj : (H j == some (Blk.cells (cZ l) o)) = true) (hi : (H i == some (Blk.cells [.sl j off n 2] true)) = true) :
    callA (fnI pr np) 35 [.agg (r.map (C.int .i64) ++ [C.sl j 0 n0 2]), .c (.sl i 0 1 1)] H base = some (.agg (r.map (C.int .i64) ++ [C.sl base 0 n 2]), [.cells (cZ ((l.drop k).take n)) true], [(j, .cells (cZ l) o), (i, .cells [.sl j off n 2] true)]) := by
  subst hoff
  have hj : H j = some (Blk.cells (cZ l) o) := by simpa using hj
  have hi : H i = some (Blk.cells [.sl j (k * 2) n 2] true) := by simpa using hi
  have hji : j ≠ i := by simpa using hji
  have hij : ¬ i = j := fun e => hji e.symm
  have h := callA_gen (F := fnI pr np) (f := 35) (args := [.agg (r.map (C.int .i64) ++ [C.sl j 0 n0 2]), .c (.sl i 0 1 1)]) (H := H) (L := [j, i]) (by simp [reach, idsAt, hj, hi, hji, hij, cids_app]) (by simp [closed, hj, hi, idsAt, inL, cids_app]) (show sub [j, i] H = [.cells (cZ l) o, .cells [.sl 0 (k * 2) n 2] true] by simp [sub, hj, hi, pos]) (show _ = [repV r 0 n0, .c (.sl 1 0 1 1)] by simp [pos, repV, hji, cmp_app]) (c_impl_with1 r hr l n0 k n hk hl o) (by simp) base
  rw [h]
  simp [repV, back, cmp_app]
theorem c_impl_UndoPours (r : List Int) (hr : r.length = 24) (l : List (Int × Int)) (o : Bool) (k : Int) : fnI pr np 13 [repV r 0 l.length, .c (.int .i64 k)] [.cells (cZ l) o] = some (backV (unR r l k) (unL r l k) (unB r l k), [.cells (cZ l) o, .cells (cZ (unL r l k)) true]) := by
  have h1 := call_rep (rest := []) rfl (by simp) (c_impl_IsReplay r hr l o)
  have t3 := fun i n => repC_all hr (C.sl i 0 n 2)
  have t2 := repC_drop hr (C.sl 0 0 l.length 2)
  rw [fb (fn := a13) rfl rfl rfl]
  unfold backV unL unR unB
  cases hq : repB r l with
  | false => rw [hq] at h1; simp [a13, repV, hr, t3, h1, z25_eq, setAt_all, cZ_nil, sub]
  | true =>
    rw [hq] at h1
    obtain ⟨h, hl, _⟩ := repB_facts hr hq
    have hin := callA_pure (c_impl_within k 0 l.length) (by simp) (by simp)
    rw [show (decide ((0 : Int) ≤ k) && decide (k ≤ l.length)) = inB k 0 l.length from rfl] at hin
    cases hb : inB k 0 l.length with
    | false => rw [hb] at hin; simp [a13, repV, hr, t2, t3, h1, hin, z25_eq, setAt_all, cZ_nil, sub]
    | true =>
      rw [hb] at hin
      have hk : 0 ≤ k ∧ k ≤ l.length := by simpa [inB] using hb
      obtain ⟨K, rfl⟩ : ∃ K : Nat, k = (K : Int) := ⟨k.toNat, by omega⟩
      have w : IntKind.i64.wrap ((l.length : Int) - (K : Int)) = ((l.length - K : Nat) : Int) := (wrapI (by omega) (by omega)).trans (by omega)
      have hw := fun (i : Nat) => call_with1 hr (l := l) (n0 := l.length) (k := 0) (n := l.length - K) (off := 0) rfl (by omega) (by omega) o 0 i
      have hlen : (l.take (l.length - K)).length = l.length - K := by simp
      simp [a13, repV, hr, t2, t3, h1, hin, w, hw, hlen, z25_eq, z25_setAll hr, setAt_all, stillE, madeA, sub]
end Go.Proofs.YthpookdfaikabaaGreatDoor.AM

/- Contracts: whether two pours can be exchanged. -/
namespace Go.Proofs.YthpookdfaikabaaGreatDoor.AM
open Go
set_option maxRecDepth 1000000
set_option linter.unusedSimpArgs false
set_option linter.unusedVariables false
def cswB (r : List Int) (l : List (Int × Int)) (k : Int) : Bool := repB r l && inB k 0 ((l.length : Int) - 2)
def cswA (r : List Int) (l : List (Int × Int)) (k : Int) : Bool := cswB r l k && (repB r (swapL l k.toNat) && decide (rackF r (swapL l k.toNat) = rackF r l))
def cswV (r : List Int) (l : List (Int × Int)) (k : Int) : V := .tup [.c (.bool (cswA r l k)), .c (.bool (cswB r l k))]
theorem swapL_get {l : List (Int × Int)} {K : Nat} (h1 : K < l.length) (h2 : K + 1 < l.length) : swapL l K = (l.set K (l[K + 1]'h2)).set (K + 1) (l[K]'h1) := by
  unfold swapL
  rw [List.getD_eq_getElem?_getD, List.getD_eq_getElem?_getD, List.getElem?_eq_getElem h1, List.getElem?_eq_getElem h2]
  rfl
set_option maxHeartbeats 4000000 in
theorem c_spec_CanSwap (r : List Int) (hr : r.length = 24) (l : List (Int × Int)) (o : Bool) (k : Int) : fnI pr np 25 [repV r 0 l.length, .c (.int .i64 k)] [.cells (cZ l) o] = some (cswV r l k, [.cells (cZ l) o]) := by
  have h0 := c_spec_l11Racks r hr l o
  have t2 := repC_drop hr (C.sl 0 0 l.length 2)
  have t3 := repC_all hr (C.sl 0 0 l.length 2)
  rw [fb (fn := a25) rfl rfl rfl]
  unfold cswV cswA cswB
  cases hq : repB r l with
  | false =>
    rw [racksV_f hq] at h0
    have hc := call_rep (rest := []) rfl (by simp) h0
    simp [a25, repV, hr, t2, t3, hc, sub]
  | true =>
    rw [racksV_t hq] at h0
    have hc := call_rep (rest := []) rfl (by simp) h0
    obtain ⟨h, hl, hg⟩ := repB_facts hr hq
    have w : IntKind.i64.wrap ((l.length : Int) - 2) = (l.length : Int) - 2 := wrapI (by omega) (by omega)
    have hin := callA_pure (c_spec_l1In k 0 ((l.length : Int) - 2)) (by simp) (by simp)
    rw [show (decide ((0 : Int) ≤ k) && decide (k ≤ (l.length : Int) - 2)) = inB k 0 ((l.length : Int) - 2) from rfl] at hin
    cases hb : inB k 0 ((l.length : Int) - 2) with
    | false => rw [hb] at hin; simp [a25, repV, hr, t2, t3, hc, w, hin, sub]
    | true =>
      rw [hb] at hin
      have hk : 0 ≤ k ∧ k ≤ (l.length : Int) - 2 := by simpa [inB] using hb
      obtain ⟨K, rfl⟩ : ∃ K : Nat, k = (K : Int) := ⟨k.toNat, by omega⟩
      have h1 : K < l.length := by omega
      have h2 : K + 1 < l.length := by omega
      have hcut := call_rep (rest := [.c (.int .i64 (l.length : Int))]) rfl (by simp) (c_spec_l11Cut r hr l (by omega) l.length (Nat.le_refl _) o)
      rw [List.take_length] at hcut
      have wk := wrapS (k := K) (by omega)
      have g1 := cZ_get l h1
      have g2 := cZ_get l h2
      have s1 := cZ_set2 l K (l[K + 1]'h2)
      have s2 := cZ_set2 (l.set K (l[K + 1]'h2)) (K + 1) (l[K]'h1)
      rw [← swapL_get h1 h2] at s2
      have b1 : K * 2 + 2 ≤ l.length * 2 := by omega
      have x1 : (0 : Int) ≤ (K : Int) + 1 := by omega
      have x2 : (K : Int) + 1 < (l.length : Int) := by omega
      have x3 : (K : Int) < (l.length : Int) := by omega
      have b2 : (K + 1) * 2 + 2 ≤ l.length * 2 := by omega
      have t5 := fun i => repC_drop hr (C.sl i 0 l.length 2)
      have t6 := fun i => repC_all hr (C.sl i 0 l.length 2)
      have h9 := c_spec_l11Racks r hr (swapL l K) true
      rw [swapL_len] at h9
      have e1 := outC_get hr l l.length (Nat.le_refl _)
      rw [rackF_all] at e1
      have hol := outI_len hr l l.length
      have b3 : l.length * 24 + 24 ≤ (l.length + 1) * 24 := by omega
      have b4 : (l.length : Int) < (l.length : Int) + 1 := by omega
      have wl : IntKind.i64.wrap (l.length : Int) = (l.length : Int) := wrapI (by omega) (by omega)
      cases hq2 : repB r (swapL l K) with
      | false =>
        rw [racksV_f hq2] at h9
        have hc2 := call_rep (rest := []) rfl (by simp) h9
        simp [a25, repV, hr, t2, t3, t5, t6, hc, w, hin, hcut, wk, g1, g2, s1, s2, b1, b2, h1, h2, x1, x2, x3, hc2, hq2, z25_eq, z25_setAll hr, repV_mp, setAt_all, setAt, idOf, stillE, madeA, sub]
      | true =>
        rw [racksV_t hq2] at h9
        have e2 := outC_get hr (swapL l K) (swapL l K).length (Nat.le_refl _)
        rw [rackF_all, swapL_len] at e2
        have hol2 := outI_len hr (swapL l K) l.length
        rw [swapL_len] at h9
        have hc2 := call_rep (rest := []) rfl (by simp) h9
        have c1 := conf24 _ (rackF_len hr (swapL l K))
        have c2 := conf24 _ (rackF_len hr l)
        simp [a25, repV, hr, t2, t3, t5, t6, hc, w, hin, hcut, wk, g1, g2, s1, s2, b1, b2, h1, h2, x1, x2, x3, hc2, hq2, e1, e2, hol, hol2, b3, b4, wl, c1, c2, ints_inj, z25_eq, z25_setAll hr, repV_mp, setAt_all, setAt, idOf, stillE, madeA, sub]
set_option maxHeartbeats 4000000 in
theorem c_impl_CanSwap (r : List Int) (hr : r.length = 24) (l : List (Int × Int)) (o : Bool) (k : Int) : fnI pr np 24 [repV r 0 l.length, .c (.int .i64 k)] [.cells (cZ l) o] = some (cswV r l k, [.cells (cZ l) o]) := by
  have h0 := c_impl_racks r hr l o
  have t2 := repC_drop hr (C.sl 0 0 l.length 2)
  have t3 := repC_all hr (C.sl 0 0 l.length 2)
  rw [fb (fn := a24) rfl rfl rfl]
  unfold cswV cswA cswB
  cases hq : repB r l with
  | false =>
    rw [racksV_f hq] at h0
    have hc := call_rep (rest := []) rfl (by simp) h0
    simp [a24, repV, hr, t2, t3, hc, sub]
  | true =>
    rw [racksV_t hq] at h0
    have hc := call_rep (rest := []) rfl (by simp) h0
    obtain ⟨h, hl, hg⟩ := repB_facts hr hq
    have w : IntKind.i64.wrap ((l.length : Int) - 2) = (l.length : Int) - 2 := wrapI (by omega) (by omega)
    have hin := callA_pure (c_impl_within k 0 ((l.length : Int) - 2)) (by simp) (by simp)
    rw [show (decide ((0 : Int) ≤ k) && decide (k ≤ (l.length : Int) - 2)) = inB k 0 ((l.length : Int) - 2) from rfl] at hin
    cases hb : inB k 0 ((l.length : Int) - 2) with
    | false => rw [hb] at hin; simp [a24, repV, hr, t2, t3, hc, w, hin, sub]
    | true =>
      rw [hb] at hin
      have hk : 0 ≤ k ∧ k ≤ (l.length : Int) - 2 := by simpa [inB] using hb
      obtain ⟨K, rfl⟩ : ∃ K : Nat, k = (K : Int) := ⟨k.toNat, by omega⟩
      have h1 : K < l.length := by omega
      have h2 : K + 1 < l.length := by omega
      have hw := fun (i : Nat) => call_with1 hr (l := l) (n0 := l.length) (k := 0) (n := l.length) (off := 0) rfl (by omega) (by omega) o 0 i
      rw [List.drop_zero, List.take_length] at hw
      have wk := wrapS (k := K) (by omega)
      have g1 := cZ_get l h1
      have g2 := cZ_get l h2
      have s1 := cZ_set2 l K (l[K + 1]'h2)
      have s2 := cZ_set2 (l.set K (l[K + 1]'h2)) (K + 1) (l[K]'h1)
      rw [← swapL_get h1 h2] at s2
      have b1 : K * 2 + 2 ≤ l.length * 2 := by omega
      have x1 : (0 : Int) ≤ (K : Int) + 1 := by omega
      have x2 : (K : Int) + 1 < (l.length : Int) := by omega
      have x3 : (K : Int) < (l.length : Int) := by omega
      have b2 : (K + 1) * 2 + 2 ≤ l.length * 2 := by omega
      have t5 := fun i => repC_drop hr (C.sl i 0 l.length 2)
      have t6 := fun i => repC_all hr (C.sl i 0 l.length 2)
      have h9 := c_impl_racks r hr (swapL l K) true
      rw [swapL_len] at h9
      have e1 := outC_get hr l l.length (Nat.le_refl _)
      rw [rackF_all] at e1
      have hol := outI_len hr l l.length
      have b3 : l.length * 24 + 24 ≤ (l.length + 1) * 24 := by omega
      have b4 : (l.length : Int) < (l.length : Int) + 1 := by omega
      have wl : IntKind.i64.wrap (l.length : Int) = (l.length : Int) := wrapI (by omega) (by omega)
      cases hq2 : repB r (swapL l K) with
      | false =>
        rw [racksV_f hq2] at h9
        have hc2 := call_rep (rest := []) rfl (by simp) h9
        simp [a24, repV, hr, t2, t3, t5, t6, hc, w, hin, hw, wk, g1, g2, s1, s2, b1, b2, h1, h2, x1, x2, x3, hc2, hq2, z25_eq, z25_setAll hr, repV_mp, setAt_all, setAt, idOf, stillE, madeA, sub]
      | true =>
        rw [racksV_t hq2] at h9
        have e2 := outC_get hr (swapL l K) (swapL l K).length (Nat.le_refl _)
        rw [rackF_all, swapL_len] at e2
        have hol2 := outI_len hr (swapL l K) l.length
        rw [swapL_len] at h9
        have hc2 := call_rep (rest := []) rfl (by simp) h9
        have c1 := conf24 _ (rackF_len hr (swapL l K))
        have c2 := conf24 _ (rackF_len hr l)
        simp [a24, repV, hr, t2, t3, t5, t6, hc, w, hin, hw, wk, g1, g2, s1, s2, b1, b2, h1, h2, x1, x2, x3, hc2, hq2, e1, e2, hol, hol2, b3, b4, wl, c1, c2, ints_inj, z25_eq, z25_setAll hr, repV_mp, setAt_all, setAt, idOf, stillE, madeA, sub]
end Go.Proofs.YthpookdfaikabaaGreatDoor.AM

/- Contracts: one pour more. -/
namespace Go.Proofs.YthpookdfaikabaaGreatDoor.AM
open Go
set_option maxRecDepth 1000000
set_option linter.unusedSimpArgs false
set_option linter.unusedVariables false
def adL (r : List Int) (l : List (Int × Int)) (p : Int × Int) : List (Int × Int) := if adB r l p = true then l ++ [p] else []
def adR (r : List Int) (l : List (Int × Int)) (p : Int × Int) : List Int := if adB r l p = true then r else List.replicate 24 0
theorem adR_len {r : List Int} (hr : r.length = 24) (l : List (Int × Int)) (p : Int × Int) : (adR r l p).length = 24 := by
  unfold adR; split
  · exact hr
  · simp
theorem adL_len (r : List Int) (l : List (Int × Int)) (p : Int × Int) : (adL r l p).length ≤ 60 := by
  unfold adL adB
  split
  · rename_i h
    simp only [Bool.and_eq_true, decide_eq_true_eq] at h
    simp; omega
  · simp
set_option maxHeartbeats 4000000 in
theorem c_spec_AddPour (r : List Int) (hr : r.length = 24) (l : List (Int × Int)) (o : Bool) (p : Int × Int) : fnI pr np 10 [repV r 0 l.length, .agg [.int .i64 p.1, .int .i64 p.2]] [.cells (cZ l) o] = some (backV (adR r l p) (adL r l p) (adB r l p), [.cells (cZ l) o, .cells (cZ (adL r l p)) true]) := by
  have h0 := c_spec_l11Racks r hr l o
  have t2 := repC_drop hr (C.sl 0 0 l.length 2)
  have t3 := repC_all hr (C.sl 0 0 l.length 2)
  rw [fb (fn := a10) rfl rfl rfl]
  unfold backV adL adR adB
  cases hq : repB r l with
  | false =>
    rw [racksV_f hq] at h0
    have hc := call_rep (rest := []) rfl (by simp) h0
    simp [a10, repV, hr, t2, t3, hc, z25_eq, setAt_all, setAt, cZ_nil, stillE, madeA, sub]
  | true =>
    rw [racksV_t hq] at h0
    have hc := call_rep (rest := []) rfl (by simp) h0
    obtain ⟨h, hl, hg⟩ := repB_facts hr hq
    by_cases h60 : l.length < 60
    · have h60' : ¬ (60 : Int) ≤ (l.length : Int) := by omega
      have wl : IntKind.i64.wrap (l.length : Int) = (l.length : Int) := wrapI (by omega) (by omega)
      have ho := rackF_ok h l l.length (Nat.le_refl _) hg
      rw [rackF_all] at ho
      have hcan := callA_pure (c_spec_l6Can _ ho p) (by simp) (by simp)
      have e1 := outC_get hr l l.length (Nat.le_refl _)
      rw [rackF_all] at e1
      have hol := outI_len hr l l.length
      have b3 : l.length * 24 + 24 ≤ (l.length + 1) * 24 := by omega
      have b4 : (l.length : Int) < (l.length : Int) + 1 := by omega
      have r24 := take24 (rackF_len hr l)
      cases hq2 : canZ (rackF r l) p with
      | false =>
        rw [hq2] at hcan
        simp [a10, repV, hr, t2, t3, hc, h60, h60', wl, hcan, e1, hol, b3, b4, r24, z25_eq, setAt_all, setAt, cZ_nil, stillE, madeA, sub]
      | true =>
        rw [hq2] at hcan
        have hcut := call_rep (rest := [.c (.int .i64 (l.length : Int))]) rfl (by simp) (c_spec_l11Cut r hr l (by omega) l.length (Nat.le_refl _) o)
        rw [List.take_length] at hcut
        have t5 := fun i n => repC_drop hr (C.sl i 0 n 2)
        have t6 := fun i n => repC_all hr (C.sl i 0 n 2)
        have t7 := fun i n d => repC_set hr (C.sl i 0 n 2) d
        have htk := cZ_take l
        have hroom : l.length + 1 ≤ 68719476736 := by omega
        have e2 : cZ [p] = [C.int .i64 p.1, C.int .i64 p.2] := rfl
        simp [a10, repV, hr, t2, t3, t5, t6, t7, hc, h60, h60', wl, hcan, hcut, e1, e2, hol, b3, b4, r24, htk, hroom, cZ_app, z25_eq, z25_setAll hr, setAt_all, setAt, cZ_nil, stillE, madeA, sub]
    · have h60' : (60 : Int) ≤ (l.length : Int) := by omega
      simp [a10, repV, hr, t2, t3, hc, h60, h60', z25_eq, setAt_all, setAt, cZ_nil, stillE, madeA, sub]
/-- two lists of pours in blocks of their own, put together -/
theorem c_concat2 (l l2 : List (Int × Int)) (hl : l.length ≤ 1048576) (hl2 : l2.length ≤ 1048576) (h0 : 0 < l2.length) (o o2 : Bool) : fnI pr np 62 [.c (.sl 0 0 2 1)] [.cells [.sl 1 0 l.length 2, .sl 2 0 l2.length 2] true, .cells (cZ l) o, .cells (cZ l2) o2] = some (.c (.sl 3 0 (l.length + l2.length) 2), [.cells [.sl 1 0 l.length 2, .sl 2 0 l2.length 2] true, .cells (cZ l) o, .cells (cZ l2) o2, .cells (cZ (l ++ l2)) true]) := by
  have w1 : IntKind.i64.wrap (1 : Int) = 1 := by decide
  have w2 : IntKind.i64.wrap (2 : Int) = 2 := by decide
  have wn : IntKind.i64.wrap (l.length : Int) = (l.length : Int) := wrapI (by omega) (by omega)
  have ws : IntKind.i64.wrap ((l.length : Int) + (l2.length : Int)) = ((l.length + l2.length : Nat) : Int) := wrapI (by omega) (by omega)
  have hneg : ¬ (l.length : Int) < 0 := by omega
  have hneg2 : ¬ ((l.length + l2.length : Nat) : Int) < 0 := by omega
  have hroom : l.length ≤ 68719476736 := by omega
  have hroom2 : l.length + l2.length ≤ 68719476736 := by omega
  have k1 := cZ_take l
  have k2 := cZ_take l2
  have hg := callA_new (c_grow_pos (l.length + l2.length) (by omega) (by omega)) (by simp)
  rw [fb (fn := a62) rfl rfl rfl]
  simp [a62, exI_loop', w1, w2, wn, ws, hneg, hneg2, hroom, hroom2, k1, k2, hg, cZ_app, cids_rep, cmp_rep, -Int.natCast_add, sub]
theorem c_impl_with2 (r : List Int) (hr : r.length = 24) (l l2 : List (Int × Int)) (n0 : Nat) (hl : l.length ≤ 1048576) (hl2 : l2.length ≤ 1048576) (h0 : 0 < l2.length) (o o2 : Bool) : fnI pr np 35 [repV r 0 n0, .c (.sl 1 0 2 1)] [.cells (cZ l) o, .cells [.sl 0 0 l.length 2, .sl 2 0 l2.length 2] true, .cells (cZ l2) o2] = some (repV r 3 (l.length + l2.length), [.cells (cZ l) o, .cells [.sl 0 0 l.length 2, .sl 2 0 l2.length 2] true, .cells (cZ l2) o2, .cells (cZ (l ++ l2)) true]) := by
  have t1 := repC_take hr (C.sl 0 0 n0 2)
  have hc := fun (G : Heap) (base : Nat) => callA_gen (F := fnI pr np) (f := 62) (args := [.c (.sl 1 0 2 1)]) (H := lkp (.cells (cZ l) o :: .cells [.sl 0 0 l.length 2, .sl 2 0 l2.length 2] true :: .cells (cZ l2) o2 :: G)) (L := [1, 0, 2]) (by simp) (by simp) (by simp [sub]) (by simp) (c_concat2 l l2 hl hl2 h0 o o2) (by simp) base
  rw [fb (fn := a35) rfl rfl rfl]
  unfold repV
  simp [a35, hr, t1, hc, z25_eq, z25_set hr, z25_setAll hr, repC_set hr, repC_all hr, idOf, madeA, cids_app, cmp_app, sub]
theorem call_with2 {r : List Int} (hr : r.length = 24) {l l2 : List (Int × Int)} {n0 n n2 : Nat} (hnl : n = l.length) (hn2 : n2 = l2.length) (hl : l.length ≤ 1048576) (hl2 : l2.length ≤ 1048576) (h0 : 0 < l2.length) (o o2 : Bool) (j i k : Nat) (H : HF) (base : Nat) (hji : (j != i) = true) (hjk : (j != k) = true) (hik : (i != k) = true) (hj : (H j == some (Blk.cells (cZ l) o)) = true) (hi : (H i == some (Blk.cells [.sl j 0 n 2, .sl k 0 n2 2] true)) = true) (hk : (H k == some (Blk.cells (cZ l2) o2)) = true) :
    callA (fnI pr np) 35 [.agg (r.map (C.int .i64) ++ [C.sl j 0 n0 2]), .c (.sl i 0 2 1)] H base = some (.agg (r.map (C.int .i64) ++ [C.sl base 0 (n + n2) 2]), [.cells (cZ (l ++ l2)) true], [(j, .cells (cZ l) o), (i, .cells [.sl j 0 n 2, .sl k 0 n2 2] true), (k, .cells (cZ l2) o2)]) := by
  subst hnl; subst hn2
  have hj : H j = some (Blk.cells (cZ l) o) := by simpa using hj
  have hi : H i = some (Blk.cells [.sl j 0 l.length 2, .sl k 0 l2.length 2] true) := by simpa using hi
  have hk : H k = some (Blk.cells (cZ l2) o2) := by simpa using hk
  have hji : j ≠ i := by simpa using hji
  have hjk : j ≠ k := by simpa using hjk
  have hik : i ≠ k := by simpa using hik
  have hij : ¬ i = j := fun e => hji e.symm
  have hkj : ¬ k = j := fun e => hjk e.symm
  have hki : ¬ k = i := fun e => hik e.symm
  have h := callA_gen (F := fnI pr np) (f := 35) (args := [.agg (r.map (C.int .i64) ++ [C.sl j 0 n0 2]), .c (.sl i 0 2 1)]) (H := H) (L := [j, i, k]) (by simp [reach, idsAt, hj, hi, hk, hji, hij, hkj, hki, cids_app]) (by simp [closed, hj, hi, hk, idsAt, inL, cids_app]) (show sub [j, i, k] H = [.cells (cZ l) o, .cells [.sl 0 0 l.length 2, .sl 2 0 l2.length 2] true, .cells (cZ l2) o2] by simp [sub, hj, hi, hk, pos, hji, hjk, hik, hij, hkj, hki]) (show _ = [repV r 0 n0, .c (.sl 1 0 2 1)] by simp [pos, repV, hji, cmp_app]) (c_impl_with2 r hr l l2 n0 hl hl2 h0 o o2) (by simp) base
  rw [h]
  simp [repV, back, cmp_app]
set_option maxHeartbeats 4000000 in
theorem c_impl_AddPour (r : List Int) (hr : r.length = 24) (l : List (Int × Int)) (hl : l.length ≤ 1048576) (o : Bool) (p : Int × Int) : fnI pr np 9 [repV r 0 l.length, .agg [.int .i64 p.1, .int .i64 p.2]] [.cells (cZ l) o] = some (backV (adR r l p) (adL r l p) (adB r l p), [.cells (cZ l) o, .cells (cZ (adL r l p)) true]) := by
  have t2 := repC_drop hr (C.sl 0 0 l.length 2)
  have t3 := fun i n => repC_all hr (C.sl i 0 n 2)
  have e2 : cZ [p] = [C.int .i64 p.1, C.int .i64 p.2] := rfl
  have hw := call_with2 hr (l := l) (l2 := [p]) (n0 := l.length) (n := l.length) (n2 := 1) rfl rfl hl (by simp) (by simp) o true 0 6 5
  rw [e2] at hw
  have h1 := c_impl_IsReplay r hr (l ++ [p]) true
  rw [add_rep, show (l ++ [p]).length = l.length + 1 by simp] at h1
  have h1 := call_rep (rest := []) rfl (by simp) h1
  rw [fb (fn := a9) rfl rfl rfl]
  unfold backV adL adR
  cases hq : adB r l p with
  | false => rw [hq] at h1; simp [a9, repV, hr, t2, t3, hw, h1, z25_eq, z25_setAll hr, setAt_all, setAt, cZ_nil, stillE, madeA, idOf, sub]
  | true => rw [hq] at h1; simp [a9, repV, hr, t2, t3, hw, h1, z25_eq, z25_setAll hr, setAt_all, setAt, cZ_nil, stillE, madeA, idOf, sub]
end Go.Proofs.YthpookdfaikabaaGreatDoor.AM

