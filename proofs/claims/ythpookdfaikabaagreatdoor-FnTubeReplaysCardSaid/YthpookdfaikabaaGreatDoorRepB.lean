import Derived.Test.YthpookdfaikabaaGreatDoorRepA
/- Contracts: laws of replays. -/
namespace Go.Proofs.YthpookdfaikabaaGreatDoor.AM
open Go
set_option maxRecDepth 1000000
set_option linter.unusedSimpArgs false
set_option linter.unusedVariables false
/-- a call with a replay (and values that name no block), wherever its pours lie -/
theorem call_rep {F : Fns} {f : Nat} {r : List Int} {n : Nat} {rest : List V} {b : Blk} {v : V} {ns : Heap} (hre : rest.flatMap V.ids = []) (hbi : b.ids = []) (hF : F f (repV r 0 n :: rest) [b] = some (v, b :: ns)) (i : Nat) (H : HF) (base : Nat) (hb : (H i == some b) = true) :
    callA F f (.agg (r.map (C.int .i64) ++ [C.sl i 0 n 2]) :: rest) H base = some (v.mp (back [i] base), ns.map (Blk.mp (back [i] base)), [(i, b)]) := by
  have hb : H i = some b := by simpa using hb
  exact callA_one (x := repV r i n) hb (by simp) (by rw [repV_mp]; simp) hre hbi hF base
theorem call_rep2 {F : Fns} {f : Nat} {r r' : List Int} {n n' : Nat} {b c : Blk} {v : V} (hbi : b.ids = []) (hci : c.ids = []) (hF : F f [repV r 0 n, repV r' 1 n'] [b, c] = some (v, [b, c])) (i j : Nat) (H : HF) (base : Nat) (hij : (i != j) = true) (hb : (H i == some b) = true) (hc : (H j == some c) = true) :
    callA F f [.agg (r.map (C.int .i64) ++ [C.sl i 0 n 2]), .agg (r'.map (C.int .i64) ++ [C.sl j 0 n' 2])] H base = some (v.mp (back [i, j] base), [], [(i, b), (j, c)]) := by
  have hb : H i = some b := by simpa using hb
  have hc : H j = some c := by simpa using hc
  have hij : i ≠ j := by simpa using hij
  have := callA_two (x := repV r i n) (y := repV r' j n') hij hb hc (by simp) (by simp) (by rw [repV_mp]; simp [pos]) (by rw [repV_mp]; simp [pos, hij]) hbi hci hF base
  exact this
/-- the answer of racks by cases -/
theorem racksV_t {r : List Int} {l : List (Int × Int)} {o : Bool} (h : repB r l = true) : racksV r l o = (.tup [.c (.sl 1 0 (l.length + 1) 24), .c (.bool true)], .cells (cZ l) o :: [.cells ((outI r l l.length).map (C.int .i64)) true]) := by unfold racksV; rw [if_pos h]
theorem racksV_f {r : List Int} {l : List (Int × Int)} {o : Bool} (h : repB r l = false) : racksV r l o = (.tup [.c (.sl 1 0 0 24), .c (.bool false)], .cells (cZ l) o :: [.cells [] true]) := by unfold racksV; rw [if_neg (by simp [h])]
theorem c_impl_IsReplay (r : List Int) (hr : r.length = 24) (l : List (Int × Int)) (o : Bool) : fnI pr np 17 [repV r 0 l.length] [.cells (cZ l) o] = some (.c (.bool (repB r l)), [.cells (cZ l) o]) := by
  have h0 := c_impl_racks r hr l o
  have t3 := repC_all hr (C.sl 0 0 l.length 2)
  rw [fb (fn := a17) rfl rfl rfl]
  cases hq : repB r l with
  | true =>
    rw [racksV_t hq] at h0
    have hc := call_rep (rest := []) rfl (by simp) h0
    simp [a17, repV, hr, t3, hc, sub]
  | false =>
    rw [racksV_f hq] at h0
    have hc := call_rep (rest := []) rfl (by simp) h0
    simp [a17, repV, hr, t3, hc, sub]
theorem c_spec_IsReplay (r : List Int) (hr : r.length = 24) (l : List (Int × Int)) (o : Bool) : fnI pr np 39 [repV r 0 l.length] [.cells (cZ l) o] = some (.c (.bool (repB r l)), [.cells (cZ l) o]) := by
  have h0 := c_spec_l11Racks r hr l o
  have t3 := repC_all hr (C.sl 0 0 l.length 2)
  rw [fb (fn := a39) rfl rfl rfl]
  cases hq : repB r l with
  | true =>
    rw [racksV_t hq] at h0
    have hc := call_rep (rest := []) rfl (by simp) h0
    simp [a39, repV, hr, t3, hc, sub]
  | false =>
    rw [racksV_f hq] at h0
    have hc := call_rep (rest := []) rfl (by simp) h0
    simp [a39, repV, hr, t3, hc, sub]
end Go.Proofs.YthpookdfaikabaaGreatDoor.AM

/- Contracts: laws of replays: a rack, solved, layers. -/
namespace Go.Proofs.YthpookdfaikabaaGreatDoor.AM
open Go
set_option maxRecDepth 1000000
set_option linter.unusedSimpArgs false
set_option linter.unusedVariables false
theorem repB_facts {r : List Int} (hr : r.length = 24) {l : List (Int × Int)} (h : repB r l = true) : RackOK r ∧ l.length ≤ 60 ∧ (∀ j, j < l.length → canAt r l j = true) := by
  simp only [repB, Bool.and_eq_true, decide_eq_true_eq] at h
  exact ⟨rackOK hr h.1.1, h.1.2, fun j hj => List.all_eq_true.1 h.2 j (List.mem_range.2 hj)⟩
theorem rackF_all (r : List Int) (l : List (Int × Int)) : rackF r (l.take l.length) = rackF r l := by rw [List.take_length]
/-! ### a rack of a replay -/
def rrB (r : List Int) (l : List (Int × Int)) (k : Int) : Bool := repB r l && inB k 0 l.length
def rrR (r : List Int) (l : List (Int × Int)) (k : Int) : List Int := if rrB r l k = true then rackF r (l.take k.toNat) else List.replicate 24 0
def rrV (r : List Int) (l : List (Int × Int)) (k : Int) : V := .tup [.agg ((rrR r l k).map (C.int .i64)), .c (.bool (rrB r l k))]
theorem rrR_len {r : List Int} (hr : r.length = 24) (l : List (Int × Int)) (k : Int) : (rrR r l k).length = 24 := by
  unfold rrR
  split
  · exact rackF_len hr _
  · simp
theorem c_spec_ReplayRack (r : List Int) (hr : r.length = 24) (l : List (Int × Int)) (o : Bool) (k : Int) : fnI pr np 7 [repV r 0 l.length, .c (.int .i64 k)] [.cells (cZ l) o] = some (rrV r l k, [.cells (cZ l) o]) := by
  have h0 := c_spec_l11Racks r hr l o
  have t3 := repC_all hr (C.sl 0 0 l.length 2)
  rw [fb (fn := a7) rfl rfl rfl]
  unfold rrV rrR rrB
  cases hq : repB r l with
  | true =>
    rw [racksV_t hq] at h0
    have hc := call_rep (rest := []) rfl (by simp) h0
    obtain ⟨h, hl, _⟩ := repB_facts hr hq
    have w : IntKind.i64.wrap (l.length : Int) = (l.length : Int) := wrapI (by omega) (by omega)
    have hin := callA_pure (c_spec_l1In k 0 l.length) (by simp) (by simp)
    rw [show (decide ((0 : Int) ≤ k) && decide (k ≤ l.length)) = inB k 0 l.length from rfl] at hin
    cases hb : inB k 0 l.length with
    | true =>
      rw [hb] at hin
      have h1 : 0 ≤ k ∧ k ≤ l.length := by simpa [inB] using hb
      obtain ⟨K, rfl⟩ : ∃ K : Nat, k = (K : Int) := ⟨k.toNat, by omega⟩
      have hK : K ≤ l.length := by omega
      have g := outC_get hr l l.length hK
      have hol := outI_len hr l l.length
      have b1 : K < l.length + 1 := by omega
      have b1' : (K : Int) < (l.length : Int) + 1 := by omega
      have b2 : K * 24 + 24 ≤ (l.length + 1) * 24 := by omega
      have hpl := rackF_len hr (l.take K)
      have hp24 := take24 hpl
      simp [a7, repV, hr, t3, hc, w, hin, g, hol, b1, b1', b2, hpl, hp24, setAt_all, sub]
    | false =>
      rw [hb] at hin
      simp [a7, repV, hr, t3, hc, w, hin, setAt, sub]
  | false =>
    rw [racksV_f hq] at h0
    have hc := call_rep (rest := []) rfl (by simp) h0
    simp [a7, repV, hr, t3, hc, setAt, sub]
theorem c_impl_ReplayRack (r : List Int) (hr : r.length = 24) (l : List (Int × Int)) (o : Bool) (k : Int) : fnI pr np 6 [repV r 0 l.length, .c (.int .i64 k)] [.cells (cZ l) o] = some (rrV r l k, [.cells (cZ l) o]) := by
  have h0 := c_impl_racks r hr l o
  have t3 := repC_all hr (C.sl 0 0 l.length 2)
  have t2 := repC_drop hr (C.sl 0 0 l.length 2)
  rw [fb (fn := a6) rfl rfl rfl]
  unfold rrV rrR rrB
  cases hq : repB r l with
  | true =>
    rw [racksV_t hq] at h0
    have hc := call_rep (rest := []) rfl (by simp) h0
    have hin := callA_pure (c_impl_within k 0 l.length) (by simp) (by simp)
    rw [show (decide ((0 : Int) ≤ k) && decide (k ≤ l.length)) = inB k 0 l.length from rfl] at hin
    cases hb : inB k 0 l.length with
    | true =>
      rw [hb] at hin
      have h1 : 0 ≤ k ∧ k ≤ l.length := by simpa [inB] using hb
      obtain ⟨K, rfl⟩ : ∃ K : Nat, k = (K : Int) := ⟨k.toNat, by omega⟩
      have hK : K ≤ l.length := by omega
      have g := outC_get hr l l.length hK
      have hol := outI_len hr l l.length
      have b1 : K < l.length + 1 := by omega
      have b1' : (K : Int) < (l.length : Int) + 1 := by omega
      have b2 : K * 24 + 24 ≤ (l.length + 1) * 24 := by omega
      have hpl := rackF_len hr (l.take K)
      have hp24 := take24 hpl
      simp [a6, repV, hr, t2, t3, hc, hin, g, hol, b1, b1', b2, hpl, hp24, setAt_all, sub]
    | false =>
      rw [hb] at hin
      simp [a6, repV, hr, t2, t3, hc, hin, setAt, sub]
  | false =>
    rw [racksV_f hq] at h0
    have hc := call_rep (rest := []) rfl (by simp) h0
    simp [a6, repV, hr, t3, hc, setAt, sub]
/-! ### solved -/
def solB (r : List Int) (l : List (Int × Int)) : Bool := repB r l && sortP (rackF r l)
def solV (r : List Int) (l : List (Int × Int)) : V := .tup [.c (.bool (solB r l)), .c (.bool (repB r l))]
/-! ### layers that are moved -/
def movedTo (r : List Int) (l : List (Int × Int)) (k : Nat) : Nat := ((List.range k).map fun j => pourN (rackF r (l.take j)) (l.getD j (0, 0)).1.toNat (l.getD j (0, 0)).2.toNat).sum
theorem movedTo_succ (r : List Int) (l : List (Int × Int)) {k : Nat} (hk : k < l.length) : movedTo r l (k + 1) = movedTo r l k + pourN (rackF r (l.take k)) (l[k]'hk).1.toNat (l[k]'hk).2.toNat := by
  unfold movedTo
  rw [List.range_succ, List.map_append, List.sum_append]
  simp [hk]
theorem movedTo_le (r : List Int) (l : List (Int × Int)) : ∀ k, k ≤ l.length → movedTo r l k ≤ 4 * k
  | 0, _ => by simp [movedTo]
  | k + 1, h => by
    have := movedTo_le r l k (by omega)
    have := pourN_le4 (rackF r (l.take k)) (l[k]'(by omega)).1.toNat (l[k]'(by omega)).2.toNat
    rw [movedTo_succ r l (by omega)]
    omega
set_option maxHeartbeats 4000000 in
theorem c_impl_doPours (r : List Int) (h : RackOK r) (l : List (Int × Int)) (hl : l.length ≤ 60) (hgood : ∀ j, j < l.length → canAt r l j = true) (o : Bool) : fnI pr np 48 [.agg (r.map (C.int .i64)), .c (.sl 0 0 l.length 2)] [.cells (cZ l) o] = some (.tup [.agg ((rackF r l).map (C.int .i64)), .c (.int .i64 (movedTo r l l.length)), .c (.bool true)], [.cells (cZ l) o]) := by
  have hr := h.len
  have h24 := take24 hr
  have hlast := rackF_len hr l
  have hl24 := take24 hlast
  rw [fb (fn := a48) rfl rfl rfl]
  simp [a48, hr, h24]
  rw [loop_to (fun k => ([(2, V.c (C.ptr 1 0)), (4, V.c (C.ptr 2 0)), (7, V.c (C.int .i64 (movedTo r l k))), (12, V.c (C.sl 0 0 l.length 2)), (13, V.c (C.int .i64 l.length)), (14, V.c (C.int .i64 k))], [Blk.cells (cZ l) o, Blk.cells ((rackF r (l.take k)).map (C.int .i64)) true, Blk.cells (List.replicate 24 (C.int .i64 0)) true])) l.length]
  · simp [hlast, hl24, setAt_all, sub]
  · simp [rackF, movedTo, cids_rep, cmp_rep, sub]
  · intro k hkl
    have hro := rackF_ok h l k (by omega) fun j hj => hgood j (by omega)
    have hgk := hgood k hkl
    rw [canAt_eq r hkl] at hgk
    have hpl0 : placeB (l[k]'hkl).1 = true ∧ placeB (l[k]'hkl).2 = true := by simp only [canZ, Bool.and_eq_true] at hgk; exact hgk.1
    obtain ⟨i, j, ei, ej, hi, hj, hcan, ti, tj⟩ := canZ_facts hgk
    have p1 := callA_pure (c_impl_isPlace (l[k]'hkl).1) (by simp) (by simp)
    have p2 := callA_pure (c_impl_isPlace (l[k]'hkl).2) (by simp) (by simp)
    rw [hpl0.1, ei] at p1
    rw [hpl0.2, ej] at p2
    have hcp := callA_pure (c_impl_canPour _ hro hi hj) (by simp) (by simp)
    rw [hcan] at hcp
    have hp := callA_pure (c_impl_pour _ hro hi hj) (by simp) (by simp)
    have hst : rackF r (l.take (k + 1)) = pourR (rackF r (l.take k)) i j := by rw [rackF_succ r hkl]; unfold pourZ; rw [ti, tj]
    have hms := movedTo_succ r l hkl
    rw [ti, tj] at hms
    have hml := movedTo_le r l (k + 1) (by omega)
    have g := cZ_get l hkl
    rw [ei, ej] at g
    have b1 : k * 2 + 2 ≤ l.length * 2 := by omega
    have wk := wrapS (k := k) (by omega)
    have hrl := rackF_len hr (l.take k)
    have hr24 := take24 hrl
    have hpl := pourR_len hrl i j
    have hp24 := take24 hpl
    have wm : IntKind.i64.wrap ((movedTo r l k : Int) + (pourN (rackF r (l.take k)) i j : Int)) = ((movedTo r l (k + 1) : Nat) : Int) := by rw [hms, Int.natCast_add]; exact wrapI (by omega) (by omega)
    simp [hkl, g, b1, p1, p2, hcp, hp, wk, hrl, hr24, hpl, hp24, wm, hst, setAt_all, setAt, cids_rep, cmp_rep, sub]
def movV (r : List Int) (l : List (Int × Int)) : V := .tup [.c (.int .i64 (if repB r l = true then (movedTo r l l.length : Int) else 0)), .c (.bool (repB r l))]
theorem c_impl_MovedLayers (r : List Int) (hr : r.length = 24) (l : List (Int × Int)) (o : Bool) : fnI pr np 21 [repV r 0 l.length] [.cells (cZ l) o] = some (movV r l, [.cells (cZ l) o]) := by
  have t3 := repC_all hr (C.sl 0 0 l.length 2)
  have t1 := repC_take hr (C.sl 0 0 l.length 2)
  have t2 := repC_drop hr (C.sl 0 0 l.length 2)
  have h1 := call_rep (rest := []) rfl (by simp) (c_impl_IsReplay r hr l o)
  rw [fb (fn := a21) rfl rfl rfl]
  unfold movV
  cases hq : repB r l with
  | true =>
    obtain ⟨h, hl, hg⟩ := repB_facts hr hq
    have hd := fun (G : Heap) (base : Nat) => callA_gen (F := fnI pr np) (f := 48) (args := [.agg (r.map (C.int .i64)), .c (.sl 0 0 l.length 2)]) (H := lkp (.cells (cZ l) o :: G)) (L := [0]) (by simp) (by simp) (by simp [sub]) (by simp) (c_impl_doPours r h l hl hg o) (by simp) base
    have hlast := rackF_len hr l
    rw [hq] at h1
    simp [a21, repV, hr, t1, t2, t3, h1, hd, hlast, setAt_all, sub]
  | false => rw [hq] at h1; simp [a21, repV, hr, t3, h1, sub]
set_option maxHeartbeats 4000000 in
theorem c_spec_MovedLayers (r : List Int) (hr : r.length = 24) (l : List (Int × Int)) (o : Bool) : fnI pr np 22 [repV r 0 l.length] [.cells (cZ l) o] = some (movV r l, [.cells (cZ l) o]) := by
  have h0 := c_spec_l11Racks r hr l o
  have t3 := repC_all hr (C.sl 0 0 l.length 2)
  have t2 := repC_drop hr (C.sl 0 0 l.length 2)
  rw [fb (fn := a22) rfl rfl rfl]
  unfold movV
  cases hq : repB r l with
  | true =>
    rw [racksV_t hq] at h0
    have hc := call_rep (rest := []) rfl (by simp) h0
    obtain ⟨h, hl, hgood⟩ := repB_facts hr hq
    have hol := outI_len hr l l.length
    simp [a22, repV, hr, t3, hc]
    rw [loop_to (fun k => ([(1, V.c (C.ptr 1 0)), (4, V.c (C.sl 2 0 (l.length + 1) 24)), (5, V.c (C.bool true)), (6, V.c (C.int .i64 (movedTo r l k))), (7, V.c (C.int .i64 k))], [Blk.cells (cZ l) o, Blk.cells (r.map (C.int .i64) ++ [C.sl 0 0 l.length 2]) true, Blk.cells ((outI r l l.length).map (C.int .i64)) true])) l.length]
    · simp [hr, t2, sub]
    · simp [movedTo, cids_app, cmp_app, sub]
    · intro k hkl
      have hro := rackF_ok h l k (by omega) fun j hj => hgood j (by omega)
      have hgk := hgood k hkl
      rw [canAt_eq r hkl] at hgk
      obtain ⟨i, j, ei, ej, hi, hj, hcan, ti, tj⟩ := canZ_facts hgk
      have hp := callA_pure (c_spec_l2Pour _ hro hi hj) (by simp) (by simp)
      have hms := movedTo_succ r l hkl
      rw [ti, tj] at hms
      have hml := movedTo_le r l (k + 1) (by omega)
      obtain ⟨g3, g4⟩ := cZ_get1 l hkl
      rw [ei] at g3
      rw [ej] at g4
      have g2 := outC_get hr l l.length (show k ≤ l.length by omega)
      have b1 : k * 2 + 2 ≤ l.length * 2 := by omega
      have b1' : k * 2 + 1 ≤ l.length * 2 := by omega
      have b2 : k * 24 + 24 ≤ (l.length + 1) * 24 := by omega
      have b3 : (k : Int) < (l.length : Int) + 1 := by omega
      have wk := wrapS (k := k) (by omega)
      have hpl := pourR_len (rackF_len hr (l.take k)) i j
      have wm : IntKind.i64.wrap ((movedTo r l k : Int) + (pourN (rackF r (l.take k)) i j : Int)) = ((movedTo r l (k + 1) : Nat) : Int) := by rw [hms, Int.natCast_add]; exact wrapI (by omega) (by omega)
      simp [hkl, hr, t2, g2, g3, g4, hol, b1, b1', b2, b3, hp, wk, hpl, wm, setAt_all, setAt, cids_app, cmp_app, sub]
  | false =>
    rw [racksV_f hq] at h0
    have hc := call_rep (rest := []) rfl (by simp) h0
    simp [a22, repV, hr, t3, hc]
    rw [loop_to (fun k => ([(1, V.c (C.ptr 1 0)), (4, V.c (C.sl 2 0 0 24)), (5, V.c (C.bool false)), (6, V.c (C.int .i64 0)), (7, V.c (C.int .i64 k))], [Blk.cells (cZ l) o, Blk.cells (r.map (C.int .i64) ++ [C.sl 0 0 l.length 2]) true, Blk.cells [] true])) 0]
    · by_cases hz : 0 < l.length
      · simp [hr, t2, hz, sub]
      · simp [hr, t2, hz, sub]
    · simp [cids_app, cmp_app, sub]
    · intro k hk; omega
end Go.Proofs.YthpookdfaikabaaGreatDoor.AM

/- Calls with slices of pairs. -/
namespace Go.Proofs.YthpookdfaikabaaGreatDoor.AM
open Go
set_option maxRecDepth 1000000
set_option linter.unusedSimpArgs false
set_option linter.unusedVariables false
theorem call_sl {F : Fns} {f n : Nat} {rest : List V} {b : Blk} {v : V} {ns : Heap} (hre : rest.flatMap V.ids = []) (hbi : b.ids = []) (hF : F f (.c (.sl 0 0 n 2) :: rest) [b] = some (v, b :: ns)) (i : Nat) (H : HF) (base : Nat) (hb : (H i == some b) = true) :
    callA F f (.c (.sl i 0 n 2) :: rest) H base = some (v.mp (back [i] base), ns.map (Blk.mp (back [i] base)), [(i, b)]) := by
  have hb : H i = some b := by simpa using hb
  exact callA_one (x := .c (.sl i 0 n 2)) hb (by simp) (by simp) hre hbi hF base
theorem call_xsl {F : Fns} {f n : Nat} {x : V} {b : Blk} {v : V} {ns : Heap} (hx : x.ids = []) (hbi : b.ids = []) (hF : F f [x, .c (.sl 0 0 n 2)] [b] = some (v, b :: ns)) (i : Nat) (H : HF) (base : Nat) (hb : (H i == some b) = true) :
    callA F f [x, .c (.sl i 0 n 2)] H base = some (v.mp (back [i] base), ns.map (Blk.mp (back [i] base)), [(i, b)]) := by
  have hb : H i = some b := by simpa using hb
  have h := callA_gen (F := F) (f := f) (args := [x, .c (.sl i 0 n 2)]) (H := H) (L := [i]) (by simp [hx, reach, idsAt, hb, hbi]) (by simp [closed, hb, idsAt, hbi, inL, hx]) (show sub [i] H = [b] by simp [sub, hb, mp_ids hbi]) (show [x, V.c (.sl i 0 n 2)].map (V.mp (pos [i])) = [x, .c (.sl 0 0 n 2)] by simp [V.mp_pure hx, pos]) hF (by simp) base
  rw [h]
  simp [mp_ids hbi]
theorem call_sl2 {F : Fns} {f n n' : Nat} {b c : Blk} {v : V} (hbi : b.ids = []) (hci : c.ids = []) (hF : F f [.c (.sl 0 0 n 2), .c (.sl 1 0 n' 2)] [b, c] = some (v, [b, c])) (i j : Nat) (H : HF) (base : Nat) (hij : (i != j) = true) (hb : (H i == some b) = true) (hc : (H j == some c) = true) :
    callA F f [.c (.sl i 0 n 2), .c (.sl j 0 n' 2)] H base = some (v.mp (back [i, j] base), [], [(i, b), (j, c)]) := by
  have hb : H i = some b := by simpa using hb
  have hc : H j = some c := by simpa using hc
  have hij : i ≠ j := by simpa using hij
  have := callA_two (x := .c (.sl i 0 n 2)) (y := .c (.sl j 0 n' 2)) hij hb hc (by simp) (by simp) (by simp [pos]) (by simp [pos, hij]) hbi hci hF base
  exact this
end Go.Proofs.YthpookdfaikabaaGreatDoor.AM

/- Contracts: the loops of a replay. -/
namespace Go.Proofs.YthpookdfaikabaaGreatDoor.AM
open Go
set_option maxRecDepth 1000000
set_option linter.unusedSimpArgs false
set_option linter.unusedVariables false
def rkA (r : List Int) (l : List (Int × Int)) (k : Nat) : List Int := rackF r (l.take k)
def innerTo (r : List Int) (l : List (Int × Int)) (k j : Nat) : List (Nat × Nat) := ((List.range j).filter fun m => decide (k < m) && decide (rkA r l k = rkA r l m)).map fun m => (k, m)
def outerTo (r : List Int) (l : List (Int × Int)) (k : Nat) : List (Nat × Nat) := (List.range k).flatMap fun q => innerTo r l q (l.length + 1)
theorem innerTo_zero (r : List Int) (l : List (Int × Int)) (k : Nat) : innerTo r l k (k + 1) = [] := by
  unfold innerTo
  rw [List.map_eq_nil_iff, List.filter_eq_nil_iff]
  intro m hm
  have := List.mem_range.1 hm
  simp; omega
theorem innerTo_succ (r : List Int) (l : List (Int × Int)) (k j : Nat) (h : k < j) : innerTo r l k (j + 1) = innerTo r l k j ++ if rkA r l k = rkA r l j then [(k, j)] else [] := by
  unfold innerTo
  rw [List.range_succ, List.filter_append, List.map_append]
  congr 1
  by_cases he : rkA r l k = rkA r l j <;> simp [h, he]
theorem outerTo_succ (r : List Int) (l : List (Int × Int)) (k : Nat) : outerTo r l (k + 1) = outerTo r l k ++ innerTo r l k (l.length + 1) := by
  unfold outerTo
  rw [List.range_succ, List.flatMap_append]
  simp
theorem innerTo_len (r : List Int) (l : List (Int × Int)) (k j : Nat) : (innerTo r l k j).length ≤ j := by
  unfold innerTo
  rw [List.length_map]
  exact Nat.le_trans (List.length_filter_le _ _) (by simp)
theorem outerTo_len (r : List Int) (l : List (Int × Int)) : ∀ k, (outerTo r l k).length ≤ k * (l.length + 1)
  | 0 => by simp [outerTo]
  | k + 1 => by
    have ih := outerTo_len r l k
    have := innerTo_len r l k (l.length + 1)
    rw [outerTo_succ, List.length_append, Nat.add_mul]
    omega
def loopsL (r : List Int) (l : List (Int × Int)) : List (Nat × Nat) := if repB r l = true then outerTo r l (l.length + 1) else []
theorem loopsL_len {r : List Int} (hr : r.length = 24) (l : List (Int × Int)) : (loopsL r l).length ≤ 61 * 61 := by
  unfold loopsL
  split
  · rename_i h
    obtain ⟨_, hl, _⟩ := repB_facts hr h
    exact Nat.le_trans (outerTo_len r l _) (Nat.mul_le_mul (by omega) (by omega))
  · simp
def lpV (r : List Int) (l : List (Int × Int)) : V := .tup [.c (.sl 1 0 (loopsL r l).length 2), .c (.bool (repB r l))]
/-! ### marks -/
theorem callA_oneW {F : Fns} {f : Nat} {x x0 : V} {rest : List V} {i : Nat} {H : HF} {b b' : Blk} {v : V} (hb : H i = some b) (hx : x.ids = [i]) (hx0 : x.mp (fun j => if i = j then 0 else 1) = x0) (hre : rest.flatMap V.ids = []) (hbi : b.ids = []) (hbi' : b'.ids = []) (hF : F f (x0 :: rest) [b] = some (v, [b'])) (base : Nat) :
    callA F f (x :: rest) H base = some (v.mp (back [i] base), [], [(i, b')]) := by
  have hr : reach H 64 ((x :: rest).flatMap V.ids) [] = [i] := by simp [hx, hre, reach, idsAt, hb, hbi]
  have hp : pos [i] = fun j => if i = j then 0 else 1 := by funext j; simp [pos]
  have hm : (x :: rest).map (V.mp (pos [i])) = x0 :: rest := by
    rw [List.map_cons, hp, hx0, mps_pure hre]
  have h := callA_gen (F := F) (f := f) (args := x :: rest) (H := H) (L := [i]) hr (by simp [closed, hb, idsAt, hbi, inL, hx, hre]) (show sub [i] H = [b] by simp [sub, hb, mp_ids hbi]) hm hF (by simp) base
  rw [h]
  simp [mp_ids hbi']
theorem call_repW {F : Fns} {f : Nat} {r : List Int} {n : Nat} {rest : List V} {b b' : Blk} {v : V} (hre : rest.flatMap V.ids = []) (hbi : b.ids = []) (hbi' : b'.ids = []) (hF : F f (repV r 0 n :: rest) [b] = some (v, [b'])) (i : Nat) (H : HF) (base : Nat) (hb : (H i == some b) = true) :
    callA F f (.agg (r.map (C.int .i64) ++ [C.sl i 0 n 2]) :: rest) H base = some (v.mp (back [i] base), [], [(i, b')]) := by
  have hb : H i = some b := by simpa using hb
  exact callA_oneW (x := repV r i n) hb (by simp) (by rw [repV_mp]; simp) hre hbi hbi' hF base
theorem call_slW {F : Fns} {f n : Nat} {rest : List V} {b b' : Blk} {v : V} (hre : rest.flatMap V.ids = []) (hbi : b.ids = []) (hbi' : b'.ids = []) (hF : F f (.c (.sl 0 0 n 2) :: rest) [b] = some (v, [b'])) (i : Nat) (H : HF) (base : Nat) (hb : (H i == some b) = true) :
    callA F f (.c (.sl i 0 n 2) :: rest) H base = some (v.mp (back [i] base), [], [(i, b')]) := by
  have hb : H i = some b := by simpa using hb
  exact callA_oneW (x := .c (.sl i 0 n 2)) hb (by simp) (by simp) hre hbi hbi' hF base
theorem cZ_idsD (l : List (Int × Int)) (j : Nat) : cids ((cZ l).drop j) = [] := by
  have e := congrArg cids (List.take_append_drop j (cZ l))
  rw [cids_app, cZ_ids] at e
  exact (List.append_eq_nil_iff.1 e).2
end Go.Proofs.YthpookdfaikabaaGreatDoor.AM

/- Contracts: what the laws ask of a replay that comes back. -/
namespace Go.Proofs.YthpookdfaikabaaGreatDoor.AM
open Go
set_option maxRecDepth 1000000
set_option linter.unusedSimpArgs false
set_option linter.unusedVariables false
/-- a replay and whether it is one, the pours in block 1 -/
def backV (rr : List Int) (m : List (Int × Int)) (q : Bool) : V := .tup [.agg (rr.map (C.int .i64) ++ [C.sl 1 0 m.length 2]), .c (.bool q)]
end Go.Proofs.YthpookdfaikabaaGreatDoor.AM

/- Plain laws of replays: pours exchanged, idle pours left out, loops cut; no program in sight. -/
namespace Go.Proofs.YthpookdfaikabaaGreatDoor.AM
open Go
set_option maxRecDepth 1000000
set_option linter.unusedSimpArgs false
set_option linter.unusedVariables false
theorem cZ_takeN (l : List (Int × Int)) (n : Nat) : (cZ l).take (n * 2) = cZ (l.take n) := by
  by_cases h : n ≤ l.length
  · have := congrArg (List.take (n * 2)) (show cZ l = cZ (l.take n) ++ cZ (l.drop n) by rw [← cZ_app, List.take_append_drop])
    rw [this, List.take_append_of_le_length (by simp; omega), List.take_of_length_le (by simp; omega)]
  · rw [List.take_of_length_le (by simp; omega), List.take_of_length_le (show l.length ≤ n by omega)]
theorem cZ_set2 : ∀ (l : List (Int × Int)) (k : Nat) (p : Int × Int), ((cZ l).set (k * 2) (C.int .i64 p.1)).set (k * 2 + 1) (C.int .i64 p.2) = cZ (l.set k p)
  | [], k, p => by simp [cZ_nil]
  | q :: l, 0, p => by simp [cZ_cons]
  | q :: l, k + 1, p => by
    have ih := cZ_set2 l k p
    rw [show (k + 1) * 2 = k * 2 + 1 + 1 by omega]
    simp only [cZ_cons, List.set_cons_succ, ih]
@[simp] theorem z25_dead (i : Nat) : noDead (z25 i) = true := rfl
@[simp] theorem z25_all (i : Nat) : (z25 i).take 25 = z25 i := rfl
@[simp] theorem z25_mp (g : Nat → Nat) (i : Nat) : cmp g (z25 i) = z25 (g i) := rfl
/-! ### one pour more -/
theorem repB_iff {r : List Int} {l : List (Int × Int)} : repB r l = true ↔ okRack r = true ∧ l.length ≤ 60 ∧ ∀ j, j < l.length → canAt r l j = true := by
  unfold repB allCan
  simp only [Bool.and_eq_true, decide_eq_true_eq, List.all_eq_true, List.mem_range, and_assoc]
theorem canAt_app_lt (r : List Int) {l : List (Int × Int)} (m : List (Int × Int)) {j : Nat} (hj : j < l.length) : canAt r (l ++ m) j = canAt r l j := by
  unfold canAt
  rw [List.take_append_of_le_length (by omega), List.getD_eq_getElem?_getD, List.getD_eq_getElem?_getD, List.getElem?_append_left hj]
theorem canAt_app_len (r : List Int) (l : List (Int × Int)) (p : Int × Int) : canAt r (l ++ [p]) l.length = canZ (rackF r l) p := by
  unfold canAt
  rw [List.take_append_of_le_length (Nat.le_refl _), List.take_of_length_le (Nat.le_refl _), List.getD_eq_getElem?_getD, List.getElem?_append_right (Nat.le_refl _)]
  simp
def adB (r : List Int) (l : List (Int × Int)) (p : Int × Int) : Bool := repB r l && decide (l.length < 60) && canZ (rackF r l) p
theorem add_rep (r : List Int) (l : List (Int × Int)) (p : Int × Int) : repB r (l ++ [p]) = adB r l p := by
  rw [Bool.eq_iff_iff, repB_iff]
  unfold adB
  rw [Bool.and_eq_true, Bool.and_eq_true, repB_iff, decide_eq_true_eq, List.length_append]
  constructor
  · rintro ⟨h1, h2, h3⟩
    have h2' : l.length + 1 ≤ 60 := h2
    refine ⟨⟨⟨h1, by omega, fun j hj => ?_⟩, by omega⟩, ?_⟩
    · have := h3 j (by simp; omega)
      rwa [canAt_app_lt r _ hj] at this
    · have := h3 l.length (by simp)
      rwa [canAt_app_len] at this
  · rintro ⟨⟨⟨h1, h2, h3⟩, h4⟩, h5⟩
    refine ⟨h1, by simp; omega, fun j hj => ?_⟩
    have hj' : j < l.length + 1 := hj
    by_cases h : j < l.length
    · rw [canAt_app_lt r _ h]; exact h3 j h
    · have : j = l.length := by omega
      subst this
      rw [canAt_app_len]; exact h5
/-! ### exchanged -/
def swapL (l : List (Int × Int)) (k : Nat) : List (Int × Int) := (l.set k (l.getD (k + 1) (0, 0))).set (k + 1) (l.getD k (0, 0))
@[simp] theorem swapL_len (l : List (Int × Int)) (k : Nat) : (swapL l k).length = l.length := by simp [swapL]
/-! ### idle pours left out -/
def idleZ (r : List Int) (p : Int × Int) : Bool := idleP r p.1.toNat p.2.toNat
def dropStep (s : List Int × List (Int × Int)) (p : Int × Int) : List Int × List (Int × Int) := if canZ s.1 p = true ∧ idleZ s.1 p = false then (pourZ s.1 p, s.2 ++ [p]) else s
def dropF (r : List Int) (l : List (Int × Int)) : List Int × List (Int × Int) := l.foldl dropStep (r, [])
theorem dropF_succ (r : List Int) {l : List (Int × Int)} {k : Nat} (hk : k < l.length) : dropF r (l.take (k + 1)) = dropStep (dropF r (l.take k)) (l[k]'hk) := by
  unfold dropF
  rw [take_snoc hk, List.foldl_append]
  rfl
theorem dropStep_ok {s : List Int × List (Int × Int)} {p : Int × Int} (h : RackOK s.1) : RackOK (dropStep s p).1 := by
  unfold dropStep
  split
  · rename_i hc
    obtain ⟨i, j, _, _, hi, hj, hcan, e1, e2⟩ := canZ_facts hc.1
    show RackOK (pourZ s.1 p)
    unfold pourZ
    rw [e1, e2]
    exact h.pour hi hj (canP_ne hcan)
  · exact h
theorem dropF_ok {r : List Int} (h : RackOK r) (l : List (Int × Int)) : RackOK (dropF r l).1 := by
  have : ∀ (l : List (Int × Int)) (s : List Int × List (Int × Int)), RackOK s.1 → RackOK (l.foldl dropStep s).1 := by
    intro l
    induction l with
    | nil => intro s h; exact h
    | cons p l ih => intro s h; exact ih _ (dropStep_ok h)
  exact this l (r, []) h
theorem dropF_len (r : List Int) (l : List (Int × Int)) : (dropF r l).2.length ≤ l.length := by
  have : ∀ (l : List (Int × Int)) (s : List Int × List (Int × Int)), (l.foldl dropStep s).2.length ≤ s.2.length + l.length := by
    intro l
    induction l with
    | nil => intro s; simp
    | cons p l ih =>
      intro s
      have h1 := ih (dropStep s p)
      have h2 : (dropStep s p).2.length ≤ s.2.length + 1 := by unfold dropStep; split <;> simp
      simp only [List.foldl_cons, List.length_cons]
      omega
  have h := this l (r, [])
  simpa [dropF] using h
/-! ### loops cut -/
theorem innerTo_mem {r : List Int} {l : List (Int × Int)} {k j : Nat} {p : Nat × Nat} (h : p ∈ innerTo r l k j) : p.1 = k ∧ k < p.2 ∧ p.2 < j ∧ rkA r l k = rkA r l p.2 := by
  unfold innerTo at h
  obtain ⟨m, hm, rfl⟩ := List.mem_map.1 h
  obtain ⟨h1, h2⟩ := List.mem_filter.1 hm
  simp only [Bool.and_eq_true, decide_eq_true_eq] at h2
  exact ⟨rfl, h2.1, List.mem_range.1 h1, h2.2⟩
theorem outerTo_mem {r : List Int} {l : List (Int × Int)} {n : Nat} {p : Nat × Nat} (h : p ∈ outerTo r l n) : p.1 < n ∧ p.1 < p.2 ∧ p.2 ≤ l.length ∧ rkA r l p.1 = rkA r l p.2 := by
  unfold outerTo at h
  obtain ⟨q, hq, hp⟩ := List.mem_flatMap.1 h
  obtain ⟨h1, h2, h3, h4⟩ := innerTo_mem hp
  have := List.mem_range.1 hq
  subst h1
  exact ⟨this, h2, by omega, h4⟩
theorem outerTo_sorted (r : List Int) (l : List (Int × Int)) : ∀ n, (outerTo r l n).Pairwise fun a b => a.1 ≤ b.1
  | 0 => by simp [outerTo]
  | n + 1 => by
    rw [outerTo_succ, List.pairwise_append]
    refine ⟨outerTo_sorted r l n, ?_, fun a ha b hb => ?_⟩
    · refine List.Pairwise.imp_of_mem (R := fun _ _ => True) (fun {a b} ha hb _ => ?_) ?_
      · rw [(innerTo_mem ha).1, (innerTo_mem hb).1]; exact Nat.le_refl _
      · exact List.pairwise_of_forall fun _ _ => trivial
    · rw [(innerTo_mem hb).1]
      exact Nat.le_of_lt (outerTo_mem ha).1
def bestStep (b o : Nat × Nat) : Nat × Nat := if o.1 = b.1 then o else b
def bestTo (L : List (Nat × Nat)) (j : Nat) : Nat × Nat := (L.take j).foldl bestStep (L.headD (0, 0))
def loopBest (L : List (Nat × Nat)) : Nat × Nat := bestTo L L.length
theorem bestTo_zero (L : List (Nat × Nat)) : bestTo L 0 = L.headD (0, 0) := rfl
theorem bestTo_succ (L : List (Nat × Nat)) {j : Nat} (hj : j < L.length) : bestTo L (j + 1) = bestStep (bestTo L j) (L[j]'hj) := by
  unfold bestTo
  rw [List.take_succ_eq_append_getElem hj, List.foldl_append]
  rfl
theorem bestTo_facts (L : List (Nat × Nat)) (hL : L ≠ []) : ∀ j, j ≤ L.length → (bestTo L j).1 = (L.headD (0, 0)).1 ∧ bestTo L j ∈ L
  | 0, _ => by
    cases L with
    | nil => exact absurd rfl hL
    | cons p L => exact ⟨rfl, by simp [bestTo]⟩
  | j + 1, h => by
    obtain ⟨h1, h2⟩ := bestTo_facts L hL j (by omega)
    rw [bestTo_succ L (by omega)]
    unfold bestStep
    split
    · rename_i e
      exact ⟨by rw [e, h1], List.getElem_mem _⟩
    · exact ⟨h1, h2⟩
theorem bestTo_stop {L : List (Nat × Nat)} (hs : L.Pairwise fun a b => a.1 ≤ b.1) {K : Nat} (hK : K < L.length) (h0 : 0 < K) (hne : (L[K]'hK).1 ≠ (L.headD (0, 0)).1) : ∀ d, K + d ≤ L.length → bestTo L (K + d) = bestTo L K
  | 0, _ => rfl
  | d + 1, h => by
    have ih := bestTo_stop hs hK h0 hne d (by omega)
    rw [show K + (d + 1) = K + d + 1 by omega, bestTo_succ L (by omega), ih]
    have hL : L ≠ [] := by intro e; subst e; simp at hK
    have hf := (bestTo_facts L hL K (by omega)).1
    have h1 : (L[K]'hK).1 ≤ (L[K + d]'(by omega)).1 := by
      by_cases hd : d = 0
      · subst hd; exact Nat.le_refl _
      · exact List.pairwise_iff_getElem.1 hs K (K + d) hK (by omega) (by omega)
    have h2 : (L.headD (0, 0)).1 ≤ (L[K]'hK).1 := by
      have hh : L.headD (0, 0) = L[0]'(by omega) := by cases L with
        | nil => exact absurd rfl hL
        | cons p L => rfl
      rw [hh]
      exact List.pairwise_iff_getElem.1 hs 0 K (by omega) hK h0
    unfold bestStep
    rw [if_neg (by rw [hf]; omega)]
def loopsA (r : List Int) (l : List (Int × Int)) : List (Nat × Nat) := outerTo r l (l.length + 1)
def cutStep (r : List Int) (l : List (Int × Int)) : List (Int × Int) := l.take (loopBest (loopsA r l)).1 ++ l.drop (loopBest (loopsA r l)).2
def cutIt (r : List Int) (l : List (Int × Int)) : Nat → List (Int × Int)
  | 0 => l
  | t + 1 => cutStep r (cutIt r l t)
theorem best_facts {r : List Int} {l : List (Int × Int)} (h : loopsA r l ≠ []) : (loopBest (loopsA r l)).1 < (loopBest (loopsA r l)).2 ∧ (loopBest (loopsA r l)).2 ≤ l.length ∧ rkA r l (loopBest (loopsA r l)).1 = rkA r l (loopBest (loopsA r l)).2 := by
  have hm := (bestTo_facts _ h _ (Nat.le_refl _)).2
  obtain ⟨_, h1, h2, h3⟩ := outerTo_mem hm
  exact ⟨h1, h2, h3⟩
theorem cutStep_len {r : List Int} {l : List (Int × Int)} (h : loopsA r l ≠ []) : (cutStep r l).length < l.length := by
  obtain ⟨h1, h2, _⟩ := best_facts h
  unfold cutStep
  rw [List.length_append, List.length_take, List.length_drop]
  omega
theorem rackF_app (r : List Int) (a b : List (Int × Int)) : rackF r (a ++ b) = rackF (rackF r a) b := List.foldl_append
/-- the rack behind the pours that are left -/
theorem cut_rack {r : List Int} {l : List (Int × Int)} {k m : Nat} (hk : k < m) (hm : m ≤ l.length) (he : rkA r l k = rkA r l m) {j : Nat} (hj : k ≤ j) : rackF r ((l.take k ++ l.drop m).take j) = rackF r (l.take (m + (j - k))) := by
  have hlen : (l.take k).length = k := by simp; omega
  have e1 : (l.take k ++ l.drop m).take j = l.take k ++ (l.drop m).take (j - k) := by
    rw [List.take_append, hlen, List.take_of_length_le (by omega)]
  have e2 : l.take (m + (j - k)) = l.take m ++ (l.drop m).take (j - k) := List.take_add
  have he' : rackF r (l.take k) = rackF r (l.take m) := he
  rw [e1, e2, rackF_app, rackF_app, he']
theorem cut_rep {r : List Int} {l : List (Int × Int)} (h : repB r l = true) {k m : Nat} (hk : k < m) (hm : m ≤ l.length) (he : rkA r l k = rkA r l m) : repB r (l.take k ++ l.drop m) = true := by
  rw [repB_iff] at h ⊢
  obtain ⟨h1, h2, h3⟩ := h
  have hlen : (l.take k ++ l.drop m).length = k + (l.length - m) := by simp; omega
  refine ⟨h1, by omega, fun j hj => ?_⟩
  rw [hlen] at hj
  by_cases hjk : j < k
  · have := h3 j (by omega)
    unfold canAt at this ⊢
    have e1 : (l.take k ++ l.drop m).take j = l.take j := by
      rw [List.take_append_of_le_length (by simp; omega), List.take_take, Nat.min_eq_left (by omega)]
    have e2 : (l.take k ++ l.drop m).getD j (0, 0) = l.getD j (0, 0) := by
      rw [List.getD_eq_getElem?_getD, List.getD_eq_getElem?_getD, List.getElem?_append_left (by simp; omega), List.getElem?_take_of_lt hjk]
    rw [e1, e2]
    exact this
  · have := h3 (m + (j - k)) (by omega)
    unfold canAt at this ⊢
    rw [cut_rack hk hm he (by omega)]
    have e2 : (l.take k ++ l.drop m).getD j (0, 0) = l.getD (m + (j - k)) (0, 0) := by
      have hl : (l.take k).length = k := by simp; omega
      rw [List.getD_eq_getElem?_getD, List.getD_eq_getElem?_getD, List.getElem?_append_right (by omega), hl, List.getElem?_drop]
    rw [e2]
    exact this
theorem cutStep_rep {r : List Int} {l : List (Int × Int)} (h : repB r l = true) (hL : loopsA r l ≠ []) : repB r (cutStep r l) = true := by
  obtain ⟨h1, h2, h3⟩ := best_facts hL
  exact cut_rep h h1 h2 h3
theorem cutStep_rack {r : List Int} {l : List (Int × Int)} (hL : loopsA r l ≠ []) : rackF r (cutStep r l) = rackF r l := by
  obtain ⟨h1, h2, h3⟩ := best_facts hL
  have h := cut_rack h1 h2 h3 (j := (cutStep r l).length) (by unfold cutStep; rw [List.length_append, List.length_take, List.length_drop]; omega)
  have e : (cutStep r l).take (cutStep r l).length = cutStep r l := List.take_of_length_le (Nat.le_refl _)
  have e2 : l.take ((loopBest (loopsA r l)).2 + ((cutStep r l).length - (loopBest (loopsA r l)).1)) = l := List.take_of_length_le (by unfold cutStep; rw [List.length_append, List.length_take, List.length_drop]; omega)
  rw [e2] at h
  rw [← h]
  unfold cutStep at e ⊢
  rw [e]
theorem loopsA_nil (r : List Int) : loopsA r [] = [] := by
  unfold loopsA
  show outerTo r [] 1 = []
  rw [show (1 : Nat) = 0 + 1 from rfl, outerTo_succ]
  show outerTo r [] 0 ++ innerTo r [] 0 1 = []
  rw [innerTo_zero]
  rfl
/-- the first turn at which no loop is left -/
theorem cut_end (r : List Int) (l : List (Int × Int)) : ∃ K, K ≤ l.length ∧ loopsA r (cutIt r l K) = [] ∧ ∀ j, j < K → loopsA r (cutIt r l j) ≠ [] := by
  obtain ⟨K, h1, h2, h3⟩ := first_exit (fun t => (loopsA r (cutIt r l t)).isEmpty) l.length
  have h3' : ∀ j, j < K → loopsA r (cutIt r l j) ≠ [] := fun j hj e => by
    have := h3 j hj
    rw [e] at this
    simp at this
  refine ⟨K, h1, ?_, h3'⟩
  have hlen : ∀ j, j ≤ K → (cutIt r l j).length + j ≤ l.length := by
    intro j
    induction j with
    | zero => intro _; simp [cutIt]
    | succ j ih =>
      intro hj
      have h1 := ih (by omega)
      have h2 := cutStep_len (h3' j (by omega))
      have e : cutIt r l (j + 1) = cutStep r (cutIt r l j) := rfl
      rw [e]
      omega
  rcases h2 with e | e
  · have := hlen K (Nat.le_refl _)
    have hz : cutIt r l K = [] := List.eq_nil_of_length_eq_zero (by omega)
    rw [hz]
    exact loopsA_nil r
  · simpa using e
noncomputable def cutK (r : List Int) (l : List (Int × Int)) : Nat := (cut_end r l).choose
/-- the pours of a replay without its loops -/
noncomputable def cutR (r : List Int) (l : List (Int × Int)) : List (Int × Int) := cutIt r l (cutK r l)
theorem cutK_le (r : List Int) (l : List (Int × Int)) : cutK r l ≤ l.length := (cut_end r l).choose_spec.1
theorem cutR_loops (r : List Int) (l : List (Int × Int)) : loopsA r (cutR r l) = [] := (cut_end r l).choose_spec.2.1
theorem cutK_more (r : List Int) (l : List (Int × Int)) {j : Nat} (hj : j < cutK r l) : loopsA r (cutIt r l j) ≠ [] := (cut_end r l).choose_spec.2.2 j hj
theorem cutIt_rep {r : List Int} {l : List (Int × Int)} (h : repB r l = true) : ∀ j, j ≤ cutK r l → repB r (cutIt r l j) = true ∧ rackF r (cutIt r l j) = rackF r l
  | 0, _ => ⟨h, rfl⟩
  | j + 1, hj => by
    obtain ⟨h1, h2⟩ := cutIt_rep h j (by omega)
    have h3 := cutK_more r l (show j < cutK r l by omega)
    exact ⟨cutStep_rep h1 h3, by rw [← h2]; exact cutStep_rack h3⟩
theorem cutR_rep {r : List Int} {l : List (Int × Int)} (h : repB r l = true) : repB r (cutR r l) = true ∧ rackF r (cutR r l) = rackF r l := cutIt_rep h _ (Nat.le_refl _)
end Go.Proofs.YthpookdfaikabaaGreatDoor.AM

