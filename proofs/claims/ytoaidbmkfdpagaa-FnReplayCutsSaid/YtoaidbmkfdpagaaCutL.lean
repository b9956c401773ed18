import Derived.Test.YtoaidbmkfdpagaaAdd
/- Contracts: a replay without its loops. -/
namespace Go.Proofs.Ytoaidbmkfdpagaa.AM
open Go
set_option maxRecDepth 1000000
set_option linter.unusedSimpArgs false
set_option linter.unusedVariables false
/-- two parts of one list put together -/
theorem c_concatS (l : List (Int × Int)) (a m b : Nat) (ha : a ≤ l.length) (hm : m + b ≤ l.length) (hl : l.length ≤ 1048576) (o : Bool) : fnI pr np 196 [.c (.sl 0 0 2 1)] [.cells [.sl 1 0 a 2, .sl 1 (m * 2) b 2] true, .cells (cZ l) o] = some (.c (.sl 2 0 (a + b) 2), [.cells [.sl 1 0 a 2, .sl 1 (m * 2) b 2] true, .cells (cZ l) o, .cells (cZ (l.take a ++ (l.drop m).take b)) true]) := by
  have w1 : IntKind.i64.wrap (1 : Int) = 1 := by decide
  have w2 : IntKind.i64.wrap (2 : Int) = 2 := by decide
  have wz : IntKind.i64.wrap (0 : Int) = 0 := by decide
  have k1 : (cZ l).take (a * 2) = cZ (l.take a) := cZ_takeN l a
  have k2 : ((cZ l).drop (m * 2)).take (b * 2) = cZ ((l.drop m).take b) := by rw [cZ_drop, cZ_takeN]
  have b1 : a * 2 ≤ l.length * 2 := by omega
  have b2 : m * 2 + b * 2 ≤ l.length * 2 := by omega
  have hla : (l.take a).length = a := by rw [List.length_take]; omega
  have hlb : ((l.drop m).take b).length = b := by rw [List.length_take, List.length_drop]; omega
  rw [fb (fn := a196) rfl rfl]
  by_cases h0 : a + b = 0
  · have ea : a = 0 := by omega
    have eb : b = 0 := by omega
    subst ea; subst eb
    have hg := callA_pure c_grow_zero (by simp) (by simp)
    have b3 : m * 2 ≤ l.length * 2 := by omega
    simp [a196, exI_loop', w1, w2, wz, hg, b3, cZ_nil, sub]
  · have wn : IntKind.i64.wrap (a : Int) = (a : Int) := wrapI (by omega) (by omega)
    have ws : IntKind.i64.wrap ((a : Int) + (b : Int)) = ((a + b : Nat) : Int) := wrapI (by omega) (by omega)
    have hneg : ¬ (a : Int) < 0 := by omega
    have hneg2 : ¬ ((a + b : Nat) : Int) < 0 := by omega
    have hroom : a ≤ 68719476736 := by omega
    have hroom2 : a + b ≤ 68719476736 := by omega
    have hg := callA_new (c_grow_pos (a + b) (by omega) (by omega)) (by simp)
    have k3 := cZ_take (l.take a)
    rw [hla] at k3
    simp [a196, exI_loop', w1, w2, wn, ws, hneg, hneg2, hroom, hroom2, k1, k2, k3, b1, b2, ha, hg, hla, hlb, cZ_app, cids_rep, cmp_rep, -Int.natCast_add, sub]
theorem c_impl_withS (r : List Int) (hr : r.length = 24) (l : List (Int × Int)) (n0 a m b : Nat) (ha : a ≤ l.length) (hm : m + b ≤ l.length) (hl : l.length ≤ 1048576) (o : Bool) : fnI pr np 121 [repV r 0 n0, .c (.sl 1 0 2 1)] [.cells (cZ l) o, .cells [.sl 0 0 a 2, .sl 0 (m * 2) b 2] true] = some (repV r 2 (a + b), [.cells (cZ l) o, .cells [.sl 0 0 a 2, .sl 0 (m * 2) b 2] true, .cells (cZ (l.take a ++ (l.drop m).take b)) true]) := by
  have t1 := repC_take hr (C.sl 0 0 n0 2)
  have hc := fun (G : Heap) (base : Nat) => callA_gen (F := fnI pr np) (f := 196) (args := [.c (.sl 1 0 2 1)]) (H := lkp (.cells (cZ l) o :: .cells [.sl 0 0 a 2, .sl 0 (m * 2) b 2] true :: G)) (L := [1, 0]) (by simp) (by simp) (by simp [sub]) (by simp) (c_concatS l a m b ha hm hl o) (by simp) base
  rw [fb (fn := a121) rfl rfl]
  unfold repV
  simp [a121, hr, t1, hc, z25_eq, z25_set hr, z25_setAll hr, repC_set hr, repC_all hr, idOf, madeA, cids_app, cmp_app, sub]
theorem call_withS {r : List Int} (hr : r.length = 24) {l : List (Int × Int)} {n0 a m b off : Nat} (hoff : off = m * 2) (ha : a ≤ l.length) (hm : m + b ≤ l.length) (hl : l.length ≤ 1048576) (o : Bool) (j i : Nat) (H : HF) (base : Nat) (hji : (j != i) = true) (hj : (H j == some (Blk.cells (cZ l) o)) = true) (hi : (H i == some (Blk.cells [.sl j 0 a 2, .sl j off b 2] true)) = true) :
    callA (fnI pr np) 121 [.agg (r.map (C.int .i64) ++ [C.sl j 0 n0 2]), .c (.sl i 0 2 1)] H base = some (.agg (r.map (C.int .i64) ++ [C.sl base 0 (a + b) 2]), [.cells (cZ (l.take a ++ (l.drop m).take b)) true], [(j, .cells (cZ l) o), (i, .cells [.sl j 0 a 2, .sl j off b 2] true)]) := by
  subst hoff
  have hj : H j = some (Blk.cells (cZ l) o) := by simpa using hj
  have hi : H i = some (Blk.cells [.sl j 0 a 2, .sl j (m * 2) b 2] true) := by simpa using hi
  have hji : j ≠ i := by simpa using hji
  have hij : ¬ i = j := fun e => hji e.symm
  have h := callA_gen (F := fnI pr np) (f := 121) (args := [.agg (r.map (C.int .i64) ++ [C.sl j 0 n0 2]), .c (.sl i 0 2 1)]) (H := H) (L := [j, i]) (by simp [reach, idsAt, hj, hi, hji, hij, cids_app]) (by simp [closed, hj, hi, idsAt, inL, cids_app]) (show sub [j, i] H = [.cells (cZ l) o, .cells [.sl 0 0 a 2, .sl 0 (m * 2) b 2] true] by simp [sub, hj, hi, pos]) (show _ = [repV r 0 n0, .c (.sl 1 0 2 1)] by simp [pos, repV, hji, cmp_app]) (c_impl_withS r hr l n0 a m b ha hm hl o) (by simp) base
  rw [h]
  simp [repV, back, cmp_app]
theorem flatC_pair (L : List (Nat × Nat)) {k : Nat} (h : k < L.length) : ((flatC L).drop (k * 2)).take 2 = [C.int .i64 (L[k]'h).1, C.int .i64 (L[k]'h).2] := by
  have := flatC_get L [] k h
  rwa [List.append_nil] at this
theorem flatC_one1 (L : List (Nat × Nat)) {k : Nat} (h : k < L.length) : ((flatC L).drop (k * 2)).take 1 = [C.int .i64 (L[k]'h).1] ∧ ((flatC L).drop (k * 2 + 1)).take 1 = [C.int .i64 (L[k]'h).2] := by
  have hp := flatC_pair L h
  refine ⟨?_, ?_⟩
  · have := congrArg (List.take 1) hp
    rwa [List.take_take] at this
  · have := congrArg (List.drop 1) hp
    rw [← List.drop_drop]
    generalize (flatC L).drop (k * 2) = D at *
    match D, hp with
    | x :: y :: D, hp =>
      simp only [List.take_succ_cons, List.take_zero, List.cons.injEq, and_true] at hp
      simp [hp.2]
    | [x], hp => simp at hp
    | [], hp => simp at hp
theorem loopsA_len {r : List Int} {l : List (Int × Int)} (hl : l.length ≤ 60) : (loopsA r l).length ≤ 61 * 61 := Nat.le_trans (outerTo_len r l _) (Nat.mul_le_mul (by omega) (by omega))
noncomputable def clL (r : List Int) (l : List (Int × Int)) : List (Int × Int) := if repB r l = true then cutR r l else []
def clR (r : List Int) (l : List (Int × Int)) : List Int := if repB r l = true then r else List.replicate 24 0
theorem clR_len {r : List Int} (hr : r.length = 24) (l : List (Int × Int)) : (clR r l).length = 24 := by
  unfold clR; split
  · exact hr
  · simp
theorem clL_len (r : List Int) (l : List (Int × Int)) : (clL r l).length ≤ 60 := by
  unfold clL
  split
  · rename_i h
    exact (repB_iff.1 (cutR_rep h).1).2.1
  · simp
set_option maxHeartbeats 8000000 in
theorem c_impl_CutLoops (r : List Int) (hr : r.length = 24) (l : List (Int × Int)) (o : Bool) : fnI pr np 31 [repV r 0 l.length] [.cells (cZ l) o] = some (backV (clR r l) (clL r l) (repB r l), [.cells (cZ l) o, .cells (cZ (clL r l)) true]) := by
  have h1 := call_rep (rest := []) rfl (by simp) (c_impl_IsReplay r hr l o)
  have t2 := fun i n => repC_drop hr (C.sl i 0 n 2)
  have t3 := fun i n => repC_all hr (C.sl i 0 n 2)
  rw [fb (fn := a31) rfl rfl]
  unfold backV clL clR
  cases hq : repB r l with
  | false => rw [hq] at h1; simp [a31, repV, hr, t3, h1, z25_eq, setAt_all, cZ_nil, sub]
  | true =>
    rw [hq] at h1
    obtain ⟨h, hl, _⟩ := repB_facts hr hq
    have hw := fun (i : Nat) => call_with1 hr (l := l) (n0 := l.length) (k := 0) (n := l.length) (off := 0) rfl (by omega) (by omega) o 0 i
    rw [List.drop_zero, List.take_length] at hw
    have hlp := fun (l' : List (Int × Int)) (hq' : repB r l' = true) => call_rep (rest := []) rfl (by simp) (c_impl_loops r hr l' hq' true)
    have hlp0 := hlp l hq
    simp [a31, repV, hr, t2, t3, h1, hw, hlp0, z25_eq, z25_setAll hr, setAt_all, idOf, stillE, madeA]
    rw [loop_to (fun t => ([(2, V.c (C.ptr 1 0)), (4, V.c (C.ptr 2 0)), (5, V.c (C.sl 3 0 (loopsA r (cutIt r l t)).length 2))], [Blk.cells (cZ l) o, Blk.cells (z25 4) true, Blk.cells (r.map (C.int .i64) ++ [C.sl 5 0 (cutIt r l t).length 2]) true, Blk.cells (flatC (loopsA r (cutIt r l t))) true, Blk.cells [] true, Blk.cells (cZ (cutIt r l t)) true])) (cutK r l)]
    · have he : loopsA r (cutIt r l (cutK r l)) = [] := cutR_loops r l
      have hR : cutIt r l (cutK r l) = cutR r l := rfl
      rw [he, hR]
      simp [hr, t3, z25_setAll hr, flatC_nil, sub]
    · simp [cutIt, loopsA, cids_app, cmp_app, sub]
    · intro t ht
      obtain ⟨hq1, _⟩ := cutIt_rep hq t (by omega)
      have hne := cutK_more r l ht
      have hq2 := (cutIt_rep hq (t + 1) (by omega)).1
      have hlp1 := hlp _ hq2
      obtain ⟨f1, f2, f3⟩ := best_facts hne
      have hst : cutIt r l (t + 1) = (cutIt r l t).take (loopBest (loopsA r (cutIt r l t))).1 ++ (cutIt r l t).drop (loopBest (loopsA r (cutIt r l t))).2 := rfl
      obtain ⟨_, hl1, _⟩ := repB_iff.1 hq1
      have hLn := loopsA_len (r := r) hl1
      have hll : outerTo r (cutIt r l (t + 1)) ((cutIt r l (t + 1)).length + 1) = loopsA r (cutIt r l (t + 1)) := rfl
      rw [hll] at hlp1
      generalize cutIt r l (t + 1) = l2 at *
      generalize cutIt r l t = l1 at *
      generalize loopsA r l2 = L2 at *
      generalize loopsA r l1 = L at *
      have hpos : 0 < L.length := List.length_pos_iff.2 hne
      have hpos' : (0 : Int) < (L.length : Int) := by omega
      have g0 := flatC_pair L hpos
      have hh : L.headD (0, 0) = L[0]'hpos := by cases L with
        | nil => exact absurd rfl hne
        | cons p L => rfl
      simp only [Nat.zero_mul, List.drop_zero] at g0
      have b0 : 2 ≤ L.length * 2 := by omega
      simp [hpos, hpos', g0, b0, setAt_all, setAt]
      rw [loop_to (fun j => ([(2, V.c (C.ptr 1 0)), (4, V.c (C.ptr 2 0)), (6, V.c (C.ptr 3 0)), (28, V.c (C.sl 4 0 L.length 2)), (29, V.c (C.int .i64 L.length)), (30, V.c (C.int .i64 j))], [Blk.cells (cZ l) o, Blk.cells (z25 5) true, Blk.cells (r.map (C.int .i64) ++ [C.sl 6 0 l1.length 2]) true, Blk.cells [C.int .i64 (bestTo L j).1, C.int .i64 (bestTo L j).2] true, Blk.cells (flatC L) true, Blk.cells [] true, Blk.cells (cZ l1) true])) L.length]
      · have hbl : bestTo L L.length = loopBest L := rfl
        rw [hbl]
        generalize loopBest L = B at *
        obtain ⟨A, M⟩ := B
        simp only at f1 f2 hst
        have hwS := fun (i : Nat) => call_withS hr (l := l1) (n0 := l1.length) (a := A) (m := M) (b := l1.length - M) (off := M * 2) rfl (by omega) (by omega) (by omega) true 6 i
        have hd : (l1.drop M).take (l1.length - M) = l1.drop M := List.take_of_length_le (by simp)
        rw [hd, ← hst] at hwS
        have x1 : A ≤ l1.length := by omega
        have x2 : (A : Int) ≤ (l1.length : Int) := by omega
        have x3 : (M : Int) ≤ (l1.length : Int) := by omega
        have hl2 : l2.length = A + (l1.length - M) := by rw [hst]; simp; omega
        rw [hl2] at hlp1 ⊢
        simp [hr, t2, t3, x1, x2, x3, f2, hwS, hlp1, z25_setAll hr, setAt_all, setAt, idOf, stillE, madeA, cids_app, cmp_app, sub]
      · have hz : bestTo L 0 = L[0]'hpos := by rw [bestTo_zero, hh]
        simp [hz, cids_app, cmp_app, sub]
      · intro j hj
        have gj := flatC_pair L hj
        have bj : j * 2 + 2 ≤ L.length * 2 := by omega
        have wj := wrapS (k := j) (by omega)
        have hbs := bestTo_succ L hj
        rw [hbs]
        generalize bestTo L j = B at *
        generalize L[j]'hj = p at *
        unfold bestStep
        by_cases he : p.1 = B.1
        · have he' : (p.1 : Int) = (B.1 : Int) := by omega
          simp [hj, gj, bj, wj, he, he', setAt_all, setAt, cids_app, cmp_app, sub]
        · have he' : ¬ (p.1 : Int) = (B.1 : Int) := by omega
          simp [hj, gj, bj, wj, he, he', setAt_all, setAt, cids_app, cmp_app, sub]
theorem best_end {L : List (Nat × Nat)} (hs : L.Pairwise fun a b => a.1 ≤ b.1) (hL : 0 < L.length) {K : Nat} (hK : K ≤ L.length - 1) (h : K = L.length - 1 ∨ (L.getD (K + 1) (0, 0)).1 ≠ (L.headD (0, 0)).1) : bestTo L (K + 1) = loopBest L := by
  by_cases hk : K = L.length - 1
  · unfold loopBest
    rw [show K + 1 = L.length by omega]
  · have hk2 : K + 1 < L.length := by omega
    have h := h.resolve_left hk
    rw [List.getD_eq_getElem?_getD, List.getElem?_eq_getElem hk2] at h
    have := bestTo_stop hs hk2 (by omega) h (L.length - (K + 1)) (by omega)
    unfold loopBest
    rw [show L.length = K + 1 + (L.length - (K + 1)) by omega, this]
set_option maxHeartbeats 8000000 in
theorem c_spec_CutLoops (r : List Int) (hr : r.length = 24) (l : List (Int × Int)) (o : Bool) : fnI pr np 32 [repV r 0 l.length] [.cells (cZ l) o] = some (backV (clR r l) (clL r l) (repB r l), [.cells (cZ l) o, .cells (cZ (clL r l)) true]) := by
  have h0 := c_spec_l11Racks r hr l o
  have t2 := fun i n => repC_drop hr (C.sl i 0 n 2)
  have t3 := fun i n => repC_all hr (C.sl i 0 n 2)
  have t7 := fun i n d => repC_set hr (C.sl i 0 n 2) d
  rw [fb (fn := a32) rfl rfl]
  unfold backV clL clR
  cases hq : repB r l with
  | false =>
    rw [racksV_f hq] at h0
    have hc := call_rep (rest := []) rfl (by simp) h0
    simp [a32, repV, hr, t3, hc, z25_eq, setAt_all, cZ_nil, sub]
  | true =>
    rw [racksV_t hq] at h0
    have hc := call_rep (rest := []) rfl (by simp) h0
    obtain ⟨h, hl, _⟩ := repB_facts hr hq
    have hcut := call_rep (rest := [.c (.int .i64 (l.length : Int))]) rfl (by simp) (c_spec_l11Cut r hr l (by omega) l.length (Nat.le_refl _) o)
    rw [List.take_length] at hcut
    have hlp := fun (l' : List (Int × Int)) (hl' : l'.length ≤ 60) (i : Nat) (H : HF) (base : Nat) (hb : (H i == some (Blk.cells ((outI r l' l'.length).map (C.int .i64)) true)) = true) => callA_one (F := fnI pr np) (f := 125) (x := .c (.sl i 0 (l'.length + 1) 24)) (rest := []) (i := i) (H := H) (by simpa using hb) (by simp) (by simp) (by simp) (by simp) (c_spec_l11Loops r hr l' hl') base
    have hlp0 := hlp l hl
    simp [a32, repV, hr, t2, t3, hc, hcut, hlp0, z25_eq, z25_setAll hr, setAt_all, idOf, stillE, madeA]
    rw [loop_to (fun t => ([(2, V.c (C.ptr 1 0)), (6, V.c (C.ptr 2 0)), (7, V.c (C.sl 3 0 (loopsA r (cutIt r l t)).length 2))], [Blk.cells (cZ l) o, Blk.cells (z25 4) true, Blk.cells (r.map (C.int .i64) ++ [C.sl 5 0 (cutIt r l t).length 2]) true, Blk.cells (flatC (loopsA r (cutIt r l t))) true, Blk.cells [] true, Blk.cells (cZ (cutIt r l t)) true])) (cutK r l)]
    · have he : loopsA r (cutIt r l (cutK r l)) = [] := cutR_loops r l
      have hR : cutIt r l (cutK r l) = cutR r l := rfl
      rw [he, hR]
      simp [hr, t3, z25_setAll hr, flatC_nil, sub]
    · simp [cutIt, loopsA, cids_app, cmp_app, sub]
    · intro t ht
      obtain ⟨hq1, _⟩ := cutIt_rep hq t (by omega)
      have hne := cutK_more r l ht
      have hq2 := (cutIt_rep hq (t + 1) (by omega)).1
      have hl2le := (repB_iff.1 hq2).2.1
      have hlp1 := hlp _ hl2le
      have h9 := c_spec_l11Racks r hr (cutIt r l (t + 1)) true
      rw [racksV_t hq2] at h9
      have hc2 := call_rep (rest := []) rfl (by simp) h9
      obtain ⟨f1, f2, f3⟩ := best_facts hne
      have hst : cutIt r l (t + 1) = (cutIt r l t).take (loopBest (loopsA r (cutIt r l t))).1 ++ (cutIt r l t).drop (loopBest (loopsA r (cutIt r l t))).2 := rfl
      obtain ⟨_, hl1, _⟩ := repB_iff.1 hq1
      have hLn := loopsA_len (r := r) hl1
      have hsort := outerTo_sorted r (cutIt r l t) ((cutIt r l t).length + 1)
      have hll : outerTo r (cutIt r l (t + 1)) ((cutIt r l (t + 1)).length + 1) = loopsA r (cutIt r l (t + 1)) := rfl
      have hll1 : outerTo r (cutIt r l t) ((cutIt r l t).length + 1) = loopsA r (cutIt r l t) := rfl
      rw [hll] at hlp1
      rw [hll1] at hsort
      generalize outI r (cutIt r l (t + 1)) (cutIt r l (t + 1)).length = R2 at *
      generalize cutIt r l (t + 1) = l2 at *
      generalize cutIt r l t = l1 at *
      generalize loopsA r l2 = L2 at *
      generalize loopsA r l1 = L at *
      have hpos : 0 < L.length := List.length_pos_iff.2 hne
      have hpos' : (0 : Int) < (L.length : Int) := by omega
      obtain ⟨g0, g1⟩ := flatC_one1 L hpos
      have hh : L.headD (0, 0) = L[0]'hpos := by cases L with
        | nil => exact absurd rfl hne
        | cons p L => rfl
      simp only [Nat.zero_mul, List.drop_zero, Nat.zero_add] at g0 g1
      rw [← hh] at g0 g1
      rw [List.drop_one] at g1
      have b0 : 1 ≤ L.length * 2 := by omega
      have b01 : 2 ≤ L.length * 2 := by omega
      obtain ⟨K, hK1, hK2, hK3⟩ := first_exit (fun i => !((L.getD (i + 1) (0, 0)).1 == (L.headD (0, 0)).1)) (L.length - 1)
      have hbe := best_end hsort hpos hK1 (hK2.imp id fun e => by simpa using e)
      have hb1 : bestTo L 1 = L.headD (0, 0) := by
        rw [show (1 : Nat) = 0 + 1 from rfl, bestTo_succ L hpos, bestTo_zero, hh]
        unfold bestStep
        rw [if_pos rfl]
      have hbf := fun j hj => (bestTo_facts L hne j hj).1
      simp [hpos, hpos', g0, g1, b0, b01, setAt_all, setAt]
      rw [loop_to (fun i => ([(2, V.c (C.ptr 1 0)), (6, V.c (C.ptr 2 0)), (7, V.c (C.sl 3 0 L.length 2)), (8, V.c (C.int .i64 (L.headD (0, 0)).1)), (9, V.c (C.int .i64 (bestTo L (i + 1)).2)), (10, V.c (C.int .i64 ((i + 1 : Nat) : Int)))], [Blk.cells (cZ l) o, Blk.cells (z25 4) true, Blk.cells (r.map (C.int .i64) ++ [C.sl 5 0 l1.length 2]) true, Blk.cells (flatC L) true, Blk.cells [] true, Blk.cells (cZ l1) true])) K]
      · rw [hbe]
        have hA1 : (loopBest L).1 = (L.headD (0, 0)).1 := hbf L.length (Nat.le_refl _)
        rw [hA1] at f1 hst
        generalize (loopBest L).2 = M at *
        have hend : (K + 1 < L.length → ∃ x y, ((flatC L).drop ((K + 1) * 2)).take 1 = [C.int .i64 x] ∧ ¬ x = ((L.headD (0, 0)).1 : Int) ∧ y = x) := fun hk => by
          obtain ⟨q1, _⟩ := flatC_one1 L hk
          refine ⟨_, _, q1, ?_, rfl⟩
          have e := hK2.resolve_left (by omega)
          simp only [Bool.not_eq_true', beq_eq_false_iff_ne] at e
          rw [List.getD_eq_getElem?_getD, List.getElem?_eq_getElem hk] at e
          have e : ¬ (L[K + 1]'hk).1 = (L.headD (0, 0)).1 := e
          omega
        generalize (L.headD (0, 0)).1 = A at *
        have x1 : A ≤ l1.length := by omega
        have x2 : (A : Int) ≤ (l1.length : Int) := by omega
        have x3 : (M : Int) ≤ (l1.length : Int) := by omega
        have hl2 : l2.length = A + (l1.length - M) := by rw [hst]; simp; omega
        have k1 : (cZ l1).take (A * 2) = cZ (l1.take A) := cZ_takeN l1 A
        have k2 : (cZ l1).drop (M * 2) = cZ (l1.drop M) := cZ_drop l1 M
        have k3 : (cZ (l1.drop M)).take ((l1.length - M) * 2) = cZ (l1.drop M) := List.take_of_length_le (by simp)
        have hla : (l1.take A).length = A := by rw [List.length_take]; omega
        have k4 := cZ_take (l1.take A)
        rw [hla] at k4
        have hcz : cZ l2 = cZ (l1.take A) ++ cZ (l1.drop M) := by rw [hst, cZ_app]
        have b1 : A * 2 ≤ l1.length * 2 := by omega
        have b2 : M * 2 + (l1.length - M) * 2 ≤ l1.length * 2 := by omega
        have r1 : A ≤ 68719476736 := by omega
        have r2 : A + (l1.length - M) ≤ 68719476736 := by omega
        rw [hcz, hl2] at hc2
        rw [hcz]
        rw [hl2] at hlp1 ⊢
        by_cases hk : K + 1 < L.length
        · obtain ⟨x, _, q1, q2, _⟩ := hend hk
          have hk' : (K : Int) + 1 < (L.length : Int) := by omega
          have y1 : (0 : Int) ≤ (K : Int) + 1 := by omega
          have b4 : (K + 1) * 2 + 1 ≤ L.length * 2 := by omega
          simp [hk, hk', y1, b4, q1, q2, hr, t2, t3, t7, x1, x2, x3, f2, k1, k2, k3, k4, b1, b2, r1, r2, hc2, hlp1, hla, z25_setAll hr, setAt_all, setAt, idOf, stillE, madeA, cids_app, cmp_app, sub]
        · have hk' : ¬ (K : Int) + 1 < (L.length : Int) := by omega
          simp [hk, hk', hr, t2, t3, t7, x1, x2, x3, f2, k1, k2, k3, k4, b1, b2, r1, r2, hc2, hlp1, hla, z25_setAll hr, setAt_all, setAt, idOf, stillE, madeA, cids_app, cmp_app, sub]
      · simp [hb1, cids_app, cmp_app, sub]
      · intro i hi
        have hk : i + 1 < L.length := by omega
        have hk' : (i : Int) + 1 < (L.length : Int) := by omega
        obtain ⟨q1, q2⟩ := flatC_one1 L hk
        have e := hK3 i hi
        simp only [Bool.not_eq_false', beq_iff_eq] at e
        rw [List.getD_eq_getElem?_getD, List.getElem?_eq_getElem hk] at e
        have e : (L[i + 1]'hk).1 = (L.headD (0, 0)).1 := e
        have hbs := bestTo_succ L hk
        unfold bestStep at hbs
        rw [if_pos (by rw [e, hbf (i + 1) (by omega)])] at hbs
        rw [hbs]
        rw [e] at q1
        have y1 : (0 : Int) ≤ (i : Int) + 1 := by omega
        have b4 : (i + 1) * 2 + 1 ≤ L.length * 2 := by omega
        have b5 : (i + 1) * 2 + 1 + 1 ≤ L.length * 2 := by omega
        have wi : IntKind.i64.wrap ((i : Int) + 1 + 1) = (i : Int) + 1 + 1 := wrapI (by omega) (by omega)
        generalize (L.headD (0, 0)).1 = A at *
        generalize (L[i + 1]'hk).2 = M at *
        simp [hk, hk', y1, q1, q2, b4, b5, wi, setAt_all, setAt, cids_app, cmp_app, sub]
end Go.Proofs.Ytoaidbmkfdpagaa.AM
