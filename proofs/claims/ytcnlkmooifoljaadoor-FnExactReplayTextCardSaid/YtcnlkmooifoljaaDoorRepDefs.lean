import Derived.Test.YtcnlkmooifoljaaDoorPairS
/- Replays: their cells, and what the laws ask of them: copied, counted, equal. -/
namespace Go.Proofs.YtcnlkmooifoljaaDoor.AM
open Go
set_option maxRecDepth 1000000
set_option linter.unusedSimpArgs false
set_option linter.unusedVariables false
/-- pours of any ints, as cells -/
def flatZ (l : List (Int × Int)) : List Int := l.flatMap fun p => [p.1, p.2]
def cZ (l : List (Int × Int)) : List C := (flatZ l).map (C.int .i64)
theorem flatZ_len : ∀ l : List (Int × Int), (flatZ l).length = l.length * 2
  | [] => rfl
  | p :: l => by have := flatZ_len l; simp only [flatZ, List.flatMap_cons, List.length_append] at this ⊢; simp [this]; omega
@[simp] theorem cZ_len (l : List (Int × Int)) : (cZ l).length = l.length * 2 := by simp [cZ, flatZ_len]
@[simp] theorem cZ_ids (l : List (Int × Int)) : cids (cZ l) = [] := cids_ints _ _
@[simp] theorem cZ_cmp (g : Nat → Nat) (l : List (Int × Int)) : cmp g (cZ l) = cZ l := cmp_ints _ _ _
@[simp] theorem cZ_dead (l : List (Int × Int)) : noDead (cZ l) = true := noDead_ints _ _
theorem cZ_nil : cZ [] = [] := rfl
theorem cZ_cons (p : Int × Int) (l : List (Int × Int)) : cZ (p :: l) = C.int .i64 p.1 :: C.int .i64 p.2 :: cZ l := rfl
theorem cZ_app (a b : List (Int × Int)) : cZ (a ++ b) = cZ a ++ cZ b := by simp [cZ, flatZ]
theorem cZ_drop (l : List (Int × Int)) : ∀ k, (cZ l).drop (k * 2) = cZ (l.drop k) := by
  induction l with
  | nil => intro k; simp [cZ_nil]
  | cons p l ih =>
    intro k
    cases k with
    | zero => simp
    | succ k =>
      rw [cZ_cons, show (k + 1) * 2 = k * 2 + 1 + 1 by omega]
      simp only [List.drop_succ_cons, ih k]
theorem cZ_get (l : List (Int × Int)) {k : Nat} (hk : k < l.length) : ((cZ l).drop (k * 2)).take 2 = [C.int .i64 (l[k]'hk).1, C.int .i64 (l[k]'hk).2] := by
  rw [cZ_drop, List.drop_eq_getElem_cons hk, cZ_cons]
  rfl
theorem cZ_get1 (l : List (Int × Int)) {k : Nat} (hk : k < l.length) : ((cZ l).drop (k * 2)).take 1 = [C.int .i64 (l[k]'hk).1] ∧ ((cZ l).drop (k * 2 + 1)).take 1 = [C.int .i64 (l[k]'hk).2] := by
  refine ⟨?_, ?_⟩
  · rw [cZ_drop, List.drop_eq_getElem_cons hk, cZ_cons]; rfl
  · rw [← List.drop_drop, cZ_drop, List.drop_eq_getElem_cons hk, cZ_cons]; rfl
theorem cZ_take (l : List (Int × Int)) : (cZ l).take (l.length * 2) = cZ l := List.take_of_length_le (by simp)
/-- a replay as a value: its rack, its pours in block i -/
def repV (r : List Int) (i n : Nat) : V := .agg (r.map (C.int .i64) ++ [C.sl i 0 n 2])
theorem repC_take {r : List Int} (hr : r.length = 24) (c : C) : (r.map (C.int .i64) ++ [c]).take 24 = r.map (C.int .i64) := by
  rw [List.take_append_of_le_length (by simp; omega)]; exact take24 hr
theorem repC_drop {r : List Int} (hr : r.length = 24) (c : C) : (r.map (C.int .i64) ++ [c]).drop 24 = [c] := by
  rw [List.drop_append_of_le_length (by simp; omega), List.drop_of_length_le (by simp; omega)]; rfl
theorem repC_all {r : List Int} (hr : r.length = 24) (c : C) : (r.map (C.int .i64) ++ [c]).take 25 = r.map (C.int .i64) ++ [c] := List.take_of_length_le (by simp; omega)
theorem repC_set {r : List Int} (hr : r.length = 24) (c d : C) : (r.map (C.int .i64) ++ [c]).set 24 d = r.map (C.int .i64) ++ [d] := by
  rw [List.set_append_right _ _ (by simp; omega)]; simp [hr]
/-- the zero of a replay -/
def z25 (i : Nat) : List C := List.replicate 24 (C.int .i64 0) ++ [C.sl i 0 0 2]
theorem z25_eq (i : Nat) : [C.int .i64 0, C.int .i64 0, C.int .i64 0, C.int .i64 0, C.int .i64 0, C.int .i64 0, C.int .i64 0, C.int .i64 0, C.int .i64 0, C.int .i64 0, C.int .i64 0, C.int .i64 0, C.int .i64 0, C.int .i64 0, C.int .i64 0, C.int .i64 0, C.int .i64 0, C.int .i64 0, C.int .i64 0, C.int .i64 0, C.int .i64 0, C.int .i64 0, C.int .i64 0, C.int .i64 0, C.sl i 0 0 2] = z25 i := rfl
@[simp] theorem z25_len (i : Nat) : (z25 i).length = 25 := rfl
@[simp] theorem z25_ids (i : Nat) : cids (z25 i) = [i] := rfl
theorem setAt_front : ∀ (xs zs ys : List C) (A : List C), zs.length = xs.length → setAt (A ++ zs ++ ys) A.length xs = A ++ xs ++ ys
  | [], zs, ys, A, h => by
    have : zs = [] := List.eq_nil_of_length_eq_zero h
    subst this
    rfl
  | x :: xs, [], ys, A, h => by simp at h
  | x :: xs, z :: zs, ys, A, h => by
    have h' : zs.length = xs.length := by simpa using h
    have := setAt_front xs zs ys (A ++ [x]) h'
    simp only [setAt]
    have e : (A ++ z :: zs ++ ys).set A.length x = A ++ [x] ++ zs ++ ys := by
      rw [List.append_assoc, List.set_append_right _ _ (Nat.le_refl _), Nat.sub_self]
      simp
    rw [e]
    simpa using this
theorem z25_set {r : List Int} (hr : r.length = 24) (i : Nat) : setAt (z25 i) 0 (r.map (C.int .i64)) = r.map (C.int .i64) ++ [C.sl i 0 0 2] := by
  have := setAt_front (r.map (C.int .i64)) (List.replicate 24 (C.int .i64 0)) [C.sl i 0 0 2] [] (by simp [hr])
  simpa [z25] using this
theorem z25_setAll {r : List Int} (hr : r.length = 24) (i : Nat) (c : C) : setAt (z25 i) 0 (r.map (C.int .i64) ++ [c]) = r.map (C.int .i64) ++ [c] := setAt_all _ _ (by simp [hr])
/-! ### calls -/
theorem back_one {i base : Nat} : back [i] base 0 = i := rfl
theorem mp_ids {b : Blk} (h : b.ids = []) (g : Nat → Nat) : b.mp g = b := Blk.mp_below (by simp [h])
/-- a call with one value that names one block, and values that name none -/
theorem callA_one {F : Fns} {f : Nat} {x x0 : V} {rest : List V} {i : Nat} {H : HF} {b : Blk} {v : V} {ns : Heap} (hb : H i = some b) (hx : x.ids = [i]) (hx0 : x.mp (fun j => if i = j then 0 else 1) = x0) (hre : rest.flatMap V.ids = []) (hbi : b.ids = []) (hF : F f (x0 :: rest) [b] = some (v, b :: ns)) (base : Nat) :
    callA F f (x :: rest) H base = some (v.mp (back [i] base), ns.map (Blk.mp (back [i] base)), [(i, b)]) := by
  have hr : reach H 64 ((x :: rest).flatMap V.ids) [] = [i] := by simp [hx, hre, reach, idsAt, hb, hbi]
  have hp : pos [i] = fun j => if i = j then 0 else 1 := by funext j; simp [pos]
  have hm : (x :: rest).map (V.mp (pos [i])) = x0 :: rest := by
    rw [List.map_cons, hp, hx0, mps_pure hre]
  have h := callA_gen (F := F) (f := f) (args := x :: rest) (H := H) (L := [i]) hr (by simp [closed, hb, idsAt, hbi, inL, hx, hre]) (show sub [i] H = [b] by simp [sub, hb, mp_ids hbi]) hm hF (by simp) base
  rw [h]
  simp [mp_ids hbi]
/-- two values, each with a block of its own -/
theorem callA_two {F : Fns} {f : Nat} {x x0 y y0 : V} {i j : Nat} (hij : i ≠ j) {H : HF} {b c : Blk} {v : V} {ns : Heap} (hb : H i = some b) (hc : H j = some c) (hx : x.ids = [i]) (hy : y.ids = [j]) (hx0 : x.mp (pos [i, j]) = x0) (hy0 : y.mp (pos [i, j]) = y0) (hbi : b.ids = []) (hci : c.ids = []) (hF : F f [x0, y0] [b, c] = some (v, b :: c :: ns)) (base : Nat) :
    callA F f [x, y] H base = some (v.mp (back [i, j] base), ns.map (Blk.mp (back [i, j] base)), [(i, b), (j, c)]) := by
  have hji : ¬ j = i := fun e => hij e.symm
  have hr : reach H 64 ([x, y].flatMap V.ids) [] = [i, j] := by simp [hx, hy, reach, idsAt, hb, hbi, hc, hci, hji]
  have h := callA_gen (F := F) (f := f) (args := [x, y]) (H := H) (L := [i, j]) hr (by simp [closed, hb, idsAt, hbi, hc, hci, inL, hx, hy]) (show sub [i, j] H = [b, c] by simp [sub, hb, hc, mp_ids hbi, mp_ids hci]) (show [x, y].map (V.mp (pos [i, j])) = [x0, y0] by rw [List.map_cons, List.map_cons, hx0, hy0]; rfl) hF (by simp) base
  rw [h]
  simp [mp_ids hbi, mp_ids hci]
@[simp] theorem repV_ids (r : List Int) (i n : Nat) : (repV r i n).ids = [i] := by simp [repV, cids_app]
theorem repV_mp (g : Nat → Nat) (r : List Int) (i n : Nat) : (repV r i n).mp g = repV r (g i) n := by simp [repV, cmp_app]
/-! ### copies -/
theorem c_laws_toIntA2 (a b : Int) : fnI pr np 22 [.agg [.int .i64 a, .int .i64 b]] [] = some (.agg [.int .i64 a, .int .i64 b], []) :=
  (fnI_iff pr np).2 ⟨30, by kernel_rfl⟩
theorem inst_two : ∀ (n m : Nat), inst (rep n [.k (C.int .i64 0), .k (C.int .i64 0)]) m = (List.replicate (n * 2) (C.int .i64 0), [])
  | 0, m => rfl
  | n + 1, m => by
    have := inst_two n m
    simp only [rep, List.cons_append, List.nil_append, inst, this]
    rw [show (n + 1) * 2 = n * 2 + 1 + 1 by omega]
    rfl
theorem copy_step (l : List (Int × Int)) {k : Nat} (hk : k < l.length) : (((cZ (l.take k) ++ List.replicate ((l.length - k) * 2) (C.int .i64 0)).set (k * 2) (C.int .i64 (l[k]'hk).1)).set (k * 2 + 1) (C.int .i64 (l[k]'hk).2)) = cZ (l.take (k + 1)) ++ List.replicate ((l.length - (k + 1)) * 2) (C.int .i64 0) := by
  have hlen : (cZ (l.take k)).length = k * 2 := by simp; omega
  rw [show (l.length - k) * 2 = (l.length - (k + 1)) * 2 + 1 + 1 by omega, List.replicate_succ, List.replicate_succ, take_snoc hk, cZ_app]
  rw [List.set_append_right _ _ (by omega), hlen, Nat.sub_self, List.set_cons_zero, List.set_append_right _ _ (by omega), hlen, show k * 2 + 1 - k * 2 = 1 by omega, List.set_cons_succ, List.set_cons_zero]
  simp [cZ_cons, cZ_nil]
theorem c_laws_toIntA2S (l : List (Int × Int)) (hn : l.length ≤ 1048576) (o : Bool) : fnI pr np 13 [.c (.sl 0 0 l.length 2)] [.cells (cZ l) o] = some (.c (.sl 1 0 l.length 2), [.cells (cZ l) o, .cells (cZ l) true]) := by
  have hroom : (l.length : Int) ≤ 68719476736 := by omega
  have hroom' : l.length ≤ 68719476736 := by omega
  rw [fb (fn := a13) rfl rfl rfl]
  simp [a13, inst_two, hroom, hroom']
  rw [loop_to (fun k => ([(0, V.c (C.sl 0 0 l.length 2)), (3, V.c (C.sl 1 0 l.length 2)), (4, V.c (C.int .i64 k))], [.cells (cZ l) o, .cells (cZ (l.take k) ++ List.replicate ((l.length - k) * 2) (C.int .i64 0)) true])) l.length]
  · simp [sub]
  · simp [cZ_nil, cids_rep, cmp_rep, sub]
  · intro k hk
    have g := cZ_get l hk
    have hc := callA_pure (c_laws_toIntA2 (l[k]'hk).1 (l[k]'hk).2) (by simp) (by simp)
    have wk := wrapS (k := k) (by omega)
    have b1 : k * 2 + 2 ≤ l.length * 2 := by omega
    have hs := copy_step l hk
    have hlen : min k l.length * 2 + (l.length - k) * 2 = l.length * 2 := by omega
    simp [hk, g, hc, wk, b1, hs, hlen, cids_rep, cmp_rep, sub]
theorem c_laws_szIntA2S (l : List (Int × Int)) (hn : l.length ≤ 9223372036854775807) (o : Bool) : fnI pr np 9 [.c (.sl 0 0 l.length 2), .c (.int .i64 1048576)] [.cells (cZ l) o] = some (.c (.int .i64 (if l.length ≤ 1048576 then 1048576 - (l.length : Int) else -1)), [.cells (cZ l) o]) := by
  have w : IntKind.i64.wrap (1048576 - (l.length : Int)) = 1048576 - (l.length : Int) := wrapI (by omega) (by omega)
  rw [fb (fn := a9) rfl rfl rfl]
  by_cases h : l.length ≤ 1048576
  · have h1 : ¬ 1048576 - (l.length : Int) < 0 := by omega
    simp [a9, w, h, h1, sub]
  · have h1 : 1048576 - (l.length : Int) < 0 := by omega
    simp [a9, w, h, h1, sub]
theorem c_laws_szReplay (r : List Int) (hr : r.length = 24) (l : List (Int × Int)) (hn : l.length ≤ 9223372036854775807) (o : Bool) : fnI pr np 4 [repV r 0 l.length, .c (.int .i64 1048576)] [.cells (cZ l) o] = some (.c (.int .i64 (if l.length ≤ 1048576 then 1048576 - (l.length : Int) else -1)), [.cells (cZ l) o]) := by
  have hc := fun (G : Heap) (base : Nat) => callA_one (F := fnI pr np) (f := 9) (x := .c (.sl 0 0 l.length 2)) (rest := [.c (.int .i64 1048576)]) (i := 0) (H := lkp (.cells (cZ l) o :: G)) rfl (by simp) (by simp) (by simp) (by simp) (c_laws_szIntA2S l hn o) base
  have hd := repC_drop hr (C.sl 0 0 l.length 2)
  rw [fb (fn := a4) rfl rfl rfl]
  unfold repV
  by_cases h : l.length ≤ 1048576
  · have h1 : ¬ 1048576 - (l.length : Int) < 0 := by omega
    simp [a4, hr, hd, hc, h, h1, sub]
  · simp [a4, hr, hd, hc, h, sub]
theorem c_laws_toReplay (r : List Int) (hr : r.length = 24) (l : List (Int × Int)) (hn : l.length ≤ 1048576) (o : Bool) : fnI pr np 6 [repV r 0 l.length] [.cells (cZ l) o] = some (repV r 1 l.length, [.cells (cZ l) o, .cells (cZ l) true]) := by
  have hc := fun (G : Heap) (base : Nat) => callA_one (F := fnI pr np) (f := 13) (x := .c (.sl 0 0 l.length 2)) (rest := []) (i := 0) (H := lkp (.cells (cZ l) o :: G)) rfl (by simp) (by simp) (by simp) (by simp) (c_laws_toIntA2S l hn o) base
  have hk := callA_pure (c_laws_toRack r hr) (by simp) (by simp)
  rw [fb (fn := a6) rfl rfl rfl]
  unfold repV
  simp [a6, hr, repC_take hr, repC_drop hr, repC_all hr, z25_eq, z25_set hr, z25_setAll hr, repC_set hr, hc, hk, sub]
theorem c_laws_eqIntA2Z (l : List (Int × Int)) (hn : l.length ≤ 1048576) (o o' : Bool) : fnI pr np 17 [.c (.sl 0 0 l.length 2), .c (.sl 1 0 l.length 2)] [.cells (cZ l) o, .cells (cZ l) o'] = some (.c (.bool true), [.cells (cZ l) o, .cells (cZ l) o']) := by
  rw [fb (fn := a17) rfl rfl rfl]
  simp [a17]
  rw [loop_to (fun i => ([(0, V.c (C.sl 0 0 l.length 2)), (1, V.c (C.sl 1 0 l.length 2)), (5, V.c (C.int .i64 i))], [.cells (cZ l) o, .cells (cZ l) o'])) l.length]
  · simp [sub]
  · simp [sub]
  · intro i hi
    have g1 := cZ_get l hi
    have hc := callA_pure (c_laws_eqIntA2 (l[i]'hi).1 (l[i]'hi).2) (by simp) (by simp)
    have wi := wrapS (k := i) (by omega)
    have b1 : i * 2 + 2 ≤ l.length * 2 := by omega
    simp [hi, g1, hc, wi, b1, sub]
theorem c_laws_eqReplay (r : List Int) (hr : r.length = 24) (l : List (Int × Int)) (hn : l.length ≤ 1048576) (o o' : Bool) : fnI pr np 8 [repV r 0 l.length, repV r 1 l.length] [.cells (cZ l) o, .cells (cZ l) o'] = some (.c (.bool true), [.cells (cZ l) o, .cells (cZ l) o']) := by
  have hc := fun (G : Heap) (base : Nat) => callA_two (F := fnI pr np) (f := 17) (x := .c (.sl 0 0 l.length 2)) (y := .c (.sl 1 0 l.length 2)) (i := 0) (j := 1) (by simp) (H := lkp (.cells (cZ l) o :: .cells (cZ l) o' :: G)) rfl rfl (by simp) (by simp) (by simp) (by simp [pos]) (by simp) (by simp) (c_laws_eqIntA2Z l hn o o') base
  have hk := callA_pure (c_laws_eqRack r hr) (by simp) (by simp)
  rw [fb (fn := a8) rfl rfl rfl]
  unfold repV
  simp [a8, hr, repC_take hr, repC_drop hr, repC_all hr, hc, hk, sub]
end Go.Proofs.YtcnlkmooifoljaaDoor.AM
