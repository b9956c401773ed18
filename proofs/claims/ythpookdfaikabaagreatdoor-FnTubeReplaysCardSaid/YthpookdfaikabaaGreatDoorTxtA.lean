import Derived.Test.YthpookdfaikabaaGreatDoorRepA
import Derived.Test.YthpookdfaikabaaGreatDoorParA
import Derived.Test.YthpookdfaikabaaGreatDoorRepB
import Derived.Test.YthpookdfaikabaaGreatDoorParB
/- The text of a rack and of a replay: plain laws. -/
namespace Go.Proofs.YthpookdfaikabaaGreatDoor.AM
open Go
set_option maxRecDepth 1000000
set_option linter.unusedSimpArgs false
set_option linter.unusedVariables false
/-- the sign of a layer; a digit -/
def chB (c : Int) : UInt8 := if c = 0 then 46 else UInt8.ofNat (96 + c.toNat)
def dgB (a : Int) : UInt8 := UInt8.ofNat (48 + a.toNat)
def tbT (r : List Int) (i : Nat) : List UInt8 := (tubeAt r i).map chB
def sepT (i : Nat) : List UInt8 := if i = 0 then [] else [47]
def preT (r : List Int) (i : Nat) : List UInt8 := (List.range i).flatMap fun j => sepT j ++ tbT r j
theorem preT_succ (r : List Int) (i : Nat) : preT r (i + 1) = preT r i ++ (sepT i ++ tbT r i) := by
  unfold preT
  rw [List.range_succ, List.flatMap_append]
  simp
theorem tbT_len {r : List Int} (hr : r.length = 24) {i : Nat} (hi : i < 6) : (tbT r i).length = 4 := by unfold tbT; rw [List.length_map, tubeAt_len hr hi]
theorem preT_len {r : List Int} (hr : r.length = 24) : ∀ i, i ≤ 6 → (preT r i).length ≤ i * 5
  | 0, _ => by simp [preT]
  | i + 1, h => by
    have ih := preT_len hr i (by omega)
    rw [preT_succ]
    simp only [List.length_append, tbT_len hr (i := i) (by omega)]
    have : (sepT i).length ≤ 1 := by unfold sepT; split <;> simp
    omega
def txK (r : List Int) (l : List (Int × Int)) (k : Nat) : List UInt8 := preT r 6 ++ (l.take k).flatMap fun p => [32, dgB p.1, dgB p.2]
def txR (r : List Int) (l : List (Int × Int)) : List UInt8 := txK r l l.length
theorem txK_succ (r : List Int) {l : List (Int × Int)} {k : Nat} (hk : k < l.length) : txK r l (k + 1) = txK r l k ++ [32, dgB (l[k]'hk).1, dgB (l[k]'hk).2] := by
  unfold txK
  rw [List.take_add_one, List.getElem?_eq_getElem hk, List.flatMap_append, List.append_assoc]
  rfl
theorem txK_len {r : List Int} (hr : r.length = 24) (l : List (Int × Int)) : ∀ k, k ≤ l.length → (txK r l k).length ≤ 30 + 3 * k
  | 0, _ => by
    have := preT_len hr 6 (by omega)
    simp [txK]
    omega
  | k + 1, h => by
    have := txK_len hr l k (by omega)
    rw [txK_succ r (by omega)]
    simp
    omega
theorem tube_col {t : List Int} (ht : t.length = 4) (h : tubeP t = true) {k : Nat} (hk : k < 4) : 0 ≤ t.getD k 0 ∧ t.getD k 0 ≤ 5 := by
  obtain ⟨a, b, c, d, rfl⟩ := len4 ht
  rw [tube_eq] at h
  simp at h
  match k, hk with
  | 0, _ => simp; omega
  | 1, _ => simp; omega
  | 2, _ => simp; omega
  | 3, _ => simp; omega
theorem six_of {x : Int} (h : 0 ≤ x ∧ x ≤ 5) : x = 0 ∨ x = 1 ∨ x = 2 ∨ x = 3 ∨ x = 4 ∨ x = 5 := by omega
theorem take_one (l : List UInt8) {k : Nat} (hk : k < l.length) : l.take (k + 1) = l.take k ++ [l.getD k 0] := by
  rw [List.take_add_one, List.getElem?_eq_getElem hk, List.getD_eq_getElem?_getD, List.getElem?_eq_getElem hk]
  rfl
theorem tbT_get {r : List Int} (hr : r.length = 24) {i k : Nat} (hi : i < 6) (hk : k < 4) : (tbT r i).getD k 0 = chB ((tubeAt r i).getD k 0) := by
  have h4 := tubeAt_len hr hi
  unfold tbT
  rw [List.getD_eq_getElem?_getD, List.getD_eq_getElem?_getD, List.getElem?_map, List.getElem?_eq_getElem (by omega)]
  rfl
end Go.Proofs.YthpookdfaikabaaGreatDoor.AM

/- Contracts: signs, digits, the reference's text of a rack. -/
namespace Go.Proofs.YthpookdfaikabaaGreatDoor.AM
open Go
set_option maxRecDepth 1000000
set_option linter.unusedSimpArgs false
set_option linter.unusedVariables false
theorem c_impl_colorText {c : Int} (h : 0 ≤ c ∧ c ≤ 5) : fnI pr np 84 [.c (.int .i64 c)] [] = some (.c (.str [chB c]), []) := by
  rcases six_of h with rfl | rfl | rfl | rfl | rfl | rfl
  all_goals exact (fnI_iff pr np).2 ⟨30, by kernel_rfl⟩
theorem c_spec_l1Num5 {c : Int} (h : 0 ≤ c ∧ c ≤ 5) : fnI pr np 68 [.c (.int .i64 c)] [] = some (.c (.str [dgB c]), []) := by
  rcases six_of h with rfl | rfl | rfl | rfl | rfl | rfl
  all_goals exact (fnI_iff pr np).2 ⟨30, by kernel_rfl⟩
theorem c_itoa5 {c : Int} (h : 0 ≤ c ∧ c ≤ 5) : fnI pr np 66 [.c (.int .i64 c)] [] = some (.c (.str [dgB c]), []) := by
  rcases six_of h with rfl | rfl | rfl | rfl | rfl | rfl
  all_goals exact (fnI_iff pr np).2 ⟨1, by kernel_rfl⟩
theorem cell_get {r : List Int} (hr : r.length = 24) {i k : Nat} (hi : i < 6) (hk : k < 4) : ((r.map (C.int .i64)).drop (i * 4 + k)).take 1 = [C.int .i64 ((tubeAt r i).getD k 0)] := by
  rw [tubeAt_cell hr hi hk]
  rw [List.drop_eq_getElem_cons (by simp; omega)]
  simp [cellAt, List.getD_eq_getElem?_getD, List.getElem?_eq_getElem (show i * 4 + k < r.length by omega)]
theorem sl_one {x : Int} (h : 0 ≤ x ∧ x ≤ 5) : ((([46, 97, 98, 99, 100, 101] : List UInt8).take (x.toNat + 1)).drop x.toNat) = [chB x] := by
  rcases six_of h with rfl | rfl | rfl | rfl | rfl | rfl <;> rfl
theorem c_spec_l2Text (r : List Int) (h : RackOK r) : fnI pr np 67 [.agg (r.map (C.int .i64))] [] = some (.c (.str (preT r 6)), []) := by
  have hr := h.len
  have h24 := take24 hr
  have w1 : IntKind.i64.wrap 1 = 1 := by decide
  have w2 : IntKind.i64.wrap 2 = 2 := by decide
  have w3 : IntKind.i64.wrap 3 = 3 := by decide
  have w4 : IntKind.i64.wrap 4 = 4 := by decide
  have w5 : IntKind.i64.wrap 5 = 5 := by decide
  have w6 : IntKind.i64.wrap 6 = 6 := by decide
  rw [fb (fn := a67) rfl rfl rfl]
  simp [a67, hr, h24, sub]
  rw [loop_to (fun i => ([(1, V.c (C.ptr 0 0)), (3, V.c (C.str (preT r i))), (4, V.c (C.int .i64 i))], [Blk.cells (r.map (C.int .i64)) true])) 6]
  · simp [sub]
  · simp [sub, preT]
  · intro i hi
    have hiI : (i : Int) < 6 := by omega
    have wi := wrapS (k := i) (by omega)
    have hpl := preT_len hr i (by omega)
    have ht4 := tbT_len hr hi
    rw [preT_succ]
    have hsp : (preT r i ++ sepT i).length ≤ 31 := by
      have : (sepT i).length ≤ 1 := by unfold sepT; split <;> simp
      rw [List.length_append]; omega
    have inner : ∀ (p : List UInt8) (hp : p.length ≤ 31) (k : Nat), k < 4 → (p ++ (tbT r i).take k).length + 1 ≤ 9223372036854775807 := fun p hp k hk => by simp; omega
    have hend : (tbT r i).take 4 = tbT r i := List.take_of_length_le (by omega)
    have step : ∀ k, k < 4 → ∃ x, 0 ≤ x ∧ x ≤ 5 ∧ ((r.map (C.int .i64)).drop (i * 4 + k)).take 1 = [C.int .i64 x] ∧ (tbT r i).take (k + 1) = (tbT r i).take k ++ [chB x] := fun k hk => by
      have hc := tube_col (h.t4 hi) (h.tv hi) hk
      exact ⟨_, hc.1, hc.2, cell_get hr hi hk, by rw [take_one _ (by omega), tbT_get hr hi hk]⟩
    by_cases h0 : i = 0
    · subst h0
      have e0 : preT r 0 = [] := rfl
      have e1 : sepT 0 = [] := rfl
      rw [e0, e1]
      simp [hr, sub]
      rw [loop_to (fun k => ([(1, V.c (C.ptr 0 0)), (3, V.c (C.str ((tbT r 0).take k))), (4, V.c (C.int .i64 0)), (5, V.c (C.int .i64 k))], [Blk.cells (r.map (C.int .i64)) true])) 4]
      · simp [sub, hend, w1]
      · simp [sub]
      · intro k hk
        obtain ⟨x, x0, x5, g, tk⟩ := step k hk
        have hkI : (k : Int) < 4 := by omega
        have wk := wrapS (k := k) (by omega)
        have b1 := inner [] (by simp) k hk
        simp only [List.nil_append] at b1
        generalize (tbT r 0).take k = q at *
        rw [tk]
        simp at g
        have k3 : k ≤ 23 := by omega
        rcases six_of ⟨x0, x5⟩ with rfl | rfl | rfl | rfl | rfl | rfl
        all_goals simp [hkI, hk, hr, g, k3, wk, w1, w2, w3, w4, w5, w6, b1, chB, sub]
    · have hpos : 0 < i := by omega
      have h0I : (0 : Int) < (i : Int) := by omega
      have hb : (preT r i).length + 1 ≤ 9223372036854775807 := by omega
      have e1 : sepT i = [47] := by unfold sepT; rw [if_neg h0]
      have e2 : preT r i ++ (sepT i ++ tbT r i) = (preT r i ++ [47]) ++ tbT r i := by rw [e1, List.append_assoc]
      rw [e1] at hsp
      rw [e2]
      generalize hq : preT r i = q0 at *
      generalize hp : q0 ++ [47] = p at *
      simp [hiI, h0I, hpos, hi, h0, hb, hp, hr, sub]
      rw [loop_to (fun k => ([(1, V.c (C.ptr 0 0)), (3, V.c (C.str (p ++ (tbT r i).take k))), (4, V.c (C.int .i64 i)), (5, V.c (C.int .i64 k))], [Blk.cells (r.map (C.int .i64)) true])) 4]
      · simp [sub, hend, wi]
      · simp [sub]
      · intro k hk
        obtain ⟨x, x0, x5, g, tk⟩ := step k hk
        have hkI : (k : Int) < 4 := by omega
        have wk := wrapS (k := k) (by omega)
        have b1 := inner p (by omega) k hk
        have hle : i * 4 + k ≤ 23 := by omega
        rw [tk, ← List.append_assoc]
        generalize p ++ (tbT r i).take k = q at *
        rcases six_of ⟨x0, x5⟩ with rfl | rfl | rfl | rfl | rfl | rfl
        all_goals simp [hkI, hk, hi, hiI, hle, hr, g, b1, wk, w1, w2, w3, w4, w5, w6, chB, sub]
end Go.Proofs.YthpookdfaikabaaGreatDoor.AM

/- Contracts: the implementation's text of a rack. -/
namespace Go.Proofs.YthpookdfaikabaaGreatDoor.AM
open Go
set_option maxRecDepth 1000000
set_option linter.unusedSimpArgs false
set_option linter.unusedVariables false
theorem c_join (O : List (List UInt8)) (sep : List UInt8) (o : Bool) (hn : O.length ≤ 1000) (hl : (Lib.join O sep).length ≤ 140737488355328) : fnI pr np 85 [.c (.sl 0 0 O.length 1), .c (.str sep)] [.cells (strs O) o] = some (.c (.str (Lib.join O sep)), [.cells (strs O) o]) := by
  refine (fnI_iff pr np).2 ⟨1, ?_⟩
  have e1 : ((strs O).drop 0).take O.length = strs O := strs_take O
  show (if 0 + O.length ≤ (strs O).length ∧ O.length ≤ 140737488355328 ∧ (((strs O).drop 0).take O.length).all isStrC = true ∧ (Lib.join ((((strs O).drop 0).take O.length).map strC) sep).length ≤ 140737488355328 then some (V.c (.str (Lib.join ((((strs O).drop 0).take O.length).map strC) sep)), [Blk.cells (strs O) o]) else none) = _
  rw [e1, strs_strC, if_pos ⟨by simp, by omega, strs_isStr O, hl⟩]
def parts (r : List Int) (i : Nat) : List (List UInt8) := (List.range i).map (tbT r)
theorem parts_len (r : List Int) (i : Nat) : (parts r i).length = i := by simp [parts]
theorem parts_succ (r : List Int) (i : Nat) : parts r (i + 1) = parts r i ++ [tbT r i] := by simp [parts, List.range_succ]
theorem parts_join (r : List Int) : Lib.join (parts r 6) [47] = preT r 6 := by
  simp [parts, preT, sepT, Lib.join, List.range, List.range.loop]
def pS (i : Nat) : C := .sl 0 0 i 1
def pH (r : List Int) (i : Nat) : Heap := [.cells (strs (parts r i)) true]
theorem callS_slz {F : Fns} {f n sz : Nat} {rest : List V} {b : Blk} {v : V} {ns : Heap} (hre : rest.flatMap V.ids = []) (hbi : b.ids = []) (hF : F f (.c (.sl 0 0 n sz) :: rest) [b] = some (v, b :: ns)) (i : Nat) (H : HF) (base : Nat) (hb : (H i == some b) = true) :
    callA F f (.c (.sl i 0 n sz) :: rest) H base = some (v.mp (back [i] base), ns.map (Blk.mp (back [i] base)), [(i, b)]) := by
  have hb : H i = some b := by simpa using hb
  exact callA_one (x := .c (.sl i 0 n sz)) hb (by simp) (by simp) hre hbi hF base
theorem c_impl_rackText (r : List Int) (h : RackOK r) : fnI pr np 65 [.agg (r.map (C.int .i64))] [] = some (.c (.str (preT r 6)), []) := by
  have hr := h.len
  have h24 := take24 hr
  rw [fb (fn := a65) rfl rfl rfl]
  simp [a65, hr, h24, sub]
  rw [loop_to (fun i => ([(3, V.c (pS i)), (10, V.agg (r.map (C.int .i64))), (11, V.c (C.int .i64 i))], pH r i)) 6]
  · have hj : (Lib.join (parts r 6) [47]).length ≤ 140737488355328 := by
      rw [parts_join]
      have := preT_len hr 6 (by omega)
      omega
    have hJ := c_join (parts r 6) [47] true (by rw [parts_len]; omega) hj
    rw [parts_len, parts_join] at hJ
    have hc := callS_slz (rest := [.c (.str [47])]) rfl (by simp) hJ
    simp [pS, pH, hc, sub]
  · simp [pS, pH, sub]
    rfl
  · intro i hi
    have hiI : (i : Int) < 6 := by omega
    have wi := wrapS (k := i) (by omega)
    have ht4 := tbT_len hr hi
    have htl := tubeAt_len hr hi
    have hrow : ((r.map (C.int .i64)).drop (i * 4)).take 4 = (tubeAt r i).map (C.int .i64) := by unfold tubeAt; rw [List.map_take, List.map_drop]
    have step : ∀ k, k < 4 → ∃ x, 0 ≤ x ∧ x ≤ 5 ∧ (((tubeAt r i).map (C.int .i64)).drop k).take 1 = [C.int .i64 x] ∧ (tbT r i).take (k + 1) = (tbT r i).take k ++ [chB x] := fun k hk => by
      have hc := tube_col (h.t4 hi) (h.tv hi) hk
      refine ⟨_, hc.1, hc.2, ?_, by rw [take_one _ (by omega), tbT_get hr hi hk]⟩
      rw [List.drop_eq_getElem_cons (by simp; omega)]
      simp [List.getD_eq_getElem?_getD, List.getElem?_eq_getElem (show k < (tubeAt r i).length by omega)]
    have inner : ∀ (k : Nat), k < 4 → ((tbT r i).take k).length + 1 ≤ 9223372036854775807 := fun k hk => by simp; omega
    have hend : (tbT r i).take 4 = tbT r i := List.take_of_length_le (by omega)
    have hroom : i + 1 ≤ 68719476736 := by omega
    have hi5 : i ≤ 5 := by omega
    have tk := strs_take (parts r i)
    rw [parts_len] at tk
    have e1 : strs (parts r i) ++ [C.str (tbT r i)] = strs (parts r (i + 1)) := by rw [parts_succ, strs_app]; rfl
    have pl := parts_len r i
    have t4 : ((tubeAt r i).map (C.int .i64)).take 4 = (tubeAt r i).map (C.int .i64) := List.take_of_length_le (by simp; omega)
    simp [hiI, hi, hi5, hr, hrow, htl, pS, pH, setAt_all, pl, sub]
    rw [loop_to (fun k => ([(3, V.c (C.sl 0 0 i 1)), (6, V.c (C.str ((tbT r i).take k))), (10, V.agg (r.map (C.int .i64))), (11, V.c (C.int .i64 i)), (14, V.agg ((tubeAt r i).map (C.int .i64))), (15, V.c (C.int .i64 k))], [Blk.cells (strs (parts r i)) true])) 4]
    · simp [hend, tk, e1, pl, hroom, wi, sub]
    · simp [htl, pl, t4, sub]
    · intro k hk
      obtain ⟨x, x0, x5, g, tk2⟩ := step k hk
      have hkI : (k : Int) < 4 := by omega
      have wk := wrapS (k := k) (by omega)
      have b1 := inner k hk
      have hct := callA_pure (c_impl_colorText ⟨x0, x5⟩) (by simp) (by simp)
      rw [tk2]
      have hk3 : k ≤ 3 := by omega
      generalize (tbT r i).take k = q at *
      simp [hkI, hk, hk3, htl, pl, g, hct, b1, wk, sub]
end Go.Proofs.YthpookdfaikabaaGreatDoor.AM

/- Contracts: the text of a replay. -/
namespace Go.Proofs.YthpookdfaikabaaGreatDoor.AM
open Go
set_option maxRecDepth 1000000
set_option linter.unusedSimpArgs false
set_option linter.unusedVariables false
def digs (l : List (Int × Int)) : Prop := ∀ k (hk : k < l.length), (0 ≤ (l[k]'hk).1 ∧ (l[k]'hk).1 ≤ 5) ∧ (0 ≤ (l[k]'hk).2 ∧ (l[k]'hk).2 ≤ 5)
theorem digs_of {r : List Int} (hr : r.length = 24) {l : List (Int × Int)} (h : repB r l = true) : digs l := by
  obtain ⟨_, _, h3⟩ := repB_facts hr h
  intro k hk
  have h4 := h3 k hk
  rw [canAt_eq _ hk] at h4
  obtain ⟨i, j, e1, e2, hi, hj, _⟩ := canZ_facts h4
  omega
theorem c_spec_l11Write (r : List Int) (h : RackOK r) (l : List (Int × Int)) (hl : l.length ≤ 60) (hd : digs l) (o : Bool) : fnI pr np 41 [repV r 0 l.length] [.cells (cZ l) o] = some (.c (.str (txR r l)), [.cells (cZ l) o]) := by
  have hr := h.len
  have h24 := take24 hr
  have t1 := repC_take hr (C.sl 0 0 l.length 2)
  have t2 := repC_drop hr (C.sl 0 0 l.length 2)
  have t3 := fun i n => repC_all hr (C.sl i 0 n 2)
  have htx := callA_pure (c_spec_l2Text r h) (by simp) (by simp)
  rw [fb (fn := a41) rfl rfl rfl]
  simp [a41, repV, hr, h24, t1, t2, t3, htx, sub]
  rw [loop_to (fun k => ([(1, V.c (C.ptr 1 0)), (3, V.c (C.str (txK r l k))), (4, V.c (C.int .i64 k))], [Blk.cells (cZ l) o, Blk.cells (r.map (C.int .i64) ++ [C.sl 0 0 l.length 2]) true])) l.length]
  · simp [hr, t2, txR, sub]
  · simp [txK, sub]
  · intro k hk
    have hkI : (k : Int) < (l.length : Int) := by omega
    have wk := wrapS (k := k) (by omega)
    obtain ⟨d1, d2⟩ := hd k hk
    have n1 := callA_pure (c_spec_l1Num5 d1) (by simp) (by simp)
    have n2 := callA_pure (c_spec_l1Num5 d2) (by simp) (by simp)
    obtain ⟨g1, g2⟩ := cZ_get1 l hk
    have hlen := txK_len hr l k (by omega)
    have b1 : (txK r l k).length + 1 ≤ 9223372036854775807 := by omega
    have b2 : (txK r l k).length + 1 + 1 ≤ 9223372036854775807 := by omega
    have b3 : (txK r l k).length + 1 + 1 + 1 ≤ 9223372036854775807 := by omega
    have b1' : (txK r l k).length + 2 ≤ 9223372036854775807 := by omega
    have b3' : (txK r l k).length + 3 ≤ 9223372036854775807 := by omega
    have c1 : k * 2 + 1 ≤ l.length * 2 := by omega
    have c2 : k * 2 + 1 + 1 ≤ l.length * 2 := by omega
    have c3 : k * 2 + 2 ≤ l.length * 2 := by omega
    rw [txK_succ r hk]
    generalize (l[k]'hk).1 = x at *
    generalize (l[k]'hk).2 = y at *
    generalize txK r l k = q at *
    simp [hkI, hk, hr, t2, g1, g2, n1, n2, b1, b2, b3, b1', b3', c1, c2, c3, wk, sub]
theorem c_impl_text (r : List Int) (h : RackOK r) (l : List (Int × Int)) (hl : l.length ≤ 60) (hd : digs l) (o : Bool) : fnI pr np 40 [repV r 0 l.length] [.cells (cZ l) o] = some (.c (.str (txR r l)), [.cells (cZ l) o]) := by
  have hr := h.len
  have h24 := take24 hr
  have t1 := repC_take hr (C.sl 0 0 l.length 2)
  have t2 := repC_drop hr (C.sl 0 0 l.length 2)
  have t3 := fun i n => repC_all hr (C.sl i 0 n 2)
  have htx := callA_pure (c_impl_rackText r h) (by simp) (by simp)
  rw [fb (fn := a40) rfl rfl rfl]
  simp [a40, repV, hr, h24, t1, t2, t3, htx, sub]
  rw [loop_to (fun k => ([(3, V.c (C.str (txK r l k))), (10, V.c (C.sl 0 0 l.length 2)), (11, V.c (C.int .i64 l.length)), (12, V.c (C.int .i64 k))], [Blk.cells (cZ l) o])) l.length]
  · simp [txR, sub]
  · simp [txK, sub]
  · intro k hk
    have hkI : (k : Int) < (l.length : Int) := by omega
    have wk := wrapS (k := k) (by omega)
    obtain ⟨d1, d2⟩ := hd k hk
    have n1 := callA_pure (c_itoa5 d1) (by simp) (by simp)
    have n2 := callA_pure (c_itoa5 d2) (by simp) (by simp)
    have g := cZ_get l hk
    have hlen := txK_len hr l k (by omega)
    have b3 : (txK r l k).length + 1 + 1 + 1 ≤ 9223372036854775807 := by omega
    have b3' : (txK r l k).length + 3 ≤ 9223372036854775807 := by omega
    have c3 : k * 2 + 2 ≤ l.length * 2 := by omega
    rw [txK_succ r hk]
    generalize (l[k]'hk).1 = x at *
    generalize (l[k]'hk).2 = y at *
    generalize txK r l k = q at *
    simp [hkI, hk, hr, g, n1, n2, b3, b3', c3, setAt_all, setAt, wk, sub]
def txO (r : List Int) (l : List (Int × Int)) : List UInt8 := if repB r l = true then txR r l else []
theorem c_spec_ReplayText (r : List Int) (hr : r.length = 24) (l : List (Int × Int)) (o : Bool) : fnI pr np 16 [repV r 0 l.length] [.cells (cZ l) o] = some (.tup [.c (.str (txO r l)), .c (.bool (repB r l))], [.cells (cZ l) o]) := by
  have h1 := call_rep (rest := []) rfl (by simp) (c_spec_IsReplay r hr l o)
  have t3 := fun i n => repC_all hr (C.sl i 0 n 2)
  rw [fb (fn := a16) rfl rfl rfl]
  unfold txO
  cases hq : repB r l with
  | false => rw [hq] at h1; simp [a16, repV, hr, t3, h1, sub]
  | true =>
    rw [hq] at h1
    obtain ⟨h, hl, _⟩ := repB_facts hr hq
    have hw := call_rep (rest := []) rfl (by simp) (c_spec_l11Write r h l hl (digs_of hr hq) o)
    simp [a16, repV, hr, t3, h1, hw, sub]
theorem c_impl_ReplayText (r : List Int) (hr : r.length = 24) (l : List (Int × Int)) (o : Bool) : fnI pr np 15 [repV r 0 l.length] [.cells (cZ l) o] = some (.tup [.c (.str (txO r l)), .c (.bool (repB r l))], [.cells (cZ l) o]) := by
  have h1 := call_rep (rest := []) rfl (by simp) (c_impl_IsReplay r hr l o)
  have t3 := fun i n => repC_all hr (C.sl i 0 n 2)
  rw [fb (fn := a15) rfl rfl rfl]
  unfold txO
  cases hq : repB r l with
  | false => rw [hq] at h1; simp [a15, repV, hr, t3, h1, sub]
  | true =>
    rw [hq] at h1
    obtain ⟨h, hl, _⟩ := repB_facts hr hq
    have hw := call_rep (rest := []) rfl (by simp) (c_impl_text r h l hl (digs_of hr hq) o)
    simp [a15, repV, hr, t3, h1, hw, sub]
end Go.Proofs.YthpookdfaikabaaGreatDoor.AM

/- The text of a replay tells it: plain laws. -/
namespace Go.Proofs.YthpookdfaikabaaGreatDoor.AM
open Go
set_option maxRecDepth 1000000
set_option linter.unusedSimpArgs false
set_option linter.unusedVariables false
theorem sg_ch {c : Int} (h : 0 ≤ c ∧ c ≤ 5) : sgB (chB c) = c := by
  rcases six_of h with rfl | rfl | rfl | rfl | rfl | rfl <;> decide
theorem ch_ne {c : Int} (h : 0 ≤ c ∧ c ≤ 5) : chB c ≠ 32 := by
  rcases six_of h with rfl | rfl | rfl | rfl | rfl | rfl <;> decide
theorem num_dg {a : Int} (h : 0 ≤ a ∧ a ≤ 5) : num (dgB a) = a := by
  rcases six_of h with rfl | rfl | rfl | rfl | rfl | rfl <;> decide
theorem dg_ne {a : Int} (h : 0 ≤ a ∧ a ≤ 5) : dgB a ≠ 32 := by
  rcases six_of h with rfl | rfl | rfl | rfl | rfl | rfl <;> decide
theorem dg_dig {a b : Int} (h : 0 ≤ a ∧ a ≤ 5) (h2 : 0 ≤ b ∧ b ≤ 5) : dig [dgB a, dgB b] = true := by
  rcases six_of h with rfl | rfl | rfl | rfl | rfl | rfl <;> rcases six_of h2 with rfl | rfl | rfl | rfl | rfl | rfl <;> decide
def digZ (l : List (Int × Int)) : Prop := ∀ p ∈ l, (0 ≤ p.1 ∧ p.1 ≤ 5) ∧ (0 ≤ p.2 ∧ p.2 ≤ 5)
theorem digZ_of {l : List (Int × Int)} (h : digs l) : digZ l := fun p hp => by
  obtain ⟨k, hk, rfl⟩ := List.mem_iff_getElem.1 hp
  exact h k hk
theorem spl_words : ∀ (l : List (Int × Int)) (p : List UInt8), digZ l → (∀ x ∈ p, x ≠ 32) → splC 32 (p ++ l.flatMap fun q => [32, dgB q.1, dgB q.2]) = p :: l.map fun q => [dgB q.1, dgB q.2]
  | [], p, _, hp => by simpa using splC_none hp
  | q :: l, p, h, hp => by
    have ih := spl_words l [dgB q.1, dgB q.2] (fun x hx => h x (by simp [hx])) (fun x hx => by
      have h1 := h q (by simp)
      simp at hx
      rcases hx with rfl | rfl
      · exact dg_ne h1.1
      · exact dg_ne h1.2)
    have e : p ++ (q :: l).flatMap (fun q => [32, dgB q.1, dgB q.2]) = p ++ 32 :: ([dgB q.1, dgB q.2] ++ l.flatMap fun q => [32, dgB q.1, dgB q.2]) := by simp
    rw [e, splC_cut _ hp, ih]
    rfl
def cols (r : List Int) : Prop := ∀ x ∈ r, 0 ≤ x ∧ x ≤ 5
theorem cols_of {r : List Int} (h : RackOK r) : cols r := fun x hx => by
  obtain ⟨j, hj, rfl⟩ := List.mem_iff_getElem.1 hx
  have hr := h.len
  have hc := tube_col (h.t4 (i := j / 4) (by omega)) (h.tv (by omega)) (k := j % 4) (by omega)
  rw [tubeAt_cell hr (by omega) (by omega)] at hc
  have e : j / 4 * 4 + j % 4 = j := by omega
  rw [e] at hc
  simpa [cellAt, List.getD_eq_getElem?_getD, List.getElem?_eq_getElem hj] using hc
theorem tell_rack {r : List Int} (h : RackOK r) : goodT (preT r 6) = true ∧ rackT (preT r 6) = r ∧ (∀ x ∈ preT r 6, x ≠ 32) := by
  have hc := cols_of h
  obtain ⟨a0, a1, a2, a3, a4, a5, a6, a7, a8, a9, a10, a11, a12, a13, a14, a15, a16, a17, a18, a19, a20, a21, a22, a23, rfl⟩ := len24 h.len
  simp [cols] at hc
  have e : preT [a0, a1, a2, a3, a4, a5, a6, a7, a8, a9, a10, a11, a12, a13, a14, a15, a16, a17, a18, a19, a20, a21, a22, a23] 6 = [chB a0, chB a1, chB a2, chB a3, 47, chB a4, chB a5, chB a6, chB a7, 47, chB a8, chB a9, chB a10, chB a11, 47, chB a12, chB a13, chB a14, chB a15, 47, chB a16, chB a17, chB a18, chB a19, 47, chB a20, chB a21, chB a22, chB a23] := by
    simp [preT, tbT, sepT, tubeAt, List.range, List.range.loop]
  rw [e]
  obtain ⟨h0, h1, h2, h3, h4, h5, h6, h7, h8, h9, h10, h11, h12, h13, h14, h15, h16, h17, h18, h19, h20, h21, h22, h23⟩ := hc
  refine ⟨?_, ?_, ?_⟩
  · simp [goodT, List.range, List.range.loop, sg_ch h0, sg_ch h1, sg_ch h2, sg_ch h3, sg_ch h4, sg_ch h5, sg_ch h6, sg_ch h7, sg_ch h8, sg_ch h9, sg_ch h10, sg_ch h11, sg_ch h12, sg_ch h13, sg_ch h14, sg_ch h15, sg_ch h16, sg_ch h17, sg_ch h18, sg_ch h19, sg_ch h20, sg_ch h21, sg_ch h22, sg_ch h23, *]
  · simp [rackT, List.range, List.range.loop, sg_ch h0, sg_ch h1, sg_ch h2, sg_ch h3, sg_ch h4, sg_ch h5, sg_ch h6, sg_ch h7, sg_ch h8, sg_ch h9, sg_ch h10, sg_ch h11, sg_ch h12, sg_ch h13, sg_ch h14, sg_ch h15, sg_ch h16, sg_ch h17, sg_ch h18, sg_ch h19, sg_ch h20, sg_ch h21, sg_ch h22, sg_ch h23]
  · intro x hx
    simp at hx
    have n47 : (47 : UInt8) ≠ 32 := by decide
    rcases hx with rfl | rfl | rfl | rfl | rfl | rfl | rfl | rfl | rfl | rfl | rfl | rfl | rfl | rfl | rfl | rfl | rfl | rfl | rfl | rfl | rfl | rfl | rfl | rfl | rfl | rfl | rfl | rfl | rfl
    all_goals first | exact n47 | (apply ch_ne; assumption)
theorem words_len : ∀ l : List (Int × Int), (l.flatMap fun q => [32, dgB q.1, dgB q.2]).length = 3 * l.length
  | [] => rfl
  | q :: l => by
    have ih := words_len l
    rw [List.flatMap_cons, List.length_append, ih]
    simp
    omega
theorem tell {r : List Int} (hr : r.length = 24) {l : List (Int × Int)} (hb : repB r l = true) : headW (txR r l) = preT r 6 ∧ tailW (txR r l) = (l.map fun q => [dgB q.1, dgB q.2]) ∧ (tailW (txR r l)).map pz = l ∧ okS (headW (txR r l)) = true ∧ rkS (headW (txR r l)) = r ∧ (tailW (txR r l)).all dig = true ∧ repS (txR r l) = true := by
  obtain ⟨h, hl, _⟩ := repB_facts hr hb
  obtain ⟨h1, h2, h3⟩ := tell_rack h
  have hd := digZ_of (digs_of hr hb)
  have hsp : splC 32 (txR r l) = preT r 6 :: l.map fun q => [dgB q.1, dgB q.2] := by
    unfold txR txK
    rw [List.take_length]
    exact spl_words l _ hd h3
  have e1 : headW (txR r l) = preT r 6 := by unfold headW; rw [hsp]; rfl
  have e2 : tailW (txR r l) = l.map fun q => [dgB q.1, dgB q.2] := by unfold tailW; rw [hsp]; rfl
  have hS := good_TS h1
  have hok : okRack r = true := by
    unfold repB at hb
    simp only [Bool.and_eq_true] at hb
    exact hb.1.1
  have e4 : okS (preT r 6) = true := by unfold okS; rw [hS.1, hS.2, h2, hok]; rfl
  have e5 : rkS (preT r 6) = r := by unfold rkS; rw [if_pos e4, hS.2, h2]
  have e3 : (l.map fun q => [dgB q.1, dgB q.2]).map pz = l := by
    rw [List.map_map]
    conv => rhs; rw [← List.map_id l]
    refine List.map_congr_left fun q hq => ?_
    have hqd := hd q hq
    show (num (dgB q.1), num (dgB q.2)) = q
    rw [num_dg hqd.1, num_dg hqd.2]
  have e6 : (l.map fun q => [dgB q.1, dgB q.2]).all dig = true := by
    rw [List.all_map, List.all_eq_true]
    exact fun q hq => dg_dig (hd q hq).1 (hd q hq).2
  have hlen : (txR r l).length ≤ 209 := by
    have := txK_len hr l l.length (Nat.le_refl _)
    unfold txR
    have h29 := okS_len e4
    have : (txK r l l.length).length = 29 + 3 * l.length := by
      unfold txK
      rw [List.take_length, List.length_append, h29]
      congr 1
      exact words_len l
    omega
  refine ⟨e1, e2, by rw [e2]; exact e3, by rw [e1]; exact e4, by rw [e1]; exact e5, by rw [e2]; exact e6, ?_⟩
  unfold repS
  rw [e1, e2, e4, e5, e3, e6, hb]
  simp [hlen]
end Go.Proofs.YthpookdfaikabaaGreatDoor.AM

/- A pour keeps the colors: plain laws. -/
namespace Go.Proofs.YthpookdfaikabaaGreatDoor.AM
open Go
set_option maxRecDepth 1000000
set_option linter.unusedSimpArgs false
set_option linter.unusedVariables false
theorem getD_set_ne {l : List Int} {a q : Nat} {x : Int} (h : q ≠ a) : (l.set a x).getD q 0 = l.getD q 0 := by
  rw [List.getD_eq_getElem?_getD, List.getD_eq_getElem?_getD, List.getElem?_set_ne (fun e => h e.symm)]
theorem go_get {i j f t : Nat} {c : Int} : ∀ (n : Nat) (r : List Int) (q : Nat), (∀ k, k < n → q ≠ i * 4 + (f - 1 - k) ∧ q ≠ j * 4 + (t + k)) → (pourGo i j f t c n r).getD q 0 = r.getD q 0
  | 0, _, _, _ => rfl
  | n + 1, r, q, h => by
    have ih := go_get (c := c) n r q fun k hk => h k (by omega)
    have h1 := h n (by omega)
    simp only [pourGo, pourStep]
    rw [getD_set_ne h1.2, getD_set_ne h1.1, ih]
theorem go_perm {r : List Int} (hr : r.length = 24) {i j f t : Nat} {c : Int} (hi : i < 6) (hj : j < 6) (hij : i ≠ j) (hf : f ≤ 4) : ∀ n, n ≤ f → t + n ≤ 4 → (∀ k, k < n → r.getD (i * 4 + (f - 1 - k)) 0 = c ∧ r.getD (j * 4 + (t + k)) 0 = 0) → (pourGo i j f t c n r).Perm r
  | 0, _, _, _ => List.Perm.refl _
  | n + 1, h1, h2, h3 => by
    have ih := go_perm hr hi hj hij hf n (by omega) (by omega) fun k hk => h3 k (by omega)
    have hl : (pourGo i j f t c n r).length = 24 := by rw [pourGo_len, hr]
    have ga := go_get (i := i) (j := j) (f := f) (t := t) (c := c) n r (i * 4 + (f - 1 - n)) fun k hk => by omega
    have gb := go_get (i := i) (j := j) (f := f) (t := t) (c := c) n r (j * 4 + (t + n)) fun k hk => by omega
    obtain ⟨e1, e2⟩ := h3 n (by omega)
    rw [e1] at ga
    rw [e2] at gb
    simp only [pourGo, pourStep]
    generalize pourGo i j f t c n r = X at *
    have la : i * 4 + (f - 1 - n) < X.length := by omega
    have lb : j * 4 + (t + n) < X.length := by omega
    have hp := @List.set_set_perm _ X _ _ la lb
    rw [List.getD_eq_getElem?_getD, List.getElem?_eq_getElem la] at ga
    rw [List.getD_eq_getElem?_getD, List.getElem?_eq_getElem lb] at gb
    simp only [Option.getD_some] at ga gb
    rw [ga, gb] at hp
    exact hp.trans ih
def sameT (t : List Int) : Bool := (List.range 4).all fun k => decide ((topOf t).2 ≤ (k : Int)) || decide (t.getD (layN t - 1 - k) 0 = (topOf t).1)
theorem sameT_all : allT sameT = true := by kernel_rfl
def emptT (t : List Int) : Bool := (List.range 4).all fun k => decide (k < layN t) || decide (t.getD k 0 = 0)
theorem emptT_all : allT emptT = true := by kernel_rfl
theorem pour_perm {r : List Int} (h : RackOK r) {i j : Nat} (hi : i < 6) (hj : j < 6) (hij : i ≠ j) : (pourR r i j).Perm r := by
  have hr := h.len
  have oi := h.top hi
  have oj := h.top hj
  have h1 : pourN r i j ≤ layN (tubeAt r i) := by unfold pourN; have := oi.nl; have := oi.n0; omega
  have h2 : layN (tubeAt r j) + pourN r i j ≤ 4 := by unfold pourN; have := oj.l4; omega
  have h3 : (pourN r i j : Int) ≤ (topOf (tubeAt r i)).2 := by unfold pourN; have := oi.n0; omega
  unfold pourR
  refine go_perm hr hi hj hij oi.l4 _ h1 h2 fun k hk => ?_
  have l4i := oi.l4
  have s := List.all_eq_true.1 (tubes_all sameT_all (h.t4 hi) (h.tv hi)) k (List.mem_range.2 (by omega))
  have z := List.all_eq_true.1 (tubes_all emptT_all (h.t4 hj) (h.tv hj)) (layN (tubeAt r j) + k) (List.mem_range.2 (by omega))
  simp only [Bool.or_eq_true, decide_eq_true_eq] at s z
  constructor
  · rcases s with s | s
    · omega
    · rw [tubeAt_cell hr hi (by omega)] at s
      exact s
  · rcases z with z | z
    · omega
    · rw [tubeAt_cell hr hj (by omega)] at z
      exact z
theorem bumps_fold (r : List Int) : ∀ (d j : Nat) (c : List Int), j + d ≤ r.length → bumps r c j d = ((r.drop j).take d).foldl bump c
  | 0, _, _, _ => by simp [bumps]
  | d + 1, j, c, h => by
    have ih := bumps_fold r d (j + 1) (bump c (cellAt r j)) (by omega)
    rw [List.drop_eq_getElem_cons (show j < r.length by omega), List.take_succ_cons, List.foldl_cons]
    simp only [bumps]
    rw [ih]
    congr 2
    simp [cellAt, List.getD_eq_getElem?_getD, List.getElem?_eq_getElem (show j < r.length by omega)]
theorem bump_comm (z : List Int) (x y : Int) : bump (bump z x) y = bump (bump z y) x := by
  by_cases h : x.toNat = y.toNat
  · unfold bump; rw [h]
  · have h' : ¬ y.toNat = x.toNat := fun e => h e.symm
    unfold bump
    rw [getD_set_ne h', getD_set_ne h, List.set_comm _ _ h]
def cntR (r : List Int) : List Int := bumps r [0, 0, 0, 0, 0, 0] 0 24
theorem cnt_pour {r : List Int} (h : RackOK r) {i j : Nat} (hi : i < 6) (hj : j < 6) (hij : i ≠ j) : cntR (pourR r i j) = cntR r := by
  have hr := h.len
  have hp := pourR_len hr i j
  unfold cntR
  rw [bumps_fold _ 24 0 _ (by omega), bumps_fold _ 24 0 _ (by omega), List.drop_zero, List.drop_zero, List.take_of_length_le (by omega), List.take_of_length_le (by omega)]
  exact List.Perm.foldl_eq' (pour_perm h hi hj hij) (fun x _ y _ z => bump_comm z x y) _
theorem cnt_path {r : List Int} (hr : r.length = 24) {l : List (Int × Int)} (hb : repB r l = true) : ∀ k, k ≤ l.length → cntR (rackF r (l.take k)) = cntR r := by
  unfold repB allCan at hb
  simp only [Bool.and_eq_true, decide_eq_true_eq] at hb
  obtain ⟨⟨hok, _⟩, hall⟩ := hb
  have hc : ∀ j, j < l.length → canAt r l j = true := fun j hj => List.all_eq_true.1 hall j (List.mem_range.2 hj)
  intro k
  induction k with
  | zero => intro _; rfl
  | succ k ih =>
    intro hk
    have hro := rackF_ok (rackOK hr hok) l k (by omega) fun j hj => hc j (by omega)
    have h4 := hc k (by omega)
    rw [canAt_eq _ (show k < l.length by omega)] at h4
    obtain ⟨i, j, e1, e2, hi, hj, hcan, t1, t2⟩ := canZ_facts h4
    rw [rackF_succ r (show k < l.length by omega)]
    unfold pourZ
    rw [t1, t2, cnt_pour hro hi hj (by
      unfold canP at hcan
      simp at hcan
      exact hcan.1.1.1), ih (by omega)]
end Go.Proofs.YthpookdfaikabaaGreatDoor.AM

