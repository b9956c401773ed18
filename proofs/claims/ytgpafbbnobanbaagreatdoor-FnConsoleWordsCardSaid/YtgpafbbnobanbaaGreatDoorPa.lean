import Derived.Test.YtgpafbbnobanbaaGreatDoorAmCode
import Derived.Test.YtgpafbbnobanbaaGreatDoorAmD
namespace Go.Proofs.YtgpafbbnobanbaaGreatDoor.AM
open Go
set_option maxRecDepth 100000
set_option linter.unusedSimpArgs false
theorem fb {f : Nat} {fn : AFn} (hq : np f = none) (hp : pr f = some fn) {a : List V} (hl : a.length = fn.np) (h : Heap) : fnI pr np f a h = leaveK h.length fn.res (exI pr np h.length fn.body (enter a 0) h) := fnI_body' pr np hq hp hl h
theorem c_impl_within (a b c : Int) : fnI pr np 44 [.c (.int .i64 a), .c (.int .i64 b), .c (.int .i64 c)] [] = some (.c (.bool (decide (b ≤ a) && decide (a ≤ c))), []) := by
  rw [fb (fn := a44) rfl rfl rfl]
  by_cases h1 : b ≤ a <;> simp [a44, h1]
theorem c_spec_l1In (a b c : Int) : fnI pr np 46 [.c (.int .i64 a), .c (.int .i64 b), .c (.int .i64 c)] [] = some (.c (.bool (decide (b ≤ a) && decide (a ≤ c))), []) := by
  rw [fb (fn := a46) rfl rfl rfl]
  by_cases h1 : b ≤ a <;> simp [a46, h1]
theorem c_impl_isColor (a : Int) : fnI pr np 119 [.c (.int .i64 a)] [] = some (.c (.bool (decide (1 ≤ a) && decide (a ≤ 5))), []) := by
  rw [fb (fn := a119) rfl rfl rfl]
  simp [a119, callA_pure (c_impl_within _ _ _)]
theorem c_impl_isTube_1 (a : Int) : fnI pr np 120 [.c (.int .i64 a)] [] = some (.c (.bool (a == 0)), []) := by
  rw [fb (fn := a120) rfl rfl rfl]
  simp [a120]
/-- what a function answers for an int -/
def IsP (g : Nat) (p : Int → Bool) : Prop := ∀ x, fnI pr np g [.c (.int .i64 x)] [] = some (.c (.bool (p x)), [])
theorem c_impl_areAll_int_1 {g : Nat} {p : Int → Bool} (hg : IsP g p) (x : Int) : fnI pr np 132 [.c (.int .i64 x), .c (.ptr 0 0)] [.cells [.fn g []] true] = some (.c (.bool (!p x)), [.cells [.fn g []] true]) := by
  rw [fb (fn := a132) rfl rfl rfl]
  simp [a132, callA_pure (hg _), cut_old', wfH]
def firstNot (p : Int → Bool) : List Int → Int → Int
  | [], _ => -1
  | x :: r, i => if p x then firstNot p r (i + 1) else i
theorem c_slices_IndexFunc_int_int {g : Nat} {p : Int → Bool} (hg : IsP g p) (cs : List Int) (off n : Nat) (hl : off + n ≤ cs.length) (hn : n < 1000000) (own : Bool) :
    fnI pr np 174 [.c (.sl 0 off n 1), .c (.fn 132 [(1, 0)])] [.cells (cs.map (C.int .i64)) own, .cells [.fn g []] true] = some (.c (.int .i64 (firstNot p ((cs.drop off).take n) 0)), [.cells (cs.map (C.int .i64)) own, .cells [.fn g []] true]) := by
  rw [fb (fn := a174) rfl rfl rfl]
  simp [a174]
  generalize hL : (ACode.loop _ _) = L
  generalize hR : (ACode.seq _ ACode.ret) = R
  have key : ∀ (l : List Int) (i : Nat), (cs.drop (off + i)).take (n - i) = l → i ≤ n → leaveK 2 [RV.t 4] (seqK pr np 2 R (blockK 0 (exI pr np 2 L [(0, V.c (C.sl 0 off n 1)), (1, V.c (C.fn 132 [(1, 0)])), (7, V.c (C.int IntKind.i64 ↑n)), (8, V.c (C.int IntKind.i64 ↑i))] [Blk.cells (List.map (C.int IntKind.i64) cs) own, Blk.cells [C.fn g []] true]))) = some (V.c (C.int IntKind.i64 (firstNot p l i)), [Blk.cells (List.map (C.int IntKind.i64) cs) own, Blk.cells [C.fn g []] true]) := by
    intro l
    induction l with
    | nil =>
      intro i hl1 hin
      have hi : i = n := by
        have := congrArg List.length hl1
        simp at this; omega
      subst hi
      rw [← hL, exI_loop']
      simp [gcE_old', wfH, firstNot, ← hR, cut_old']
    | cons x l ih =>
      intro i hl1 hin
      have hi : i < n := by
        have := congrArg List.length hl1
        simp at this; omega
      have hdrop : (cs.drop (off + i)) = x :: cs.drop (off + (i + 1)) := by
        rw [List.drop_eq_getElem_cons (show off + i < cs.length by omega)] at hl1 ⊢
        rw [show n - i = (n - (i + 1)) + 1 by omega, List.take_succ_cons] at hl1
        injection hl1 with h1 h2
        rw [h1]; rfl
      have hl2 : (cs.drop (off + (i + 1))).take (n - (i + 1)) = l := by
        rw [hdrop, show n - i = (n - (i + 1)) + 1 by omega, List.take_succ_cons] at hl1
        injection hl1
      have hd2 : (List.map (C.int .i64) cs).drop (off + i) = C.int .i64 x :: (List.map (C.int .i64) cs).drop (off + (i + 1)) := by
        rw [← List.map_drop, hdrop]; simp
      have hlen : off + i + 1 ≤ cs.length := by omega
      have hcall := fun base => callA_at (F := fnI pr np) (f := 132) (x := .c (.int .i64 x)) (i := 1) (H := lkp [Blk.cells (List.map (C.int IntKind.i64) cs) own, Blk.cells [C.fn g []] true]) (b := .cells [.fn g []] true) rfl rfl rfl (c_impl_areAll_int_1 hg x) rfl base
      have hw : IntKind.i64.wrap ((i : Int) + 1) = ((i + 1 : Nat) : Int) := by rw [wrapI (by omega) (by omega)]; rfl
      have ih := ih (i + 1) hl2 (by omega)
      rw [← hL, exI_loop']
      by_cases hp : p x
      · simp [gcE_old', wfH, hi, hlen, hd2, hcall, hp, hw, firstNot]
        rw [hL]
        exact ih
      · simp [gcE_old', wfH, hi, hlen, hd2, hcall, hp, hw, firstNot, cut_old']
  exact key _ 0 (by simp) (Nat.zero_le _)
end Go.Proofs.YtgpafbbnobanbaaGreatDoor.AM

namespace Go.Proofs.YtgpafbbnobanbaaGreatDoor.AM
open Go
set_option maxRecDepth 100000
set_option linter.unusedSimpArgs false
theorem firstNot_ge (p : Int → Bool) : ∀ (l : List Int) (i : Int), 0 ≤ i → decide (firstNot p l i ≥ 0) = !(l.all p)
  | [], i, _ => by simp [firstNot]
  | x :: r, i, h => by
    have := firstNot_ge p r (i + 1) (by omega)
    by_cases hp : p x
    · simpa [firstNot, hp] using this
    · simp [firstNot, hp, h]
theorem c_slices_ContainsFunc_int_int {g : Nat} {p : Int → Bool} (hg : IsP g p) (cs : List Int) (off n : Nat) (hl : off + n ≤ cs.length) (hn : n < 1000000) (own : Bool) :
    fnI pr np 131 [.c (.sl 0 off n 1), .c (.fn 132 [(1, 0)])] [.cells (cs.map (C.int .i64)) own, .cells [.fn g []] true] = some (.c (.bool (!((cs.drop off).take n).all p)), [.cells (cs.map (C.int .i64)) own, .cells [.fn g []] true]) := by
  have hc := fun base => callA_gen (F := fnI pr np) (f := 174) (args := [.c (.sl 0 off n 1), .c (.fn 132 [(1, 0)])]) (H := lkp [.cells (cs.map (C.int .i64)) own, .cells [.fn g []] true]) (L := [0, 1]) (by simp [reach, idsAt]) (by simp [closed, inL, idsAt]) (by simp [sub]) (by simp [pos]) (c_slices_IndexFunc_int_int hg cs off n hl hn own) (by simp) base
  rw [fb (fn := a131) rfl rfl rfl]
  simp [a131, hc, cut_old', wfH, ← firstNot_ge p _ 0]
theorem c_impl_areAll_int {g : Nat} {p : Int → Bool} (hg : IsP g p) (cs : List Int) (off n : Nat) (hl : off + n ≤ cs.length) (hn : n < 1000000) (own : Bool) :
    fnI pr np 76 [.c (.sl 0 off n 1), .c (.fn g [])] [.cells (cs.map (C.int .i64)) own] = some (.c (.bool (((cs.drop off).take n).all p)), [.cells (cs.map (C.int .i64)) own]) := by
  have hc := fun base => callA_gen (F := fnI pr np) (f := 131) (args := [.c (.sl 0 off n 1), .c (.fn 132 [(1, 0)])]) (H := lkp [.cells (cs.map (C.int .i64)) own, .cells [.fn g []] true]) (L := [0, 1]) (by simp [reach, idsAt]) (by simp [closed, inL, idsAt]) (by simp [sub]) (by simp [pos]) (c_slices_ContainsFunc_int_int hg cs off n hl hn own) (by simp) base
  rw [fb (fn := a76) rfl rfl rfl]
  simp [a76, hc, cut_old', wfH]
theorem c_slices_Index_int_int (y : Int) (cs : List Int) (off n : Nat) (hl : off + n ≤ cs.length) (hn : n < 1000000) (own : Bool) :
    fnI pr np 130 [.c (.sl 0 off n 1), .c (.int .i64 y)] [.cells (cs.map (C.int .i64)) own] = some (.c (.int .i64 (firstNot (fun x => !(y == x)) ((cs.drop off).take n) 0)), [.cells (cs.map (C.int .i64)) own]) := by
  rw [fb (fn := a130) rfl rfl rfl]
  simp [a130]
  generalize hL : (ACode.loop _ _) = L
  generalize hR : (ACode.seq _ ACode.ret) = R
  have key : ∀ (l : List Int) (i : Nat), (cs.drop (off + i)).take (n - i) = l → i ≤ n → leaveK 1 [RV.t 4] (seqK pr np 1 R (blockK 0 (exI pr np 1 L [(0, V.c (C.sl 0 off n 1)), (1, V.c (C.int .i64 y)), (7, V.c (C.int IntKind.i64 ↑n)), (8, V.c (C.int IntKind.i64 ↑i))] [Blk.cells (List.map (C.int IntKind.i64) cs) own]))) = some (V.c (C.int IntKind.i64 (firstNot (fun x => !(y == x)) l i)), [Blk.cells (List.map (C.int IntKind.i64) cs) own]) := by
    intro l
    induction l with
    | nil =>
      intro i hl1 hin
      have hi : i = n := by
        have := congrArg List.length hl1
        simp at this; omega
      subst hi
      rw [← hL, exI_loop']
      simp [gcE_old', wfH, firstNot, ← hR, cut_old']
    | cons x l ih =>
      intro i hl1 hin
      have hi : i < n := by
        have := congrArg List.length hl1
        simp at this; omega
      have hdrop : (cs.drop (off + i)) = x :: cs.drop (off + (i + 1)) := by
        rw [List.drop_eq_getElem_cons (show off + i < cs.length by omega)] at hl1 ⊢
        rw [show n - i = (n - (i + 1)) + 1 by omega, List.take_succ_cons] at hl1
        injection hl1 with h1 h2
        rw [h1]; rfl
      have hl2 : (cs.drop (off + (i + 1))).take (n - (i + 1)) = l := by
        rw [hdrop, show n - i = (n - (i + 1)) + 1 by omega, List.take_succ_cons] at hl1
        injection hl1
      have hd2 : (List.map (C.int .i64) cs).drop (off + i) = C.int .i64 x :: (List.map (C.int .i64) cs).drop (off + (i + 1)) := by
        rw [← List.map_drop, hdrop]; simp
      have hlen : off + i + 1 ≤ cs.length := by omega
      have hw : IntKind.i64.wrap ((i : Int) + 1) = ((i + 1 : Nat) : Int) := by rw [wrapI (by omega) (by omega)]; rfl
      have ih := ih (i + 1) hl2 (by omega)
      rw [← hL, exI_loop']
      by_cases hp : y = x
      · simp [gcE_old', wfH, hi, hlen, hd2, hp, hw, firstNot, cut_old']
      · simp [gcE_old', wfH, hi, hlen, hd2, hp, hw, firstNot]
        rw [hL]
        exact ih
  exact key _ 0 (by simp) (Nat.zero_le _)
def lay (t : List Int) : Int := if firstNot (fun x => !((0 : Int) == x)) t 0 < 0 then 4 else firstNot (fun x => !((0 : Int) == x)) t 0
theorem c_impl_layers (t : List Int) (ht : t.length = 4) : fnI pr np 73 [.agg (t.map (C.int .i64))] [] = some (.c (.int .i64 (lay t)), []) := by
  have hc := fun base => callA_gen (F := fnI pr np) (f := 130) (args := [.c (.sl 0 0 4 1), .c (.int .i64 0)]) (H := lkp [.cells (t.map (C.int .i64)) true]) (L := [0]) (by simp [reach, idsAt]) (by simp [closed, inL, idsAt]) (by simp [sub]) (by simp [pos]) (c_slices_Index_int_int 0 t 0 4 (by omega) (by omega) true) (by simp) base
  rw [fb (fn := a73) rfl rfl rfl]
  have ht2 : t.take 4 = t := List.take_of_length_le (by omega)
  by_cases h : firstNot (fun x => !((0 : Int) == x)) t 0 < 0
  · simp [a73, hc, ht, ht2, h, lay]
  · simp [a73, hc, ht, ht2, h, lay]
end Go.Proofs.YtgpafbbnobanbaaGreatDoor.AM

namespace Go.Proofs.YtgpafbbnobanbaaGreatDoor.AM
open Go
set_option maxRecDepth 100000
set_option linter.unusedSimpArgs false
theorem len4 {t : List Int} (h : t.length = 4) : ∃ a b c d, t = [a, b, c, d] := by
  match t, h with
  | [a, b, c, d], _ => exact ⟨a, b, c, d, rfl⟩
def layN : List Int → Nat
  | [] => 0
  | x :: r => if x = 0 then 0 else layN r + 1
theorem lay_eq {t : List Int} (h : t.length = 4) : lay t = (layN t : Int) ∧ layN t ≤ 4 := by
  obtain ⟨a, b, c, d, rfl⟩ := len4 h
  by_cases ha : a = 0
  · simp [lay, layN, firstNot, ha]
  · have ha' : ¬ (0 : Int) = a := fun e => ha e.symm
    by_cases hb : b = 0
    · simp [lay, layN, firstNot, ha, ha', hb]
    · have hb' : ¬ (0 : Int) = b := fun e => hb e.symm
      by_cases hc : c = 0
      · simp [lay, layN, firstNot, ha, ha', hb, hb', hc]
      · have hc' : ¬ (0 : Int) = c := fun e => hc e.symm
        by_cases hd : d = 0
        · simp [lay, layN, firstNot, ha, ha', hb, hb', hc, hc', hd]
        · have hd' : ¬ (0 : Int) = d := fun e => hd e.symm
          simp [lay, layN, firstNot, ha, ha', hb, hb', hc, hc', hd, hd']
def colP (x : Int) : Bool := decide (1 ≤ x) && decide (x ≤ 5)
def tubeP (t : List Int) : Bool := (t.take (layN t)).all colP && (t.drop (layN t)).all fun x => x == 0
theorem c_impl_isTube (t : List Int) (ht : t.length = 4) : fnI pr np 60 [.agg (t.map (C.int .i64))] [] = some (.c (.bool (tubeP t)), []) := by
  obtain ⟨hlay, hle⟩ := lay_eq ht
  have hw : ∀ l : List Int, (cids (l.map (C.int .i64))) = [] := cids_ints _
  have hc81 := callA_pure (c_impl_layers t ht) (by simp) (by simp)
  have hc1 := fun base => callA_gen (F := fnI pr np) (f := 76) (args := [.c (.sl 0 0 (layN t) 1), .c (.fn 119 [])]) (H := lkp [.cells (t.map (C.int .i64)) true]) (L := [0]) (by simp [reach, idsAt]) (by simp [closed, inL, idsAt]) (by simp [sub]) (by simp [pos]) (c_impl_areAll_int (g := 119) (p := colP) c_impl_isColor t 0 (layN t) (by omega) (by omega) true) (by simp) base
  have hc2 := fun base => callA_gen (F := fnI pr np) (f := 76) (args := [.c (.sl 0 (layN t) (4 - layN t) 1), .c (.fn 120 [])]) (H := lkp [.cells (t.map (C.int .i64)) true]) (L := [0]) (by simp [reach, idsAt]) (by simp [closed, inL, idsAt]) (by simp [sub]) (by simp [pos]) (c_impl_areAll_int (g := 120) (p := fun x => x == 0) c_impl_isTube_1 t (layN t) (4 - layN t) (by omega) (by omega) true) (by simp) base
  have hld : (t.drop (layN t)).take (4 - layN t) = t.drop (layN t) := List.take_of_length_le (by simp; omega)
  have hl4 : (t.map (C.int .i64)).take 4 = t.map (C.int .i64) := List.take_of_length_le (by simp; omega)
  rw [fb (fn := a60) rfl rfl rfl]
  have hle2 : (layN t : Int) ≤ 4 := by omega
  have hd0 : t.drop 0 = t := rfl
  by_cases h1 : (t.take (layN t)).all colP = true
  · have h1' := h1
    simp only [List.all_eq_true] at h1'
    simp only [hd0, h1] at hc1
    simp [a60, hc81, hlay, ht, hl4, hle, hle2, hc1, hc2, hld, tubeP, h1]
  · have h1 : (t.take (layN t)).all colP = false := by simpa using h1
    simp only [hd0, h1] at hc1
    simp [a60, hc81, hlay, ht, hl4, hle, hle2, hc1, hc2, hld, tubeP, h1]
end Go.Proofs.YtgpafbbnobanbaaGreatDoor.AM

namespace Go.Proofs.YtgpafbbnobanbaaGreatDoor.AM
open Go
set_option maxRecDepth 100000
set_option linter.unusedSimpArgs false
def IsT (g : Nat) (p : List Int → Bool) : Prop := ∀ t : List Int, t.length = 4 → fnI pr np g [.agg (t.map (C.int .i64))] [] = some (.c (.bool (p t)), [])
theorem c_impl_areAll_4_int_1 {g : Nat} {p : List Int → Bool} (hg : IsT g p) (t : List Int) (ht : t.length = 4) : fnI pr np 118 [.agg (t.map (C.int .i64)), .c (.ptr 0 0)] [.cells [.fn g []] true] = some (.c (.bool (!p t)), [.cells [.fn g []] true]) := by
  have hl4 : (t.map (C.int .i64)).take 4 = t.map (C.int .i64) := List.take_of_length_le (by simp; omega)
  have hc := callA_pure (hg t ht) (by simp) (by simp)
  rw [fb (fn := a118) rfl rfl rfl]
  simp [a118, hc, ht, hl4, cut_old', wfH]
def tubesFrom (r : List Int) (i : Nat) : Nat → List (List Int)
  | 0 => []
  | k + 1 => ((r.drop (i * 4)).take 4) :: tubesFrom r (i + 1) k
def firstT (p : List Int → Bool) : List (List Int) → Int → Int
  | [], _ => -1
  | x :: r, i => if p x then firstT p r (i + 1) else i
theorem firstT_ge (p : List Int → Bool) : ∀ (l : List (List Int)) (i : Int), 0 ≤ i → decide (firstT p l i ≥ 0) = !(l.all p)
  | [], i, _ => by simp [firstT]
  | x :: r, i, h => by
    have := firstT_ge p r (i + 1) (by omega)
    by_cases hp : p x
    · simpa [firstT, hp] using this
    · simp [firstT, hp, h]
theorem c_slices_IndexFunc_4_int_4_int {g : Nat} {p : List Int → Bool} (hg : IsT g p) (r : List Int) (n : Nat) (hl : n * 4 ≤ r.length) (hn : n < 1000000) (own : Bool) :
    fnI pr np 168 [.c (.sl 0 0 n 4), .c (.fn 118 [(1, 0)])] [.cells (r.map (C.int .i64)) own, .cells [.fn g []] true] = some (.c (.int .i64 (firstT p (tubesFrom r 0 n) 0)), [.cells (r.map (C.int .i64)) own, .cells [.fn g []] true]) := by
  rw [fb (fn := a168) rfl rfl rfl]
  simp [a168]
  generalize hL : (ACode.loop _ _) = L
  generalize hR : (ACode.seq _ ACode.ret) = R
  have key : ∀ (d i : Nat), i + d = n → leaveK 2 [RV.t 4] (seqK pr np 2 R (blockK 0 (exI pr np 2 L [(0, V.c (C.sl 0 0 n 4)), (1, V.c (C.fn 118 [(1, 0)])), (7, V.c (C.int IntKind.i64 ↑n)), (8, V.c (C.int IntKind.i64 ↑i))] [Blk.cells (List.map (C.int IntKind.i64) r) own, Blk.cells [C.fn g []] true]))) = some (V.c (C.int IntKind.i64 (firstT p (tubesFrom r i d) i)), [Blk.cells (List.map (C.int IntKind.i64) r) own, Blk.cells [C.fn g []] true]) := by
    intro d
    induction d with
    | zero =>
      intro i hi
      have hi : i = n := by omega
      subst hi
      rw [← hL, exI_loop']
      simp [gcE_old', wfH, firstT, tubesFrom, ← hR, cut_old']
    | succ d ih =>
      intro i hin
      have hi : i < n := by omega
      have hlen : i * 4 + 4 ≤ r.length := by omega
      have ht4 : ((r.drop (i * 4)).take 4).length = 4 := by simp; omega
      have hm : ((r.map (C.int .i64)).drop (i * 4)).take 4 = ((r.drop (i * 4)).take 4).map (C.int .i64) := by simp
      have hcall := fun base => callA_at (F := fnI pr np) (f := 118) (x := .agg (((r.drop (i * 4)).take 4).map (C.int .i64))) (i := 1) (H := lkp [Blk.cells (List.map (C.int IntKind.i64) r) own, Blk.cells [C.fn g []] true]) (b := .cells [.fn g []] true) rfl (cids_ints _ _) rfl (c_impl_areAll_4_int_1 hg _ ht4) rfl base
      simp only [List.map_take, List.map_drop] at hcall
      have hw : IntKind.i64.wrap ((i : Int) + 1) = ((i + 1 : Nat) : Int) := by rw [wrapI (by omega) (by omega)]; rfl
      have ih := ih (i + 1) (by omega)
      rw [← hL, exI_loop']
      by_cases hp : p ((r.drop (i * 4)).take 4)
      · simp [gcE_old', wfH, hi, hlen, hcall, hp, hw, firstT, tubesFrom]
        rw [hL]
        exact ih
      · simp [gcE_old', wfH, hi, hlen, hcall, hp, hw, firstT, tubesFrom, cut_old']
  exact key n 0 (by simp)
theorem c_slices_ContainsFunc_4_int_4_int {g : Nat} {p : List Int → Bool} (hg : IsT g p) (r : List Int) (n : Nat) (hl : n * 4 ≤ r.length) (hn : n < 1000000) (own : Bool) :
    fnI pr np 117 [.c (.sl 0 0 n 4), .c (.fn 118 [(1, 0)])] [.cells (r.map (C.int .i64)) own, .cells [.fn g []] true] = some (.c (.bool (!(tubesFrom r 0 n).all p)), [.cells (r.map (C.int .i64)) own, .cells [.fn g []] true]) := by
  have hc := fun base => callA_gen (F := fnI pr np) (f := 168) (args := [.c (.sl 0 0 n 4), .c (.fn 118 [(1, 0)])]) (H := lkp [.cells (r.map (C.int .i64)) own, .cells [.fn g []] true]) (L := [0, 1]) (by simp [reach, idsAt]) (by simp [closed, inL, idsAt]) (by simp [sub]) (by simp [pos]) (c_slices_IndexFunc_4_int_4_int hg r n hl hn own) (by simp) base
  rw [fb (fn := a117) rfl rfl rfl]
  simp [a117, hc, cut_old', wfH, ← firstT_ge p _ 0]
theorem c_impl_areAll_4_int {g : Nat} {p : List Int → Bool} (hg : IsT g p) (r : List Int) (n : Nat) (hl : n * 4 ≤ r.length) (hn : n < 1000000) (own : Bool) :
    fnI pr np 59 [.c (.sl 0 0 n 4), .c (.fn g [])] [.cells (r.map (C.int .i64)) own] = some (.c (.bool ((tubesFrom r 0 n).all p)), [.cells (r.map (C.int .i64)) own]) := by
  have hc := fun base => callA_gen (F := fnI pr np) (f := 117) (args := [.c (.sl 0 0 n 4), .c (.fn 118 [(1, 0)])]) (H := lkp [.cells (r.map (C.int .i64)) own, .cells [.fn g []] true]) (L := [0, 1]) (by simp [reach, idsAt]) (by simp [closed, inL, idsAt]) (by simp [sub]) (by simp [pos]) (c_slices_ContainsFunc_4_int_4_int hg r n hl hn own) (by simp) base
  rw [fb (fn := a59) rfl rfl rfl]
  simp [a59, hc, cut_old', wfH]
def rackP (r : List Int) : Bool := (tubesFrom r 0 6).all tubeP
theorem c_impl_IsRack (r : List Int) (hr : r.length = 24) : fnI pr np 25 [.agg (r.map (C.int .i64))] [] = some (.c (.bool (rackP r)), []) := by
  have hc := fun base => callA_gen (F := fnI pr np) (f := 59) (args := [.c (.sl 0 0 6 4), .c (.fn 60 [])]) (H := lkp [.cells (r.map (C.int .i64)) true]) (L := [0]) (by simp [reach, idsAt]) (by simp [closed, inL, idsAt]) (by simp [sub]) (by simp [pos]) (c_impl_areAll_4_int (g := 60) (p := tubeP) c_impl_isTube r 6 (by omega) (by omega) true) (by simp) base
  rw [fb (fn := a25) rfl rfl rfl]
  simp [a25, hc, hr, rackP]
theorem c_impl_IsBar (r : List Int) (hr : r.length = 24) (m n : Int) : fnI pr np 19 [.agg (r.map (C.int .i64) ++ [.int .i64 m, .int .i64 n])] [] = some (.c (.bool (rackP r && (decide (0 ≤ m) && decide (m ≤ 9999)) && (decide (0 ≤ n) && decide (n ≤ 1000)))), []) := by
  have hc36 := callA_pure (c_impl_IsRack r hr) (by simp) (by simp)
  have hcm := callA_pure (c_impl_within m 0 9999) (by simp) (by simp)
  have hcn := callA_pure (c_impl_within n 0 1000) (by simp) (by simp)
  have h24 : (r.map (C.int .i64) ++ [C.int .i64 m, C.int .i64 n]).take 24 = r.map (C.int .i64) := by rw [List.take_append_of_le_length (by simp; omega), List.take_of_length_le (by simp; omega)]
  have h25 : (r.map (C.int .i64) ++ [C.int .i64 m, C.int .i64 n]).drop 24 = [C.int .i64 m, C.int .i64 n] := by rw [List.drop_append_of_le_length (by simp; omega), List.drop_of_length_le (by simp; omega)]; rfl
  have h26 : (r.map (C.int .i64) ++ [C.int .i64 m, C.int .i64 n]).drop 25 = [C.int .i64 n] := by rw [show 25 = 24 + 1 from rfl, ← List.drop_drop, h25]; rfl
  have hids : cids (r.map (C.int .i64) ++ [C.int .i64 m, C.int .i64 n]) = [] := by
    have : r.map (C.int .i64) ++ [C.int .i64 m, C.int .i64 n] = (r ++ [m, n]).map (C.int .i64) := by simp
    rw [this, cids_ints]
  rw [fb (fn := a19) rfl rfl rfl]
  by_cases h1 : rackP r = true <;> by_cases h2 : (decide (0 ≤ m) && decide (m ≤ 9999)) = true <;> (try simp only [Bool.not_eq_true] at h1 h2) <;> simp only [h1, h2] at hc36 hcm <;> simp [a19, hr, h24, h25, h26, hc36, hcm, hcn, h1, h2, -Bool.and_eq_true, -decide_eq_true_eq]
end Go.Proofs.YtgpafbbnobanbaaGreatDoor.AM

namespace Go.Proofs.YtgpafbbnobanbaaGreatDoor.AM
open Go
set_option maxRecDepth 100000
set_option linter.unusedSimpArgs false
/-- a cell of a rack that the reference refuses -/
def cellAt (r : List Int) (j : Nat) : Int := r.getD j 0
def badP (r : List Int) (i k : Nat) : Bool := !(decide (0 ≤ cellAt r (i * 4 + k)) && decide (cellAt r (i * 4 + k) ≤ 5)) || (decide (0 < k) && decide (0 < cellAt r (i * 4 + k)) && decide (cellAt r (i * 4 + (k - 1)) = 0))
def anyFrom (f : Nat → Bool) (k : Nat) : Nat → Bool
  | 0 => false
  | d + 1 => f k || anyFrom f (k + 1) d
def rowBad (r : List Int) (i : Nat) : Bool := anyFrom (badP r i) 0 4
set_option maxHeartbeats 1000000 in
theorem c_spec_l2Rack (r : List Int) (hr : r.length = 24) : fnI pr np 45 [.agg (r.map (C.int .i64))] [] = some (.c (.bool (!anyFrom (rowBad r) 0 6)), []) := by
  have hcell : ∀ j, j < 24 → ((r.map (C.int .i64)).drop j).take 1 = [C.int .i64 (cellAt r j)] := by
    intro j hj
    rw [List.drop_eq_getElem_cons (by simp; omega)]
    simp [cellAt, List.getD_eq_getElem?_getD, List.getElem?_eq_getElem (show j < r.length by omega)]
  rw [fb (fn := a45) rfl rfl rfl]
  simp [a45, hr]
  generalize hL1 : (ACode.loop _ [1, 3]) = L1
  generalize hR : (ACode.seq _ ACode.ret) = R
  have key : ∀ (d i : Nat), i + d = 6 → leaveK 0 [RV.t 2] (seqK pr np 0 R (blockK 0 (exI pr np 0 L1 [(1, V.c (C.ptr 0 0)), (3, V.c (C.int .i64 i))] [Blk.cells (r.map (C.int .i64)) true]))) = some (V.c (C.bool (!anyFrom (rowBad r) i d)), []) := by
    intro d
    induction d with
    | zero =>
      intro i hi
      have hi : i = 6 := by omega
      subst hi
      rw [← hL1, exI_loop', gcE_one (by simp) (by simp [envIds])]
      simp [anyFrom, ← hR, pos]
    | succ d ih =>
      intro i hin
      have hi : i < 6 := by omega
      have ih := ih (i + 1) (by omega)
      have hw : IntKind.i64.wrap ((i : Int) + 1) = ((i + 1 : Nat) : Int) := by rw [wrapI (by omega) (by omega)]; rfl
      have hi' : (i : Int) < 6 := by omega
      rw [← hL1, exI_loop', gcE_one (by simp) (by simp [envIds])]
      simp [pos, hi']
      generalize hL2 : (ACode.loop _ [1, 3, 4]) = L2
      have key2 : ∀ (d k : Nat), k + d = 4 → exI pr np 0 L2 [(1, V.c (C.ptr 0 0)), (3, V.c (C.int .i64 i)), (4, V.c (C.int .i64 k))] [Blk.cells (r.map (C.int .i64)) true] = if anyFrom (badP r i) k d = true then some (.ret, [(2, V.c (C.bool false))], [Blk.cells (r.map (C.int .i64)) true]) else some (.exit 2, [(1, V.c (C.ptr 0 0)), (3, V.c (C.int .i64 i)), (4, V.c (C.int .i64 4)), (10, V.c (C.bool false))], [Blk.cells (r.map (C.int .i64)) true]) := by
        intro d
        induction d with
        | zero =>
          intro k hk
          have hk : k = 4 := by omega
          subst hk
          rw [← hL2, exI_loop', gcE_one (by simp) (by simp [envIds])]
          simp [anyFrom, pos]
        | succ d ih2 =>
          intro k hk
          have ih2 := ih2 (k + 1) (by omega)
          have hwk : IntKind.i64.wrap ((k : Int) + 1) = ((k + 1 : Nat) : Int) := by rw [wrapI (by omega) (by omega)]; rfl
          have hk' : (k : Int) < 4 := by omega
          have hk4 : k < 4 := by omega
          have hc58 := callA_pure (c_spec_l1In (cellAt r (i * 4 + k)) 0 5) (by simp) (by simp)
          have hx := hcell (i * 4 + k) (by omega)
          have hlen : i * 4 + k + 1 ≤ 24 := by omega
          rw [← hL2, exI_loop', gcE_one (by simp) (by simp [envIds])]
          by_cases h1 : (decide (0 ≤ cellAt r (i * 4 + k)) && decide (cellAt r (i * 4 + k) ≤ 5)) = true
          · rw [h1] at hc58
            by_cases h2 : 0 < k
            · have h2' : (0 : Int) < (k : Int) := by omega
              have hwk1 : IntKind.i64.wrap ((k : Int) - 1) = ((k - 1 : Nat) : Int) := by rw [wrapI (by omega) (by omega)]; omega
              have hk1 : k - 1 < 4 := by omega
              have hk1' : ((k - 1 : Nat) : Int) < 4 := by omega
              have hy := hcell (i * 4 + (k - 1)) (by omega)
              have hlen1 : i * 4 + (k - 1) + 1 ≤ 24 := by omega
              by_cases h3 : 0 < cellAt r (i * 4 + k)
              · by_cases h4 : cellAt r (i * 4 + (k - 1)) = 0
                · simp [pos, hi', hk', hi, hk4, hr, hx, hlen, hc58, h2, h2', h3, h4, hwk1, hk1, hk1', hy, hlen1, hwk, anyFrom, badP]
                · have hb : badP r i k = false := by simp [badP, h4]; simpa using h1
                  simp [pos, hi', hk', hi, hk4, hr, hx, hlen, hc58, h2, h2', h3, h4, hwk1, hk1, hk1', hy, hlen1, hwk, anyFrom, hb]
                  rw [hL2]; exact ih2
              · have hb : badP r i k = false := by simp [badP, h3]; simpa using h1
                simp [pos, hi', hk', hi, hk4, hr, hx, hlen, hc58, h2, h2', h3, hwk, anyFrom, hb]
                rw [hL2]; exact ih2
            · have h2' : ¬ (0 : Int) < (k : Int) := by omega
              have hb : badP r i k = false := by simp [badP, h2]; simpa using h1
              simp [pos, hi', hk', hi, hk4, hr, hx, hlen, hc58, h2, h2', hwk, anyFrom, hb]
              rw [hL2]; exact ih2
          · have h1 : (decide (0 ≤ cellAt r (i * 4 + k)) && decide (cellAt r (i * 4 + k) ≤ 5)) = false := by simpa using h1
            rw [h1] at hc58
            have hb : badP r i k = true := by unfold badP; rw [h1]; rfl
            simp [pos, hi', hk', hi, hk4, hr, hx, hlen, hc58, anyFrom, hb]
      have k2 := key2 4 0 rfl
      push_cast at k2
      rw [show anyFrom (badP r i) 0 4 = rowBad r i from rfl] at k2
      rw [k2]
      by_cases hb : rowBad r i = true
      · simp [hb, anyFrom]
      · have hb : rowBad r i = false := by simpa using hb
        rw [hb]
        simp [hw]
        rw [← hL2, hL1]
        exact ih.trans (by simp [anyFrom, hb])
  exact key 6 0 rfl
theorem c_spec_l12Good (r : List Int) (hr : r.length = 24) (m n : Int) : fnI pr np 20 [.agg (r.map (C.int .i64) ++ [.int .i64 m, .int .i64 n])] [] = some (.c (.bool (!anyFrom (rowBad r) 0 6 && (decide (0 ≤ m) && decide (m ≤ 9999)) && (decide (0 ≤ n) && decide (n ≤ 1000)))), []) := by
  have hc38 := callA_pure (c_spec_l2Rack r hr) (by simp) (by simp)
  generalize (!anyFrom (rowBad r) 0 6) = rk at hc38 ⊢
  have hcm := callA_pure (c_spec_l1In m 0 9999) (by simp) (by simp)
  have hcn := callA_pure (c_spec_l1In n 0 1000) (by simp) (by simp)
  have h24 : (r.map (C.int .i64) ++ [C.int .i64 m, C.int .i64 n]).take 24 = r.map (C.int .i64) := by rw [List.take_append_of_le_length (by simp; omega), List.take_of_length_le (by simp; omega)]
  have h25 : (r.map (C.int .i64) ++ [C.int .i64 m, C.int .i64 n]).drop 24 = [C.int .i64 m, C.int .i64 n] := by rw [List.drop_append_of_le_length (by simp; omega), List.drop_of_length_le (by simp; omega)]; rfl
  have h26 : (r.map (C.int .i64) ++ [C.int .i64 m, C.int .i64 n]).drop 25 = [C.int .i64 n] := by rw [show 25 = 24 + 1 from rfl, ← List.drop_drop, h25]; rfl
  have hids : cids (r.map (C.int .i64) ++ [C.int .i64 m, C.int .i64 n]) = [] := by
    have : r.map (C.int .i64) ++ [C.int .i64 m, C.int .i64 n] = (r ++ [m, n]).map (C.int .i64) := by simp
    rw [this, cids_ints]
  rw [fb (fn := a20) rfl rfl rfl]
  by_cases h1 : rk = true <;> by_cases h2 : (decide (0 ≤ m) && decide (m ≤ 9999)) = true <;> (try simp only [Bool.not_eq_true] at h1 h2) <;> simp only [h1, h2] at hc38 hcm <;> simp [a20, hr, h24, h25, h26, hc38, hcm, hcn, h1, h2, -Bool.and_eq_true, -decide_eq_true_eq]
theorem c_spec_IsBar (r : List Int) (hr : r.length = 24) (m n : Int) : fnI pr np 7 [.agg (r.map (C.int .i64) ++ [.int .i64 m, .int .i64 n])] [] = some (.c (.bool (!anyFrom (rowBad r) 0 6 && (decide (0 ≤ m) && decide (m ≤ 9999)) && (decide (0 ≤ n) && decide (n ≤ 1000)))), []) := by
  have hids : cids (r.map (C.int .i64) ++ [C.int .i64 m, C.int .i64 n]) = [] := by
    have : r.map (C.int .i64) ++ [C.int .i64 m, C.int .i64 n] = (r ++ [m, n]).map (C.int .i64) := by simp
    rw [this, cids_ints]
  have hc35 := callA_pure (c_spec_l12Good r hr m n) (by simp [hids]) (by simp)
  have h26 : (r.map (C.int .i64) ++ [C.int .i64 m, C.int .i64 n]).take 26 = r.map (C.int .i64) ++ [C.int .i64 m, C.int .i64 n] := List.take_of_length_le (by simp; omega)
  generalize (!anyFrom (rowBad r) 0 6 && (decide (0 ≤ m) && decide (m ≤ 9999)) && (decide (0 ≤ n) && decide (n ≤ 1000))) = q at hc35 ⊢
  rw [fb (fn := a7) rfl rfl rfl]
  simp [a7, hr, h26, hc35]
theorem len24 {r : List Int} (h : r.length = 24) : ∃ a0 a1 a2 a3 a4 a5 a6 a7 a8 a9 a10 a11 a12 a13 a14 a15 a16 a17 a18 a19 a20 a21 a22 a23, r = [a0, a1, a2, a3, a4, a5, a6, a7, a8, a9, a10, a11, a12, a13, a14, a15, a16, a17, a18, a19, a20, a21, a22, a23] := by
  match r, h with
  | [a0, a1, a2, a3, a4, a5, a6, a7, a8, a9, a10, a11, a12, a13, a14, a15, a16, a17, a18, a19, a20, a21, a22, a23], _ => exact ⟨a0, a1, a2, a3, a4, a5, a6, a7, a8, a9, a10, a11, a12, a13, a14, a15, a16, a17, a18, a19, a20, a21, a22, a23, rfl⟩
theorem tube_eq (a b c d : Int) : tubeP [a, b, c, d] = !(!(decide (0 ≤ a) && decide (a ≤ 5)) || (!(decide (0 ≤ b) && decide (b ≤ 5)) || (decide (0 < b) && decide (a = 0))) || (!(decide (0 ≤ c) && decide (c ≤ 5)) || (decide (0 < c) && decide (b = 0))) || (!(decide (0 ≤ d) && decide (d ≤ 5)) || (decide (0 < d) && decide (c = 0)))) := by
  rw [Bool.eq_iff_iff]
  by_cases ha : a = 0 <;> by_cases hb : b = 0 <;> by_cases hc : c = 0 <;> by_cases hd : d = 0 <;> simp [tubeP, layN, colP, ha, hb, hc, hd] <;> omega
theorem rack_eq (r : List Int) (hr : r.length = 24) : rackP r = !anyFrom (rowBad r) 0 6 := by
  have key : ∀ a b c d : Int, tubeP [a, b, c, d] = !(!(decide (0 ≤ a) && decide (a ≤ 5)) || (!(decide (0 ≤ b) && decide (b ≤ 5)) || (decide (0 < b) && decide (a = 0))) || (!(decide (0 ≤ c) && decide (c ≤ 5)) || (decide (0 < c) && decide (b = 0))) || (!(decide (0 ≤ d) && decide (d ≤ 5)) || (decide (0 < d) && decide (c = 0)))) := tube_eq
  obtain ⟨a0, a1, a2, a3, a4, a5, a6, a7, a8, a9, a10, a11, a12, a13, a14, a15, a16, a17, a18, a19, a20, a21, a22, a23, rfl⟩ := len24 hr
  simp [rackP, tubesFrom, anyFrom, rowBad, badP, cellAt, key, -Bool.not_or, -Bool.not_and, -Bool.decide_and, -Bool.decide_or, Bool.or_assoc]
  simp only [Bool.not_or, Bool.and_assoc]
end Go.Proofs.YtgpafbbnobanbaaGreatDoor.AM

namespace Go.Proofs.YtgpafbbnobanbaaGreatDoor.AM
open Go
set_option maxRecDepth 100000
set_option linter.unusedSimpArgs false
def barC (r : List Int) (m n : Int) : List C := r.map (C.int .i64) ++ [.int .i64 m, .int .i64 n]
theorem barC_ids (r : List Int) (m n : Int) : cids (barC r m n) = [] := by
  have : barC r m n = (r ++ [m, n]).map (C.int .i64) := by simp [barC]
  rw [this, cids_ints]
end Go.Proofs.YtgpafbbnobanbaaGreatDoor.AM

namespace Go.Proofs.YtgpafbbnobanbaaGreatDoor.AM
open Go
set_option maxRecDepth 100000
set_option linter.unusedSimpArgs false
theorem barC_parts (r : List Int) (hr : r.length = 24) (m n : Int) : (barC r m n).length = 26 ∧ (barC r m n).take 24 = r.map (C.int .i64) ∧ (barC r m n).drop 24 = [C.int .i64 m, C.int .i64 n] ∧ (barC r m n).drop 25 = [C.int .i64 n] ∧ (barC r m n).take 26 = barC r m n := by
  refine ⟨by simp [barC, hr], ?_, ?_, ?_, List.take_of_length_le (by simp [barC, hr])⟩
  · unfold barC; rw [List.take_append_of_le_length (by simp; omega), List.take_of_length_le (by simp; omega)]
  · unfold barC; rw [List.drop_append_of_le_length (by simp; omega), List.drop_of_length_le (by simp; omega)]; rfl
  · have h25 : (barC r m n).drop 24 = [C.int .i64 m, C.int .i64 n] := by unfold barC; rw [List.drop_append_of_le_length (by simp; omega), List.drop_of_length_le (by simp; omega)]; rfl
    rw [show 25 = 24 + 1 from rfl, ← List.drop_drop, h25]; rfl
def okRack (r : List Int) : Bool := !anyFrom (rowBad r) 0 6
def newBar (r : List Int) : V := .tup [.agg (if okRack r then barC r 0 0 else List.replicate 26 (C.int .i64 0)), .c (.bool (okRack r))]
theorem c_spec_NewBar (r : List Int) (hr : r.length = 24) : fnI pr np 38 [.agg (r.map (C.int .i64))] [] = some (newBar r, []) := by
  have hc := callA_pure (c_spec_l2Rack r hr) (by simp) (by simp)
  rw [show (!anyFrom (rowBad r) 0 6) = okRack r from rfl] at hc
  obtain ⟨x0, x1, x2, x3, x4, x5, x6, x7, x8, x9, x10, x11, x12, x13, x14, x15, x16, x17, x18, x19, x20, x21, x22, x23, rfl⟩ := len24 hr
  unfold newBar
  generalize okRack [x0, x1, x2, x3, x4, x5, x6, x7, x8, x9, x10, x11, x12, x13, x14, x15, x16, x17, x18, x19, x20, x21, x22, x23] = q at hc ⊢
  simp only [List.map_cons, List.map_nil] at hc
  rw [fb (fn := a38) rfl rfl rfl]
  cases q <;> simp [a38, hc, barC]
end Go.Proofs.YtgpafbbnobanbaaGreatDoor.AM

namespace Go.Proofs.YtgpafbbnobanbaaGreatDoor.AM
open Go
set_option maxRecDepth 100000
set_option linter.unusedSimpArgs false
set_option linter.unusedVariables false
theorem setAt_all (cs xs : List C) (h : (xs.length == cs.length) = true) : setAt cs 0 xs = xs := by
  have h : xs.length = cs.length := by simpa using h
  apply List.ext_getElem?
  intro j
  rw [setAt_get xs cs 0 j (by omega)]
  by_cases hj : j < xs.length
  · rw [if_pos (by omega)]; rfl
  · rw [if_neg (by omega), List.getElem?_eq_none (by omega), List.getElem?_eq_none (by omega)]
theorem noDead_bar (r : List Int) (m n : Int) : noDead (barC r m n) = true := by
  have : barC r m n = (r ++ [m, n]).map (C.int .i64) := by simp [barC]
  rw [this, noDead_ints]
/-- a console's cells -/
def conC (r : List Int) (m n : Int) : List C := barC r m n ++ [.str [], .str [], .int .i64 0]
theorem conC_ids (r : List Int) (m n : Int) : cids (conC r m n) = [] := by
  have : ∀ (a b : List C), cids (a ++ b) = cids a ++ cids b := by
    intro a b
    induction a with
    | nil => rfl
    | cons c a ih => simp [cids, ih]
  unfold conC
  rw [this, barC_ids]
  rfl
theorem noDead_app : ∀ (a b : List C), noDead a = true → noDead b = true → noDead (a ++ b) = true
  | [], _, _, h => h
  | c :: a, b, h, h2 => by cases c <;> simp_all [noDead, noDead_app a b]
theorem conC_parts (r : List Int) (hr : r.length = 24) (m n : Int) : (conC r m n).length = 29 ∧ (conC r m n).take 26 = barC r m n ∧ (conC r m n).drop 26 = [C.str [], C.str [], C.int .i64 0] ∧ (conC r m n).take 29 = conC r m n ∧ noDead (conC r m n) = true := by
  have hl : (barC r m n).length = 26 := by simp [barC, hr]
  refine ⟨by simp [conC, hl], ?_, ?_, List.take_of_length_le (by simp [conC, hl]), noDead_app _ _ (noDead_bar r m n) rfl⟩
  · unfold conC; rw [List.take_append_of_le_length (by omega), List.take_of_length_le (by omega)]
  · unfold conC; rw [List.drop_append_of_le_length (by omega), List.drop_of_length_le (by omega)]; rfl
def okBar (r : List Int) (m n : Int) : Bool := okRack r && (decide (0 ≤ m) && decide (m ≤ 9999)) && (decide (0 ≤ n) && decide (n ≤ 1000))
def newCon (r : List Int) (m n : Int) : V := .tup [.agg (if okBar r m n then conC r m n else conC (List.replicate 24 0) 0 0), .c (.bool (okBar r m n))]
theorem c_impl_NewConsole (r : List Int) (hr : r.length = 24) (m n : Int) : fnI pr np 6 [.agg (barC r m n)] [] = some (newCon r m n, []) := by
  have h12 := c_impl_IsBar r hr m n
  rw [rack_eq r hr, show (!anyFrom (rowBad r) 0 6 && (decide (0 ≤ m) && decide (m ≤ 9999)) && (decide (0 ≤ n) && decide (n ≤ 1000))) = okBar r m n from rfl, show r.map (C.int .i64) ++ [C.int .i64 m, C.int .i64 n] = barC r m n from rfl] at h12
  have hc := callA_pure h12 (by simp [barC_ids]) (by simp)
  unfold newCon
  generalize okBar r m n = q at hc ⊢
  obtain ⟨x0, x1, x2, x3, x4, x5, x6, x7, x8, x9, x10, x11, x12, x13, x14, x15, x16, x17, x18, x19, x20, x21, x22, x23, rfl⟩ := len24 hr
  simp only [barC, List.map_cons, List.map_nil, List.cons_append, List.nil_append] at hc
  rw [fb (fn := a6) rfl rfl rfl]
  cases q <;> simp [a6, hc, barC, conC]
end Go.Proofs.YtgpafbbnobanbaaGreatDoor.AM
namespace Go.Proofs.YtgpafbbnobanbaaGreatDoor.AM
open Go
set_option maxRecDepth 1000000
set_option linter.unusedSimpArgs false
set_option linter.unusedVariables false
/-- the runs of a tube: colors and how many -/
def runsOf : List Int → List (Int × Int)
  | [] => []
  | x :: r => if x = 0 then [] else match runsOf r with
    | [] => [(x, 1)]
    | (y, n) :: l => if x = y then (y, n + 1) :: l else (x, 1) :: (y, n) :: l
def runsC (t : List Int) : List C := (runsOf t).flatMap fun p => [C.int .i64 p.1, C.int .i64 p.2]
def runsV (t : List Int) : V × Heap := (.c (.sl 0 0 (runsOf t).length 2), [.cells (runsC t) true])
def pos1 (a : Int) : Int := if 0 < a then 1 else 0
theorem c_spec_l2Many (a b c d : Int) : fnI pr np 179 [.agg [.int .i64 a, .int .i64 b, .int .i64 c, .int .i64 d]] [] = some (.c (.int .i64 (pos1 a + pos1 b + pos1 c + pos1 d)), []) := by
  rw [fb (fn := a179) rfl rfl rfl]
  by_cases ha : 0 < a <;> by_cases hb : 0 < b <;> by_cases hc : 0 < c <;> by_cases hd : 0 < d <;> simp [a179, exI_loop', gcE_one, envIds, pos, IntKind.wrap, IntKind.bits, IntKind.signed, ha, hb, hc, hd, pos1]

end Go.Proofs.YtgpafbbnobanbaaGreatDoor.AM

namespace Go.Proofs.YtgpafbbnobanbaaGreatDoor.AM
open Go
set_option maxRecDepth 1000000
set_option linter.unusedSimpArgs false
set_option linter.unusedVariables false
set_option maxHeartbeats 4000000 in
theorem r_impl_runs_0   : fnI pr np 126 [.agg [.int .i64 0, .int .i64 0, .int .i64 0, .int .i64 0]] [] = some (runsV [0, 0, 0, 0]) := by
  have hcall := callA_pure (c_impl_layers [0, 0, 0, 0] rfl) (by simp) (by simp)
  have hl : lay [0, 0, 0, 0] = 0 := by simp [lay, firstNot]
  rw [hl] at hcall
  simp only [List.map_cons, List.map_nil] at hcall
  rw [fb (fn := a126) rfl rfl rfl]
  simp [a126, exI_loop', gcE, gcL, upto, reach, idsAt, closed, inL, sub, envIds, pos, cut, IntKind.wrap, IntKind.bits, IntKind.signed, runsV, runsOf, runsC, HOp.ev, appSrc, maxRoom, stillA, hcall]
set_option maxHeartbeats 4000000 in
theorem r_impl_runs_1 (a : Int) (ha : 0 < a) : fnI pr np 126 [.agg [.int .i64 a, .int .i64 0, .int .i64 0, .int .i64 0]] [] = some (runsV [a, 0, 0, 0]) := by
  have ha0 : ¬ a = 0 := by omega
  have ha1 : ¬ 0 = a := by omega
  have hcall := callA_pure (c_impl_layers [a, 0, 0, 0] rfl) (by simp) (by simp)
  have hl : lay [a, 0, 0, 0] = 1 := by simp [lay, firstNot, ha0, ha1]
  rw [hl] at hcall
  simp only [List.map_cons, List.map_nil] at hcall
  rw [fb (fn := a126) rfl rfl rfl]
  simp [a126, exI_loop', gcE, gcL, upto, reach, idsAt, closed, inL, sub, envIds, pos, cut, IntKind.wrap, IntKind.bits, IntKind.signed, runsV, runsOf, runsC, HOp.ev, appSrc, maxRoom, stillA, hcall, ha, ha0, ha1]
set_option maxHeartbeats 4000000 in
theorem r_impl_runs_2 (a b : Int) (ha : 0 < a) (hb : 0 < b) : fnI pr np 126 [.agg [.int .i64 a, .int .i64 b, .int .i64 0, .int .i64 0]] [] = some (runsV [a, b, 0, 0]) := by
  have ha0 : ¬ a = 0 := by omega
  have ha1 : ¬ 0 = a := by omega
  have hb0 : ¬ b = 0 := by omega
  have hb1 : ¬ 0 = b := by omega
  have hcall := callA_pure (c_impl_layers [a, b, 0, 0] rfl) (by simp) (by simp)
  have hl : lay [a, b, 0, 0] = 2 := by simp [lay, firstNot, ha0, ha1, hb0, hb1]
  rw [hl] at hcall
  simp only [List.map_cons, List.map_nil] at hcall
  rw [fb (fn := a126) rfl rfl rfl]
  by_cases e0 : a = b
  · subst e0
    simp [a126, exI_loop', gcE, gcL, upto, reach, idsAt, closed, inL, sub, envIds, pos, cut, IntKind.wrap, IntKind.bits, IntKind.signed, runsV, runsOf, runsC, HOp.ev, appSrc, maxRoom, stillA, hcall, ha, ha0, ha1, hb, hb0, hb1]
  · have e0' : ¬ b = a := fun e => e0 e.symm
    simp [a126, exI_loop', gcE, gcL, upto, reach, idsAt, closed, inL, sub, envIds, pos, cut, IntKind.wrap, IntKind.bits, IntKind.signed, runsV, runsOf, runsC, HOp.ev, appSrc, maxRoom, stillA, hcall, ha, ha0, ha1, hb, hb0, hb1, e0, e0']
set_option maxHeartbeats 4000000 in
theorem r_impl_runs_3 (a b c : Int) (ha : 0 < a) (hb : 0 < b) (hc : 0 < c) : fnI pr np 126 [.agg [.int .i64 a, .int .i64 b, .int .i64 c, .int .i64 0]] [] = some (runsV [a, b, c, 0]) := by
  have ha0 : ¬ a = 0 := by omega
  have ha1 : ¬ 0 = a := by omega
  have hb0 : ¬ b = 0 := by omega
  have hb1 : ¬ 0 = b := by omega
  have hc0 : ¬ c = 0 := by omega
  have hc1 : ¬ 0 = c := by omega
  have hcall := callA_pure (c_impl_layers [a, b, c, 0] rfl) (by simp) (by simp)
  have hl : lay [a, b, c, 0] = 3 := by simp [lay, firstNot, ha0, ha1, hb0, hb1, hc0, hc1]
  rw [hl] at hcall
  simp only [List.map_cons, List.map_nil] at hcall
  rw [fb (fn := a126) rfl rfl rfl]
  by_cases e0 : a = b
  · subst e0
    by_cases e1 : a = c
    · subst e1
      simp [a126, exI_loop', gcE, gcL, upto, reach, idsAt, closed, inL, sub, envIds, pos, cut, IntKind.wrap, IntKind.bits, IntKind.signed, runsV, runsOf, runsC, HOp.ev, appSrc, maxRoom, stillA, hcall, ha, ha0, ha1, hb, hb0, hb1, hc, hc0, hc1]
    · have e1' : ¬ c = a := fun e => e1 e.symm
      simp [a126, exI_loop', gcE, gcL, upto, reach, idsAt, closed, inL, sub, envIds, pos, cut, IntKind.wrap, IntKind.bits, IntKind.signed, runsV, runsOf, runsC, HOp.ev, appSrc, maxRoom, stillA, hcall, ha, ha0, ha1, hb, hb0, hb1, hc, hc0, hc1, e1, e1']
  · have e0' : ¬ b = a := fun e => e0 e.symm
    by_cases e1 : b = c
    · subst e1
      simp [a126, exI_loop', gcE, gcL, upto, reach, idsAt, closed, inL, sub, envIds, pos, cut, IntKind.wrap, IntKind.bits, IntKind.signed, runsV, runsOf, runsC, HOp.ev, appSrc, maxRoom, stillA, hcall, ha, ha0, ha1, hb, hb0, hb1, hc, hc0, hc1, e0, e0']
    · have e1' : ¬ c = b := fun e => e1 e.symm
      simp [a126, exI_loop', gcE, gcL, upto, reach, idsAt, closed, inL, sub, envIds, pos, cut, IntKind.wrap, IntKind.bits, IntKind.signed, runsV, runsOf, runsC, HOp.ev, appSrc, maxRoom, stillA, hcall, ha, ha0, ha1, hb, hb0, hb1, hc, hc0, hc1, e0, e0', e1, e1']
set_option maxHeartbeats 4000000 in
theorem r_impl_runs_4 (a b c d : Int) (ha : 0 < a) (hb : 0 < b) (hc : 0 < c) (hd : 0 < d) : fnI pr np 126 [.agg [.int .i64 a, .int .i64 b, .int .i64 c, .int .i64 d]] [] = some (runsV [a, b, c, d]) := by
  have ha0 : ¬ a = 0 := by omega
  have ha1 : ¬ 0 = a := by omega
  have hb0 : ¬ b = 0 := by omega
  have hb1 : ¬ 0 = b := by omega
  have hc0 : ¬ c = 0 := by omega
  have hc1 : ¬ 0 = c := by omega
  have hd0 : ¬ d = 0 := by omega
  have hd1 : ¬ 0 = d := by omega
  have hcall := callA_pure (c_impl_layers [a, b, c, d] rfl) (by simp) (by simp)
  have hl : lay [a, b, c, d] = 4 := by simp [lay, firstNot, ha0, ha1, hb0, hb1, hc0, hc1, hd0, hd1]
  rw [hl] at hcall
  simp only [List.map_cons, List.map_nil] at hcall
  rw [fb (fn := a126) rfl rfl rfl]
  by_cases e0 : a = b
  · subst e0
    by_cases e1 : a = c
    · subst e1
      by_cases e2 : a = d
      · subst e2
        simp [a126, exI_loop', gcE, gcL, upto, reach, idsAt, closed, inL, sub, envIds, pos, cut, IntKind.wrap, IntKind.bits, IntKind.signed, runsV, runsOf, runsC, HOp.ev, appSrc, maxRoom, stillA, hcall, ha, ha0, ha1, hb, hb0, hb1, hc, hc0, hc1, hd, hd0, hd1]
      · have e2' : ¬ d = a := fun e => e2 e.symm
        simp [a126, exI_loop', gcE, gcL, upto, reach, idsAt, closed, inL, sub, envIds, pos, cut, IntKind.wrap, IntKind.bits, IntKind.signed, runsV, runsOf, runsC, HOp.ev, appSrc, maxRoom, stillA, hcall, ha, ha0, ha1, hb, hb0, hb1, hc, hc0, hc1, hd, hd0, hd1, e2, e2']
    · have e1' : ¬ c = a := fun e => e1 e.symm
      by_cases e2 : c = d
      · subst e2
        simp [a126, exI_loop', gcE, gcL, upto, reach, idsAt, closed, inL, sub, envIds, pos, cut, IntKind.wrap, IntKind.bits, IntKind.signed, runsV, runsOf, runsC, HOp.ev, appSrc, maxRoom, stillA, hcall, ha, ha0, ha1, hb, hb0, hb1, hc, hc0, hc1, hd, hd0, hd1, e1, e1']
      · have e2' : ¬ d = c := fun e => e2 e.symm
        simp [a126, exI_loop', gcE, gcL, upto, reach, idsAt, closed, inL, sub, envIds, pos, cut, IntKind.wrap, IntKind.bits, IntKind.signed, runsV, runsOf, runsC, HOp.ev, appSrc, maxRoom, stillA, hcall, ha, ha0, ha1, hb, hb0, hb1, hc, hc0, hc1, hd, hd0, hd1, e1, e1', e2, e2']
  · have e0' : ¬ b = a := fun e => e0 e.symm
    by_cases e1 : b = c
    · subst e1
      by_cases e2 : b = d
      · subst e2
        simp [a126, exI_loop', gcE, gcL, upto, reach, idsAt, closed, inL, sub, envIds, pos, cut, IntKind.wrap, IntKind.bits, IntKind.signed, runsV, runsOf, runsC, HOp.ev, appSrc, maxRoom, stillA, hcall, ha, ha0, ha1, hb, hb0, hb1, hc, hc0, hc1, hd, hd0, hd1, e0, e0']
      · have e2' : ¬ d = b := fun e => e2 e.symm
        simp [a126, exI_loop', gcE, gcL, upto, reach, idsAt, closed, inL, sub, envIds, pos, cut, IntKind.wrap, IntKind.bits, IntKind.signed, runsV, runsOf, runsC, HOp.ev, appSrc, maxRoom, stillA, hcall, ha, ha0, ha1, hb, hb0, hb1, hc, hc0, hc1, hd, hd0, hd1, e0, e0', e2, e2']
    · have e1' : ¬ c = b := fun e => e1 e.symm
      by_cases e2 : c = d
      · subst e2
        simp [a126, exI_loop', gcE, gcL, upto, reach, idsAt, closed, inL, sub, envIds, pos, cut, IntKind.wrap, IntKind.bits, IntKind.signed, runsV, runsOf, runsC, HOp.ev, appSrc, maxRoom, stillA, hcall, ha, ha0, ha1, hb, hb0, hb1, hc, hc0, hc1, hd, hd0, hd1, e0, e0', e1, e1']
      · have e2' : ¬ d = c := fun e => e2 e.symm
        simp [a126, exI_loop', gcE, gcL, upto, reach, idsAt, closed, inL, sub, envIds, pos, cut, IntKind.wrap, IntKind.bits, IntKind.signed, runsV, runsOf, runsC, HOp.ev, appSrc, maxRoom, stillA, hcall, ha, ha0, ha1, hb, hb0, hb1, hc, hc0, hc1, hd, hd0, hd1, e0, e0', e1, e1', e2, e2']
end Go.Proofs.YtgpafbbnobanbaaGreatDoor.AM

namespace Go.Proofs.YtgpafbbnobanbaaGreatDoor.AM
open Go
set_option maxRecDepth 1000000
set_option linter.unusedSimpArgs false
set_option linter.unusedVariables false
theorem runs_i (t : List Int) (ht : t.length = 4) (h : tubeP t = true) : fnI pr np 126 [.agg (t.map (C.int .i64))] [] = some (runsV t) := by
  obtain ⟨a, b, c, d, rfl⟩ := len4 ht
  rw [tube_eq] at h
  simp at h
  by_cases ha : 0 < a
  · by_cases hb : 0 < b
    · by_cases hc : 0 < c
      · by_cases hd : 0 < d
        · exact r_impl_runs_4 a b c d ha hb hc hd
        · have : d = 0 := by omega
          subst this
          exact r_impl_runs_3 a b c ha hb hc
      · have h1 : c = 0 := by omega
        have h2 : d = 0 := by omega
        subst h1; subst h2
        exact r_impl_runs_2 a b ha hb
    · have h0 : b = 0 := by omega
      have h1 : c = 0 := by omega
      have h2 : d = 0 := by omega
      subst h0; subst h1; subst h2
      exact r_impl_runs_1 a ha
  · have h3 : a = 0 := by omega
    have h0 : b = 0 := by omega
    have h1 : c = 0 := by omega
    have h2 : d = 0 := by omega
    subst h3; subst h0; subst h1; subst h2
    exact r_impl_runs_0
theorem runsOf_len : ∀ t : List Int, (runsOf t).length ≤ t.length
  | [] => Nat.le_refl _
  | x :: r => by
    have := runsOf_len r
    unfold runsOf
    split
    · simp
    · split
      · simp
      · rename_i y n l hl
        rw [hl] at this
        split
        · simp at this ⊢; omega
        · simp at this ⊢; omega
def tubeAt (r : List Int) (i : Nat) : List Int := (r.drop (i * 4)).take 4
theorem tubeAt_len {r : List Int} (hr : r.length = 24) {i : Nat} (hi : i < 6) : (tubeAt r i).length = 4 := by
  unfold tubeAt; simp; omega
theorem tubesFrom_mem (r : List Int) : ∀ (d i j : Nat), i ≤ j → j < i + d → tubeAt r j ∈ tubesFrom r i d
  | 0, i, j, h1, h2 => by omega
  | d + 1, i, j, h1, h2 => by
    unfold tubesFrom
    by_cases hij : j = i
    · subst hij; exact List.mem_cons_self
    · exact List.mem_cons_of_mem _ (tubesFrom_mem r d (i + 1) j (by omega) (by omega))
theorem rackP_tube {r : List Int} (h : rackP r = true) {i : Nat} (hi : i < 6) : tubeP (tubeAt r i) = true :=
  List.all_eq_true.1 h _ (tubesFrom_mem r 6 0 i (Nat.zero_le _) (by omega))
/-- how many runs the tubes from i on have -/
def runsFrom (r : List Int) (i : Nat) : Nat → Nat
  | 0 => 0
  | d + 1 => (runsOf (tubeAt r i)).length + runsFrom r (i + 1) d
theorem c_impl_countRuns (r : List Int) (hr : r.length = 24) (hv : rackP r = true) : fnI pr np 81 [.agg (r.map (C.int .i64))] [] = some (.c (.int .i64 (runsFrom r 0 6)), []) := by
  have h24 : (r.map (C.int .i64)).take 24 = r.map (C.int .i64) := List.take_of_length_le (by simp; omega)
  rw [fb (fn := a81) rfl rfl rfl]
  simp [a81, hr, h24]
  generalize hL : (ACode.loop _ _) = L
  generalize hR : (ACode.seq _ ACode.ret) = R
  have key : ∀ (d i A : Nat) (g : Heap), i + d = 6 → A ≤ 4 * i → leaveK 0 [RV.t 2] (seqK pr np 0 R (blockK 0 (exI pr np 0 L [(3, V.c (C.int .i64 A)), (7, V.agg (r.map (C.int .i64))), (8, V.c (C.int .i64 i))] g))) = some (V.c (C.int .i64 ((A + runsFrom r i d : Nat) : Int)), []) := by
    intro d
    induction d with
    | zero =>
      intro i A g hi hA
      have hi : i = 6 := by omega
      subst hi
      rw [← hL, exI_loop', gcE_old' (by simp) (by simp) (by simp [wfH])]
      simp [runsFrom, ← hR]
    | succ d ih =>
      intro i A g hin hA
      have hi : i < 6 := by omega
      have hi' : (i : Int) < 6 := by omega
      have ht4 := tubeAt_len hr hi
      have hlen : i * 4 + 4 ≤ 24 := by omega
      have hrl := runsOf_len (tubeAt r i)
      obtain ⟨a, b, c, e, ht⟩ := len4 ht4
      have hcall := callA_new (runs_i _ ht4 (rackP_tube hv hi)) (by simp)
      have hm : ((r.map (C.int .i64)).drop (i * 4)).take 4 = [C.int .i64 a, C.int .i64 b, C.int .i64 c, C.int .i64 e] := by
        have : ((r.map (C.int .i64)).drop (i * 4)).take 4 = (tubeAt r i).map (C.int .i64) := by simp [tubeAt]
        rw [this, ht]; rfl
      rw [ht] at hcall
      simp only [List.map_cons, List.map_nil] at hcall
      have hw : IntKind.i64.wrap ((i : Int) + 1) = ((i + 1 : Nat) : Int) := by rw [wrapI (by omega) (by omega)]; rfl
      have hw2 : IntKind.i64.wrap ((A : Int) + ((runsOf [a, b, c, e]).length : Int)) = ((A + (runsOf (tubeAt r i)).length : Nat) : Int) := by rw [← ht, wrapI (by omega) (by omega)]; simp
      have ih := fun g => ih (i + 1) (A + (runsOf (tubeAt r i)).length) g (by omega) (by omega)
      rw [← hL, exI_loop', gcE_old' (by simp) (by simp) (by simp [wfH])]
      simp [hi, hi', hr, hlen, hm, hcall, hw, hw2, runsV, back]
      rw [hL]
      refine (ih _).trans ?_
      simp [runsFrom, Nat.add_assoc]
  exact (key 6 0 0 _ rfl (by omega)).trans (by simp)
end Go.Proofs.YtgpafbbnobanbaaGreatDoor.AM

namespace Go.Proofs.YtgpafbbnobanbaaGreatDoor.AM
open Go
set_option maxRecDepth 1000000
set_option linter.unusedSimpArgs false
set_option linter.unusedVariables false
theorem tubeP_range {a b c d : Int} (h : tubeP [a, b, c, d] = true) : (0 ≤ a ∧ a ≤ 5) ∧ (0 ≤ b ∧ b ≤ 5) ∧ (0 ≤ c ∧ c ≤ 5) ∧ (0 ≤ d ∧ d ≤ 5) := by
  rw [tube_eq] at h
  simp at h
  omega
def bump (c : List Int) (x : Int) : List Int := c.set x.toNat (c.getD x.toNat 0 + 1)
def bumps (r : List Int) (c : List Int) (j : Nat) : Nat → List Int
  | 0 => c
  | d + 1 => bumps r (bump c (cellAt r j)) (j + 1) d
def small (c : List Int) (n : Int) : Prop := c.length = 6 ∧ ∀ x ∈ c, 0 ≤ x ∧ x ≤ n
theorem small_bump {c : List Int} {n x : Int} (h : small c n) : small (bump c x) (n + 1) := by
  refine ⟨by simp [bump, h.1], fun y hy => ?_⟩
  unfold bump at hy
  rcases List.mem_or_eq_of_mem_set hy with hy | rfl
  · have := h.2 y hy; omega
  · rw [List.getD_eq_getElem?_getD]
    by_cases hx : x.toNat < c.length
    · rw [List.getElem?_eq_getElem hx]
      have := h.2 _ (List.getElem_mem hx)
      simp only [Option.getD_some]; omega
    · rw [List.getElem?_eq_none (by omega)]
      have h0 : 0 ≤ n := by
        have h6 := h.1
        match c, h6 with
        | y :: _, _ => have := h.2 y (by simp); omega
      simp; omega
theorem bumps_add (r : List Int) : ∀ (a : Nat) (c : List Int) (j b : Nat), bumps r c j (a + b) = bumps r (bumps r c j a) (j + a) b
  | 0, c, j, b => by simp [bumps]
  | a + 1, c, j, b => by
    rw [show a + 1 + b = (a + b) + 1 by omega]
    simp only [bumps]
    rw [bumps_add r a, show j + 1 + a = j + (a + 1) by omega]
theorem small_bumps (r : List Int) : ∀ (d : Nat) (c : List Int) (j : Nat) (n : Int), small c n → small (bumps r c j d) (n + d)
  | 0, c, j, n, h => by simpa [bumps] using h
  | d + 1, c, j, n, h => by
    have := small_bumps r d (bump c (cellAt r j)) (j + 1) (n + 1) (small_bump h)
    simp only [bumps]
    rw [show n + ((d + 1 : Nat) : Int) = n + 1 + d by omega]
    exact this
theorem zeros6 : small [0, 0, 0, 0, 0, 0] 0 := ⟨rfl, by simp⟩
/-- the cells of a valid rack are colors or empty -/
theorem rack_cell {r : List Int} (hr : r.length = 24) (hv : rackP r = true) {i k : Nat} (hi : i < 6) (hk : k < 4) : 0 ≤ cellAt r (i * 4 + k) ∧ cellAt r (i * 4 + k) ≤ 5 := by
  have h := rackP_tube hv hi
  obtain ⟨a, b, c, d, ht⟩ := len4 (tubeAt_len hr hi)
  have hcell : (tubeAt r i)[k]? = some (cellAt r (i * 4 + k)) := by
    unfold tubeAt cellAt
    rw [List.getElem?_take, if_pos hk, List.getElem?_drop, List.getD_eq_getElem?_getD, List.getElem?_eq_getElem (show i * 4 + k < r.length by omega)]
    rfl
  rw [ht] at h hcell
  obtain ⟨h1, h2, h3, h4⟩ := tubeP_range h
  match k, hk with
  | 0, _ =>
    have : a = cellAt r (i * 4 + 0) := Option.some.inj hcell
    omega
  | 1, _ =>
    have : b = cellAt r (i * 4 + 1) := Option.some.inj hcell
    omega
  | 2, _ =>
    have : c = cellAt r (i * 4 + 2) := Option.some.inj hcell
    omega
  | 3, _ =>
    have : d = cellAt r (i * 4 + 3) := Option.some.inj hcell
    omega
theorem take1 {c : List Int} {j : Nat} (hj : j < c.length) : ((c.map (C.int .i64)).drop j).take 1 = [C.int .i64 (c.getD j 0)] := by
  rw [List.drop_eq_getElem_cons (by simp; omega)]
  simp [List.getD_eq_getElem?_getD, List.getElem?_eq_getElem hj]
theorem setAt_one (c : List Int) (j : Nat) (y : Int) : setAt (c.map (C.int .i64)) j [C.int .i64 y] = (c.set j y).map (C.int .i64) := by
  simp [setAt, List.map_set]
end Go.Proofs.YtgpafbbnobanbaaGreatDoor.AM

namespace Go.Proofs.YtgpafbbnobanbaaGreatDoor.AM
open Go
set_option maxRecDepth 1000000
set_option linter.unusedSimpArgs false
set_option linter.unusedVariables false
theorem tubeAt_cell {r : List Int} (hr : r.length = 24) {i k : Nat} (hi : i < 6) (hk : k < 4) : (tubeAt r i).getD k 0 = cellAt r (i * 4 + k) := by
  unfold tubeAt cellAt
  rw [List.getD_eq_getElem?_getD, List.getD_eq_getElem?_getD, List.getElem?_take, if_pos hk, List.getElem?_drop]
theorem c_impl_countColors (r : List Int) (hr : r.length = 24) (hv : rackP r = true) : fnI pr np 74 [.agg (r.map (C.int .i64))] [] = some (.agg ((bumps r [0, 0, 0, 0, 0, 0] 0 24).map (C.int .i64)), []) := by
  have hgc : ∀ (live : List Nat) (e : Env) (c : List Int) (g : Heap), envIds (restrict e live) = [0, 1] → gcE 0 live e (Blk.cells [C.int .i64 0, C.int .i64 0, C.int .i64 0, C.int .i64 0, C.int .i64 0, C.int .i64 0] true :: Blk.cells (c.map (C.int .i64)) true :: g) = some ((restrict e live).map (fun p => (p.1, p.2.mp (pos [0, 1]))), [Blk.cells [C.int .i64 0, C.int .i64 0, C.int .i64 0, C.int .i64 0, C.int .i64 0, C.int .i64 0] true, Blk.cells (c.map (C.int .i64)) true]) := by
    intro live e c g he
    rw [gcE_told (L := [0, 1]) (by rw [he]; simp [gcL, upto, reach, idsAt]) (by rw [he]; simp [closed, inL, idsAt])]
    simp [sub]
  have h24 : (r.map (C.int .i64)).take 24 = r.map (C.int .i64) := List.take_of_length_le (by simp; omega)
  rw [fb (fn := a74) rfl rfl rfl]
  simp [a74, hr, h24]
  generalize hL1 : (ACode.loop _ [2, 3, 9, 10]) = L1
  generalize hR : (ACode.seq _ ACode.ret) = R
  have key : ∀ (d i : Nat) (c : List Int) (e : Env) (h : Heap), i + d = 6 → small c (4 * i) → gcE 0 [2, 3, 9, 10] e h = some ([(2, V.c (C.ptr 0 0)), (3, V.c (C.ptr 1 0)), (9, V.agg (r.map (C.int .i64))), (10, V.c (C.int .i64 i))], [Blk.cells [C.int .i64 0, C.int .i64 0, C.int .i64 0, C.int .i64 0, C.int .i64 0, C.int .i64 0] true, Blk.cells (c.map (C.int .i64)) true]) → leaveK 0 [RV.cell 2 6 true] (seqK pr np 0 R (blockK 0 (exI pr np 0 L1 e h))) = some (V.agg ((bumps r c (i * 4) (d * 4)).map (C.int .i64)), []) := by
    intro d
    induction d with
    | zero =>
      intro i c e h hi hc hg
      have hi : i = 6 := by omega
      subst hi
      have hc6 : c.length = 6 := hc.1
      have ht6 : (c.map (C.int .i64)).take 6 = c.map (C.int .i64) := List.take_of_length_le (by simp; omega)
      have hsa : setAt [C.int .i64 0, C.int .i64 0, C.int .i64 0, C.int .i64 0, C.int .i64 0, C.int .i64 0] 0 (c.map (C.int .i64)) = c.map (C.int .i64) := setAt_all _ _ (by simp [hc6])
      rw [← hL1, exI_loop', hg]
      simp [bumps, ← hR, hc6, ht6, hsa]
    | succ d ih =>
      intro i c e h hin hc hg
      have hi : i < 6 := by omega
      have hi' : (i : Int) < 6 := by omega
      have hw : IntKind.i64.wrap ((i : Int) + 1) = ((i + 1 : Nat) : Int) := by rw [wrapI (by omega) (by omega)]; rfl
      have ht4 := tubeAt_len hr hi
      have hm : ((r.map (C.int .i64)).drop (i * 4)).take 4 = (tubeAt r i).map (C.int .i64) := by simp [tubeAt]
      have hsa : setAt [C.int .i64 0, C.int .i64 0, C.int .i64 0, C.int .i64 0] 0 ((tubeAt r i).map (C.int .i64)) = (tubeAt r i).map (C.int .i64) := setAt_all _ _ (by simp [ht4])
      have htt : ((tubeAt r i).map (C.int .i64)).take 4 = (tubeAt r i).map (C.int .i64) := List.take_of_length_le (by simp; omega)
      rw [← hL1, exI_loop', hg]
      simp [hi', hi, hr, hm, ht4, hsa, htt]
      generalize hL2 : (ACode.loop _ [2, 3, 9, 10, 13, 14]) = L2
      have key2 : ∀ (d k : Nat) (c : List Int) (g : Heap), k + d = 4 → small c (4 * i + k) → exI pr np 0 L2 [(2, V.c (C.ptr 0 0)), (3, V.c (C.ptr 1 0)), (9, V.agg (r.map (C.int .i64))), (10, V.c (C.int .i64 i)), (13, V.agg ((tubeAt r i).map (C.int .i64))), (14, V.c (C.int .i64 k))] (Blk.cells [C.int .i64 0, C.int .i64 0, C.int .i64 0, C.int .i64 0, C.int .i64 0, C.int .i64 0] true :: Blk.cells (c.map (C.int .i64)) true :: g) = some (.exit 2, [(2, V.c (C.ptr 0 0)), (3, V.c (C.ptr 1 0)), (9, V.agg (r.map (C.int .i64))), (10, V.c (C.int .i64 i)), (13, V.agg ((tubeAt r i).map (C.int .i64))), (14, V.c (C.int .i64 4)), (15, V.c (C.bool false))], [Blk.cells [C.int .i64 0, C.int .i64 0, C.int .i64 0, C.int .i64 0, C.int .i64 0, C.int .i64 0] true, Blk.cells ((bumps r c (i * 4 + k) d).map (C.int .i64)) true]) := by
        intro d
        induction d with
        | zero =>
          intro k c g hk hc
          have hk : k = 4 := by omega
          subst hk
          rw [← hL2, exI_loop', hgc _ _ _ _ (by simp [envIds])]
          simp [bumps, pos]
        | succ d ih2 =>
          intro k c g hk hc
          have hk4 : k < 4 := by omega
          have hk' : (k : Int) < 4 := by omega
          have hwk : IntKind.i64.wrap ((k : Int) + 1) = ((k + 1 : Nat) : Int) := by rw [wrapI (by omega) (by omega)]; rfl
          have hx := take1 (c := tubeAt r i) (j := k) (by omega)
          rw [tubeAt_cell hr hi hk4] at hx
          obtain ⟨hx0', hx5⟩ := rack_cell hr hv hi hk4
          have hx6' : cellAt r (i * 4 + k) < 6 := by omega
          generalize hxc : cellAt r (i * 4 + k) = x at hx hx0' hx6'
          have hcl : c.length = 6 := hc.1
          have hxn : x.toNat < 6 := by omega
          have hxn1 : x.toNat + 1 ≤ 6 := by omega
          have hy := take1 (c := c) (j := x.toNat) (by omega)
          have hyr : 0 ≤ c.getD x.toNat 0 ∧ c.getD x.toNat 0 ≤ 4 * i + k := by
            rw [List.getD_eq_getElem?_getD, List.getElem?_eq_getElem (by omega)]
            exact hc.2 _ (List.getElem_mem _)
          have hwy : IntKind.i64.wrap (c.getD x.toNat 0 + 1) = c.getD x.toNat 0 + 1 := wrapI (by omega) (by omega)
          have hset := setAt_one c x.toNat (c.getD x.toNat 0 + 1)
          have ih2 := fun g => ih2 (k + 1) (bump c x) g (by omega) (by have := small_bump (x := x) hc; rwa [show (4 * (i : Int) + ((k + 1 : Nat) : Int)) = 4 * i + k + 1 by omega])
          generalize hyv : c.getD x.toNat 0 = y at hy hwy hset
          have hbump : bump c x = c.set x.toNat (y + 1) := by unfold bump; rw [hyv]
          rw [← hL2, exI_loop', hgc _ _ _ _ (by simp [envIds])]
          simp [pos, hi', hk', hi, hk4, hr, hx, ht4, hx0', hx6', hcl, hxn, hxn1, hy, hwy, hwk, -setAt, hset]
          rw [hL2]
          refine (Eq.trans ?_ (ih2 [])).trans ?_
          · rw [hbump]; simp
          · simp [bumps, hxc, Nat.add_assoc]
      have k2 := fun g => key2 4 0 c g rfl (by simpa using hc)
      push_cast at k2
      simp only [k2]
      have ih := ih (i + 1) (bumps r c (i * 4) 4)
      simp [hw]
      rw [← hL2, hL1]
      refine (ih _ _ (by omega) (by have := small_bumps r 4 c (i * 4) _ hc; rwa [show (4 * ((i + 1 : Nat) : Int)) = 4 * i + ((4 : Nat) : Int) by omega]) ?_).trans ?_
      · rw [hgc _ _ _ _ (by simp [envIds])]
        simp [pos]
      · rw [show (d + 1) * 4 = 4 + d * 4 by omega, bumps_add, show i * 4 + 4 = (i + 1) * 4 by omega]
  refine (key 6 0 [0, 0, 0, 0, 0, 0] _ _ rfl (by simpa using zeros6) ?_).trans (by simp)
  rw [gcE_told (L := [1, 2]) (by simp [gcL, upto, reach, idsAt, envIds]) (by simp [closed, inL, idsAt, envIds])]
  simp [sub, pos]
end Go.Proofs.YtgpafbbnobanbaaGreatDoor.AM

namespace Go.Proofs.YtgpafbbnobanbaaGreatDoor.AM
open Go
set_option maxRecDepth 1000000
set_option linter.unusedSimpArgs false
set_option linter.unusedVariables false
/-- how many colors from k on are there -/
def colorsFrom (c : List Int) (k : Nat) : Nat → Nat
  | 0 => 0
  | d + 1 => (if 0 < c.getD k 0 then 1 else 0) + colorsFrom c (k + 1) d
theorem colorsFrom_le (c : List Int) : ∀ (d k : Nat), colorsFrom c k d ≤ d
  | 0, _ => Nat.le_refl _
  | d + 1, k => by
    have := colorsFrom_le c d (k + 1)
    unfold colorsFrom
    split <;> omega
theorem runsFrom_le {r : List Int} (hr : r.length = 24) : ∀ (d i : Nat), i + d ≤ 6 → runsFrom r i d ≤ 4 * d
  | 0, _, _ => Nat.le_refl _
  | d + 1, i, h => by
    have := runsFrom_le hr d (i + 1) (by omega)
    have h2 := runsOf_len (tubeAt r i)
    rw [tubeAt_len hr (by omega)] at h2
    unfold runsFrom
    omega
def cnts (r : List Int) : List Int := bumps r [0, 0, 0, 0, 0, 0] 0 24
theorem cnts_small (r : List Int) : small (cnts r) 24 := by
  have := small_bumps r 24 _ 0 0 zeros6
  unfold cnts
  simpa using this
def spare (r : List Int) : Int := (runsFrom r 0 6 : Int) - (colorsFrom (cnts r) 1 5 : Int)
theorem c_impl_SpareRuns (r : List Int) (hr : r.length = 24) (hv : rackP r = true) : fnI pr np 35 [.agg (r.map (C.int .i64))] [] = some (.tup [.c (.int .i64 (spare r)), .c (.bool true)], []) := by
  have h24 : (r.map (C.int .i64)).take 24 = r.map (C.int .i64) := List.take_of_length_le (by simp; omega)
  have h36 := c_impl_IsRack r hr
  rw [hv] at h36
  have hc36 := callA_pure h36 (by simp) (by simp)
  have hc77 := callA_pure (c_impl_countRuns r hr hv) (by simp) (by simp)
  have h78 := c_impl_countColors r hr hv
  rw [show bumps r [0, 0, 0, 0, 0, 0] 0 24 = cnts r from rfl] at h78
  have hc78 := callA_pure h78 (by simp) (by simp)
  have hcl : (cnts r).length = 6 := (cnts_small r).1
  have hsa : setAt [C.int .i64 0, C.int .i64 0, C.int .i64 0, C.int .i64 0, C.int .i64 0, C.int .i64 0] 0 ((cnts r).map (C.int .i64)) = (cnts r).map (C.int .i64) := setAt_all _ _ (by simp [hcl])
  have hr24 := runsFrom_le hr 6 0 (Nat.le_refl _)
  rw [fb (fn := a35) rfl rfl rfl]
  simp [a35, hr, h24, hc36, hc77, hc78, hcl, hsa]
  generalize hL1 : (ACode.loop _ _) = L1
  generalize hR : (ACode.seq _ ACode.ret) = R
  have key : ∀ (d k : Nat) (A : Int) (e : Env) (h : Heap), k + d = 5 → -(k : Int) ≤ A ∧ A ≤ 24 → gcE 0 [4, 15, 16, 17] e h = some ([(4, V.c (C.int .i64 A)), (15, V.c (C.sl 0 1 5 1)), (16, V.c (C.int .i64 5)), (17, V.c (C.int .i64 k))], [Blk.cells ((cnts r).map (C.int .i64)) true]) → leaveK 0 [RV.t 2, RV.t 3] (seqK pr np 0 R (blockK 0 (exI pr np 0 L1 e h))) = some (.tup [.c (.int .i64 (A - (colorsFrom (cnts r) (1 + k) d : Int))), .c (.bool true)], []) := by
    intro d
    induction d with
    | zero =>
      intro k A e h hk hA hg
      have hk : k = 5 := by omega
      subst hk
      rw [← hL1, exI_loop', hg]
      simp [← hR, colorsFrom]
    | succ d ih =>
      intro k A e h hk hA hg
      have hk5 : k < 5 := by omega
      have hk' : (k : Int) < 5 := by omega
      have hx := take1 (c := cnts r) (j := 1 + k) (by omega)
      have hxr : 0 ≤ (cnts r).getD (1 + k) 0 := by
        rw [List.getD_eq_getElem?_getD, List.getElem?_eq_getElem (by omega)]
        exact ((cnts_small r).2 _ (List.getElem_mem _)).1
      have hlen : 1 + k + 1 ≤ 6 := by omega
      have hwk : IntKind.i64.wrap ((k : Int) + 1) = ((k + 1 : Nat) : Int) := by rw [wrapI (by omega) (by omega)]; rfl
      have ih := ih (k + 1)
      rw [show 1 + (k + 1) = 1 + k + 1 by omega] at ih
      unfold colorsFrom
      generalize (cnts r).getD (1 + k) 0 = x at hx hxr
      rw [← hL1, exI_loop', hg]
      by_cases hx1 : 0 < x
      · have hmin : (if (1 : Int) < x then (1 : Int) else x) = 1 := by split <;> omega
        have hw : IntKind.i64.wrap (A - 1) = A - 1 := wrapI (by omega) (by omega)
        simp [hk', hk5, hcl, hx, hlen, hmin, hw, hwk, hx1]
        rw [hL1]
        refine (ih (A - 1) _ _ (by omega) (by omega) ?_).trans ?_
        · rw [gcE_told (L := [0]) (by simp [gcL, upto, reach, idsAt, envIds]) (by simp [closed, inL, idsAt, envIds])]
          simp [sub, pos]
        · simp; omega
      · have hx0 : x = 0 := by omega
        subst hx0
        have hw : IntKind.i64.wrap A = A := wrapI (by omega) (by omega)
        simp [hk', hk5, hcl, hx, hlen, hw, hwk]
        rw [hL1]
        refine (ih A _ _ (by omega) (by omega) ?_).trans ?_
        · rw [gcE_told (L := [0]) (by simp [gcL, upto, reach, idsAt, envIds]) (by simp [closed, inL, idsAt, envIds])]
          simp [sub, pos]
        · simp
  refine (key 5 0 (runsFrom r 0 6) _ _ rfl (by omega) ?_).trans (by simp [spare])
  rw [gcE_told (L := [1]) (by simp [gcL, upto, reach, idsAt, envIds]) (by simp [closed, inL, idsAt, envIds])]
  simp [sub, pos]
/-- what both answer -/
def runsLeft (r : List Int) (m n : Int) : V := .tup [.c (.int .i64 (if okBar r m n then spare r else 0)), .c (.bool (okBar r m n))]
theorem okBar_rack {r : List Int} {m n : Int} (hr : r.length = 24) (h : okBar r m n = true) : rackP r = true := by
  rw [rack_eq r hr]
  unfold okBar at h
  simp only [Bool.and_eq_true] at h
  exact h.1.1
theorem c_impl_RunsLeft (r : List Int) (hr : r.length = 24) (m n : Int) : fnI pr np 15 [.agg (barC r m n)] [] = some (runsLeft r m n, []) := by
  have h12 := c_impl_IsBar r hr m n
  rw [rack_eq r hr, show (!anyFrom (rowBad r) 0 6 && (decide (0 ≤ m) && decide (m ≤ 9999)) && (decide (0 ≤ n) && decide (n ≤ 1000))) = okBar r m n from rfl, show r.map (C.int .i64) ++ [C.int .i64 m, C.int .i64 n] = barC r m n from rfl] at h12
  have hc := callA_pure h12 (by simp [barC_ids]) (by simp)
  obtain ⟨b0, b24, _, _, b26⟩ := barC_parts r hr m n
  unfold runsLeft
  cases hq : okBar r m n with
  | true =>
    rw [hq] at hc
    have hc57 := callA_pure (c_impl_SpareRuns r hr (okBar_rack hr hq)) (by simp) (by simp)
    rw [fb (fn := a15) rfl rfl rfl]
    simp [a15, b0, b24, b26, hc, hc57]
  | false =>
    rw [hq] at hc
    rw [fb (fn := a15) rfl rfl rfl]
    simp [a15, b0, b24, b26, hc]
end Go.Proofs.YtgpafbbnobanbaaGreatDoor.AM

namespace Go.Proofs.YtgpafbbnobanbaaGreatDoor.AM
open Go
set_option maxRecDepth 1000000
set_option linter.unusedSimpArgs false
set_option linter.unusedVariables false
def topRun (c : Int) : List Int → Int
  | [] => 0
  | x :: r => if x = c then 1 + topRun c r else 0
def topOf : List Int → Int × Int
  | [a, b, c, d] => if 0 < d then (d, 1 + topRun d [c, b, a]) else if 0 < c then (c, 1 + topRun c [b, a]) else if 0 < b then (b, 1 + topRun b [a]) else if 0 < a then (a, 1) else (0, 0)
  | _ => (0, 0)
set_option maxHeartbeats 4000000 in
theorem t_spec_l2Top_0   : fnI pr np 210 [.agg [.int .i64 0, .int .i64 0, .int .i64 0, .int .i64 0]] [] = some (.tup [.c (.int .i64 (topOf [0, 0, 0, 0]).1), .c (.int .i64 (topOf [0, 0, 0, 0]).2)], []) := by
  have hcall := callA_pure (c_spec_l2Many 0 0 0 0) (by simp) (by simp)
  simp only [pos1,  if_true, if_false, Int.lt_irrefl, Int.add_zero, Int.zero_add, show (1 : Int) + 1 = 2 from rfl, show (2 : Int) + 1 = 3 from rfl, show (3 : Int) + 1 = 4 from rfl] at hcall
  rw [fb (fn := a210) rfl rfl rfl]
  simp [a210, exI_loop', gcE, gcL, upto, reach, idsAt, closed, inL, sub, envIds, pos, IntKind.wrap, IntKind.bits, IntKind.signed, stillA, topOf, topRun, hcall]
set_option maxHeartbeats 4000000 in
theorem t_spec_l2Top_1 (a : Int) (ha : 0 < a) : fnI pr np 210 [.agg [.int .i64 a, .int .i64 0, .int .i64 0, .int .i64 0]] [] = some (.tup [.c (.int .i64 (topOf [a, 0, 0, 0]).1), .c (.int .i64 (topOf [a, 0, 0, 0]).2)], []) := by
  have ha0 : ¬ a = 0 := by omega
  have ha1 : ¬ 0 = a := by omega
  have hcall := callA_pure (c_spec_l2Many a 0 0 0) (by simp) (by simp)
  simp only [pos1, ha,  if_true, if_false, Int.lt_irrefl, Int.add_zero, Int.zero_add, show (1 : Int) + 1 = 2 from rfl, show (2 : Int) + 1 = 3 from rfl, show (3 : Int) + 1 = 4 from rfl] at hcall
  rw [fb (fn := a210) rfl rfl rfl]
  simp [a210, exI_loop', gcE, gcL, upto, reach, idsAt, closed, inL, sub, envIds, pos, IntKind.wrap, IntKind.bits, IntKind.signed, stillA, topOf, topRun, hcall, ha, ha0, ha1]
set_option maxHeartbeats 4000000 in
theorem t_spec_l2Top_2 (a b : Int) (ha : 0 < a) (hb : 0 < b) : fnI pr np 210 [.agg [.int .i64 a, .int .i64 b, .int .i64 0, .int .i64 0]] [] = some (.tup [.c (.int .i64 (topOf [a, b, 0, 0]).1), .c (.int .i64 (topOf [a, b, 0, 0]).2)], []) := by
  have ha0 : ¬ a = 0 := by omega
  have ha1 : ¬ 0 = a := by omega
  have hb0 : ¬ b = 0 := by omega
  have hb1 : ¬ 0 = b := by omega
  have hcall := callA_pure (c_spec_l2Many a b 0 0) (by simp) (by simp)
  simp only [pos1, ha, hb,  if_true, if_false, Int.lt_irrefl, Int.add_zero, Int.zero_add, show (1 : Int) + 1 = 2 from rfl, show (2 : Int) + 1 = 3 from rfl, show (3 : Int) + 1 = 4 from rfl] at hcall
  rw [fb (fn := a210) rfl rfl rfl]
  by_cases e0 : b = a
  · subst e0
    simp [a210, exI_loop', gcE, gcL, upto, reach, idsAt, closed, inL, sub, envIds, pos, IntKind.wrap, IntKind.bits, IntKind.signed, stillA, topOf, topRun, hcall, ha, ha0, ha1, hb, hb0, hb1]
  · have e0' : ¬ a = b := fun e => e0 e.symm
    simp [a210, exI_loop', gcE, gcL, upto, reach, idsAt, closed, inL, sub, envIds, pos, IntKind.wrap, IntKind.bits, IntKind.signed, stillA, topOf, topRun, hcall, ha, ha0, ha1, hb, hb0, hb1, e0, e0']
set_option maxHeartbeats 4000000 in
theorem t_spec_l2Top_3 (a b c : Int) (ha : 0 < a) (hb : 0 < b) (hc : 0 < c) : fnI pr np 210 [.agg [.int .i64 a, .int .i64 b, .int .i64 c, .int .i64 0]] [] = some (.tup [.c (.int .i64 (topOf [a, b, c, 0]).1), .c (.int .i64 (topOf [a, b, c, 0]).2)], []) := by
  have ha0 : ¬ a = 0 := by omega
  have ha1 : ¬ 0 = a := by omega
  have hb0 : ¬ b = 0 := by omega
  have hb1 : ¬ 0 = b := by omega
  have hc0 : ¬ c = 0 := by omega
  have hc1 : ¬ 0 = c := by omega
  have hcall := callA_pure (c_spec_l2Many a b c 0) (by simp) (by simp)
  simp only [pos1, ha, hb, hc,  if_true, if_false, Int.lt_irrefl, Int.add_zero, Int.zero_add, show (1 : Int) + 1 = 2 from rfl, show (2 : Int) + 1 = 3 from rfl, show (3 : Int) + 1 = 4 from rfl] at hcall
  rw [fb (fn := a210) rfl rfl rfl]
  by_cases e1 : c = b
  · subst e1
    by_cases e0 : c = a
    · subst e0
      simp [a210, exI_loop', gcE, gcL, upto, reach, idsAt, closed, inL, sub, envIds, pos, IntKind.wrap, IntKind.bits, IntKind.signed, stillA, topOf, topRun, hcall, ha, ha0, ha1, hb, hb0, hb1, hc, hc0, hc1]
    · have e0' : ¬ a = c := fun e => e0 e.symm
      simp [a210, exI_loop', gcE, gcL, upto, reach, idsAt, closed, inL, sub, envIds, pos, IntKind.wrap, IntKind.bits, IntKind.signed, stillA, topOf, topRun, hcall, ha, ha0, ha1, hb, hb0, hb1, hc, hc0, hc1, e0, e0']
  · have e1' : ¬ b = c := fun e => e1 e.symm
    simp [a210, exI_loop', gcE, gcL, upto, reach, idsAt, closed, inL, sub, envIds, pos, IntKind.wrap, IntKind.bits, IntKind.signed, stillA, topOf, topRun, hcall, ha, ha0, ha1, hb, hb0, hb1, hc, hc0, hc1, e1, e1']
set_option maxHeartbeats 4000000 in
theorem t_spec_l2Top_4 (a b c d : Int) (ha : 0 < a) (hb : 0 < b) (hc : 0 < c) (hd : 0 < d) : fnI pr np 210 [.agg [.int .i64 a, .int .i64 b, .int .i64 c, .int .i64 d]] [] = some (.tup [.c (.int .i64 (topOf [a, b, c, d]).1), .c (.int .i64 (topOf [a, b, c, d]).2)], []) := by
  have ha0 : ¬ a = 0 := by omega
  have ha1 : ¬ 0 = a := by omega
  have hb0 : ¬ b = 0 := by omega
  have hb1 : ¬ 0 = b := by omega
  have hc0 : ¬ c = 0 := by omega
  have hc1 : ¬ 0 = c := by omega
  have hd0 : ¬ d = 0 := by omega
  have hd1 : ¬ 0 = d := by omega
  have hcall := callA_pure (c_spec_l2Many a b c d) (by simp) (by simp)
  simp only [pos1, ha, hb, hc, hd,  if_true, if_false, Int.lt_irrefl, Int.add_zero, Int.zero_add, show (1 : Int) + 1 = 2 from rfl, show (2 : Int) + 1 = 3 from rfl, show (3 : Int) + 1 = 4 from rfl] at hcall
  rw [fb (fn := a210) rfl rfl rfl]
  by_cases e2 : d = c
  · subst e2
    by_cases e1 : d = b
    · subst e1
      by_cases e0 : d = a
      · subst e0
        simp [a210, exI_loop', gcE, gcL, upto, reach, idsAt, closed, inL, sub, envIds, pos, IntKind.wrap, IntKind.bits, IntKind.signed, stillA, topOf, topRun, hcall, ha, ha0, ha1, hb, hb0, hb1, hc, hc0, hc1, hd, hd0, hd1]
      · have e0' : ¬ a = d := fun e => e0 e.symm
        simp [a210, exI_loop', gcE, gcL, upto, reach, idsAt, closed, inL, sub, envIds, pos, IntKind.wrap, IntKind.bits, IntKind.signed, stillA, topOf, topRun, hcall, ha, ha0, ha1, hb, hb0, hb1, hc, hc0, hc1, hd, hd0, hd1, e0, e0']
    · have e1' : ¬ b = d := fun e => e1 e.symm
      simp [a210, exI_loop', gcE, gcL, upto, reach, idsAt, closed, inL, sub, envIds, pos, IntKind.wrap, IntKind.bits, IntKind.signed, stillA, topOf, topRun, hcall, ha, ha0, ha1, hb, hb0, hb1, hc, hc0, hc1, hd, hd0, hd1, e1, e1']
  · have e2' : ¬ c = d := fun e => e2 e.symm
    simp [a210, exI_loop', gcE, gcL, upto, reach, idsAt, closed, inL, sub, envIds, pos, IntKind.wrap, IntKind.bits, IntKind.signed, stillA, topOf, topRun, hcall, ha, ha0, ha1, hb, hb0, hb1, hc, hc0, hc1, hd, hd0, hd1, e2, e2']
end Go.Proofs.YtgpafbbnobanbaaGreatDoor.AM

namespace Go.Proofs.YtgpafbbnobanbaaGreatDoor.AM
open Go
set_option maxRecDepth 1000000
set_option linter.unusedSimpArgs false
set_option linter.unusedVariables false
theorem top_all (t : List Int) (ht : t.length = 4) (h : tubeP t = true) : fnI pr np 210 [.agg (t.map (C.int .i64))] [] = some (.tup [.c (.int .i64 (topOf t).1), .c (.int .i64 (topOf t).2)], []) := by
  obtain ⟨a, b, c, d, rfl⟩ := len4 ht
  rw [tube_eq] at h
  simp at h
  by_cases ha : 0 < a
  · by_cases hb : 0 < b
    · by_cases hc : 0 < c
      · by_cases hd : 0 < d
        · exact t_spec_l2Top_4 a b c d ha hb hc hd
        · have : d = 0 := by omega
          subst this
          exact t_spec_l2Top_3 a b c ha hb hc
      · have h1 : c = 0 := by omega
        have h2 : d = 0 := by omega
        subst h1; subst h2
        exact t_spec_l2Top_2 a b ha hb
    · have h0 : b = 0 := by omega
      have h1 : c = 0 := by omega
      have h2 : d = 0 := by omega
      subst h0; subst h1; subst h2
      exact t_spec_l2Top_1 a ha
  · have h3 : a = 0 := by omega
    have h0 : b = 0 := by omega
    have h1 : c = 0 := by omega
    have h2 : d = 0 := by omega
    subst h3; subst h0; subst h1; subst h2
    exact t_spec_l2Top_0
end Go.Proofs.YtgpafbbnobanbaaGreatDoor.AM

namespace Go.Proofs.YtgpafbbnobanbaaGreatDoor.AM
open Go
set_option maxRecDepth 1000000
set_option linter.unusedSimpArgs false
set_option linter.unusedVariables false
end Go.Proofs.YtgpafbbnobanbaaGreatDoor.AM

namespace Go.Proofs.YtgpafbbnobanbaaGreatDoor.AM
open Go
set_option maxRecDepth 1000000
set_option linter.unusedSimpArgs false
set_option linter.unusedVariables false
end Go.Proofs.YtgpafbbnobanbaaGreatDoor.AM
/- Pours of a rack as lists: definitions and plain laws, no program in sight. -/
namespace Go.Proofs.YtgpafbbnobanbaaGreatDoor.AM
open Go
set_option maxRecDepth 1000000
set_option linter.unusedSimpArgs false
set_option linter.unusedVariables false
def six : List Int := [0, 1, 2, 3, 4, 5]
/-- a test of all valid tubes -/
def allT (p : List Int → Bool) : Bool := six.all fun a => six.all fun b => six.all fun c => six.all fun d => !tubeP [a, b, c, d] || p [a, b, c, d]
theorem six_mem {a : Int} (h : 0 ≤ a ∧ a ≤ 5) : a ∈ six := by
  have : a = 0 ∨ a = 1 ∨ a = 2 ∨ a = 3 ∨ a = 4 ∨ a = 5 := by omega
  rcases this with rfl | rfl | rfl | rfl | rfl | rfl <;> simp [six]
theorem tubes_all {p : List Int → Bool} (h : allT p = true) {t : List Int} (ht : t.length = 4) (hv : tubeP t = true) : p t = true := by
  obtain ⟨a, b, c, d, rfl⟩ := len4 ht
  obtain ⟨ha, hb, hc, hd⟩ := tubeP_range hv
  have := List.all_eq_true.1 (List.all_eq_true.1 (List.all_eq_true.1 (List.all_eq_true.1 h a (six_mem ha)) b (six_mem hb)) c (six_mem hc)) d (six_mem hd)
  simpa [hv] using this
def takeGo (f : Nat) : Nat → List Int → List Int
  | 0, t => t
  | k + 1, t => (takeGo f k t).set (f - 1 - k) 0
def putGo (t0 : Nat) (c : Int) : Nat → List Int → List Int
  | 0, t => t
  | k + 1, t => (putGo t0 c k t).set (t0 + k) c
def pourStep (i j f t : Nat) (c : Int) (k : Nat) (r : List Int) : List Int := (r.set (i * 4 + (f - 1 - k)) 0).set (j * 4 + (t + k)) c
def pourGo (i j f t : Nat) (c : Int) : Nat → List Int → List Int
  | 0, r => r
  | k + 1, r => pourStep i j f t c k (pourGo i j f t c k r)
def pourN (r : List Int) (i j : Nat) : Nat := min (topOf (tubeAt r i)).2.toNat (4 - layN (tubeAt r j))
/-- the rack behind a pour -/
def pourR (r : List Int) (i j : Nat) : List Int := pourGo i j (layN (tubeAt r i)) (layN (tubeAt r j)) (topOf (tubeAt r i)).1 (pourN r i j) r
def canP (r : List Int) (i j : Nat) : Bool := !(decide (i = j)) && decide (0 < (topOf (tubeAt r i)).1) && decide (layN (tubeAt r j) < 4) && (decide ((topOf (tubeAt r j)).1 = 0) || decide ((topOf (tubeAt r j)).1 = (topOf (tubeAt r i)).1))
def idleP (r : List Int) (i j : Nat) : Bool := decide ((runsOf (tubeAt r i)).length = 1) && decide (layN (tubeAt r j) = 0)
def pairAt (q : Nat) : Nat × Nat := (q / 6, q % 6)
/-- the pours among the first k pairs -/
def poursTo (r : List Int) (k : Nat) : List (Nat × Nat) := ((List.range k).map pairAt).filter fun p => canP r p.1 p.2
def poursL (r : List Int) : List (Nat × Nat) := poursTo r 36
def usefulL (r : List Int) : List (Nat × Nat) := (poursL r).filter fun p => !idleP r p.1 p.2
/-- a list of pairs as cells -/
def flatI (l : List (Nat × Nat)) : List Int := l.flatMap fun p => [(p.1 : Int), (p.2 : Int)]
def flatC (l : List (Nat × Nat)) : List C := (flatI l).map (C.int .i64)
theorem poursTo_succ (r : List Int) (k : Nat) : poursTo r (k + 1) = poursTo r k ++ if canP r (k / 6) (k % 6) = true then [pairAt k] else [] := by
  unfold poursTo
  rw [List.range_succ, List.map_append, List.filter_append]
  congr 1
  simp only [List.map_cons, List.map_nil, List.filter_cons, List.filter_nil, pairAt]
theorem poursTo_len (r : List Int) (k : Nat) : (poursTo r k).length ≤ k := by
  unfold poursTo
  exact Nat.le_trans (List.length_filter_le _ _) (by simp)
theorem flatI_len (l : List (Nat × Nat)) : (flatI l).length = l.length * 2 := by
  induction l with
  | nil => rfl
  | cons p l ih => simp [flatI] at ih ⊢; omega
theorem flatI_app (l m : List (Nat × Nat)) : flatI (l ++ m) = flatI l ++ flatI m := by simp [flatI]
theorem flatC_app (l m : List (Nat × Nat)) : flatC (l ++ m) = flatC l ++ flatC m := by simp [flatC, flatI_app]
theorem flatC_len (l : List (Nat × Nat)) : (flatC l).length = l.length * 2 := by simp [flatC, flatI_len]
theorem flatC_one (p : Nat × Nat) : flatC [p] = [.int .i64 p.1, .int .i64 p.2] := rfl
theorem flatC_ids (l : List (Nat × Nat)) : cids (flatC l) = [] := cids_ints _ _
theorem flatC_get : ∀ (l : List (Nat × Nat)) (z : List C) (k : Nat) (h : k < l.length), ((flatC l ++ z).drop (k * 2)).take 2 = [C.int .i64 (l[k]'h).1, C.int .i64 (l[k]'h).2]
  | p :: l, z, 0, h => by simp [flatC, flatI]
  | p :: l, z, k + 1, h => by
    have := flatC_get l z k (by simpa using h)
    have e : (k + 1) * 2 = k * 2 + 1 + 1 := by omega
    rw [e]
    have hd : flatC (p :: l) ++ z = C.int .i64 p.1 :: C.int .i64 p.2 :: (flatC l ++ z) := by simp [flatC, flatI]
    rw [hd, List.drop_succ_cons, List.drop_succ_cons, this]
    simp
theorem mem_poursL {r : List Int} {p : Nat × Nat} (h : p ∈ poursL r) : p.1 < 6 ∧ p.2 < 6 ∧ canP r p.1 p.2 = true := by
  unfold poursL poursTo at h
  obtain ⟨h1, h2⟩ := List.mem_filter.1 h
  obtain ⟨q, hq, rfl⟩ := List.mem_map.1 h1
  have := List.mem_range.1 hq
  exact ⟨by simp only [pairAt]; omega, by simp only [pairAt]; omega, h2⟩
theorem usefulL_len (r : List Int) : (usefulL r).length ≤ 36 := Nat.le_trans (List.length_filter_le _ _) (poursTo_len r 36)
theorem pourGo_len (i j f t : Nat) (c : Int) : ∀ (n : Nat) (r : List Int), (pourGo i j f t c n r).length = r.length
  | 0, _ => rfl
  | n + 1, r => by simp [pourGo, pourStep, pourGo_len i j f t c n r]
theorem pourR_len {r : List Int} (hr : r.length = 24) (i j : Nat) : (pourR r i j).length = 24 := by unfold pourR; rw [pourGo_len, hr]
theorem tubeAt_set (r : List Int) {i k : Nat} (hk : k < 4) (x : Int) (i' : Nat) : tubeAt (r.set (i * 4 + k) x) i' = if i' = i then (tubeAt r i).set k x else tubeAt r i' := by
  apply List.ext_getElem?
  intro m
  by_cases hi : i' = i
  · subst hi
    rw [if_pos rfl]
    simp only [tubeAt, List.getElem?_take, List.getElem?_drop, List.getElem?_set, List.length_take, List.length_drop]
    by_cases hm : m < 4
    · by_cases hmk : k = m
      · subst hmk
        simp [hm]
        split <;> split <;> first | rfl | omega
      · rw [if_pos hm, if_neg (by omega), if_neg hmk, if_pos hm]
    · rw [if_neg hm, if_neg (by omega), if_neg hm]
  · rw [if_neg hi]
    simp only [tubeAt, List.getElem?_take, List.getElem?_drop, List.getElem?_set]
    by_cases hm : m < 4
    · rw [if_pos hm, if_neg (by omega), if_pos hm]
    · rw [if_neg hm, if_neg hm]
theorem tube_pourGo {i j f t : Nat} {c : Int} (hij : i ≠ j) (hf : f ≤ 4) : ∀ (n : Nat) (r : List Int), n ≤ f → t + n ≤ 4 → ∀ i', tubeAt (pourGo i j f t c n r) i' = if i' = i then takeGo f n (tubeAt r i) else if i' = j then putGo t c n (tubeAt r j) else tubeAt r i'
  | 0, r, _, _, i' => by
    simp only [pourGo, takeGo, putGo]
    split
    · rename_i h; rw [h]
    · split
      · rename_i h; rw [h]
      · rfl
  | n + 1, r, h1, h2, i' => by
    have ih := tube_pourGo (i := i) (j := j) (f := f) (t := t) (c := c) hij hf n r (by omega) (by omega)
    simp only [pourGo, pourStep, takeGo, putGo]
    rw [tubeAt_set _ (k := t + n) (by omega), tubeAt_set _ (k := f - 1 - n) (by omega), tubeAt_set _ (k := f - 1 - n) (by omega), ih i', ih i, ih j]
    by_cases e1 : i' = i
    · subst e1
      simp [hij]
    · by_cases e2 : i' = j
      · subst e2
        simp [e1]
      · simp [e1, e2]
def topT (t : List Int) : Bool := decide (0 ≤ (topOf t).1) && decide ((topOf t).1 ≤ 5) && decide (0 ≤ (topOf t).2) && decide ((topOf t).2 ≤ (layN t : Int)) && decide (layN t ≤ 4) && decide ((topOf t).1 = 0 ↔ (topOf t).2 = 0) && decide ((topOf t).1 = 0 ↔ layN t = 0) && decide ((topOf t).1 = (match (runsOf t).getLast? with | some p => p.1 | none => 0)) && decide ((topOf t).2 = (match (runsOf t).getLast? with | some p => p.2 | none => 0)) && decide ((runsOf t).length = 0 ↔ layN t = 0)
theorem topT_all : allT topT = true := by kernel_rfl
structure TopOK (t : List Int) : Prop where
  c0 : 0 ≤ (topOf t).1
  c5 : (topOf t).1 ≤ 5
  n0 : 0 ≤ (topOf t).2
  nl : (topOf t).2 ≤ (layN t : Int)
  l4 : layN t ≤ 4
  cn : (topOf t).1 = 0 ↔ (topOf t).2 = 0
  cl : (topOf t).1 = 0 ↔ layN t = 0
  r1 : (topOf t).1 = (match (runsOf t).getLast? with | some p => p.1 | none => 0)
  r2 : (topOf t).2 = (match (runsOf t).getLast? with | some p => p.2 | none => 0)
  rl : (runsOf t).length = 0 ↔ layN t = 0
theorem top_ok {t : List Int} (ht : t.length = 4) (hv : tubeP t = true) : TopOK t := by
  have := tubes_all topT_all ht hv
  unfold topT at this
  simp only [Bool.and_eq_true, decide_eq_true_eq] at this
  obtain ⟨⟨⟨⟨⟨⟨⟨⟨⟨h1, h2⟩, h3⟩, h4⟩, h5⟩, h6⟩, h7⟩, h8⟩, h9⟩, h10⟩ := this
  exact ⟨h1, h2, h3, h4, h5, h6, h7, h8, h9, h10⟩
def takeT (t : List Int) : Bool := (List.range 5).all fun n => decide (layN t < n) || tubeP (takeGo (layN t) n t)
theorem takeT_all : allT takeT = true := by kernel_rfl
def putT (t : List Int) : Bool := (List.range 5).all fun n => decide (4 - layN t < n) || ([1, 2, 3, 4, 5] : List Int).all fun c => tubeP (putGo (layN t) c n t)
theorem putT_all : allT putT = true := by kernel_rfl
theorem rackP_iff {r : List Int} : rackP r = true ↔ ∀ i, i < 6 → tubeP (tubeAt r i) = true := by
  refine ⟨fun h i hi => rackP_tube h hi, fun h => ?_⟩
  unfold rackP
  rw [List.all_eq_true]
  intro t ht
  have : ∀ (d i : Nat), i + d ≤ 6 → t ∈ tubesFrom r i d → ∃ k, k < 6 ∧ t = tubeAt r k := by
    intro d
    induction d with
    | zero => intro i _ h; simp [tubesFrom] at h
    | succ d ih =>
      intro i hi h
      rcases List.mem_cons.1 h with h | h
      · exact ⟨i, by omega, h⟩
      · exact ih (i + 1) (by omega) h
  obtain ⟨k, hk, rfl⟩ := this 6 0 (by omega) ht
  exact h k hk
theorem rackP_pour {r : List Int} (hr : r.length = 24) (hv : rackP r = true) {i j : Nat} (hi : i < 6) (hj : j < 6) (hij : i ≠ j) : rackP (pourR r i j) = true := by
  rw [rackP_iff]
  intro k hk
  have hti := rackP_tube hv hi
  have htj := rackP_tube hv hj
  have oi := top_ok (tubeAt_len hr hi) hti
  have oj := top_ok (tubeAt_len hr hj) htj
  have h1 : pourN r i j ≤ layN (tubeAt r i) := by unfold pourN; have := oi.nl; have := oi.n0; omega
  have h2 : layN (tubeAt r j) + pourN r i j ≤ 4 := by unfold pourN; have := oj.l4; omega
  unfold pourR
  rw [tube_pourGo hij oi.l4 _ _ h1 h2]
  by_cases e1 : k = i
  · rw [if_pos e1]
    have := List.all_eq_true.1 (tubes_all takeT_all (tubeAt_len hr hi) hti) (pourN r i j) (List.mem_range.2 (by have := oi.l4; omega))
    simp only [Bool.or_eq_true, decide_eq_true_eq] at this
    rcases this with h | h
    · omega
    · exact h
  · rw [if_neg e1]
    by_cases e2 : k = j
    · rw [if_pos e2]
      by_cases hc : (topOf (tubeAt r i)).1 = 0
      · have hn : pourN r i j = 0 := by unfold pourN; rw [oi.cn.1 hc]; rfl
        rw [hn]
        exact htj
      · have := List.all_eq_true.1 (tubes_all putT_all (tubeAt_len hr hj) htj) (pourN r i j) (List.mem_range.2 (by omega))
        simp only [Bool.or_eq_true, decide_eq_true_eq] at this
        rcases this with h | h
        · omega
        · refine List.all_eq_true.1 h _ ?_
          have h0 := oi.c0
          have h5 := oi.c5
          have : (topOf (tubeAt r i)).1 = 1 ∨ (topOf (tubeAt r i)).1 = 2 ∨ (topOf (tubeAt r i)).1 = 3 ∨ (topOf (tubeAt r i)).1 = 4 ∨ (topOf (tubeAt r i)).1 = 5 := by omega
          rcases this with e | e | e | e | e <;> rw [e] <;> simp
    · rw [if_neg e2]
      exact rackP_tube hv hk
end Go.Proofs.YtgpafbbnobanbaaGreatDoor.AM

/- Deleting from a list in place: definitions and plain laws, no program in sight. -/
namespace Go.Proofs.YtgpafbbnobanbaaGreatDoor.AM
open Go
set_option maxRecDepth 1000000
set_option linter.unusedSimpArgs false
set_option linter.unusedVariables false
/-- the first one that is to go, or -1 -/
def firstD (d : Nat × Nat → Bool) : List (Nat × Nat) → Int → Int
  | [], _ => -1
  | x :: r, i => if d x then i else firstD d r (i + 1)
def keepN (d : Nat × Nat → Bool) (l : List (Nat × Nat)) (j : Nat) : List (Nat × Nat) := (l.take j).filter fun p => !d p
def curF (d : Nat × Nat → Bool) (l : List (Nat × Nat)) : Nat → List (Nat × Nat)
  | 0 => l
  | j + 1 => match l[j]? with
    | some p => if d p then curF d l j else (curF d l j).set (keepN d l j).length p
    | none => curF d l j
theorem firstD_case (d : Nat × Nat → Bool) : ∀ (l : List (Nat × Nat)) (i : Nat), (firstD d l i = -1 ∧ ∀ p ∈ l, d p = false) ∨ ∃ (k : Nat) (h : k < l.length), firstD d l i = ((i + k : Nat) : Int) ∧ d (l[k]'h) = true ∧ ∀ p ∈ l.take k, d p = false
  | [], i => .inl ⟨rfl, by simp⟩
  | x :: r, i => by
    by_cases hx : d x = true
    · exact .inr ⟨0, by simp, by simp [firstD, hx], by simpa using hx, by simp⟩
    · have hx : d x = false := by simpa using hx
      rcases firstD_case d r (i + 1) with ⟨h1, h2⟩ | ⟨k, hk, h1, h2, h3⟩
      · refine .inl ⟨?_, ?_⟩
        · simpa [firstD, hx] using h1
        · intro p hp
          rcases List.mem_cons.1 hp with rfl | hp
          · exact hx
          · exact h2 p hp
      · refine .inr ⟨k + 1, by simp; omega, ?_, by simpa using h2, ?_⟩
        · simp only [firstD, hx, Bool.false_eq_true, if_false]
          have : ((i : Int) + 1) = ((i + 1 : Nat) : Int) := by omega
          rw [this, h1]
          omega
        · intro p hp
          simp only [List.take_succ_cons] at hp
          rcases List.mem_cons.1 hp with rfl | hp
          · exact hx
          · exact h3 p hp
theorem keepN_succ (d : Nat × Nat → Bool) (l : List (Nat × Nat)) {j : Nat} (hj : j < l.length) : keepN d l (j + 1) = keepN d l j ++ if d (l[j]'hj) then [] else [l[j]'hj] := by
  unfold keepN
  rw [List.take_succ_eq_append_getElem hj, List.filter_append]
  congr 1
  by_cases h : d (l[j]'hj) = true
  · simp [h]
  · simp [h]
theorem keepN_le (d : Nat × Nat → Bool) (l : List (Nat × Nat)) (j : Nat) : (keepN d l j).length ≤ j := by
  unfold keepN
  exact Nat.le_trans (List.length_filter_le _ _) (by simp; omega)
theorem keepN_all (d : Nat × Nat → Bool) (l : List (Nat × Nat)) : keepN d l l.length = l.filter fun p => !d p := by
  unfold keepN; rw [List.take_length]
structure CurOK (d : Nat × Nat → Bool) (l : List (Nat × Nat)) (j : Nat) : Prop where
  len : (curF d l j).length = l.length
  kept : (curF d l j).take (keepN d l j).length = keepN d l j
  rest : (curF d l j).drop j = l.drop j
theorem curF_succ (d : Nat × Nat → Bool) (l : List (Nat × Nat)) {j : Nat} (hj : j < l.length) : curF d l (j + 1) = if d (l[j]'hj) then curF d l j else (curF d l j).set (keepN d l j).length (l[j]'hj) := by
  simp only [curF, List.getElem?_eq_getElem hj]
theorem cur_ok (d : Nat × Nat → Bool) (l : List (Nat × Nat)) : ∀ j, j ≤ l.length → CurOK d l j
  | 0, _ => ⟨rfl, by simp [keepN], by simp [curF]⟩
  | j + 1, h => by
    have ih := cur_ok d l j (by omega)
    have hj : j < l.length := by omega
    have hk := keepN_le d l j
    by_cases hd : d (l[j]'hj) = true
    · refine ⟨?_, ?_, ?_⟩
      · rw [curF_succ d l hj, if_pos hd]; exact ih.len
      · rw [curF_succ d l hj, if_pos hd, keepN_succ d l hj, if_pos hd, List.append_nil]; exact ih.kept
      · rw [curF_succ d l hj, if_pos hd, ← List.drop_drop, ih.rest, List.drop_drop]
    · have hl := ih.len
      refine ⟨?_, ?_, ?_⟩
      · rw [curF_succ d l hj, if_neg hd, List.length_set]; exact ih.len
      · rw [curF_succ d l hj, if_neg hd, keepN_succ d l hj, if_neg hd, List.length_append, List.length_singleton]
        rw [List.take_succ_eq_append_getElem (by rw [List.length_set]; omega), List.getElem_set_self, List.take_set_of_le (Nat.le_refl _), ih.kept]
      · rw [curF_succ d l hj, if_neg hd, List.drop_set_of_lt (by omega), ← List.drop_drop, ih.rest, List.drop_drop]
theorem cur_first (d : Nat × Nat → Bool) (l : List (Nat × Nat)) : ∀ k, k ≤ l.length → (∀ p ∈ l.take k, d p = false) → curF d l k = l ∧ keepN d l k = l.take k
  | 0, _, _ => ⟨rfl, rfl⟩
  | k + 1, hk, h => by
    have hk' : k < l.length := by omega
    have ih := cur_first d l k (by omega) fun p hp => h p (by
      rw [List.take_succ_eq_append_getElem hk']; exact List.mem_append_left _ hp)
    have hd : d (l[k]'hk') = false := h _ (by rw [List.take_succ_eq_append_getElem hk']; exact List.mem_append_right _ (List.mem_singleton.2 rfl))
    refine ⟨?_, ?_⟩
    · rw [curF_succ d l hk', hd, ih.1, ih.2]
      simp [List.length_take, Nat.min_eq_left (Nat.le_of_lt hk')]
    · rw [keepN_succ d l hk', hd, ih.2, List.take_succ_eq_append_getElem hk']
      simp
theorem flatC_set : ∀ (l : List (Nat × Nat)) (i : Nat) (p : Nat × Nat) (z : List C), i < l.length → setAt (flatC l ++ z) (i * 2) [C.int .i64 p.1, C.int .i64 p.2] = flatC (l.set i p) ++ z
  | q :: l, 0, p, z, _ => by simp [flatC, flatI, setAt]
  | q :: l, i + 1, p, z, h => by
    have ih := flatC_set l i p z (by simpa using h)
    have e : (i + 1) * 2 = i * 2 + 1 + 1 := by omega
    have hd : flatC (q :: l) ++ z = C.int .i64 q.1 :: C.int .i64 q.2 :: (flatC l ++ z) := by simp [flatC, flatI]
    rw [e, hd]
    simp only [setAt, List.set_cons_succ, List.cons_append] at ih ⊢
    simp only [flatC, flatI] at ih ⊢
    simp only [List.set_cons_succ, List.flatMap_cons, List.map_append, List.append_assoc]
    rw [← ih]
    simp
theorem flatC_zero (l : List (Nat × Nat)) (i : Nat) (z : List C) (h : i ≤ l.length) : setAt (flatC l ++ z) (i * 2) (List.replicate ((l.length - i) * 2) (C.int .i64 0)) = flatC (l.take i) ++ (List.replicate ((l.length - i) * 2) (C.int .i64 0) ++ z) := by
  have hl := flatC_len l
  have hf : (flatC (l.take i)).length = i * 2 := by rw [flatC_len, List.length_take]; congr 1; omega
  apply List.ext_getElem?
  intro j
  have htk : flatC l = flatC (l.take i) ++ flatC (l.drop i) := by rw [← flatC_app, List.take_append_drop]
  rw [setAt_get _ _ _ _ (by simp [hl]; omega)]
  simp only [List.length_replicate]
  by_cases h1 : j < i * 2
  · rw [if_neg (by omega), List.getElem?_append_left (by omega), List.getElem?_append_left (by omega), htk, List.getElem?_append_left (by omega)]
  · rw [List.getElem?_append_right (l₁ := flatC (l.take i)) (by omega), hf]
    by_cases h2 : j < i * 2 + (l.length - i) * 2
    · rw [if_pos (by omega), List.getElem?_append_left (by simp; omega)]
    · rw [if_neg (by omega), List.getElem?_append_right (by omega), List.getElem?_append_right (by simp; omega)]
      simp only [List.length_replicate]
      congr 1
      omega
end Go.Proofs.YtgpafbbnobanbaaGreatDoor.AM

/- Games: definitions and plain laws, no program in sight. -/
namespace Go.Proofs.YtgpafbbnobanbaaGreatDoor.AM
open Go
set_option maxRecDepth 1000000
set_option linter.unusedSimpArgs false
set_option linter.unusedVariables false
/-- where a loop that may end early ends -/
theorem first_exit (p : Nat → Bool) : ∀ n, ∃ k, k ≤ n ∧ (k = n ∨ p k = true) ∧ ∀ j, j < k → p j = false
  | 0 => ⟨0, Nat.le_refl _, .inl rfl, fun j hj => absurd hj (by omega)⟩
  | n + 1 => by
    obtain ⟨k, hk, h1, h2⟩ := first_exit p n
    rcases h1 with h1 | h1
    · subst h1
      by_cases hp : p k = true
      · exact ⟨k, by omega, .inr hp, h2⟩
      · refine ⟨k + 1, by omega, .inl rfl, fun j hj => ?_⟩
        by_cases hjk : j = k
        · subst hjk; simpa using hp
        · exact h2 j (by omega)
    · exact ⟨k, by omega, .inr h1, h2⟩
end Go.Proofs.YtgpafbbnobanbaaGreatDoor.AM

/- Fractions in lowest terms and means of plays: definitions and plain laws, no program in sight. -/
namespace Go.Proofs.YtgpafbbnobanbaaGreatDoor.AM
open Go
set_option maxRecDepth 1000000
set_option linter.unusedSimpArgs false
set_option linter.unusedVariables false
def cutF (a b : Nat) : Nat × Nat := (a / Nat.gcd a b, b / Nat.gcd a b)
theorem cutF_ratio (a b : Nat) : (cutF a b).1 * b = a * (cutF a b).2 := by
  unfold cutF
  obtain ⟨x, hx⟩ := Nat.gcd_dvd_left a b
  obtain ⟨y, hy⟩ := Nat.gcd_dvd_right a b
  by_cases hg : Nat.gcd a b = 0
  · have h1 := Nat.eq_zero_of_gcd_eq_zero_left hg
    have h2 := Nat.eq_zero_of_gcd_eq_zero_right hg
    clear hx hy
    subst h1; subst h2
    rfl
  · generalize hgg : Nat.gcd a b = g at *
    have h1 : a / g = x := by rw [hx]; exact Nat.mul_div_cancel_left x (by omega)
    have h2 : b / g = y := by rw [hy]; exact Nat.mul_div_cancel_left y (by omega)
    simp only [h1, h2]
    rw [hx, hy]
    rw [← Nat.mul_assoc, Nat.mul_comm x g]
/-- a value is at most c / n -/
def AtMost (x : Nat × Nat) (c n : Nat) : Prop := x.1 * n ≤ c * x.2
theorem AtMost.cut {a b c n : Nat} (hb : 0 < b) (h : a * n ≤ c * b) : AtMost (cutF a b) c n := by
  unfold AtMost
  have hr := cutF_ratio a b
  have : (cutF a b).1 * n * b ≤ c * (cutF a b).2 * b := by
    calc (cutF a b).1 * n * b = (cutF a b).1 * b * n := by ac_rfl
      _ = a * (cutF a b).2 * n := by rw [hr]
      _ = (a * n) * (cutF a b).2 := by ac_rfl
      _ ≤ (c * b) * (cutF a b).2 := Nat.mul_le_mul_right _ h
      _ = c * (cutF a b).2 * b := by ac_rfl
  exact Nat.le_of_mul_le_mul_right this hb
/-- what holds of a mean: a denominator that divides M, a value of at most 24 -/
structure MeanOK (x : Nat × Nat) (M : Nat) : Prop where
  pos : 0 < x.2
  dvd : x.2 ∣ M
  most : x.1 ≤ 24 * x.2
end Go.Proofs.YtgpafbbnobanbaaGreatDoor.AM
