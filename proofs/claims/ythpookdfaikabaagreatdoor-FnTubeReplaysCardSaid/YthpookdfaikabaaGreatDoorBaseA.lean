import Derived.Test.YthpookdfaikabaaGreatDoorAmCode
import Derived.Test.YthpookdfaikabaaGreatDoorAmD
namespace Go.Proofs.YthpookdfaikabaaGreatDoor.AM
open Go
set_option maxRecDepth 100000
set_option linter.unusedSimpArgs false
theorem fb {f : Nat} {fn : AFn} (hq : np f = none) (hp : pr f = some fn) {a : List V} (hl : a.length = fn.np) (h : Heap) : fnI pr np f a h = leaveK h.length fn.res (exI pr np h.length fn.body (enter a 0) h) := fnI_body' pr np hq hp hl h
theorem c_impl_within (a b c : Int) : fnI pr np 31 [.c (.int .i64 a), .c (.int .i64 b), .c (.int .i64 c)] [] = some (.c (.bool (decide (b ≤ a) && decide (a ≤ c))), []) := by
  rw [fb (fn := a31) rfl rfl rfl]
  by_cases h1 : b ≤ a <;> simp [a31, h1]
theorem c_spec_l1In (a b c : Int) : fnI pr np 33 [.c (.int .i64 a), .c (.int .i64 b), .c (.int .i64 c)] [] = some (.c (.bool (decide (b ≤ a) && decide (a ≤ c))), []) := by
  rw [fb (fn := a33) rfl rfl rfl]
  by_cases h1 : b ≤ a <;> simp [a33, h1]
theorem c_impl_isColor (a : Int) : fnI pr np 92 [.c (.int .i64 a)] [] = some (.c (.bool (decide (1 ≤ a) && decide (a ≤ 5))), []) := by
  rw [fb (fn := a92) rfl rfl rfl]
  simp [a92, callA_pure (c_impl_within _ _ _)]
theorem c_impl_isTube_1 (a : Int) : fnI pr np 93 [.c (.int .i64 a)] [] = some (.c (.bool (a == 0)), []) := by
  rw [fb (fn := a93) rfl rfl rfl]
  simp [a93]
/-- what a function answers for an int -/
def IsP (g : Nat) (p : Int → Bool) : Prop := ∀ x, fnI pr np g [.c (.int .i64 x)] [] = some (.c (.bool (p x)), [])
theorem c_impl_areAll_int_1 {g : Nat} {p : Int → Bool} (hg : IsP g p) (x : Int) : fnI pr np 95 [.c (.int .i64 x), .c (.ptr 0 0)] [.cells [.fn g []] true] = some (.c (.bool (!p x)), [.cells [.fn g []] true]) := by
  rw [fb (fn := a95) rfl rfl rfl]
  simp [a95, callA_pure (hg _), cut_old', wfH]
def firstNot (p : Int → Bool) : List Int → Int → Int
  | [], _ => -1
  | x :: r, i => if p x then firstNot p r (i + 1) else i
theorem c_slices_IndexFunc_int_int {g : Nat} {p : Int → Bool} (hg : IsP g p) (cs : List Int) (off n : Nat) (hl : off + n ≤ cs.length) (hn : n < 1000000) (own : Bool) :
    fnI pr np 110 [.c (.sl 0 off n 1), .c (.fn 95 [(1, 0)])] [.cells (cs.map (C.int .i64)) own, .cells [.fn g []] true] = some (.c (.int .i64 (firstNot p ((cs.drop off).take n) 0)), [.cells (cs.map (C.int .i64)) own, .cells [.fn g []] true]) := by
  rw [fb (fn := a110) rfl rfl rfl]
  simp [a110]
  generalize hL : (ACode.loop _ _) = L
  generalize hR : (ACode.seq _ ACode.ret) = R
  have key : ∀ (l : List Int) (i : Nat), (cs.drop (off + i)).take (n - i) = l → i ≤ n → leaveK 2 [RV.t 4] (seqK pr np 2 R (blockK 0 (exI pr np 2 L [(0, V.c (C.sl 0 off n 1)), (1, V.c (C.fn 95 [(1, 0)])), (7, V.c (C.int IntKind.i64 ↑n)), (8, V.c (C.int IntKind.i64 ↑i))] [Blk.cells (List.map (C.int IntKind.i64) cs) own, Blk.cells [C.fn g []] true]))) = some (V.c (C.int IntKind.i64 (firstNot p l i)), [Blk.cells (List.map (C.int IntKind.i64) cs) own, Blk.cells [C.fn g []] true]) := by
    intro l
    induction l with
    | nil =>
      intro i hl1 hin
      have hi : i = n := by
        have := congrArg List.length hl1
        simp at this; omega
      subst hi
      rw [← hL, exI_loop']
      simp [gcE_old', wfH, firstNot, ← hR, cut_old']
    | cons x l ih =>
      intro i hl1 hin
      have hi : i < n := by
        have := congrArg List.length hl1
        simp at this; omega
      have hdrop : (cs.drop (off + i)) = x :: cs.drop (off + (i + 1)) := by
        rw [List.drop_eq_getElem_cons (show off + i < cs.length by omega)] at hl1 ⊢
        rw [show n - i = (n - (i + 1)) + 1 by omega, List.take_succ_cons] at hl1
        injection hl1 with h1 h2
        rw [h1]; rfl
      have hl2 : (cs.drop (off + (i + 1))).take (n - (i + 1)) = l := by
        rw [hdrop, show n - i = (n - (i + 1)) + 1 by omega, List.take_succ_cons] at hl1
        injection hl1
      have hd2 : (List.map (C.int .i64) cs).drop (off + i) = C.int .i64 x :: (List.map (C.int .i64) cs).drop (off + (i + 1)) := by
        rw [← List.map_drop, hdrop]; simp
      have hlen : off + i + 1 ≤ cs.length := by omega
      have hcall := fun base => callA_at (F := fnI pr np) (f := 95) (x := .c (.int .i64 x)) (i := 1) (H := lkp [Blk.cells (List.map (C.int IntKind.i64) cs) own, Blk.cells [C.fn g []] true]) (b := .cells [.fn g []] true) rfl rfl rfl (c_impl_areAll_int_1 hg x) rfl base
      have hw : IntKind.i64.wrap ((i : Int) + 1) = ((i + 1 : Nat) : Int) := by rw [wrapI (by omega) (by omega)]; rfl
      have ih := ih (i + 1) hl2 (by omega)
      rw [← hL, exI_loop']
      by_cases hp : p x
      · simp [gcE_old', wfH, hi, hlen, hd2, hcall, hp, hw, firstNot]
        rw [hL]
        exact ih
      · simp [gcE_old', wfH, hi, hlen, hd2, hcall, hp, hw, firstNot, cut_old']
  exact key _ 0 (by simp) (Nat.zero_le _)
end Go.Proofs.YthpookdfaikabaaGreatDoor.AM

namespace Go.Proofs.YthpookdfaikabaaGreatDoor.AM
open Go
set_option maxRecDepth 100000
set_option linter.unusedSimpArgs false
theorem firstNot_ge (p : Int → Bool) : ∀ (l : List Int) (i : Int), 0 ≤ i → decide (firstNot p l i ≥ 0) = !(l.all p)
  | [], i, _ => by simp [firstNot]
  | x :: r, i, h => by
    have := firstNot_ge p r (i + 1) (by omega)
    by_cases hp : p x
    · simpa [firstNot, hp] using this
    · simp [firstNot, hp, h]
theorem c_slices_ContainsFunc_int_int {g : Nat} {p : Int → Bool} (hg : IsP g p) (cs : List Int) (off n : Nat) (hl : off + n ≤ cs.length) (hn : n < 1000000) (own : Bool) :
    fnI pr np 94 [.c (.sl 0 off n 1), .c (.fn 95 [(1, 0)])] [.cells (cs.map (C.int .i64)) own, .cells [.fn g []] true] = some (.c (.bool (!((cs.drop off).take n).all p)), [.cells (cs.map (C.int .i64)) own, .cells [.fn g []] true]) := by
  have hc := fun base => callA_gen (F := fnI pr np) (f := 110) (args := [.c (.sl 0 off n 1), .c (.fn 95 [(1, 0)])]) (H := lkp [.cells (cs.map (C.int .i64)) own, .cells [.fn g []] true]) (L := [0, 1]) (by simp [reach, idsAt]) (by simp [closed, inL, idsAt]) (by simp [sub]) (by simp [pos]) (c_slices_IndexFunc_int_int hg cs off n hl hn own) (by simp) base
  rw [fb (fn := a94) rfl rfl rfl]
  simp [a94, hc, cut_old', wfH, ← firstNot_ge p _ 0]
theorem c_impl_areAll_int {g : Nat} {p : Int → Bool} (hg : IsP g p) (cs : List Int) (off n : Nat) (hl : off + n ≤ cs.length) (hn : n < 1000000) (own : Bool) :
    fnI pr np 77 [.c (.sl 0 off n 1), .c (.fn g [])] [.cells (cs.map (C.int .i64)) own] = some (.c (.bool (((cs.drop off).take n).all p)), [.cells (cs.map (C.int .i64)) own]) := by
  have hc := fun base => callA_gen (F := fnI pr np) (f := 94) (args := [.c (.sl 0 off n 1), .c (.fn 95 [(1, 0)])]) (H := lkp [.cells (cs.map (C.int .i64)) own, .cells [.fn g []] true]) (L := [0, 1]) (by simp [reach, idsAt]) (by simp [closed, inL, idsAt]) (by simp [sub]) (by simp [pos]) (c_slices_ContainsFunc_int_int hg cs off n hl hn own) (by simp) base
  rw [fb (fn := a77) rfl rfl rfl]
  simp [a77, hc, cut_old', wfH]
theorem c_slices_Index_int_int (y : Int) (cs : List Int) (off n : Nat) (hl : off + n ≤ cs.length) (hn : n < 1000000) (own : Bool) :
    fnI pr np 97 [.c (.sl 0 off n 1), .c (.int .i64 y)] [.cells (cs.map (C.int .i64)) own] = some (.c (.int .i64 (firstNot (fun x => !(y == x)) ((cs.drop off).take n) 0)), [.cells (cs.map (C.int .i64)) own]) := by
  rw [fb (fn := a97) rfl rfl rfl]
  simp [a97]
  generalize hL : (ACode.loop _ _) = L
  generalize hR : (ACode.seq _ ACode.ret) = R
  have key : ∀ (l : List Int) (i : Nat), (cs.drop (off + i)).take (n - i) = l → i ≤ n → leaveK 1 [RV.t 4] (seqK pr np 1 R (blockK 0 (exI pr np 1 L [(0, V.c (C.sl 0 off n 1)), (1, V.c (C.int .i64 y)), (7, V.c (C.int IntKind.i64 ↑n)), (8, V.c (C.int IntKind.i64 ↑i))] [Blk.cells (List.map (C.int IntKind.i64) cs) own]))) = some (V.c (C.int IntKind.i64 (firstNot (fun x => !(y == x)) l i)), [Blk.cells (List.map (C.int IntKind.i64) cs) own]) := by
    intro l
    induction l with
    | nil =>
      intro i hl1 hin
      have hi : i = n := by
        have := congrArg List.length hl1
        simp at this; omega
      subst hi
      rw [← hL, exI_loop']
      simp [gcE_old', wfH, firstNot, ← hR, cut_old']
    | cons x l ih =>
      intro i hl1 hin
      have hi : i < n := by
        have := congrArg List.length hl1
        simp at this; omega
      have hdrop : (cs.drop (off + i)) = x :: cs.drop (off + (i + 1)) := by
        rw [List.drop_eq_getElem_cons (show off + i < cs.length by omega)] at hl1 ⊢
        rw [show n - i = (n - (i + 1)) + 1 by omega, List.take_succ_cons] at hl1
        injection hl1 with h1 h2
        rw [h1]; rfl
      have hl2 : (cs.drop (off + (i + 1))).take (n - (i + 1)) = l := by
        rw [hdrop, show n - i = (n - (i + 1)) + 1 by omega, List.take_succ_cons] at hl1
        injection hl1
      have hd2 : (List.map (C.int .i64) cs).drop (off + i) = C.int .i64 x :: (List.map (C.int .i64) cs).drop (off + (i + 1)) := by
        rw [← List.map_drop, hdrop]; simp
      have hlen : off + i + 1 ≤ cs.length := by omega
      have hw : IntKind.i64.wrap ((i : Int) + 1) = ((i + 1 : Nat) : Int) := by rw [wrapI (by omega) (by omega)]; rfl
      have ih := ih (i + 1) hl2 (by omega)
      rw [← hL, exI_loop']
      by_cases hp : y = x
      · simp [gcE_old', wfH, hi, hlen, hd2, hp, hw, firstNot, cut_old']
      · simp [gcE_old', wfH, hi, hlen, hd2, hp, hw, firstNot]
        rw [hL]
        exact ih
  exact key _ 0 (by simp) (Nat.zero_le _)
def lay (t : List Int) : Int := if firstNot (fun x => !((0 : Int) == x)) t 0 < 0 then 4 else firstNot (fun x => !((0 : Int) == x)) t 0
theorem c_impl_layers (t : List Int) (ht : t.length = 4) : fnI pr np 79 [.agg (t.map (C.int .i64))] [] = some (.c (.int .i64 (lay t)), []) := by
  have hc := fun base => callA_gen (F := fnI pr np) (f := 97) (args := [.c (.sl 0 0 4 1), .c (.int .i64 0)]) (H := lkp [.cells (t.map (C.int .i64)) true]) (L := [0]) (by simp [reach, idsAt]) (by simp [closed, inL, idsAt]) (by simp [sub]) (by simp [pos]) (c_slices_Index_int_int 0 t 0 4 (by omega) (by omega) true) (by simp) base
  rw [fb (fn := a79) rfl rfl rfl]
  have ht2 : t.take 4 = t := List.take_of_length_le (by omega)
  by_cases h : firstNot (fun x => !((0 : Int) == x)) t 0 < 0
  · simp [a79, hc, ht, ht2, h, lay]
  · simp [a79, hc, ht, ht2, h, lay]
end Go.Proofs.YthpookdfaikabaaGreatDoor.AM

namespace Go.Proofs.YthpookdfaikabaaGreatDoor.AM
open Go
set_option maxRecDepth 100000
set_option linter.unusedSimpArgs false
theorem len4 {t : List Int} (h : t.length = 4) : ∃ a b c d, t = [a, b, c, d] := by
  match t, h with
  | [a, b, c, d], _ => exact ⟨a, b, c, d, rfl⟩
def layN : List Int → Nat
  | [] => 0
  | x :: r => if x = 0 then 0 else layN r + 1
theorem lay_eq {t : List Int} (h : t.length = 4) : lay t = (layN t : Int) ∧ layN t ≤ 4 := by
  obtain ⟨a, b, c, d, rfl⟩ := len4 h
  by_cases ha : a = 0
  · simp [lay, layN, firstNot, ha]
  · have ha' : ¬ (0 : Int) = a := fun e => ha e.symm
    by_cases hb : b = 0
    · simp [lay, layN, firstNot, ha, ha', hb]
    · have hb' : ¬ (0 : Int) = b := fun e => hb e.symm
      by_cases hc : c = 0
      · simp [lay, layN, firstNot, ha, ha', hb, hb', hc]
      · have hc' : ¬ (0 : Int) = c := fun e => hc e.symm
        by_cases hd : d = 0
        · simp [lay, layN, firstNot, ha, ha', hb, hb', hc, hc', hd]
        · have hd' : ¬ (0 : Int) = d := fun e => hd e.symm
          simp [lay, layN, firstNot, ha, ha', hb, hb', hc, hc', hd, hd']
def colP (x : Int) : Bool := decide (1 ≤ x) && decide (x ≤ 5)
def tubeP (t : List Int) : Bool := (t.take (layN t)).all colP && (t.drop (layN t)).all fun x => x == 0
theorem c_impl_isTube (t : List Int) (ht : t.length = 4) : fnI pr np 76 [.agg (t.map (C.int .i64))] [] = some (.c (.bool (tubeP t)), []) := by
  obtain ⟨hlay, hle⟩ := lay_eq ht
  have hw : ∀ l : List Int, (cids (l.map (C.int .i64))) = [] := cids_ints _
  have hc81 := callA_pure (c_impl_layers t ht) (by simp) (by simp)
  have hc1 := fun base => callA_gen (F := fnI pr np) (f := 77) (args := [.c (.sl 0 0 (layN t) 1), .c (.fn 92 [])]) (H := lkp [.cells (t.map (C.int .i64)) true]) (L := [0]) (by simp [reach, idsAt]) (by simp [closed, inL, idsAt]) (by simp [sub]) (by simp [pos]) (c_impl_areAll_int (g := 92) (p := colP) c_impl_isColor t 0 (layN t) (by omega) (by omega) true) (by simp) base
  have hc2 := fun base => callA_gen (F := fnI pr np) (f := 77) (args := [.c (.sl 0 (layN t) (4 - layN t) 1), .c (.fn 93 [])]) (H := lkp [.cells (t.map (C.int .i64)) true]) (L := [0]) (by simp [reach, idsAt]) (by simp [closed, inL, idsAt]) (by simp [sub]) (by simp [pos]) (c_impl_areAll_int (g := 93) (p := fun x => x == 0) c_impl_isTube_1 t (layN t) (4 - layN t) (by omega) (by omega) true) (by simp) base
  have hld : (t.drop (layN t)).take (4 - layN t) = t.drop (layN t) := List.take_of_length_le (by simp; omega)
  have hl4 : (t.map (C.int .i64)).take 4 = t.map (C.int .i64) := List.take_of_length_le (by simp; omega)
  rw [fb (fn := a76) rfl rfl rfl]
  have hle2 : (layN t : Int) ≤ 4 := by omega
  have hd0 : t.drop 0 = t := rfl
  by_cases h1 : (t.take (layN t)).all colP = true
  · have h1' := h1
    simp only [List.all_eq_true] at h1'
    simp only [hd0, h1] at hc1
    simp [a76, hc81, hlay, ht, hl4, hle, hle2, hc1, hc2, hld, tubeP, h1]
  · have h1 : (t.take (layN t)).all colP = false := by simpa using h1
    simp only [hd0, h1] at hc1
    simp [a76, hc81, hlay, ht, hl4, hle, hle2, hc1, hc2, hld, tubeP, h1]
end Go.Proofs.YthpookdfaikabaaGreatDoor.AM

namespace Go.Proofs.YthpookdfaikabaaGreatDoor.AM
open Go
set_option maxRecDepth 100000
set_option linter.unusedSimpArgs false
def IsT (g : Nat) (p : List Int → Bool) : Prop := ∀ t : List Int, t.length = 4 → fnI pr np g [.agg (t.map (C.int .i64))] [] = some (.c (.bool (p t)), [])
theorem c_impl_areAll_4_int_1 {g : Nat} {p : List Int → Bool} (hg : IsT g p) (t : List Int) (ht : t.length = 4) : fnI pr np 91 [.agg (t.map (C.int .i64)), .c (.ptr 0 0)] [.cells [.fn g []] true] = some (.c (.bool (!p t)), [.cells [.fn g []] true]) := by
  have hl4 : (t.map (C.int .i64)).take 4 = t.map (C.int .i64) := List.take_of_length_le (by simp; omega)
  have hc := callA_pure (hg t ht) (by simp) (by simp)
  rw [fb (fn := a91) rfl rfl rfl]
  simp [a91, hc, ht, hl4, cut_old', wfH]
def tubesFrom (r : List Int) (i : Nat) : Nat → List (List Int)
  | 0 => []
  | k + 1 => ((r.drop (i * 4)).take 4) :: tubesFrom r (i + 1) k
def firstT (p : List Int → Bool) : List (List Int) → Int → Int
  | [], _ => -1
  | x :: r, i => if p x then firstT p r (i + 1) else i
theorem firstT_ge (p : List Int → Bool) : ∀ (l : List (List Int)) (i : Int), 0 ≤ i → decide (firstT p l i ≥ 0) = !(l.all p)
  | [], i, _ => by simp [firstT]
  | x :: r, i, h => by
    have := firstT_ge p r (i + 1) (by omega)
    by_cases hp : p x
    · simpa [firstT, hp] using this
    · simp [firstT, hp, h]
theorem c_slices_IndexFunc_4_int_4_int {g : Nat} {p : List Int → Bool} (hg : IsT g p) (r : List Int) (n : Nat) (hl : n * 4 ≤ r.length) (hn : n < 1000000) (own : Bool) :
    fnI pr np 109 [.c (.sl 0 0 n 4), .c (.fn 91 [(1, 0)])] [.cells (r.map (C.int .i64)) own, .cells [.fn g []] true] = some (.c (.int .i64 (firstT p (tubesFrom r 0 n) 0)), [.cells (r.map (C.int .i64)) own, .cells [.fn g []] true]) := by
  rw [fb (fn := a109) rfl rfl rfl]
  simp [a109]
  generalize hL : (ACode.loop _ _) = L
  generalize hR : (ACode.seq _ ACode.ret) = R
  have key : ∀ (d i : Nat), i + d = n → leaveK 2 [RV.t 4] (seqK pr np 2 R (blockK 0 (exI pr np 2 L [(0, V.c (C.sl 0 0 n 4)), (1, V.c (C.fn 91 [(1, 0)])), (7, V.c (C.int IntKind.i64 ↑n)), (8, V.c (C.int IntKind.i64 ↑i))] [Blk.cells (List.map (C.int IntKind.i64) r) own, Blk.cells [C.fn g []] true]))) = some (V.c (C.int IntKind.i64 (firstT p (tubesFrom r i d) i)), [Blk.cells (List.map (C.int IntKind.i64) r) own, Blk.cells [C.fn g []] true]) := by
    intro d
    induction d with
    | zero =>
      intro i hi
      have hi : i = n := by omega
      subst hi
      rw [← hL, exI_loop']
      simp [gcE_old', wfH, firstT, tubesFrom, ← hR, cut_old']
    | succ d ih =>
      intro i hin
      have hi : i < n := by omega
      have hlen : i * 4 + 4 ≤ r.length := by omega
      have ht4 : ((r.drop (i * 4)).take 4).length = 4 := by simp; omega
      have hm : ((r.map (C.int .i64)).drop (i * 4)).take 4 = ((r.drop (i * 4)).take 4).map (C.int .i64) := by simp
      have hcall := fun base => callA_at (F := fnI pr np) (f := 91) (x := .agg (((r.drop (i * 4)).take 4).map (C.int .i64))) (i := 1) (H := lkp [Blk.cells (List.map (C.int IntKind.i64) r) own, Blk.cells [C.fn g []] true]) (b := .cells [.fn g []] true) rfl (cids_ints _ _) rfl (c_impl_areAll_4_int_1 hg _ ht4) rfl base
      simp only [List.map_take, List.map_drop] at hcall
      have hw : IntKind.i64.wrap ((i : Int) + 1) = ((i + 1 : Nat) : Int) := by rw [wrapI (by omega) (by omega)]; rfl
      have ih := ih (i + 1) (by omega)
      rw [← hL, exI_loop']
      by_cases hp : p ((r.drop (i * 4)).take 4)
      · simp [gcE_old', wfH, hi, hlen, hcall, hp, hw, firstT, tubesFrom]
        rw [hL]
        exact ih
      · simp [gcE_old', wfH, hi, hlen, hcall, hp, hw, firstT, tubesFrom, cut_old']
  exact key n 0 (by simp)
theorem c_slices_ContainsFunc_4_int_4_int {g : Nat} {p : List Int → Bool} (hg : IsT g p) (r : List Int) (n : Nat) (hl : n * 4 ≤ r.length) (hn : n < 1000000) (own : Bool) :
    fnI pr np 90 [.c (.sl 0 0 n 4), .c (.fn 91 [(1, 0)])] [.cells (r.map (C.int .i64)) own, .cells [.fn g []] true] = some (.c (.bool (!(tubesFrom r 0 n).all p)), [.cells (r.map (C.int .i64)) own, .cells [.fn g []] true]) := by
  have hc := fun base => callA_gen (F := fnI pr np) (f := 109) (args := [.c (.sl 0 0 n 4), .c (.fn 91 [(1, 0)])]) (H := lkp [.cells (r.map (C.int .i64)) own, .cells [.fn g []] true]) (L := [0, 1]) (by simp [reach, idsAt]) (by simp [closed, inL, idsAt]) (by simp [sub]) (by simp [pos]) (c_slices_IndexFunc_4_int_4_int hg r n hl hn own) (by simp) base
  rw [fb (fn := a90) rfl rfl rfl]
  simp [a90, hc, cut_old', wfH, ← firstT_ge p _ 0]
theorem c_impl_areAll_4_int {g : Nat} {p : List Int → Bool} (hg : IsT g p) (r : List Int) (n : Nat) (hl : n * 4 ≤ r.length) (hn : n < 1000000) (own : Bool) :
    fnI pr np 75 [.c (.sl 0 0 n 4), .c (.fn g [])] [.cells (r.map (C.int .i64)) own] = some (.c (.bool ((tubesFrom r 0 n).all p)), [.cells (r.map (C.int .i64)) own]) := by
  have hc := fun base => callA_gen (F := fnI pr np) (f := 90) (args := [.c (.sl 0 0 n 4), .c (.fn 91 [(1, 0)])]) (H := lkp [.cells (r.map (C.int .i64)) own, .cells [.fn g []] true]) (L := [0, 1]) (by simp [reach, idsAt]) (by simp [closed, inL, idsAt]) (by simp [sub]) (by simp [pos]) (c_slices_ContainsFunc_4_int_4_int hg r n hl hn own) (by simp) base
  rw [fb (fn := a75) rfl rfl rfl]
  simp [a75, hc, cut_old', wfH]
def rackP (r : List Int) : Bool := (tubesFrom r 0 6).all tubeP
theorem c_impl_IsRack (r : List Int) (hr : r.length = 24) : fnI pr np 50 [.agg (r.map (C.int .i64))] [] = some (.c (.bool (rackP r)), []) := by
  have hc := fun base => callA_gen (F := fnI pr np) (f := 75) (args := [.c (.sl 0 0 6 4), .c (.fn 76 [])]) (H := lkp [.cells (r.map (C.int .i64)) true]) (L := [0]) (by simp [reach, idsAt]) (by simp [closed, inL, idsAt]) (by simp [sub]) (by simp [pos]) (c_impl_areAll_4_int (g := 76) (p := tubeP) c_impl_isTube r 6 (by omega) (by omega) true) (by simp) base
  rw [fb (fn := a50) rfl rfl rfl]
  simp [a50, hc, hr, rackP]
end Go.Proofs.YthpookdfaikabaaGreatDoor.AM

namespace Go.Proofs.YthpookdfaikabaaGreatDoor.AM
open Go
set_option maxRecDepth 100000
set_option linter.unusedSimpArgs false
/-- a cell of a rack that the reference refuses -/
def cellAt (r : List Int) (j : Nat) : Int := r.getD j 0
def badP (r : List Int) (i k : Nat) : Bool := !(decide (0 ≤ cellAt r (i * 4 + k)) && decide (cellAt r (i * 4 + k) ≤ 5)) || (decide (0 < k) && decide (0 < cellAt r (i * 4 + k)) && decide (cellAt r (i * 4 + (k - 1)) = 0))
def anyFrom (f : Nat → Bool) (k : Nat) : Nat → Bool
  | 0 => false
  | d + 1 => f k || anyFrom f (k + 1) d
def rowBad (r : List Int) (i : Nat) : Bool := anyFrom (badP r i) 0 4
set_option maxHeartbeats 1000000 in
theorem c_spec_l2Rack (r : List Int) (hr : r.length = 24) : fnI pr np 57 [.agg (r.map (C.int .i64))] [] = some (.c (.bool (!anyFrom (rowBad r) 0 6)), []) := by
  have hcell : ∀ j, j < 24 → ((r.map (C.int .i64)).drop j).take 1 = [C.int .i64 (cellAt r j)] := by
    intro j hj
    rw [List.drop_eq_getElem_cons (by simp; omega)]
    simp [cellAt, List.getD_eq_getElem?_getD, List.getElem?_eq_getElem (show j < r.length by omega)]
  rw [fb (fn := a57) rfl rfl rfl]
  simp [a57, hr]
  generalize hL1 : (ACode.loop _ [1, 3]) = L1
  generalize hR : (ACode.seq _ ACode.ret) = R
  have key : ∀ (d i : Nat), i + d = 6 → leaveK 0 [RV.t 2] (seqK pr np 0 R (blockK 0 (exI pr np 0 L1 [(1, V.c (C.ptr 0 0)), (3, V.c (C.int .i64 i))] [Blk.cells (r.map (C.int .i64)) true]))) = some (V.c (C.bool (!anyFrom (rowBad r) i d)), []) := by
    intro d
    induction d with
    | zero =>
      intro i hi
      have hi : i = 6 := by omega
      subst hi
      rw [← hL1, exI_loop', gcE_one (by simp) (by simp [envIds])]
      simp [anyFrom, ← hR, pos]
    | succ d ih =>
      intro i hin
      have hi : i < 6 := by omega
      have ih := ih (i + 1) (by omega)
      have hw : IntKind.i64.wrap ((i : Int) + 1) = ((i + 1 : Nat) : Int) := by rw [wrapI (by omega) (by omega)]; rfl
      have hi' : (i : Int) < 6 := by omega
      rw [← hL1, exI_loop', gcE_one (by simp) (by simp [envIds])]
      simp [pos, hi']
      generalize hL2 : (ACode.loop _ [1, 3, 4]) = L2
      have key2 : ∀ (d k : Nat), k + d = 4 → exI pr np 0 L2 [(1, V.c (C.ptr 0 0)), (3, V.c (C.int .i64 i)), (4, V.c (C.int .i64 k))] [Blk.cells (r.map (C.int .i64)) true] = if anyFrom (badP r i) k d = true then some (.ret, [(2, V.c (C.bool false))], [Blk.cells (r.map (C.int .i64)) true]) else some (.exit 2, [(1, V.c (C.ptr 0 0)), (3, V.c (C.int .i64 i)), (4, V.c (C.int .i64 4)), (10, V.c (C.bool false))], [Blk.cells (r.map (C.int .i64)) true]) := by
        intro d
        induction d with
        | zero =>
          intro k hk
          have hk : k = 4 := by omega
          subst hk
          rw [← hL2, exI_loop', gcE_one (by simp) (by simp [envIds])]
          simp [anyFrom, pos]
        | succ d ih2 =>
          intro k hk
          have ih2 := ih2 (k + 1) (by omega)
          have hwk : IntKind.i64.wrap ((k : Int) + 1) = ((k + 1 : Nat) : Int) := by rw [wrapI (by omega) (by omega)]; rfl
          have hk' : (k : Int) < 4 := by omega
          have hk4 : k < 4 := by omega
          have hc58 := callA_pure (c_spec_l1In (cellAt r (i * 4 + k)) 0 5) (by simp) (by simp)
          have hx := hcell (i * 4 + k) (by omega)
          have hlen : i * 4 + k + 1 ≤ 24 := by omega
          rw [← hL2, exI_loop', gcE_one (by simp) (by simp [envIds])]
          by_cases h1 : (decide (0 ≤ cellAt r (i * 4 + k)) && decide (cellAt r (i * 4 + k) ≤ 5)) = true
          · rw [h1] at hc58
            by_cases h2 : 0 < k
            · have h2' : (0 : Int) < (k : Int) := by omega
              have hwk1 : IntKind.i64.wrap ((k : Int) - 1) = ((k - 1 : Nat) : Int) := by rw [wrapI (by omega) (by omega)]; omega
              have hk1 : k - 1 < 4 := by omega
              have hk1' : ((k - 1 : Nat) : Int) < 4 := by omega
              have hy := hcell (i * 4 + (k - 1)) (by omega)
              have hlen1 : i * 4 + (k - 1) + 1 ≤ 24 := by omega
              by_cases h3 : 0 < cellAt r (i * 4 + k)
              · by_cases h4 : cellAt r (i * 4 + (k - 1)) = 0
                · simp [pos, hi', hk', hi, hk4, hr, hx, hlen, hc58, h2, h2', h3, h4, hwk1, hk1, hk1', hy, hlen1, hwk, anyFrom, badP]
                · have hb : badP r i k = false := by simp [badP, h4]; simpa using h1
                  simp [pos, hi', hk', hi, hk4, hr, hx, hlen, hc58, h2, h2', h3, h4, hwk1, hk1, hk1', hy, hlen1, hwk, anyFrom, hb]
                  rw [hL2]; exact ih2
              · have hb : badP r i k = false := by simp [badP, h3]; simpa using h1
                simp [pos, hi', hk', hi, hk4, hr, hx, hlen, hc58, h2, h2', h3, hwk, anyFrom, hb]
                rw [hL2]; exact ih2
            · have h2' : ¬ (0 : Int) < (k : Int) := by omega
              have hb : badP r i k = false := by simp [badP, h2]; simpa using h1
              simp [pos, hi', hk', hi, hk4, hr, hx, hlen, hc58, h2, h2', hwk, anyFrom, hb]
              rw [hL2]; exact ih2
          · have h1 : (decide (0 ≤ cellAt r (i * 4 + k)) && decide (cellAt r (i * 4 + k) ≤ 5)) = false := by simpa using h1
            rw [h1] at hc58
            have hb : badP r i k = true := by unfold badP; rw [h1]; rfl
            simp [pos, hi', hk', hi, hk4, hr, hx, hlen, hc58, anyFrom, hb]
      have k2 := key2 4 0 rfl
      push_cast at k2
      rw [show anyFrom (badP r i) 0 4 = rowBad r i from rfl] at k2
      rw [k2]
      by_cases hb : rowBad r i = true
      · simp [hb, anyFrom]
      · have hb : rowBad r i = false := by simpa using hb
        rw [hb]
        simp [hw]
        rw [← hL2, hL1]
        exact ih.trans (by simp [anyFrom, hb])
  exact key 6 0 rfl
theorem len24 {r : List Int} (h : r.length = 24) : ∃ a0 a1 a2 a3 a4 a5 a6 a7 a8 a9 a10 a11 a12 a13 a14 a15 a16 a17 a18 a19 a20 a21 a22 a23, r = [a0, a1, a2, a3, a4, a5, a6, a7, a8, a9, a10, a11, a12, a13, a14, a15, a16, a17, a18, a19, a20, a21, a22, a23] := by
  match r, h with
  | [a0, a1, a2, a3, a4, a5, a6, a7, a8, a9, a10, a11, a12, a13, a14, a15, a16, a17, a18, a19, a20, a21, a22, a23], _ => exact ⟨a0, a1, a2, a3, a4, a5, a6, a7, a8, a9, a10, a11, a12, a13, a14, a15, a16, a17, a18, a19, a20, a21, a22, a23, rfl⟩
theorem tube_eq (a b c d : Int) : tubeP [a, b, c, d] = !(!(decide (0 ≤ a) && decide (a ≤ 5)) || (!(decide (0 ≤ b) && decide (b ≤ 5)) || (decide (0 < b) && decide (a = 0))) || (!(decide (0 ≤ c) && decide (c ≤ 5)) || (decide (0 < c) && decide (b = 0))) || (!(decide (0 ≤ d) && decide (d ≤ 5)) || (decide (0 < d) && decide (c = 0)))) := by
  rw [Bool.eq_iff_iff]
  by_cases ha : a = 0 <;> by_cases hb : b = 0 <;> by_cases hc : c = 0 <;> by_cases hd : d = 0 <;> simp [tubeP, layN, colP, ha, hb, hc, hd] <;> omega
theorem rack_eq (r : List Int) (hr : r.length = 24) : rackP r = !anyFrom (rowBad r) 0 6 := by
  have key : ∀ a b c d : Int, tubeP [a, b, c, d] = !(!(decide (0 ≤ a) && decide (a ≤ 5)) || (!(decide (0 ≤ b) && decide (b ≤ 5)) || (decide (0 < b) && decide (a = 0))) || (!(decide (0 ≤ c) && decide (c ≤ 5)) || (decide (0 < c) && decide (b = 0))) || (!(decide (0 ≤ d) && decide (d ≤ 5)) || (decide (0 < d) && decide (c = 0)))) := tube_eq
  obtain ⟨a0, a1, a2, a3, a4, a5, a6, a7, a8, a9, a10, a11, a12, a13, a14, a15, a16, a17, a18, a19, a20, a21, a22, a23, rfl⟩ := len24 hr
  simp [rackP, tubesFrom, anyFrom, rowBad, badP, cellAt, key, -Bool.not_or, -Bool.not_and, -Bool.decide_and, -Bool.decide_or, Bool.or_assoc]
  simp only [Bool.not_or, Bool.and_assoc]
end Go.Proofs.YthpookdfaikabaaGreatDoor.AM

namespace Go.Proofs.YthpookdfaikabaaGreatDoor.AM
open Go
set_option maxRecDepth 100000
set_option linter.unusedSimpArgs false
def barC (r : List Int) (m n : Int) : List C := r.map (C.int .i64) ++ [.int .i64 m, .int .i64 n]
theorem barC_ids (r : List Int) (m n : Int) : cids (barC r m n) = [] := by
  have : barC r m n = (r ++ [m, n]).map (C.int .i64) := by simp [barC]
  rw [this, cids_ints]
end Go.Proofs.YthpookdfaikabaaGreatDoor.AM

namespace Go.Proofs.YthpookdfaikabaaGreatDoor.AM
open Go
set_option maxRecDepth 100000
set_option linter.unusedSimpArgs false
theorem barC_parts (r : List Int) (hr : r.length = 24) (m n : Int) : (barC r m n).length = 26 ∧ (barC r m n).take 24 = r.map (C.int .i64) ∧ (barC r m n).drop 24 = [C.int .i64 m, C.int .i64 n] ∧ (barC r m n).drop 25 = [C.int .i64 n] ∧ (barC r m n).take 26 = barC r m n := by
  refine ⟨by simp [barC, hr], ?_, ?_, ?_, List.take_of_length_le (by simp [barC, hr])⟩
  · unfold barC; rw [List.take_append_of_le_length (by simp; omega), List.take_of_length_le (by simp; omega)]
  · unfold barC; rw [List.drop_append_of_le_length (by simp; omega), List.drop_of_length_le (by simp; omega)]; rfl
  · have h25 : (barC r m n).drop 24 = [C.int .i64 m, C.int .i64 n] := by unfold barC; rw [List.drop_append_of_le_length (by simp; omega), List.drop_of_length_le (by simp; omega)]; rfl
    rw [show 25 = 24 + 1 from rfl, ← List.drop_drop, h25]; rfl
def okRack (r : List Int) : Bool := !anyFrom (rowBad r) 0 6
theorem barC_zero : barC (List.replicate 24 0) 0 0 = List.replicate 26 (C.int .i64 0) := by decide
def newBar (r : List Int) : V := .tup [.agg (if okRack r then barC r 0 0 else List.replicate 26 (C.int .i64 0)), .c (.bool (okRack r))]
end Go.Proofs.YthpookdfaikabaaGreatDoor.AM

namespace Go.Proofs.YthpookdfaikabaaGreatDoor.AM
open Go
set_option maxRecDepth 100000
set_option linter.unusedSimpArgs false
set_option linter.unusedVariables false
theorem setAt_all (cs xs : List C) (h : (xs.length == cs.length) = true) : setAt cs 0 xs = xs := by
  have h : xs.length = cs.length := by simpa using h
  apply List.ext_getElem?
  intro j
  rw [setAt_get xs cs 0 j (by omega)]
  by_cases hj : j < xs.length
  · rw [if_pos (by omega)]; rfl
  · rw [if_neg (by omega), List.getElem?_eq_none (by omega), List.getElem?_eq_none (by omega)]
theorem newBar_eq (r : List Int) (hr : r.length = 24) : ∃ s : List Int, s.length = 24 ∧ newBar r = .tup [.agg (barC s 0 0), .c (.bool (okRack r))] := by
  unfold newBar
  cases okRack r with
  | true => exact ⟨r, hr, by simp⟩
  | false => exact ⟨List.replicate 24 0, by simp, by rw [barC_zero]; simp⟩
theorem noDead_bar (r : List Int) (m n : Int) : noDead (barC r m n) = true := by
  have : barC r m n = (r ++ [m, n]).map (C.int .i64) := by simp [barC]
  rw [this, noDead_ints]
/-- a console's cells -/
def conC (r : List Int) (m n : Int) : List C := barC r m n ++ [.str [], .str [], .int .i64 0]
theorem conC_ids (r : List Int) (m n : Int) : cids (conC r m n) = [] := by
  have : ∀ (a b : List C), cids (a ++ b) = cids a ++ cids b := by
    intro a b
    induction a with
    | nil => rfl
    | cons c a ih => simp [cids, ih]
  unfold conC
  rw [this, barC_ids]
  rfl
theorem noDead_app : ∀ (a b : List C), noDead a = true → noDead b = true → noDead (a ++ b) = true
  | [], _, _, h => h
  | c :: a, b, h, h2 => by cases c <;> simp_all [noDead, noDead_app a b]
theorem conC_parts (r : List Int) (hr : r.length = 24) (m n : Int) : (conC r m n).length = 29 ∧ (conC r m n).take 26 = barC r m n ∧ (conC r m n).drop 26 = [C.str [], C.str [], C.int .i64 0] ∧ (conC r m n).take 29 = conC r m n ∧ noDead (conC r m n) = true := by
  have hl : (barC r m n).length = 26 := by simp [barC, hr]
  refine ⟨by simp [conC, hl], ?_, ?_, List.take_of_length_le (by simp [conC, hl]), noDead_app _ _ (noDead_bar r m n) rfl⟩
  · unfold conC; rw [List.take_append_of_le_length (by omega), List.take_of_length_le (by omega)]
  · unfold conC; rw [List.drop_append_of_le_length (by omega), List.drop_of_length_le (by omega)]; rfl
def okBar (r : List Int) (m n : Int) : Bool := okRack r && (decide (0 ≤ m) && decide (m ≤ 9999)) && (decide (0 ≤ n) && decide (n ≤ 1000))
def newCon (r : List Int) (m n : Int) : V := .tup [.agg (if okBar r m n then conC r m n else conC (List.replicate 24 0) 0 0), .c (.bool (okBar r m n))]
theorem newCon_eq (r : List Int) (hr : r.length = 24) (m n : Int) : ∃ (s : List Int) (x y : Int), s.length = 24 ∧ newCon r m n = .tup [.agg (conC s x y), .c (.bool (okBar r m n))] := by
  unfold newCon
  cases okBar r m n with
  | true => exact ⟨r, m, n, hr, by simp⟩
  | false => exact ⟨List.replicate 24 0, 0, 0, by simp, by simp⟩
theorem len26 (r : List Int) (hr : r.length = 24) (m n : Int) : ∃ x0 x1 x2 x3 x4 x5 x6 x7 x8 x9 x10 x11 x12 x13 x14 x15 x16 x17 x18 x19 x20 x21 x22 x23, r = [x0, x1, x2, x3, x4, x5, x6, x7, x8, x9, x10, x11, x12, x13, x14, x15, x16, x17, x18, x19, x20, x21, x22, x23] := len24 hr
end Go.Proofs.YthpookdfaikabaaGreatDoor.AM

