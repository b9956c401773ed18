import Derived.Test.YtenheijeahpbkaaT2
namespace Go.Proofs.Ytenheijeahpbkaa.AM
open Go
set_option maxRecDepth 100000
set_option linter.unusedSimpArgs false
theorem firstNot_ge (p : Int → Bool) : ∀ (l : List Int) (i : Int), 0 ≤ i → decide (firstNot p l i ≥ 0) = !(l.all p)
  | [], i, _ => by simp [firstNot]
  | x :: r, i, h => by
    have := firstNot_ge p r (i + 1) (by omega)
    by_cases hp : p x
    · simpa [firstNot, hp] using this
    · simp [firstNot, hp, h]
theorem c85 {g : Nat} {p : Int → Bool} (hg : IsP g p) (cs : List Int) (off n : Nat) (hl : off + n ≤ cs.length) (hn : n < 1000000) (own : Bool) :
    fnI pr np 85 [.c (.sl 0 off n 1), .c (.fn 86 [(1, 0)])] [.cells (cs.map (C.int .i64)) own, .cells [.fn g []] true] = some (.c (.bool (!((cs.drop off).take n).all p)), [.cells (cs.map (C.int .i64)) own, .cells [.fn g []] true]) := by
  have hc := fun base => callA_gen (F := fnI pr np) (f := 94) (args := [.c (.sl 0 off n 1), .c (.fn 86 [(1, 0)])]) (H := lkp [.cells (cs.map (C.int .i64)) own, .cells [.fn g []] true]) (L := [0, 1]) (by simp [reach, idsAt]) (by simp [closed, inL, idsAt]) (by simp [sub]) (by simp [pos]) (c94 hg cs off n hl hn own) (by simp) base
  rw [fb (fn := a85) rfl rfl]
  simp [a85, hc, cut_old', wfH, ← firstNot_ge p _ 0]
theorem c64 {g : Nat} {p : Int → Bool} (hg : IsP g p) (cs : List Int) (off n : Nat) (hl : off + n ≤ cs.length) (hn : n < 1000000) (own : Bool) :
    fnI pr np 64 [.c (.sl 0 off n 1), .c (.fn g [])] [.cells (cs.map (C.int .i64)) own] = some (.c (.bool (((cs.drop off).take n).all p)), [.cells (cs.map (C.int .i64)) own]) := by
  have hc := fun base => callA_gen (F := fnI pr np) (f := 85) (args := [.c (.sl 0 off n 1), .c (.fn 86 [(1, 0)])]) (H := lkp [.cells (cs.map (C.int .i64)) own, .cells [.fn g []] true]) (L := [0, 1]) (by simp [reach, idsAt]) (by simp [closed, inL, idsAt]) (by simp [sub]) (by simp [pos]) (c85 hg cs off n hl hn own) (by simp) base
  rw [fb (fn := a64) rfl rfl]
  simp [a64, hc, cut_old', wfH]
theorem c93 (y : Int) (cs : List Int) (off n : Nat) (hl : off + n ≤ cs.length) (hn : n < 1000000) (own : Bool) :
    fnI pr np 93 [.c (.sl 0 off n 1), .c (.int .i64 y)] [.cells (cs.map (C.int .i64)) own] = some (.c (.int .i64 (firstNot (fun x => !(y == x)) ((cs.drop off).take n) 0)), [.cells (cs.map (C.int .i64)) own]) := by
  rw [fb (fn := a93) rfl rfl]
  simp [a93]
  generalize hL : (ACode.loop _ _) = L
  generalize hR : (ACode.seq _ ACode.ret) = R
  have key : ∀ (l : List Int) (i : Nat), (cs.drop (off + i)).take (n - i) = l → i ≤ n → leaveK 1 [RV.t 4] (seqK pr np 1 R (blockK 0 (exI pr np 1 L [(0, V.c (C.sl 0 off n 1)), (1, V.c (C.int .i64 y)), (7, V.c (C.int IntKind.i64 ↑n)), (8, V.c (C.int IntKind.i64 ↑i))] [Blk.cells (List.map (C.int IntKind.i64) cs) own]))) = some (V.c (C.int IntKind.i64 (firstNot (fun x => !(y == x)) l i)), [Blk.cells (List.map (C.int IntKind.i64) cs) own]) := by
    intro l
    induction l with
    | nil =>
      intro i hl1 hin
      have hi : i = n := by
        have := congrArg List.length hl1
        simp at this; omega
      subst hi
      rw [← hL, exI_loop']
      simp [gcE_old', wfH, firstNot, ← hR, cut_old']
    | cons x l ih =>
      intro i hl1 hin
      have hi : i < n := by
        have := congrArg List.length hl1
        simp at this; omega
      have hdrop : (cs.drop (off + i)) = x :: cs.drop (off + (i + 1)) := by
        rw [List.drop_eq_getElem_cons (show off + i < cs.length by omega)] at hl1 ⊢
        rw [show n - i = (n - (i + 1)) + 1 by omega, List.take_succ_cons] at hl1
        injection hl1 with h1 h2
        rw [h1]; rfl
      have hl2 : (cs.drop (off + (i + 1))).take (n - (i + 1)) = l := by
        rw [hdrop, show n - i = (n - (i + 1)) + 1 by omega, List.take_succ_cons] at hl1
        injection hl1
      have hd2 : (List.map (C.int .i64) cs).drop (off + i) = C.int .i64 x :: (List.map (C.int .i64) cs).drop (off + (i + 1)) := by
        rw [← List.map_drop, hdrop]; simp
      have hlen : off + i + 1 ≤ cs.length := by omega
      have hw : IntKind.i64.wrap ((i : Int) + 1) = ((i + 1 : Nat) : Int) := by rw [wrapI (by omega) (by omega)]; rfl
      have ih := ih (i + 1) hl2 (by omega)
      rw [← hL, exI_loop']
      by_cases hp : y = x
      · simp [gcE_old', wfH, hi, hlen, hd2, hp, hw, firstNot, cut_old']
      · simp [gcE_old', wfH, hi, hlen, hd2, hp, hw, firstNot]
        rw [hL]
        exact ih
  exact key _ 0 (by simp) (Nat.zero_le _)
def lay (t : List Int) : Int := if firstNot (fun x => !((0 : Int) == x)) t 0 < 0 then 4 else firstNot (fun x => !((0 : Int) == x)) t 0
theorem c81 (t : List Int) (ht : t.length = 4) : fnI pr np 81 [.agg (t.map (C.int .i64))] [] = some (.c (.int .i64 (lay t)), []) := by
  have hc := fun base => callA_gen (F := fnI pr np) (f := 93) (args := [.c (.sl 0 0 4 1), .c (.int .i64 0)]) (H := lkp [.cells (t.map (C.int .i64)) true]) (L := [0]) (by simp [reach, idsAt]) (by simp [closed, inL, idsAt]) (by simp [sub]) (by simp [pos]) (c93 0 t 0 4 (by omega) (by omega) true) (by simp) base
  rw [fb (fn := a81) rfl rfl]
  have ht2 : t.take 4 = t := List.take_of_length_le (by omega)
  by_cases h : firstNot (fun x => !((0 : Int) == x)) t 0 < 0
  · simp [a81, hc, ht, ht2, h, lay]
  · simp [a81, hc, ht, ht2, h, lay]
end Go.Proofs.Ytenheijeahpbkaa.AM
