import Derived.Test.YtenheijeahpbkaaAmCode
import Derived.Test.YtenheijeahpbkaaAmSimp
namespace Go.Proofs.Ytenheijeahpbkaa.AM
open Go
set_option maxRecDepth 100000
set_option linter.unusedSimpArgs false
theorem fb {f : Nat} {fn : AFn} (hp : pr f = some fn) {a : List V} (hl : a.length = fn.np) (h : Heap) : fnI pr np f a h = leaveK h.length fn.res (exI pr np h.length fn.body (enter a 0) h) := fnI_body' pr np rfl hp hl h
theorem c37 (a b c : Int) : fnI pr np 37 [.c (.int .i64 a), .c (.int .i64 b), .c (.int .i64 c)] [] = some (.c (.bool (decide (b ≤ a) && decide (a ≤ c))), []) := by
  rw [fb (fn := a37) rfl rfl]
  by_cases h1 : b ≤ a <;> simp [a37, h1]
theorem c58 (a b c : Int) : fnI pr np 58 [.c (.int .i64 a), .c (.int .i64 b), .c (.int .i64 c)] [] = some (.c (.bool (decide (b ≤ a) && decide (a ≤ c))), []) := by
  rw [fb (fn := a58) rfl rfl]
  by_cases h1 : b ≤ a <;> simp [a58, h1]
theorem c82 (a : Int) : fnI pr np 82 [.c (.int .i64 a)] [] = some (.c (.bool (decide (1 ≤ a) && decide (a ≤ 5))), []) := by
  rw [fb (fn := a82) rfl rfl]
  simp [a82, callA_pure (c37 _ _ _)]
theorem c83 (a : Int) : fnI pr np 83 [.c (.int .i64 a)] [] = some (.c (.bool (a == 0)), []) := by
  rw [fb (fn := a83) rfl rfl]
  simp [a83]
/-- what a function answers for an int -/
def IsP (g : Nat) (p : Int → Bool) : Prop := ∀ x, fnI pr np g [.c (.int .i64 x)] [] = some (.c (.bool (p x)), [])
theorem c86 {g : Nat} {p : Int → Bool} (hg : IsP g p) (x : Int) : fnI pr np 86 [.c (.int .i64 x), .c (.ptr 0 0)] [.cells [.fn g []] true] = some (.c (.bool (!p x)), [.cells [.fn g []] true]) := by
  rw [fb (fn := a86) rfl rfl]
  simp [a86, callA_pure (hg _), cut_old', wfH]
def firstNot (p : Int → Bool) : List Int → Int → Int
  | [], _ => -1
  | x :: r, i => if p x then firstNot p r (i + 1) else i
theorem c94 {g : Nat} {p : Int → Bool} (hg : IsP g p) (cs : List Int) (off n : Nat) (hl : off + n ≤ cs.length) (hn : n < 1000000) (own : Bool) :
    fnI pr np 94 [.c (.sl 0 off n 1), .c (.fn 86 [(1, 0)])] [.cells (cs.map (C.int .i64)) own, .cells [.fn g []] true] = some (.c (.int .i64 (firstNot p ((cs.drop off).take n) 0)), [.cells (cs.map (C.int .i64)) own, .cells [.fn g []] true]) := by
  rw [fb (fn := a94) rfl rfl]
  simp [a94]
  generalize hL : (ACode.loop _ _) = L
  generalize hR : (ACode.seq _ ACode.ret) = R
  have key : ∀ (l : List Int) (i : Nat), (cs.drop (off + i)).take (n - i) = l → i ≤ n → leaveK 2 [RV.t 4] (seqK pr np 2 R (blockK 0 (exI pr np 2 L [(0, V.c (C.sl 0 off n 1)), (1, V.c (C.fn 86 [(1, 0)])), (7, V.c (C.int IntKind.i64 ↑n)), (8, V.c (C.int IntKind.i64 ↑i))] [Blk.cells (List.map (C.int IntKind.i64) cs) own, Blk.cells [C.fn g []] true]))) = some (V.c (C.int IntKind.i64 (firstNot p l i)), [Blk.cells (List.map (C.int IntKind.i64) cs) own, Blk.cells [C.fn g []] true]) := by
    intro l
    induction l with
    | nil =>
      intro i hl1 hin
      have hi : i = n := by
        have := congrArg List.length hl1
        simp at this; omega
      subst hi
      rw [← hL, exI_loop']
      simp [gcE_old', wfH, firstNot, ← hR, cut_old']
    | cons x l ih =>
      intro i hl1 hin
      have hi : i < n := by
        have := congrArg List.length hl1
        simp at this; omega
      have hdrop : (cs.drop (off + i)) = x :: cs.drop (off + (i + 1)) := by
        rw [List.drop_eq_getElem_cons (show off + i < cs.length by omega)] at hl1 ⊢
        rw [show n - i = (n - (i + 1)) + 1 by omega, List.take_succ_cons] at hl1
        injection hl1 with h1 h2
        rw [h1]; rfl
      have hl2 : (cs.drop (off + (i + 1))).take (n - (i + 1)) = l := by
        rw [hdrop, show n - i = (n - (i + 1)) + 1 by omega, List.take_succ_cons] at hl1
        injection hl1
      have hd2 : (List.map (C.int .i64) cs).drop (off + i) = C.int .i64 x :: (List.map (C.int .i64) cs).drop (off + (i + 1)) := by
        rw [← List.map_drop, hdrop]; simp
      have hlen : off + i + 1 ≤ cs.length := by omega
      have hcall := fun base => callA_at (F := fnI pr np) (f := 86) (x := .c (.int .i64 x)) (i := 1) (H := lkp [Blk.cells (List.map (C.int IntKind.i64) cs) own, Blk.cells [C.fn g []] true]) (b := .cells [.fn g []] true) rfl rfl rfl (c86 hg x) rfl base
      have hw : IntKind.i64.wrap ((i : Int) + 1) = ((i + 1 : Nat) : Int) := by rw [wrapI (by omega) (by omega)]; rfl
      have ih := ih (i + 1) hl2 (by omega)
      rw [← hL, exI_loop']
      by_cases hp : p x
      · simp [gcE_old', wfH, hi, hlen, hd2, hcall, hp, hw, firstNot]
        rw [hL]
        exact ih
      · simp [gcE_old', wfH, hi, hlen, hd2, hcall, hp, hw, firstNot, cut_old']
  exact key _ 0 (by simp) (Nat.zero_le _)
end Go.Proofs.Ytenheijeahpbkaa.AM
