import Derived.Test.YtenheijeahpbkaaT4
namespace Go.Proofs.Ytenheijeahpbkaa.AM
open Go
set_option maxRecDepth 100000
set_option linter.unusedSimpArgs false
def IsT (g : Nat) (p : List Int → Bool) : Prop := ∀ t : List Int, t.length = 4 → fnI pr np g [.agg (t.map (C.int .i64))] [] = some (.c (.bool (p t)), [])
theorem c80 {g : Nat} {p : List Int → Bool} (hg : IsT g p) (t : List Int) (ht : t.length = 4) : fnI pr np 80 [.agg (t.map (C.int .i64)), .c (.ptr 0 0)] [.cells [.fn g []] true] = some (.c (.bool (!p t)), [.cells [.fn g []] true]) := by
  have hl4 : (t.map (C.int .i64)).take 4 = t.map (C.int .i64) := List.take_of_length_le (by simp; omega)
  have hc := callA_pure (hg t ht) (by simp) (by simp)
  rw [fb (fn := a80) rfl rfl]
  simp [a80, hc, ht, hl4, cut_old', wfH]
def tubesFrom (r : List Int) (i : Nat) : Nat → List (List Int)
  | 0 => []
  | k + 1 => ((r.drop (i * 4)).take 4) :: tubesFrom r (i + 1) k
def firstT (p : List Int → Bool) : List (List Int) → Int → Int
  | [], _ => -1
  | x :: r, i => if p x then firstT p r (i + 1) else i
theorem firstT_ge (p : List Int → Bool) : ∀ (l : List (List Int)) (i : Int), 0 ≤ i → decide (firstT p l i ≥ 0) = !(l.all p)
  | [], i, _ => by simp [firstT]
  | x :: r, i, h => by
    have := firstT_ge p r (i + 1) (by omega)
    by_cases hp : p x
    · simpa [firstT, hp] using this
    · simp [firstT, hp, h]
theorem c92 {g : Nat} {p : List Int → Bool} (hg : IsT g p) (r : List Int) (n : Nat) (hl : n * 4 ≤ r.length) (hn : n < 1000000) (own : Bool) :
    fnI pr np 92 [.c (.sl 0 0 n 4), .c (.fn 80 [(1, 0)])] [.cells (r.map (C.int .i64)) own, .cells [.fn g []] true] = some (.c (.int .i64 (firstT p (tubesFrom r 0 n) 0)), [.cells (r.map (C.int .i64)) own, .cells [.fn g []] true]) := by
  rw [fb (fn := a92) rfl rfl]
  simp [a92]
  generalize hL : (ACode.loop _ _) = L
  generalize hR : (ACode.seq _ ACode.ret) = R
  have key : ∀ (d i : Nat), i + d = n → leaveK 2 [RV.t 4] (seqK pr np 2 R (blockK 0 (exI pr np 2 L [(0, V.c (C.sl 0 0 n 4)), (1, V.c (C.fn 80 [(1, 0)])), (7, V.c (C.int IntKind.i64 ↑n)), (8, V.c (C.int IntKind.i64 ↑i))] [Blk.cells (List.map (C.int IntKind.i64) r) own, Blk.cells [C.fn g []] true]))) = some (V.c (C.int IntKind.i64 (firstT p (tubesFrom r i d) i)), [Blk.cells (List.map (C.int IntKind.i64) r) own, Blk.cells [C.fn g []] true]) := by
    intro d
    induction d with
    | zero =>
      intro i hi
      have hi : i = n := by omega
      subst hi
      rw [← hL, exI_loop']
      simp [gcE_old', wfH, firstT, tubesFrom, ← hR, cut_old']
    | succ d ih =>
      intro i hin
      have hi : i < n := by omega
      have hlen : i * 4 + 4 ≤ r.length := by omega
      have ht4 : ((r.drop (i * 4)).take 4).length = 4 := by simp; omega
      have hm : ((r.map (C.int .i64)).drop (i * 4)).take 4 = ((r.drop (i * 4)).take 4).map (C.int .i64) := by simp
      have hcall := fun base => callA_at (F := fnI pr np) (f := 80) (x := .agg (((r.drop (i * 4)).take 4).map (C.int .i64))) (i := 1) (H := lkp [Blk.cells (List.map (C.int IntKind.i64) r) own, Blk.cells [C.fn g []] true]) (b := .cells [.fn g []] true) rfl (cids_ints _ _) rfl (c80 hg _ ht4) rfl base
      simp only [List.map_take, List.map_drop] at hcall
      have hw : IntKind.i64.wrap ((i : Int) + 1) = ((i + 1 : Nat) : Int) := by rw [wrapI (by omega) (by omega)]; rfl
      have ih := ih (i + 1) (by omega)
      rw [← hL, exI_loop']
      by_cases hp : p ((r.drop (i * 4)).take 4)
      · simp [gcE_old', wfH, hi, hlen, hcall, hp, hw, firstT, tubesFrom]
        rw [hL]
        exact ih
      · simp [gcE_old', wfH, hi, hlen, hcall, hp, hw, firstT, tubesFrom, cut_old']
  exact key n 0 (by simp)
theorem c79 {g : Nat} {p : List Int → Bool} (hg : IsT g p) (r : List Int) (n : Nat) (hl : n * 4 ≤ r.length) (hn : n < 1000000) (own : Bool) :
    fnI pr np 79 [.c (.sl 0 0 n 4), .c (.fn 80 [(1, 0)])] [.cells (r.map (C.int .i64)) own, .cells [.fn g []] true] = some (.c (.bool (!(tubesFrom r 0 n).all p)), [.cells (r.map (C.int .i64)) own, .cells [.fn g []] true]) := by
  have hc := fun base => callA_gen (F := fnI pr np) (f := 92) (args := [.c (.sl 0 0 n 4), .c (.fn 80 [(1, 0)])]) (H := lkp [.cells (r.map (C.int .i64)) own, .cells [.fn g []] true]) (L := [0, 1]) (by simp [reach, idsAt]) (by simp [closed, inL, idsAt]) (by simp [sub]) (by simp [pos]) (c92 hg r n hl hn own) (by simp) base
  rw [fb (fn := a79) rfl rfl]
  simp [a79, hc, cut_old', wfH, ← firstT_ge p _ 0]
theorem c59 {g : Nat} {p : List Int → Bool} (hg : IsT g p) (r : List Int) (n : Nat) (hl : n * 4 ≤ r.length) (hn : n < 1000000) (own : Bool) :
    fnI pr np 59 [.c (.sl 0 0 n 4), .c (.fn g [])] [.cells (r.map (C.int .i64)) own] = some (.c (.bool ((tubesFrom r 0 n).all p)), [.cells (r.map (C.int .i64)) own]) := by
  have hc := fun base => callA_gen (F := fnI pr np) (f := 79) (args := [.c (.sl 0 0 n 4), .c (.fn 80 [(1, 0)])]) (H := lkp [.cells (r.map (C.int .i64)) own, .cells [.fn g []] true]) (L := [0, 1]) (by simp [reach, idsAt]) (by simp [closed, inL, idsAt]) (by simp [sub]) (by simp [pos]) (c79 hg r n hl hn own) (by simp) base
  rw [fb (fn := a59) rfl rfl]
  simp [a59, hc, cut_old', wfH]
def rackP (r : List Int) : Bool := (tubesFrom r 0 6).all tubeP
theorem c36 (r : List Int) (hr : r.length = 24) : fnI pr np 36 [.agg (r.map (C.int .i64))] [] = some (.c (.bool (rackP r)), []) := by
  have hc := fun base => callA_gen (F := fnI pr np) (f := 59) (args := [.c (.sl 0 0 6 4), .c (.fn 60 [])]) (H := lkp [.cells (r.map (C.int .i64)) true]) (L := [0]) (by simp [reach, idsAt]) (by simp [closed, inL, idsAt]) (by simp [sub]) (by simp [pos]) (c59 (g := 60) (p := tubeP) c60 r 6 (by omega) (by omega) true) (by simp) base
  rw [fb (fn := a36) rfl rfl]
  simp [a36, hc, hr, rackP]
theorem c12 (r : List Int) (hr : r.length = 24) (m n : Int) : fnI pr np 12 [.agg (r.map (C.int .i64) ++ [.int .i64 m, .int .i64 n])] [] = some (.c (.bool (rackP r && (decide (0 ≤ m) && decide (m ≤ 9999)) && (decide (0 ≤ n) && decide (n ≤ 1000)))), []) := by
  have hc36 := callA_pure (c36 r hr) (by simp) (by simp)
  have hcm := callA_pure (c37 m 0 9999) (by simp) (by simp)
  have hcn := callA_pure (c37 n 0 1000) (by simp) (by simp)
  have h24 : (r.map (C.int .i64) ++ [C.int .i64 m, C.int .i64 n]).take 24 = r.map (C.int .i64) := by rw [List.take_append_of_le_length (by simp; omega), List.take_of_length_le (by simp; omega)]
  have h25 : (r.map (C.int .i64) ++ [C.int .i64 m, C.int .i64 n]).drop 24 = [C.int .i64 m, C.int .i64 n] := by rw [List.drop_append_of_le_length (by simp; omega), List.drop_of_length_le (by simp; omega)]; rfl
  have h26 : (r.map (C.int .i64) ++ [C.int .i64 m, C.int .i64 n]).drop 25 = [C.int .i64 n] := by rw [show 25 = 24 + 1 from rfl, ← List.drop_drop, h25]; rfl
  have hids : cids (r.map (C.int .i64) ++ [C.int .i64 m, C.int .i64 n]) = [] := by
    have : r.map (C.int .i64) ++ [C.int .i64 m, C.int .i64 n] = (r ++ [m, n]).map (C.int .i64) := by simp
    rw [this, cids_ints]
  rw [fb (fn := a12) rfl rfl]
  by_cases h1 : rackP r = true <;> by_cases h2 : (decide (0 ≤ m) && decide (m ≤ 9999)) = true <;> (try simp only [Bool.not_eq_true] at h1 h2) <;> simp only [h1, h2] at hc36 hcm <;> simp [a12, hr, h24, h25, h26, hc36, hcm, hcn, h1, h2, -Bool.and_eq_true, -decide_eq_true_eq]
end Go.Proofs.Ytenheijeahpbkaa.AM
