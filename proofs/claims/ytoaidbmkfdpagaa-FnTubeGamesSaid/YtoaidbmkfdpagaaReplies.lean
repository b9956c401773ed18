import Derived.Test.YtoaidbmkfdpagaaPairS
/- Contracts: CountReplies; EndPours. -/
namespace Go.Proofs.Ytoaidbmkfdpagaa.AM
open Go
set_option maxRecDepth 1000000
set_option linter.unusedSimpArgs false
set_option linter.unusedVariables false
def repN (r : List Int) (p : Nat × Nat) : Int := ((usefulL (pourR r p.1 p.2)).length : Int)
def repTo (r : List Int) (k : Nat) : List Int := ((usefulL r).take k).map (repN r)
def repAll (r : List Int) : List Int := (usefulL r).map (repN r)
theorem repAll_len (r : List Int) : (repAll r).length = (usefulL r).length := by simp [repAll]
theorem repTo_all (r : List Int) : repTo r (usefulL r).length = repAll r := by unfold repTo repAll; rw [List.take_length]
theorem repTo_zero (r : List Int) : repTo r 0 = [] := rfl
def repL (r : List Int) : List Int := if okRack r = true then repAll r else []
theorem repTo_len (r : List Int) {k : Nat} (hk : k ≤ (usefulL r).length) : (repTo r k).length = k := by simp [repTo]; omega
theorem repTo_succ (r : List Int) {k : Nat} (hk : k < (usefulL r).length) : repTo r (k + 1) = repTo r k ++ [repN r ((usefulL r)[k]'hk)] := by
  unfold repTo; rw [take_snoc hk, List.map_append]; rfl
theorem repL_len (r : List Int) : (repL r).length ≤ 36 := by
  unfold repL
  split
  · rw [repAll_len]; exact usefulL_len r
  · simp
theorem ints_take (l : List Int) : (l.map (C.int .i64)).take l.length = l.map (C.int .i64) := List.take_of_length_le (by simp)
theorem ints_app (l : List Int) (x : Int) : l.map (C.int .i64) ++ [C.int .i64 x] = (l ++ [x]).map (C.int .i64) := by simp
theorem ints_app_ids (l : List Int) (x : Int) : cids (l.map (C.int .i64) ++ [C.int .i64 x]) = [] := by rw [ints_app, cids_ints]
def replyV (r : List Int) : V × Heap := (.tup [.c (.sl 0 0 (repL r).length 1), .c (.bool (okRack r))], [.cells ((repL r).map (C.int .i64)) true])
/-! ### the pours with the value of the game to the end -/
def endOut (n : Nat) (r : List Int) (k : Nat) : List (Nat × Nat) := ((usefulL r).take k).filter fun p => decide (endF n r p = endV (n + 1) r)
def endPad (n : Nat) (r : List Int) : List C := List.replicate (((usefulL r).length - (endOut n r (usefulL r).length).length) * 2) (C.int .i64 0) ++ padC r
theorem endOut_len (n : Nat) (r : List Int) (k : Nat) : (endOut n r k).length ≤ k := Nat.le_trans (List.length_filter_le _ _) (by simp; omega)
theorem endOut_succ (n : Nat) (r : List Int) {k : Nat} (hk : k < (usefulL r).length) : endOut n r (k + 1) = endOut n r k ++ if endF n r ((usefulL r)[k]'hk) = endV (n + 1) r then [(usefulL r)[k]'hk] else [] := by
  unfold endOut
  rw [take_snoc hk, List.filter_append]
  congr 1
  by_cases h : endF n r ((usefulL r)[k]'hk) = endV (n + 1) r <;> simp [h]
theorem endF_wrap (n : Nat) (r : List Int) (p : Nat × Nat) : IntKind.i64.wrap (-(endV n (pourR r p.1 p.2))) = endF n r p := by
  have := endV_range n (pourR r p.1 p.2)
  rw [wrapI (by omega) (by omega)]; rfl
def gameB (r : List Int) (n : Int) (a : Int) : Bool := okRack r && inB n a 3
def endPL (r : List Int) (n : Int) : List (Nat × Nat) := if gameB r n 1 = true then endOut (n.toNat - 1) r (usefulL r).length else []
def endPZ (r : List Int) (n : Int) : List C := if gameB r n 1 = true then endPad (n.toNat - 1) r else []
def pairV (l : List (Nat × Nat)) (z : List C) (q : Bool) : V × Heap := (.tup [.c (.sl 0 0 l.length 2), .c (.bool q)], [.cells (flatC l ++ z) true])
theorem endPad_ids (n : Nat) (r : List Int) : cids (endPad n r) = [] := by simp [endPad]
theorem endPad_cmp (g : Nat → Nat) (n : Nat) (r : List Int) : cmp g (endPad n r) = endPad n r := cmp_pure (endPad_ids n r)
end Go.Proofs.Ytoaidbmkfdpagaa.AM
