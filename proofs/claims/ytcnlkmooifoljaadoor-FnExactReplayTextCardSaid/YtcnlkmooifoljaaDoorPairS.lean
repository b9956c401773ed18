import Derived.Test.YtcnlkmooifoljaaDoorEndGame
/- Contracts: what the laws ask of a list of pairs, of a list of ints: equal, marked, held. -/
namespace Go.Proofs.YtcnlkmooifoljaaDoor.AM
open Go
set_option maxRecDepth 1000000
set_option linter.unusedSimpArgs false
set_option linter.unusedVariables false
theorem c_laws_eqIntA2 (a b : Int) : fnI pr np 27 [.agg [.int .i64 a, .int .i64 b], .agg [.int .i64 a, .int .i64 b]] [] = some (.c (.bool true), []) := by
  rw [fb (fn := a27) rfl rfl rfl]
  simp [a27, exI_loop', IntKind.wrap, IntKind.bits, IntKind.signed]
theorem c_laws_eqIntA2S (l : List (Nat × Nat)) (z z' : List C) (hz : cids z = []) (hz' : cids z' = []) (hn : l.length < 1000000) (o o' : Bool) : fnI pr np 17 [.c (.sl 0 0 l.length 2), .c (.sl 1 0 l.length 2)] [.cells (flatC l ++ z) o, .cells (flatC l ++ z') o'] = some (.c (.bool true), [.cells (flatC l ++ z) o, .cells (flatC l ++ z') o']) := by
  have m1 : ∀ g, cmp g z = z := fun g => cmp_pure hz
  have m2 : ∀ g, cmp g z' = z' := fun g => cmp_pure hz'
  rw [fb (fn := a17) rfl rfl rfl]
  simp [a17]
  rw [loop_to (fun i => ([(0, V.c (C.sl 0 0 l.length 2)), (1, V.c (C.sl 1 0 l.length 2)), (5, V.c (C.int .i64 i))], [.cells (flatC l ++ z) o, .cells (flatC l ++ z') o'])) l.length]
  · simp [hz, hz', m1, m2, sub]
  · simp [hz, hz', m1, m2, sub]
  · intro i hi
    have g1 := flatC_get l z i hi
    have g2 := flatC_get l z' i hi
    have hc := callA_pure (c_laws_eqIntA2 (l[i]'hi).1 (l[i]'hi).2) (by simp) (by simp)
    have wi := wrapS (k := i) (by omega)
    have b1 : i * 2 + 2 ≤ l.length * 2 + z.length := by omega
    have b2 : i * 2 + 2 ≤ l.length * 2 + z'.length := by omega
    simp [hi, g1, g2, hc, wi, b1, b2, hz, hz', m1, m2, sub]
theorem wz1 : IntKind.i64.wrap 1 = 1 := by decide
theorem wz2 : IntKind.i64.wrap 2 = 2 := by decide
/-- the mark of a cell -/
def mk1 (j : Nat) : Int := ((j + 1 : Nat) : Int)
def markC (n : Nat) : List C := (List.range n).map fun j => C.int .i64 (mk1 j)
theorem markC_ids (n : Nat) : cids (markC n) = [] := by
  have : markC n = ((List.range n).map mk1).map (C.int .i64) := by simp [markC]
  rw [this, cids_ints]
theorem markC_cmp (g : Nat → Nat) (n : Nat) : cmp g (markC n) = markC n := cmp_pure (markC_ids n)
theorem markC_len (n : Nat) : (markC n).length = n := by simp [markC]
theorem markC_succ (n : Nat) : markC (n + 1) = markC n ++ [C.int .i64 (mk1 n)] := by simp [markC, List.range_succ]
theorem mk1_wrap {j : Nat} (h : j < 1000000000) : IntKind.i64.wrap (mk1 j + 1) = mk1 (j + 1) := by
  unfold mk1; rw [wrapI (by omega) (by omega)]; omega
theorem mk1_pos (j : Nat) : ¬ mk1 j < 0 := by unfold mk1; omega
theorem markC_get {n j : Nat} (h : j < n) (z : List C) : ((markC n ++ z).drop j).take 1 = [C.int .i64 (mk1 j)] := by
  rw [List.drop_append_of_le_length (by rw [markC_len]; omega), List.drop_eq_getElem_cons (by rw [markC_len]; omega)]
  simp [markC]
theorem set_at (A B : List C) (x : C) {j : Nat} (hj : A.length = j) (hb : 0 < B.length) : (A ++ B).set j x = A ++ [x] ++ B.drop 1 := by
  rw [List.set_append_right _ _ (by omega), hj, Nat.sub_self]
  cases B with
  | nil => simp at hb
  | cons b B => simp
theorem mark_step (B : List C) (i : Nat) (hb : i < B.length) : (markC i ++ B.drop i).set i (C.int .i64 (mk1 i)) = markC (i + 1) ++ B.drop (i + 1) := by
  rw [set_at _ _ _ (markC_len i) (by simp; omega), markC_succ, List.drop_drop]
end Go.Proofs.YtcnlkmooifoljaaDoor.AM
