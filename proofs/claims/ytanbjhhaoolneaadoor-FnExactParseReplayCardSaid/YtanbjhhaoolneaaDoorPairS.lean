import Derived.Test.YtanbjhhaoolneaaDoorEndGame
/- Contracts: what the laws ask of a list of pairs, of a list of ints: equal, marked, held. -/
namespace Go.Proofs.YtanbjhhaoolneaaDoor.AM
open Go
set_option maxRecDepth 1000000
set_option linter.unusedSimpArgs false
set_option linter.unusedVariables false
theorem c_laws_eqIntA2 (a b : Int) : fnI pr np 27 [.agg [.int .i64 a, .int .i64 b], .agg [.int .i64 a, .int .i64 b]] [] = some (.c (.bool true), []) := by
  rw [fb (fn := a27) rfl rfl rfl]
  simp [a27, exI_loop', IntKind.wrap, IntKind.bits, IntKind.signed]
theorem c_laws_eqIntA2S (l : List (Nat × Nat)) (z z' : List C) (hz : cids z = []) (hz' : cids z' = []) (hn : l.length < 1000000) (o o' : Bool) : fnI pr np 17 [.c (.sl 0 0 l.length 2), .c (.sl 1 0 l.length 2)] [.cells (flatC l ++ z) o, .cells (flatC l ++ z') o'] = some (.c (.bool true), [.cells (flatC l ++ z) o, .cells (flatC l ++ z') o']) := by
  have m1 : ∀ g, cmp g z = z := fun g => cmp_pure hz
  have m2 : ∀ g, cmp g z' = z' := fun g => cmp_pure hz'
  rw [fb (fn := a17) rfl rfl rfl]
  simp [a17]
  rw [loop_to (fun i => ([(0, V.c (C.sl 0 0 l.length 2)), (1, V.c (C.sl 1 0 l.length 2)), (5, V.c (C.int .i64 i))], [.cells (flatC l ++ z) o, .cells (flatC l ++ z') o'])) l.length]
  · simp [hz, hz', m1, m2, sub]
  · simp [hz, hz', m1, m2, sub]
  · intro i hi
    have g1 := flatC_get l z i hi
    have g2 := flatC_get l z' i hi
    have hc := callA_pure (c_laws_eqIntA2 (l[i]'hi).1 (l[i]'hi).2) (by simp) (by simp)
    have wi := wrapS (k := i) (by omega)
    have b1 : i * 2 + 2 ≤ l.length * 2 + z.length := by omega
    have b2 : i * 2 + 2 ≤ l.length * 2 + z'.length := by omega
    simp [hi, g1, g2, hc, wi, b1, b2, hz, hz', m1, m2, sub]
theorem wz1 : IntKind.i64.wrap 1 = 1 := by decide
theorem wz2 : IntKind.i64.wrap 2 = 2 := by decide
/-- the mark of a cell -/
def mk1 (j : Nat) : Int := ((j + 1 : Nat) : Int)
def markC (n : Nat) : List C := (List.range n).map fun j => C.int .i64 (mk1 j)
theorem markC_ids (n : Nat) : cids (markC n) = [] := by
  have : markC n = ((List.range n).map mk1).map (C.int .i64) := by simp [markC]
  rw [this, cids_ints]
theorem markC_cmp (g : Nat → Nat) (n : Nat) : cmp g (markC n) = markC n := cmp_pure (markC_ids n)
theorem markC_len (n : Nat) : (markC n).length = n := by simp [markC]
theorem markC_succ (n : Nat) : markC (n + 1) = markC n ++ [C.int .i64 (mk1 n)] := by simp [markC, List.range_succ]
theorem mk1_wrap {j : Nat} (h : j < 1000000000) : IntKind.i64.wrap (mk1 j + 1) = mk1 (j + 1) := by
  unfold mk1; rw [wrapI (by omega) (by omega)]; omega
theorem mk1_pos (j : Nat) : ¬ mk1 j < 0 := by unfold mk1; omega
theorem markC_get {n j : Nat} (h : j < n) (z : List C) : ((markC n ++ z).drop j).take 1 = [C.int .i64 (mk1 j)] := by
  rw [List.drop_append_of_le_length (by rw [markC_len]; omega), List.drop_eq_getElem_cons (by rw [markC_len]; omega)]
  simp [markC]
theorem set_at (A B : List C) (x : C) {j : Nat} (hj : A.length = j) (hb : 0 < B.length) : (A ++ B).set j x = A ++ [x] ++ B.drop 1 := by
  rw [List.set_append_right _ _ (by omega), hj, Nat.sub_self]
  cases B with
  | nil => simp at hb
  | cons b B => simp
theorem mark_step (B : List C) (i : Nat) (hb : i < B.length) : (markC i ++ B.drop i).set i (C.int .i64 (mk1 i)) = markC (i + 1) ++ B.drop (i + 1) := by
  rw [set_at _ _ _ (markC_len i) (by simp; omega), markC_succ, List.drop_drop]
theorem c_laws_markIntA2S (l : List (Nat × Nat)) (z : List C) (hz : cids z = []) (hn : l.length < 1000000) : fnI pr np 18 [.c (.sl 0 0 l.length 2), .c (.int .i64 1)] [.cells (flatC l ++ z) true] = some (.c (.int .i64 (mk1 (l.length * 2))), [.cells (markC (l.length * 2) ++ z) true]) := by
  have hfl := flatC_len l
  have m1 : ∀ g, cmp g z = z := fun g => cmp_pure hz
  have hd : ∀ j, j ≤ l.length * 2 → (flatC l ++ z).drop j = (flatC l).drop j ++ z := fun j hj => List.drop_append_of_le_length (by omega)
  have hids : ∀ j, cids ((flatC l ++ z).drop j) = [] := fun j => by
    have : cids (flatC l ++ z) = [] := by simp [hz]
    have e := congrArg cids (List.take_append_drop j (flatC l ++ z))
    rw [cids_app, this] at e
    exact (List.append_eq_nil_iff.1 e).2
  have hcm : ∀ g j, cmp g ((flatC l ++ z).drop j) = (flatC l ++ z).drop j := fun g j => cmp_pure (hids j)
  rw [fb (fn := a18) rfl rfl rfl]
  simp [a18]
  rw [loop_to (fun i => ([(0, V.c (C.sl 0 0 l.length 2)), (1, V.c (C.int .i64 (mk1 (i * 2)))), (5, V.c (C.int .i64 i))], [.cells (markC (i * 2) ++ (flatC l ++ z).drop (i * 2)) true])) l.length]
  · have e : (flatC l ++ z).drop (l.length * 2) = z := List.drop_left' hfl
    simp [e, hz, m1, markC_ids, markC_cmp, sub]
  · simp [markC, mk1, hz, m1, sub]
  · intro i hi
    have wi := wrapS (k := i) (by omega)
    have w1 := mk1_wrap (j := i * 2) (by omega)
    have w2 := mk1_wrap (j := i * 2 + 1) (by omega)
    have e2 : (i + 1) * 2 = i * 2 + 1 + 1 := by omega
    have hL : (flatC l ++ z).length = l.length * 2 + z.length := by simp
    have s1 := mark_step (flatC l ++ z) (i * 2) (by omega)
    have s2 := mark_step (flatC l ++ z) (i * 2 + 1) (by omega)
    have L1 : (markC (i * 2) ++ (flatC l ++ z).drop (i * 2)).length = l.length * 2 + z.length := by rw [List.length_append, markC_len, List.length_drop]; omega
    have L2 : (markC (i * 2 + 1) ++ (flatC l ++ z).drop (i * 2 + 1)).length = l.length * 2 + z.length := by rw [List.length_append, markC_len, List.length_drop]; omega
    have b1 : i * 2 + 1 ≤ l.length * 2 + z.length := by omega
    have b2 : i * 2 + 1 + 1 ≤ l.length * 2 + z.length := by omega
    have h0 := hids (i * 2)
    have h1 := hids (i * 2 + 1)
    have h2 := hids (i * 2 + 1 + 1)
    have c0 := fun g => hcm g (i * 2)
    have c1 := fun g => hcm g (i * 2 + 1)
    have c2 := fun g => hcm g (i * 2 + 1 + 1)
    generalize (flatC l ++ z).drop (i * 2) = D0 at *
    generalize (flatC l ++ z).drop (i * 2 + 1) = D1 at *
    simp only [e2]
    generalize (flatC l ++ z).drop (i * 2 + 1 + 1) = D2 at *
    rw [List.length_append] at L1 L2
    simp [exI_loop', hi, wi, w1, w2, s1, s2, L1, L2, b1, b2, h0, h1, h2, c0, c1, c2, markC_ids, markC_cmp, sub, wz1, wz2]
theorem c_laws_heldIntA2S (n : Nat) (z : List C) (hz : cids z = []) (hn : n < 1000000) : fnI pr np 19 [.c (.sl 0 0 n 2), .c (.int .i64 1)] [.cells (markC (n * 2) ++ z) true] = some (.c (.int .i64 (mk1 (n * 2))), [.cells (markC (n * 2) ++ z) true]) := by
  have m1 : ∀ g, cmp g z = z := fun g => cmp_pure hz
  rw [fb (fn := a19) rfl rfl rfl]
  simp [a19]
  rw [loop_to (fun i => ([(0, V.c (C.sl 0 0 n 2)), (1, V.c (C.int .i64 (mk1 (i * 2)))), (5, V.c (C.int .i64 i))], [.cells (markC (n * 2) ++ z) true])) n]
  · simp [hz, m1, markC_ids, markC_cmp, sub]
  · simp [mk1, hz, m1, markC_ids, markC_cmp, sub]
  · intro i hi
    have wi := wrapS (k := i) (by omega)
    have w1 := mk1_wrap (j := i * 2) (by omega)
    have w2 := mk1_wrap (j := i * 2 + 1) (by omega)
    have e2 : (i + 1) * 2 = i * 2 + 1 + 1 := by omega
    have g1 := markC_get (n := n * 2) (j := i * 2) (by omega) z
    have g2 := markC_get (n := n * 2) (j := i * 2 + 1) (by omega) z
    have b1 : i * 2 + 1 ≤ n * 2 + z.length := by omega
    have b2 : i * 2 + 1 + 1 ≤ n * 2 + z.length := by omega
    have hl := markC_len (n * 2)
    simp only [e2]
    simp [exI_loop', hi, wi, w1, w2, g1, g2, b1, b2, hl, hz, m1, markC_ids, markC_cmp, sub, wz1, wz2]
end Go.Proofs.YtanbjhhaoolneaaDoor.AM
