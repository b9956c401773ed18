import Derived.Test.YtgmamngkkpadhaaTubeGame
/- The laws about the pours of a game. -/
namespace Go.Proofs.Ytgmamngkkpadhaa.AM
open Go
set_option maxRecDepth 1000000
set_option linter.unusedSimpArgs false
set_option linter.unusedVariables false
theorem c_laws_FnExactEndPours (r : List Int) (hr : r.length = 24) (n : Int) (_ : -9223372036854775808 ≤ n ∧ n < 9223372036854775808) : fnI pr np 12 [.agg (r.map (C.int .i64)), .c (.int .i64 n)] [] = some (.c (.bool true), []) := by
  have h24 := take24 hr
  have ht := callA_pure (c_laws_toRack r hr) (by simp) (by simp)
  have hs := callA_new (c_spec_EndPours r hr n) (by simp)
  have hi := callA_new (c_impl_EndPours r hr n) (by simp)
  have hl := endPL_len r n
  have hz := endPZ_ids r n
  unfold pairV at hs hi
  generalize endPL r n = l at hs hi hl
  generalize endPZ r n = z at hi hz
  generalize gameB r n 1 = q at hs hi
  have hm : ∀ g, cmp g z = z := fun g => cmp_pure hz
  have hn0 : cids ([] : List C) = [] := rfl
  have eq := c_laws_eqIntA2S l z [] hz hn0 (by omega) true true
  have mk := c_laws_markIntA2S l z hz (by omega)
  have hd := c_laws_heldIntA2S l.length z hz (by omega)
  simp only [List.append_nil] at eq hs
  have e1 := fun base => callA_gen (F := fnI pr np) (f := 59) (args := [.c (.sl 2 0 l.length 2), .c (.sl 1 0 l.length 2)]) (H := lkp [.cells (r.map (C.int .i64)) true, .cells (flatC l) true, .cells (flatC l ++ z) true]) (L := [2, 1]) (by simp [hz, markC_ids]) (by simp [hz, markC_ids]) (by simp [sub, hm, markC_cmp]) (by simp) (eq) (by simp) base
  have m1 := fun base => callA_gen (F := fnI pr np) (f := 66) (args := [.c (.sl 2 0 l.length 2), .c (.int .i64 1)]) (H := lkp [.cells (r.map (C.int .i64)) true, .cells (flatC l) true, .cells (flatC l ++ z) true]) (L := [2]) (by simp [hz, markC_ids]) (by simp [hz, markC_ids]) (by simp [sub, hm, markC_cmp]) (by simp) (mk) (by simp) base
  have d1 := fun base => callA_gen (F := fnI pr np) (f := 67) (args := [.c (.sl 2 0 l.length 2), .c (.int .i64 1)]) (H := lkp [.cells (r.map (C.int .i64)) true, .cells (flatC l) true, .cells (markC (l.length * 2) ++ z) true]) (L := [2]) (by simp [hz, markC_ids]) (by simp [hz, markC_ids]) (by simp [sub, hm, markC_cmp]) (by simp) (hd) (by simp) base
  have e2 := fun base => callA_gen (F := fnI pr np) (f := 59) (args := [.c (.sl 3 0 l.length 2), .c (.sl 1 0 l.length 2)]) (H := lkp [.cells (r.map (C.int .i64)) true, .cells (flatC l) true, .cells (markC (l.length * 2) ++ z) true, .cells (flatC l ++ z) true]) (L := [3, 1]) (by simp [hz, markC_ids]) (by simp [hz, markC_ids]) (by simp [sub, hm, markC_cmp]) (by simp) (eq) (by simp) base
  have d2 := fun base => callA_gen (F := fnI pr np) (f := 67) (args := [.c (.sl 2 0 l.length 2), .c (.int .i64 1)]) (H := lkp [.cells (r.map (C.int .i64)) true, .cells (flatC l) true, .cells (markC (l.length * 2) ++ z) true, .cells (flatC l ++ z) true]) (L := [2]) (by simp [hz, markC_ids]) (by simp [hz, markC_ids]) (by simp [sub, hm, markC_cmp]) (by simp) (hd) (by simp) base
  have hp := mk1_pos (l.length * 2)
  rw [fb (fn := a12) rfl rfl]
  simp [a12, hr, h24, ht, hs, hi, e1, m1, d1, e2, d2, hp, hz, hm, markC_ids, markC_cmp]
theorem c_laws_FnExactTubePours (r : List Int) (hr : r.length = 24) (n : Int) (_ : -9223372036854775808 ≤ n ∧ n < 9223372036854775808) : fnI pr np 18 [.agg (r.map (C.int .i64)), .c (.int .i64 n)] [] = some (.c (.bool true), []) := by
  have h24 := take24 hr
  have ht := callA_pure (c_laws_toRack r hr) (by simp) (by simp)
  have hs := callA_new (c_spec_TubePours r hr n) (by simp)
  have hi := callA_new (c_impl_TubePours r hr n) (by simp)
  have hl := tubePL_len r n
  unfold pairV at hs hi
  generalize tubePL r n = l at hs hi hl
  generalize gameB r n 1 = q at hs hi
  have hm := mk1_pos (l.length * 2)
  have hz := mk1_pos (l.length * 2)
  have hn0 : cids ([] : List C) = [] := rfl
  have eq := c_laws_eqIntA2S l [] [] hn0 hn0 (by omega) true true
  have mk := c_laws_markIntA2S l [] hn0 (by omega)
  have hd := c_laws_heldIntA2S l.length [] hn0 (by omega)
  simp only [List.append_nil] at eq hs hi mk hd
  have e1 := fun base => callA_gen (F := fnI pr np) (f := 59) (args := [.c (.sl 2 0 l.length 2), .c (.sl 1 0 l.length 2)]) (H := lkp [.cells (r.map (C.int .i64)) true, .cells (flatC l) true, .cells (flatC l) true]) (L := [2, 1]) (by simp [hz, markC_ids]) (by simp [hz, markC_ids]) (by simp [sub, hm, markC_cmp]) (by simp) (eq) (by simp) base
  have m1 := fun base => callA_gen (F := fnI pr np) (f := 66) (args := [.c (.sl 2 0 l.length 2), .c (.int .i64 1)]) (H := lkp [.cells (r.map (C.int .i64)) true, .cells (flatC l) true, .cells (flatC l) true]) (L := [2]) (by simp [hz, markC_ids]) (by simp [hz, markC_ids]) (by simp [sub, hm, markC_cmp]) (by simp) (mk) (by simp) base
  have d1 := fun base => callA_gen (F := fnI pr np) (f := 67) (args := [.c (.sl 2 0 l.length 2), .c (.int .i64 1)]) (H := lkp [.cells (r.map (C.int .i64)) true, .cells (flatC l) true, .cells (markC (l.length * 2)) true]) (L := [2]) (by simp [hz, markC_ids]) (by simp [hz, markC_ids]) (by simp [sub, hm, markC_cmp]) (by simp) (hd) (by simp) base
  have e2 := fun base => callA_gen (F := fnI pr np) (f := 59) (args := [.c (.sl 3 0 l.length 2), .c (.sl 1 0 l.length 2)]) (H := lkp [.cells (r.map (C.int .i64)) true, .cells (flatC l) true, .cells (markC (l.length * 2)) true, .cells (flatC l) true]) (L := [3, 1]) (by simp [hz, markC_ids]) (by simp [hz, markC_ids]) (by simp [sub, hm, markC_cmp]) (by simp) (eq) (by simp) base
  have d2 := fun base => callA_gen (F := fnI pr np) (f := 67) (args := [.c (.sl 2 0 l.length 2), .c (.int .i64 1)]) (H := lkp [.cells (r.map (C.int .i64)) true, .cells (flatC l) true, .cells (markC (l.length * 2)) true, .cells (flatC l) true]) (L := [2]) (by simp [hz, markC_ids]) (by simp [hz, markC_ids]) (by simp [sub, hm, markC_cmp]) (by simp) (hd) (by simp) base
  have hp := mk1_pos (l.length * 2)
  rw [fb (fn := a18) rfl rfl]
  simp [a18, hr, h24, ht, hs, hi, e1, m1, d1, e2, d2, hp, hz, hm, markC_ids, markC_cmp]
end Go.Proofs.Ytgmamngkkpadhaa.AM
