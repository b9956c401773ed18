import Derived.Test.YtafphbegpjjolaaEndsB
/- Contract: the reference's racks at which a play can be; the law. -/
namespace Go.Proofs.Ytafphbegpjjolaa.AM
open Go
set_option maxRecDepth 1000000
set_option linter.unusedSimpArgs false
set_option linter.unusedVariables false
theorem Row.all24 {l : List (List Int)} (h : Row l) : All24 l := fun r hr => (h.ok r hr).len
theorem call_put_old {l : List (List Int)} {r : List Int} (hl : All24 l) (hn : l.length ≤ 2000) (hr : r.length = 24) (hp : l[placeX r l]? = some r) (i : Nat) (H : HF) (base : Nat) (hb : (H i == some (.cells (flatR l) true)) = true) :
    callA (fnI pr np) 76 [.c (.sl i 0 l.length 24), .agg (r.map (C.int .i64))] H base = some (.c (.sl i 0 l.length 24), [], [(i, .cells (flatR l) true)]) := by
  have hb : H i = some (.cells (flatR l) true) := by simpa using hb
  have hF := c_spec_l5Put l hl hn r hr
  unfold putV at hF
  rw [if_pos hp] at hF
  have := callA_one (x := .c (.sl i 0 l.length 24)) hb (by simp) (by simp) (show [V.agg (r.map (C.int .i64))].flatMap V.ids = [] by simp) (by simp) hF base
  rw [this]
  simp
theorem call_put_new {l : List (List Int)} {r : List Int} (hl : All24 l) (hn : l.length ≤ 2000) (hr : r.length = 24) (hp : ¬ l[placeX r l]? = some r) (i : Nat) (H : HF) (base : Nat) (hb : (H i == some (.cells (flatR l) true)) = true) :
    callA (fnI pr np) 76 [.c (.sl i 0 l.length 24), .agg (r.map (C.int .i64))] H base = some (.c (.sl base 0 (l.length + 1) 24), [.cells (flatR (putX r l)) true], [(i, .cells (flatR l) true)]) := by
  have hb : H i = some (.cells (flatR l) true) := by simpa using hb
  have hF := c_spec_l5Put l hl hn r hr
  unfold putV at hF
  rw [if_neg hp] at hF
  have := callA_one (x := .c (.sl i 0 l.length 24)) hb (by simp) (by simp) (show [V.agg (r.map (C.int .i64))].flatMap V.ids = [] by simp) (by simp) hF base
  rw [this]
  simp
theorem putX_old {l : List (List Int)} {r : List Int} (hp : l[placeX r l]? = some r) : putX r l = l := by rw [putX_eq, if_pos hp]
theorem putX_new {l : List (List Int)} {r : List Int} (hp : ¬ l[placeX r l]? = some r) : (putX r l).length = l.length + 1 := by
  rw [putX_eq, if_neg hp]
  have := placeX_le r l
  simp
  omega
def foldX (ys acc : List (List Int)) : List (List Int) := ys.foldl (fun acc y => putX y acc) acc
def upX (all : List (List Int)) (k : Nat) : List (List Int) := foldX ((all.take k).flatMap nexts) []
theorem upX_succ {all : List (List Int)} {k : Nat} (hk : k < all.length) : upX all (k + 1) = foldX (nexts (all[k]'hk)) (upX all k) := by
  unfold upX foldX
  rw [List.take_succ_eq_append_getElem hk, List.flatMap_append, List.foldl_append]
  simp
theorem upX_all (all : List (List Int)) : upX all all.length = stepX all := by unfold upX stepX foldX; rw [List.take_length]
theorem upX_row {all : List (List Int)} (h : Row all) (k : Nat) : Row (upX all k) := by
  refine fold_row _ _ Row.nil fun y hy => ?_
  obtain ⟨x, hx, hy⟩ := List.mem_flatMap.1 hy
  exact nexts_ok (h.ok x (List.mem_of_mem_take hx)) y hy
theorem upX_len {all : List (List Int)} (h : all.length ≤ 36) (k : Nat) : (upX all k).length ≤ 1296 := by
  have h1 := fold_len ((all.take k).flatMap nexts) []
  have h2 := flat_len36 (all.take k)
  have h3 : (all.take k).length ≤ 36 := by rw [List.length_take]; omega
  unfold upX foldX
  simp only [List.length_nil] at h1
  omega
theorem foldX_succ {x : List Int} {acc : List (List Int)} {j : Nat} (h : j < (usefulL x).length) : foldX (poursX x (j + 1)) acc = putX (pourR x ((usefulL x)[j]'h).1 ((usefulL x)[j]'h).2) (foldX (poursX x j) acc) := by
  rw [poursX_succ h]
  unfold foldX
  rw [List.foldl_append]
  rfl
theorem endsX_36 (r : List Int) {i : Nat} (hi : i ≤ 1) : (endsX r i).length ≤ 36 := by
  have h1 : (endsX r 1).length ≤ 36 := by have := stepX_len (endsX r 0); simpa [endsX] using this
  have : i = 0 ∨ i = 1 := by omega
  rcases this with rfl | rfl
  · simp [endsX]
  · exact h1
set_option maxHeartbeats 1000000 in
theorem c_spec_l9Ends (r : List Int) (h : RackOK r) (n : Nat) (hn : n ≤ 2) : fnI pr np 44 [.agg (r.map (C.int .i64)), .c (.int .i64 n)] [] = some (.c (.sl 0 0 (endsX r n).length 24), [.cells (flatR (endsX r n)) true]) := by
  have hr := h.len
  have h24 := take24 hr
  rw [fb (fn := a44) rfl rfl]
  simp [a44, hr, h24, setAt_all]
  rw [loop_to (fun i => ([(1, V.c (C.int .i64 n)), (5, V.c (C.sl 0 0 (endsX r i).length 24)), (6, V.c (C.int .i64 i))], [Blk.cells (flatR (endsX r i)) true])) n]
  · simp [sub]
  · simp [sub, endsX, flatR_one]
  · intro i hi
    have hrow := endsX_row h i
    have hl36 := endsX_36 r (i := i) (by omega)
    have wi := wrapS (k := i) (by omega)
    have hnext : endsX r (i + 1) = upX (endsX r i) (endsX r i).length := (upX_all _).symm
    rw [hnext]
    generalize endsX r i = all at *
    have hlen := flatR_len hrow.all24
    simp [hi]
    rw [loop_to (fun k => ([(1, V.c (C.int .i64 n)), (5, V.c (C.sl 0 0 all.length 24)), (6, V.c (C.int .i64 i)), (7, V.c (C.sl 1 0 (upX all k).length 24)), (8, V.c (C.int .i64 k))], [Blk.cells (flatR all) true, Blk.cells (flatR (upX all k)) true])) all.length]
    · simp [wi, sub]
    · simp [sub, upX, foldX, flatR_nil]
    · intro k hk
      have hx := hrow.ok _ (List.getElem_mem hk)
      have hg := flatR_get hrow.all24 hk
      have b1 : k * 24 + 24 ≤ all.length * 24 := by omega
      have wk := wrapS (k := k) (by omega)
      have hup := upX_succ hk
      have hBrow := upX_row hrow k
      have hBlen := upX_len hl36 k
      rw [hup]
      generalize upX all k = B at *
      generalize all[k]'hk = x at *
      have hxr := hx.len
      have hx24 := take24 hxr
      have hm := callA_new (c_spec_l9Moves x hx) (by simp)
      cases he : endB x with
      | true =>
        have hz : (movesL x).length = 0 := by simpa [endB_moves] using he
        have hnx : foldX (nexts x) B = putX x B := by simp [nexts, he, foldX]
        rw [hnx]
        by_cases hp : B[placeX x B]? = some x
        · have hc := call_put_old hBrow.all24 (by omega) hxr hp
          have e1 := putX_old hp
          rw [e1]
          simp [hk, hg, hlen, b1, hx24, hxr, hm, hz, hc, wk, sub]
          rw [loop_to (fun _ => ([(1, V.c (C.int .i64 n)), (5, V.c (C.sl 0 0 all.length 24)), (6, V.c (C.int .i64 i)), (7, V.c (C.sl 1 0 B.length 24)), (8, V.c (C.int .i64 k)), (9, V.c (C.sl 2 0 0 2)), (10, V.c (C.int .i64 0))], [Blk.cells (flatR all) true, Blk.cells (flatR B) true, Blk.cells (flatC (movesL x)) true])) 0]
          · simp [wk, sub]
          · simp [sub]
          · intro j hj
            omega
        · have hc := call_put_new hBrow.all24 (by omega) hxr hp
          have e1 := putX_new hp
          simp [hk, hg, hlen, b1, hx24, hxr, hm, hz, hc, wk, sub, e1]
          rw [loop_to (fun _ => ([(1, V.c (C.int .i64 n)), (5, V.c (C.sl 0 0 all.length 24)), (6, V.c (C.int .i64 i)), (7, V.c (C.sl 1 0 (B.length + 1) 24)), (8, V.c (C.int .i64 k)), (9, V.c (C.sl 2 0 0 2)), (10, V.c (C.int .i64 0))], [Blk.cells (flatR all) true, Blk.cells (flatR (putX x B)) true, Blk.cells (flatC (movesL x)) true])) 0]
          · simp [wk, sub]
          · simp [sub]
          · intro j hj
            omega
      | false =>
        obtain ⟨hmu, hpos, _⟩ := moves_of x he
        have hz : ¬ (usefulL x).length = 0 := by omega
        have hz' : (((usefulL x).length : Int) == 0) = false := beq_eq_false_iff_ne.2 (by omega)
        have hl30 := usefulL_len30 x
        have hnx : nexts x = poursX x (usefulL x).length := by simp [nexts, he, poursX]
        rw [hnx]
        rw [hmu] at hm
        simp [hk, hg, hlen, b1, hx24, hxr, hm, hz, hz', wk, sub]
        rw [loop_to (fun j => ([(1, V.c (C.int .i64 n)), (5, V.c (C.sl 0 0 all.length 24)), (6, V.c (C.int .i64 i)), (7, V.c (C.sl 1 0 (foldX (poursX x j) B).length 24)), (8, V.c (C.int .i64 k)), (9, V.c (C.sl 2 0 (usefulL x).length 2)), (10, V.c (C.int .i64 j))], [Blk.cells (flatR all) true, Blk.cells (flatR (foldX (poursX x j) B)) true, Blk.cells (flatC (usefulL x)) true])) (usefulL x).length]
        · simp [wk, sub]
        · simp [sub, poursX, foldX]
        · intro j hj
          obtain ⟨hi1, hj1, hpk⟩ := useful_pour hx (List.getElem_mem hj)
          have hq := callA_pure (c_spec_l2Pour x hx hi1 hj1) (by simp) (by simp)
          have hsucc := foldX_succ (acc := B) hj
          have hDrow : Row (foldX (poursX x j) B) := by
            refine fold_row _ _ hBrow fun y hy => ?_
            obtain ⟨p, hp, rfl⟩ := List.mem_map.1 hy
            obtain ⟨_, _, h3⟩ := useful_pour hx (List.mem_of_mem_take hp)
            exact h3
          have hDlen : (foldX (poursX x j) B).length ≤ 2000 := by
            have h1 := fold_len (poursX x j) B
            have h2 : (poursX x j).length ≤ 30 := by unfold poursX; rw [List.length_map, List.length_take]; omega
            unfold foldX
            omega
          rw [hsucc]
          obtain ⟨g1, g2⟩ := flatC_take1 (usefulL x) [] hj
          rw [List.append_nil] at g1 g2
          have b2 : j * 2 + 1 ≤ (usefulL x).length * 2 := by omega
          have b3 : j * 2 + 1 + 1 ≤ (usefulL x).length * 2 := by omega
          have wj := wrapS (k := j) (by omega)
          have hpl := hpk.len
          have hp24 := take24 hpl
          generalize foldX (poursX x j) B = D at *
          generalize pourR x ((usefulL x)[j]'hj).1 ((usefulL x)[j]'hj).2 = y at *
          by_cases hp : D[placeX y D]? = some y
          · have hc := call_put_old hDrow.all24 hDlen hpl hp
            have e1 := putX_old hp
            rw [e1]
            simp [hk, hj, hg, hlen, b1, b2, b3, g1, g2, hx24, hxr, hq, hpl, hp24, hc, wj, setAt_all, sub]
          · have hc := call_put_new hDrow.all24 hDlen hpl hp
            have e1 := putX_new hp
            simp [hk, hj, hg, hlen, b1, b2, b3, g1, g2, hx24, hxr, hq, hpl, hp24, hc, wj, setAt_all, sub, e1]
end Go.Proofs.Ytafphbegpjjolaa.AM
