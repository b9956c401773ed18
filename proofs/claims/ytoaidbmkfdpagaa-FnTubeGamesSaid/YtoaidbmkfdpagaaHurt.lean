import Derived.Test.YtoaidbmkfdpagaaParty
import Derived.Test.YtoaidbmkfdpagaaSorted
/- Contracts: pours behind which a tube can be completed. -/
namespace Go.Proofs.Ytoaidbmkfdpagaa.AM
open Go
set_option maxRecDepth 1000000
set_option linter.unusedSimpArgs false
set_option linter.unusedVariables false
theorem firstD_any (d : Nat × Nat → Bool) (l : List (Nat × Nat)) : decide (firstD d l 0 ≥ 0) = l.any d := by
  rcases firstD_case d l 0 with ⟨h1, h2⟩ | ⟨k, hk, h1, h2, h3⟩
  · have h1 : firstD d l (0 : Int) = -1 := h1
    rw [h1]
    have : l.any d = false := by
      rw [List.any_eq_false]
      intro p hp
      simp [h2 p hp]
    rw [this]
    rfl
  · rw [Nat.zero_add] at h1
    have h1 : firstD d l (0 : Int) = (k : Int) := h1
    rw [h1]
    have : l.any d = true := List.any_eq_true.2 ⟨_, List.getElem_mem hk, h2⟩
    rw [this]
    have : (k : Int) ≥ 0 := by omega
    simp [this]
theorem c_slices_ContainsFunc_pairs {g : Nat} {caps : List (Nat × Nat)} {B : Heap} {d : Nat × Nat → Bool} {l : List (Nat × Nat)} (hd : DelOK g caps B d l) (z : List C) (hz : cids z = []) (hn : l.length < 1000000) :
    fnI pr np 215 [.c (.sl 0 0 l.length 2), .c (.fn g caps)] (.cells (flatC l ++ z) true :: B) = some (.c (.bool (l.any d)), .cells (flatC l ++ z) true :: B) := by
  have hx : (Blk.cells (flatC l ++ z) true).ids = [] := by simp [hz]
  have hidx := fun base => callA_front (F := fnI pr np) (f := 214) (args := [.c (.sl 0 0 l.length 2), .c (.fn g caps)]) (h := .cells (flatC l ++ z) true :: B) (G := []) (by
      rw [List.length_cons, upto_cons, ← hd.full]; simp) (by simp only [List.all_cons, hd.free, Bool.and_true]; rw [hx]; rfl) (by have := hd.small; simp; omega) (c_slices_IndexFunc_pairs hd z hz hn true) rfl (by simp only [List.all_cons, hd.free, Bool.and_true]; rw [hx]; rfl) (by simp) base
  have hups := ups_front (.cells (flatC l ++ z) true :: B) (.cells (flatC l ++ z) true :: B) [] rfl
  simp only [List.cons_append, List.length_cons, List.append_nil] at hidx hups
  have hany := firstD_any d l
  rw [fb (fn := a215) rfl rfl]
  simp [a215, -gcE, -cut, -upto, hidx, hups]
  have hfin := hd.cut (v := .c (.bool (l.any d))) hx [] (by simp)
  rw [List.append_nil] at hfin
  rw [← hany] at hfin ⊢
  exact hfin
/-- a pour of r completes the tube that it is poured into -/
def fullBy (r : List Int) (p : Nat × Nat) : Bool := fullP (tubeAt (pourR r p.1 p.2) p.2)
def hurtB (r : List Int) : Bool := (usefulL r).any (fullBy r)
theorem c_impl_canComplete_1 (r : List Int) (h : RackOK r) {p : Nat × Nat} (hp : p ∈ usefulL r) : fnI pr np 216 [.agg [.int .i64 p.1, .int .i64 p.2], .c (.ptr 0 0)] [.cells (r.map (C.int .i64)) true] = some (.c (.bool (fullBy r p)), [.cells (r.map (C.int .i64)) true]) := by
  obtain ⟨hi, hj, hq⟩ := useful_pour h hp
  have hr := h.len
  have h24 := take24 hr
  have hc := callA_pure (c_impl_pour r h hi hj) (by simp) (by simp)
  have hf := callA_pure (c_impl_isComplete _ (hq.t4 hj) (hq.tv hj)) (by simp) (by simp)
  have ht := cells_tube (pourR r p.1 p.2) p.2
  have hpl := hq.len
  have hp24 := take24 hpl
  have lj : p.2 * 4 + 4 ≤ 24 := by omega
  have hj' : (p.2 : Int) < 6 := by omega
  rw [fb (fn := a216) rfl rfl]
  unfold fullBy
  simp [a216, hr, h24, hc, hf, ht, hpl, hp24, setAt_all, lj, hj, hj', sub]
theorem del_canComplete (r : List Int) (h : RackOK r) : DelOK 216 [(1, 0)] [.cells (r.map (C.int .i64)) true] (fullBy r) (usefulL r) := by
  refine ⟨by simp, by simp [upto], by simp, by simp, fun p hp X G base => ?_⟩
  exact ⟨_, callA_at (F := fnI pr np) (f := 216) (x := .agg [.int .i64 p.1, .int .i64 p.2]) (i := 1) (b := .cells (r.map (C.int .i64)) true) (by simp) (by simp) (by simp) (c_impl_canComplete_1 r h hp) (by simp) base, by simp⟩
theorem c_impl_canComplete (r : List Int) (h : RackOK r) : fnI pr np 154 [.agg (r.map (C.int .i64))] [] = some (.c (.bool (hurtB r)), []) := by
  have hr := h.len
  have h24 := take24 hr
  have hu := callA_new (c_impl_useful r h) (by simp)
  have hcon := c_slices_ContainsFunc_pairs (del_canComplete r h) (padC r) (padC_ids r) (by have := usefulL_len r; omega)
  rw [show (usefulL r).any (fullBy r) = hurtB r from rfl] at hcon
  have hc := fun base => callA_gen (F := fnI pr np) (f := 215) (args := [.c (.sl 1 0 (usefulL r).length 2), .c (.fn 216 [(0, 0)])]) (H := lkp [.cells (r.map (C.int .i64)) true, .cells (flatC (usefulL r) ++ padC r) true]) (L := [1, 0]) (by simp) (by simp) (by simp [sub]) (by simp) hcon (by simp) base
  rw [fb (fn := a154) rfl rfl]
  simp [a154, hr, h24, hu, hc]
theorem c_impl_CanHurt_1 (r : List Int) (h : RackOK r) {p : Nat × Nat} (hp : p ∈ usefulL r) : fnI pr np 153 [.agg [.int .i64 p.1, .int .i64 p.2], .c (.ptr 0 0)] [.cells (r.map (C.int .i64)) true] = some (.c (.bool (!hurtB (pourR r p.1 p.2))), [.cells (r.map (C.int .i64)) true]) := by
  obtain ⟨hi, hj, hq⟩ := useful_pour h hp
  have hr := h.len
  have h24 := take24 hr
  have hc := callA_pure (c_impl_pour r h hi hj) (by simp) (by simp)
  have hf := callA_pure (c_impl_canComplete _ hq) (by simp) (by simp)
  have hpl := hq.len
  have hp24 := take24 hpl
  rw [fb (fn := a153) rfl rfl]
  simp [a153, hr, h24, hc, hf, hpl, hp24, setAt_all, sub]
theorem del_CanHurt (r : List Int) (h : RackOK r) : DelOK 153 [(1, 0)] [.cells (r.map (C.int .i64)) true] (fun p => !hurtB (pourR r p.1 p.2)) (usefulL r) := by
  refine ⟨by simp, by simp [upto], by simp, by simp, fun p hp X G base => ?_⟩
  exact ⟨_, callA_at (F := fnI pr np) (f := 153) (x := .agg [.int .i64 p.1, .int .i64 p.2]) (i := 1) (b := .cells (r.map (C.int .i64)) true) (by simp) (by simp) (by simp) (c_impl_CanHurt_1 r h hp) (by simp) base, by simp⟩
def hurtTo (r : List Int) (k : Nat) : List (Nat × Nat) := ((usefulL r).take k).filter fun p => hurtB (pourR r p.1 p.2)
theorem hurtTo_len (r : List Int) (k : Nat) : (hurtTo r k).length ≤ k := Nat.le_trans (List.length_filter_le _ _) (by simp; omega)
theorem hurtTo_succ (r : List Int) {k : Nat} (hk : k < (usefulL r).length) : hurtTo r (k + 1) = hurtTo r k ++ if hurtB (pourR r ((usefulL r)[k]'hk).1 ((usefulL r)[k]'hk).2) = true then [(usefulL r)[k]'hk] else [] := by
  unfold hurtTo
  rw [take_snoc hk, List.filter_append]
  congr 1
  by_cases h : hurtB (pourR r ((usefulL r)[k]'hk).1 ((usefulL r)[k]'hk).2) = true <;> simp [h]
theorem hurtTo_zero (r : List Int) : hurtTo r 0 = [] := rfl
def hurtPad (r : List Int) : List C := List.replicate (((usefulL r).length - (hurtTo r (usefulL r).length).length) * 2) (C.int .i64 0) ++ padC r
theorem hurtPad_ids (r : List Int) : cids (hurtPad r) = [] := by simp [hurtPad]
theorem hurtPad_cmp (g : Nat → Nat) (r : List Int) : cmp g (hurtPad r) = hurtPad r := cmp_pure (hurtPad_ids r)
def hurtL (r : List Int) : List (Nat × Nat) := if okRack r = true then hurtTo r (usefulL r).length else []
def hurtZ (r : List Int) : List C := if okRack r = true then hurtPad r else []
theorem hurtL_len (r : List Int) : (hurtL r).length ≤ 36 := by
  unfold hurtL
  split
  · exact Nat.le_trans (hurtTo_len _ _) (usefulL_len r)
  · simp
theorem hurtZ_ids (r : List Int) : cids (hurtZ r) = [] := by
  unfold hurtZ
  split
  · exact hurtPad_ids _
  · rfl
theorem c_impl_CanHurt (r : List Int) (hr : r.length = 24) : fnI pr np 61 [.agg (r.map (C.int .i64))] [] = some (pairV (hurtL r) (hurtZ r) (okRack r)) := by
  have h1 := callA_pure (c_rack_impl r hr) (by simp) (by simp)
  have h24 := take24 hr
  rw [fb (fn := a61) rfl rfl]
  unfold pairV hurtL hurtZ
  cases hq : okRack r with
  | false =>
    rw [hq] at h1
    simp [a61, hr, h24, h1, flatC_nil, sub]
  | true =>
    rw [hq] at h1
    have h := rackOK hr hq
    have hu := callA_new (c_impl_useful r h) (by simp)
    have hdel := c_slices_DeleteFunc_pairs (del_CanHurt r h) (padC r) (padC_ids r) (by have := usefulL_len r; omega)
    have hf : ((usefulL r).filter fun p => !(!hurtB (pourR r p.1 p.2))) = hurtTo r (usefulL r).length := by
      unfold hurtTo
      rw [List.take_length]
      congr 1
      funext p
      simp
    rw [hf] at hdel
    have hpad : List.replicate (((usefulL r).length - (hurtTo r (usefulL r).length).length) * 2) (C.int .i64 0) ++ padC r = hurtPad r := rfl
    rw [hpad] at hdel
    have hc := fun base => callA_gen (F := fnI pr np) (f := 152) (args := [.c (.sl 2 0 (usefulL r).length 2), .c (.fn 153 [(0, 0)])]) (H := lkp [.cells (r.map (C.int .i64)) true, .cells [] true, .cells (flatC (usefulL r) ++ padC r) true]) (L := [2, 0]) (by simp) (by simp) (by simp [sub]) (by simp) hdel (by simp) base
    simp [a61, hr, h24, h1, hu, hc, hurtPad_ids, hurtPad_cmp, sub]
/-! ### the reference -/
theorem any_mem (l : List Int) (x : Int) : (l.any fun y => y == x) = decide (x ∈ l) := by
  rw [Bool.eq_iff_iff, List.any_eq_true]
  simp
theorem fulls_any (r : List Int) (j : Nat) : ∀ (d i : Nat), ((fullsFrom r i d).any fun y => y == (j : Int)) = (decide (i ≤ j ∧ j < i + d) && fullP (tubeAt r j))
  | 0, i => by
    have : ¬ (i ≤ j ∧ j < i + 0) := by omega
    rw [decide_eq_false this]
    rfl
  | d + 1, i => by
    have ih := fulls_any r j d (i + 1)
    unfold fullsFrom
    rw [List.any_append, ih]
    by_cases hij : i = j
    · subst hij
      have h1 : ¬ (i + 1 ≤ i ∧ i < i + 1 + d) := by omega
      have h2 : i ≤ i ∧ i < i + (d + 1) := by omega
      by_cases hf : fullP (tubeAt r i) = true
      · simp [hf]
      · simp [hf]
    · have h3 : (i + 1 ≤ j ∧ j < i + 1 + d) ↔ (i ≤ j ∧ j < i + (d + 1)) := by omega
      have h4 : ((i : Int) == (j : Int)) = false := beq_eq_false_iff_ne.2 (by omega)
      by_cases hf : fullP (tubeAt r i) = true
      · simp [hf, h4, h3]
      · simp [hf, h3]
theorem fulls_has (r : List Int) {j : Nat} (hj : j < 6) : ((fullsFrom r 0 6).any fun y => y == (j : Int)) = fullP (tubeAt r j) := by
  rw [fulls_any]
  have : 0 ≤ j ∧ j < 0 + 6 := by omega
  simp [this]
theorem useful_notfull {r : List Int} {p : Nat × Nat} (hp : p ∈ usefulL r) : fullP (tubeAt r p.2) = false := by
  have h := (mem_usefulL hp).2.2
  have hl : layN (tubeAt r p.2) < 4 := by
    simp [canP] at h
    exact h.1.2
  have : ¬ layN (tubeAt r p.2) = 4 := by omega
  simp [fullP, this]
set_option maxHeartbeats 4000000 in
theorem c_spec_l10Completes (r : List Int) (h : RackOK r) : fnI pr np 156 [.agg (r.map (C.int .i64))] [] = some (.c (.bool (hurtB r)), []) := by
  have hr := h.len
  have h24 := take24 hr
  have hu := callA_new (c_spec_l2Useful r h) (by simp)
  have hl := usefulL_len r
  have hfr := fullN_le r
  unfold fullN at hfr
  have hbef := callA_new (c_spec_l10Complete r hr h.val) (by simp)
  obtain ⟨K, hK1, hK2, hK3⟩ := first_exit (fun k => match (usefulL r)[k]? with | some p => fullBy r p | none => false) (usefulL r).length
  have hturn : ∀ k (hk : k < (usefulL r).length), ∃ v : Bool, v = fullBy r ((usefulL r)[k]'hk) ∧ True := fun k hk => ⟨_, rfl, trivial⟩
  rw [fb (fn := a156) rfl rfl]
  simp [a156, hr, h24, hu]
  have hfacts : ∀ k (hk : k < (usefulL r).length), ∃ (H1 : ∀ base, callA (fnI pr np) 203 [.c (.sl 3 0 (fullsFrom r 0 6).length 1), .c (.int .i64 ((usefulL r)[k]'hk).2)] (lkp [Blk.cells (r.map (C.int .i64)) true, Blk.cells (flatC (usefulL r)) true, Blk.cells ((pourR r ((usefulL r)[k]'hk).1 ((usefulL r)[k]'hk).2).map (C.int .i64)) true, Blk.cells ((fullsFrom r 0 6).map (C.int .i64)) true]) base = some (.c (.bool false), [], [(3, Blk.cells ((fullsFrom r 0 6).map (C.int .i64)) true)])), True := by
    intro k hk
    have hmem := List.getElem_mem hk
    obtain ⟨hi, hj, hp⟩ := useful_pour h hmem
    have h1 := c_spec_l1Has (fullsFrom r 0 6) (((usefulL r)[k]'hk).2 : Int) (by omega)
    rw [← any_mem, fulls_has r hj, useful_notfull hmem] at h1
    refine ⟨fun base => ?_, trivial⟩
    have := callA_gen (F := fnI pr np) (f := 203) (args := [.c (.sl 3 0 (fullsFrom r 0 6).length 1), .c (.int .i64 ((usefulL r)[k]'hk).2)]) (H := lkp [Blk.cells (r.map (C.int .i64)) true, Blk.cells (flatC (usefulL r)) true, Blk.cells ((pourR r ((usefulL r)[k]'hk).1 ((usefulL r)[k]'hk).2).map (C.int .i64)) true, Blk.cells ((fullsFrom r 0 6).map (C.int .i64)) true]) (L := [3]) (by simp) (by simp) (by simp [sub]) (by simp) h1 (by simp) base
    simpa using this
  have hfacts2 : ∀ k (hk : k < (usefulL r).length), ∃ (H2 : ∀ base, callA (fnI pr np) 203 [.c (.sl 4 0 (fullsFrom (pourR r ((usefulL r)[k]'hk).1 ((usefulL r)[k]'hk).2) 0 6).length 1), .c (.int .i64 ((usefulL r)[k]'hk).2)] (lkp [Blk.cells (r.map (C.int .i64)) true, Blk.cells (flatC (usefulL r)) true, Blk.cells ((pourR r ((usefulL r)[k]'hk).1 ((usefulL r)[k]'hk).2).map (C.int .i64)) true, Blk.cells ((fullsFrom r 0 6).map (C.int .i64)) true, Blk.cells ((fullsFrom (pourR r ((usefulL r)[k]'hk).1 ((usefulL r)[k]'hk).2) 0 6).map (C.int .i64)) true]) base = some (.c (.bool (fullBy r ((usefulL r)[k]'hk))), [], [(4, Blk.cells ((fullsFrom (pourR r ((usefulL r)[k]'hk).1 ((usefulL r)[k]'hk).2) 0 6).map (C.int .i64)) true)])), True := by
    intro k hk
    have hmem := List.getElem_mem hk
    obtain ⟨hi, hj, hp⟩ := useful_pour h hmem
    have hfn := fullN_le (pourR r ((usefulL r)[k]'hk).1 ((usefulL r)[k]'hk).2)
    unfold fullN at hfn
    have h1 := c_spec_l1Has (fullsFrom (pourR r ((usefulL r)[k]'hk).1 ((usefulL r)[k]'hk).2) 0 6) (((usefulL r)[k]'hk).2 : Int) (by omega)
    rw [← any_mem, fulls_has _ hj] at h1
    refine ⟨fun base => ?_, trivial⟩
    have := callA_gen (F := fnI pr np) (f := 203) (args := [.c (.sl 4 0 (fullsFrom (pourR r ((usefulL r)[k]'hk).1 ((usefulL r)[k]'hk).2) 0 6).length 1), .c (.int .i64 ((usefulL r)[k]'hk).2)]) (H := lkp [Blk.cells (r.map (C.int .i64)) true, Blk.cells (flatC (usefulL r)) true, Blk.cells ((pourR r ((usefulL r)[k]'hk).1 ((usefulL r)[k]'hk).2).map (C.int .i64)) true, Blk.cells ((fullsFrom r 0 6).map (C.int .i64)) true, Blk.cells ((fullsFrom (pourR r ((usefulL r)[k]'hk).1 ((usefulL r)[k]'hk).2) 0 6).map (C.int .i64)) true]) (L := [4]) (by simp) (by simp) (by simp [sub]) (by simp) h1 (by simp) base
    simpa [fullBy] using this
  rw [loop_to (fun k => ([(1, V.c (C.ptr 0 0)), (3, V.c (C.sl 1 0 (usefulL r).length 2)), (4, V.c (C.int .i64 k))], [Blk.cells (r.map (C.int .i64)) true, Blk.cells (flatC (usefulL r)) true])) K]
  · by_cases hKl : K = (usefulL r).length
    · subst hKl
      have hany : hurtB r = false := by
        unfold hurtB
        rw [List.any_eq_false]
        intro y hy
        obtain ⟨i, hi, rfl⟩ := List.getElem_of_mem hy
        have := hK3 i hi
        rw [List.getElem?_eq_getElem hi] at this
        simpa using this
      simp [hany, sub]
    · have hk : K < (usefulL r).length := by omega
      have hx : fullBy r ((usefulL r)[K]'hk) = true := by
        rcases hK2 with h | h
        · exact absurd h hKl
        · rw [List.getElem?_eq_getElem hk] at h; exact h
      have hany : hurtB r = true := List.any_eq_true.2 ⟨_, List.getElem_mem hk, hx⟩
      have hmem := List.getElem_mem hk
      obtain ⟨hi, hj, hp⟩ := useful_pour h hmem
      have hc := callA_pure (c_spec_l2Pour r h hi hj) (by simp) (by simp)
      have hpl := hp.len
      have hp24 := take24 hpl
      have hafter := callA_new (c_spec_l10Complete _ hpl hp.val) (by simp)
      obtain ⟨H1, _⟩ := hfacts K hk
      obtain ⟨H2, _⟩ := hfacts2 K hk
      rw [hx] at H2
      have hg := flatC_take1 (usefulL r) [] hk
      rw [List.append_nil] at hg
      obtain ⟨g1, g2⟩ := hg
      have b1 : K * 2 + 2 ≤ (usefulL r).length * 2 := by omega
      have b2 : K * 2 + 1 ≤ (usefulL r).length * 2 := by omega
      simp [hk, hr, h24, hc, g1, g2, b1, b2, hpl, hp24, setAt_all, hbef, hafter, H1, H2, hany, stillE, madeA, sub]
  · simp [sub]
  · intro k hkK
    have hk : k < (usefulL r).length := by omega
    have hx : fullBy r ((usefulL r)[k]'hk) = false := by
      have := hK3 k hkK
      rw [List.getElem?_eq_getElem hk] at this
      exact this
    have hmem := List.getElem_mem hk
    obtain ⟨hi, hj, hp⟩ := useful_pour h hmem
    have hc := callA_pure (c_spec_l2Pour r h hi hj) (by simp) (by simp)
    have hpl := hp.len
    have hp24 := take24 hpl
    have hafter := callA_new (c_spec_l10Complete _ hpl hp.val) (by simp)
    obtain ⟨H1, _⟩ := hfacts k hk
    obtain ⟨H2, _⟩ := hfacts2 k hk
    rw [hx] at H2
    have hg := flatC_take1 (usefulL r) [] hk
    rw [List.append_nil] at hg
    obtain ⟨g1, g2⟩ := hg
    have b1 : k * 2 + 2 ≤ (usefulL r).length * 2 := by omega
    have b2 : k * 2 + 1 ≤ (usefulL r).length * 2 := by omega
    have wk := wrapS (k := k) (by omega)
    simp [hk, hr, h24, hc, g1, g2, b1, b2, wk, hpl, hp24, setAt_all, hbef, hafter, H1, H2, stillE, madeA, sub]
set_option maxHeartbeats 4000000 in
theorem c_spec_CanHurt (r : List Int) (hr : r.length = 24) : fnI pr np 62 [.agg (r.map (C.int .i64))] [] = some (pairV (hurtL r) [] (okRack r)) := by
  have h1 := callA_pure (c_rack_spec r hr) (by simp) (by simp)
  have h24 := take24 hr
  rw [fb (fn := a62) rfl rfl]
  unfold pairV hurtL
  cases hq : okRack r with
  | false =>
    rw [hq] at h1
    simp [a62, hr, h24, h1, flatC_nil, sub]
  | true =>
    rw [hq] at h1
    have h := rackOK hr hq
    have hu := callA_new (c_spec_l2Useful r h) (by simp)
    have hl := usefulL_len r
    simp [a62, hr, h24, h1, hu]
    rw [loop_to (fun k => ([(1, V.c (C.ptr 0 0)), (4, V.c (C.sl 1 0 (hurtTo r k).length 2)), (5, V.c (C.sl 2 0 (usefulL r).length 2)), (6, V.c (C.int .i64 k))], [Blk.cells (r.map (C.int .i64)) true, Blk.cells (flatC (hurtTo r k)) true, Blk.cells (flatC (usefulL r)) true])) (usefulL r).length]
    · simp [sub]
    · simp [hurtTo_zero, flatC_nil, sub]
    · intro k hk
      obtain ⟨hi, hj, hp⟩ := useful_pour h (List.getElem_mem hk)
      have hc := callA_pure (c_spec_l2Pour r h hi hj) (by simp) (by simp)
      have hh := callA_pure (c_spec_l10Completes _ hp) (by simp) (by simp)
      have hg2 := flatC_get (usefulL r) [] k hk
      have hg := flatC_take1 (usefulL r) [] hk
      rw [List.append_nil] at hg hg2
      obtain ⟨g1, g2⟩ := hg
      have b1 : k * 2 + 2 ≤ (usefulL r).length * 2 := by omega
      have b2 : k * 2 + 1 ≤ (usefulL r).length * 2 := by omega
      have wk := wrapS (k := k) (by omega)
      have hpl := hp.len
      have hp24 := take24 hpl
      have hst := hurtTo_succ r hk
      have hol := hurtTo_len r k
      have hroom : (hurtTo r k).length + 1 ≤ 68719476736 := by omega
      have htk := flatC_take' (hurtTo r k)
      cases he : hurtB (pourR r ((usefulL r)[k]'hk).1 ((usefulL r)[k]'hk).2) with
      | true =>
        rw [he] at hst hh
        simp only [if_true] at hst
        simp [hk, hr, h24, hc, hh, hg2, g1, g2, b1, b2, wk, hpl, hp24, setAt_all, hst, hroom, htk, flatC_app, flatC_one, sub]
      | false =>
        rw [he] at hst hh
        simp only [Bool.false_eq_true, if_false, List.append_nil] at hst
        simp [hk, hr, h24, hc, hh, g1, g2, b1, b2, wk, hpl, hp24, setAt_all, hst, sub]
end Go.Proofs.Ytoaidbmkfdpagaa.AM
