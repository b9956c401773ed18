import Derived.Test.YtcnlkmooifoljaaDoorTextB
import Derived.Test.YtcnlkmooifoljaaDoorRepLaws
import Derived.Test.YtcnlkmooifoljaaDoorRepLawsB
/- Contracts: the text of a replay. -/
namespace Go.Proofs.YtcnlkmooifoljaaDoor.AM
open Go
set_option maxRecDepth 1000000
set_option linter.unusedSimpArgs false
set_option linter.unusedVariables false
def digs (l : List (Int × Int)) : Prop := ∀ k (hk : k < l.length), (0 ≤ (l[k]'hk).1 ∧ (l[k]'hk).1 ≤ 5) ∧ (0 ≤ (l[k]'hk).2 ∧ (l[k]'hk).2 ≤ 5)
theorem digs_of {r : List Int} (hr : r.length = 24) {l : List (Int × Int)} (h : repB r l = true) : digs l := by
  obtain ⟨_, _, h3⟩ := repB_facts hr h
  intro k hk
  have h4 := h3 k hk
  rw [canAt_eq _ hk] at h4
  obtain ⟨i, j, e1, e2, hi, hj, _⟩ := canZ_facts h4
  omega
theorem c_spec_l11Write (r : List Int) (h : RackOK r) (l : List (Int × Int)) (hl : l.length ≤ 60) (hd : digs l) (o : Bool) : fnI pr np 11 [repV r 0 l.length] [.cells (cZ l) o] = some (.c (.str (txR r l)), [.cells (cZ l) o]) := by
  have hr := h.len
  have h24 := take24 hr
  have t1 := repC_take hr (C.sl 0 0 l.length 2)
  have t2 := repC_drop hr (C.sl 0 0 l.length 2)
  have t3 := fun i n => repC_all hr (C.sl i 0 n 2)
  have htx := callA_pure (c_spec_l2Text r h) (by simp) (by simp)
  rw [fb (fn := a11) rfl rfl rfl]
  simp [a11, repV, hr, h24, t1, t2, t3, htx, sub]
  rw [loop_to (fun k => ([(1, V.c (C.ptr 1 0)), (3, V.c (C.str (txK r l k))), (4, V.c (C.int .i64 k))], [Blk.cells (cZ l) o, Blk.cells (r.map (C.int .i64) ++ [C.sl 0 0 l.length 2]) true])) l.length]
  · simp [hr, t2, txR, sub]
  · simp [txK, sub]
  · intro k hk
    have hkI : (k : Int) < (l.length : Int) := by omega
    have wk := wrapS (k := k) (by omega)
    obtain ⟨d1, d2⟩ := hd k hk
    have n1 := callA_pure (c_spec_l1Num5 d1) (by simp) (by simp)
    have n2 := callA_pure (c_spec_l1Num5 d2) (by simp) (by simp)
    obtain ⟨g1, g2⟩ := cZ_get1 l hk
    have hlen := txK_len hr l k (by omega)
    have b1 : (txK r l k).length + 1 ≤ 9223372036854775807 := by omega
    have b2 : (txK r l k).length + 1 + 1 ≤ 9223372036854775807 := by omega
    have b3 : (txK r l k).length + 1 + 1 + 1 ≤ 9223372036854775807 := by omega
    have b1' : (txK r l k).length + 2 ≤ 9223372036854775807 := by omega
    have b3' : (txK r l k).length + 3 ≤ 9223372036854775807 := by omega
    have c1 : k * 2 + 1 ≤ l.length * 2 := by omega
    have c2 : k * 2 + 1 + 1 ≤ l.length * 2 := by omega
    have c3 : k * 2 + 2 ≤ l.length * 2 := by omega
    rw [txK_succ r hk]
    generalize (l[k]'hk).1 = x at *
    generalize (l[k]'hk).2 = y at *
    generalize txK r l k = q at *
    simp [hkI, hk, hr, t2, g1, g2, n1, n2, b1, b2, b3, b1', b3', c1, c2, c3, wk, sub]
theorem c_impl_text (r : List Int) (h : RackOK r) (l : List (Int × Int)) (hl : l.length ≤ 60) (hd : digs l) (o : Bool) : fnI pr np 15 [repV r 0 l.length] [.cells (cZ l) o] = some (.c (.str (txR r l)), [.cells (cZ l) o]) := by
  have hr := h.len
  have h24 := take24 hr
  have t1 := repC_take hr (C.sl 0 0 l.length 2)
  have t2 := repC_drop hr (C.sl 0 0 l.length 2)
  have t3 := fun i n => repC_all hr (C.sl i 0 n 2)
  have htx := callA_pure (c_impl_rackText r h) (by simp) (by simp)
  rw [fb (fn := a15) rfl rfl rfl]
  simp [a15, repV, hr, h24, t1, t2, t3, htx, sub]
  rw [loop_to (fun k => ([(3, V.c (C.str (txK r l k))), (10, V.c (C.sl 0 0 l.length 2)), (11, V.c (C.int .i64 l.length)), (12, V.c (C.int .i64 k))], [Blk.cells (cZ l) o])) l.length]
  · simp [txR, sub]
  · simp [txK, sub]
  · intro k hk
    have hkI : (k : Int) < (l.length : Int) := by omega
    have wk := wrapS (k := k) (by omega)
    obtain ⟨d1, d2⟩ := hd k hk
    have n1 := callA_pure (c_itoa5 d1) (by simp) (by simp)
    have n2 := callA_pure (c_itoa5 d2) (by simp) (by simp)
    have g := cZ_get l hk
    have hlen := txK_len hr l k (by omega)
    have b3 : (txK r l k).length + 1 + 1 + 1 ≤ 9223372036854775807 := by omega
    have b3' : (txK r l k).length + 3 ≤ 9223372036854775807 := by omega
    have c3 : k * 2 + 2 ≤ l.length * 2 := by omega
    rw [txK_succ r hk]
    generalize (l[k]'hk).1 = x at *
    generalize (l[k]'hk).2 = y at *
    generalize txK r l k = q at *
    simp [hkI, hk, hr, g, n1, n2, b3, b3', c3, setAt_all, setAt, wk, sub]
def txO (r : List Int) (l : List (Int × Int)) : List UInt8 := if repB r l = true then txR r l else []
theorem c_spec_ReplayText (r : List Int) (hr : r.length = 24) (l : List (Int × Int)) (o : Bool) : fnI pr np 5 [repV r 0 l.length] [.cells (cZ l) o] = some (.tup [.c (.str (txO r l)), .c (.bool (repB r l))], [.cells (cZ l) o]) := by
  have h1 := call_rep (rest := []) rfl (by simp) (c_spec_IsReplay r hr l o)
  have t3 := fun i n => repC_all hr (C.sl i 0 n 2)
  rw [fb (fn := a5) rfl rfl rfl]
  unfold txO
  cases hq : repB r l with
  | false => rw [hq] at h1; simp [a5, repV, hr, t3, h1, sub]
  | true =>
    rw [hq] at h1
    obtain ⟨h, hl, _⟩ := repB_facts hr hq
    have hw := call_rep (rest := []) rfl (by simp) (c_spec_l11Write r h l hl (digs_of hr hq) o)
    simp [a5, repV, hr, t3, h1, hw, sub]
theorem c_impl_ReplayText (r : List Int) (hr : r.length = 24) (l : List (Int × Int)) (o : Bool) : fnI pr np 7 [repV r 0 l.length] [.cells (cZ l) o] = some (.tup [.c (.str (txO r l)), .c (.bool (repB r l))], [.cells (cZ l) o]) := by
  have h1 := call_rep (rest := []) rfl (by simp) (c_impl_IsReplay r hr l o)
  have t3 := fun i n => repC_all hr (C.sl i 0 n 2)
  rw [fb (fn := a7) rfl rfl rfl]
  unfold txO
  cases hq : repB r l with
  | false => rw [hq] at h1; simp [a7, repV, hr, t3, h1, sub]
  | true =>
    rw [hq] at h1
    obtain ⟨h, hl, _⟩ := repB_facts hr hq
    have hw := call_rep (rest := []) rfl (by simp) (c_impl_text r h l hl (digs_of hr hq) o)
    simp [a7, repV, hr, t3, h1, hw, sub]
theorem c_laws_FnExactReplayText (r : List Int) (hr : r.length = 24) (l : List (Int × Int)) (hn : l.length ≤ 9223372036854775807) : fnI pr np 3 [repV r 0 l.length] [.cells (cZ l) false] = some (.c (.bool true), [.cells (cZ l) false]) := by
  have hsz := call_rep (rest := [.c (.int .i64 1048576)]) rfl (by simp) (c_laws_szReplay r hr l hn false)
  have t3 := fun i => repC_all hr (C.sl i 0 l.length 2)
  rw [fb (fn := a3) rfl rfl rfl]
  by_cases hl : l.length ≤ 1048576
  · rw [if_pos hl] at hsz
    have hneg : ¬ (1048576 - (l.length : Int)) < 0 := by omega
    have hto := call_rep (rest := []) rfl (by simp) (c_laws_toReplay r hr l hl false)
    have h1 := call_rep (rest := []) rfl (by simp) (c_spec_ReplayText r hr l true)
    have h2 := call_rep (rest := []) rfl (by simp) (c_impl_ReplayText r hr l true)
    have heq := call_rep2 (by simp) (by simp) (c_laws_eqReplay r hr l hl true true)
    generalize repB r l = q at h1 h2
    generalize txO r l = t at h1 h2
    simp [a3, repV, hr, t3, hsz, hneg, hto, h1, h2, heq, z25_eq, z25_setAll hr, repV_mp, stillE, madeA, sub]
  · rw [if_neg hl] at hsz
    simp [a3, repV, hr, t3, hsz, sub]
end Go.Proofs.YtcnlkmooifoljaaDoor.AM
