import Derived.Test.YtllabonhgkocfaaCut
/- Contracts: pours undone; the law's pattern for a replay that comes back. -/
namespace Go.Proofs.Ytllabonhgkocfaa.AM
open Go
set_option maxRecDepth 1000000
set_option linter.unusedSimpArgs false
set_option linter.unusedVariables false
def unB (r : List Int) (l : List (Int × Int)) (k : Int) : Bool := repB r l && inB k 0 l.length
def unL (r : List Int) (l : List (Int × Int)) (k : Int) : List (Int × Int) := if unB r l k = true then l.take (l.length - k.toNat) else []
def unR (r : List Int) (l : List (Int × Int)) (k : Int) : List Int := if unB r l k = true then r else List.replicate 24 0
theorem unR_len {r : List Int} (hr : r.length = 24) (l : List (Int × Int)) (k : Int) : (unR r l k).length = 24 := by
  unfold unR; split
  · exact hr
  · simp
theorem c_spec_UndoPours (r : List Int) (hr : r.length = 24) (l : List (Int × Int)) (o : Bool) (k : Int) : fnI pr np 29 [repV r 0 l.length, .c (.int .i64 k)] [.cells (cZ l) o] = some (backV (unR r l k) (unL r l k) (unB r l k), [.cells (cZ l) o, .cells (cZ (unL r l k)) true]) := by
  have h1 := call_rep (rest := []) rfl (by simp) (c_spec_IsReplay r hr l o)
  have t3 := fun i n => repC_all hr (C.sl i 0 n 2)
  have t2 := repC_drop hr (C.sl 0 0 l.length 2)
  rw [fb (fn := a29) rfl rfl]
  unfold backV unL unR unB
  cases hq : repB r l with
  | false => rw [hq] at h1; simp [a29, repV, hr, t3, h1, z25_eq, setAt_all, cZ_nil, sub]
  | true =>
    rw [hq] at h1
    obtain ⟨h, hl, _⟩ := repB_facts hr hq
    have hin := callA_pure (c_spec_l1In k 0 l.length) (by simp) (by simp)
    rw [show (decide ((0 : Int) ≤ k) && decide (k ≤ l.length)) = inB k 0 l.length from rfl] at hin
    cases hb : inB k 0 l.length with
    | false => rw [hb] at hin; simp [a29, repV, hr, t2, t3, h1, hin, z25_eq, setAt_all, cZ_nil, sub]
    | true =>
      rw [hb] at hin
      have hk : 0 ≤ k ∧ k ≤ l.length := by simpa [inB] using hb
      obtain ⟨K, rfl⟩ : ∃ K : Nat, k = (K : Int) := ⟨k.toNat, by omega⟩
      have w : IntKind.i64.wrap ((l.length : Int) - (K : Int)) = ((l.length - K : Nat) : Int) := (wrapI (by omega) (by omega)).trans (by omega)
      have hcut := call_rep (rest := [.c (.int .i64 ((l.length - K : Nat) : Int))]) rfl (by simp) (c_spec_l11Cut r hr l (by omega) (l.length - K) (by omega) o)
      have hlen : (l.take (l.length - K)).length = l.length - K := by rw [List.length_take]; omega
      simp [a29, repV, hr, t2, t3, h1, hin, w, hcut, hlen, z25_eq, z25_setAll hr, repV_mp, setAt_all, sub]
theorem call_with1 {r : List Int} (hr : r.length = 24) {l : List (Int × Int)} {n0 k n off : Nat} (hoff : off = k * 2) (hk : k + n ≤ l.length) (hl : l.length ≤ 1048576) (o : Bool) (j i : Nat) (H : HF) (base : Nat) (hji : (j != i) = true) (hj : (H j == some (Blk.cells (cZ l) o)) = true) (hi : (H i == some (Blk.cells [.sl j off n 2] true)) = true) :
    callA (fnI pr np) 118 [.agg (r.map (C.int .i64) ++ [C.sl j 0 n0 2]), .c (.sl i 0 1 1)] H base = some (.agg (r.map (C.int .i64) ++ [C.sl base 0 n 2]), [.cells (cZ ((l.drop k).take n)) true], [(j, .cells (cZ l) o), (i, .cells [.sl j off n 2] true)]) := by
  subst hoff
  have hj : H j = some (Blk.cells (cZ l) o) := by simpa using hj
  have hi : H i = some (Blk.cells [.sl j (k * 2) n 2] true) := by simpa using hi
  have hji : j ≠ i := by simpa using hji
  have hij : ¬ i = j := fun e => hji e.symm
  have h := callA_gen (F := fnI pr np) (f := 118) (args := [.agg (r.map (C.int .i64) ++ [C.sl j 0 n0 2]), .c (.sl i 0 1 1)]) (H := H) (L := [j, i]) (by simp [reach, idsAt, hj, hi, hji, hij, cids_app]) (by simp [closed, hj, hi, idsAt, inL, cids_app]) (show sub [j, i] H = [.cells (cZ l) o, .cells [.sl 0 (k * 2) n 2] true] by simp [sub, hj, hi, pos]) (show _ = [repV r 0 n0, .c (.sl 1 0 1 1)] by simp [pos, repV, hji, cmp_app]) (c_impl_with1 r hr l n0 k n hk hl o) (by simp) base
  rw [h]
  simp [repV, back, cmp_app]
theorem c_impl_UndoPours (r : List Int) (hr : r.length = 24) (l : List (Int × Int)) (o : Bool) (k : Int) : fnI pr np 30 [repV r 0 l.length, .c (.int .i64 k)] [.cells (cZ l) o] = some (backV (unR r l k) (unL r l k) (unB r l k), [.cells (cZ l) o, .cells (cZ (unL r l k)) true]) := by
  have h1 := call_rep (rest := []) rfl (by simp) (c_impl_IsReplay r hr l o)
  have t3 := fun i n => repC_all hr (C.sl i 0 n 2)
  have t2 := repC_drop hr (C.sl 0 0 l.length 2)
  rw [fb (fn := a30) rfl rfl]
  unfold backV unL unR unB
  cases hq : repB r l with
  | false => rw [hq] at h1; simp [a30, repV, hr, t3, h1, z25_eq, setAt_all, cZ_nil, sub]
  | true =>
    rw [hq] at h1
    obtain ⟨h, hl, _⟩ := repB_facts hr hq
    have hin := callA_pure (c_impl_within k 0 l.length) (by simp) (by simp)
    rw [show (decide ((0 : Int) ≤ k) && decide (k ≤ l.length)) = inB k 0 l.length from rfl] at hin
    cases hb : inB k 0 l.length with
    | false => rw [hb] at hin; simp [a30, repV, hr, t2, t3, h1, hin, z25_eq, setAt_all, cZ_nil, sub]
    | true =>
      rw [hb] at hin
      have hk : 0 ≤ k ∧ k ≤ l.length := by simpa [inB] using hb
      obtain ⟨K, rfl⟩ : ∃ K : Nat, k = (K : Int) := ⟨k.toNat, by omega⟩
      have w : IntKind.i64.wrap ((l.length : Int) - (K : Int)) = ((l.length - K : Nat) : Int) := (wrapI (by omega) (by omega)).trans (by omega)
      have hw := fun (i : Nat) => call_with1 hr (l := l) (n0 := l.length) (k := 0) (n := l.length - K) (off := 0) rfl (by omega) (by omega) o 0 i
      have hlen : (l.take (l.length - K)).length = l.length - K := by simp
      simp [a30, repV, hr, t2, t3, h1, hin, w, hw, hlen, z25_eq, z25_setAll hr, setAt_all, stillE, madeA, sub]
theorem c_laws_FnExactUndoPours (r : List Int) (hr : r.length = 24) (l : List (Int × Int)) (hn : l.length ≤ 9223372036854775807) (k : Int) (_ : -9223372036854775808 ≤ k ∧ k < 9223372036854775808) : fnI pr np 6 [repV r 0 l.length, .c (.int .i64 k)] [.cells (cZ l) false] = some (.c (.bool true), [.cells (cZ l) false]) := by
  have hsz := call_rep (rest := [.c (.int .i64 1048576)]) rfl (by simp) (c_laws_szReplay r hr l hn false)
  have t3 := fun i => repC_all hr (C.sl i 0 l.length 2)
  rw [fb (fn := a6) rfl rfl]
  by_cases hl : l.length ≤ 1048576
  · rw [if_pos hl] at hsz
    have hneg : ¬ (1048576 - (l.length : Int)) < 0 := by omega
    have hto := call_rep (rest := []) rfl (by simp) (c_laws_toReplay r hr l hl false)
    have h1 := call_rep (rest := [.c (.int .i64 k)]) rfl (by simp) (c_spec_UndoPours r hr l true k)
    have h2 := call_rep (rest := [.c (.int .i64 k)]) rfl (by simp) (c_impl_UndoPours r hr l true k)
    have heq := call_rep2 (by simp) (by simp) (c_laws_eqReplay r hr l hl true true)
    have hmr := call_repW (rest := [.c (.int .i64 1)]) rfl (by simp) (by simp [markC_ids]) (c_laws_markReplay r hr l hl)
    have hm : (unL r l k).length ≤ 60 := by
      unfold unL unB
      split
      · rename_i h
        simp only [Bool.and_eq_true] at h
        obtain ⟨_, h2, _⟩ := repB_facts hr h.1
        simp; omega
      · simp
    have hrr := unR_len hr l k
    unfold backV at h1 h2
    generalize unL r l k = m at *
    generalize unR r l k = rr at *
    generalize unB r l k = q at *
    have e0 := call_rep2 (by simp) (by simp) (c_laws_eqReplay rr hrr m (by omega) true true)
    have k0 := call_repW (rest := [.c (.int .i64 1)]) rfl (by simp) (by simp [markC_ids]) (c_laws_markReplay rr hrr m (by omega))
    have d0 := call_repW (rest := [.c (.int .i64 1)]) rfl (by simp [markC_ids]) (by simp [markC_ids]) (c_laws_heldReplay rr hrr m.length (by omega))
    have t4 := fun i => repC_all hrr (C.sl i 0 m.length 2)
    have p1 := mk1_pos (l.length * 2)
    have p2 := mk1_pos (m.length * 2)
    simp [a6, repV, hr, hrr, t3, t4, hsz, hneg, hto, h1, h2, heq, hmr, e0, k0, d0, p1, p2, z25_eq, z25_setAll hr, z25_setAll hrr, repV_mp, setAt_all, markC_ids, markC_cmp, stillE, madeA, sub]
  · rw [if_neg hl] at hsz
    simp [a6, repV, hr, t3, hsz, sub]
end Go.Proofs.Ytllabonhgkocfaa.AM
