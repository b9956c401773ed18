import Derived.Test.YtafphbegpjjolaaEndGame
/- Contracts: sorted racks. -/
namespace Go.Proofs.Ytafphbegpjjolaa.AM
open Go
set_option maxRecDepth 1000000
set_option linter.unusedSimpArgs false
set_option linter.unusedVariables false
theorem c_spec_l1Has (l : List Int) (x : Int) (hn : l.length < 1000000) : fnI pr np 100 [.c (.sl 0 0 l.length 1), .c (.int .i64 x)] [.cells (l.map (C.int .i64)) true] = some (.c (.bool (decide (x ∈ l))), [.cells (l.map (C.int .i64)) true]) := by
  obtain ⟨K, hK1, hK2, hK3⟩ := first_exit (fun k => decide (l.getD k 0 = x)) l.length
  have g : ∀ k, k < l.length → ((l.map (C.int .i64)).drop k).take 1 = [C.int .i64 (l.getD k 0)] := fun k hk => drop_take1 hk
  rw [fb (fn := a100) rfl rfl]
  simp [a100]
  rw [loop_to (fun k => ([(0, V.c (C.sl 0 0 l.length 1)), (1, V.c (C.int .i64 x)), (5, V.c (C.int .i64 k))], [Blk.cells (l.map (C.int .i64)) true])) K]
  · by_cases hk : K < l.length
    · have hx : l.getD K 0 = x := by
        rcases hK2 with h | h
        · omega
        · exact of_decide_eq_true h
      have hxe : l[K]'hk = x := by rw [← hx, List.getD_eq_getElem?_getD, List.getElem?_eq_getElem hk]; rfl
      have hm : x ∈ l := by rw [← hxe]; exact List.getElem_mem hk
      have b1 : K + 1 ≤ l.length := hk
      have gk := g K hk
      rw [hx] at gk
      simp [hk, gk, b1, hm]
    · have hm : ¬ x ∈ l := by
        intro hm
        obtain ⟨j, hj, he⟩ := List.mem_iff_getElem.1 hm
        have := of_decide_eq_false (hK3 j (by omega))
        rw [List.getD_eq_getElem?_getD, List.getElem?_eq_getElem hj] at this
        exact this he
      simp [hk, hm]
  · simp
  · intro k hk
    have hkl : k < l.length := by omega
    have hx := of_decide_eq_false (hK3 k hk)
    have hxe : ¬ l[k]'hkl = x := by
      intro e; apply hx; rw [List.getD_eq_getElem?_getD, List.getElem?_eq_getElem hkl]; exact e
    have hd : l.getD k 0 = l[k]'hkl := by rw [List.getD_eq_getElem?_getD, List.getElem?_eq_getElem hkl]; rfl
    have gk := g k hkl
    rw [hd] at gk
    have b1 : k + 1 ≤ l.length := hkl
    have wk := wrapS (k := k) (by omega)
    simp [hkl, gk, b1, wk, hxe]
/-- a sorted rack: tubes of one run at most, each of a color of its own -/
def sortTo (r : List Int) (seen : List Int) (i : Nat) : Nat → Bool
  | 0 => true
  | d + 1 => match runsOf (tubeAt r i) with
    | [] => sortTo r seen (i + 1) d
    | [p] => !decide (p.1 ∈ seen) && sortTo r (seen ++ [p.1]) (i + 1) d
    | _ :: _ :: _ => false
def sortP (r : List Int) : Bool := sortTo r [] 0 6
theorem runs_colT : allT (fun t => (runsOf t).all fun p => decide (1 ≤ p.1) && decide (p.1 ≤ 5)) = true := by kernel_rfl
theorem run_col {t : List Int} (ht : t.length = 4) (hv : tubeP t = true) {p : Int × Int} (hp : p ∈ runsOf t) : ∃ c : Nat, p.1 = (c : Int) ∧ 1 ≤ c ∧ c ≤ 5 := by
  have := List.all_eq_true.1 (tubes_all runs_colT ht hv) p hp
  simp only [Bool.and_eq_true, decide_eq_true_eq] at this
  exact ⟨p.1.toNat, by omega, by omega, by omega⟩
theorem c_spec_l2Sorted (r : List Int) (h : RackOK r) : fnI pr np 81 [.agg (r.map (C.int .i64))] [] = some (.c (.bool (sortP r)), []) := by
  have hr := h.len
  rw [fb (fn := a81) rfl rfl]
  simp [a81, hr]
  generalize hL : (ACode.loop _ _) = L
  generalize hR : (ACode.seq _ ACode.ret) = R
  have key : ∀ (d i : Nat) (s : List Int) (e : Env) (g : Heap), i + d = 6 → s.length ≤ i → gcE 0 [1, 3, 4] e g = some ([(1, V.c (C.ptr 0 0)), (3, V.c (C.sl 1 0 s.length 1)), (4, V.c (C.int .i64 i))], [Blk.cells (r.map (C.int .i64)) true, Blk.cells (s.map (C.int .i64)) true]) → leaveK 0 [RV.t 2] (seqK pr np 0 R (blockK 0 (exI pr np 0 L e g))) = some (V.c (C.bool (sortTo r s i d)), []) := by
    intro d
    induction d with
    | zero =>
      intro i s e g hi hs hg
      have hi : i = 6 := by omega
      subst hi
      rw [← hL, exI_loop', hg]
      simp [sortTo, ← hR]
    | succ d ih =>
      intro i s e g hin hs hg
      have hi : i < 6 := by omega
      have hi' : (i : Int) < 6 := by omega
      have ht4 := h.t4 hi
      have htv := h.tv hi
      have hlen : i * 4 + 4 ≤ 24 := by omega
      have hcall := callA_new (runs_both _ ht4 htv).1 (by simp)
      have hm := cells_tube r i
      have hw := wrapS (k := i) (by omega)
      rw [← hL, exI_loop', hg]
      cases hq : runsOf (tubeAt r i) with
      | nil =>
        have hst : sortTo r s i (d + 1) = sortTo r s (i + 1) d := by simp [sortTo, hq]
        simp [hi, hi', hr, hlen, hm, hcall, hw, runsV, runsC, hq]
        rw [hL, hst]
        exact ih (i + 1) s _ _ (by omega) (by omega) (by simp [sub])
      | cons p q =>
        cases q with
        | nil =>
          have hst : sortTo r s i (d + 1) = (!decide (p.1 ∈ s) && sortTo r (s ++ [p.1]) (i + 1) d) := by simp [sortTo, hq]
          have hhas := fun b1 base => callA_gen (F := fnI pr np) (f := 100) (args := [.c (.sl 1 0 s.length 1), .c (.int .i64 p.1)]) (H := lkp [.cells (r.map (C.int .i64)) true, .cells (s.map (C.int .i64)) true, b1]) (L := [1]) (by simp) (by simp) (by simp [sub]) (by simp) (c_spec_l1Has s p.1 (by omega)) (by simp) base
          by_cases hps : p.1 ∈ s
          · simp [hi, hi', hr, hlen, hm, hcall, hw, runsV, runsC, hq, hhas, hps, hst]
          · have hroom : s.length + 1 ≤ 68719476736 := by omega
            have hts : (s.map (C.int .i64)).take s.length = s.map (C.int .i64) := List.take_of_length_le (by simp)
            simp [hi, hi', hr, hlen, hm, hcall, hw, runsV, runsC, hq, hhas, hps, hst, hroom, hts]
            rw [hL]
            exact ih (i + 1) (s ++ [p.1]) _ _ (by omega) (by simp; omega) (by simp [sub, hts])
        | cons p2 q =>
          have hst : sortTo r s i (d + 1) = false := by simp [sortTo, hq]
          have hgt : (1 : Int) < (q.length : Int) + 1 + 1 := by omega
          simp [hi, hi', hr, hlen, hm, hcall, hw, runsV, runsC, hq, hst, hgt]
  exact key 6 0 [] _ _ rfl (by simp) (by simp [sub])
def seenB (s : List Int) : List C := [C.bool (decide (0 ∈ s)), C.bool (decide (1 ∈ s)), C.bool (decide (2 ∈ s)), C.bool (decide (3 ∈ s)), C.bool (decide (4 ∈ s)), C.bool (decide (5 ∈ s))]
@[simp] theorem seenB_len (s : List Int) : (seenB s).length = 6 := rfl
@[simp] theorem seenB_ids (s : List Int) : cids (seenB s) = [] := rfl
@[simp] theorem seenB_cmp (g : Nat → Nat) (s : List Int) : cmp g (seenB s) = seenB s := rfl
theorem seenB_get (s : List Int) {c : Nat} (hc : c ≤ 5) : ((seenB s).drop c).take 1 = [C.bool (decide ((c : Int) ∈ s))] := by
  have : c = 0 ∨ c = 1 ∨ c = 2 ∨ c = 3 ∨ c = 4 ∨ c = 5 := by omega
  rcases this with rfl | rfl | rfl | rfl | rfl | rfl <;> rfl
theorem seenB_set (s : List Int) {c : Nat} (hc : c ≤ 5) : (seenB s).set c (C.bool true) = seenB (s ++ [(c : Int)]) := by
  have : c = 0 ∨ c = 1 ∨ c = 2 ∨ c = 3 ∨ c = 4 ∨ c = 5 := by omega
  rcases this with rfl | rfl | rfl | rfl | rfl | rfl <;> simp [seenB]
theorem c_impl_isSorted (r : List Int) (h : RackOK r) : fnI pr np 55 [.agg (r.map (C.int .i64))] [] = some (.c (.bool (sortP r)), []) := by
  have hr := h.len
  have h24 := take24 hr
  have hs0 : [C.bool false, C.bool false, C.bool false, C.bool false, C.bool false, C.bool false] = seenB [] := rfl
  rw [fb (fn := a55) rfl rfl]
  simp [a55, hr, h24]
  rw [hs0]
  generalize hL : (ACode.loop _ _) = L
  generalize hR : (ACode.seq _ ACode.ret) = R
  have key : ∀ (d i : Nat) (s : List Int) (e : Env) (g : Heap), i + d = 6 → gcE 0 [3, 8, 9] e g = some ([(3, V.c (C.ptr 0 0)), (8, V.agg (r.map (C.int .i64))), (9, V.c (C.int .i64 i))], [Blk.cells (seenB s) true]) → leaveK 0 [RV.t 2] (seqK pr np 0 R (blockK 0 (exI pr np 0 L e g))) = some (V.c (C.bool (sortTo r s i d)), []) := by
    intro d
    induction d with
    | zero =>
      intro i s e g hi hg
      have hi : i = 6 := by omega
      subst hi
      rw [← hL, exI_loop', hg]
      simp [sortTo, ← hR]
    | succ d ih =>
      intro i s e g hin hg
      have hi : i < 6 := by omega
      have hi' : (i : Int) < 6 := by omega
      have ht4 := h.t4 hi
      have htv := h.tv hi
      have hlen : i * 4 + 4 ≤ 24 := by omega
      have hcall := callA_new (runs_both _ ht4 htv).2 (by simp)
      have hm := cells_tube r i
      have hw := wrapS (k := i) (by omega)
      have htl : (tubeAt r i).length = 4 := ht4
      have ht44 : ((tubeAt r i).map (C.int .i64)).take 4 = (tubeAt r i).map (C.int .i64) := List.take_of_length_le (by simp; omega)
      rw [← hL, exI_loop', hg]
      cases hq : runsOf (tubeAt r i) with
      | nil =>
        have hst : sortTo r s i (d + 1) = sortTo r s (i + 1) d := by simp [sortTo, hq]
        simp [hi, hi', hr, hlen, hm, hcall, hw, runsV, runsC, hq, htl, ht44, setAt_all]
        rw [hL, hst]
        exact ih (i + 1) s _ _ (by omega) (by simp [sub])
      | cons p q =>
        cases q with
        | nil =>
          obtain ⟨c, hc, hc1, hc5⟩ := run_col ht4 htv (p := p) (by rw [hq]; simp)
          have hc6 : (c : Int) < 6 := by omega
          have hc6' : c < 6 := by omega
          have hst : sortTo r s i (d + 1) = (!decide ((c : Int) ∈ s) && sortTo r (s ++ [(c : Int)]) (i + 1) d) := by simp [sortTo, hq, hc]
          have hg := seenB_get s hc5
          have hset := seenB_set s hc5
          by_cases hps : (c : Int) ∈ s
          · rw [decide_eq_true hps] at hg
            simp [hi, hi', hr, hlen, hm, hcall, hw, runsV, runsC, hq, htl, ht44, setAt_all, hc, hc6, hc6', hc5, hg, hps, hst]
          · rw [decide_eq_false hps] at hg
            have hc61 : c + 1 ≤ 6 := by omega
            simp [hi, hi', hr, hlen, hm, hcall, hw, runsV, runsC, hq, htl, ht44, setAt_all, setAt, hc, hc6, hc6', hc61, hc5, hg, hps, hst, hset]
            rw [hL]
            exact ih (i + 1) (s ++ [(c : Int)]) _ _ (by omega) (by simp [sub])
        | cons p2 q =>
          have hst : sortTo r s i (d + 1) = false := by simp [sortTo, hq]
          have hgt : (1 : Int) < (q.length : Int) + 1 + 1 := by omega
          have hne : ¬ (q.length : Int) + 1 + 1 = 0 := by omega
          simp [hi, hi', hr, hlen, hm, hcall, hw, runsV, runsC, hq, htl, ht44, setAt_all, hst, hgt, hne]
  exact key 6 0 [] _ _ rfl (by simp [sub])
end Go.Proofs.Ytafphbegpjjolaa.AM
