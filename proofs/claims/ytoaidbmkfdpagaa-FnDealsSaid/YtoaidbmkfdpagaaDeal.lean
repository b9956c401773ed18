import Derived.Test.YtoaidbmkfdpagaaDealDefs
/- Contracts: deals, and in how many of them each tube has one color. -/
namespace Go.Proofs.Ytoaidbmkfdpagaa.AM
open Go
set_option maxRecDepth 1000000
set_option linter.unusedSimpArgs false
set_option linter.unusedVariables false
/-- numbers that are not negative, as cells -/
def cN (xs : List Nat) : List C := xs.map fun (x : Nat) => C.int .i64 (x : Int)
theorem cN_eq (xs : List Nat) : cN xs = (xs.map fun (x : Nat) => (x : Int)).map (C.int .i64) := by simp [cN]
@[simp] theorem cN_len (xs : List Nat) : (cN xs).length = xs.length := by simp [cN]
@[simp] theorem cN_ids (xs : List Nat) : cids (cN xs) = [] := by rw [cN_eq]; exact cids_ints _ _
@[simp] theorem cN_cmp (g : Nat → Nat) (xs : List Nat) : cmp g (cN xs) = cN xs := by rw [cN_eq]; exact cmp_ints _ _ _
@[simp] theorem cN_dead (xs : List Nat) : noDead (cN xs) = true := by rw [cN_eq]; exact noDead_ints _ _
theorem cN_get {xs : List Nat} {k : Nat} (hk : k < xs.length) : ((cN xs).drop k).take 1 = [C.int .i64 (xs.getD k 0)] := by
  unfold cN
  rw [List.drop_eq_getElem_cons (by simpa using hk)]
  simp [List.getD_eq_getElem?_getD, List.getElem?_eq_getElem hk]
theorem cN_all {xs : List Nat} {n : Nat} (h : xs.length = n) : (cN xs).take n = cN xs := List.take_of_length_le (by simp [h])
theorem cN_set (xs : List Nat) (k x : Nat) : (cN xs).set k (C.int .i64 x) = cN (xs.set k x) := by unfold cN; rw [List.map_set]
theorem nats_of {B : Int} {m : List Int} (h : (m.all fun x => inB x 0 B) = true) : ∃ M : List Nat, m.map (C.int .i64) = cN M ∧ M.length = m.length ∧ (∀ x ∈ M, (x : Int) ≤ B) ∧ m.sum = (M.sum : Int) ∧ M.getD 0 0 = (m.getD 0 0).toNat := by
  refine ⟨m.map Int.toNat, ?_, by simp, ?_, ?_, ?_⟩
  · unfold cN
    rw [List.map_map]
    refine List.map_congr_left fun x hx => ?_
    have := List.all_eq_true.1 h x hx
    simp only [inB, Bool.and_eq_true, decide_eq_true_eq] at this
    simp only [Function.comp_apply, C.int.injEq, true_and]
    omega
  · intro x hx
    obtain ⟨y, hy, rfl⟩ := List.mem_map.1 hx
    have := List.all_eq_true.1 h y hy
    simp only [inB, Bool.and_eq_true, decide_eq_true_eq] at this
    omega
  · induction m with
    | nil => rfl
    | cons a m ih =>
      have ha := List.all_eq_true.1 h a (by simp)
      simp only [inB, Bool.and_eq_true, decide_eq_true_eq] at ha
      have := ih (by simp only [List.all_cons, Bool.and_eq_true] at h; exact h.2)
      simp only [List.sum_cons, List.map_cons, this, Int.natCast_add]
      omega
  · cases m with
    | nil => rfl
    | cons a m => rfl
theorem sum_take {m : List Int} {B : Int} (hB : 0 ≤ B) (h : (m.all fun x => inB x 0 B) = true) : ∀ k, k ≤ m.length → 0 ≤ (m.take k).sum ∧ (m.take k).sum ≤ B * k
  | 0, _ => by simp
  | k + 1, hk => by
    have ih := sum_take hB h k (by omega)
    have := List.all_eq_true.1 h (m[k]'(by omega)) (List.getElem_mem _)
    simp only [inB, Bool.and_eq_true, decide_eq_true_eq] at this
    rw [List.take_succ_eq_append_getElem (by omega), List.sum_append]
    simp only [List.sum_cons, List.sum_nil, Int.add_zero]
    have e : B * ((k + 1 : Nat) : Int) = B * (k : Int) + B := by rw [Int.natCast_add, Int.mul_add]; simp
    omega
theorem sum_step {m : List Int} {k : Nat} (hk : k < m.length) : (m.take (k + 1)).sum = (m.take k).sum + m.getD k 0 := by
  rw [List.take_succ_eq_append_getElem hk, List.sum_append]
  simp [List.getD_eq_getElem?_getD, List.getElem?_eq_getElem hk]
theorem c_impl_sum (m : List Int) (hl : m.length ≤ 1000) (h : (m.all fun x => inB x 0 24) = true) (o : Bool) : fnI pr np 117 [.c (.sl 0 0 m.length 1)] [.cells (m.map (C.int .i64)) o] = some (.c (.int .i64 m.sum), [.cells (m.map (C.int .i64)) o]) := by
  rw [fb (fn := a117) rfl rfl]
  simp [a117]
  rw [loop_to (fun k => ([(3, V.c (C.int .i64 (m.take k).sum)), (6, V.c (C.sl 0 0 m.length 1)), (7, V.c (C.int .i64 m.length)), (8, V.c (C.int .i64 k))], [Blk.cells (m.map (C.int .i64)) o])) m.length]
  · simp [sub]
  · simp [sub]
  · intro k hk
    have g := drop_take1 hk
    have hs := sum_step hk
    have hb := sum_take (by decide) h (k + 1) (by omega)
    have wk := wrapS (k := k) (by omega)
    have b1 : k + 1 ≤ m.length := by omega
    have w : IntKind.i64.wrap ((m.take k).sum + m.getD k 0) = (m.take (k + 1)).sum := by rw [← hs]; exact wrapI (by omega) (by omega)
    generalize m.getD k 0 = x at *
    generalize (m.take (k + 1)).sum = s' at *
    generalize (m.take k).sum = s at *
    simp [hk, g, wk, b1, w, sub]
theorem call_all {g : Nat} {p : Int → Bool} (hg : IsP g p) (cs : List Int) {n : Nat} (hl : cs.length = n) (hn : n < 1000000) (o : Bool) (i : Nat) (H : HF) (base : Nat) (hb : (H i == some (Blk.cells (cs.map (C.int .i64)) o)) = true) : callA (fnI pr np) 190 [.c (.sl i 0 n 1), .c (.fn g [])] H base = some (.c (.bool (cs.all p)), [], [(i, .cells (cs.map (C.int .i64)) o)]) := by
  subst hl
  have hb : H i = some (Blk.cells (cs.map (C.int .i64)) o) := by simpa using hb
  have h0 := c_impl_areAll_int hg cs 0 cs.length (by omega) hn o
  rw [show (cs.drop 0).take cs.length = cs by simp] at h0
  have h := callA_gen (F := fnI pr np) (f := 190) (args := [.c (.sl i 0 cs.length 1), .c (.fn g [])]) (H := H) (L := [i]) (by simp [reach, idsAt, hb]) (by simp [closed, hb, idsAt, inL]) (show sub [i] H = [.cells (cs.map (C.int .i64)) o] by simp [sub, hb]) (show _ = [.c (.sl 0 0 cs.length 1), .c (.fn g [])] by simp [pos]) h0 (by simp) base
  rw [h]
  simp
theorem call_sum (m : List Int) {n : Nat} (hl : m.length = n) (hn : n ≤ 1000) (h : (m.all fun x => inB x 0 24) = true) (o : Bool) (i : Nat) (H : HF) (base : Nat) (hb : (H i == some (Blk.cells (m.map (C.int .i64)) o)) = true) : callA (fnI pr np) 117 [.c (.sl i 0 n 1)] H base = some (.c (.int .i64 m.sum), [], [(i, .cells (m.map (C.int .i64)) o)]) := by
  subst hl
  have hb : H i = some (Blk.cells (m.map (C.int .i64)) o) := by simpa using hb
  have h := callA_gen (F := fnI pr np) (f := 117) (args := [.c (.sl i 0 m.length 1)]) (H := H) (L := [i]) (by simp [reach, idsAt, hb]) (by simp [closed, hb, idsAt, inL]) (show sub [i] H = [.cells (m.map (C.int .i64)) o] by simp [sub, hb]) (show _ = [.c (.sl 0 0 m.length 1)] by simp [pos]) (c_impl_sum m hn h o) (by simp) base
  rw [h]
  simp
/-! ### valid deals -/
def dealB (m c : List Int) : Bool := (c.getD 0 0 == 0) && (m.all fun x => inB x 0 4) && (c.all fun x => inB x 0 24) && (m.sum == c.sum)
theorem isP_four : IsP 191 fun x => inB x 0 4 := by
  intro x
  have h := callA_pure (c_impl_within x 0 4) (by simp) (by simp)
  rw [fb (fn := a191) rfl rfl]
  simp [a191, h, inB]
theorem isP_all : IsP 192 fun x => inB x 0 24 := by
  intro x
  have h := callA_pure (c_impl_within x 0 24) (by simp) (by simp)
  rw [fb (fn := a192) rfl rfl]
  simp [a192, h, inB]
theorem four_all {m : List Int} (h : (m.all fun x => inB x 0 4) = true) : (m.all fun x => inB x 0 24) = true := by
  rw [List.all_eq_true] at h ⊢
  intro x hx
  have := h x hx
  simp only [inB, Bool.and_eq_true, decide_eq_true_eq] at this ⊢
  omega
theorem take6 {m : List Int} (h : m.length = 6) : (m.map (C.int .i64)).take 6 = m.map (C.int .i64) := List.take_of_length_le (by simp [h])
theorem c_impl_isDeal (m c : List Int) (hm : m.length = 6) (hc : c.length = 6) : fnI pr np 101 [.agg (m.map (C.int .i64)), .agg (c.map (C.int .i64))] [] = some (.c (.bool (dealB m c)), []) := by
  have g := drop_take1 (c := c) (j := 0) (by omega)
  have a1 := call_all isP_four m hm (by omega) true
  have a2 := call_all isP_all c hc (by omega) true
  rw [List.drop_zero] at g
  rw [fb (fn := a101) rfl rfl]
  unfold dealB
  by_cases h0 : c.getD 0 0 = 0
  · rw [h0] at g
    cases q1 : m.all fun x => inB x 0 4 with
    | false => rw [q1] at a1; simp only [h0]; simp [a101, hm, hc, g, a1, sub]
    | true =>
      rw [q1] at a1
      cases q2 : c.all fun x => inB x 0 24 with
      | false => rw [q2] at a2; simp only [h0]; simp [a101, hm, hc, g, a1, a2, sub]
      | true =>
        rw [q2] at a2
        have s1 := call_sum m hm (by omega) (four_all q1) true
        have s2 := call_sum c hc (by omega) q2 true
        simp only [h0]
        simp [a101, hm, hc, g, a1, a2, s1, s2, sub]
  · have h0' : (c.getD 0 0 == 0) = false := by simpa using h0
    rw [h0']
    generalize c.getD 0 0 = c0 at *
    simp [a101, hm, hc, g, h0, h0', sub]
def badTo (m : List Int) (B : Int) (k : Nat) : Bool := !inB (m.getD k 0) 0 B
theorem all_to {m : List Int} {B : Int} {K : Nat} (hK : K = m.length) (h : ∀ j, j < K → badTo m B j = false) : (m.all fun x => inB x 0 B) = true := by
  rw [List.all_eq_true]
  intro x hx
  obtain ⟨j, hj, rfl⟩ := List.getElem_of_mem hx
  have := h j (by omega)
  unfold badTo at this
  rw [List.getD_eq_getElem?_getD, List.getElem?_eq_getElem hj] at this
  simpa using this
theorem all_not {m : List Int} {B : Int} {K : Nat} (hK : K < m.length) (h : badTo m B K = true) : (m.all fun x => inB x 0 B) = false := by
  rw [List.all_eq_false]
  refine ⟨m[K], List.getElem_mem _, ?_⟩
  unfold badTo at h
  rw [List.getD_eq_getElem?_getD, List.getElem?_eq_getElem hK] at h
  simpa using h
theorem part_all {m : List Int} {B : Int} {K : Nat} (h : ∀ j, j < K → badTo m B j = false) : ((m.take K).all fun x => inB x 0 B) = true := by
  rw [List.all_eq_true]
  intro x hx
  obtain ⟨j, hj, rfl⟩ := List.getElem_of_mem hx
  have hj' : j < K ∧ j < m.length := by simp at hj; omega
  have := h j hj'.1
  unfold badTo at this
  rw [List.getD_eq_getElem?_getD, List.getElem?_eq_getElem hj'.2] at this
  rw [List.getElem_take]
  simpa using this
def dealS (m c : List Int) : Int := if ((m.all fun x => inB x 0 4) && (c.tail.all fun x => inB x 0 24)) = true then m.sum else 0
theorem c_spec_l9Deal (m c : List Int) (hm : m.length = 6) (hc : c.length = 6) : fnI pr np 105 [.agg (m.map (C.int .i64)), .agg (c.map (C.int .i64))] [] = some (.tup [.c (.int .i64 (dealS m c)), .c (.bool (dealB m c))], []) := by
  obtain ⟨K, hK1, hK2, hK3⟩ := first_exit (badTo m 4) 6
  have bnd : ∀ k, k ≤ K → 0 ≤ (m.take k).sum ∧ (m.take k).sum ≤ 4 * k := fun k hk => by
    have h := sum_take (m := m.take K) (B := 4) (by decide) (part_all hK3) k (by simp; omega)
    rwa [List.take_take, Nat.min_eq_left hk] at h
  have turn : ∀ k, k < K → ∀ x, m.getD k 0 = x → inB x 0 4 = true := fun k hk x hx => by
    have := hK3 k hk
    unfold badTo at this
    rw [hx] at this
    simpa using this
  rw [fb (fn := a105) rfl rfl]
  simp [a105, hm, hc]
  rw [loop_to (fun k => ([(2, V.c (C.ptr 0 0)), (3, V.c (C.ptr 1 0)), (6, V.c (C.int .i64 (m.take k).sum)), (7, V.c (C.int .i64 0)), (8, V.c (C.int .i64 k))], [Blk.cells (m.map (C.int .i64)) true, Blk.cells (c.map (C.int .i64)) true])) K]
  · by_cases hK : K < 6
    · have hbad : badTo m 4 K = true := by
        rcases hK2 with e | e
        · omega
        · exact e
      have hall : dealB m c = false := by unfold dealB; rw [all_not (by omega) hbad]; simp
      have hs0 : dealS m c = 0 := by unfold dealS; rw [all_not (by omega) hbad]; simp
      have g := drop_take1 (c := m) (j := K) (by omega)
      have hin := callA_pure (c_spec_l1In (m.getD K 0) 0 4) (by simp) (by simp)
      unfold badTo inB at hbad
      have hbad : (decide (0 ≤ m.getD K 0) && decide (m.getD K 0 ≤ 4)) = false := by rw [Bool.not_eq_true'] at hbad; exact hbad
      rw [hbad] at hin
      rw [hall, hs0]
      have hK' : (K : Int) < 6 := by omega
      have b1 : K + 1 ≤ 6 := by omega
      generalize m.getD K 0 = x at *
      simp [hK, hK', hm, hc, g, b1, hin, sub]
    · have hKe : K = 6 := by omega
      subst hKe
      have hall := all_to hm.symm hK3
      obtain ⟨c0, cs, rfl⟩ : ∃ c0 cs, c = c0 :: cs := by
        cases c with
        | nil => simp at hc
        | cons c0 cs => exact ⟨c0, cs, rfl⟩
      have hcs : cs.length = 5 := by simpa using hc
      obtain ⟨J, hJ1, hJ2, hJ3⟩ := first_exit (badTo cs 24) 5
      have bnd2 : ∀ k, k ≤ J → 0 ≤ (cs.take k).sum ∧ (cs.take k).sum ≤ 24 * k := fun k hk => by
        have h := sum_take (m := cs.take J) (B := 24) (by decide) (part_all hJ3) k (by simp; omega)
        rwa [List.take_take, Nat.min_eq_left hk] at h
      have h6 : m.take 6 = m := List.take_of_length_le (by omega)
      have getc : ∀ j, j < 5 → (((c0 :: cs).map (C.int .i64)).drop (j + 1)).take 1 = [C.int .i64 (cs.getD j 0)] := fun j hj => by
        rw [List.map_cons, List.drop_succ_cons]
        exact drop_take1 (by omega)
      have hce : ∀ (A : List C), A = (c0 :: cs).map (C.int .i64) → A.length = 6 := fun A h => by rw [h]; simp [hcs]
      generalize hA : (c0 :: cs).map (C.int .i64) = A at *
      have hAl := hce A rfl
      have hAi : cids A = [] := by rw [← hA]; exact cids_ints _ _
      have hAm : ∀ g, cmp g A = A := fun g => by rw [← hA]; exact cmp_ints _ _ _
      have g0 : (A.drop 0).take 1 = [C.int .i64 c0] := by rw [← hA]; rfl
      rw [List.drop_zero] at g0
      rw [h6]
      simp
      rw [loop_to (fun j => ([(3, V.c (C.ptr 0 0)), (6, V.c (C.int .i64 m.sum)), (7, V.c (C.int .i64 (cs.take j).sum)), (9, V.c (C.int .i64 ((j + 1 : Nat) : Int)))], [Blk.cells A true])) J]
      · by_cases hJ : J < 5
        · have hbad : badTo cs 24 J = true := by
            rcases hJ2 with e | e
            · omega
            · exact e
          have hall2 : dealB m (c0 :: cs) = false := by unfold dealB; rw [List.all_cons, all_not (by omega) hbad]; simp
          have hs0 : dealS m (c0 :: cs) = 0 := by unfold dealS; rw [List.tail_cons, all_not (by omega) hbad]; simp
          have hin := callA_pure (c_spec_l1In (cs.getD J 0) 0 24) (by simp) (by simp)
          unfold badTo inB at hbad
          have hbad : (decide (0 ≤ cs.getD J 0) && decide (cs.getD J 0 ≤ 24)) = false := by rw [Bool.not_eq_true'] at hbad; exact hbad
          rw [hbad] at hin
          have g := getc J hJ
          rw [hall2, hs0]
          have x1 : (J : Int) + 1 ≤ 5 := by omega
          have x2 : (J : Int) + 1 < 6 := by omega
          have x3 : (0 : Int) ≤ (J : Int) + 1 := by omega
          have b1 : J + 1 + 1 ≤ 6 := by omega
          generalize cs.getD J 0 = x at *
          simp [x1, x2, x3, hAl, hAi, hAm, g, b1, hin, sub]
        · have hJe : J = 5 := by omega
          subst hJe
          have hall2 := all_to hcs.symm hJ3
          have h5 : cs.take 5 = cs := List.take_of_length_le (by omega)
          rw [h5]
          have hs1 : dealS m (c0 :: cs) = m.sum := by unfold dealS; rw [List.tail_cons, hall, hall2]; simp
          rw [hs1]
          unfold dealB
          rw [List.all_cons, hall, hall2]
          by_cases h0 : c0 = 0
          · subst h0
            simp [hAl, hAi, hAm, g0, inB, sub]
          · have h0' : (c0 == 0) = false := by simpa using h0
            simp [hAl, hAi, hAm, g0, h0, h0', sub]
      · simp [hAl, hAi, hAm, sub]
      · intro j hj
        have g := getc j (by omega)
        have hin := callA_pure (c_spec_l1In (cs.getD j 0) 0 24) (by simp) (by simp)
        have hgood := hJ3 j hj
        unfold badTo inB at hgood
        have hgood : (decide (0 ≤ cs.getD j 0) && decide (cs.getD j 0 ≤ 24)) = true := by rw [Bool.not_eq_false'] at hgood; exact hgood
        rw [hgood] at hin
        have hs := sum_step (m := cs) (k := j) (by omega)
        have hb := bnd2 (j + 1) (by omega)
        have w : IntKind.i64.wrap ((cs.take j).sum + cs.getD j 0) = (cs.take (j + 1)).sum := by rw [← hs]; exact wrapI (by omega) (by omega)
        have x1 : (j : Int) + 1 ≤ 5 := by omega
        have x2 : (j : Int) + 1 < 6 := by omega
        have x3 : (0 : Int) ≤ (j : Int) + 1 := by omega
        have b1 : j + 1 + 1 ≤ 6 := by omega
        have wj : IntKind.i64.wrap ((j : Int) + 1 + 1) = (j : Int) + 1 + 1 := wrapI (by omega) (by omega)
        generalize cs.getD j 0 = x at *
        generalize (cs.take (j + 1)).sum = s' at *
        generalize (cs.take j).sum = s at *
        simp [x1, x2, x3, hAl, hAi, hAm, g, b1, hin, w, wj, sub]
  · simp [sub]
  · intro k hk
    have hk6 : k < 6 := by omega
    have g := drop_take1 (c := m) (j := k) (by omega)
    have hin := callA_pure (c_spec_l1In (m.getD k 0) 0 4) (by simp) (by simp)
    have hgood := hK3 k hk
    unfold badTo inB at hgood
    have hgood : (decide (0 ≤ m.getD k 0) && decide (m.getD k 0 ≤ 4)) = true := by rw [Bool.not_eq_false'] at hgood; exact hgood
    rw [hgood] at hin
    have hs := sum_step (m := m) (k := k) (by omega)
    have hb := bnd (k + 1) (by omega)
    have w : IntKind.i64.wrap ((m.take k).sum + m.getD k 0) = (m.take (k + 1)).sum := by rw [← hs]; exact wrapI (by omega) (by omega)
    have x1 : (k : Int) < 6 := by omega
    have b1 : k + 1 ≤ 6 := by omega
    have wk := wrapS (k := k) (by omega)
    generalize m.getD k 0 = x at *
    generalize (m.take (k + 1)).sum = s' at *
    generalize (m.take k).sum = s at *
    simp [x1, hk6, hm, hc, g, b1, hin, w, wk, sub]
end Go.Proofs.Ytoaidbmkfdpagaa.AM
