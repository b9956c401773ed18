import Derived.Test.YtafphbegpjjolaaDrawN
/- Contract: a mixed rack. -/
namespace Go.Proofs.Ytafphbegpjjolaa.AM
open Go
set_option maxRecDepth 1000000
set_option linter.unusedSimpArgs false
set_option linter.unusedVariables false
theorem rack_zero : RackOK (List.replicate 24 0) := ⟨by simp, by kernel_rfl⟩
theorem rack_bkY {r : List Int} (h : RackOK r) (a b m : Int) : RackOK (bkY r a b m) := by
  unfold bkY
  split
  · rename_i hq
    unfold bkB bkC at hq
    simp only [Bool.and_eq_true, Bool.not_eq_true', beq_eq_false_iff_ne] at hq
    obtain ⟨⟨⟨⟨⟨h1, h2⟩, h3⟩, h4⟩, h5⟩, h6⟩ := hq
    obtain ⟨A, rfl, hA, tA⟩ := place_nat h1
    obtain ⟨B, rfl, hB, tB⟩ := place_nat h2
    obtain ⟨M, rfl⟩ : ∃ M : Nat, m = (M : Int) := ⟨m.toNat, by simp only [inB, Bool.and_eq_true, decide_eq_true_eq] at h4; omega⟩
    simp only [Int.toNat_natCast] at h4 ⊢
    exact bk_ok h hA hB (fun e => h3 (by rw [e])) h4
  · exact rack_zero
def MbP (cs : List Int) (v : V) (h' : Heap) : Prop := ∃ (R L : List Int) (n : Nat) (b : Bool), R.length = 24 ∧ v = .tup [.agg (R.map (C.int .i64)), .c (.sl 1 0 n 2), .c (.bool b)] ∧ h' = [Blk.cells (cs.map (C.int .i64)) true, Blk.cells (L.map (C.int .i64)) true]
def MbI (cs : List Int) (k : Nat) (st : Env × Heap) : Prop := ∃ (R L : List Int) (l : Nat), RackOK R ∧ L.length = l * 2 ∧ l ≤ k ∧ st = ([(1, V.c (C.sl 0 0 cs.length 1)), (2, V.c (C.ptr 1 0)), (4, V.c (C.ptr 2 0)), (7, V.c (C.sl 3 0 l 2)), (9, V.c (C.int .i64 k))], [Blk.cells (cs.map (C.int .i64)) true, Blk.cells (R.map (C.int .i64)) true, Blk.cells (List.replicate 24 (C.int .i64 0)) true, Blk.cells (L.map (C.int .i64)) true])
def MbE (cs : List Int) (r : Ex × Env × Heap) : Prop := ∃ (R L : List Int) (l : Nat) (e : Env) (g : Heap), RackOK R ∧ r = (.exit 2, (1, V.c (C.sl 0 0 cs.length 1)) :: (2, V.c (C.ptr 1 0)) :: (4, V.c (C.ptr 2 0)) :: (7, V.c (C.sl 3 0 l 2)) :: e, Blk.cells (cs.map (C.int .i64)) true :: Blk.cells (R.map (C.int .i64)) true :: Blk.cells (List.replicate 24 (C.int .i64 0)) true :: Blk.cells (L.map (C.int .i64)) true :: g)
set_option maxHeartbeats 8000000 in
theorem c_spec_MixedBy (r cs : List Int) (hr : r.length = 24) (hcs : cs.length ≤ 21) : ∃ v h', fnI pr np 28 [.agg (r.map (C.int .i64)), .c (.sl 0 0 cs.length 1)] [Blk.cells (cs.map (C.int .i64)) true] = some (v, h') ∧ MbP cs v h' := by
  have hra := callA_pure (c_rack_spec r hr) (by simp) (by simp)
  have r24 := take24 hr
  rw [fb (fn := a28) rfl rfl]
  cases hq : okRack r with
  | false =>
    rw [hq] at hra
    simp [a28, hra, hr, r24, setAt_all, sub]
    first | exact ⟨List.replicate 24 0, [], 0, false, by simp, by simp, by simp⟩ | exact ⟨_, _, ⟨rfl, rfl⟩, List.replicate 24 0, [], 0, false, by simp, by simp, by simp⟩
  | true =>
    rw [hq] at hra
    by_cases h20 : 20 < cs.length
    · have h20' : (20 : Int) < (cs.length : Int) := by omega
      simp [a28, hra, hr, r24, h20, h20', setAt_all, sub]
      first | exact ⟨List.replicate 24 0, [], 0, false, by simp, by simp, by simp⟩ | exact ⟨_, _, ⟨rfl, rfl⟩, List.replicate 24 0, [], 0, false, by simp, by simp, by simp⟩
    have h20' : ¬ (20 : Int) < (cs.length : Int) := by omega
    have hR := rackOK hr hq
    obtain ⟨K, hK1, hK2, hK3⟩ := first_exit (fun k => decide (cs.getD k 0 < 0)) cs.length
    have g : ∀ k : Nat, k < cs.length → ((cs.map (C.int .i64)).drop k).take 1 = [C.int .i64 (cs.getD k 0)] := fun k hk => drop_take1 hk
    simp [a28, hra, hr, r24, h20, h20', setAt_all, sub]
    rw [loop_to (fun k => ([(1, V.c (C.sl 0 0 cs.length 1)), (2, V.c (C.ptr 1 0)), (4, V.c (C.ptr 2 0)), (7, V.c (C.sl 3 0 0 2)), (8, V.c (C.int .i64 k))], [Blk.cells (cs.map (C.int .i64)) true, Blk.cells (r.map (C.int .i64)) true, Blk.cells (List.replicate 24 (C.int .i64 0)) true, Blk.cells [] true])) K]
    · by_cases hk : K < cs.length
      · have hneg : cs.getD K 0 < 0 := by
          rcases hK2 with h | h
          · omega
          · exact of_decide_eq_true h
        have gk := g K hk
        have b1 : K + 1 ≤ cs.length := hk
        generalize cs.getD K 0 = x at *
        simp [hk, gk, b1, hneg, setAt_all, sub]
        first | exact ⟨List.replicate 24 0, [], 0, false, by simp, by simp, by simp⟩ | exact ⟨_, _, ⟨rfl, rfl⟩, List.replicate 24 0, [], 0, false, by simp, by simp, by simp⟩
      · have hpos : ∀ j, j < cs.length → 0 ≤ cs.getD j 0 := fun j hj => by
          have := of_decide_eq_false (hK3 j (by omega))
          omega
        simp [hk, sub]
        generalize hX : exI pr np 1 (ACode.loop _ _) _ _ = X
        have hl := loop_exit hX (MbI cs) cs.length (MbE cs) ⟨([(1, V.c (C.sl 0 0 cs.length 1)), (2, V.c (C.ptr 1 0)), (4, V.c (C.ptr 2 0)), (7, V.c (C.sl 3 0 0 2)), (9, V.c (C.int .i64 0))], [Blk.cells (cs.map (C.int .i64)) true, Blk.cells (r.map (C.int .i64)) true, Blk.cells (List.replicate 24 (C.int .i64 0)) true, Blk.cells [] true]), by simp [sub], r, [], 0, hR, rfl, by omega, by simp⟩ ?_
        · obtain ⟨rr, rfl, R, L, l, e, g', hR', rfl⟩ := hl
          have hRl := hR'.len
          have hR24 := take24 hRl
          simp [hRl, hR24, setAt_all, sub]
          first | exact ⟨R, L, l, true, hRl, rfl, rfl⟩ | exact ⟨_, _, ⟨rfl, rfl⟩, R, L, l, true, hRl, rfl, rfl⟩
        · rintro k hk st ⟨R, L, l, hR', hL, hlk, rfl⟩
          by_cases hkn : k = cs.length
          · right
            subst hkn
            simp
            exact ⟨R, L, l, _, _, hR', rfl⟩
          · have hkl : k < cs.length := by omega
            have hRl := hR'.len
            have hR24 := take24 hRl
            obtain ⟨S, hS, hF⟩ := c_spec_l5Sources R hR'
            have g1 := callA_new hF (by simp)
            by_cases hS0 : S.length = 0
            · right
              simp [hkl, g1, hS0, hRl, hR24, sub]
              exact ⟨R, L, l, _, _, hR', rfl⟩
            · left
              refine ⟨hkl, ?_⟩
              have hS0' : ((S.length : Int) == 0) = false := beq_eq_false_iff_ne.2 (by omega)
              have hS1 : ¬ (S.length : Int) = 0 := by omega
              obtain ⟨x, hx⟩ := Int.eq_ofNat_of_zero_le (hpos k hkl)
              have gk := g k hkl
              rw [hx] at gk
              have b1 : k + 1 ≤ cs.length := hkl
              have ht : (x : Int).tmod (S.length : Int) = ((x % S.length : Nat) : Int) := rfl
              have hlt : x % S.length < S.length := Nat.mod_lt _ (by omega)
              have hlt' : ((x % S.length : Nat) : Int) < (S.length : Int) := by omega
              have gt := triC_get S hlt
              have b2 : x % S.length * 3 + 3 ≤ S.length * 3 := by omega
              have wk := wrapS (k := k) (by omega)
              generalize hI : x % S.length = I at *
              obtain ⟨⟨a, b, m⟩, hT⟩ : ∃ t, S[I]'hlt = t := ⟨_, rfl⟩
              rw [hT] at gt
              have hb := c_spec_l5Back R hR' a b m
              unfold bkW at hb
              have hb := callA_pure hb (by simp) (by simp)
              have hY := rack_bkY hR' a b m
              have hYl := hY.len
              have hY24 := take24 hYl
              generalize bkY R a b m = Y at *
              generalize bkB R a b m = q at *
              have tL : (L.map (C.int .i64)).take (l * 2) = L.map (C.int .i64) := List.take_of_length_le (by simp; omega)
              have n1 : 1 + l ≤ 68719476736 := by omega
              have n2 : l * 2 ≤ L.length := by omega
              simp [hkl, g1, hS0, hS0', hS1, hRl, hR24, gk, b1, ht, hlt, hlt', gt, b2, wk, hb, hYl, hY24, tL, n1, n2, setAt_all, setAt, sub]
              exact ⟨Y, a :: b :: L, 1 + l, hY, by simp; omega, by omega, by simp⟩
    · simp [sub]
    · intro k hk
      have hkl : k < cs.length := by omega
      have hx := of_decide_eq_false (hK3 k hk)
      have gk := g k hkl
      have b1 : k + 1 ≤ cs.length := hkl
      have wk := wrapS (k := k) (by omega)
      generalize cs.getD k 0 = x at *
      simp [hkl, gk, b1, hx, wk, sub]
end Go.Proofs.Ytafphbegpjjolaa.AM
