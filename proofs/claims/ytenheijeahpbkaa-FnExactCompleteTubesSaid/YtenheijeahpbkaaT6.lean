import Derived.Test.YtenheijeahpbkaaT5
namespace Go.Proofs.Ytenheijeahpbkaa.AM
open Go
set_option maxRecDepth 100000
set_option linter.unusedSimpArgs false
/-- a cell of a rack that the reference refuses -/
def cellAt (r : List Int) (j : Nat) : Int := r.getD j 0
def badP (r : List Int) (i k : Nat) : Bool := !(decide (0 ≤ cellAt r (i * 4 + k)) && decide (cellAt r (i * 4 + k) ≤ 5)) || (decide (0 < k) && decide (0 < cellAt r (i * 4 + k)) && decide (cellAt r (i * 4 + (k - 1)) = 0))
def anyFrom (f : Nat → Bool) (k : Nat) : Nat → Bool
  | 0 => false
  | d + 1 => f k || anyFrom f (k + 1) d
def rowBad (r : List Int) (i : Nat) : Bool := anyFrom (badP r i) 0 4
set_option maxHeartbeats 1000000 in
theorem c38 (r : List Int) (hr : r.length = 24) : fnI pr np 38 [.agg (r.map (C.int .i64))] [] = some (.c (.bool (!anyFrom (rowBad r) 0 6)), []) := by
  have hcell : ∀ j, j < 24 → ((r.map (C.int .i64)).drop j).take 1 = [C.int .i64 (cellAt r j)] := by
    intro j hj
    rw [List.drop_eq_getElem_cons (by simp; omega)]
    simp [cellAt, List.getD_eq_getElem?_getD, List.getElem?_eq_getElem (show j < r.length by omega)]
  rw [fb (fn := a38) rfl rfl]
  simp [a38, hr]
  generalize hL1 : (ACode.loop _ [1, 3]) = L1
  generalize hR : (ACode.seq _ ACode.ret) = R
  have key : ∀ (d i : Nat), i + d = 6 → leaveK 0 [RV.t 2] (seqK pr np 0 R (blockK 0 (exI pr np 0 L1 [(1, V.c (C.ptr 0 0)), (3, V.c (C.int .i64 i))] [Blk.cells (r.map (C.int .i64)) true]))) = some (V.c (C.bool (!anyFrom (rowBad r) i d)), []) := by
    intro d
    induction d with
    | zero =>
      intro i hi
      have hi : i = 6 := by omega
      subst hi
      rw [← hL1, exI_loop', gcE_one (by simp) (by simp [envIds])]
      simp [anyFrom, ← hR, pos]
    | succ d ih =>
      intro i hin
      have hi : i < 6 := by omega
      have ih := ih (i + 1) (by omega)
      have hw : IntKind.i64.wrap ((i : Int) + 1) = ((i + 1 : Nat) : Int) := by rw [wrapI (by omega) (by omega)]; rfl
      have hi' : (i : Int) < 6 := by omega
      rw [← hL1, exI_loop', gcE_one (by simp) (by simp [envIds])]
      simp [pos, hi']
      generalize hL2 : (ACode.loop _ [1, 3, 4]) = L2
      have key2 : ∀ (d k : Nat), k + d = 4 → exI pr np 0 L2 [(1, V.c (C.ptr 0 0)), (3, V.c (C.int .i64 i)), (4, V.c (C.int .i64 k))] [Blk.cells (r.map (C.int .i64)) true] = if anyFrom (badP r i) k d = true then some (.ret, [(2, V.c (C.bool false))], [Blk.cells (r.map (C.int .i64)) true]) else some (.exit 2, [(1, V.c (C.ptr 0 0)), (3, V.c (C.int .i64 i)), (4, V.c (C.int .i64 4)), (10, V.c (C.bool false))], [Blk.cells (r.map (C.int .i64)) true]) := by
        intro d
        induction d with
        | zero =>
          intro k hk
          have hk : k = 4 := by omega
          subst hk
          rw [← hL2, exI_loop', gcE_one (by simp) (by simp [envIds])]
          simp [anyFrom, pos]
        | succ d ih2 =>
          intro k hk
          have ih2 := ih2 (k + 1) (by omega)
          have hwk : IntKind.i64.wrap ((k : Int) + 1) = ((k + 1 : Nat) : Int) := by rw [wrapI (by omega) (by omega)]; rfl
          have hk' : (k : Int) < 4 := by omega
          have hk4 : k < 4 := by omega
          have hc58 := callA_pure (c58 (cellAt r (i * 4 + k)) 0 5) (by simp) (by simp)
          have hx := hcell (i * 4 + k) (by omega)
          have hlen : i * 4 + k + 1 ≤ 24 := by omega
          rw [← hL2, exI_loop', gcE_one (by simp) (by simp [envIds])]
          by_cases h1 : (decide (0 ≤ cellAt r (i * 4 + k)) && decide (cellAt r (i * 4 + k) ≤ 5)) = true
          · rw [h1] at hc58
            by_cases h2 : 0 < k
            · have h2' : (0 : Int) < (k : Int) := by omega
              have hwk1 : IntKind.i64.wrap ((k : Int) - 1) = ((k - 1 : Nat) : Int) := by rw [wrapI (by omega) (by omega)]; omega
              have hk1 : k - 1 < 4 := by omega
              have hk1' : ((k - 1 : Nat) : Int) < 4 := by omega
              have hy := hcell (i * 4 + (k - 1)) (by omega)
              have hlen1 : i * 4 + (k - 1) + 1 ≤ 24 := by omega
              by_cases h3 : 0 < cellAt r (i * 4 + k)
              · by_cases h4 : cellAt r (i * 4 + (k - 1)) = 0
                · simp [pos, hi', hk', hi, hk4, hr, hx, hlen, hc58, h2, h2', h3, h4, hwk1, hk1, hk1', hy, hlen1, hwk, anyFrom, badP]
                · have hb : badP r i k = false := by simp [badP, h4]; simpa using h1
                  simp [pos, hi', hk', hi, hk4, hr, hx, hlen, hc58, h2, h2', h3, h4, hwk1, hk1, hk1', hy, hlen1, hwk, anyFrom, hb]
                  rw [hL2]; exact ih2
              · have hb : badP r i k = false := by simp [badP, h3]; simpa using h1
                simp [pos, hi', hk', hi, hk4, hr, hx, hlen, hc58, h2, h2', h3, hwk, anyFrom, hb]
                rw [hL2]; exact ih2
            · have h2' : ¬ (0 : Int) < (k : Int) := by omega
              have hb : badP r i k = false := by simp [badP, h2]; simpa using h1
              simp [pos, hi', hk', hi, hk4, hr, hx, hlen, hc58, h2, h2', hwk, anyFrom, hb]
              rw [hL2]; exact ih2
          · have h1 : (decide (0 ≤ cellAt r (i * 4 + k)) && decide (cellAt r (i * 4 + k) ≤ 5)) = false := by simpa using h1
            rw [h1] at hc58
            have hb : badP r i k = true := by unfold badP; rw [h1]; rfl
            simp [pos, hi', hk', hi, hk4, hr, hx, hlen, hc58, anyFrom, hb]
      have k2 := key2 4 0 rfl
      push_cast at k2
      rw [show anyFrom (badP r i) 0 4 = rowBad r i from rfl] at k2
      rw [k2]
      by_cases hb : rowBad r i = true
      · simp [hb, anyFrom]
      · have hb : rowBad r i = false := by simpa using hb
        rw [hb]
        simp [hw]
        rw [← hL2, hL1]
        exact ih.trans (by simp [anyFrom, hb])
  exact key 6 0 rfl
theorem c35 (r : List Int) (hr : r.length = 24) (m n : Int) : fnI pr np 35 [.agg (r.map (C.int .i64) ++ [.int .i64 m, .int .i64 n])] [] = some (.c (.bool (!anyFrom (rowBad r) 0 6 && (decide (0 ≤ m) && decide (m ≤ 9999)) && (decide (0 ≤ n) && decide (n ≤ 1000)))), []) := by
  have hc38 := callA_pure (c38 r hr) (by simp) (by simp)
  generalize (!anyFrom (rowBad r) 0 6) = rk at hc38 ⊢
  have hcm := callA_pure (c58 m 0 9999) (by simp) (by simp)
  have hcn := callA_pure (c58 n 0 1000) (by simp) (by simp)
  have h24 : (r.map (C.int .i64) ++ [C.int .i64 m, C.int .i64 n]).take 24 = r.map (C.int .i64) := by rw [List.take_append_of_le_length (by simp; omega), List.take_of_length_le (by simp; omega)]
  have h25 : (r.map (C.int .i64) ++ [C.int .i64 m, C.int .i64 n]).drop 24 = [C.int .i64 m, C.int .i64 n] := by rw [List.drop_append_of_le_length (by simp; omega), List.drop_of_length_le (by simp; omega)]; rfl
  have h26 : (r.map (C.int .i64) ++ [C.int .i64 m, C.int .i64 n]).drop 25 = [C.int .i64 n] := by rw [show 25 = 24 + 1 from rfl, ← List.drop_drop, h25]; rfl
  have hids : cids (r.map (C.int .i64) ++ [C.int .i64 m, C.int .i64 n]) = [] := by
    have : r.map (C.int .i64) ++ [C.int .i64 m, C.int .i64 n] = (r ++ [m, n]).map (C.int .i64) := by simp
    rw [this, cids_ints]
  rw [fb (fn := a35) rfl rfl]
  by_cases h1 : rk = true <;> by_cases h2 : (decide (0 ≤ m) && decide (m ≤ 9999)) = true <;> (try simp only [Bool.not_eq_true] at h1 h2) <;> simp only [h1, h2] at hc38 hcm <;> simp [a35, hr, h24, h25, h26, hc38, hcm, hcn, h1, h2, -Bool.and_eq_true, -decide_eq_true_eq]
theorem c10 (r : List Int) (hr : r.length = 24) (m n : Int) : fnI pr np 10 [.agg (r.map (C.int .i64) ++ [.int .i64 m, .int .i64 n])] [] = some (.c (.bool (!anyFrom (rowBad r) 0 6 && (decide (0 ≤ m) && decide (m ≤ 9999)) && (decide (0 ≤ n) && decide (n ≤ 1000)))), []) := by
  have hids : cids (r.map (C.int .i64) ++ [C.int .i64 m, C.int .i64 n]) = [] := by
    have : r.map (C.int .i64) ++ [C.int .i64 m, C.int .i64 n] = (r ++ [m, n]).map (C.int .i64) := by simp
    rw [this, cids_ints]
  have hc35 := callA_pure (c35 r hr m n) (by simp [hids]) (by simp)
  have h26 : (r.map (C.int .i64) ++ [C.int .i64 m, C.int .i64 n]).take 26 = r.map (C.int .i64) ++ [C.int .i64 m, C.int .i64 n] := List.take_of_length_le (by simp; omega)
  generalize (!anyFrom (rowBad r) 0 6 && (decide (0 ≤ m) && decide (m ≤ 9999)) && (decide (0 ≤ n) && decide (n ≤ 1000))) = q at hc35 ⊢
  rw [fb (fn := a10) rfl rfl]
  simp [a10, hr, h26, hc35]
theorem len24 {r : List Int} (h : r.length = 24) : ∃ a0 a1 a2 a3 a4 a5 a6 a7 a8 a9 a10 a11 a12 a13 a14 a15 a16 a17 a18 a19 a20 a21 a22 a23, r = [a0, a1, a2, a3, a4, a5, a6, a7, a8, a9, a10, a11, a12, a13, a14, a15, a16, a17, a18, a19, a20, a21, a22, a23] := by
  match r, h with
  | [a0, a1, a2, a3, a4, a5, a6, a7, a8, a9, a10, a11, a12, a13, a14, a15, a16, a17, a18, a19, a20, a21, a22, a23], _ => exact ⟨a0, a1, a2, a3, a4, a5, a6, a7, a8, a9, a10, a11, a12, a13, a14, a15, a16, a17, a18, a19, a20, a21, a22, a23, rfl⟩
theorem tube_eq (a b c d : Int) : tubeP [a, b, c, d] = !(!(decide (0 ≤ a) && decide (a ≤ 5)) || (!(decide (0 ≤ b) && decide (b ≤ 5)) || (decide (0 < b) && decide (a = 0))) || (!(decide (0 ≤ c) && decide (c ≤ 5)) || (decide (0 < c) && decide (b = 0))) || (!(decide (0 ≤ d) && decide (d ≤ 5)) || (decide (0 < d) && decide (c = 0)))) := by
  rw [Bool.eq_iff_iff]
  by_cases ha : a = 0 <;> by_cases hb : b = 0 <;> by_cases hc : c = 0 <;> by_cases hd : d = 0 <;> simp [tubeP, layN, colP, ha, hb, hc, hd] <;> omega
theorem rack_eq (r : List Int) (hr : r.length = 24) : rackP r = !anyFrom (rowBad r) 0 6 := by
  have key : ∀ a b c d : Int, tubeP [a, b, c, d] = !(!(decide (0 ≤ a) && decide (a ≤ 5)) || (!(decide (0 ≤ b) && decide (b ≤ 5)) || (decide (0 < b) && decide (a = 0))) || (!(decide (0 ≤ c) && decide (c ≤ 5)) || (decide (0 < c) && decide (b = 0))) || (!(decide (0 ≤ d) && decide (d ≤ 5)) || (decide (0 < d) && decide (c = 0)))) := tube_eq
  obtain ⟨a0, a1, a2, a3, a4, a5, a6, a7, a8, a9, a10, a11, a12, a13, a14, a15, a16, a17, a18, a19, a20, a21, a22, a23, rfl⟩ := len24 hr
  simp [rackP, tubesFrom, anyFrom, rowBad, badP, cellAt, key, -Bool.not_or, -Bool.not_and, -Bool.decide_and, -Bool.decide_or, Bool.or_assoc]
  simp only [Bool.not_or, Bool.and_assoc]
end Go.Proofs.Ytenheijeahpbkaa.AM
