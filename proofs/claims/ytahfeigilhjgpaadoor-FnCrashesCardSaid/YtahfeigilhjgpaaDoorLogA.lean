import Derived.Test.YtahfeigilhjgpaaDoorLogDefs
/- Contracts: numbers as texts, checksums, records encoded. -/
namespace Go.Proofs.YtahfeigilhjgpaaDoor.AM
open Go
set_option maxRecDepth 1000000
set_option linter.unusedSimpArgs false
set_option linter.unusedVariables false
theorem c_itoa (n : Nat) (hn : n < 1000000000) : fnI pr np 61 [.c (.int .i64 n)] [] = some (.c (.str (num n)), []) := by
  have h : (-9223372036854775808 : Int) ≤ (n : Int) ∧ (n : Int) ≤ 9223372036854775807 := by omega
  have e : Lib.itoa (n : Int) = num n := by
    unfold Lib.itoa
    rw [if_neg (by omega)]
    rfl
  refine (fnI_iff pr np).2 ⟨1, ?_⟩
  rw [← e]
  show (if (-9223372036854775808 : Int) ≤ (n : Int) ∧ (n : Int) ≤ 9223372036854775807 then some (V.c (C.str (Lib.itoa (n : Int))), ([] : Heap)) else none) = _
  rw [if_pos h]
theorem idx_before (c : UInt8) : ∀ s : Tx, (has c s = true → Lib.indexByte s c = ((before c s).length : Int)) ∧ (has c s = false → Lib.indexByte s c = -1) := by
    intro s
    induction s with
    | nil => exact ⟨fun h => (by cases h), fun _ => rfl⟩
    | cons b s ih =>
      rw [show Lib.indexByte (b :: s) c = (if (b == c) = true then 0 else if (Lib.indexByte s c == -1) = true then -1 else Lib.indexByte s c + 1) from rfl, has_cons]
      by_cases hb : b = c
      · subst hb
        simp [before]
      · have hb1 : (b == c) = false := by simpa using hb
        have hb2 : (b != c) = true := by simpa using hb
        have eb : before c (b :: s) = b :: before c s := by unfold before; rw [List.takeWhile_cons, hb2, if_pos rfl]
        rw [hb1, Bool.false_or, eb]
        refine ⟨fun h => ?_, fun h => ?_⟩
        · rw [ih.1 h]
          have : ((((before c s).length : Int)) == -1) = false := by rw [beq_eq_false_iff_ne]; omega
          simp [this]
        · rw [ih.2 h]; simp
theorem cut_one (s : Tx) (c : UInt8) : Lib.cut s [c] = (before c s, s.drop ((before c s).length + 1), has c s) := by
  have key := idx_before c
  unfold Lib.cut
  rw [Lib.index_one]
  cases h : has c s with
  | true =>
    rw [(key s).1 h, if_pos (by omega)]
    have e := before_has c s h
    have e2 : s.take (before c s).length = before c s := by
      have := congrArg (List.take (before c s).length) e
      rwa [List.take_left] at this
    simp [e2]
  | false =>
    rw [(key s).2 h, if_neg (by omega), before_none c s h]
    simp
theorem c_cut (s : Tx) (hs : s.length < 1000000000) (c : UInt8) : fnI pr np 119 [.c (.str s), .c (.str [c])] [] = some (.tup [.c (.str (before c s)), .c (.str (s.drop ((before c s).length + 1))), .c (.bool (has c s))], []) := by
  refine (fnI_iff pr np).2 ⟨1, ?_⟩
  show (if s.length ≤ 9223372036854775807 then some (V.tup [.c (C.str (Lib.cut s [c]).1), .c (C.str (Lib.cut s [c]).2.1), .c (C.bool (Lib.cut s [c]).2.2)], ([] : Heap)) else none) = _
  rw [if_pos (by omega), cut_one]
theorem c_cutPrefix (s p : Tx) : fnI pr np 121 [.c (.str s), .c (.str p)] [] = some (.tup [.c (.str (Lib.trimPrefix s p)), .c (.bool (p.isPrefixOf s))], []) := (fnI_iff pr np).2 ⟨1, rfl⟩
theorem c_hasSuffix (s p : Tx) (hs : s.length < 1000000000) : fnI pr np 98 [.c (.str s), .c (.str p)] [] = some (.c (.bool (p.isSuffixOf s)), []) := by
  refine (fnI_iff pr np).2 ⟨1, ?_⟩
  show (if s.length ≤ 9223372036854775807 then some (V.c (C.bool (Lib.hasSuffix s p)), ([] : Heap)) else none) = _
  rw [if_pos (by omega)]
  rfl
/-! ### digits -/
theorem num_small {n : Nat} (h : n < 10) : num n = [UInt8.ofNat (48 + n)] := by unfold num; rw [Lib.decDigits, dif_pos h]
theorem num_big {n : Nat} (h : ¬ n < 10) : num n = num (n / 10) ++ [UInt8.ofNat (48 + n % 10)] := by unfold num; rw [Lib.decDigits, dif_neg h]
theorem dig_at {k : Nat} (h : k < 10) : (48 :: ([49, 50, 51, 52, 53, 54, 55, 56, 57] : Tx).take k).drop k = [48 + UInt8.ofNat k] := by
  have : k = 0 ∨ k = 1 ∨ k = 2 ∨ k = 3 ∨ k = 4 ∨ k = 5 ∨ k = 6 ∨ k = 7 ∨ k = 8 ∨ k = 9 := by omega
  rcases this with rfl | rfl | rfl | rfl | rfl | rfl | rfl | rfl | rfl | rfl <;> rfl
theorem c_spec_l1Num : ∀ n : Nat, n < 1000000000 → fnI pr np 84 [.c (.int .i64 n)] [] = some (.c (.str (num n)), []) := by
  intro n
  induction n using Nat.strongRecOn with
  | ind n ih =>
    intro hn
    have n0 : ¬ (n : Int) < 0 := by omega
    have w1 : IntKind.i64.wrap ((n : Int) + 1) = ((n + 1 : Nat) : Int) := wrapS (by omega)
    rw [fb (fn := a84) rfl rfl rfl]
    by_cases h : n < 10
    · have h' : (n : Int) < 10 := by omega
      rw [num_small h]
      have d := dig_at h
      have b1 : (0 : Int) ≤ (n : Int) + 1 := by omega
      have b2 : (n : Int) + 1 ≤ 10 := by omega
      simp [b1, b2, a84, n0, h, h', w1, d]
    · have h' : ¬ (n : Int) < 10 := by omega
      have hk : n / 10 < n := by omega
      have hc := callA_pure (ih (n / 10) hk (by omega)) (by simp) (by simp)
      have e1 : ((n / 10 : Nat) : Int) = (n : Int) / 10 := by omega
      rw [num_big h]
      rw [e1] at hc
      have hm : n % 10 < 10 := Nat.mod_lt _ (by decide)
      have e2 : (n : Int).tmod 10 = ((n % 10 : Nat) : Int) := (Int.ofNat_tmod n 10).symm
      generalize n % 10 = m at *
      have d := dig_at hm
      have w2 : IntKind.i64.wrap ((n : Int) / 10) = (n : Int) / 10 := wrapI (by omega) (by omega)
      have w4 : IntKind.i64.wrap ((m : Int) + 1) = (m : Int) + 1 := wrapI (by omega) (by omega)
      have b1 : (0 : Int) ≤ (m : Int) + 1 := by omega
      have b2 : (m : Int) + 1 ≤ 10 := by omega
      have b3 : (num (n / 10)).length ≤ 9223372036854775806 := by
        have := num_len 9 (n / 10) (by omega)
        omega
      simp [a84, n0, h, h', b1, b2, b3, w2, w4, e2, d, hc]
/-! ### checksums -/
def stepS (h : Nat) (c : UInt8) : Nat := (41 * h + c.toNat + 1) % 999979
def sumK (s : Tx) : Nat → Nat
  | 0 => 7
  | k + 1 => stepS (sumK s k) (s.getD k 0)
theorem sumK_lt (s : Tx) : ∀ k, sumK s k < 999979
  | 0 => (by decide : 7 < 999979)
  | k + 1 => Nat.mod_lt _ (by decide)
theorem sumK_all (s : Tx) : sumT s = sumK s s.length := by
  have key : ∀ (t u : Tx) (h : Nat), s = t ++ u → h = sumK s t.length → u.foldl (fun h c => (41 * h + c.toNat + 1) % 999979) h = sumK s s.length := by
    intro t u
    induction u generalizing t with
    | nil => intro h e1 e2; subst e2; simp at e1; subst e1; rfl
    | cons c u ih =>
      intro h e1 e2
      rw [List.foldl_cons]
      refine ih (t ++ [c]) _ (by simp [e1]) ?_
      rw [List.length_append, List.length_singleton]
      show _ = stepS (sumK s t.length) (s.getD t.length 0)
      have : s.getD t.length 0 = c := by rw [e1]; simp
      rw [this, e2]
      rfl
  exact key [] s 7 rfl rfl
theorem step_int {h : Nat} (hh : h < 999979) (c : UInt8) : IntKind.i64.wrap (41 * (h : Int)) = 41 * (h : Int) ∧ IntKind.i64.wrap (c.toNat : Int) = (c.toNat : Int) ∧ IntKind.i64.wrap (41 * (h : Int) + (c.toNat : Int)) = 41 * (h : Int) + (c.toNat : Int) ∧ IntKind.i64.wrap (41 * (h : Int) + (c.toNat : Int) + 1) = 41 * (h : Int) + (c.toNat : Int) + 1 ∧ (41 * (h : Int) + (c.toNat : Int) + 1).tmod 999979 = ((stepS h c : Nat) : Int) := by
  have := c.toNat_lt
  refine ⟨wrapI (by omega) (by omega), wrapI (by omega) (by omega), wrapI (by omega) (by omega), wrapI (by omega) (by omega), ?_⟩
  have e : (41 * (h : Int) + (c.toNat : Int) + 1) = ((41 * h + c.toNat + 1 : Nat) : Int) := by omega
  rw [e]
  exact (Int.ofNat_tmod _ 999979).symm
theorem c_spec_l1Sum (s : Tx) (hn : s.length < 1000000000) : fnI pr np 115 [.c (.str s)] [] = some (.c (.int .i64 (sumT s)), []) := by
  rw [fb (fn := a115) rfl rfl rfl, sumK_all]
  simp [a115]
  rw [loop_to (fun k => ([(0, V.c (C.str s)), (3, V.c (C.int .i64 (sumK s k))), (4, V.c (C.int .i64 k))], [])) s.length]
  · simp
  · simp [sumK]
  · intro k hk
    have hk' : (k : Int) < (s.length : Int) := by omega
    have wk := wrapS (k := k) (by omega)
    have hs : sumK s (k + 1) = stepS (sumK s k) (s.getD k 0) := rfl
    have hl := sumK_lt s k
    rw [getD_at hk] at hs
    obtain ⟨e1, e2, e3, e4, e5⟩ := step_int hl (s[k]'hk)
    rw [hs]
    generalize sumK s k = q at *
    generalize stepS q (s[k]'hk) = q2 at *
    simp [hk, hk', wk, e1, e2, e3, e4, e5]
theorem c_spec_l1Seal (s : Tx) (hn : s.length < 900000000) : fnI pr np 94 [.c (.str s)] [] = some (.c (.str (sealT s)), []) := by
  have h1 := callA_pure (c_spec_l1Sum s (by omega)) (by simp) (by simp)
  have h2 := callA_pure (c_spec_l1Num (sumT s) (by have := sumT_lt s; omega)) (by simp) (by simp)
  have b1 : s.length ≤ 9223372036854775806 := by omega
  have b2 := num_len 5 (sumT s) (by have := sumT_lt s; omega)
  have b3 : s.length + 1 + (num (sumT s)).length ≤ 9223372036854775807 := by omega
  rw [fb (fn := a94) rfl rfl rfl]
  unfold sealT
  generalize num (sumT s) = q at *
  generalize sumT s = q1 at *
  simp [a94, h1, h2, b1, b3]
theorem c_impl_checksum (s : Tx) (hn : s.length < 1000000000) : fnI pr np 90 [.c (.str s)] [] = some (.c (.int .i64 (sumT s)), []) := by
  have hroom : s.length ≤ 68719476736 := by omega
  rw [fb (fn := a90) rfl rfl rfl, sumK_all]
  simp [a90, hroom]
  rw [loop_to (fun k => ([(3, V.c (C.int .i64 (sumK s k))), (7, V.c (C.sl 0 0 s.length 1)), (8, V.c (C.int .i64 s.length)), (9, V.c (C.int .i64 k))], [Blk.cells (bytesC s) true])) s.length]
  · simp [sub]
  · simp [sumK, sub]
  · intro k hk
    have hk' : (k : Int) < (s.length : Int) := by omega
    have wk := wrapS (k := k) (by omega)
    have hs : sumK s (k + 1) = stepS (sumK s k) (s.getD k 0) := rfl
    have hl := sumK_lt s k
    have g1 := bytesC_get hk
    have b1 : k + 1 ≤ s.length := by omega
    obtain ⟨e1, e2, e3, e4, e5⟩ := step_int hl (s.getD k 0)
    rw [hs]
    generalize s.getD k 0 = x at *
    generalize sumK s k = q at *
    generalize stepS q x = q2 at *
    simp [hk, hk', wk, e1, e2, e3, e4, e5, g1, b1, sub]
theorem c_contains' (s : Tx) (c : UInt8) : fnI pr np 89 [.c (.str s), .c (.str [c])] [] = some (.c (.bool (has c s)), []) := by rw [c_contains, idx_mem]; rfl
def appB (s : Tx) : Bool := decide (s.length ≤ 4000) && !has 35 s && decide ((sealT s).length ≤ 4000)
theorem c_impl_AppendChecksum (s : Tx) (hn : s.length < 900000000) : fnI pr np 60 [.c (.str s)] [] = some (.tup [.c (.str (if appB s = true then sealT s else [])), .c (.bool (appB s))], []) := by
  have h0 := callA_pure (c_contains' s 35) (by simp) (by simp)
  have h1 := callA_pure (c_impl_checksum s (by omega)) (by simp) (by simp)
  have h2 := callA_pure (c_itoa (sumT s) (by have := sumT_lt s; omega)) (by simp) (by simp)
  have b1 : s.length ≤ 9223372036854775806 := by omega
  have b2 := num_len 5 (sumT s) (by have := sumT_lt s; omega)
  have b3 : s.length + 1 + (num (sumT s)).length ≤ 9223372036854775807 := by omega
  rw [fb (fn := a60) rfl rfl rfl]
  unfold appB sealT
  generalize num (sumT s) = q at *
  generalize sumT s = q1 at *
  by_cases c1 : s.length ≤ 4000
  · have c1' : ¬ (4000 : Int) < (s.length : Int) := by omega
    cases c2 : has 35 s with
    | true => rw [c2] at h0; simp [a60, c1, c1', c2, h0]
    | false =>
      rw [c2] at h0
      by_cases c3 : (s ++ 35 :: q).length ≤ 4000
      · have c3' : ¬ (4000 : Int) < ((s ++ 35 :: q).length : Int) := by omega
        simp at c3 c3'
        have c4 : ¬ (4000 : Int) < (s.length : Int) + 1 + (q.length : Int) := by omega
        simp [a60, c1, c1', c2, h0, h1, h2, b1, b3, c3, c3', c4]
      · have c3' : (4000 : Int) < ((s ++ 35 :: q).length : Int) := by omega
        simp at c3 c3'
        have c4 : (4000 : Int) < (s.length : Int) + 1 + (q.length : Int) := by omega
        simp [a60, c1, c1', c2, h0, h1, h2, b1, b3, c3, c3', c4]
  · have c1' : (4000 : Int) < (s.length : Int) := by omega
    simp [a60, c1, c1']
theorem c_spec_l12Line (k : Nat) (hk : k < 1000) (a b : Tx) (ha : a.length < 200000000) (hb : b.length < 200000000) : fnI pr np 63 [.c (.int .i64 k), recV a b] [] = some (.c (.str (lineT k a b ++ [10])), []) := by
  have h1 := callA_pure (c_spec_l1Num k (by omega)) (by simp) (by simp)
  have nl := num_len 2 k (by omega)
  have tl : (textT k a b).length ≤ 500000000 := by unfold textT; simp; omega
  have h2 := callA_pure (c_spec_l1Seal (textT k a b) (by omega)) (by simp) (by simp)
  have b4 : (sealT (textT k a b)).length ≤ 9223372036854775806 := by have := (sealT_len (textT k a b)).1; omega
  rw [fb (fn := a63) rfl rfl rfl]
  unfold lineT recV
  generalize hq : sealT (textT k a b) = q at *
  unfold textT at h2
  generalize num k = n at *
  have b1 : n.length ≤ 9223372036854775806 := by omega
  have b2 : n.length + 1 + a.length ≤ 9223372036854775807 := by omega
  have b3 : n.length + 1 + a.length ≤ 9223372036854775806 := by omega
  have b5 : n.length + 1 + a.length + 1 + b.length ≤ 9223372036854775807 := by omega
  have b6 : n.length + (a.length + 1) ≤ 9223372036854775806 := by omega
  have b7 : n.length + (a.length + 1 + 1) + b.length ≤ 9223372036854775807 := by omega
  simp [a63, h1, h2, b1, b2, b3, b4, b5, b6, b7, sub]
theorem c_spec_EncodeRecord (k : Int) (a b : Tx) (ha : a.length < 200000000) (hb : b.length < 200000000) : fnI pr np 21 [.c (.int .i64 k), recV a b] [] = some (.tup [.c (.str (if (decide (0 ≤ k) && decide (k ≤ 59) && recB a b) = true then lineT k.toNat a b ++ [10] else [])), .c (.bool (decide (0 ≤ k) && decide (k ≤ 59) && recB a b))], []) := by
  have h0 := callA_pure (c_spec_l1In k 0 59) (by simp) (by simp)
  have h1 := callA_pure (c_spec_l12Record a b (by omega) (by omega)) (by simp [recV]) (by simp)
  rw [fb (fn := a21) rfl rfl rfl]
  by_cases c0 : 0 ≤ k
  · by_cases c1 : k ≤ 59
    · obtain ⟨n, rfl⟩ : ∃ n : Nat, k = (n : Int) := ⟨k.toNat, by omega⟩
      have h2 := callA_pure (c_spec_l12Line n (by omega) a b ha hb) (by simp [recV]) (by simp)
      generalize recB a b = q at *
      have e : ((n : Int)).toNat = n := by omega
      rw [e]
      generalize lineT n a b = l at *
      unfold recV at *
      simp [c0, c1] at h0
      cases q with
      | false => simp [a21, c0, c1, h0, h1, sub]
      | true => simp [a21, c0, c1, h0, h1, h2, sub]
    · simp [c0, c1] at h0
      unfold recV at *
      simp [a21, c0, c1, h0, sub]
  · simp [c0] at h0
    unfold recV at *
    simp [a21, c0, h0, sub]
theorem appB_text {k : Nat} (hk : k < 60) {a b : Tx} (h : recB a b = true) : appB (textT k a b) = true := by
  obtain ⟨_, _, _, _, _, la, lb⟩ := recB_no h
  have l1 := textT_len k hk a b
  have l2 := (sealT_len (textT k a b)).1
  unfold appB
  rw [(textT_no h).1]
  simp
  omega
theorem c_impl_EncodeRecord (k : Int) (a b : Tx) (ha : a.length < 200000000) (hb : b.length < 200000000) : fnI pr np 20 [.c (.int .i64 k), recV a b] [] = some (.tup [.c (.str (if (decide (0 ≤ k) && decide (k ≤ 59) && recB a b) = true then lineT k.toNat a b ++ [10] else [])), .c (.bool (decide (0 ≤ k) && decide (k ≤ 59) && recB a b))], []) := by
  have h0 := callA_pure (c_impl_within k 0 59) (by simp) (by simp)
  have h1 := callA_pure (c_impl_IsValidRecord a b (by omega) (by omega)) (by simp [recV]) (by simp)
  rw [show (cmdB a && decide ((b.length : Int) ≤ 250) && plainT b) = recB a b from rfl] at h1
  rw [fb (fn := a20) rfl rfl rfl]
  by_cases c0 : 0 ≤ k
  · by_cases c1 : k ≤ 59
    · obtain ⟨n, rfl⟩ : ∃ n : Nat, k = (n : Int) := ⟨k.toNat, by omega⟩
      have e : ((n : Int)).toNat = n := by omega
      rw [e]
      simp [c0, c1] at h0
      cases hq : recB a b with
      | false =>
        rw [hq] at h1
        unfold recV at *
        simp [a20, c0, c1, h0, h1, sub]
      | true =>
        rw [hq] at h1
        have h2 := callA_pure (c_itoa n (by omega)) (by simp) (by simp)
        have happ := appB_text (k := n) (by omega) hq
        have tl := textT_len n (by omega) a b
        have h3 := callA_pure (c_impl_AppendChecksum (textT n a b) (by omega)) (by simp) (by simp)
        rw [happ, if_pos rfl] at h3
        rw [show sealT (textT n a b) = lineT n a b from rfl] at h3
        have b8 : (lineT n a b).length ≤ 9223372036854775806 := by have := (sealT_len (textT n a b)).1; unfold lineT; omega
        have nl := num_len 2 n (by omega)
        generalize lineT n a b = l at *
        unfold textT at h3
        generalize num n = m at *
        have b1 : m.length ≤ 9223372036854775806 := by omega
        have b2 : m.length + 1 + a.length ≤ 9223372036854775807 := by omega
        have b3 : m.length + 1 + a.length ≤ 9223372036854775806 := by omega
        have b5 : m.length + 1 + a.length + 1 + b.length ≤ 9223372036854775807 := by omega
        have b6 : m.length + (a.length + 1) ≤ 9223372036854775806 := by omega
        have b7 : m.length + (a.length + 1 + 1) + b.length ≤ 9223372036854775807 := by omega
        unfold recV at *
        simp [a20, c0, c1, h0, h1, h2, h3, b1, b2, b3, b5, b6, b7, b8, sub]
    · simp [c0, c1] at h0
      unfold recV at *
      simp [a20, c0, c1, h0, sub]
  · simp [c0] at h0
    unfold recV at *
    simp [a20, c0, h0, sub]
end Go.Proofs.YtahfeigilhjgpaaDoor.AM
