import Derived.Test.YtahfeigilhjgpaaDoorLogB
/- Contracts: lines decoded, records read. -/
namespace Go.Proofs.YtahfeigilhjgpaaDoor.AM
open Go
set_option maxRecDepth 1000000
set_option linter.unusedSimpArgs false
set_option linter.unusedVariables false
theorem strC_cons (x : Tx) (l : List Tx) : strC (x :: l) = C.str x :: strC l := rfl
theorem strC_cmp' (g : Nat → Nat) (l : List Tx) : cmp g (strC l) = strC l := strC_cmp g l
set_option maxHeartbeats 1000000 in
theorem c_spec_l12Decode (s : Tx) (hn : s.length < 100000000) (k : Nat) (hk : k < 1000) : fnI pr np 99 [.c (.str s), .c (.int .i64 k)] [] = some (.tup [.agg [.str (decS k s).1.1, .str (decS k s).1.2], .c (.bool (decS k s).2)], []) := by
  have h1 := callA_pure (c_spec_l1Num k (by omega)) (by simp) (by simp)
  obtain ⟨r2, e2, _⟩ := splitL_head s 35
  have h2 := callA_new (show fnI pr np 41 [.c (.str s), .c (.int .u8 35)] [] = some (.c (.sl 0 0 (splitL s 35).length 1), [.cells (strC (splitL s 35)) true]) from c_spec_l1Split s (by omega) 35) (by simp)
  rw [e2] at h2
  have bl := before_le 35 s
  have nl := (num_ahead_len k hk).2
  have hn1 : (num k).length ≤ 9223372036854775806 := by omega
  have hs1 : s.length ≤ 9223372036854775806 := by omega
  have b0 : (0 : Int) ≤ ((num k).length : Int) + 1 := by omega
  rw [fb (fn := a99) rfl rfl rfl]
  unfold decS
  rw [pre_iff]
  unfold ahead
  generalize before 35 s = text at *
  by_cases c1 : (num k ++ [32]).length ≤ text.length
  · have c1' : ¬ (text.length : Int) < ((num k ++ [32]).length : Int) := by omega
    by_cases c2 : text.take (num k ++ [32]).length = num k ++ [32]
    · have c3 : (text.take (num k ++ [32]).length == num k ++ [32]) = true := by rw [c2]; simp
      rw [c3, decide_eq_true c1]
      simp only [Bool.and_self, if_true]
      obtain ⟨r3, e3, _⟩ := splitL_head (text.drop (num k ++ [32]).length) 64
      have h3 := callA_new (show fnI pr np 41 [.c (.str (text.drop (num k ++ [32]).length)), .c (.int .u8 64)] [] = some (.c (.sl 0 0 (splitL (text.drop (num k ++ [32]).length) 64).length 1), [.cells (strC (splitL (text.drop (num k ++ [32]).length) 64)) true]) from c_spec_l1Split _ (by simp; omega) 64) (by simp)
      rw [e3] at h3
      have hlr : (text.drop (num k ++ [32]).length).length < 100000000 := by simp; omega
      generalize hrest : text.drop (num k ++ [32]).length = rest at *
      rw [has_iff]
      have bl2 := before_le 64 rest
      generalize before 64 rest = ask at *
      simp at c1 c1' c2 hrest
      have c1n : ¬ (text.length : Int) < ((num k).length : Int) + 1 := by omega
      by_cases c4 : ask.length < rest.length
      · have c5 : ¬ ask.length = rest.length := by omega
        have c6 : ¬ (ask.length : Int) = (rest.length : Int) := by omega
        have w1 : IntKind.i64.wrap ((ask.length : Int) + 1) = (ask.length : Int) + 1 := wrapI (by omega) (by omega)
        have b1 : (0 : Int) ≤ (ask.length : Int) + 1 := by omega
        have b2 : (ask.length : Int) + 1 ≤ (rest.length : Int) := by omega
        have h4 := callA_pure (c_spec_l12Record ask (rest.drop (ask.length + 1)) (by omega) (by simp; omega)) (by simp [recV]) (by simp)
        have h5 := callA_pure (c_spec_l12Line k hk ask (rest.drop (ask.length + 1)) (by omega) (by simp; omega)) (by simp [recV]) (by simp)
        unfold recV at h4 h5
        generalize hbb : rest.drop (ask.length + 1) = bb at *
        generalize hl : lineT k ask bb = line at *
        cases hq : recB ask bb with
        | false =>
          rw [hq] at h4
          simp [a99, h1, h2, h3, h4, h5, hn1, hs1, b0, c1, c1', c1n, c2, hrest, c4, c5, c6, w1, b1, b2, hbb, strC_cons, sub]
        | true =>
          rw [hq] at h4
          by_cases hs : line = s
          · simp [a99, h1, h2, h3, h4, h5, hn1, hs1, b0, c1, c1', c1n, c2, hrest, c4, c5, c6, w1, b1, b2, hbb, strC_cons, hs, sub]
          · simp [a99, h1, h2, h3, h4, h5, hn1, hs1, b0, c1, c1', c1n, c2, hrest, c4, c5, c6, w1, b1, b2, hbb, strC_cons, hs, sub]
      · have c5 : ask.length = rest.length := by omega
        simp [a99, h1, h2, h3, hn1, hs1, b0, c1, c1', c1n, c2, hrest, c4, c5, strC_cons, sub]
    · have c3 : (text.take (num k ++ [32]).length == num k ++ [32]) = false := by simpa using c2
      rw [c3]
      simp at c1 c1' c2
      have c1n : ¬ (text.length : Int) < ((num k).length : Int) + 1 := by omega
      simp [a99, h1, h2, hn1, hs1, b0, c1, c1', c1n, c2, strC_cons, sub]
  · rw [decide_eq_false c1]
    have c1' : (text.length : Int) < ((num k ++ [32]).length : Int) := by omega
    simp at c1 c1'
    have c1n : (text.length : Int) < ((num k).length : Int) + 1 := by omega
    simp [a99, h1, h2, hn1, hs1, b0, c1, c1', c1n, strC_cons, sub]
/-! ### records -/
def recC (l : List (Tx × Tx)) : List C := l.flatMap fun p => [C.str p.1, C.str p.2]
@[simp] theorem recC_len (l : List (Tx × Tx)) : (recC l).length = l.length * 2 := by
  unfold recC
  induction l with
  | nil => rfl
  | cons x l ih => simp only [List.flatMap_cons, List.length_append, List.length_cons, List.length_nil, ih]; omega
theorem recC_app (l m : List (Tx × Tx)) : recC l ++ recC m = recC (l ++ m) := by simp [recC]
theorem recC_one (a b : Tx) : [C.str a, C.str b] = recC [(a, b)] := rfl
@[simp] theorem recC_ids (l : List (Tx × Tx)) : cids (recC l) = [] := by
  unfold recC
  induction l with
  | nil => rfl
  | cons x l ih => simp only [List.flatMap_cons, List.cons_append, List.nil_append]; simp [cids, ih, C.ids]
@[simp] theorem recC_cmp (g : Nat → Nat) (l : List (Tx × Tx)) : cmp g (recC l) = recC l := by
  rw [cmp_eq]; unfold recC
  induction l with
  | nil => rfl
  | cons x l ih => simp only [List.flatMap_cons, List.map_append, ih]; rfl
@[simp] theorem recC_dead (l : List (Tx × Tx)) : noDead (recC l) = true := by
  unfold recC
  induction l with
  | nil => rfl
  | cons x l ih => exact ih
theorem recC_take (l : List (Tx × Tx)) : (recC l).take (l.length * 2) = recC l := List.take_of_length_le (by simp)
theorem recC_nil : recC [] = [] := rfl
theorem recsT_succ (s : Tx) (k : Nat) : recsT s (k + 1) = recsT s k ++ [(decS k (lineAt s (atT s k))).1] := rfl
theorem drop_le_len {s : Tx} {k n : Nat} (h : s.length < n) : (s.drop k).length < n := by simp; omega
set_option maxHeartbeats 1000000 in
theorem c_spec_l12Open (s : Tx) (hn : s.length < 100000000) : fnI pr np 71 [.c (.str s)] [] = some (.tup [.c (.sl 0 0 (cntT s) 2), .c (.int .i64 (endT s))], [.cells (recC (recsT s (cntT s))) true]) := by
  have hK := cntT_le s
  have hend := cntT_end s
  have hok := cntT_ok s
  unfold endT
  generalize cntT s = K at *
  rw [fb (fn := a71) rfl rfl rfl]
  simp [a71]
  rw [loop_to (fun k => ([(0, V.c (C.str s)), (4, V.c (C.sl 0 0 k 2)), (5, V.c (C.int .i64 (atT s k)))], [Blk.cells (recC (recsT s k)) true])) K]
  · have hat := at_le hok
    have hl := recsT_len s K
    generalize recsT s K = R at *
    by_cases c1 : atT s K < s.length
    · have c1' : (atT s K : Int) < (s.length : Int) := by omega
      by_cases c2 : K < 60
      · have c2' : (K : Int) < 60 := by omega
        obtain ⟨r2, e2, e3⟩ := splitL_head (s.drop (atT s K)) 10
        have h2 := callA_new (show fnI pr np 41 [.c (.str (s.drop (atT s K))), .c (.int .u8 10)] [] = some (.c (.sl 0 0 (splitL (s.drop (atT s K)) 10).length 1), [.cells (strC (splitL (s.drop (atT s K)) 10)) true]) from c_spec_l1Split _ (by simp; omega) 10) (by simp)
        rw [e2] at h2
        have bl := before_le 10 (s.drop (atT s K))
        have h3 := callA_pure (c_spec_l12Decode (before 10 (s.drop (atT s K))) (by simp at bl; omega) K (by omega)) (by simp) (by simp)
        have hend2 : has 10 (s.drop (atT s K)) = false ∨ (decS K (before 10 (s.drop (atT s K)))).2 = false := by
          unfold okT lineAt at hend
          rw [decide_eq_true c2, Bool.true_and, Bool.and_eq_false_iff] at hend
          exact hend
        generalize before 10 (s.drop (atT s K)) = line at *
        generalize decS K line = D at *
        obtain ⟨⟨a, b⟩, q⟩ := D
        simp only at h3 hend2
        have hr2 : (r2.length : Int) + 1 < 2 ↔ has 10 (s.drop (atT s K)) = false := by
          cases hh : has 10 (s.drop (atT s K)) with
          | true => rw [hh] at e3; simp at e3; simp; omega
          | false => rw [hh] at e3; simp at e3; simp; omega
        have c1n : (atT s K : Int) ≤ (s.length : Int) := by omega
        rcases hend2 with hh | hh
        · have hr3 := hr2.2 hh
          simp [c1, c1', c1n, hat, c2, c2', h2, h3, strC_cons, hr3, sub]
        · subst hh
          by_cases hr3 : (r2.length : Int) + 1 < 2
          · simp [c1, c1', c1n, hat, c2, c2', h2, h3, strC_cons, hr3, sub]
          · simp [c1, c1', c1n, hat, c2, c2', h2, h3, strC_cons, hr3, sub]
      · have c2' : ¬ (K : Int) < 60 := by omega
        simp [c1, c1', c2, c2', sub]
    · have c1' : ¬ (atT s K : Int) < (s.length : Int) := by omega
      simp [c1, c1', sub]
  · simp [atT, recsT, recC_nil, sub]
  · intro k hk
    have hokk := hok k hk
    have hat := at_le fun j (hj : j < k) => hok j (by omega)
    have hat1 := at_step hokk
    have hl := recsT_len s k
    have hs1 := recsT_succ s k
    have hs2 : atT s (k + 1) = atT s k + (lineAt s (atT s k)).length + 1 := rfl
    unfold okT at hokk
    simp only [Bool.and_eq_true, decide_eq_true_eq] at hokk
    obtain ⟨⟨c2, hhas⟩, hdec⟩ := hokk
    unfold lineAt at hdec hs1 hs2
    have c1 : atT s k < s.length := by
      have := before_lt hhas
      simp at this
      omega
    have c1' : (atT s k : Int) < (s.length : Int) := by omega
    have c2' : (k : Int) < 60 := by omega
    obtain ⟨r2, e2, e3⟩ := splitL_head (s.drop (atT s k)) 10
    have h2 := callA_new (show fnI pr np 41 [.c (.str (s.drop (atT s k))), .c (.int .u8 10)] [] = some (.c (.sl 0 0 (splitL (s.drop (atT s k)) 10).length 1), [.cells (strC (splitL (s.drop (atT s k)) 10)) true]) from c_spec_l1Split _ (by simp; omega) 10) (by simp)
    rw [e2] at h2
    have bl := before_le 10 (s.drop (atT s k))
    have h3 := callA_pure (c_spec_l12Decode (before 10 (s.drop (atT s k))) (by simp at bl; omega) k (by omega)) (by simp) (by simp)
    have hr3 : ¬ (r2.length : Int) + 1 < 2 := by
      rw [hhas] at e3
      simp at e3
      omega
    have c1n : (atT s k : Int) ≤ (s.length : Int) := by omega
    rw [hs1, hs2]
    rw [hs2] at hat1
    generalize before 10 (s.drop (atT s k)) = line at *
    generalize decS k line = D at *
    obtain ⟨⟨a, b⟩, q⟩ := D
    simp only at h3 hdec
    subst hdec
    have w1 : IntKind.i64.wrap ((atT s k : Int) + (line.length : Int)) = (atT s k : Int) + (line.length : Int) := wrapI (by omega) (by omega)
    have w2 : IntKind.i64.wrap ((atT s k : Int) + (line.length : Int) + 1) = (atT s k : Int) + (line.length : Int) + 1 := wrapI (by omega) (by omega)
    have htk := recC_take (recsT s k)
    have happ : recC (recsT s k) ++ [C.str a, C.str b] = recC (recsT s k ++ [(a, b)]) := recC_app (recsT s k) [(a, b)]
    generalize recsT s k = R at *
    subst hl
    have hroom : R.length + 1 ≤ 68719476736 := by omega
    simp [c1, c1', c1n, hat, c2, c2', h2, h3, strC_cons, hr3, w1, w2, htk, happ, hroom, sub]
/-! ### the program's reading -/
def readT (k : Nat) (s : Tx) : (Tx × Tx) × Nat × Bool := cond (has 10 s && (decide (k ≤ 59) && (decI k (before 10 s)).2)) ((decI k (before 10 s)).1, (before 10 s).length + 1, true) (([], []), 0, false)
set_option maxHeartbeats 1000000 in
theorem c_impl_readRecord (k : Nat) (hk : k < 1000) (s : Tx) (hn : s.length < 100000000) : fnI pr np 100 [.c (.int .i64 k), .c (.str s)] [] = some (.tup [.agg [.str (readT k s).1.1, .str (readT k s).1.2], .c (.int .i64 (readT k s).2.1), .c (.bool (readT k s).2.2)], []) := by
  have h1 := callA_pure (c_cut s (by omega) 10) (by simp) (by simp)
  have bl := before_le 10 s
  obtain ⟨q0, h2⟩ := c_impl_VerifyChecksum (before 10 s) (by omega)
  have h2 := callA_pure h2 (by simp) (by simp)
  have h3 := callA_pure (c_itoa k (by omega)) (by simp) (by simp)
  have h4 := callA_pure (c_cutPrefix (verT (before 10 s)) (ahead k)) (by simp) (by simp)
  have nl := (num_ahead_len k hk).2
  have b1 : (num k).length ≤ 9223372036854775806 := by omega
  rw [fb (fn := a100) rfl rfl rfl]
  unfold readT
  rw [show decI k (before 10 s) = ((before 64 (Lib.trimPrefix (verT (before 10 s)) (ahead k)), (Lib.trimPrefix (verT (before 10 s)) (ahead k)).drop ((before 64 (Lib.trimPrefix (verT (before 10 s)) (ahead k))).length + 1)), (ahead k).isPrefixOf (verT (before 10 s)) && has 64 (Lib.trimPrefix (verT (before 10 s)) (ahead k)) && recB (before 64 (Lib.trimPrefix (verT (before 10 s)) (ahead k))) ((Lib.trimPrefix (verT (before 10 s)) (ahead k)).drop ((before 64 (Lib.trimPrefix (verT (before 10 s)) (ahead k))).length + 1)) && (lineT k (before 64 (Lib.trimPrefix (verT (before 10 s)) (ahead k))) ((Lib.trimPrefix (verT (before 10 s)) (ahead k)).drop ((before 64 (Lib.trimPrefix (verT (before 10 s)) (ahead k))).length + 1)) == before 10 s)) from rfl]
  have lv : (verT (before 10 s)).length ≤ (before 10 s).length := by
    unfold verT
    split
    · exact before_le 35 _
    · simp
  cases hh : has 10 s with
  | false =>
    rw [hh] at h1
    simp [a100, h1, sub]
  | true =>
    rw [hh] at h1
    generalize hlin : before 10 s = line at *
    generalize verT line = own at *
    have lt : (Lib.trimPrefix own (ahead k)).length ≤ own.length := by
      unfold Lib.trimPrefix
      split
      · simp
      · exact Nat.le_refl _
    generalize hrest : Lib.trimPrefix own (ahead k) = rest at *
    have h5 := callA_pure (c_cut rest (by omega) 64) (by simp) (by simp)
    have bl2 := before_le 64 rest
    have hb1 : (rest.drop ((before 64 rest).length + 1)).length < 200000000 := by simp; omega
    have h6 := callA_pure (c_impl_EncodeRecord k (before 64 rest) (rest.drop ((before 64 rest).length + 1)) (by omega) hb1) (by simp [recV]) (by simp)
    unfold recV at h6
    have b2 : line.length ≤ 9223372036854775806 := by omega
    have w1 : IntKind.i64.wrap ((line.length : Int) + 1) = (line.length : Int) + 1 := wrapI (by omega) (by omega)
    have k0 : (0 : Int) ≤ (k : Int) := by omega
    have ek : ((k : Int)).toNat = k := by omega
    generalize (ahead k).isPrefixOf own = qp at *
    unfold ahead at h4
    generalize before 64 rest = a at *
    generalize rest.drop (a.length + 1) = b at *
    generalize has 64 rest = qs at *
    rw [ek] at h6
    by_cases c1 : k ≤ 59
    · have c1' : (k : Int) ≤ 59 := by omega
      generalize recB a b = qr at *
      generalize lineT k a b = l at *
      by_cases hl : l = line
      · cases qp <;> cases qs <;> cases qr <;> simp [a100, h1, h2, h3, h4, h5, h6, b1, b2, w1, k0, c1, c1', hl, sub]
      · have hl' : (l == line) = false := by simpa using hl
        cases qp <;> cases qs <;> cases qr <;> simp [a100, h1, h2, h3, h4, h5, h6, b1, b2, w1, k0, c1, c1', hl, hl', sub]
    · have c1' : ¬ (k : Int) ≤ 59 := by omega
      cases qp <;> cases qs <;> simp [a100, h1, h2, h3, h4, h5, h6, b1, b2, w1, k0, c1, c1', sub]
theorem readT_at {s : Tx} {k : Nat} (hk : k ≤ 60) : readT k (s.drop (atT s k)) = cond (okT s k) ((decS k (lineAt s (atT s k))).1, (lineAt s (atT s k)).length + 1, true) (([], []), 0, false) := by
  unfold readT okT lineAt
  by_cases h : k < 60
  · obtain ⟨e1, e2⟩ := dec_eq h (before 10 (s.drop (atT s k)))
    rw [e1, decide_eq_true h, decide_eq_true (show k ≤ 59 by omega)]
    cases has 10 (s.drop (atT s k)) with
    | false => rfl
    | true =>
      cases hq : (decS k (before 10 (s.drop (atT s k)))).2 with
      | false => rfl
      | true =>
        rw [e2 hq]
        rfl
  · rw [decide_eq_false h, decide_eq_false (show ¬ k ≤ 59 by omega)]
    cases has 10 (s.drop (atT s k)) <;> rfl
set_option maxHeartbeats 1000000 in
theorem c_impl_readRecords (s : Tx) (hn : s.length < 100000000) : fnI pr np 74 [.c (.str s)] [] = some (.tup [.c (.sl 0 0 (cntT s) 2), .c (.int .i64 (endT s))], [.cells (recC (recsT s (cntT s))) true]) := by
  have hK := cntT_le s
  have hend := cntT_end s
  have hok := cntT_ok s
  unfold endT
  generalize cntT s = K at *
  rw [fb (fn := a74) rfl rfl rfl]
  simp [a74]
  rw [loop_to (fun k => ([(0, V.c (C.str s)), (4, V.c (C.sl 0 0 k 2)), (5, V.c (C.int .i64 (atT s k)))], [Blk.cells (recC (recsT s k)) true])) K]
  · have hat := at_le hok
    have hl := recsT_len s K
    have h1 := callA_pure (c_impl_readRecord K (by omega) (s.drop (atT s K)) (drop_le_len hn)) (by simp) (by simp)
    rw [readT_at hK, hend] at h1
    simp only [cond_false] at h1
    generalize recsT s K = R at *
    have c1n : (atT s K : Int) ≤ (s.length : Int) := by omega
    simp [c1n, hat, h1, sub]
  · simp [atT, recsT, recC_nil, sub]
  · intro k hk
    have hokk := hok k hk
    have hat := at_le fun j (hj : j < k) => hok j (by omega)
    have hat1 := at_step hokk
    have hl := recsT_len s k
    have hs1 := recsT_succ s k
    have hs2 : atT s (k + 1) = atT s k + (lineAt s (atT s k)).length + 1 := rfl
    have h1 := callA_pure (c_impl_readRecord k (by omega) (s.drop (atT s k)) (drop_le_len hn)) (by simp) (by simp)
    rw [readT_at (by omega), hokk] at h1
    simp only [cond_true] at h1
    have c1n : (atT s k : Int) ≤ (s.length : Int) := by omega
    rw [hs1, hs2]
    rw [hs2] at hat1
    generalize lineAt s (atT s k) = line at *
    generalize decS k line = D at *
    obtain ⟨⟨a, b⟩, q⟩ := D
    simp only at h1
    have w2 : IntKind.i64.wrap ((atT s k : Int) + ((line.length : Int) + 1)) = (atT s k : Int) + (line.length : Int) + 1 := by rw [← Int.add_assoc]; exact wrapI (by omega) (by omega)
    have htk := recC_take (recsT s k)
    have happ : recC (recsT s k) ++ [C.str a, C.str b] = recC (recsT s k ++ [(a, b)]) := recC_app (recsT s k) [(a, b)]
    generalize recsT s k = R at *
    subst hl
    have hroom : R.length + 1 ≤ 68719476736 := by omega
    simp [c1n, hat, h1, w2, htk, happ, hroom, sub]
end Go.Proofs.YtahfeigilhjgpaaDoor.AM
