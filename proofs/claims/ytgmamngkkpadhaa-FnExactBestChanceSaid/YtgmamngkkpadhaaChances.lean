import Derived.Test.YtgmamngkkpadhaaMean
/- Contracts: chances of plays; laws. -/
namespace Go.Proofs.Ytgmamngkkpadhaa.AM
open Go
set_option maxRecDepth 1000000
set_option linter.unusedSimpArgs false
set_option linter.unusedVariables false
def playB (r : List Int) (n m : Int) : Bool := okRack r && inB n 0 m
def meanF (w : List Int → Nat) (r : List Int) (n : Int) : Nat × Nat := if playB r n 2 = true then meanV w endB n.toNat r else (0, 0)
def meanR (w : List Int → Nat) (r : List Int) (n : Int) : V := .tup [.agg [.int .i64 (meanF w r n).1, .int .i64 (meanF w r n).2], .c (.bool (playB r n 2))]
theorem c_spec_l9Good (r : List Int) (hr : r.length = 24) (n : Int) : fnI pr np 175 [.agg (r.map (C.int .i64)), .c (.int .i64 n)] [] = some (.c (.bool (playB r n 2)), []) := by
  have h1 := callA_pure (c_rack_spec r hr) (by simp) (by simp)
  have h2 := callA_pure (c_spec_l1In n 0 2) (by simp) (by simp)
  have h24 := take24 hr
  rw [fb (fn := a175) rfl rfl]
  unfold playB inB
  cases hq : okRack r with
  | true => rw [hq] at h1; simp [a175, hr, h24, h1, h2]
  | false => rw [hq] at h1; simp [a175, hr, h24, h1]
theorem c_impl_isPlay (r : List Int) (hr : r.length = 24) (n m : Int) : fnI pr np 177 [.agg (r.map (C.int .i64)), .c (.int .i64 n), .c (.int .i64 m)] [] = some (.c (.bool (playB r n m)), []) := by
  have h1 := callA_pure (c_rack_impl r hr) (by simp) (by simp)
  have h2 := callA_pure (c_impl_within n 0 m) (by simp) (by simp)
  have h24 := take24 hr
  rw [fb (fn := a177) rfl rfl]
  unfold playB inB
  cases hq : okRack r with
  | true => rw [hq] at h1; simp [a177, hr, h24, h1, h2]
  | false => rw [hq] at h1; simp [a177, hr, h24, h1]
theorem playB_facts {r : List Int} (hr : r.length = 24) {n m : Int} (hq : playB r n m = true) : RackOK r ∧ 0 ≤ n ∧ n ≤ m := by
  simp only [playB, inB, Bool.and_eq_true, decide_eq_true_eq] at hq
  exact ⟨rackOK hr hq.1, hq.2.1, hq.2.2⟩
theorem c_impl_chanceSorted (r : List Int) (h : RackOK r) (n : Nat) (hn : n ≤ 2) : fnI pr np 182 [.agg (r.map (C.int .i64)), .c (.int .i64 n)] [] = some (.agg [.int .i64 (meanV w1 endB n r).1, .int .i64 (meanV w1 endB n r).2], []) := by
  have hr := h.len
  have h24 := take24 hr
  have hc := callA_pure (c_impl_mean w1_le c_chanceSorted_1 n hn r h) (by simp) (by simp)
  rw [fb (fn := a182) rfl rfl]
  simp [a182, hr, h24, hc, setAt]
theorem c_spec_ChanceSortedBy (r : List Int) (hr : r.length = 24) (n : Int) : fnI pr np 91 [.agg (r.map (C.int .i64)), .c (.int .i64 n)] [] = some (meanR w1 r n, []) := by
  have h1 := callA_pure (c_spec_l9Good r hr n) (by simp) (by simp)
  have h24 := take24 hr
  rw [fb (fn := a91) rfl rfl]
  unfold meanR meanF
  cases hq : playB r n 2 with
  | true =>
    obtain ⟨h, n0, n2⟩ := playB_facts hr hq
    have hc := callA_pure (c_spec_l9Mean Kind.a n.toNat (by omega) r h) (by simp) (by simp)
    rw [show ((n.toNat : Nat) : Int) = n by omega, show ((1 : Nat) : Int) = 1 from rfl] at hc
    rw [hq] at h1
    simp [a91, hr, h24, h1, hc, setAt]
  | false => rw [hq] at h1; simp [a91, hr, h24, h1, setAt]
theorem c_spec_ChanceStuckBy (r : List Int) (hr : r.length = 24) (n : Int) : fnI pr np 87 [.agg (r.map (C.int .i64)), .c (.int .i64 n)] [] = some (meanR w2 r n, []) := by
  have h1 := callA_pure (c_spec_l9Good r hr n) (by simp) (by simp)
  have h24 := take24 hr
  rw [fb (fn := a87) rfl rfl]
  unfold meanR meanF
  cases hq : playB r n 2 with
  | true =>
    obtain ⟨h, n0, n2⟩ := playB_facts hr hq
    have hc := callA_pure (c_spec_l9Mean Kind.b n.toNat (by omega) r h) (by simp) (by simp)
    rw [show ((n.toNat : Nat) : Int) = n by omega, show ((2 : Nat) : Int) = 2 from rfl] at hc
    rw [hq] at h1
    simp [a87, hr, h24, h1, hc, setAt]
  | false => rw [hq] at h1; simp [a87, hr, h24, h1, setAt]
theorem c_spec_MeanRunsBehind (r : List Int) (hr : r.length = 24) (n : Int) : fnI pr np 89 [.agg (r.map (C.int .i64)), .c (.int .i64 n)] [] = some (meanR w3 r n, []) := by
  have h1 := callA_pure (c_spec_l9Good r hr n) (by simp) (by simp)
  have h24 := take24 hr
  rw [fb (fn := a89) rfl rfl]
  unfold meanR meanF
  cases hq : playB r n 2 with
  | true =>
    obtain ⟨h, n0, n2⟩ := playB_facts hr hq
    have hc := callA_pure (c_spec_l9Mean Kind.c n.toNat (by omega) r h) (by simp) (by simp)
    rw [show ((n.toNat : Nat) : Int) = n by omega, show ((3 : Nat) : Int) = 3 from rfl] at hc
    rw [hq] at h1
    simp [a89, hr, h24, h1, hc, setAt]
  | false => rw [hq] at h1; simp [a89, hr, h24, h1, setAt]
theorem c_impl_ChanceSortedBy (r : List Int) (hr : r.length = 24) (n : Int) : fnI pr np 92 [.agg (r.map (C.int .i64)), .c (.int .i64 n)] [] = some (meanR w1 r n, []) := by
  have h1 := callA_pure (c_impl_isPlay r hr n 2) (by simp) (by simp)
  have h24 := take24 hr
  rw [fb (fn := a92) rfl rfl]
  unfold meanR meanF
  cases hq : playB r n 2 with
  | true =>
    obtain ⟨h, n0, n2⟩ := playB_facts hr hq
    have hc := callA_pure (c_impl_chanceSorted r h n.toNat (by omega)) (by simp) (by simp)
    rw [show ((n.toNat : Nat) : Int) = n by omega] at hc
    rw [hq] at h1
    simp [a92, hr, h24, h1, hc, setAt]
  | false => rw [hq] at h1; simp [a92, hr, h24, h1, setAt]
theorem c_impl_ChanceStuckBy (r : List Int) (hr : r.length = 24) (n : Int) : fnI pr np 88 [.agg (r.map (C.int .i64)), .c (.int .i64 n)] [] = some (meanR w2 r n, []) := by
  have h1 := callA_pure (c_impl_isPlay r hr n 2) (by simp) (by simp)
  have h24 := take24 hr
  rw [fb (fn := a88) rfl rfl]
  unfold meanR meanF
  cases hq : playB r n 2 with
  | true =>
    obtain ⟨h, n0, n2⟩ := playB_facts hr hq
    have hc := callA_pure (c_impl_mean w2_le c_ChanceStuckBy_1 n.toNat (by omega) r h) (by simp) (by simp)
    rw [show ((n.toNat : Nat) : Int) = n by omega] at hc
    rw [hq] at h1
    simp [a88, hr, h24, h1, hc, setAt]
  | false => rw [hq] at h1; simp [a88, hr, h24, h1, setAt]
theorem c_impl_MeanRunsBehind (r : List Int) (hr : r.length = 24) (n : Int) : fnI pr np 90 [.agg (r.map (C.int .i64)), .c (.int .i64 n)] [] = some (meanR w3 r n, []) := by
  have h1 := callA_pure (c_impl_isPlay r hr n 2) (by simp) (by simp)
  have h24 := take24 hr
  rw [fb (fn := a90) rfl rfl]
  unfold meanR meanF
  cases hq : playB r n 2 with
  | true =>
    obtain ⟨h, n0, n2⟩ := playB_facts hr hq
    have hc := callA_pure (c_impl_mean w3_le (fun r h => c_impl_countRuns r h.len h.val) n.toNat (by omega) r h) (by simp) (by simp)
    rw [show ((n.toNat : Nat) : Int) = n by omega] at hc
    rw [hq] at h1
    simp [a90, hr, h24, h1, hc, setAt]
  | false => rw [hq] at h1; simp [a90, hr, h24, h1, setAt]
theorem c_laws_FnExactChanceSortedBy (r : List Int) (hr : r.length = 24) (n : Int) (_ : -9223372036854775808 ≤ n ∧ n < 9223372036854775808) : fnI pr np 23 [.agg (r.map (C.int .i64)), .c (.int .i64 n)] [] = some (.c (.bool true), []) := by
  have h1 := callA_pure (c_laws_toRack r hr) (by simp) (by simp)
  have h2 := callA_pure (c_spec_ChanceSortedBy r hr n) (by simp) (by simp [meanR])
  have h3 := callA_pure (c_impl_ChanceSortedBy r hr n) (by simp) (by simp [meanR])
  have h24 := take24 hr
  have he : ∀ a b : Int, ∀ (H : HF) (base : Nat), _ := fun a b => callA_pure (c_laws_eqIntA2 a b) (by simp) (by simp)
  unfold meanR at h2 h3
  generalize meanF w1 r n = v at *
  generalize playB r n 2 = q at *
  rw [fb (fn := a23) rfl rfl]
  simp [a23, hr, h24, h1, h2, h3, he, setAt]
theorem c_laws_FnExactChanceStuckBy (r : List Int) (hr : r.length = 24) (n : Int) (_ : -9223372036854775808 ≤ n ∧ n < 9223372036854775808) : fnI pr np 21 [.agg (r.map (C.int .i64)), .c (.int .i64 n)] [] = some (.c (.bool true), []) := by
  have h1 := callA_pure (c_laws_toRack r hr) (by simp) (by simp)
  have h2 := callA_pure (c_spec_ChanceStuckBy r hr n) (by simp) (by simp [meanR])
  have h3 := callA_pure (c_impl_ChanceStuckBy r hr n) (by simp) (by simp [meanR])
  have h24 := take24 hr
  have he : ∀ a b : Int, ∀ (H : HF) (base : Nat), _ := fun a b => callA_pure (c_laws_eqIntA2 a b) (by simp) (by simp)
  unfold meanR at h2 h3
  generalize meanF w2 r n = v at *
  generalize playB r n 2 = q at *
  rw [fb (fn := a21) rfl rfl]
  simp [a21, hr, h24, h1, h2, h3, he, setAt]
theorem c_laws_FnExactMeanRunsBehind (r : List Int) (hr : r.length = 24) (n : Int) (_ : -9223372036854775808 ≤ n ∧ n < 9223372036854775808) : fnI pr np 22 [.agg (r.map (C.int .i64)), .c (.int .i64 n)] [] = some (.c (.bool true), []) := by
  have h1 := callA_pure (c_laws_toRack r hr) (by simp) (by simp)
  have h2 := callA_pure (c_spec_MeanRunsBehind r hr n) (by simp) (by simp [meanR])
  have h3 := callA_pure (c_impl_MeanRunsBehind r hr n) (by simp) (by simp [meanR])
  have h24 := take24 hr
  have he : ∀ a b : Int, ∀ (H : HF) (base : Nat), _ := fun a b => callA_pure (c_laws_eqIntA2 a b) (by simp) (by simp)
  unfold meanR at h2 h3
  generalize meanF w3 r n = v at *
  generalize playB r n 2 = q at *
  rw [fb (fn := a22) rfl rfl]
  simp [a22, hr, h24, h1, h2, h3, he, setAt]
end Go.Proofs.Ytgmamngkkpadhaa.AM
