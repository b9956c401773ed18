import Derived.Test.YtafphbegpjjolaaMean
/- Contracts: chances of plays; laws. -/
namespace Go.Proofs.Ytafphbegpjjolaa.AM
open Go
set_option maxRecDepth 1000000
set_option linter.unusedSimpArgs false
set_option linter.unusedVariables false
def playB (r : List Int) (n m : Int) : Bool := okRack r && inB n 0 m
def meanF (w : List Int → Nat) (r : List Int) (n : Int) : Nat × Nat := if playB r n 2 = true then meanV w endB n.toNat r else (0, 0)
def meanR (w : List Int → Nat) (r : List Int) (n : Int) : V := .tup [.agg [.int .i64 (meanF w r n).1, .int .i64 (meanF w r n).2], .c (.bool (playB r n 2))]
theorem c_spec_l9Good (r : List Int) (hr : r.length = 24) (n : Int) : fnI pr np 35 [.agg (r.map (C.int .i64)), .c (.int .i64 n)] [] = some (.c (.bool (playB r n 2)), []) := by
  have h1 := callA_pure (c_rack_spec r hr) (by simp) (by simp)
  have h2 := callA_pure (c_spec_l1In n 0 2) (by simp) (by simp)
  have h24 := take24 hr
  rw [fb (fn := a35) rfl rfl]
  unfold playB inB
  cases hq : okRack r with
  | true => rw [hq] at h1; simp [a35, hr, h24, h1, h2]
  | false => rw [hq] at h1; simp [a35, hr, h24, h1]
theorem c_impl_isPlay (r : List Int) (hr : r.length = 24) (n m : Int) : fnI pr np 33 [.agg (r.map (C.int .i64)), .c (.int .i64 n), .c (.int .i64 m)] [] = some (.c (.bool (playB r n m)), []) := by
  have h1 := callA_pure (c_rack_impl r hr) (by simp) (by simp)
  have h2 := callA_pure (c_impl_within n 0 m) (by simp) (by simp)
  have h24 := take24 hr
  rw [fb (fn := a33) rfl rfl]
  unfold playB inB
  cases hq : okRack r with
  | true => rw [hq] at h1; simp [a33, hr, h24, h1, h2]
  | false => rw [hq] at h1; simp [a33, hr, h24, h1]
theorem playB_facts {r : List Int} (hr : r.length = 24) {n m : Int} (hq : playB r n m = true) : RackOK r ∧ 0 ≤ n ∧ n ≤ m := by
  simp only [playB, inB, Bool.and_eq_true, decide_eq_true_eq] at hq
  exact ⟨rackOK hr hq.1, hq.2.1, hq.2.2⟩
theorem c_impl_chanceSorted (r : List Int) (h : RackOK r) (n : Nat) (hn : n ≤ 2) : fnI pr np 34 [.agg (r.map (C.int .i64)), .c (.int .i64 n)] [] = some (.agg [.int .i64 (meanV w1 endB n r).1, .int .i64 (meanV w1 endB n r).2], []) := by
  have hr := h.len
  have h24 := take24 hr
  have hc := callA_pure (c_impl_mean w1_le c_chanceSorted_1 n hn r h) (by simp) (by simp)
  rw [fb (fn := a34) rfl rfl]
  simp [a34, hr, h24, hc, setAt]
theorem c_spec_ChanceSortedBy (r : List Int) (hr : r.length = 24) (n : Int) : fnI pr np 8 [.agg (r.map (C.int .i64)), .c (.int .i64 n)] [] = some (meanR w1 r n, []) := by
  have h1 := callA_pure (c_spec_l9Good r hr n) (by simp) (by simp)
  have h24 := take24 hr
  rw [fb (fn := a8) rfl rfl]
  unfold meanR meanF
  cases hq : playB r n 2 with
  | true =>
    obtain ⟨h, n0, n2⟩ := playB_facts hr hq
    have hc := callA_pure (c_spec_l9Mean Kind.a n.toNat (by omega) r h) (by simp) (by simp)
    rw [show ((n.toNat : Nat) : Int) = n by omega, show ((1 : Nat) : Int) = 1 from rfl] at hc
    rw [hq] at h1
    simp [a8, hr, h24, h1, hc, setAt]
  | false => rw [hq] at h1; simp [a8, hr, h24, h1, setAt]
theorem c_spec_ChanceStuckBy (r : List Int) (hr : r.length = 24) (n : Int) : fnI pr np 10 [.agg (r.map (C.int .i64)), .c (.int .i64 n)] [] = some (meanR w2 r n, []) := by
  have h1 := callA_pure (c_spec_l9Good r hr n) (by simp) (by simp)
  have h24 := take24 hr
  rw [fb (fn := a10) rfl rfl]
  unfold meanR meanF
  cases hq : playB r n 2 with
  | true =>
    obtain ⟨h, n0, n2⟩ := playB_facts hr hq
    have hc := callA_pure (c_spec_l9Mean Kind.b n.toNat (by omega) r h) (by simp) (by simp)
    rw [show ((n.toNat : Nat) : Int) = n by omega, show ((2 : Nat) : Int) = 2 from rfl] at hc
    rw [hq] at h1
    simp [a10, hr, h24, h1, hc, setAt]
  | false => rw [hq] at h1; simp [a10, hr, h24, h1, setAt]
theorem c_spec_MeanRunsBehind (r : List Int) (hr : r.length = 24) (n : Int) : fnI pr np 12 [.agg (r.map (C.int .i64)), .c (.int .i64 n)] [] = some (meanR w3 r n, []) := by
  have h1 := callA_pure (c_spec_l9Good r hr n) (by simp) (by simp)
  have h24 := take24 hr
  rw [fb (fn := a12) rfl rfl]
  unfold meanR meanF
  cases hq : playB r n 2 with
  | true =>
    obtain ⟨h, n0, n2⟩ := playB_facts hr hq
    have hc := callA_pure (c_spec_l9Mean Kind.c n.toNat (by omega) r h) (by simp) (by simp)
    rw [show ((n.toNat : Nat) : Int) = n by omega, show ((3 : Nat) : Int) = 3 from rfl] at hc
    rw [hq] at h1
    simp [a12, hr, h24, h1, hc, setAt]
  | false => rw [hq] at h1; simp [a12, hr, h24, h1, setAt]
theorem c_impl_ChanceSortedBy (r : List Int) (hr : r.length = 24) (n : Int) : fnI pr np 7 [.agg (r.map (C.int .i64)), .c (.int .i64 n)] [] = some (meanR w1 r n, []) := by
  have h1 := callA_pure (c_impl_isPlay r hr n 2) (by simp) (by simp)
  have h24 := take24 hr
  rw [fb (fn := a7) rfl rfl]
  unfold meanR meanF
  cases hq : playB r n 2 with
  | true =>
    obtain ⟨h, n0, n2⟩ := playB_facts hr hq
    have hc := callA_pure (c_impl_chanceSorted r h n.toNat (by omega)) (by simp) (by simp)
    rw [show ((n.toNat : Nat) : Int) = n by omega] at hc
    rw [hq] at h1
    simp [a7, hr, h24, h1, hc, setAt]
  | false => rw [hq] at h1; simp [a7, hr, h24, h1, setAt]
theorem c_impl_ChanceStuckBy (r : List Int) (hr : r.length = 24) (n : Int) : fnI pr np 9 [.agg (r.map (C.int .i64)), .c (.int .i64 n)] [] = some (meanR w2 r n, []) := by
  have h1 := callA_pure (c_impl_isPlay r hr n 2) (by simp) (by simp)
  have h24 := take24 hr
  rw [fb (fn := a9) rfl rfl]
  unfold meanR meanF
  cases hq : playB r n 2 with
  | true =>
    obtain ⟨h, n0, n2⟩ := playB_facts hr hq
    have hc := callA_pure (c_impl_mean w2_le c_ChanceStuckBy_1 n.toNat (by omega) r h) (by simp) (by simp)
    rw [show ((n.toNat : Nat) : Int) = n by omega] at hc
    rw [hq] at h1
    simp [a9, hr, h24, h1, hc, setAt]
  | false => rw [hq] at h1; simp [a9, hr, h24, h1, setAt]
theorem c_impl_MeanRunsBehind (r : List Int) (hr : r.length = 24) (n : Int) : fnI pr np 11 [.agg (r.map (C.int .i64)), .c (.int .i64 n)] [] = some (meanR w3 r n, []) := by
  have h1 := callA_pure (c_impl_isPlay r hr n 2) (by simp) (by simp)
  have h24 := take24 hr
  rw [fb (fn := a11) rfl rfl]
  unfold meanR meanF
  cases hq : playB r n 2 with
  | true =>
    obtain ⟨h, n0, n2⟩ := playB_facts hr hq
    have hc := callA_pure (c_impl_mean w3_le (fun r h => c_impl_countRuns r h.len h.val) n.toNat (by omega) r h) (by simp) (by simp)
    rw [show ((n.toNat : Nat) : Int) = n by omega] at hc
    rw [hq] at h1
    simp [a11, hr, h24, h1, hc, setAt]
  | false => rw [hq] at h1; simp [a11, hr, h24, h1, setAt]
end Go.Proofs.Ytafphbegpjjolaa.AM
