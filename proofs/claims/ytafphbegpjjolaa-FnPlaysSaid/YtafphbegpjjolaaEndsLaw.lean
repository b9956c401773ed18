import Derived.Test.YtafphbegpjjolaaEndsA
/- Contract: the reference's number of racks at which a play can be; the law. -/
namespace Go.Proofs.Ytafphbegpjjolaa.AM
open Go
set_option maxRecDepth 1000000
set_option linter.unusedSimpArgs false
set_option linter.unusedVariables false
theorem c_spec_CountEnds (r : List Int) (hr : r.length = 24) (n : Int) : fnI pr np 14 [.agg (r.map (C.int .i64)), .c (.int .i64 n)] [] = some (endsV r n, []) := by
  have h1 := callA_pure (c_spec_l9Good r hr n) (by simp) (by simp)
  have h24 := take24 hr
  rw [fb (fn := a14) rfl rfl]
  unfold endsV endsN
  cases hq : playB r n 2 with
  | true =>
    obtain ⟨h, n0, n2⟩ := playB_facts hr hq
    have hc := callA_new (c_spec_l9Ends r h n.toNat (by omega)) (by simp)
    rw [show ((n.toNat : Nat) : Int) = n by omega] at hc
    rw [hq] at h1
    simp [a14, hr, h24, h1, hc, sub]
  | false => rw [hq] at h1; simp [a14, hr, h24, h1, sub]
theorem c_laws_FnExactCountEnds (r : List Int) (hr : r.length = 24) (n : Int) (_ : -9223372036854775808 ≤ n ∧ n < 9223372036854775808) : fnI pr nq 4 [.agg (r.map (C.int .i64)), .c (.int .i64 n)] [] = some (.c (.bool true), []) := by
  have h1 := callA_pure (up (c_laws_toRack r hr)) (by simp) (by simp)
  have h2 := callA_pure (up (c_spec_CountEnds r hr n)) (by simp) (by simp [endsV])
  have h3 := callA_pure (q_ends r hr n) (by simp) (by simp [endsV])
  simp only [xFn] at h3
  have h24 := take24 hr
  unfold endsV at h2 h3
  generalize endsN r n = v at *
  generalize playB r n 2 = q at *
  rw [fq (fn := a4) rfl rfl rfl]
  simp [a4, hr, h24, h1, h2, h3, setAt, sub]
theorem fnOKq : FnOK Try.prog (fnI pr nq) := fnI_ok mixed pr_ok nq_ok
end Go.Proofs.Ytafphbegpjjolaa.AM
