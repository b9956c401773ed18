import Derived.Test.YtafphbegpjjolaaPlaysB
/- Law: plays, its last part. -/
namespace Go.Proofs.Ytafphbegpjjolaa.AM
open Go
set_option maxRecDepth 1000000
set_option linter.unusedSimpArgs false
set_option linter.unusedVariables false
def frB (x : Nat × Nat) : Blk := .cells [.int .i64 x.1, .int .i64 x.2] true
def rkB (r : List Int) : Blk := .cells (r.map (C.int .i64)) true
@[simp] theorem frB_ids (x : Nat × Nat) : (frB x).ids = [] := rfl
@[simp] theorem frB_mp (g : Nat → Nat) (x : Nat × Nat) : (frB x).mp g = frB x := rfl
@[simp] theorem rkB_ids (r : List Int) : (rkB r).ids = [] := cids_ints _ _
@[simp] theorem rkB_mp (g : Nat → Nat) (r : List Int) : (rkB r).mp g = rkB r := by simp [rkB, Blk.mp]
/-- the numbers of a play of m pours -/
structure PlayNum (r : List Int) (m : Nat) : Prop where
  rk : RackOK r
  m2 : m ≤ 2
theorem playB_of {r : List Int} (h : RackOK r) {m : Nat} {k : Int} (hm : (m : Int) ≤ k) : playB r (m : Int) k = true := by
  have hq : okRack r = true := (rack_eq r h.len).symm.trans h.val
  unfold playB inB
  rw [hq]
  simp
  omega
theorem meanR_at {w : List Int → Nat} {r : List Int} (h : RackOK r) {m : Nat} (hm : m ≤ 2) : meanR w r (m : Int) = .tup [.agg [.int .i64 (meanV w endB m r).1, .int .i64 (meanV w endB m r).2], .c (.bool true)] := by
  have := playB_of h (m := m) (k := 2) (by omega)
  simp [meanR, meanF, this]
/-- what the law asks at the end: all calls, all comparisons -/
structure EndF (F : Fns) (r : List Int) (m : Nat) (A B D : Nat × Nat) (e : Nat) : Prop where
  sum : ∃ S : Nat × Nat, (∀ H base, callA F 25 [.agg [.int .i64 A.1, .int .i64 A.2], .agg [.int .i64 B.1, .int .i64 B.2]] H base = some (.agg [.int .i64 S.1, .int .i64 S.2], [], [])) ∧ ∀ H base, callA F 24 [.agg [.int .i64 1, .int .i64 1], .agg [.int .i64 S.1, .int .i64 S.2]] H base = some (.c (.bool false), [], [])
  runs : ∀ H base, callA F 24 [.agg [.int .i64 (crN r), .int .i64 1], .agg [.int .i64 D.1, .int .i64 D.2]] H base = some (.c (.bool false), [], [])
  e1 : 1 ≤ e
  z : m = 0 → e = 1 ∧ (A.1 = 0 ∨ sortP r = true)
  o : m = 1 → sortP r = true ∨ (usefulL r).length = 0 ∨ e ≤ (usefulL r).length
  less : 0 < m → ∃ A' B' : Nat × Nat, (∀ H base, callA F 7 [.agg (r.map (C.int .i64)), .c (.int .i64 ((m - 1 : Nat) : Int))] H base = some (.tup [.agg [.int .i64 A'.1, .int .i64 A'.2], .c (.bool true)], [], [])) ∧
    (∀ H base, callA F 9 [.agg (r.map (C.int .i64)), .c (.int .i64 ((m - 1 : Nat) : Int))] H base = some (.tup [.agg [.int .i64 B'.1, .int .i64 B'.2], .c (.bool true)], [], [])) ∧
    (∀ H base, callA F 24 [.agg [.int .i64 A.1, .int .i64 A.2], .agg [.int .i64 A'.1, .int .i64 A'.2]] H base = some (.c (.bool false), [], [])) ∧
    ∀ H base, callA F 24 [.agg [.int .i64 B.1, .int .i64 B.2], .agg [.int .i64 B'.1, .int .i64 B'.2]] H base = some (.c (.bool false), [], [])
theorem less_call {F : Fns} {a b c d : Nat} (hF : ∀ a b c d : Nat, a * d < 9223372036854775808 → c * b < 9223372036854775808 → F 24 [.agg [.int .i64 a, .int .i64 b], .agg [.int .i64 c, .int .i64 d]] [] = some (.c (.bool (decide (a * d < c * b))), [])) (h : c * b ≤ a * d) (hs : a * d < 9223372036854775808) (H : HF) (base : Nat) : callA F 24 [.agg [.int .i64 a, .int .i64 b], .agg [.int .i64 c, .int .i64 d]] H base = some (.c (.bool false), [], []) := by
  have := callA_pure (hF a b c d hs (by omega)) (by simp) (by simp) H base
  rw [this]
  have : ¬ a * d < c * b := by omega
  simp [this]
theorem end_facts {r : List Int} (h : RackOK r) {m : Nat} (hm : m ≤ 2) : EndF (fnI pr nq) r m (meanV w1 endB m r) (meanV w2 endB m r) (meanV w3 endB m r) (endsX r m).length := by
  have hq : okRack r = true := (rack_eq r h.len).symm.trans h.val
  have hF : ∀ a b c d : Nat, a * d < 9223372036854775808 → c * b < 9223372036854775808 → fnI pr nq 24 [.agg [.int .i64 a, .int .i64 b], .agg [.int .i64 c, .int .i64 d]] [] = some (.c (.bool (decide (a * d < c * b))), []) := fun a b c d h1 h2 => up (c_laws_vLess a b c d h1 h2)
  obtain ⟨M, hM0, hM1, hM2, hdv⟩ := mean_den h hm
  have d1 := hdv w1 w1_le
  have d2 := hdv w2 w2_le
  have d3 := hdv w3 w3_le
  have p1 := mean_pos w1 m r
  have p2 := mean_pos w2 m r
  have p3 := mean_pos w3 m r
  have l1 := Nat.le_of_dvd hM0 d1
  have l2 := Nat.le_of_dvd hM0 d2
  have l3 := Nat.le_of_dvd hM0 d3
  have c1 := chance_le1 m r
  have c2 := chance_le2 m r
  have hsum := chance_sum m r
  have hruns := mean_runs m h
  have hw3 := w3_le r h.len h.val
  have hlcm := den_lcm d1 d2 hM0
  have hlcm2 := den_lcm2 d1 d2 hM0
  refine ⟨?_, ?_, ends_one h m, ?_, ?_, ?_⟩
  · refine ⟨vSumL (meanV w1 endB m r) (meanV w2 endB m r), ?_, ?_⟩
    · generalize meanV w1 endB m r = A at *
      generalize meanV w2 endB m r = B at *
      refine callA_pure (up (c_laws_vPlusL A.1 A.2 B.1 B.2 (by omega) (by omega) p1 p2 ?_ ?_ (by omega))) (by simp) (by simp)
      · exact Nat.le_trans (Nat.mul_le_mul_right _ c1) (by omega)
      · have : B.1 * (A.2 / Nat.gcd A.2 B.2) ≤ B.2 * (A.2 / Nat.gcd A.2 B.2) := Nat.mul_le_mul_right _ c2
        rw [Nat.mul_comm B.2] at this
        omega
    · have hs := vSumL_small p1 p2 hsum
      have hu : (vSumL (meanV w1 endB m r) (meanV w2 endB m r)).2 ≤ M := Nat.le_trans (cutF_le _ _).2 hlcm
      generalize vSumL (meanV w1 endB m r) (meanV w2 endB m r) = S at *
      exact less_call (a := 1) (b := 1) (c := S.1) (d := S.2) hF (by omega) (by omega)
  · have e : crN r = w3 r := by unfold crN w3; rw [if_pos hq]
    rw [e]
    have hb : w3 r * (meanV w3 endB m r).2 ≤ 24 * 69872686884000 := Nat.mul_le_mul hw3 (by omega)
    exact less_call (a := w3 r) (b := 1) hF (by omega) (by omega)
  · intro hm0
    subst hm0
    refine ⟨rfl, ?_⟩
    simp only [meanV, w1]
    cases sortP r <;> simp
  · intro hm1
    subst hm1
    cases hs : sortP r with
    | true => exact .inl rfl
    | false =>
      by_cases hz : (usefulL r).length = 0
      · exact .inr (.inl hz)
      · refine .inr (.inr (ends_first ?_))
        unfold endB
        rw [hs]
        simpa using hz
  · intro hpos
    obtain ⟨k, rfl⟩ : ∃ k, m = k + 1 := ⟨m - 1, by omega⟩
    have hk : k ≤ 1 := by omega
    obtain ⟨M', hM0', hM1', hM2', hdv'⟩ := mean_den h (m := k) (by omega)
    have b1 := Nat.le_trans (Nat.le_of_dvd hM0' (hdv' w1 w1_le)) (hM2' hk)
    have b2 := Nat.le_trans (Nat.le_of_dvd hM0' (hdv' w2 w2_le)) (hM2' hk)
    have g1 := chance_grow w1_end k r
    have g2 := chance_grow w2_end k r
    have e : ((k + 1 - 1 : Nat) : Int) = (k : Int) := by simp
    rw [e]
    have s1 := meanR_at (w := w1) h (m := k) (by omega)
    have s2 := meanR_at (w := w2) h (m := k) (by omega)
    have f1 := callA_pure (up (c_impl_ChanceSortedBy r h.len (k : Int))) (by simp) (by simp [meanR])
    have f2 := callA_pure (up (c_impl_ChanceStuckBy r h.len (k : Int))) (by simp) (by simp [meanR])
    rw [s1] at f1
    rw [s2] at f2
    refine ⟨meanV w1 endB k r, meanV w2 endB k r, f1, f2, ?_, ?_⟩
    · have hb : (meanV w1 endB (k + 1) r).1 * (meanV w1 endB k r).2 ≤ 69872686884000 * 30 := Nat.mul_le_mul (by omega) b1
      exact less_call hF g1 (by omega)
    · have hb : (meanV w2 endB (k + 1) r).1 * (meanV w2 endB k r).2 ≤ 69872686884000 * 30 := Nat.mul_le_mul (by omega) b2
      exact less_call hF g2 (by omega)
end Go.Proofs.Ytafphbegpjjolaa.AM
