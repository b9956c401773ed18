import Derived.Test.YtahfeigilhjgpaaDoorLogD
/- Contracts and laws: logs synced, appended to, crashed. -/
namespace Go.Proofs.YtahfeigilhjgpaaDoor.AM
open Go
set_option maxRecDepth 1000000
set_option linter.unusedSimpArgs false
set_option linter.unusedVariables false
/-! ### sync -/
noncomputable def syncT (d p : Tx) (c : Int) : V := cond (validS d p c) (.tup [.agg [.str (d ++ p), .str [], .int .i64 c], .c (.bool true)]) (.tup [.agg [.str [], .str [], .int .i64 0], .c (.bool false)])
theorem c_spec_SyncLog (d p : Tx) (c : Int) (hd : d.length < 40000000) (hp : p.length < 40000000) : fnI pr np 31 [logV d p c] [] = some (syncT d p c, []) := by
  have h1 := callA_pure (c_spec_l12Valid d p c hd hp) (by simp) (by simp)
  have b1 : d.length + p.length ≤ 9223372036854775807 := by omega
  rw [fb (fn := a31) rfl rfl rfl]
  unfold syncT
  cases hv : validS d p c with
  | false => rw [hv] at h1; simp [a31, h1, sub]
  | true => rw [hv] at h1; simp [a31, h1, b1, sub]
theorem c_impl_SyncLog (d p : Tx) (c : Int) (hd : d.length < 40000000) (hp : p.length < 40000000) : fnI pr np 30 [logV d p c] [] = some (syncT d p c, []) := by
  have h1 := callA_pure (c_impl_IsValidLog d p c hd hp) (by simp) (by simp)
  have b1 : d.length + p.length ≤ 9223372036854775807 := by omega
  rw [fb (fn := a30) rfl rfl rfl]
  unfold syncT
  cases hv : validS d p c with
  | false => rw [hv] at h1; simp [a30, h1, sub]
  | true => rw [hv] at h1; simp [a30, h1, b1, sub]
theorem syncT_form (d p : Tx) (c : Int) : ∃ (d' p' : Tx) (c' : Int) (q : Bool), syncT d p c = .tup [.agg [.str d', .str p', .int .i64 c'], .c (.bool q)] := by
  unfold syncT
  cases validS d p c
  · exact ⟨_, _, _, _, rfl⟩
  · exact ⟨_, _, _, _, rfl⟩
/-! ### append -/
theorem valid_count {d p : Tx} {c : Int} (h : validS d p c = true) : 0 ≤ c ∧ c ≤ 60 := by
  unfold validS at h
  simp only [Bool.and_eq_true, decide_eq_true_eq] at h
  have := cntT_le (d ++ p)
  omega
noncomputable def appT (d p : Tx) (c : Int) (a b : Tx) : V := cond (validS d p c && recB a b) (if c = 60 then .tup [.agg [.str d, .str p, .int .i64 c], .c (.int .i64 2)] else .tup [.agg [.str d, .str (p ++ (lineT c.toNat a b ++ [10])), .int .i64 (c + 1)], .c (.int .i64 0)]) (.tup [.agg [.str d, .str p, .int .i64 c], .c (.int .i64 1)])
set_option maxHeartbeats 1000000 in
theorem c_spec_AppendRecord (d p : Tx) (c : Int) (a b : Tx) (hd : d.length < 40000000) (hp : p.length < 40000000) (ha : a.length < 40000000) (hb : b.length < 40000000) : fnI pr np 25 [logV d p c, recV a b] [] = some (appT d p c a b, []) := by
  have h1 := callA_pure (c_spec_l12Valid d p c hd hp) (by simp) (by simp)
  have h2 := callA_pure (c_spec_l12Record a b (by omega) (by omega)) (by simp [recV]) (by simp)
  rw [fb (fn := a25) rfl rfl rfl]
  unfold appT recV at *
  cases hv : validS d p c with
  | false => rw [hv] at h1; simp [a25, h1, sub]
  | true =>
    have hc := valid_count hv
    rw [hv] at h1
    cases hr : recB a b with
    | false => rw [hr] at h2; simp [a25, h1, h2, sub]
    | true =>
      rw [hr] at h2
      by_cases h60 : c = 60
      · subst h60
        simp [a25, h1, h2, sub]
      · obtain ⟨k, rfl⟩ : ∃ k : Nat, c = (k : Int) := ⟨c.toNat, by omega⟩
        have ek : ((k : Int)).toNat = k := by omega
        have h3 := callA_pure (c_spec_l12Line k (by omega) a b (by omega) (by omega)) (by simp [recV]) (by simp)
        have ll : (lineT k a b).length ≤ 100000000 := by
          have h1 := (sealT_len (textT k a b)).1
          have h2 := textT_len k (by omega) a b
          unfold lineT
          omega
        unfold recV at h3
        have w1 : IntKind.i64.wrap ((k : Int) + 1) = (k : Int) + 1 := wrapI (by omega) (by omega)
        rw [ek]
        generalize lineT k a b = l at *
        have b1 : p.length + (l.length + 1) ≤ 9223372036854775807 := by omega
        have b2 : l.length ≤ 9223372036854775806 := by omega
        have k60 : ¬ k = 60 := by omega
        have k60b : ((k : Int) == 60) = false := beq_eq_false_iff_ne.2 h60
        simp [a25, h1, h2, h3, h60, k60, k60b, w1, b1, b2, sub]
set_option maxHeartbeats 1000000 in
theorem c_impl_AppendRecord (d p : Tx) (c : Int) (a b : Tx) (hd : d.length < 40000000) (hp : p.length < 40000000) (ha : a.length < 40000000) (hb : b.length < 40000000) : fnI pr np 24 [logV d p c, recV a b] [] = some (appT d p c a b, []) := by
  have h1 := callA_pure (c_impl_IsValidLog d p c hd hp) (by simp) (by simp)
  have h2 := callA_pure (c_impl_IsValidRecord a b (by omega) (by omega)) (by simp [recV]) (by simp)
  rw [show (cmdB a && decide ((b.length : Int) ≤ 250) && plainT b) = recB a b from rfl] at h2
  rw [fb (fn := a24) rfl rfl rfl]
  unfold appT recV at *
  cases hv : validS d p c with
  | false => rw [hv] at h1; simp [a24, h1, sub]
  | true =>
    have hc := valid_count hv
    rw [hv] at h1
    cases hr : recB a b with
    | false => rw [hr] at h2; simp [a24, h1, h2, sub]
    | true =>
      rw [hr] at h2
      by_cases h60 : c = 60
      · subst h60
        simp [a24, h1, h2, sub]
      · obtain ⟨k, rfl⟩ : ∃ k : Nat, c = (k : Int) := ⟨c.toNat, by omega⟩
        have ek : ((k : Int)).toNat = k := by omega
        have h3 := callA_pure (c_impl_EncodeRecord k a b (by omega) (by omega)) (by simp [recV]) (by simp)
        have ll : (lineT k a b).length ≤ 100000000 := by
          have h1 := (sealT_len (textT k a b)).1
          have h2 := textT_len k (by omega) a b
          unfold lineT
          omega
        unfold recV at h3
        rw [hr, decide_eq_true hc.1, decide_eq_true (show (k : Int) ≤ 59 by omega), ek] at h3
        simp only [Bool.and_self, if_true] at h3
        have w1 : IntKind.i64.wrap ((k : Int) + 1) = (k : Int) + 1 := wrapI (by omega) (by omega)
        rw [ek]
        generalize lineT k a b = l at *
        have b1 : p.length + (l.length + 1) ≤ 9223372036854775807 := by omega
        have k60 : ¬ k = 60 := by omega
        have k60b : ((k : Int) == 60) = false := beq_eq_false_iff_ne.2 h60
        simp [a24, h1, h2, h3, h60, k60, k60b, w1, b1, sub]
theorem appT_form (d p : Tx) (c : Int) (a b : Tx) : ∃ (d' p' : Tx) (c' e : Int), appT d p c a b = .tup [.agg [.str d', .str p', .int .i64 c'], .c (.int .i64 e)] := by
  unfold appT
  cases (validS d p c && recB a b)
  · exact ⟨_, _, _, _, rfl⟩
  · by_cases h : c = 60
    · rw [if_pos h]; exact ⟨_, _, _, _, rfl⟩
    · rw [if_neg h]; exact ⟨_, _, _, _, rfl⟩
end Go.Proofs.YtahfeigilhjgpaaDoor.AM
