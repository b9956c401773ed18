import Derived.Test.YtahfeigilhjgpaaDoorLogC
/- Contracts and laws: logs recovered, valid logs, synced, crashed, appended. -/
namespace Go.Proofs.YtahfeigilhjgpaaDoor.AM
open Go
set_option maxRecDepth 1000000
set_option linter.unusedSimpArgs false
set_option linter.unusedVariables false
abbrev logV (d p : Tx) (c : Int) : V := .agg [.str d, .str p, .int .i64 c]
/-! ### a log is recovered -/
noncomputable def recovT (s : Tx) : V := if s.length ≤ 30000 then .tup [.agg [.str (s.take (endT s)), .str [], .int .i64 (cntT s)], .c (.int .i64 (endT s)), .c (.bool true)] else .tup [.agg [.str [], .str [], .int .i64 0], .c (.int .i64 0), .c (.bool false)]
theorem c_spec_RecoverLog (s : Tx) (hn : s.length < 100000000) : fnI pr np 40 [.c (.str s)] [] = some (recovT s, []) := by
  have h1 := callA_new (c_spec_l12Open s hn) (by simp)
  have he := endT_le s
  rw [fb (fn := a40) rfl rfl rfl]
  unfold recovT
  generalize endT s = e at *
  generalize recsT s (cntT s) = R at *
  generalize cntT s = K at *
  by_cases c : s.length ≤ 30000
  · have c' : ¬ (30000 : Int) < (s.length : Int) := by omega
    simp [a40, c, c', h1, he, sub]
  · have c' : (30000 : Int) < (s.length : Int) := by omega
    simp [a40, c, c', sub]
theorem c_impl_RecoverLog (s : Tx) (hn : s.length < 100000000) : fnI pr np 39 [.c (.str s)] [] = some (recovT s, []) := by
  have h1 := callA_new (c_impl_readRecords s hn) (by simp)
  have he := endT_le s
  rw [fb (fn := a39) rfl rfl rfl]
  unfold recovT
  generalize endT s = e at *
  generalize recsT s (cntT s) = R at *
  generalize cntT s = K at *
  by_cases c : s.length ≤ 30000
  · have c' : ¬ (30000 : Int) < (s.length : Int) := by omega
    simp [a39, c, c', h1, he, sub]
  · have c' : (30000 : Int) < (s.length : Int) := by omega
    simp [a39, c, c', sub]
theorem recovT_ids (s : Tx) : ((recovT s).ids == []) = true := by
  unfold recovT
  split <;> rfl
theorem recovT_form (s : Tx) : ∃ (d p : Tx) (c e : Int) (q : Bool), recovT s = .tup [.agg [.str d, .str p, .int .i64 c], .c (.int .i64 e), .c (.bool q)] := by
  unfold recovT
  split
  · exact ⟨_, _, _, _, _, rfl⟩
  · exact ⟨_, _, _, _, _, rfl⟩
/-! ### valid logs -/
theorem validS_small {d p : Tx} {c : Int} (h : ¬ (d.length : Int) + p.length ≤ 30000) : validS d p c = false := by unfold validS; rw [decide_eq_false h]; rfl
theorem c_spec_l12Valid (d p : Tx) (c : Int) (hd : d.length < 40000000) (hp : p.length < 40000000) : fnI pr np 67 [logV d p c] [] = some (.c (.bool (validS d p c)), []) := by
  have h1 := callA_new (c_spec_l12Open (d ++ p) (by simp; omega)) (by simp)
  have h2 := callA_new (c_spec_l12Open d (by omega)) (by simp)
  have w1 : IntKind.i64.wrap ((d.length : Int) + (p.length : Int)) = (d.length : Int) + (p.length : Int) := wrapI (by omega) (by omega)
  have b1 : d.length + p.length ≤ 9223372036854775807 := by omega
  rw [fb (fn := a67) rfl rfl rfl]
  unfold validS
  generalize endT (d ++ p) = e1 at *
  generalize endT d = e2 at *
  generalize recsT (d ++ p) (cntT (d ++ p)) = R1 at *
  generalize recsT d (cntT d) = R2 at *
  generalize cntT (d ++ p) = K1 at *
  generalize cntT d = K2 at *
  by_cases c1 : (d.length : Int) + p.length ≤ 30000
  · have c1' : ¬ (30000 : Int) < (d.length : Int) + (p.length : Int) := by omega
    by_cases c2 : e1 = d.length + p.length
    · have c2' : (e1 : Int) = (d.length : Int) + (p.length : Int) := by omega
      by_cases c3 : e2 = d.length
      · by_cases c4 : (K1 : Int) = c
        · simp [a67, h1, h2, w1, b1, c1, c1', c2, c2', c3, c4, sub]
        · simp [a67, h1, h2, w1, b1, c1, c1', c2, c2', c3, c4, sub]
      · have c3' : ¬ (e2 : Int) = (d.length : Int) := by omega
        have c3b : ((e2 : Int) == (d.length : Int)) = false := beq_eq_false_iff_ne.2 c3'
        simp [a67, h1, h2, w1, b1, c1, c1', c2, c2', c3, c3', c3b, sub]
    · have c2' : ¬ (e1 : Int) = (d.length : Int) + (p.length : Int) := by omega
      have c2b : ((e1 : Int) == (d.length : Int) + (p.length : Int)) = false := beq_eq_false_iff_ne.2 c2'
      simp [a67, h1, h2, w1, b1, c1, c1', c2, c2', c2b, sub]
  · have c1' : (30000 : Int) < (d.length : Int) + (p.length : Int) := by omega
    simp [a67, w1, c1, c1', sub]
theorem c_spec_IsValidLog (d p : Tx) (c : Int) (hd : d.length < 40000000) (hp : p.length < 40000000) : fnI pr np 29 [logV d p c] [] = some (.c (.bool (validS d p c)), []) := by
  have h1 := callA_pure (c_spec_l12Valid d p c hd hp) (by simp) (by simp)
  rw [fb (fn := a29) rfl rfl rfl]
  simp [a29, h1, sub]
set_option maxHeartbeats 1000000 in
theorem c_impl_records (d p : Tx) (c : Int) (hd : d.length < 40000000) (hp : p.length < 40000000) : ∃ l : List (Tx × Tx), fnI pr np 70 [logV d p c] [] = some (.tup [.c (.sl 0 0 l.length 2), .c (.bool (validS d p c))], [.cells (recC l) true]) ∧ (validS d p c = true → l = recsT (d ++ p) (cntT (d ++ p))) := by
  have h1 := callA_new (c_impl_readRecords (d ++ p) (by simp; omega)) (by simp)
  have h2 := callA_pure (c_hasSuffix d [10] (by omega)) (by simp) (by simp)
  have b1 : d.length + p.length ≤ 9223372036854775807 := by omega
  rw [← valid_eq, fb (fn := a70) rfl rfl rfl]
  have hl := recsT_len (d ++ p) (cntT (d ++ p))
  have e0 : ∀ q : Bool, (q = true → recsT (d ++ p) (cntT (d ++ p)) = recsT (d ++ p) (cntT (d ++ p))) := fun _ _ => rfl
  unfold validI
  generalize endT (d ++ p) = e1 at *
  generalize recsT (d ++ p) (cntT (d ++ p)) = R1 at *
  rw [← hl] at h1 ⊢
  by_cases c1 : (d.length : Int) + p.length ≤ 30000
  · have c1' : ¬ (30000 : Int) < (d.length : Int) + (p.length : Int) := by omega
    by_cases c2 : (d == [] || ([10] : Tx).isSuffixOf d) = true
    · refine ⟨R1, ?_, fun _ => rfl⟩
      rw [c2]
      by_cases c3 : d = []
      · subst c3
        have c1z : ¬ (30000 : Int) < (p.length : Int) := by simp at c1; omega
        by_cases c4 : e1 = p.length
        · by_cases c5 : c = (R1.length : Int)
          · simp at c1 c1' h1 b1
            simp [a70, h1, b1, c1, c1', c4, c5, c1z, sub]
          · simp at c1 c1' h1 b1
            simp [a70, h1, b1, c1, c1', c4, c5, c1z, sub]
        · have c4' : ¬ (e1 : Int) = (p.length : Int) := by omega
          have c4b : ((e1 : Int) == (p.length : Int)) = false := beq_eq_false_iff_ne.2 c4'
          simp at c1 c1' h1 b1
          simp [a70, h1, b1, c1, c1', c4, c4', c4b, c1z, sub]
      · have c6 : ([10] : Tx).isSuffixOf d = true := by
          have : (d == []) = false := by simpa using c3
          rwa [this, Bool.false_or] at c2
        rw [c6] at h2
        have c3i : d.isEmpty = false := by simpa using c3
        by_cases c4 : e1 = d.length + p.length
        · have c4' : (e1 : Int) = (d.length : Int) + (p.length : Int) := by omega
          by_cases c5 : c = (R1.length : Int)
          · simp [a70, h1, h2, b1, c1, c1', c3, c3i, c4, c4', c5, sub]
          · simp [a70, h1, h2, b1, c1, c1', c3, c3i, c4, c4', c5, sub]
        · have c4' : ¬ (e1 : Int) = (d.length : Int) + (p.length : Int) := by omega
          have c4b : ((e1 : Int) == (d.length : Int) + (p.length : Int)) = false := beq_eq_false_iff_ne.2 c4'
          simp [a70, h1, h2, b1, c1, c1', c3, c3i, c4, c4', c4b, sub]
    · have c2 : (d == [] || ([10] : Tx).isSuffixOf d) = false := Bool.eq_false_iff.2 c2
      rw [c2]
      rw [Bool.or_eq_false_iff] at c2
      have c3 : ¬ d = [] := by simpa using c2.1
      have c3i : d.isEmpty = false := by simpa using c3
      rw [c2.2] at h2
      refine ⟨[], ?_, fun h => by simp at h⟩
      simp [a70, h2, b1, c1, c1', c3, c3i, recC_nil, sub]
  · have c1' : (30000 : Int) < (d.length : Int) + (p.length : Int) := by omega
    refine ⟨[], ?_, fun h => by rw [decide_eq_false c1] at h; cases h⟩
    simp [a70, b1, c1, c1', recC_nil, sub]
theorem c_impl_IsValidLog (d p : Tx) (c : Int) (hd : d.length < 40000000) (hp : p.length < 40000000) : fnI pr np 28 [logV d p c] [] = some (.c (.bool (validS d p c)), []) := by
  obtain ⟨l, h1, _⟩ := c_impl_records d p c hd hp
  have h1 := callA_new h1 (by simp)
  rw [fb (fn := a28) rfl rfl rfl]
  simp [a28, h1, sub]
end Go.Proofs.YtahfeigilhjgpaaDoor.AM
