import Derived.Test.YtahfeigilhjgpaaDoorLogP
import Derived.Test.YtahfeigilhjgpaaDoorLogG
/- Logs: plain laws: what survives a crash, what an appended record changes; no program in sight. -/
namespace Go.Proofs.YtahfeigilhjgpaaDoor.AM
open Go
set_option maxRecDepth 1000000
set_option linter.unusedSimpArgs false
set_option linter.unusedVariables false
theorem take_pre (s t : Tx) (e : Nat) (h : e ≤ s.length) : ∃ u, s ++ t = s.take e ++ u := ⟨s.drop e ++ t, by rw [← List.append_assoc, List.take_append_drop]⟩
theorem flip_take (q : Tx) (m : Nat) : (flipAt q m).take m = q.take m := by
  unfold flipAt
  exact List.take_set_of_le (Nat.le_refl _)
theorem crash_facts {d p : Tx} {c : Int} (h : validS d p c = true) {n : Nat} (hn : n ≤ p.length) (torn : Bool) : (crashT d p n torn).length ≤ 30000 ∧ d.length ≤ endT (crashT d p n torn) ∧ (∃ t, d ++ p = (crashT d p n torn).take (endT (crashT d p n torn)) ++ t) ∧ (torn = false → n = p.length → crashT d p n torn = d ++ p) := by
  obtain ⟨h1, h2, h3, h4⟩ := valid_facts h
  have hpre : ∀ t : Tx, d.length ≤ endT (d ++ t) := fun t => by
    have := (pre_end d t).1
    omega
  have plain : ∀ t : Tx, t = p.take n → (d ++ t).length ≤ 30000 ∧ d.length ≤ endT (d ++ t) ∧ (∃ u, d ++ p = (d ++ t).take (endT (d ++ t)) ++ u) := by
    intro t ht
    refine ⟨by rw [ht]; simp; omega, hpre t, ?_⟩
    obtain ⟨u, hu⟩ := take_pre (d ++ t) (p.drop n) _ (endT_le (d ++ t))
    refine ⟨u, ?_⟩
    rw [← hu, ht, List.append_assoc, List.take_append_drop]
  unfold crashT
  cases ht : (torn && decide (0 < n)) with
  | false =>
    simp only [cond_false]
    obtain ⟨a1, a2, a3⟩ := plain _ rfl
    refine ⟨a1, a2, a3, fun _ hnp => ?_⟩
    rw [hnp, List.take_length]
  | true =>
    simp only [cond_true]
    simp only [Bool.and_eq_true, decide_eq_true_eq] at ht
    obtain ⟨rfl, h0⟩ := ht
    have lq : (p.take n).length = n := by simp; omega
    have lf : (flipAt (p.take n) (n - 1)).length = n := by rw [flip_len, lq]
    refine ⟨by simp [lf]; omega, hpre _, ?_, fun h => by cases h⟩
    have hle := endT_le (d ++ flipAt (p.take n) (n - 1))
    rw [List.length_append, lf] at hle
    by_cases he : endT (d ++ flipAt (p.take n) (n - 1)) ≤ d.length + (n - 1)
    · obtain ⟨u, hu⟩ := take_pre (d ++ (p.take n).take (n - 1)) ((p.take n).drop (n - 1) ++ p.drop n) (endT (d ++ flipAt (p.take n) (n - 1))) (by simp; omega)
      refine ⟨u, ?_⟩
      have e1 : (d ++ flipAt (p.take n) (n - 1)).take (endT (d ++ flipAt (p.take n) (n - 1))) = (d ++ (p.take n).take (n - 1)).take (endT (d ++ flipAt (p.take n) (n - 1))) := by
        have e2 : d ++ flipAt (p.take n) (n - 1) = (d ++ (p.take n).take (n - 1)) ++ (flipAt (p.take n) (n - 1)).drop (n - 1) := by
          rw [List.append_assoc, ← flip_take (p.take n) (n - 1), List.take_append_drop]
        generalize endT (d ++ flipAt (p.take n) (n - 1)) = e at *
        rw [e2, List.take_append_of_le_length (by simp; omega)]
      rw [e1, ← hu, List.append_assoc]
      congr 1
      rw [← List.append_assoc, List.take_append_drop, List.take_append_drop]
    · exfalso
      have hall : endT (d ++ flipAt (p.take n) (n - 1)) = (d ++ flipAt (p.take n) (n - 1)).length := by rw [List.length_append, lf]; omega
      have hn1 : n - 1 < (p.take n).length := by omega
      have hx : (p.take n).getD (n - 1) 0 ∈ d ++ p := by
        rw [List.getD_eq_getElem?_getD, List.getElem?_eq_getElem hn1]
        exact List.mem_append_right _ (List.mem_of_mem_take (List.getElem_mem hn1))
      have hasc := ascii_all h2 _ hx
      rcases end_of_kept hall with h | h
      · have := congrArg List.length h
        simp [lf] at this
        omega
      · obtain ⟨w, hw⟩ := List.isSuffixOf_iff_suffix.1 h
        have hlast := congrArg List.getLast? hw
        have hfl : flipAt (p.take n) (n - 1) = (p.take n).take (n - 1) ++ [255 - (p.take n).getD (n - 1) 0] := by
          unfold flipAt
          apply List.ext_getElem?
          intro i
          rw [List.getElem?_set]
          by_cases hi : n - 1 = i
          · subst hi
            rw [if_pos rfl, if_pos hn1, List.getElem?_append_right (by simp; omega)]
            have : n - 1 - ((p.take n).take (n - 1)).length = 0 := by simp; omega
            rw [this]
            rfl
          · rw [if_neg hi]
            by_cases hi2 : i < n - 1
            · rw [List.getElem?_append_left (by simp; omega), List.getElem?_take_of_lt hi2]
            · rw [List.getElem?_eq_none (by omega), List.getElem?_eq_none (by simp; omega)]
        rw [hfl] at hlast
        rw [← List.append_assoc, List.getLast?_concat, List.getLast?_concat] at hlast
        injection hlast with hlast
        generalize (p.take n).getD (n - 1) 0 = x at *
        have e1 := neg255 x
        rw [← hlast] at e1
        have e2 : IntKind.u8.wrap (255 - (x.toNat : Int)) = 255 - (x.toNat : Int) := by
          simp [IntKind.wrap, IntKind.bits, IntKind.signed]
          omega
        rw [e2] at e1
        have e3 : ((10 : UInt8).toNat : Int) = 10 := rfl
        omega
/-- what RecoverLog reads behind a crash -/
theorem back_facts {d p s : Tx} {c : Int} (h : validS d p c = true) (hs : s.length ≤ 30000) (hp : ∃ t, d ++ p = s.take (endT s) ++ t) : validS (s.take (endT s)) [] (cntT s) = true ∧ recsV (s.take (endT s)) [] (cntT s) = recsT s (cntT s) ∧ (recsV (s.take (endT s)) [] (cntT s)).length ≤ (recsV d p c).length ∧ (recsV d p c).take (recsV (s.take (endT s)) [] (cntT s)).length = recsV (s.take (endT s)) [] (cntT s) ∧ (s = d ++ p → (recsV (s.take (endT s)) [] (cntT s)).length = (recsV d p c).length) := by
  obtain ⟨o1, o2, o3⟩ := own_part s
  have hle := endT_le s
  have hl : (s.take (endT s)).length = endT s := by simp; omega
  have hv : validS (s.take (endT s)) [] (cntT s) = true := by
    have := valid_of (d := s.take (endT s)) (p := []) (by simp; omega) (by rw [List.append_nil, o1, hl]) (by rw [o1, hl])
    rwa [List.append_nil, o2] at this
  have hr : recsV (s.take (endT s)) [] (cntT s) = recsT s (cntT s) := by
    unfold recsV
    rw [hv, List.append_nil, o2, o3]
    rfl
  have hr2 : recsV d p c = recsT (d ++ p) (cntT (d ++ p)) := by unfold recsV; rw [h]; rfl
  obtain ⟨q1, q2⟩ := part_recs hp
  refine ⟨hv, hr, ?_, ?_, ?_⟩
  · rw [hr, hr2, recsT_len, recsT_len]; exact q1
  · rw [hr, hr2, recsT_len]; exact q2
  · intro e
    rw [hr, hr2, recsT_len, recsT_len, e]
/-! ### records appended, logs synced -/
theorem app_facts (d p : Tx) (c : Int) (a b : Tx) : ∃ (d2 p2 : Tx) (c2 e : Int), appT d p c a b = .tup [.agg [.str d2, .str p2, .int .i64 c2], .c (.int .i64 e)] ∧ ((e ≠ 0 ∧ d2 = d ∧ p2 = p ∧ c2 = c) ∨ (e = 0 ∧ d2.length ≤ 30000 ∧ p2.length ≤ 30000 ∧ validS d2 p2 c2 = true ∧ recsV d2 p2 c2 = recsV d p c ++ [(a, b)])) := by
  unfold appT
  cases hq : validS d p c && recB a b with
  | false => exact ⟨_, _, _, _, rfl, .inl ⟨by decide, rfl, rfl, rfl⟩⟩
  | true =>
    simp only [Bool.and_eq_true] at hq
    obtain ⟨hv, hr⟩ := hq
    by_cases hc : c = 60
    · simp only [cond_true, if_pos hc]
      exact ⟨_, _, _, _, rfl, .inl ⟨by decide, rfl, rfl, rfl⟩⟩
    · simp only [cond_true, if_neg hc]
      refine ⟨_, _, _, _, rfl, .inr ⟨rfl, ?_⟩⟩
      obtain ⟨h1, h2, h3, h4⟩ := valid_facts hv
      have hle := cntT_le (d ++ p)
      obtain ⟨g1, g2, g3⟩ := app_record h2 (by omega) hr
      have ek : c.toNat = cntT (d ++ p) := by omega
      have hb := end_bound (d ++ p ++ (lineT (cntT (d ++ p)) a b ++ [10]))
      rw [g1, g2] at hb
      have hlen : (d ++ p ++ (lineT (cntT (d ++ p)) a b ++ [10])).length = d.length + (p ++ (lineT (cntT (d ++ p)) a b ++ [10])).length := by simp [Nat.add_assoc]
      rw [ek]
      have hv2 : validS d (p ++ (lineT (cntT (d ++ p)) a b ++ [10])) (c + 1) = true := by
        have := valid_of (d := d) (p := p ++ (lineT (cntT (d ++ p)) a b ++ [10])) (by omega) (by rw [← List.append_assoc d p]; exact g1) h3
        rw [← List.append_assoc d p, g2] at this
        have e9 : ((cntT (d ++ p) + 1 : Nat) : Int) = c + 1 := by omega
        rw [e9] at this
        exact this
      refine ⟨by omega, by omega, hv2, ?_⟩
      unfold recsV
      rw [hv2, hv, ← List.append_assoc d p, g2, g3]
      rfl
theorem sync_facts (d p : Tx) (c : Int) (hd : d.length ≤ 4000) (hp : p.length ≤ 4000) : ∃ (d2 p2 : Tx) (c2 : Int) (q : Bool), syncT d p c = .tup [.agg [.str d2, .str p2, .int .i64 c2], .c (.bool q)] ∧ d2.length ≤ 8000 ∧ p2.length ≤ 8000 ∧ (q = true → recsV d2 p2 c2 = recsV d p c) := by
  unfold syncT
  cases hv : validS d p c with
  | false => exact ⟨_, _, _, _, rfl, by simp, by simp, fun h => by cases h⟩
  | true =>
    refine ⟨_, _, _, _, rfl, by simp; omega, by simp, fun _ => ?_⟩
    obtain ⟨h1, h2, h3, h4⟩ := valid_facts hv
    have hv2 : validS (d ++ p) [] c = true := by
      have := valid_of (d := d ++ p) (p := []) (by simp; omega) (by rw [List.append_nil]; exact h2) h2
      rwa [List.append_nil, h4] at this
    unfold recsV
    rw [hv2, hv, List.append_nil]
end Go.Proofs.YtahfeigilhjgpaaDoor.AM
