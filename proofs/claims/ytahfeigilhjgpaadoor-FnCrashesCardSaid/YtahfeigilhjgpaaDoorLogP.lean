import Derived.Test.YtahfeigilhjgpaaDoorLogDefs
/- Logs: more plain laws: parts of texts, records appended, what survives a crash; no program in sight. -/
namespace Go.Proofs.YtahfeigilhjgpaaDoor.AM
open Go
set_option maxRecDepth 1000000
set_option linter.unusedSimpArgs false
set_option linter.unusedVariables false
/-- a text that goes on: where the first part's lines end within it, all is alike -/
theorem pre_at {s t : Tx} {K : Nat} (h : ∀ j, j < K → okT s j = true) : ∀ j, j ≤ K → atT (s ++ t) j = atT s j ∧ recsT (s ++ t) j = recsT s j ∧ ∀ i, i < j → okT (s ++ t) i = true
  | 0, _ => ⟨rfl, rfl, fun i hi => absurd hi (by omega)⟩
  | j + 1, hj => by
    obtain ⟨h1, h2, h3⟩ := pre_at h j (by omega)
    have hok := h j (by omega)
    have hle := at_le fun i (hi : i < j) => h i (by omega)
    have hok2 := hok
    unfold okT at hok2
    simp only [Bool.and_eq_true] at hok2
    have hdr : (s ++ t).drop (atT s j) = s.drop (atT s j) ++ t := List.drop_append_of_le_length hle
    have hline : lineAt (s ++ t) (atT (s ++ t) j) = lineAt s (atT s j) := by
      unfold lineAt
      rw [h1, hdr, before_left 10 _ _ hok2.1.2]
    have hokj : okT (s ++ t) j = true := by
      unfold okT
      rw [hline, h1, hdr, has_app, hok2.1.2, hok2.1.1, hok2.2]
      rfl
    refine ⟨?_, ?_, fun i hi => ?_⟩
    · show atT (s ++ t) j + (lineAt (s ++ t) (atT (s ++ t) j)).length + 1 = atT s j + (lineAt s (atT s j)).length + 1
      rw [hline, h1]
    · show recsT (s ++ t) j ++ [(decS j (lineAt (s ++ t) (atT (s ++ t) j))).1] = recsT s j ++ [(decS j (lineAt s (atT s j))).1]
      rw [hline, h2]
    · by_cases hij : i = j
      · subst hij; exact hokj
      · exact h3 i (by omega)
theorem cnt_ge {s : Tx} {K : Nat} (h : ∀ i, i < K → okT s i = true) : K ≤ cntT s := by
  apply Classical.byContradiction
  intro hn
  have := h (cntT s) (by omega)
  rw [cntT_end] at this
  cases this
theorem at_mono (s : Tx) : ∀ (d k : Nat), atT s k ≤ atT s (k + d)
  | 0, k => Nat.le_refl _
  | d + 1, k => by
    have h1 := at_mono s d k
    have h2 : atT s (k + (d + 1)) = atT s (k + d) + (lineAt s (atT s (k + d))).length + 1 := rfl
    omega
theorem pre_end (d t : Tx) : endT d ≤ endT (d ++ t) ∧ cntT d ≤ cntT (d ++ t) := by
  obtain ⟨h1, _, h3⟩ := pre_at (t := t) (cntT_ok d) (cntT d) (Nat.le_refl _)
  have hc := cnt_ge h3
  refine ⟨?_, hc⟩
  unfold endT
  rw [← h1]
  have := at_mono (d ++ t) (cntT (d ++ t) - cntT d) (cntT d)
  rwa [show cntT d + (cntT (d ++ t) - cntT d) = cntT (d ++ t) by omega] at this
theorem recs_pre (s : Tx) : ∀ (d k : Nat), (recsT s (k + d)).take k = recsT s k
  | 0, k => by rw [Nat.add_zero, List.take_of_length_le (by rw [recsT_len]; exact Nat.le_refl _)]
  | d + 1, k => by
    have h1 := recs_pre s d k
    have h2 : recsT s (k + (d + 1)) = recsT s (k + d) ++ [(decS (k + d) (lineAt s (atT s (k + d)))).1] := rfl
    rw [h2, List.take_append_of_le_length (by rw [recsT_len]; omega), h1]
/-- what lies in front of a text up to the end of its records reads alike -/
theorem own_part (s : Tx) : endT (s.take (endT s)) = endT s ∧ cntT (s.take (endT s)) = cntT s ∧ recsT (s.take (endT s)) (cntT s) = recsT s (cntT s) := by
  have hle := endT_le s
  have key : ∀ j, j ≤ cntT s → atT (s.take (endT s)) j = atT s j ∧ recsT (s.take (endT s)) j = recsT s j ∧ ∀ i, i < j → okT (s.take (endT s)) i = true := by
    intro j
    induction j with
    | zero => intro _; exact ⟨rfl, rfl, fun i hi => absurd hi (by omega)⟩
    | succ j ih =>
      intro hj
      obtain ⟨h1, h2, h3⟩ := ih (by omega)
      have hok := cntT_ok s j (by omega)
      have hok2 := hok
      unfold okT at hok2
      simp only [Bool.and_eq_true] at hok2
      have hnext : atT s (j + 1) ≤ endT s := by
        unfold endT
        have := at_mono s (cntT s - (j + 1)) (j + 1)
        rwa [show j + 1 + (cntT s - (j + 1)) = cntT s by omega] at this
      have hst : atT s (j + 1) = atT s j + (before 10 (s.drop (atT s j))).length + 1 := rfl
      have hx := before_has 10 _ hok2.1.2
      have hdr : (s.take (endT s)).drop (atT s j) = before 10 (s.drop (atT s j)) ++ 10 :: ((s.drop (atT s j)).drop ((before 10 (s.drop (atT s j))).length + 1)).take (endT s - atT s j - ((before 10 (s.drop (atT s j))).length + 1)) := by
        rw [List.drop_take]
        generalize hb : before 10 (s.drop (atT s j)) = b at *
        generalize hr : (s.drop (atT s j)).drop (b.length + 1) = r at *
        rw [hx, List.take_append, List.take_of_length_le (by omega)]
        congr 1
        rw [show endT s - atT s j - b.length = (endT s - atT s j - (b.length + 1)) + 1 by omega, List.take_succ_cons]
      have hhas : has 10 ((s.take (endT s)).drop (atT s j)) = true := by rw [hdr, has_app, has_cons]; simp
      have hbef : before 10 ((s.take (endT s)).drop (atT s j)) = before 10 (s.drop (atT s j)) := by
        rw [hdr]
        exact before_app 10 _ _ (before_no 10 _)
      have hline : lineAt (s.take (endT s)) (atT (s.take (endT s)) j) = lineAt s (atT s j) := by
        unfold lineAt
        rw [h1, hbef]
      have hokj : okT (s.take (endT s)) j = true := by
        unfold okT
        rw [hline, h1, hhas, hok2.1.1, hok2.2]
        rfl
      refine ⟨?_, ?_, fun i hi => ?_⟩
      · show atT (s.take (endT s)) j + (lineAt (s.take (endT s)) (atT (s.take (endT s)) j)).length + 1 = atT s j + (lineAt s (atT s j)).length + 1
        rw [hline, h1]
      · show recsT (s.take (endT s)) j ++ [(decS j (lineAt (s.take (endT s)) (atT (s.take (endT s)) j))).1] = recsT s j ++ [(decS j (lineAt s (atT s j))).1]
        rw [hline, h2]
      · by_cases hij : i = j
        · subst hij; exact hokj
        · exact h3 i (by omega)
  obtain ⟨h1, h2, h3⟩ := key _ (Nat.le_refl _)
  have hend : okT (s.take (endT s)) (cntT s) = false := okT_end (by
    rw [h1, List.length_take]
    have : atT s (cntT s) = endT s := rfl
    omega)
  have hc := cntT_is hend h3
  refine ⟨?_, hc, h2⟩
  show atT (s.take (endT s)) (cntT (s.take (endT s))) = endT s
  rw [hc, h1]
  rfl
/-- a record more behind a text of records alone -/
theorem app_record {s : Tx} {a b : Tx} (hend : endT s = s.length) (hk : cntT s < 60) (hr : recB a b = true) : endT (s ++ (lineT (cntT s) a b ++ [10])) = (s ++ (lineT (cntT s) a b ++ [10])).length ∧ cntT (s ++ (lineT (cntT s) a b ++ [10])) = cntT s + 1 ∧ recsT (s ++ (lineT (cntT s) a b ++ [10])) (cntT s + 1) = recsT s (cntT s) ++ [(a, b)] := by
  obtain ⟨h1, h2, h3⟩ := pre_at (t := lineT (cntT s) a b ++ [10]) (cntT_ok s) (cntT s) (Nat.le_refl _)
  have hat : atT (s ++ (lineT (cntT s) a b ++ [10])) (cntT s) = s.length := by rw [h1]; exact hend
  have hno := lineT_no (k := cntT s) hr
  have hdr : (s ++ (lineT (cntT s) a b ++ [10])).drop s.length = lineT (cntT s) a b ++ [10] := List.drop_left
  have hline : lineAt (s ++ (lineT (cntT s) a b ++ [10])) (atT (s ++ (lineT (cntT s) a b ++ [10])) (cntT s)) = lineT (cntT s) a b := by
    unfold lineAt
    rw [hat, hdr]
    exact before_app 10 _ _ hno
  have hdec : decS (cntT s) (lineT (cntT s) a b) = ((a, b), true) := by
    obtain ⟨e1, e2⟩ := verT_line hk hr
    obtain ⟨p1, p2⟩ := ahead_pre (cntT s) a b
    have h64 : has 64 (a ++ 64 :: b) = true := by rw [has_app, has_cons]; simp
    have hb64 : before 64 (a ++ 64 :: b) = a := before_app 64 a b (recB_no hr).2.1
    have hd : (a ++ 64 :: b).drop (a.length + 1) = b := by
      rw [List.drop_append]
      simp
    unfold decS
    rw [e2, if_pos p1]
    simp only [p2]
    rw [if_pos h64, hb64, hd, hr]
    simp
  have hhas : has 10 (lineT (cntT s) a b ++ [10]) = true := by rw [has_app]; simp [has]
  have hok : okT (s ++ (lineT (cntT s) a b ++ [10])) (cntT s) = true := by
    unfold okT
    rw [hline, hat, hdr, hhas, hdec, decide_eq_true hk]
    rfl
  have hnext : atT (s ++ (lineT (cntT s) a b ++ [10])) (cntT s + 1) = (s ++ (lineT (cntT s) a b ++ [10])).length := by
    show atT (s ++ (lineT (cntT s) a b ++ [10])) (cntT s) + (lineAt (s ++ (lineT (cntT s) a b ++ [10])) (atT (s ++ (lineT (cntT s) a b ++ [10])) (cntT s))).length + 1 = _
    rw [hline, hat]
    simp
    omega
  have hall : ∀ i, i < cntT s + 1 → okT (s ++ (lineT (cntT s) a b ++ [10])) i = true := fun i hi => by
    by_cases hij : i = cntT s
    · subst hij; exact hok
    · exact h3 i (by omega)
  have hc : cntT (s ++ (lineT (cntT s) a b ++ [10])) = cntT s + 1 := cntT_is (okT_end (by rw [hnext]; exact Nat.le_refl _)) hall
  refine ⟨?_, hc, ?_⟩
  · unfold endT
    rw [hc, hnext]
  · show recsT (s ++ (lineT (cntT s) a b ++ [10])) (cntT s) ++ [(decS (cntT s) (lineAt (s ++ (lineT (cntT s) a b ++ [10])) (atT (s ++ (lineT (cntT s) a b ++ [10])) (cntT s)))).1] = _
    rw [hline, hdec, h2]
/-- no record is long -/
theorem at_bound (s : Tx) : ∀ k, (∀ j, j < k → okT s j = true) → atT s k ≤ 425 * k
  | 0, _ => Nat.le_refl _
  | k + 1, h => by
    have ih := at_bound s k fun j hj => h j (by omega)
    have hok := h k (by omega)
    unfold okT at hok
    simp only [Bool.and_eq_true, decide_eq_true_eq] at hok
    have hd := hok.2
    have hst : atT s (k + 1) = atT s k + (lineAt s (atT s k)).length + 1 := rfl
    have hl : (lineAt s (atT s k)).length ≤ 421 := by
      generalize lineAt s (atT s k) = l at *
      unfold decS at hd
      split at hd
      · simp only at hd
        split at hd
        · simp only [Bool.and_eq_true, beq_iff_eq] at hd
          obtain ⟨hr, hl⟩ := hd
          obtain ⟨_, _, _, _, _, la, lb⟩ := recB_no hr
          have h1 := textT_len k hok.1.1 (before 64 ((before 35 l).drop (ahead k).length)) (((before 35 l).drop (ahead k).length).drop ((before 64 ((before 35 l).drop (ahead k).length)).length + 1))
          have h2 := (sealT_len (textT k (before 64 ((before 35 l).drop (ahead k).length)) (((before 35 l).drop (ahead k).length).drop ((before 64 ((before 35 l).drop (ahead k).length)).length + 1)))).1
          have h3 := congrArg List.length hl
          unfold lineT at h3
          omega
        · cases hd
      · cases hd
    omega
theorem end_bound (s : Tx) : endT s ≤ 425 * cntT s := at_bound s _ (cntT_ok s)
/-! ### bytes of records -/
theorem num_ascii (n : Nat) (x : UInt8) (h : x ∈ num n) : x.toNat ≤ 126 := by
  have := num_digit n x h
  omega
theorem plain_ascii {s : Tx} (h : plainT s = true) (x : UInt8) (hx : x ∈ s) : x.toNat ≤ 126 := by
  unfold plainT at h
  rw [Bool.and_eq_true] at h
  have := List.all_eq_true.1 h.1 x hx
  unfold p32 at this
  simp at this
  exact this.2
theorem line_ascii {k : Nat} {a b : Tx} (h : recB a b = true) (x : UInt8) (hx : x ∈ lineT k a b) : x.toNat ≤ 126 := by
  unfold recB cmdB at h
  simp only [Bool.and_eq_true] at h
  obtain ⟨⟨⟨⟨_, h1⟩, _⟩, _⟩, h2⟩ := h
  unfold lineT sealT textT at hx
  simp only [List.mem_append, List.mem_cons] at hx
  rcases hx with (hx | hx | hx | hx | hx) | hx | hx
  · exact num_ascii _ _ hx
  · subst hx; decide
  · exact plain_ascii h1 x hx
  · subst hx; decide
  · exact plain_ascii h2 x hx
  · subst hx; decide
  · exact num_ascii _ _ hx
theorem dec_line {k : Nat} {l : Tx} (h : (decS k l).2 = true) : ∃ a b, recB a b = true ∧ lineT k a b = l := by
  unfold decS at h
  split at h
  · simp only at h
    split at h
    · simp only [Bool.and_eq_true, beq_iff_eq] at h
      exact ⟨_, _, h.1, h.2⟩
    · cases h
  · cases h
theorem ascii_at (s : Tx) : ∀ k, (∀ j, j < k → okT s j = true) → ∀ x ∈ s.take (atT s k), x.toNat ≤ 126
  | 0, _, x, hx => by
    have : atT s 0 = 0 := rfl
    rw [this] at hx
    simp at hx
  | k + 1, h, x, hx => by
    have ih := ascii_at s k fun j hj => h j (by omega)
    have hok := h k (by omega)
    unfold okT at hok
    simp only [Bool.and_eq_true] at hok
    obtain ⟨a, b, hr, hl⟩ := dec_line hok.2
    have hst : atT s (k + 1) = atT s k + ((lineAt s (atT s k)).length + 1) := rfl
    rw [hst, List.take_add] at hx
    rcases List.mem_append.1 hx with hx | hx
    · exact ih x hx
    · have e := before_has 10 _ hok.1.2
      have hx2 : x ∈ lineAt s (atT s k) ++ [10] := by
        have e2 : (s.drop (atT s k)).take ((lineAt s (atT s k)).length + 1) = lineAt s (atT s k) ++ [10] := by
          unfold lineAt
          generalize before 10 (s.drop (atT s k)) = bf at e ⊢
          generalize (s.drop (atT s k)).drop (bf.length + 1) = r at e
          rw [e, List.take_append, List.take_of_length_le (by omega), show bf.length + 1 - bf.length = 0 + 1 by omega, List.take_succ_cons]
          rfl
        rwa [e2] at hx
      rcases List.mem_append.1 hx2 with hx | hx
      · rw [← hl] at hx
        exact line_ascii hr x hx
      · have : x = 10 := by simpa using hx
        subst this
        decide
theorem ascii_all {s : Tx} (h : endT s = s.length) (x : UInt8) (hx : x ∈ s) : x.toNat ≤ 126 := by
  refine ascii_at s _ (cntT_ok s) x ?_
  have : atT s (cntT s) = s.length := h
  rw [this, List.take_length]
  exact hx
theorem valid_facts {d p : Tx} {c : Int} (h : validS d p c = true) : d.length + p.length ≤ 30000 ∧ endT (d ++ p) = (d ++ p).length ∧ endT d = d.length ∧ (cntT (d ++ p) : Int) = c := by
  unfold validS at h
  simp only [Bool.and_eq_true, decide_eq_true_eq] at h
  obtain ⟨h1, ⟨h2, h3⟩, h4⟩ := h
  exact ⟨by omega, by rw [h2]; simp, h3, h4⟩
theorem valid_of {d p : Tx} (h1 : d.length + p.length ≤ 30000) (h2 : endT (d ++ p) = (d ++ p).length) (h3 : endT d = d.length) : validS d p (cntT (d ++ p)) = true := by
  unfold validS
  rw [h2, h3]
  simp
  omega
/-- the records of a part of a text of records -/
theorem part_recs {s all : Tx} (h : ∃ t, all = s.take (endT s) ++ t) : cntT s ≤ cntT all ∧ (recsT all (cntT all)).take (cntT s) = recsT s (cntT s) := by
  obtain ⟨t, rfl⟩ := h
  obtain ⟨e1, e2, e3⟩ := own_part s
  obtain ⟨h1, h2, h3⟩ := pre_at (t := t) (cntT_ok (s.take (endT s))) (cntT (s.take (endT s))) (Nat.le_refl _)
  have hc := cnt_ge h3
  rw [e2] at hc h2
  refine ⟨hc, ?_⟩
  have := recs_pre (s.take (endT s) ++ t) (cntT (s.take (endT s) ++ t) - cntT s) (cntT s)
  rw [show cntT s + (cntT (s.take (endT s) ++ t) - cntT s) = cntT (s.take (endT s) ++ t) by omega] at this
  rw [this, h2, e3]
end Go.Proofs.YtahfeigilhjgpaaDoor.AM
