import Derived.Test.YtahfeigilhjgpaaDoorRec
import Derived.Lib.ItoaNum
import Derived.Lib.Strings
/- Logs: definitions and plain laws; no program in sight. -/
namespace Go.Proofs.YtahfeigilhjgpaaDoor.AM
open Go
set_option maxRecDepth 1000000
set_option linter.unusedSimpArgs false
set_option linter.unusedVariables false
abbrev Tx := List UInt8
def num (k : Nat) : Tx := Lib.decDigits k
def sumT (s : Tx) : Nat := s.foldl (fun h c => (41 * h + c.toNat + 1) % 999979) 7
def sealT (s : Tx) : Tx := s ++ 35 :: num (sumT s)
def textT (k : Nat) (a b : Tx) : Tx := num k ++ 32 :: (a ++ 64 :: b)
def lineT (k : Nat) (a b : Tx) : Tx := sealT (textT k a b)
def before (c : UInt8) (s : Tx) : Tx := s.takeWhile fun b => b != c
def has (c : UInt8) (s : Tx) : Bool := s.any fun b => b == c
/-! ### texts -/
theorem has_nil (c : UInt8) : has c [] = false := rfl
theorem before_has (c : UInt8) : ∀ s : Tx, has c s = true → s = before c s ++ c :: s.drop ((before c s).length + 1)
  | [], h => by cases h
  | b :: s, h => by
    unfold before
    by_cases hb : b = c
    · subst hb; simp
    · have hb' : (b != c) = true := by simpa using hb
      have h' : has c s = true := by
        unfold has at h ⊢
        rw [List.any_cons] at h
        have : (b == c) = false := by simpa using hb
        rwa [this, Bool.false_or] at h
      have ih := before_has c s h'
      rw [List.takeWhile_cons, hb']
      simp only [if_true, List.length_cons, List.cons_append, List.drop_succ_cons]
      exact congrArg (b :: ·) ih
theorem before_none (c : UInt8) : ∀ s : Tx, has c s = false → before c s = s
  | [], _ => rfl
  | b :: s, h => by
    unfold has at h
    rw [List.any_cons, Bool.or_eq_false_iff] at h
    have ih := before_none c s h.2
    unfold before at ih ⊢
    have : (b != c) = true := by simpa using h.1
    rw [List.takeWhile_cons, this, if_pos rfl, ih]
theorem before_le (c : UInt8) (s : Tx) : (before c s).length ≤ s.length := by
  unfold before
  exact (List.takeWhile_sublist _).length_le
theorem before_lt {c : UInt8} {s : Tx} (h : has c s = true) : (before c s).length < s.length := by
  have := congrArg List.length (before_has c s h)
  simp at this
  omega
theorem has_iff (c : UInt8) (s : Tx) : has c s = decide ((before c s).length < s.length) := by
  cases h : has c s with
  | true => simp [before_lt h]
  | false => rw [before_none c s h]; simp
theorem before_app (c : UInt8) : ∀ (s t : Tx), has c s = false → before c (s ++ c :: t) = s
  | [], t, _ => by simp [before]
  | b :: s, t, h => by
    unfold has at h
    rw [List.any_cons, Bool.or_eq_false_iff] at h
    have ih := before_app c s t h.2
    unfold before at ih ⊢
    have : (b != c) = true := by simpa using h.1
    rw [List.cons_append, List.takeWhile_cons, this, if_pos rfl, ih]
theorem before_left (c : UInt8) : ∀ (s t : Tx), has c s = true → before c (s ++ t) = before c s
  | [], t, h => by cases h
  | b :: s, t, h => by
    unfold before
    by_cases hb : b = c
    · subst hb; simp
    · have hb' : (b != c) = true := by simpa using hb
      have h' : has c s = true := by
        unfold has at h ⊢
        rw [List.any_cons] at h
        have : (b == c) = false := by simpa using hb
        rwa [this, Bool.false_or] at h
      have ih := before_left c s t h'
      unfold before at ih
      rw [List.cons_append, List.takeWhile_cons, List.takeWhile_cons, hb', if_pos rfl, if_pos rfl, ih]
theorem has_app (c : UInt8) (s t : Tx) : has c (s ++ t) = (has c s || has c t) := by unfold has; exact List.any_append
theorem has_cons (c b : UInt8) (s : Tx) : has c (b :: s) = (b == c || has c s) := rfl
theorem before_no (c : UInt8) : ∀ s : Tx, has c (before c s) = false
  | [] => rfl
  | b :: s => by
    have ih := before_no c s
    unfold before at ih ⊢
    by_cases hb : b = c
    · subst hb; simp [has]
    · have hb' : (b != c) = true := by simpa using hb
      have hb2 : (b == c) = false := by simpa using hb
      rw [List.takeWhile_cons, hb', if_pos rfl, has_cons, hb2, ih]
      rfl
theorem has_of_end {c : UInt8} {s : Tx} (h : ([c] : Tx).isSuffixOf s = true) : has c s = true := by
  obtain ⟨t, rfl⟩ := List.isSuffixOf_iff_suffix.1 h
  rw [has_app]
  simp [has]
/-! ### digits -/
theorem num_digit : ∀ (n : Nat) (x : UInt8), x ∈ num n → 48 ≤ x.toNat ∧ x.toNat ≤ 57 := by
  intro n
  induction n using Nat.strongRecOn with
  | ind n ih =>
    intro x hx
    unfold num at hx
    rw [Lib.decDigits] at hx
    by_cases h : n < 10
    · rw [dif_pos h] at hx
      rcases List.mem_singleton.1 hx with rfl
      have : (UInt8.ofNat (48 + n)).toNat = (48 + n) % 256 := rfl
      omega
    · rw [dif_neg h] at hx
      rcases List.mem_append.1 hx with hx | hx
      · exact ih (n / 10) (by omega) x hx
      · rcases List.mem_singleton.1 hx with rfl
        have : (UInt8.ofNat (48 + n % 10)).toNat = (48 + n % 10) % 256 := rfl
        omega
theorem num_has {c : UInt8} (hc : c.toNat < 48) (n : Nat) : has c (num n) = false := by
  unfold has
  rw [List.any_eq_false]
  intro x hx
  have := num_digit n x hx
  intro h
  have h : x = c := by simpa using h
  subst h
  omega
theorem num_len : ∀ (d n : Nat), n < 10 ^ (d + 1) → (num n).length ≤ d + 1
  | 0, n, h => by
    unfold num
    rw [Lib.decDigits, dif_pos (by omega)]
    simp
  | d + 1, n, h => by
    unfold num
    rw [Lib.decDigits]
    split
    · simp
    · have := num_len d (n / 10) (by rw [Nat.pow_succ] at h; omega)
      unfold num at this
      simp
      omega
theorem num_pos (n : Nat) : 1 ≤ (num n).length := by
  unfold num
  rw [Lib.decDigits]
  split <;> simp
theorem sum_lt : ∀ (s : Tx) (h : Nat), h < 999979 → s.foldl (fun h c => (41 * h + c.toNat + 1) % 999979) h < 999979
  | [], h, hh => hh
  | c :: s, h, hh => sum_lt s _ (Nat.mod_lt _ (by decide))
theorem sumT_lt (s : Tx) : sumT s < 999979 := sum_lt s 7 (by decide)
theorem sealT_len (s : Tx) : (sealT s).length ≤ s.length + 7 ∧ s.length + 2 ≤ (sealT s).length := by
  have h1 := num_len 5 (sumT s) (by have := sumT_lt s; omega)
  have h2 := num_pos (sumT s)
  unfold sealT
  simp
  omega
theorem textT_len (k : Nat) (hk : k < 60) (a b : Tx) : (textT k a b).length ≤ a.length + b.length + 4 := by
  have h1 := num_len 1 k (by omega)
  unfold textT
  simp
  omega
theorem plain_no {s : Tx} (h : plainT s = true) : has 35 s = false ∧ has 10 s = false := by
  unfold plainT at h
  rw [Bool.and_eq_true] at h
  refine ⟨by simpa [has] using h.2, ?_⟩
  unfold has
  rw [List.any_eq_false]
  intro x hx
  have := List.all_eq_true.1 h.1 x hx
  unfold p32 at this
  simp at this
  intro he
  have he : x = 10 := by simpa using he
  subst he
  exact absurd this.1 (by decide)
theorem recB_no {a b : Tx} (h : recB a b = true) : has 35 a = false ∧ has 64 a = false ∧ has 35 b = false ∧ has 10 a = false ∧ has 10 b = false ∧ a.length ≤ 160 ∧ b.length ≤ 250 := by
  unfold recB cmdB at h
  simp only [Bool.and_eq_true, decide_eq_true_eq] at h
  obtain ⟨⟨⟨⟨⟨h1, h2⟩, h3⟩, h4⟩, h5⟩, h6⟩ := h
  have p3 := plain_no h3
  have p6 := plain_no h6
  exact ⟨p3.1, by simpa [has] using h4, p6.1, p3.2, p6.2, by omega, by omega⟩
theorem textT_no {k : Nat} {a b : Tx} (h : recB a b = true) : has 35 (textT k a b) = false ∧ has 10 (textT k a b) = false := by
  obtain ⟨h1, h2, h3, h4, h5, _⟩ := recB_no h
  unfold textT
  simp [has_app, has_cons, h1, h3, h4, h5, num_has (c := 35) (by decide) k, num_has (c := 10) (by decide) k]
theorem lineT_no {k : Nat} {a b : Tx} (h : recB a b = true) : has 10 (lineT k a b) = false := by
  unfold lineT sealT
  simp [has_app, has_cons, (textT_no h).2, num_has (c := 10) (by decide)]
/-! ### a line -/
def ahead (k : Nat) : Tx := num k ++ [32]
/-- the reference: a line is decoded -/
def decS (k : Nat) (s : Tx) : (Tx × Tx) × Bool :=
  if (ahead k).isPrefixOf (before 35 s) = true then
    let rest := (before 35 s).drop (ahead k).length
    if has 64 rest = true then
      ((before 64 rest, rest.drop ((before 64 rest).length + 1)), recB (before 64 rest) (rest.drop ((before 64 rest).length + 1)) && (lineT k (before 64 rest) (rest.drop ((before 64 rest).length + 1)) == s))
    else (([], []), false)
  else (([], []), false)
/-- the program: the text ahead of a checksum that fits -/
def verT (s : Tx) : Tx := if (decide ((before 35 s).length ≤ 4000) && decide ((sealT (before 35 s)).length ≤ 4000) && (sealT (before 35 s) == s)) = true then before 35 s else []
def decI (k : Nat) (s : Tx) : (Tx × Tx) × Bool :=
  let own := verT s
  let rest := Lib.trimPrefix own (ahead k)
  let a := before 64 rest
  let b := rest.drop (a.length + 1)
  ((a, b), (ahead k).isPrefixOf own && has 64 rest && recB a b && (lineT k a b == s))
theorem ahead_pre (k : Nat) (a b : Tx) : (ahead k).isPrefixOf (textT k a b) = true ∧ (textT k a b).drop (ahead k).length = a ++ 64 :: b := by
  have e : textT k a b = ahead k ++ (a ++ 64 :: b) := by unfold textT ahead; simp
  rw [e]
  exact ⟨List.isPrefixOf_iff_prefix.2 ⟨_, rfl⟩, List.drop_left⟩
theorem verT_nil (k : Nat) (s : Tx) (h : (ahead k).isPrefixOf (verT s) = true) : verT s = before 35 s := by
  unfold verT at h ⊢
  split
  · rfl
  · rename_i hn
    rw [if_neg hn] at h
    obtain ⟨t, ht⟩ := List.isPrefixOf_iff_prefix.1 h
    unfold ahead at ht
    simp at ht
theorem verT_line {k : Nat} (hk : k < 60) {a b : Tx} (h : recB a b = true) : verT (lineT k a b) = textT k a b ∧ before 35 (lineT k a b) = textT k a b := by
  have e : before 35 (lineT k a b) = textT k a b := by
    unfold lineT sealT
    exact before_app 35 _ _ (textT_no h).1
  refine ⟨?_, e⟩
  obtain ⟨_, _, _, _, _, la, lb⟩ := recB_no h
  have l1 := textT_len k hk a b
  have l2 := (sealT_len (textT k a b)).1
  unfold verT
  rw [e]
  rw [if_pos]
  simp only [Bool.and_eq_true, decide_eq_true_eq, beq_iff_eq]
  exact ⟨⟨by omega, by omega⟩, rfl⟩
/-- both decode a line alike -/
theorem dec_eq {k : Nat} (hk : k < 60) (s : Tx) : (decI k s).2 = (decS k s).2 ∧ ((decS k s).2 = true → (decI k s).1 = (decS k s).1) := by
  have key : ∀ rest : Tx, has 64 rest = true → before 64 rest ++ 64 :: rest.drop ((before 64 rest).length + 1) = rest := fun rest h => (before_has 64 rest h).symm
  have hS : (decS k s).2 = true → recB (decS k s).1.1 (decS k s).1.2 = true ∧ lineT k (decS k s).1.1 (decS k s).1.2 = s := by
    unfold decS
    split
    · simp only
      split
      · intro h
        simpa using h
      · intro h; cases h
    · intro h; cases h
  have hI : (decI k s).2 = true → recB (decI k s).1.1 (decI k s).1.2 = true ∧ lineT k (decI k s).1.1 (decI k s).1.2 = s := by
    unfold decI
    intro h
    simp only [Bool.and_eq_true, beq_iff_eq] at h
    exact ⟨h.1.2, h.2⟩
  have line : ∀ a b, recB a b = true → lineT k a b = s → decS k s = ((a, b), true) ∧ decI k s = ((a, b), true) := by
    intro a b hr hl
    subst hl
    obtain ⟨e1, e2⟩ := verT_line hk hr
    obtain ⟨p1, p2⟩ := ahead_pre k a b
    have h64 : has 64 (a ++ 64 :: b) = true := by rw [has_app, has_cons]; simp
    have hb64 : before 64 (a ++ 64 :: b) = a := before_app 64 a b (recB_no hr).2.1
    have hd : (a ++ 64 :: b).drop (a.length + 1) = b := by
      rw [List.drop_append]
      simp
    constructor
    · unfold decS
      rw [e2, if_pos p1]
      simp only [p2]
      rw [if_pos h64, hb64, hd, hr]
      simp
    · unfold decI
      have ht : Lib.trimPrefix (textT k a b) (ahead k) = a ++ 64 :: b := by
        unfold Lib.trimPrefix
        rw [if_pos (show Lib.hasPrefix (textT k a b) (ahead k) = true from p1)]
        exact p2
      rw [e1]
      simp only [ht, hb64, hd, hr, h64, p1]
      simp
  cases h1 : (decS k s).2 with
  | true =>
    obtain ⟨ha, hb⟩ := hS h1
    obtain ⟨_, l2⟩ := line _ _ ha hb
    rw [l2]
    exact ⟨rfl, fun _ => rfl⟩
  | false =>
    cases h2 : (decI k s).2 with
    | false => exact ⟨rfl, fun h => by cases h⟩
    | true =>
      obtain ⟨ha, hb⟩ := hI h2
      obtain ⟨l1, _⟩ := line _ _ ha hb
      rw [l1] at h1
      cases h1
/-! ### the records of a text -/
def lineAt (s : Tx) (at_ : Nat) : Tx := before 10 (s.drop at_)
def atT (s : Tx) : Nat → Nat
  | 0 => 0
  | k + 1 => atT s k + (lineAt s (atT s k)).length + 1
def okT (s : Tx) (k : Nat) : Bool := decide (k < 60) && has 10 (s.drop (atT s k)) && (decS k (lineAt s (atT s k))).2
def recsT (s : Tx) : Nat → List (Tx × Tx)
  | 0 => []
  | k + 1 => recsT s k ++ [(decS k (lineAt s (atT s k))).1]
theorem recsT_len (s : Tx) : ∀ k, (recsT s k).length = k
  | 0 => rfl
  | k + 1 => by simp [recsT, recsT_len s k]
theorem at_step {s : Tx} {k : Nat} (h : okT s k = true) : atT s (k + 1) ≤ s.length := by
  unfold okT at h
  simp only [Bool.and_eq_true] at h
  have := before_lt h.1.2
  simp at this
  unfold atT lineAt
  omega
theorem at_le {s : Tx} : ∀ {k : Nat}, (∀ j, j < k → okT s j = true) → atT s k ≤ s.length
  | 0, _ => Nat.zero_le _
  | k + 1, h => at_step (h k (by omega))
/-- how many records lie in front of a text -/
theorem open_ex (s : Tx) : ∃ K, K ≤ 60 ∧ okT s K = false ∧ ∀ j, j < K → okT s j = true := by
  obtain ⟨K, h1, h2, h3⟩ := first_exit (fun k => !okT s k) 60
  refine ⟨K, h1, ?_, fun j hj => by simpa using h3 j hj⟩
  rcases h2 with rfl | h2
  · simp [okT]
  · simpa using h2
noncomputable def cntT (s : Tx) : Nat := (open_ex s).choose
theorem cntT_le (s : Tx) : cntT s ≤ 60 := (open_ex s).choose_spec.1
theorem cntT_end (s : Tx) : okT s (cntT s) = false := (open_ex s).choose_spec.2.1
theorem cntT_ok (s : Tx) : ∀ j, j < cntT s → okT s j = true := (open_ex s).choose_spec.2.2
noncomputable def endT (s : Tx) : Nat := atT s (cntT s)
theorem endT_le (s : Tx) : endT s ≤ s.length := at_le (cntT_ok s)
theorem cntT_is {s : Tx} {K : Nat} (h1 : okT s K = false) (h2 : ∀ j, j < K → okT s j = true) : cntT s = K := by
  rcases Nat.lt_trichotomy (cntT s) K with h | h | h
  · have := h2 _ h; rw [cntT_end] at this; cases this
  · exact h
  · have := cntT_ok s K h; rw [h1] at this; cases this
theorem okT_end {s : Tx} {k : Nat} (h : s.length ≤ atT s k) : okT s k = false := by
  unfold okT
  rw [List.drop_eq_nil_of_le h]
  simp [has]
/-- the durable part: it ends at the end of a record where it ends with a newline -/
theorem kept_of_end {d p : Tx} (hall : endT (d ++ p) = (d ++ p).length) (hd : d = [] ∨ ([10] : Tx).isSuffixOf d = true) : endT d = d.length := by
  have key : ∀ i, i ≤ cntT (d ++ p) → (atT (d ++ p) i ≤ d.length ∧ atT d i = atT (d ++ p) i ∧ ∀ j, j < i → okT d j = true) ∨ endT d = d.length := by
    intro i
    induction i with
    | zero => intro _; exact .inl ⟨Nat.zero_le _, rfl, fun j hj => absurd hj (by omega)⟩
    | succ i ih =>
      intro hi
      rcases ih (by omega) with ⟨h1, h2, h3⟩ | h
      · by_cases he : atT (d ++ p) i = d.length
        · right
          have hk : okT d i = false := okT_end (by omega)
          unfold endT
          rw [cntT_is hk h3]
          omega
        · left
          have hlt : atT (d ++ p) i < d.length := by omega
          have hsuf : ([10] : Tx).isSuffixOf d = true := hd.resolve_left (fun h => by subst h; simp at hlt)
          have hsd : has 10 (d.drop (atT (d ++ p) i)) = true := by
            apply has_of_end
            obtain ⟨t, ht⟩ := List.isSuffixOf_iff_suffix.1 hsuf
            apply List.isSuffixOf_iff_suffix.2
            have hl := congrArg List.length ht
            simp at hl
            refine ⟨t.drop (atT (d ++ p) i), ?_⟩
            have hl2 : t.length + 1 = d.length := by have := congrArg List.length ht; simpa using this
            have e := List.drop_append_of_le_length (l₁ := t) (l₂ := [10]) (i := atT (d ++ p) i) (by omega)
            rw [ht] at e
            exact e.symm
          have hdr : (d ++ p).drop (atT (d ++ p) i) = d.drop (atT (d ++ p) i) ++ p := List.drop_append_of_le_length (by omega)
          have hline : lineAt (d ++ p) (atT (d ++ p) i) = lineAt d (atT (d ++ p) i) := by
            unfold lineAt
            rw [hdr, before_left 10 _ _ hsd]
          have hok := cntT_ok (d ++ p) i (by omega)
          have hokd : okT d i = true := by
            unfold okT at hok ⊢
            rw [h2, ← hline, hsd]
            simp only [Bool.and_eq_true] at hok ⊢
            exact ⟨⟨hok.1.1, trivial⟩, hok.2⟩
          have hstep : atT d (i + 1) = atT (d ++ p) (i + 1) := by
            show atT d i + (lineAt d (atT d i)).length + 1 = atT (d ++ p) i + (lineAt (d ++ p) (atT (d ++ p) i)).length + 1
            rw [h2, hline]
          refine ⟨?_, hstep, fun j hj => ?_⟩
          · rw [← hstep]
            exact at_step hokd
          · by_cases hji : j = i
            · subst hji; exact hokd
            · exact h3 j (by omega)
      · exact .inr h
  rcases key _ (Nat.le_refl _) with ⟨h1, h2, h3⟩ | h
  · have : atT (d ++ p) (cntT (d ++ p)) = (d ++ p).length := hall
    simp at this
    have hp : d.length = atT (d ++ p) (cntT (d ++ p)) := by omega
    have hk : okT d (cntT (d ++ p)) = false := okT_end (by omega)
    unfold endT
    rw [cntT_is hk h3]
    omega
  · exact h
theorem end_of_kept {d : Tx} (h : endT d = d.length) : d = [] ∨ ([10] : Tx).isSuffixOf d = true := by
  cases hc : cntT d with
  | zero =>
    left
    unfold endT at h
    rw [hc] at h
    exact List.length_eq_zero_iff.1 h.symm
  | succ K =>
    right
    have hok := cntT_ok d K (by omega)
    unfold okT at hok
    simp only [Bool.and_eq_true] at hok
    have e := before_has 10 _ hok.1.2
    unfold endT at h
    rw [hc] at h
    have h : atT d K + (before 10 (d.drop (atT d K))).length + 1 = d.length := h
    have hd : (d.drop (atT d K)).drop ((before 10 (d.drop (atT d K))).length + 1) = [] := by
      apply List.drop_eq_nil_of_le
      simp
      omega
    rw [hd] at e
    apply List.isSuffixOf_iff_suffix.2
    refine ⟨d.take (atT d K) ++ before 10 (d.drop (atT d K)), ?_⟩
    rw [List.append_assoc, ← e, List.take_append_drop]
/-- a valid log -/
noncomputable def validS (d p : Tx) (c : Int) : Bool := decide ((d.length : Int) + p.length ≤ 30000) && (decide (endT (d ++ p) = d.length + p.length) && decide (endT d = d.length) && decide ((cntT (d ++ p) : Int) = c))
noncomputable def validI (d p : Tx) (c : Int) : Bool := decide ((d.length : Int) + p.length ≤ 30000) && (d == [] || ([10] : Tx).isSuffixOf d) && (decide (endT (d ++ p) = d.length + p.length) && decide (c = (cntT (d ++ p) : Int)))
theorem valid_eq (d p : Tx) (c : Int) : validI d p c = validS d p c := by
  unfold validI validS
  have e1 : decide (c = (cntT (d ++ p) : Int)) = decide ((cntT (d ++ p) : Int) = c) := by
    apply decide_eq_decide.2; constructor <;> intro h <;> exact h.symm
  rw [e1]
  by_cases h : endT (d ++ p) = d.length + p.length
  · have hh : endT (d ++ p) = (d ++ p).length := by rw [h]; simp
    have e2 : (d == [] || ([10] : Tx).isSuffixOf d) = decide (endT d = d.length) := by
      by_cases hk : endT d = d.length
      · rw [decide_eq_true hk]
        rcases end_of_kept hk with h | h
        · subst h; rfl
        · rw [h]; simp
      · rw [decide_eq_false hk, Bool.or_eq_false_iff]
        constructor
        · cases hd : d == [] with
          | false => rfl
          | true => exact absurd (kept_of_end hh (.inl (by simpa using hd))) hk
        · cases hd : ([10] : Tx).isSuffixOf d with
          | false => rfl
          | true => exact absurd (kept_of_end hh (.inr hd)) hk
    rw [e2]
    cases decide (d.length + p.length ≤ (30000 : Int)) <;> cases decide (endT d = d.length) <;> simp [h]
  · simp [h]
end Go.Proofs.YtahfeigilhjgpaaDoor.AM
