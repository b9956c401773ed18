import Derived.Test.YtahfeigilhjgpaaDoorLogA
/- Contracts: texts split, lines decoded. -/
namespace Go.Proofs.YtahfeigilhjgpaaDoor.AM
open Go
set_option maxRecDepth 1000000
set_option linter.unusedSimpArgs false
set_option linter.unusedVariables false
/-! ### blocks of texts -/
def strC (l : List Tx) : List C := l.map C.str
@[simp] theorem strC_len (l : List Tx) : (strC l).length = l.length := by simp [strC]
theorem strC_app (l m : List Tx) : strC l ++ strC m = strC (l ++ m) := by simp [strC]
@[simp] theorem strC_ids (l : List Tx) : cids (strC l) = [] := by
  unfold strC
  induction l with
  | nil => rfl
  | cons x l ih => simp [cids, ih, C.ids]
@[simp] theorem strC_cmp (g : Nat → Nat) (l : List Tx) : cmp g (strC l) = strC l := by
  rw [cmp_eq]; unfold strC
  simp [C.mp]
@[simp] theorem strC_dead (l : List Tx) : noDead (strC l) = true := by
  unfold strC
  induction l with
  | nil => rfl
  | cons x l ih => exact ih
/-! ### split -/
def splP (s : Tx) (b : UInt8) : Nat → List Tx × Nat
  | 0 => ([], 0)
  | k + 1 => if (s.getD k 0 == b) = true then ((splP s b k).1 ++ [(s.take k).drop (splP s b k).2], k + 1) else splP s b k
def splitL (s : Tx) (b : UInt8) : List Tx := (splP s b s.length).1 ++ [s.drop (splP s b s.length).2]
theorem splP_le (s : Tx) (b : UInt8) : ∀ k, (splP s b k).2 ≤ k ∧ (splP s b k).1.length ≤ k
  | 0 => ⟨Nat.le_refl _, Nat.le_refl _⟩
  | k + 1 => by
    obtain ⟨h1, h2⟩ := splP_le s b k
    unfold splP
    split
    · refine ⟨Nat.le_refl _, ?_⟩
      simp
      exact h2
    · exact ⟨by omega, by omega⟩
theorem take_succ_getD {s : Tx} {k : Nat} (h : k < s.length) : s.take (k + 1) = s.take k ++ [s.getD k 0] := by
  rw [getD_at h, List.take_add_one, List.getElem?_eq_getElem h]
  rfl
theorem splP_first (s : Tx) (b : UInt8) : ∀ k, k ≤ s.length → (has b (s.take k) = false ∧ splP s b k = ([], 0)) ∨ (has b (s.take k) = true ∧ ∃ r, (splP s b k).1 = before b s :: r)
  | 0, _ => .inl ⟨by simp [has], rfl⟩
  | k + 1, hk => by
    have hk' : k < s.length := by omega
    have ht := take_succ_getD hk'
    rw [ht, has_app]
    have hone : has b [s.getD k 0] = (s.getD k 0 == b) := by simp [has]
    rw [hone]
    unfold splP
    rcases splP_first s b k (by omega) with ⟨h1, h2⟩ | ⟨h1, r, h2⟩
    · by_cases hb : (s.getD k 0 == b) = true
      · right
        rw [if_pos hb, h1, hb, h2]
        refine ⟨rfl, [], ?_⟩
        have hs : s = s.take k ++ b :: s.drop (k + 1) := by
          have e : s.getD k 0 = b := by simpa using hb
          have := (List.take_append_drop (k + 1) s).symm
          rw [ht, e] at this
          simpa using this
        have hbef : before b s = s.take k := by
          conv => lhs; rw [hs]
          exact before_app b _ _ h1
        simp [hbef]
      · left
        have hb' : (s.getD k 0 == b) = false := by simpa using hb
        rw [if_neg hb, h1, hb']
        exact ⟨rfl, h2⟩
    · right
      by_cases hb : (s.getD k 0 == b) = true
      · rw [if_pos hb, h1]
        exact ⟨rfl, r ++ [(s.take k).drop (splP s b k).2], by simp [h2]⟩
      · rw [if_neg hb, h1]
        exact ⟨rfl, r, h2⟩
theorem splitL_head (s : Tx) (b : UInt8) : ∃ r, splitL s b = before b s :: r ∧ (decide (r.length + 1 < 2) = !has b s) := by
  unfold splitL
  rcases splP_first s b s.length (Nat.le_refl _) with ⟨h1, h2⟩ | ⟨h1, r, h2⟩
  · rw [List.take_length] at h1
    rw [h2, h1, before_none b s h1]
    exact ⟨[], by simp, rfl⟩
  · rw [List.take_length] at h1
    rw [h2, h1]
    refine ⟨r ++ [s.drop (splP s b s.length).2], rfl, ?_⟩
    simp
theorem splitL_len (s : Tx) (b : UInt8) : (splitL s b).length ≤ s.length + 1 := by
  unfold splitL
  have := (splP_le s b s.length).2
  simp
  omega
theorem c_spec_l1Split (s : Tx) (hn : s.length < 1000000000) (b : UInt8) : fnI pr np 41 [.c (.str s), .c (.int .u8 b.toNat)] [] = some (.c (.sl 0 0 (splitL s b).length 1), [.cells (strC (splitL s b)) true]) := by
  have e0 : ∀ x : UInt8, (x == b) = decide ((x.toNat : Int) = (b.toNat : Int)) := fun x => by
    rw [Bool.eq_iff_iff, beq_iff_eq, decide_eq_true_eq]
    constructor
    · intro h; rw [h]
    · intro h; exact UInt8.toNat_inj.1 (by omega)
  rw [fb (fn := a41) rfl rfl rfl]
  simp [a41]
  rw [loop_to (fun k => ([(0, V.c (C.str s)), (1, V.c (C.int .u8 b.toNat)), (5, V.c (C.sl 0 0 (splP s b k).1.length 1)), (6, V.c (C.int .i64 (splP s b k).2)), (7, V.c (C.int .i64 k))], [Blk.cells (strC (splP s b k).1) true])) s.length]
  · have h1 := (splP_le s b s.length).1
    have h2 := (splP_le s b s.length).2
    unfold splitL
    generalize (splP s b s.length).1 = P at *
    generalize (splP s b s.length).2 = f at *
    have hroom : P.length + 1 ≤ 68719476736 := by omega
    have htk : (strC P).take P.length = strC P := List.take_of_length_le (by simp)
    have happ : strC P ++ [C.str (s.drop f)] = strC (P ++ [s.drop f]) := strC_app P [s.drop f]
    have hf : (f : Int) ≤ (s.length : Int) := by omega
    simp [hroom, htk, happ, h1, hf, sub]
  · simp [splP, strC, sub]
  · intro k hk
    have hk' : (k : Int) < (s.length : Int) := by omega
    have wk := wrapS (k := k) (by omega)
    obtain ⟨h1, h2⟩ := splP_le s b k
    have hs : splP s b (k + 1) = if (s.getD k 0 == b) = true then ((splP s b k).1 ++ [(s.take k).drop (splP s b k).2], k + 1) else splP s b k := rfl
    rw [hs, getD_at hk, e0]
    generalize (splP s b k) = pf at *
    obtain ⟨P, f⟩ := pf
    simp only at h1 h2
    have hroom : P.length + 1 ≤ 68719476736 := by omega
    have htk : (strC P).take P.length = strC P := List.take_of_length_le (by simp)
    have happ : strC P ++ [C.str ((s.take k).drop f)] = strC (P ++ [(s.take k).drop f]) := strC_app P [(s.take k).drop f]
    have hf : (f : Int) ≤ (k : Int) := by omega
    have hks : (k : Int) ≤ (s.length : Int) := by omega
    have hks' : k ≤ s.length := by omega
    by_cases hb : ((s[k]'hk).toNat : Int) = (b.toNat : Int)
    · have hb2 : (s[k]'hk).toNat = b.toNat := by omega
      simp [hk, hk', hb, hb2, wk, hroom, htk, happ, h1, hf, hks, hks', sub]
    · have hb2 : ¬ (s[k]'hk).toNat = b.toNat := by omega
      simp [hk, hk', hb, hb2, wk, sub]
/-! ### a line -/
theorem c_impl_VerifyChecksum (s : Tx) (hn : s.length < 900000000) : ∃ q, fnI pr np 120 [.c (.str s)] [] = some (.tup [.c (.str (verT s)), .c (.bool q)], []) := by
  have h1 := callA_pure (c_cut s (by omega) 35) (by simp) (by simp)
  have bl := before_le 35 s
  have h2 := callA_pure (c_impl_AppendChecksum (before 35 s) (by omega)) (by simp) (by simp)
  have ha : appB (before 35 s) = (decide ((before 35 s).length ≤ 4000) && decide ((sealT (before 35 s)).length ≤ 4000)) := by
    unfold appB
    rw [before_no]
    simp
  rw [fb (fn := a120) rfl rfl rfl]
  unfold verT
  rw [← ha]
  generalize before 35 s = t at *
  cases hq : appB t with
  | false =>
    rw [hq] at h2
    refine ⟨false, ?_⟩
    simp [a120, h1, h2]
  | true =>
    rw [hq] at h2
    by_cases hs : sealT t = s
    · refine ⟨true, ?_⟩
      simp [a120, h1, h2, hs]
    · refine ⟨false, ?_⟩
      simp [a120, h1, h2, hs]
theorem pre_iff (p s : Tx) : p.isPrefixOf s = (decide (p.length ≤ s.length) && (s.take p.length == p)) := by
  rw [Bool.eq_iff_iff, Bool.and_eq_true, decide_eq_true_eq, beq_iff_eq, List.isPrefixOf_iff_prefix]
  constructor
  · rintro ⟨t, rfl⟩
    exact ⟨by simp, List.take_left⟩
  · rintro ⟨_, h⟩
    exact ⟨s.drop p.length, by conv => rhs; rw [← List.take_append_drop p.length s, h]⟩
theorem num_ahead_len (k : Nat) (hk : k < 1000) : (ahead k).length ≤ 10 ∧ (num k).length ≤ 9 := by
  have := num_len 2 k (by omega)
  unfold ahead
  simp
  omega
end Go.Proofs.YtahfeigilhjgpaaDoor.AM
