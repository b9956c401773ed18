import Derived.Test.YtanbjhhaoolneaaDoorParseP
/- Contracts: texts are cut at a byte; the reference reads a rack. -/
namespace Go.Proofs.YtanbjhhaoolneaaDoor.AM
open Go
set_option maxRecDepth 1000000
set_option linter.unusedSimpArgs false
set_option linter.unusedVariables false
theorem splC_none {c : UInt8} : ∀ {p : List UInt8}, (∀ x ∈ p, x ≠ c) → splC c p = [p]
  | [], _ => rfl
  | b :: p, h => splC_cons (h b (by simp)) p p [] (splC_none fun x hx => h x (by simp [hx]))
theorem splC_cut {c : UInt8} : ∀ {p : List UInt8} (t : List UInt8), (∀ x ∈ p, x ≠ c) → splC c (p ++ c :: t) = p :: splC c t
  | [], t, _ => by simp [splC]
  | b :: p, t, h => splC_cons (h b (by simp)) (p ++ c :: t) p (splC c t) (splC_cut t fun x hx => h x (by simp [hx]))
theorem sgn_facts (x : Nat) : (x = 46 ∧ sgn x = 0) ∨ (x = 97 ∧ sgn x = 1) ∨ (x = 98 ∧ sgn x = 2) ∨ (x = 99 ∧ sgn x = 3) ∨ (x = 100 ∧ sgn x = 4) ∨ (x = 101 ∧ sgn x = 5) ∨ (x ≠ 46 ∧ x ≠ 97 ∧ x ≠ 98 ∧ x ≠ 99 ∧ x ≠ 100 ∧ x ≠ 101 ∧ sgn x = -1) := by
  unfold sgn
  by_cases h : x = 46
  · subst h; simp
  · by_cases h2 : 97 ≤ x ∧ x ≤ 101
    · rw [if_neg h, if_pos h2]
      omega
    · rw [if_neg h, if_neg h2]
      omega
set_option maxHeartbeats 2000000 in
theorem c_spec_l2Sign (x : Nat) : fnI pr np 20 [.c (.int .u8 x)] [] = some (.c (.int .i64 (sgn x)), []) := by
  have w1 : IntKind.i64.wrap 1 = 1 := by decide
  have w2 : IntKind.i64.wrap 2 = 2 := by decide
  have w3 : IntKind.i64.wrap 3 = 3 := by decide
  have w4 : IntKind.i64.wrap 4 = 4 := by decide
  have w5 : IntKind.i64.wrap 5 = 5 := by decide
  have w6 : IntKind.i64.wrap 6 = 6 := by decide
  rw [fb (fn := a20) rfl rfl rfl]
  rcases sgn_facts x with ⟨rfl, e⟩ | ⟨rfl, e⟩ | ⟨rfl, e⟩ | ⟨rfl, e⟩ | ⟨rfl, e⟩ | ⟨rfl, e⟩ | ⟨h0, h1, h2, h3, h4, h5, e⟩
  · rw [e]; simp [a20, exI_loop', w1, w2, w3, w4, w5, w6, sub]
  · rw [e]; simp [a20, exI_loop', w1, w2, w3, w4, w5, w6, sub]
  · rw [e]; simp [a20, exI_loop', w1, w2, w3, w4, w5, w6, sub]
  · rw [e]; simp [a20, exI_loop', w1, w2, w3, w4, w5, w6, sub]
  · rw [e]; simp [a20, exI_loop', w1, w2, w3, w4, w5, w6, sub]
  · rw [e]; simp [a20, exI_loop', w1, w2, w3, w4, w5, w6, sub]
  · have g0 : ¬ (46 : Int) = (x : Int) := by omega
    have g1 : ¬ (97 : Int) = (x : Int) := by omega
    have g2 : ¬ (98 : Int) = (x : Int) := by omega
    have g3 : ¬ (99 : Int) = (x : Int) := by omega
    have g4 : ¬ (100 : Int) = (x : Int) := by omega
    have g5 : ¬ (101 : Int) = (x : Int) := by omega
    rw [e]
    simp [a20, exI_loop', w1, w2, w3, w4, w5, w6, g0, g1, g2, g3, g4, g5, sub]
theorem loop_exit {P : Prog} {Q : Prim} {m : Nat} {a : ACode} {live : List Nat} {e : Env} {h : Heap} {X : Option (Ex × Env × Heap)} (hX : exI P Q m (.loop a live) e h = X) (I : Nat → Env × Heap → Prop) (n : Nat) (R : Ex × Env × Heap → Prop) (h0 : ∃ st, gcE m live e h = some st ∧ I 0 st)
    (hs : ∀ k, k ≤ n → ∀ st, I k st → (k < n ∧ ∃ st', turnK m live (exI P Q m a st.1 st.2) = some st' ∧ I (k + 1) st') ∨ ∃ r, loopK P Q m a live (exI P Q m a st.1 st.2) = some r ∧ R r) : ∃ r, X = some r ∧ R r := by
  subst hX
  have key : ∀ d k, k + d = n → ∀ st, I k st → ∃ r, loopG P Q m a live (some st) = some r ∧ R r := by
    intro d
    induction d with
    | zero =>
      intro k hk st hI
      rcases hs k (by omega) st hI with ⟨h1, _⟩ | h1
      · omega
      · exact h1
    | succ d ih =>
      intro k hk st hI
      rcases hs k (by omega) st hI with ⟨_, st', h1, h2⟩ | h1
      · obtain ⟨r, hr, hR⟩ := ih (k + 1) (by omega) st' h2
        refine ⟨r, ?_, hR⟩
        rw [← hr, ← h1]
        show loopK P Q m a live (exI P Q m a st.1 st.2) = loopG P Q m a live (turnK m live (exI P Q m a st.1 st.2))
        unfold turnK at h1 ⊢
        split at h1
        · rename_i e' hh' he'
          rw [he']
          exact exI_loop' P Q m a live e' hh'
        · cases h1
      · exact h1
  obtain ⟨st, h1, h2⟩ := h0
  obtain ⟨r, hr, hR⟩ := key n 0 (by omega) st h2
  exact ⟨r, by rw [exI_loop', h1]; exact hr, hR⟩
def strs (O : List (List UInt8)) : List C := O.map C.str
@[simp] theorem strs_len (O : List (List UInt8)) : (strs O).length = O.length := by simp [strs]
@[simp] theorem strs_ids (O : List (List UInt8)) : cids (strs O) = [] := by
  induction O with
  | nil => rfl
  | cons x O ih => simp only [strs, List.map_cons, cids] at ih ⊢; rw [ih]; rfl
@[simp] theorem strs_cmp (g : Nat → Nat) (O : List (List UInt8)) : cmp g (strs O) = strs O := cmp_pure (strs_ids O)
@[simp] theorem strs_dead (O : List (List UInt8)) : noDead (strs O) = true := by
  induction O with
  | nil => rfl
  | cons x O ih => simp only [strs, List.map_cons, noDead] at ih ⊢; exact ih
theorem strs_app (A B : List (List UInt8)) : strs (A ++ B) = strs A ++ strs B := by simp [strs]
def SpI (s : List UInt8) (c : UInt8) (i : Nat) (st : Env × Heap) : Prop := ∃ (f : Nat) (O : List (List UInt8)), f ≤ i ∧ O.length ≤ i ∧ (∀ j, f ≤ j → j < i → s.getD j 0 ≠ c) ∧ O ++ splC c (s.drop f) = splC c s ∧ st = ([(0, V.c (C.str s)), (1, V.c (C.int .u8 (c.toNat : Nat))), (5, V.c (C.sl 0 0 O.length 1)), (6, V.c (C.int .i64 f)), (7, V.c (C.int .i64 i))], [Blk.cells (strs O) true])
def SpE (s : List UInt8) (c : UInt8) (r : Ex × Env × Heap) : Prop := ∃ (f : Nat) (O : List (List UInt8)), f ≤ s.length ∧ O.length ≤ s.length ∧ O ++ [s.drop f] = splC c s ∧ r = (.exit 0, [(0, V.c (C.str s)), (1, V.c (C.int .u8 (c.toNat : Nat))), (5, V.c (C.sl 0 0 O.length 1)), (6, V.c (C.int .i64 f)), (7, V.c (C.int .i64 s.length)), (12, V.c (C.bool false))], [Blk.cells (strs O) true])
theorem byte_eq {a b : UInt8} : ((a.toNat : Int) = (b.toNat : Int)) ↔ a = b := by
  constructor
  · intro h
    exact UInt8.toNat_inj.1 (by omega)
  · intro h; rw [h]
theorem c_spec_l1Split (s : List UInt8) (c : UInt8) (hs : s.length ≤ 1048576) : fnI pr np 9 [.c (.str s), .c (.int .u8 c.toNat)] [] = some (.c (.sl 0 0 (splC c s).length 1), [.cells (strs (splC c s)) true]) := by
  rw [fb (fn := a9) rfl rfl rfl]
  simp [a9]
  generalize hX : exI pr np 0 (ACode.loop _ _) _ _ = X
  have hl := loop_exit hX (SpI s c) s.length (SpE s c) ⟨([(0, V.c (C.str s)), (1, V.c (C.int .u8 (c.toNat : Nat))), (5, V.c (C.sl 0 0 0 1)), (6, V.c (C.int .i64 0)), (7, V.c (C.int .i64 0))], [Blk.cells [] true]), by simp [sub], 0, [], by omega, by simp, fun j h1 h2 => by omega, by simp, by simp [strs]⟩ ?_
  · obtain ⟨r, rfl, f, O, hf, hO, he, rfl⟩ := hl
    have hf' : (f : Int) ≤ (s.length : Int) := by omega
    have b1 : O.length + 1 ≤ 68719476736 := by omega
    have tk : (strs O).take O.length = strs O := List.take_of_length_le (by simp)
    have e1 : strs O ++ [C.str (s.drop f)] = strs (splC c s) := by rw [← he, strs_app]; rfl
    have e2 : O.length + 1 = (splC c s).length := by rw [← he]; simp
    have b1' : (splC c s).length ≤ 68719476736 := by omega
    simp [hf, hf', b1, b1', tk, e1, e2, sub]
  · rintro i hi st ⟨f, O, hf, hO, hno, he, rfl⟩
    by_cases hin : i = s.length
    · subst hin
      right
      simp
      refine ⟨f, O, hf, hO, ?_, rfl⟩
      rw [← he]
      congr 1
      refine (splC_none fun x hx => ?_).symm
      obtain ⟨j, hj⟩ := List.getElem?_of_mem hx
      rw [List.getElem?_drop] at hj
      have := hno (f + j) (by omega) (by have := (List.getElem?_eq_some_iff.1 hj).1; omega)
      rw [List.getD_eq_getElem?_getD, hj] at this
      exact this
    · have hil : i < s.length := by omega
      left
      refine ⟨hil, ?_⟩
      have wi := wrapS (k := i) (by omega)
      by_cases hc : s.getD i 0 = c
      · have hfi' : (f : Int) ≤ (i : Int) := by omega
        have hil' : i ≤ s.length := by omega
        have b1 : O.length + 1 ≤ 68719476736 := by omega
        have tk : (strs O).take O.length = strs O := List.take_of_length_le (by simp)
        have e1 : strs O ++ [C.str ((s.take i).drop f)] = strs (O ++ [(s.take i).drop f]) := by rw [strs_app]; rfl
        have hb : ((s[i]'hil).toNat : Int) = (c.toNat : Int) := by
          rw [List.getD_eq_getElem?_getD, List.getElem?_eq_getElem hil] at hc
          rw [show s[i] = c from hc]
        simp [hil, hil', hb, hf, hfi', b1, tk, e1, wi, sub]
        refine ⟨i + 1, O ++ [(s.take i).drop f], by omega, by simp; omega, fun j h1 h2 => by omega, ?_, by simp⟩
        rw [← he, List.append_assoc]
        congr 1
        have hd : s.drop f = (s.take i).drop f ++ c :: s.drop (i + 1) := by
          have h1 : s = s.take i ++ c :: s.drop (i + 1) := by
            have h2 : s.drop i = c :: s.drop (i + 1) := by
              rw [List.drop_eq_getElem_cons hil]
              rw [List.getD_eq_getElem?_getD, List.getElem?_eq_getElem hil] at hc
              rw [show s[i] = c from hc]
            rw [← h2, List.take_append_drop]
          conv => lhs; rw [h1]
          rw [List.drop_append_of_le_length (by simp; omega)]
        rw [hd]
        refine (splC_cut _ fun x hx => ?_).symm
        obtain ⟨j, hj⟩ := List.getElem?_of_mem hx
        rw [List.getElem?_drop, List.getElem?_take] at hj
        split at hj
        · have := hno (f + j) (by omega) (by assumption)
          rw [List.getD_eq_getElem?_getD, hj] at this
          exact this
        · cases hj
      · have hb : ¬ ((s[i]'hil).toNat : Int) = (c.toNat : Int) := by
          rw [byte_eq]
          rw [List.getD_eq_getElem?_getD, List.getElem?_eq_getElem hil] at hc
          exact hc
        simp [hil, hb, wi, sub]
        refine ⟨f, O, by omega, by omega, fun j h1 h2 => ?_, he, rfl⟩
        by_cases hj : j = i
        · subst hj; exact hc
        · exact hno j h1 (by omega)
end Go.Proofs.YtanbjhhaoolneaaDoor.AM
