import Derived.Test.YthpookdfaikabaaGreatDoorParA
import Derived.Test.YthpookdfaikabaaGreatDoorRepD
import Derived.Test.YthpookdfaikabaaGreatDoorRepB
/- Contracts: texts are cut at a byte; the reference reads a rack. -/
namespace Go.Proofs.YthpookdfaikabaaGreatDoor.AM
open Go
set_option maxRecDepth 1000000
set_option linter.unusedSimpArgs false
set_option linter.unusedVariables false
theorem splC_none {c : UInt8} : ∀ {p : List UInt8}, (∀ x ∈ p, x ≠ c) → splC c p = [p]
  | [], _ => rfl
  | b :: p, h => splC_cons (h b (by simp)) p p [] (splC_none fun x hx => h x (by simp [hx]))
theorem splC_cut {c : UInt8} : ∀ {p : List UInt8} (t : List UInt8), (∀ x ∈ p, x ≠ c) → splC c (p ++ c :: t) = p :: splC c t
  | [], t, _ => by simp [splC]
  | b :: p, t, h => splC_cons (h b (by simp)) (p ++ c :: t) p (splC c t) (splC_cut t fun x hx => h x (by simp [hx]))
theorem sgn_facts (x : Nat) : (x = 46 ∧ sgn x = 0) ∨ (x = 97 ∧ sgn x = 1) ∨ (x = 98 ∧ sgn x = 2) ∨ (x = 99 ∧ sgn x = 3) ∨ (x = 100 ∧ sgn x = 4) ∨ (x = 101 ∧ sgn x = 5) ∨ (x ≠ 46 ∧ x ≠ 97 ∧ x ≠ 98 ∧ x ≠ 99 ∧ x ≠ 100 ∧ x ≠ 101 ∧ sgn x = -1) := by
  unfold sgn
  by_cases h : x = 46
  · subst h; simp
  · by_cases h2 : 97 ≤ x ∧ x ≤ 101
    · rw [if_neg h, if_pos h2]
      omega
    · rw [if_neg h, if_neg h2]
      omega
set_option maxHeartbeats 2000000 in
theorem c_spec_l2Sign (x : Nat) : fnI pr np 70 [.c (.int .u8 x)] [] = some (.c (.int .i64 (sgn x)), []) := by
  have w1 : IntKind.i64.wrap 1 = 1 := by decide
  have w2 : IntKind.i64.wrap 2 = 2 := by decide
  have w3 : IntKind.i64.wrap 3 = 3 := by decide
  have w4 : IntKind.i64.wrap 4 = 4 := by decide
  have w5 : IntKind.i64.wrap 5 = 5 := by decide
  have w6 : IntKind.i64.wrap 6 = 6 := by decide
  rw [fb (fn := a70) rfl rfl rfl]
  rcases sgn_facts x with ⟨rfl, e⟩ | ⟨rfl, e⟩ | ⟨rfl, e⟩ | ⟨rfl, e⟩ | ⟨rfl, e⟩ | ⟨rfl, e⟩ | ⟨h0, h1, h2, h3, h4, h5, e⟩
  · rw [e]; simp [a70, exI_loop', w1, w2, w3, w4, w5, w6, sub]
  · rw [e]; simp [a70, exI_loop', w1, w2, w3, w4, w5, w6, sub]
  · rw [e]; simp [a70, exI_loop', w1, w2, w3, w4, w5, w6, sub]
  · rw [e]; simp [a70, exI_loop', w1, w2, w3, w4, w5, w6, sub]
  · rw [e]; simp [a70, exI_loop', w1, w2, w3, w4, w5, w6, sub]
  · rw [e]; simp [a70, exI_loop', w1, w2, w3, w4, w5, w6, sub]
  · have g0 : ¬ (46 : Int) = (x : Int) := by omega
    have g1 : ¬ (97 : Int) = (x : Int) := by omega
    have g2 : ¬ (98 : Int) = (x : Int) := by omega
    have g3 : ¬ (99 : Int) = (x : Int) := by omega
    have g4 : ¬ (100 : Int) = (x : Int) := by omega
    have g5 : ¬ (101 : Int) = (x : Int) := by omega
    rw [e]
    simp [a70, exI_loop', w1, w2, w3, w4, w5, w6, g0, g1, g2, g3, g4, g5, sub]
def SpI (s : List UInt8) (c : UInt8) (i : Nat) (st : Env × Heap) : Prop := ∃ (f : Nat) (O : List (List UInt8)), f ≤ i ∧ O.length ≤ i ∧ (∀ j, f ≤ j → j < i → s.getD j 0 ≠ c) ∧ O ++ splC c (s.drop f) = splC c s ∧ st = ([(0, V.c (C.str s)), (1, V.c (C.int .u8 (c.toNat : Nat))), (5, V.c (C.sl 0 0 O.length 1)), (6, V.c (C.int .i64 f)), (7, V.c (C.int .i64 i))], [Blk.cells (strs O) true])
def SpE (s : List UInt8) (c : UInt8) (r : Ex × Env × Heap) : Prop := ∃ (f : Nat) (O : List (List UInt8)), f ≤ s.length ∧ O.length ≤ s.length ∧ O ++ [s.drop f] = splC c s ∧ r = (.exit 0, [(0, V.c (C.str s)), (1, V.c (C.int .u8 (c.toNat : Nat))), (5, V.c (C.sl 0 0 O.length 1)), (6, V.c (C.int .i64 f)), (7, V.c (C.int .i64 s.length)), (12, V.c (C.bool false))], [Blk.cells (strs O) true])
theorem byte_eq {a b : UInt8} : ((a.toNat : Int) = (b.toNat : Int)) ↔ a = b := by
  constructor
  · intro h
    exact UInt8.toNat_inj.1 (by omega)
  · intro h; rw [h]
theorem c_spec_l1Split (s : List UInt8) (c : UInt8) (hs : s.length ≤ 1048576) : fnI pr np 46 [.c (.str s), .c (.int .u8 c.toNat)] [] = some (.c (.sl 0 0 (splC c s).length 1), [.cells (strs (splC c s)) true]) := by
  rw [fb (fn := a46) rfl rfl rfl]
  simp [a46]
  generalize hX : exI pr np 0 (ACode.loop _ _) _ _ = X
  have hl := loop_exit hX (SpI s c) s.length (SpE s c) ⟨([(0, V.c (C.str s)), (1, V.c (C.int .u8 (c.toNat : Nat))), (5, V.c (C.sl 0 0 0 1)), (6, V.c (C.int .i64 0)), (7, V.c (C.int .i64 0))], [Blk.cells [] true]), by simp [sub], 0, [], by omega, by simp, fun j h1 h2 => by omega, by simp, by simp [strs]⟩ ?_
  · obtain ⟨r, rfl, f, O, hf, hO, he, rfl⟩ := hl
    have hf' : (f : Int) ≤ (s.length : Int) := by omega
    have b1 : O.length + 1 ≤ 68719476736 := by omega
    have tk : (strs O).take O.length = strs O := List.take_of_length_le (by simp)
    have e1 : strs O ++ [C.str (s.drop f)] = strs (splC c s) := by rw [← he, strs_app]; rfl
    have e2 : O.length + 1 = (splC c s).length := by rw [← he]; simp
    have b1' : (splC c s).length ≤ 68719476736 := by omega
    simp [hf, hf', b1, b1', tk, e1, e2, sub]
  · rintro i hi st ⟨f, O, hf, hO, hno, he, rfl⟩
    by_cases hin : i = s.length
    · subst hin
      right
      simp
      refine ⟨f, O, hf, hO, ?_, rfl⟩
      rw [← he]
      congr 1
      refine (splC_none fun x hx => ?_).symm
      obtain ⟨j, hj⟩ := List.getElem?_of_mem hx
      rw [List.getElem?_drop] at hj
      have := hno (f + j) (by omega) (by have := (List.getElem?_eq_some_iff.1 hj).1; omega)
      rw [List.getD_eq_getElem?_getD, hj] at this
      exact this
    · have hil : i < s.length := by omega
      left
      refine ⟨hil, ?_⟩
      have wi := wrapS (k := i) (by omega)
      by_cases hc : s.getD i 0 = c
      · have hfi' : (f : Int) ≤ (i : Int) := by omega
        have hil' : i ≤ s.length := by omega
        have b1 : O.length + 1 ≤ 68719476736 := by omega
        have tk : (strs O).take O.length = strs O := List.take_of_length_le (by simp)
        have e1 : strs O ++ [C.str ((s.take i).drop f)] = strs (O ++ [(s.take i).drop f]) := by rw [strs_app]; rfl
        have hb : ((s[i]'hil).toNat : Int) = (c.toNat : Int) := by
          rw [List.getD_eq_getElem?_getD, List.getElem?_eq_getElem hil] at hc
          rw [show s[i] = c from hc]
        simp [hil, hil', hb, hf, hfi', b1, tk, e1, wi, sub]
        refine ⟨i + 1, O ++ [(s.take i).drop f], by omega, by simp; omega, fun j h1 h2 => by omega, ?_, by simp⟩
        rw [← he, List.append_assoc]
        congr 1
        have hd : s.drop f = (s.take i).drop f ++ c :: s.drop (i + 1) := by
          have h1 : s = s.take i ++ c :: s.drop (i + 1) := by
            have h2 : s.drop i = c :: s.drop (i + 1) := by
              rw [List.drop_eq_getElem_cons hil]
              rw [List.getD_eq_getElem?_getD, List.getElem?_eq_getElem hil] at hc
              rw [show s[i] = c from hc]
            rw [← h2, List.take_append_drop]
          conv => lhs; rw [h1]
          rw [List.drop_append_of_le_length (by simp; omega)]
        rw [hd]
        refine (splC_cut _ fun x hx => ?_).symm
        obtain ⟨j, hj⟩ := List.getElem?_of_mem hx
        rw [List.getElem?_drop, List.getElem?_take] at hj
        split at hj
        · have := hno (f + j) (by omega) (by assumption)
          rw [List.getD_eq_getElem?_getD, hj] at this
          exact this
        · cases hj
      · have hb : ¬ ((s[i]'hil).toNat : Int) = (c.toNat : Int) := by
          rw [byte_eq]
          rw [List.getD_eq_getElem?_getD, List.getElem?_eq_getElem hil] at hc
          exact hc
        simp [hil, hb, wi, sub]
        refine ⟨f, O, by omega, by omega, fun j h1 h2 => ?_, he, rfl⟩
        by_cases hj : j = i
        · subst hj; exact hc
        · exact hno j h1 (by omega)
end Go.Proofs.YthpookdfaikabaaGreatDoor.AM

/- Contracts: the reference reads a rack. -/
namespace Go.Proofs.YthpookdfaikabaaGreatDoor.AM
open Go
set_option maxRecDepth 1000000
set_option linter.unusedSimpArgs false
set_option linter.unusedVariables false
def okc (s : List UInt8) (j : Nat) : Prop := (j % 5 = 4 → s.getD j 0 = 47) ∧ (j % 5 < 4 → 0 ≤ sgB (s.getD j 0))
def rTi (s : List UInt8) (i : Nat) : List Int := (List.range 24).map fun j => if j / 4 * 5 + j % 4 < i then sgB (s.getD (j / 4 * 5 + j % 4) 0) else 0
@[simp] theorem rTi_len (s : List UInt8) (i : Nat) : (rTi s i).length = 24 := by simp [rTi]
theorem rTi_zero (s : List UInt8) : rTi s 0 = List.replicate 24 0 := by simp [rTi, List.range, List.range.loop]
theorem rTi_end (s : List UInt8) : rTi s 29 = rackT s := by
  unfold rTi rackT
  refine List.map_congr_left fun j hj => ?_
  rw [List.mem_range] at hj
  rw [if_pos (by omega)]
theorem rTi_skip (s : List UInt8) {i : Nat} (h : i % 5 = 4) : rTi s (i + 1) = rTi s i := by
  unfold rTi
  refine List.map_congr_left fun j hj => ?_
  have e : (j / 4 * 5 + j % 4 < i + 1) ↔ (j / 4 * 5 + j % 4 < i) := by omega
  simp only [e]
theorem rTi_set (s : List UInt8) {i : Nat} (h : i % 5 < 4) (hi : i < 29) : (rTi s i).set (i / 5 * 4 + i % 5) (sgB (s.getD i 0)) = rTi s (i + 1) := by
  refine List.ext_getElem (by simp) fun j h1 h2 => ?_
  rw [List.getElem_set]
  simp only [rTi, List.getElem_map, List.getElem_range]
  simp at h1
  by_cases hj : i / 5 * 4 + i % 5 = j
  · have e : j / 4 * 5 + j % 4 = i := by omega
    rw [if_pos hj, e, if_pos (by omega)]
  · rw [if_neg hj]
    have e : (j / 4 * 5 + j % 4 < i + 1) ↔ (j / 4 * 5 + j % 4 < i) := by omega
    simp only [e]
theorem goodT_iff (s : List UInt8) : goodT s = true ↔ s.length = 29 ∧ ∀ j, j < 29 → okc s j := by
  unfold goodT okc
  simp only [Bool.and_eq_true, decide_eq_true_eq, List.all_eq_true, List.mem_range]
  constructor
  · rintro ⟨h1, h2⟩
    refine ⟨h1, fun j hj => ?_⟩
    have := h2 j hj
    split at this
    · rename_i h5
      exact ⟨fun _ => by simpa using this, fun h => by omega⟩
    · exact ⟨fun h => by omega, fun _ => by simpa using this⟩
  · rintro ⟨h1, h2⟩
    refine ⟨h1, fun j hj => ?_⟩
    have := h2 j hj
    split
    · rename_i h5
      have h6 := this.1 h5
      simp only [beq_iff_eq]
      exact h6
    · simp only [decide_eq_true_eq]
      exact this.2 (by omega)
@[simp] theorem rackT_len (s : List UInt8) : (rackT s).length = 24 := by simp [rackT]
theorem rackT_take (s : List UInt8) : ((rackT s).map (C.int .i64)).take 24 = (rackT s).map (C.int .i64) := List.take_of_length_le (by simp)
theorem rTi_take (s : List UInt8) (i : Nat) : ((rTi s i).map (C.int .i64)).take 24 = (rTi s i).map (C.int .i64) := List.take_of_length_le (by simp)
def LpI (s : List UInt8) (i : Nat) (st : Env × Heap) : Prop := (∀ j, j < i → okc s j) ∧ st = ([(0, V.c (C.str s)), (2, V.c (C.ptr 0 0)), (4, V.c (C.ptr 1 0)), (5, V.c (C.int .i64 i))], [Blk.cells (List.replicate 24 (C.int .i64 0)) true, Blk.cells ((rTi s i).map (C.int .i64)) true])
def LpE (s : List UInt8) (r : Ex × Env × Heap) : Prop := ((∀ j, j < 29 → okc s j) ∧ r = (.exit 0, [(0, V.c (C.str s)), (2, V.c (C.ptr 0 0)), (4, V.c (C.ptr 1 0)), (5, V.c (C.int .i64 29)), (13, V.c (C.bool false))], [Blk.cells (List.replicate 24 (C.int .i64 0)) true, Blk.cells ((rTi s 29).map (C.int .i64)) true])) ∨ (∃ j, (j < 29 ∧ ¬ okc s j) ∧ r = (.ret, [(2, V.c (C.ptr 0 0)), (3, V.c (C.bool false))], [Blk.cells (List.replicate 24 (C.int .i64 0)) true, Blk.cells ((rTi s j).map (C.int .i64)) true]))
theorem c_spec_l2Parse (s : List UInt8) : fnI pr np 47 [.c (.str s)] [] = some (.tup [.agg ((rkS s).map (C.int .i64)), .c (.bool (okS s))], []) := by
  rw [fb (fn := a47) rfl rfl rfl]
  have z24 : List.map (C.int IntKind.i64) (List.replicate 24 0) = List.replicate 24 (C.int IntKind.i64 0) := by simp
  have hno : ∀ h : goodS s = false, okS s = false ∧ rkS s = List.replicate 24 0 := fun hT => by
    have e1 : okS s = false := by unfold okS; rw [hT]; rfl
    exact ⟨e1, by unfold rkS; rw [e1]; rfl⟩
  by_cases hl : s.length = 29
  · have hlI : (s.length : Int) = 29 := by omega
    simp [a47, hl, hlI, sub]
    generalize hX : exI pr np 0 (ACode.loop _ _) _ _ = X
    have hlp := loop_exit hX (LpI s) 29 (LpE s) ⟨([(0, V.c (C.str s)), (2, V.c (C.ptr 0 0)), (4, V.c (C.ptr 1 0)), (5, V.c (C.int .i64 0))], [Blk.cells (List.replicate 24 (C.int .i64 0)) true, Blk.cells (List.replicate 24 (C.int .i64 0)) true]), by simp [sub], fun j h => by omega, by rw [rTi_zero]; simp⟩ ?_
    · obtain ⟨r, rfl, hr⟩ := hlp
      rcases hr with ⟨hg, rfl⟩ | ⟨j, ⟨h1, h2⟩, rfl⟩
      · have hT : goodT s = true := (goodT_iff s).2 ⟨hl, hg⟩
        have hS := good_TS hT
        have hrk := callA_pure (c_rack_spec (rTi s 29) (by simp)) (by simp) (by simp)
        rw [rTi_end] at hrk
        cases hk : okRack (rackT s) with
        | true =>
          rw [hk] at hrk
          have e1 : okS s = true := by unfold okS; rw [hS.1, hS.2, hk]; rfl
          have e2 : rkS s = rackT s := by unfold rkS; rw [if_pos e1, hS.2]
          simp [e1, e2, rTi_end, rackT_take, setAt_all, hrk, sub]
        | false =>
          rw [hk] at hrk
          have e1 : okS s = false := by unfold okS; rw [hS.1, hS.2, hk]; rfl
          have e2 : rkS s = List.replicate 24 0 := by unfold rkS; rw [e1]; rfl
          simp [e1, e2, rTi_end, rackT_take, setAt_all, hrk, sub]
      · have hT : goodS s = false := by
          rw [good_eq]
          cases h : goodT s with
          | false => rfl
          | true =>
            exact absurd (((goodT_iff s).1 h).2 j h1) h2
        obtain ⟨e1, e2⟩ := hno hT
        simp [e1, e2, sub]
    · rintro i hi st ⟨hg, rfl⟩
      by_cases hi29 : i = 29
      · subst hi29
        right
        simp
        exact .inl ⟨hg, rfl⟩
      · have hilt : i < 29 := by omega
        have hil : i < s.length := by omega
        have hI : ((i : Int) < 29) := by omega
        have wi := wrapS (k := i) (by omega)
        have hsg := callA_pure (c_spec_l2Sign (s[i]'hil).toNat) (by simp) (by simp)
        have hgd : s.getD i 0 = s[i]'hil := by rw [List.getD_eq_getElem?_getD, List.getElem?_eq_getElem hil]; rfl
        obtain ⟨m, hmm⟩ : ∃ m, m = i % 5 := ⟨_, rfl⟩
        obtain ⟨q, hqq⟩ : ∃ q, q = i / 5 := ⟨_, rfl⟩
        have hm : (i : Int).tmod 5 = (m : Int) := by rw [hmm]; rfl
        have hd : (i : Int).tdiv 5 = (q : Int) := by rw [hqq]; rfl
        have hq6 : q < 6 := by omega
        have hq6I : (q : Int) < 6 := by omega
        generalize hb : s[i]'hil = b at *
        by_cases h5 : i % 5 = 4
        · have h4 : ¬ (m : Int) < 4 := by omega
          have h5I : (m : Int) = 4 := by omega
          have h5B : ((m : Int) == 4) = true := by simp; omega
          by_cases hc : b = 47
          · have hcI : (b.toNat : Int) = 47 := by rw [hc]; rfl
            have hcN : ((b.toNat : Int) != 47) = false := by rw [hcI]; rfl
            left
            refine ⟨hilt, ?_⟩
            simp [hil, hb, hI, hsg, hcN, hm, h5I, h5B, h4, wi, sub]
            refine ⟨fun j hj => ?_, by rw [rTi_skip s h5]; rfl⟩
            by_cases hji : j = i
            · subst hji
              exact ⟨fun _ => by rw [hgd, hc], fun h => by omega⟩
            · exact hg j (by omega)
          · have hcI : ¬ (b.toNat : Int) = 47 := fun h => hc (UInt8.toNat_inj.1 (by simp; omega))
            have hcN : ((b.toNat : Int) != 47) = true := by simpa using hcI
            right
            simp [hil, hb, hI, hsg, hcN, hm, h5I, h5B, h4, wi, sub]
            exact .inr ⟨i, ⟨hilt, fun h => hc (by rw [← hgd]; exact h.1 h5)⟩, rfl⟩
        · have h54 : i % 5 < 4 := by omega
          have hm4 : m < 4 := by omega
          have h4 : (m : Int) < 4 := by omega
          have h5I : ¬ (m : Int) = 4 := by omega
          have h5B : ((m : Int) == 4) = false := by simp; omega
          by_cases hc : 0 ≤ sgB b
          · have hcI : ¬ sgn b.toNat < 0 := by show ¬ sgB b < 0; omega
            have hset := rTi_set s h54 hilt
            rw [hgd, ← hmm, ← hqq] at hset
            have hsetC : ((rTi s i).map (C.int .i64)).set (q * 4 + m) (C.int .i64 (sgn b.toNat)) = (rTi s (i + 1)).map (C.int .i64) := by rw [← List.map_set, ← hset]; rfl
            have wq : IntKind.i64.wrap (q : Int) = (q : Int) := wrapI (by omega) (by omega)
            have hle : q * 4 + m ≤ 23 := by omega
            left
            refine ⟨hilt, ?_⟩
            simp [hil, hb, hI, hsg, hcI, hm, hd, h5I, h5B, h4, hm4, hq6, hq6I, hle, wq, hsetC, wi, sub]
            refine ⟨fun j hj => ?_, rfl⟩
            by_cases hji : j = i
            · subst hji
              exact ⟨fun h => by omega, fun _ => by rw [hgd]; exact hc⟩
            · exact hg j (by omega)
          · have hcI : sgn b.toNat < 0 := by show sgB b < 0; omega
            right
            simp [hil, hb, hI, hsg, hcI, hm, h5I, h5B, h4, wi, sub]
            exact .inr ⟨i, ⟨hilt, fun h => hc (by rw [← hgd]; exact h.2 h54)⟩, rfl⟩
  · have hlI : ¬ (s.length : Int) = 29 := by omega
    have hT : goodS s = false := by
      rw [good_eq]
      unfold goodT
      simp [hl]
    obtain ⟨e1, e2⟩ := hno hT
    simp [a47, hl, hlI, e1, e2, sub]
end Go.Proofs.YthpookdfaikabaaGreatDoor.AM

/- Contracts: the implementation reads a rack. -/
namespace Go.Proofs.YthpookdfaikabaaGreatDoor.AM
open Go
set_option maxRecDepth 1000000
set_option linter.unusedSimpArgs false
set_option linter.unusedVariables false
theorem c_split (s : List UInt8) (hs : s.length ≤ 1048576) (c : UInt8) : fnI pr np 44 [.c (.str s), .c (.str [c])] [] = some (.c (.sl 0 0 (splC c s).length 1), [.cells (strs (splC c s)) true]) := by
  refine (fnI_iff pr np).2 ⟨1, ?_⟩
  show (if s.length < 4294967281 then some (V.c (.sl 0 0 (splC c s).length 1), [Blk.cells (strs (splC c s)) true]) else none) = _
  rw [if_pos (by omega)]
theorem bytesG {s : List UInt8} {k : Nat} (hk : k < s.length) : ((bytesC s).drop k).take 1 = [C.int .u8 (s.getD k 0).toNat] := by
  unfold bytesC
  rw [List.drop_eq_getElem_cons (by simpa using hk)]
  simp [List.getD_eq_getElem?_getD, List.getElem?_eq_getElem hk]
@[simp] theorem bC_len (s : List UInt8) : (bytesC s).length = s.length := by simp [bytesC]
@[simp] theorem bC_ids (s : List UInt8) : cids (bytesC s) = [] := by
  induction s with
  | nil => rfl
  | cons x s ih => simp only [bytesC, List.map_cons, cids] at ih ⊢; rw [ih]; rfl
@[simp] theorem bC_cmp (g : Nat → Nat) (s : List UInt8) : cmp g (bytesC s) = bytesC s := cmp_pure (bC_ids s)
@[simp] theorem bC_dead (s : List UInt8) : noDead (bytesC s) = true := by
  induction s with
  | nil => rfl
  | cons x s ih => simp only [bytesC, List.map_cons, noDead] at ih ⊢; exact ih
def rP (P : List (List UInt8)) (i k : Nat) : List Int := (List.range 24).map fun j => if j / 4 < i ∨ (j / 4 = i ∧ j % 4 < k) then sgB ((P.getD (j / 4) []).getD (j % 4) 0) else 0
@[simp] theorem rP_len (P : List (List UInt8)) (i k : Nat) : (rP P i k).length = 24 := by simp [rP]
theorem rP_zero (P : List (List UInt8)) : rP P 0 0 = List.replicate 24 0 := by simp [rP, List.range, List.range.loop]
theorem rP_next (P : List (List UInt8)) (i : Nat) : rP P i 4 = rP P (i + 1) 0 := by
  unfold rP
  refine List.map_congr_left fun j hj => ?_
  have e : (j / 4 < i ∨ (j / 4 = i ∧ j % 4 < 4)) ↔ (j / 4 < i + 1 ∨ (j / 4 = i + 1 ∧ j % 4 < 0)) := by omega
  simp only [e]
theorem rP_set (P : List (List UInt8)) {i k : Nat} (hi : i < 6) (hk : k < 4) : (rP P i k).set (i * 4 + k) (sgB ((P.getD i []).getD k 0)) = rP P i (k + 1) := by
  refine List.ext_getElem (by simp) fun j h1 h2 => ?_
  rw [List.getElem_set]
  simp only [rP, List.getElem_map, List.getElem_range]
  by_cases hj : i * 4 + k = j
  · have e1 : j / 4 = i := by omega
    have e2 : j % 4 = k := by omega
    rw [if_pos hj, e1, e2, if_pos (by omega)]
  · rw [if_neg hj]
    have e : (j / 4 < i ∨ (j / 4 = i ∧ j % 4 < k + 1)) ↔ (j / 4 < i ∨ (j / 4 = i ∧ j % 4 < k)) := by omega
    simp only [e]
theorem rP_dot (P : List (List UInt8)) {i k : Nat} (hi : i < 6) (hk : k < 4) (h : sgB ((P.getD i []).getD k 0) = 0) : rP P i k = rP P i (k + 1) := by
  unfold rP
  refine List.map_congr_left fun j hj => ?_
  by_cases hj : i * 4 + k = j
  · have e1 : j / 4 = i := by omega
    have e2 : j % 4 = k := by omega
    rw [e1, e2, h]
    simp
  · have e : (j / 4 < i ∨ (j / 4 = i ∧ j % 4 < k + 1)) ↔ (j / 4 < i ∨ (j / 4 = i ∧ j % 4 < k)) := by omega
    simp only [e]
theorem rP_end {s : List UInt8} (h : goodS s = true) : rP (splC 47 s) 6 0 = rackS s := by
  unfold goodS at h
  simp only [Bool.and_eq_true, decide_eq_true_eq] at h
  obtain ⟨hl, h⟩ := h
  unfold rackS
  generalize splC 47 s = P at *
  match P, hl, h with
  | [p0, p1, p2, p3, p4, p5], _, h =>
    simp only [List.all_cons, List.all_nil, Bool.and_true, Bool.and_eq_true, goodW, decide_eq_true_eq] at h
    obtain ⟨⟨l0, g0⟩, ⟨l1, g1⟩, ⟨l2, g2⟩, ⟨l3, g3⟩, ⟨l4, g4⟩, ⟨l5, g5⟩⟩ := h
    obtain ⟨_, _, _, _, rfl⟩ := split4 p0 l0
    obtain ⟨_, _, _, _, rfl⟩ := split4 p1 l1
    obtain ⟨_, _, _, _, rfl⟩ := split4 p2 l2
    obtain ⟨_, _, _, _, rfl⟩ := split4 p3 l3
    obtain ⟨_, _, _, _, rfl⟩ := split4 p4 l4
    obtain ⟨_, _, _, _, rfl⟩ := split4 p5 l5
    simp [rP, List.range, List.range.loop]
def zz : Blk := .cells (List.replicate 24 (C.int .i64 0)) true
def failR (r : Ex × Env × Heap) : Prop := ∃ (h : Heap), r = (.ret, [(2, V.c (C.ptr 0 0)), (3, V.c (C.bool false))], zz :: h)
def PrI (P : List (List UInt8)) (i : Nat) (st : Env × Heap) : Prop := (∀ j, j < i → goodW (P.getD j []) = true) ∧ st = ([(2, V.c (C.ptr 0 0)), (5, V.c (C.ptr 1 0)), (16, V.c (C.sl 2 0 6 1)), (17, V.c (C.int .i64 6)), (18, V.c (C.int .i64 i))], [zz, Blk.cells ((rP P i 0).map (C.int .i64)) true, Blk.cells (strs P) true])
def PrE (P : List (List UInt8)) (r : Ex × Env × Heap) : Prop := ((∀ j, j < 6 → goodW (P.getD j []) = true) ∧ r = (.exit 0, [(2, V.c (C.ptr 0 0)), (5, V.c (C.ptr 1 0)), (16, V.c (C.sl 2 0 6 1)), (17, V.c (C.int .i64 6)), (18, V.c (C.int .i64 6)), (19, V.c (C.bool false))], [zz, Blk.cells ((rP P 6 0).map (C.int .i64)) true, Blk.cells (strs P) true])) ∨ ((∃ j, j < 6 ∧ goodW (P.getD j []) = false) ∧ failR r)
def PqI (P : List (List UInt8)) (i k : Nat) (st : Env × Heap) : Prop := (∀ j, j < k → 0 ≤ sgB ((P.getD i []).getD j 0)) ∧ st = ([(2, V.c (C.ptr 0 0)), (5, V.c (C.ptr 1 0)), (6, V.c (C.int .i64 i)), (16, V.c (C.sl 2 0 6 1)), (17, V.c (C.int .i64 6)), (18, V.c (C.int .i64 i)), (28, V.c (C.sl 3 0 4 1)), (29, V.c (C.int .i64 4)), (30, V.c (C.int .i64 k))], [zz, Blk.cells ((rP P i k).map (C.int .i64)) true, Blk.cells (strs P) true, Blk.cells (bytesC (P.getD i [])) true])
def PqE (P : List (List UInt8)) (i : Nat) (r : Ex × Env × Heap) : Prop := ((∀ j, j < 4 → 0 ≤ sgB ((P.getD i []).getD j 0)) ∧ r = (.exit 2, [(2, V.c (C.ptr 0 0)), (5, V.c (C.ptr 1 0)), (6, V.c (C.int .i64 i)), (16, V.c (C.sl 2 0 6 1)), (17, V.c (C.int .i64 6)), (18, V.c (C.int .i64 i)), (28, V.c (C.sl 3 0 4 1)), (29, V.c (C.int .i64 4)), (30, V.c (C.int .i64 4)), (31, V.c (C.bool false))], [zz, Blk.cells ((rP P i 4).map (C.int .i64)) true, Blk.cells (strs P) true, Blk.cells (bytesC (P.getD i [])) true])) ∨ ((∃ j, j < 4 ∧ ¬ 0 ≤ sgB ((P.getD i []).getD j 0)) ∧ failR r)
theorem goodW_iff (p : List UInt8) : goodW p = true ↔ p.length = 4 ∧ ∀ j, j < 4 → 0 ≤ sgB (p.getD j 0) := by
  unfold goodW
  simp only [Bool.and_eq_true, decide_eq_true_eq, List.all_eq_true]
  constructor
  · rintro ⟨h1, h2⟩
    refine ⟨h1, fun j hj => ?_⟩
    have hj' : j < p.length := by omega
    have := h2 (p[j]) (List.getElem_mem hj')
    rw [List.getD_eq_getElem?_getD, List.getElem?_eq_getElem hj']
    simpa using this
  · rintro ⟨h1, h2⟩
    refine ⟨h1, fun x hx => ?_⟩
    obtain ⟨j, hj⟩ := List.getElem?_of_mem hx
    have hj' := (List.getElem?_eq_some_iff.1 hj).1
    have := h2 j (by omega)
    rw [List.getD_eq_getElem?_getD, hj] at this
    exact this
theorem c_impl_parseRack (s : List UInt8) (hs : s.length ≤ 1048576) : fnI pr np 45 [.c (.str s)] [] = some (.tup [.agg ((rkS s).map (C.int .i64)), .c (.bool (okS s))], []) := by
  have hsp := callA_new (c_split s hs 47) (by simp)
  rw [fb (fn := a45) rfl rfl rfl]
  have hno : ∀ h : goodS s = false, okS s = false ∧ rkS s = List.replicate 24 0 := fun hT => by
    have e1 : okS s = false := by unfold okS; rw [hT]; rfl
    exact ⟨e1, by unfold rkS; rw [e1]; rfl⟩
  by_cases hl : (splC 47 s).length = 6
  · have hP : goodS s = (splC 47 s).all goodW := by unfold goodS; simp [hl]
    have hend : goodS s = true → rP (splC 47 s) 6 0 = rackS s := rP_end
    generalize splC 47 s = P at *
    simp [a45, hsp, hl, sub]
    generalize hX : exI pr np 0 (ACode.loop _ _) _ _ = X
    have hlp := loop_exit hX (PrI P) 6 (PrE P) ⟨_, by simp [sub, zz]; rfl, fun j h => by omega, by rw [rP_zero]; rfl⟩ ?_
    · obtain ⟨r, rfl, hr⟩ := hlp
      rcases hr with ⟨hg, rfl⟩ | ⟨⟨j, h1, h2⟩, h, rfl⟩
      · have hT : goodS s = true := by
          rw [hP, List.all_eq_true]
          intro p hp
          obtain ⟨j, hj⟩ := List.getElem?_of_mem hp
          have hj' := (List.getElem?_eq_some_iff.1 hj).1
          have := hg j (by omega)
          rwa [List.getD_eq_getElem?_getD, hj] at this
        have hS := hend hT
        have hlen : (rackS s).length = 24 := good_len hT
        have htk : ((rackS s).map (C.int .i64)).take 24 = (rackS s).map (C.int .i64) := List.take_of_length_le (by simp [hlen])
        have hrk := callA_pure (c_rack_impl (rackS s) hlen) (by simp) (by simp)
        cases hk : okRack (rackS s) with
        | true =>
          rw [hk] at hrk
          have e1 : okS s = true := by unfold okS; rw [hT, hk]; rfl
          have e2 : rkS s = rackS s := by unfold rkS; rw [if_pos e1]
          simp [e1, e2, hS, zz, hlen, htk, setAt_all, hrk, sub]
        | false =>
          rw [hk] at hrk
          have e1 : okS s = false := by unfold okS; rw [hT, hk]; rfl
          have e2 : rkS s = List.replicate 24 0 := by unfold rkS; rw [e1]; rfl
          simp [e1, e2, hS, zz, hlen, htk, setAt_all, hrk, sub]
      · have hT : goodS s = false := by
          rw [hP]
          cases h : P.all goodW with
          | false => rfl
          | true =>
            rw [List.all_eq_true] at h
            have hj' : j < P.length := by omega
            have := h (P[j]) (List.getElem_mem hj')
            rw [List.getD_eq_getElem?_getD, List.getElem?_eq_getElem hj'] at h2
            simp [this] at h2
        obtain ⟨e1, e2⟩ := hno hT
        simp [e1, e2, zz, sub]
    · rintro i hi st ⟨hg, rfl⟩
      by_cases hi6 : i = 6
      · subst hi6
        right
        simp
        exact .inl ⟨hg, rfl⟩
      · have hilt : i < 6 := by omega
        have hI : ((i : Int) < 6) := by omega
        have wi := wrapS (k := i) (by omega)
        have hget := strs_get (P := P) (k := i) (by omega)
        have b1 : i + 1 ≤ P.length := by omega
        have b5 : i ≤ 5 := by omega
        obtain ⟨p, hp⟩ : ∃ p, p = P.getD i [] := ⟨_, rfl⟩
        rw [← hp] at hget
        by_cases hp4 : p.length = 4
        · have hp4I : (p.length : Int) = 4 := by omega
          generalize hB : exI pr np 0 _ _ _ = B
          simp [hI, hget, hl, b1, b5, hilt, hp4, hp4I, zz, sub] at hB
          generalize hY : exI pr np 0 (ACode.loop _ _) _ _ = Y at hB
          have hlq := loop_exit hY (PqI P i) 4 (PqE P i) ⟨_, by simp [sub, zz, hp4]; rfl, fun j h => by omega, by rw [← hp]; rfl⟩ ?_
          · obtain ⟨r, rfl, hr⟩ := hlq
            rcases hr with ⟨hq, rfl⟩ | ⟨⟨j, h1, h2⟩, h, rfl⟩
            · simp [wi, sub] at hB
              subst hB
              left
              refine ⟨hilt, ?_⟩
              simp [hp4, zz, b5, wi, sub]
              refine ⟨fun j hj => ?_, by rw [rP_next]; rfl⟩
              by_cases hji : j = i
              · subst hji
                exact (goodW_iff _).2 ⟨by rw [← hp]; exact hp4, hq⟩
              · exact hg j (by omega)
            · simp [sub] at hB
              subst hB
              right
              refine ⟨_, by simp [zz, sub], .inr ⟨⟨i, hilt, ?_⟩, h, rfl⟩⟩
              cases hgp : goodW (P.getD i []) with
              | false => rfl
              | true => exact absurd (((goodW_iff _).1 hgp).2 j h1) h2
          · rintro k hk st ⟨hg2, rfl⟩
            rw [← hp]
            by_cases hk4 : k = 4
            · subst hk4
              right
              simp
              exact .inl ⟨hg2, by rw [← hp]⟩
            · have hklt : k < 4 := by omega
              have hkI : ((k : Int) < 4) := by omega
              have wk := wrapS (k := k) (by omega)
              have hgk := bytesG (s := p) (k := k) (by omega)
              have b2 : k + 1 ≤ p.length := by omega
              have hgd : sgB ((P.getD i []).getD k 0) = sgB (p.getD k 0) := by rw [hp]
              have hx := sgn_facts (p.getD k 0).toNat
              have hxl := UInt8.toNat_lt (p.getD k 0)
              have hset := rP_set P hilt hklt
              have hdot := rP_dot P hilt hklt
              rw [hgd] at hset hdot
              have hsgd : sgB (p.getD k 0) = sgn (p.getD k 0).toNat := rfl
              rw [hsgd] at hset hdot hgd
              have hsetC : ((rP P i k).map (C.int .i64)).set (i * 4 + k) (C.int .i64 (sgn (p.getD k 0).toNat)) = (rP P i (k + 1)).map (C.int .i64) := by rw [← List.map_set, ← hset]
              have hle : i * 4 + k ≤ 23 := by omega
              have k3 : k ≤ 3 := by omega
              generalize (p.getD k 0).toNat = x at *
              have hstep : 0 ≤ sgn x → ∀ j, j < k + 1 → 0 ≤ sgB ((P.getD i []).getD j 0) := fun h0 j hj => by
                by_cases hjk : j = k
                · subst hjk; rw [hgd]; exact h0
                · exact hg2 j (by omega)
              by_cases h97 : 97 ≤ x ∧ x ≤ 101
              · have hs : sgn x = (x : Int) - 96 := by unfold sgn; rw [if_neg (by omega), if_pos h97]
                have w1 : IntKind.u8.wrap ((x : Int) - 97) = (x : Int) - 97 := by
                  unfold IntKind.wrap IntKind.signed IntKind.bits
                  simp
                  omega
                have w2 : IntKind.i64.wrap ((x : Int) - 97) = (x : Int) - 97 := wrapI (by omega) (by omega)
                have w3 : IntKind.i64.wrap ((x : Int) - 97 + 1) = sgn x := by rw [hs, wrapI (by omega) (by omega)]; omega
                have c1 : (97 : Int) ≤ (x : Int) := by omega
                have c2 : (x : Int) < 102 := by omega
                left
                refine ⟨hklt, ?_⟩
                simp [hkI, hgk, hp4, b2, hklt, hilt, hI, hle, hsetC, k3, c1, c2, w1, w2, w3, wk, zz, sub]
                exact ⟨hstep (by rw [hs]; omega), by rw [← hp]; rfl⟩
              · by_cases h46 : x = 46
                · subst h46
                  have hcN : ((46 : Int) != 46) = false := by decide
                  left
                  refine ⟨hklt, ?_⟩
                  have s46 : sgn 46 = 0 := by decide
                  simp [hkI, hgk, hp4, b2, hklt, k3, hcN, wk, zz, sub]
                  exact ⟨hstep (by rw [s46]; omega), by rw [← hp, ← hdot s46]; rfl⟩
                · have hcN : ((x : Int) != 46) = true := by simp; omega
                  have hng : ¬ 0 ≤ sgn x := by
                    unfold sgn
                    rw [if_neg h46, if_neg h97]
                    omega
                  right
                  by_cases c1 : (97 : Int) ≤ (x : Int)
                  · have c2 : ¬ (x : Int) < 102 := by omega
                    simp [hkI, hgk, hp4, b2, hklt, k3, c1, c2, hcN, wk, zz, sub]
                    exact .inr ⟨⟨k, hklt, by rw [hgd]; exact hng⟩, _, rfl⟩
                  · simp [hkI, hgk, hp4, b2, hklt, k3, c1, hcN, wk, zz, sub]
                    exact .inr ⟨⟨k, hklt, by rw [hgd]; exact hng⟩, _, rfl⟩
        · have hp4I : ¬ (p.length : Int) = 4 := by omega
          generalize hB : exI pr np 0 _ _ _ = B
          simp [hI, hget, hl, b1, b5, hilt, hp4, hp4I, zz, sub] at hB
          subst hB
          right
          refine ⟨_, by simp [zz, sub]; rfl, .inr ⟨⟨i, hilt, ?_⟩, _, rfl⟩⟩
          rw [← hp]
          unfold goodW
          simp [hp4]
  · have hlI : ¬ ((splC 47 s).length : Int) = 6 := by omega
    have hT : goodS s = false := by
      unfold goodS
      simp [hl]
    obtain ⟨e1, e2⟩ := hno hT
    simp [a45, hsp, hl, hlI, e1, e2, sub]
end Go.Proofs.YthpookdfaikabaaGreatDoor.AM

/- Contracts: the implementation reads a replay. -/
namespace Go.Proofs.YthpookdfaikabaaGreatDoor.AM
open Go
set_option maxRecDepth 1000000
set_option linter.unusedSimpArgs false
set_option linter.unusedVariables false
theorem splC_mem_len (c : UInt8) : ∀ s : List UInt8, ∀ p ∈ splC c s, p.length ≤ s.length
  | [], p, hp => by
    simp [splC] at hp
    simp [hp]
  | b :: s, p, hp => by
    have ih := splC_mem_len c s
    obtain ⟨x, r, hx⟩ : ∃ x r, splC c s = x :: r := by
      cases hc : splC c s with
      | nil => exact absurd hc (splC_ne c s)
      | cons x r => exact ⟨x, r, rfl⟩
    by_cases h : b = c
    · subst h
      have e : splC b (b :: s) = [] :: splC b s := by simp [splC]
      rw [e] at hp
      rcases List.mem_cons.1 hp with h1 | h1
      · subst h1; simp
      · have := ih p h1; simp; omega
    · rw [splC_cons h s x r hx] at hp
      rcases List.mem_cons.1 hp with h1 | h1
      · subst h1
        have := ih x (by rw [hx]; simp)
        simp; omega
      · have := ih p (by rw [hx]; simp [h1])
        simp; omega
theorem headW_len (s : List UInt8) : (headW s).length ≤ s.length := splC_mem_len 32 s _ (by rw [headW_tailW]; simp)
theorem strs_tail {h : List UInt8} {T : List (List UInt8)} {k : Nat} (hk : k < T.length) : ((strs (h :: T)).drop (1 + k)).take 1 = [C.str (T.getD k [])] := by
  have := strs_get (P := h :: T) (k := k + 1) (by simp; omega)
  rw [Nat.add_comm 1 k, this]
  simp
def parV (r : List Int) (m : List (Int × Int)) (q : Bool) : V := .tup [.agg (r.map (C.int .i64) ++ [C.sl 0 0 m.length 2]), .c (.bool q)]
def parR (q : Bool) (s : List UInt8) : List Int := if q = true then rkS (headW s) else List.replicate 24 0
def parL (q : Bool) (s : List UInt8) : List (Int × Int) := if q = true then (tailW s).map pz else []
def parX (q : Bool) (s : List UInt8) : Option (V × Heap) := some (parV (parR q s) (parL q s) q, [.cells (cZ (parL q s)) true])
theorem parX_f (s : List UInt8) : parX false s = some (.tup [.agg (z25 0), .c (.bool false)], [.cells [] true]) := by
  simp [parX, parV, parR, parL, cZ_nil, z25]
theorem z25_deadP (i : Nat) : noDead (z25 i) = true := rfl
theorem z25_takeP (i : Nat) : (z25 i).take 25 = z25 i := rfl
theorem z25_cmpP (g : Nat → Nat) (i : Nat) : cmp g (z25 i) = z25 (g i) := rfl
def mK (s : List UInt8) (k : Nat) : List (Int × Int) := ((tailW s).take k).map pz
theorem mK_len {s : List UInt8} {k : Nat} (hk : k ≤ (tailW s).length) : (mK s k).length = k := by simp [mK]; omega
theorem mK_end (s : List UInt8) : mK s (tailW s).length = (tailW s).map pz := by unfold mK; rw [List.take_length]
theorem mK_succ {s : List UInt8} {k : Nat} (hk : k < (tailW s).length) : mK s (k + 1) = mK s k ++ [pz ((tailW s).getD k [])] := by
  unfold mK
  rw [List.take_add_one, List.getElem?_eq_getElem hk, List.map_append, List.getD_eq_getElem?_getD, List.getElem?_eq_getElem hk]
  rfl
theorem split2 : ∀ s : List UInt8, s.length = 2 → ∃ a b, s = [a, b]
  | [a, b], _ => ⟨_, _, rfl⟩
def ipH (s : List UInt8) (k e : Nat) : Heap := [Blk.cells (z25 e) true, Blk.cells ((rkS (headW s)).map (C.int .i64) ++ [C.sl 4 0 k 2]) true, Blk.cells (strs (headW s :: tailW s)) true, Blk.cells [] true, Blk.cells (cZ (mK s k)) true]
def IpI (s : List UInt8) (k : Nat) (st : Env × Heap) : Prop := (∀ j, j < k → two ((tailW s).getD j []) = true) ∧ st = ([(2, V.c (C.ptr 0 0)), (7, V.c (C.ptr 1 0)), (30, V.c (C.sl 2 1 (tailW s).length 1)), (31, V.c (C.int .i64 (tailW s).length)), (32, V.c (C.int .i64 k))], ipH s k 3)
def IpE (s : List UInt8) (r : Ex × Env × Heap) : Prop := ((∀ j, j < (tailW s).length → two ((tailW s).getD j []) = true) ∧ r = (.exit 0, [(2, V.c (C.ptr 0 0)), (7, V.c (C.ptr 1 0)), (30, V.c (C.sl 2 1 (tailW s).length 1)), (31, V.c (C.int .i64 (tailW s).length)), (32, V.c (C.int .i64 (tailW s).length)), (33, V.c (C.bool false))], ipH s (tailW s).length 3)) ∨ (∃ k, (k < (tailW s).length ∧ two ((tailW s).getD k []) = false) ∧ r = (.ret, [(2, V.c (C.ptr 0 0)), (3, V.c (C.bool false))], ipH s k 5 ++ [Blk.cells [] true]))
theorem tail_all (s : List UInt8) (f : List UInt8 → Bool) : (tailW s).all f = true ↔ ∀ j, j < (tailW s).length → f ((tailW s).getD j []) = true := by
  rw [List.all_eq_true]
  constructor
  · intro h j hj
    rw [List.getD_eq_getElem?_getD, List.getElem?_eq_getElem hj]
    exact h _ (List.getElem_mem hj)
  · intro h x hx
    obtain ⟨j, hj⟩ := List.getElem?_of_mem hx
    have := h j (List.getElem?_eq_some_iff.1 hj).1
    rw [List.getD_eq_getElem?_getD, hj] at this
    exact this
theorem c_impl_ParseReplay (s : List UInt8) (hs : s.length ≤ 1048576) : fnI pr np 19 [.c (.str s)] [] = parX (repI s) s := by
  have hsp := callA_new (c_split s hs 32) (by simp)
  have hpr := callA_pure (c_impl_parseRack (headW s) (Nat.le_trans (headW_len s) hs)) (by simp) (by simp)
  have h24 := take24 (rkS_len (headW s))
  have hr := rkS_len (headW s)
  rw [fb (fn := a19) rfl rfl rfl]
  have g0 := strs_get (P := headW s :: tailW s) (k := 0) (by simp)
  simp at g0
  rw [headW_tailW] at hsp
  cases hq : okS (headW s) with
  | false =>
    have e : repI s = false := by unfold repI; rw [hq]; rfl
    rw [hq] at hpr
    rw [e, parX_f]
    simp [a19, hsp, g0, hpr, h24, hr, setAt_all, z25_eq, z25_deadP, z25_takeP, z25_cmpP, z25_set hr, sub]
  | true =>
    rw [hq] at hpr
    by_cases hn : (tailW s).length ≤ 60
    · have hnI : ¬ (61 : Int) < ((tailW s).length : Int) + 1 := by omega
      have c1 : (1 : Int) ≤ ((tailW s).length : Int) + 1 := by omega
      simp [a19, hsp, g0, hpr, h24, hr, setAt_all, z25_eq, z25_deadP, z25_takeP, z25_cmpP, z25_set hr, hnI, c1, sub]
      generalize hX : exI pr np 0 (ACode.loop _ _) _ _ = X
      have hlp := loop_exit hX (IpI s) (tailW s).length (IpE s) ⟨_, by simp [sub, hr, z25_deadP, z25_takeP, z25_cmpP]; rfl, fun j h => by omega, rfl⟩ ?_
      · obtain ⟨r, rfl, hx⟩ := hlp
        rcases hx with ⟨hg, rfl⟩ | ⟨k, ⟨h1, h2⟩, rfl⟩
        · have hall := (tail_all s two).2 hg
          have hre : repI s = repB (rkS (headW s)) ((tailW s).map pz) := by
            unfold repI
            rw [hq, hall, headW_tailW]
            simp [hn]
          have hir := call_rep (rest := []) rfl (by simp) (c_impl_IsReplay (rkS (headW s)) hr ((tailW s).map pz) true)
          have t3 := fun i n => repC_all hr (C.sl i 0 n 2)
          rw [hre]
          unfold ipH
          rw [mK_end]
          rw [List.length_map] at hir
          cases hb : repB (rkS (headW s)) ((tailW s).map pz) with
          | false =>
            rw [hb] at hir
            rw [parX_f]
            simp [hr, t3, hir, z25_eq, setAt_all, z25_deadP, z25_takeP, z25_cmpP, sub]
          | true =>
            rw [hb] at hir
            simp [parX, parV, parR, parL, hr, t3, hir, z25_eq, z25_setAll hr, setAt_all, z25_deadP, z25_takeP, z25_cmpP, sub]
        · have e : repI s = false := by
            cases h : repI s with
            | false => rfl
            | true =>
              unfold repI at h
              simp only [Bool.and_eq_true] at h
              rw [(tail_all s two).1 h.1.2 k h1] at h2
              cases h2
          rw [e, parX_f]
          simp [ipH, z25_eq, z25_deadP, z25_takeP, z25_cmpP, sub]
      · rintro k hk st ⟨hg, rfl⟩
        by_cases hkn : k = (tailW s).length
        · subst hkn
          right
          simp [ipH]
          exact .inl ⟨hg, rfl⟩
        · have hlt : k < (tailW s).length := by omega
          have hget := strs_tail (h := headW s) hlt
          have wk := wrapS (k := k) (by omega)
          have b1 : 1 + k + 1 ≤ (tailW s).length + 1 := by omega
          have hlen := mK_len (s := s) hk
          have hms := mK_succ hlt
          cases h2 : two ((tailW s).getD k []) with
          | false =>
            right
            have hp : ¬ ((tailW s).getD k []).length = 2 := by simpa [two] using h2
            have hpp : IpE s (.ret, [(2, V.c (C.ptr 0 0)), (3, V.c (C.bool false))], ipH s k 5 ++ [Blk.cells [] true]) := .inr ⟨k, ⟨hlt, h2⟩, rfl⟩
            generalize (tailW s).getD k [] = w at *
            have hpI : ¬ (w.length : Int) = 2 := by omega
            refine ⟨_, ?_, hpp⟩
            simp [ipH, hlt, hget, b1, hp, hpI, hr, z25_eq, z25_deadP, setAt_all, sub]
          | true =>
            left
            have hp : ((tailW s).getD k []).length = 2 := by simpa [two] using h2
            have hnx : ∀ j, j < k + 1 → two ((tailW s).getD j []) = true := fun j hj => by
              by_cases hjk : j = k
              · rw [hjk]; exact h2
              · exact hg j (by omega)
            obtain ⟨a, b, hab⟩ := split2 _ hp
            rw [hab] at hget hms
            have t2 := fun i n => repC_drop hr (C.sl i 0 n 2)
            have t6 := fun i n d => repC_set hr (C.sl i 0 n 2) d
            have hroom : k + 1 ≤ 68719476736 := by omega
            have htk := cZ_take (mK s k)
            rw [hlen] at htk
            have wa : IntKind.i64.wrap (a.toNat : Int) = (a.toNat : Int) := wrapI (by omega) (by have := UInt8.toNat_lt a; omega)
            have wb : IntKind.i64.wrap (b.toNat : Int) = (b.toNat : Int) := wrapI (by omega) (by have := UInt8.toNat_lt b; omega)
            have wa2 : IntKind.i64.wrap ((a.toNat : Int) - 48) = (a.toNat : Int) - 48 := wrapI (by omega) (by have := UInt8.toNat_lt a; omega)
            have wb2 : IntKind.i64.wrap ((b.toNat : Int) - 48) = (b.toNat : Int) - 48 := wrapI (by omega) (by have := UInt8.toNat_lt b; omega)
            have e1 : cZ (mK s k) ++ [C.int .i64 ((a.toNat : Int) - 48), C.int .i64 ((b.toNat : Int) - 48)] = cZ (mK s (k + 1)) := by rw [hms, cZ_app]; rfl
            refine ⟨hlt, _, ?_, hnx, rfl⟩
            simp [ipH, hlt, hget, b1, hr, t2, t6, hroom, htk, hlen, wa, wb, wa2, wb2, wk, e1, z25_eq, setAt_all, setAt, z25_deadP, z25_takeP, z25_cmpP, sub]
    · have hnI : (61 : Int) < ((tailW s).length : Int) + 1 := by omega
      have e : repI s = false := by unfold repI; rw [headW_tailW]; simp; omega
      rw [e, parX_f]
      simp [a19, hsp, g0, hpr, h24, hr, setAt_all, z25_eq, z25_deadP, z25_takeP, z25_cmpP, z25_set hr, hnI, sub]
end Go.Proofs.YthpookdfaikabaaGreatDoor.AM

/- Contracts: the reference reads a replay. -/
namespace Go.Proofs.YthpookdfaikabaaGreatDoor.AM
open Go
set_option maxRecDepth 1000000
set_option linter.unusedSimpArgs false
set_option linter.unusedVariables false
def spS (s : List UInt8) (f : Bool) (m i : Nat) (tl : Env) : Env × Heap := ([(2, V.c (C.ptr 0 0)), (4, V.c (C.sl 1 0 ((tailW s).length + 1) 1)), (6, V.c (C.bool f)), (7, V.c (C.ptr 2 0)), (8, V.c (C.int .i64 i))] ++ tl, [Blk.cells (z25 3) true, Blk.cells (strs (headW s :: tailW s)) true, Blk.cells ((rkS (headW s)).map (C.int .i64) ++ [C.sl 4 0 m 2]) true, Blk.cells [] true, Blk.cells (cZ (mK s m)) true])
def SqI (s : List UInt8) (k : Nat) (st : Env × Heap) : Prop := ((∀ j, j < k → dig ((tailW s).getD j []) = true) ∧ st = spS s true k (k + 1) []) ∨ (∃ q, k = q + 1 ∧ dig ((tailW s).getD q []) = false ∧ st = spS s false q (k + 1) [])
def SqE (s : List UInt8) (r : Ex × Env × Heap) : Prop := ((∀ j, j < (tailW s).length → dig ((tailW s).getD j []) = true) ∧ r = (.exit 0, spS s true (tailW s).length ((tailW s).length + 1) [(32, V.c (C.bool false))])) ∨ (∃ q, (q < (tailW s).length ∧ dig ((tailW s).getD q []) = false) ∧ r = (.exit 0, spS s false q (q + 2) [(32, V.c (C.bool false))]))
theorem c_spec_ParseReplay (s : List UInt8) (hs : s.length ≤ 1048576) : fnI pr np 20 [.c (.str s)] [] = parX (repS s) s := by
  have hs1 := c_spec_l1Split s 32 hs
  rw [show (((32 : UInt8).toNat : Nat) : Int) = 32 from rfl] at hs1
  have hsp := callA_new hs1 (by simp)
  have hpr := callA_pure (c_spec_l2Parse (headW s)) (by simp) (by simp)
  have h24 := take24 (rkS_len (headW s))
  have hr := rkS_len (headW s)
  rw [fb (fn := a20) rfl rfl rfl]
  have g0 := strs_get (P := headW s :: tailW s) (k := 0) (by simp)
  simp at g0
  rw [headW_tailW] at hsp
  by_cases hl : s.length ≤ 209
  · have hlI : ¬ (209 : Int) < (s.length : Int) := by omega
    have hpl : (tailW s).length ≤ 209 := by
      have h1 := splC_len 32 s
      have h2 := List.count_le_length (a := (32 : UInt8)) (l := s)
      rw [headW_tailW] at h1
      simp at h1
      omega
    cases hq : okS (headW s) with
    | false =>
      have e : repS s = false := by unfold repS; rw [hq]; simp
      rw [hq] at hpr
      rw [e, parX_f]
      by_cases c1 : (1 : Int) < ((tailW s).length : Int) + 1
      · have c2 : 0 < (tailW s).length := by omega
        simp [a20, exI_loop', hlI, hsp, g0, hpr, h24, hr, setAt_all, z25_eq, z25_deadP, z25_takeP, z25_cmpP, z25_set hr, c1, c2, sub]
      · have c2 : (tailW s).length = 0 := by omega
        simp [a20, exI_loop', hlI, hsp, g0, hpr, h24, hr, setAt_all, z25_eq, z25_deadP, z25_takeP, z25_cmpP, z25_set hr, c2, sub]
    | true =>
      rw [hq] at hpr
      simp [a20, hlI, hsp, g0, hpr, h24, hr, setAt_all, z25_eq, z25_deadP, z25_takeP, z25_cmpP, z25_set hr, sub]
      generalize hX : exI pr np 0 (ACode.loop _ _) _ _ = X
      have hlp := loop_exit hX (SqI s) (tailW s).length (SqE s) ⟨_, by simp [sub, hr, z25_deadP, z25_takeP, z25_cmpP]; rfl, .inl ⟨fun j h => by omega, rfl⟩⟩ ?_
      · obtain ⟨r, rfl, hx⟩ := hlp
        rcases hx with ⟨hg, rfl⟩ | ⟨k, ⟨h1, h2⟩, rfl⟩
        · have hall := (tail_all s dig).2 hg
          have hre : repS s = repB (rkS (headW s)) ((tailW s).map pz) := by
            unfold repS
            rw [hq, hall]
            simp [hl]
          have hir := call_rep (rest := []) rfl (by simp) (c_spec_IsReplay (rkS (headW s)) hr ((tailW s).map pz) true)
          have t3 := fun i n => repC_all hr (C.sl i 0 n 2)
          rw [hre]
          unfold spS
          rw [mK_end]
          rw [List.length_map] at hir
          cases hb : repB (rkS (headW s)) ((tailW s).map pz) with
          | false =>
            rw [hb] at hir
            rw [parX_f]
            simp [hr, t3, hir, z25_eq, setAt_all, z25_deadP, z25_takeP, z25_cmpP, sub]
          | true =>
            rw [hb] at hir
            simp [parX, parV, parR, parL, hr, t3, hir, z25_eq, z25_setAll hr, setAt_all, z25_deadP, z25_takeP, z25_cmpP, sub]
        · have e : repS s = false := by
            cases h : repS s with
            | false => rfl
            | true =>
              unfold repS at h
              simp only [Bool.and_eq_true] at h
              rw [(tail_all s dig).1 h.1.2 k h1] at h2
              cases h2
          have t3 := fun i n => repC_all hr (C.sl i 0 n 2)
          rw [e, parX_f]
          simp [spS, hr, t3, z25_eq, setAt_all, z25_deadP, z25_takeP, z25_cmpP, sub]
      · rintro k hk st (⟨hg, rfl⟩ | ⟨q, rfl, hqf, rfl⟩)
        · by_cases hkn : k = (tailW s).length
          · subst hkn
            right
            refine ⟨_, ?_, .inl ⟨hg, rfl⟩⟩
            simp [spS]
          · have hlt : k < (tailW s).length := by omega
            have hget := strs_tail (h := headW s) hlt
            have wk : IntKind.i64.wrap ((k : Int) + 1 + 1) = (k : Int) + 2 := by rw [wrapI (by omega) (by omega)]; omega
            have wk1 : IntKind.i64.wrap ((k : Int) + 1 + 1) = (k : Int) + 1 + 1 := wrapI (by omega) (by omega)
            have b1 : k + 1 ≤ (tailW s).length := by omega
            have z1 : (0 : Int) ≤ (k : Int) + 1 := by omega
            rw [Nat.add_comm 1 k] at hget
            have hlen := mK_len (s := s) hk
            have hms := mK_succ hlt
            left
            refine ⟨hlt, ?_⟩
            have hil : (k : Int) + 1 < ((tailW s).length : Int) + 1 := by omega
            have hnx : dig ((tailW s).getD k []) = true → ∀ j, j < k + 1 → dig ((tailW s).getD j []) = true := fun h2 j hj => by
              by_cases hjk : j = k
              · rw [hjk]; exact h2
              · exact hg j (by omega)
            have hbad : dig ((tailW s).getD k []) = false → SqI s (k + 1) (spS s false k (k + 2) []) := fun h2 => .inr ⟨k, rfl, h2, rfl⟩
            by_cases hp : ((tailW s).getD k []).length = 2
            · obtain ⟨a, b, hab⟩ := split2 _ hp
              rw [hab] at hget hms hnx hbad
              have hA := callA_pure (c_spec_l1In (a.toNat : Int) 48 53) (by simp) (by simp)
              have hB := callA_pure (c_spec_l1In (b.toNat : Int) 48 53) (by simp) (by simp)
              have la := UInt8.toNat_lt a
              have lb := UInt8.toNat_lt b
              have wa : IntKind.i64.wrap (a.toNat : Int) = (a.toNat : Int) := wrapI (by omega) (by omega)
              have wb : IntKind.i64.wrap (b.toNat : Int) = (b.toNat : Int) := wrapI (by omega) (by omega)
              have hdg : dig [a, b] = ((decide ((48 : Int) ≤ (a.toNat : Int)) && decide ((a.toNat : Int) ≤ 53)) && (decide ((48 : Int) ≤ (b.toNat : Int)) && decide ((b.toNat : Int) ≤ 53))) := by
                have x1 : ((48 : Int) ≤ (a.toNat : Int)) ↔ 48 ≤ a.toNat := by omega
                have x2 : ((a.toNat : Int) ≤ 53) ↔ a.toNat ≤ 53 := by omega
                have x3 : ((48 : Int) ≤ (b.toNat : Int)) ↔ 48 ≤ b.toNat := by omega
                have x4 : ((b.toNat : Int) ≤ 53) ↔ b.toNat ≤ 53 := by omega
                simp only [x1, x2, x3, x4]
                simp [dig, two]
              cases qa : (decide ((48 : Int) ≤ (a.toNat : Int)) && decide ((a.toNat : Int) ≤ 53)) with
              | false =>
                rw [qa] at hA hdg
                refine ⟨_, ?_, hbad (by rw [hdg]; rfl)⟩
                simp [spS, hlt, hil, hget, b1, z1, hA, wa, wk, z25_deadP, z25_cmpP, sub]
              | true =>
                rw [qa] at hA hdg
                cases qb : (decide ((48 : Int) ≤ (b.toNat : Int)) && decide ((b.toNat : Int) ≤ 53)) with
                | false =>
                  rw [qb] at hB hdg
                  refine ⟨_, ?_, hbad (by rw [hdg]; rfl)⟩
                  simp [spS, hlt, hil, hget, b1, z1, hA, hB, wa, wb, wk, z25_deadP, z25_cmpP, sub]
                | true =>
                  rw [qb] at hB hdg
                  simp only [Bool.and_eq_true, decide_eq_true_eq] at qa qb
                  have t2 := fun i n => repC_drop hr (C.sl i 0 n 2)
                  have t6 := fun i n d => repC_set hr (C.sl i 0 n 2) d
                  have hroom : k + 1 ≤ 68719476736 := by omega
                  have htk := cZ_take (mK s k)
                  rw [hlen] at htk
                  have u8w : ∀ x : Nat, 48 ≤ x → x < 256 → IntKind.u8.wrap ((x : Int) - 48) = (x : Int) - 48 := fun x h1 h2 => by
                    unfold IntKind.wrap IntKind.signed IntKind.bits
                    simp
                    omega
                  have ua := u8w a.toNat (by omega) la
                  have ub := u8w b.toNat (by omega) lb
                  have wa2 : IntKind.i64.wrap ((a.toNat : Int) - 48) = (a.toNat : Int) - 48 := wrapI (by omega) (by omega)
                  have wb2 : IntKind.i64.wrap ((b.toNat : Int) - 48) = (b.toNat : Int) - 48 := wrapI (by omega) (by omega)
                  have e1 : cZ (mK s k) ++ [C.int .i64 ((a.toNat : Int) - 48), C.int .i64 ((b.toNat : Int) - 48)] = cZ (mK s (k + 1)) := by rw [hms, cZ_app]; rfl
                  refine ⟨_, ?_, .inl ⟨hnx (by rw [hdg]; rfl), rfl⟩⟩
                  simp [spS, hlt, hil, hget, b1, z1, hA, hB, hr, t2, t6, hroom, htk, hlen, wa, wb, ua, ub, wa2, wb2, wk1, e1, z25_eq, setAt_all, setAt, z25_deadP, z25_takeP, z25_cmpP, sub]
            · have hdf : dig ((tailW s).getD k []) = false := by unfold dig two; rw [decide_eq_false hp]; rfl
              have hb2 := hbad hdf
              generalize (tailW s).getD k [] = w at *
              have hpI : ((w.length : Int) == 2) = false := by simp; omega
              refine ⟨_, ?_, hb2⟩
              simp [spS, hlt, hil, hget, b1, z1, hpI, wk, z25_deadP, z25_cmpP, sub]
        · right
          by_cases c1 : q + 1 < (tailW s).length
          · have c1I : (q : Int) + 1 + 1 < ((tailW s).length : Int) + 1 := by omega
            refine ⟨_, ?_, .inr ⟨q, ⟨by omega, hqf⟩, rfl⟩⟩
            simp [spS, c1, c1I]
            omega
          · have c1I : ¬ (q : Int) + 1 + 1 < ((tailW s).length : Int) + 1 := by omega
            refine ⟨_, ?_, .inr ⟨q, ⟨by omega, hqf⟩, rfl⟩⟩
            simp [spS, c1, c1I]
            omega
  · have hlI : (209 : Int) < (s.length : Int) := by omega
    have e : repS s = false := by unfold repS; simp [hl]
    rw [e, parX_f]
    simp [a20, hlI, hsp, g0, hpr, h24, hr, setAt_all, z25_eq, z25_deadP, z25_takeP, z25_cmpP, z25_set hr, sub]
end Go.Proofs.YthpookdfaikabaaGreatDoor.AM

/- What both read is the same; the law's contract. -/
namespace Go.Proofs.YthpookdfaikabaaGreatDoor.AM
open Go
set_option maxRecDepth 1000000
set_option linter.unusedSimpArgs false
set_option linter.unusedVariables false
theorem dig_two {w : List UInt8} (h : dig w = true) : two w = true := by
  unfold dig at h
  simp only [Bool.and_eq_true] at h
  exact h.1.1
theorem two_dig {w : List UInt8} {r : List Int} (h : two w = true) (hc : canZ r (pz w) = true) : dig w = true := by
  obtain ⟨i, j, e1, e2, hi, hj, _⟩ := canZ_facts hc
  unfold pz num at e1 e2
  simp only at e1 e2
  unfold dig
  rw [h]
  simp only [Bool.true_and, Bool.and_eq_true, decide_eq_true_eq]
  omega
theorem rep_same (s : List UInt8) : repI s = repS s := by
  cases hok : okS (headW s) with
  | false => unfold repI repS; rw [hok]; simp
  | true =>
    cases hb : repB (rkS (headW s)) ((tailW s).map pz) with
    | false => unfold repI repS; rw [hb]; simp
    | true =>
      have hb' := hb
      unfold repB at hb'
      simp only [Bool.and_eq_true, decide_eq_true_eq, List.length_map] at hb'
      obtain ⟨⟨_, hl⟩, hall⟩ := hb'
      have h61 : (splC 32 s).length ≤ 61 := by rw [headW_tailW]; simp; omega
      have hh := okS_len hok
      have hdt : (tailW s).all two = true → (tailW s).all dig = true ∧ s.length ≤ 209 := by
        intro h2
        constructor
        · rw [tail_all]
          intro j hj
          have h3 := (tail_all s two).1 h2 j hj
          unfold allCan at hall
          rw [List.all_eq_true] at hall
          have h4 := hall j (by simp; exact hj)
          rw [canAt_eq _ (by simpa using hj)] at h4
          rw [List.getElem_map] at h4
          rw [List.getD_eq_getElem?_getD, List.getElem?_eq_getElem hj] at h3 ⊢
          exact two_dig h3 h4
        · have h5 : s.length = (joinC 32 (headW s :: tailW s)).length := by rw [← headW_tailW, joinC_splC]
          rw [joinC_len 32 _ _ (fun y hy => by
            rw [List.all_eq_true] at h2
            have := h2 y hy
            simpa [two] using this)] at h5
          omega
      unfold repI repS
      rw [hok, hb]
      cases h2 : (tailW s).all two with
      | true =>
        obtain ⟨h3, h4⟩ := hdt h2
        rw [h3]
        simp [h61, h4]
      | false =>
        cases h3 : (tailW s).all dig with
        | false => simp
        | true =>
          exfalso
          have : (tailW s).all two = true := by
            rw [List.all_eq_true] at h3 ⊢
            exact fun x hx => dig_two (h3 x hx)
          rw [this] at h2
          cases h2
theorem parR_len (q : Bool) (s : List UInt8) : (parR q s).length = 24 := by
  unfold parR
  split
  · exact rkS_len _
  · simp
theorem parL_len (s : List UInt8) : (parL (repS s) s).length ≤ 60 := by
  unfold parL
  split
  · rename_i h
    unfold repS at h
    simp only [Bool.and_eq_true] at h
    exact (repB_facts (rkS_len _) h.2).2.1
  · simp
end Go.Proofs.YthpookdfaikabaaGreatDoor.AM

