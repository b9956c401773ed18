import Derived.Test.YtanbjhhaoolneaaDoorParseA
/- Contracts: the reference reads a rack. -/
namespace Go.Proofs.YtanbjhhaoolneaaDoor.AM
open Go
set_option maxRecDepth 1000000
set_option linter.unusedSimpArgs false
set_option linter.unusedVariables false
def okc (s : List UInt8) (j : Nat) : Prop := (j % 5 = 4 → s.getD j 0 = 47) ∧ (j % 5 < 4 → 0 ≤ sgB (s.getD j 0))
def rTi (s : List UInt8) (i : Nat) : List Int := (List.range 24).map fun j => if j / 4 * 5 + j % 4 < i then sgB (s.getD (j / 4 * 5 + j % 4) 0) else 0
@[simp] theorem rTi_len (s : List UInt8) (i : Nat) : (rTi s i).length = 24 := by simp [rTi]
theorem rTi_zero (s : List UInt8) : rTi s 0 = List.replicate 24 0 := by simp [rTi, List.range, List.range.loop]
theorem rTi_end (s : List UInt8) : rTi s 29 = rackT s := by
  unfold rTi rackT
  refine List.map_congr_left fun j hj => ?_
  rw [List.mem_range] at hj
  rw [if_pos (by omega)]
theorem rTi_skip (s : List UInt8) {i : Nat} (h : i % 5 = 4) : rTi s (i + 1) = rTi s i := by
  unfold rTi
  refine List.map_congr_left fun j hj => ?_
  have e : (j / 4 * 5 + j % 4 < i + 1) ↔ (j / 4 * 5 + j % 4 < i) := by omega
  simp only [e]
theorem rTi_set (s : List UInt8) {i : Nat} (h : i % 5 < 4) (hi : i < 29) : (rTi s i).set (i / 5 * 4 + i % 5) (sgB (s.getD i 0)) = rTi s (i + 1) := by
  refine List.ext_getElem (by simp) fun j h1 h2 => ?_
  rw [List.getElem_set]
  simp only [rTi, List.getElem_map, List.getElem_range]
  simp at h1
  by_cases hj : i / 5 * 4 + i % 5 = j
  · have e : j / 4 * 5 + j % 4 = i := by omega
    rw [if_pos hj, e, if_pos (by omega)]
  · rw [if_neg hj]
    have e : (j / 4 * 5 + j % 4 < i + 1) ↔ (j / 4 * 5 + j % 4 < i) := by omega
    simp only [e]
theorem goodT_iff (s : List UInt8) : goodT s = true ↔ s.length = 29 ∧ ∀ j, j < 29 → okc s j := by
  unfold goodT okc
  simp only [Bool.and_eq_true, decide_eq_true_eq, List.all_eq_true, List.mem_range]
  constructor
  · rintro ⟨h1, h2⟩
    refine ⟨h1, fun j hj => ?_⟩
    have := h2 j hj
    split at this
    · rename_i h5
      exact ⟨fun _ => by simpa using this, fun h => by omega⟩
    · exact ⟨fun h => by omega, fun _ => by simpa using this⟩
  · rintro ⟨h1, h2⟩
    refine ⟨h1, fun j hj => ?_⟩
    have := h2 j hj
    split
    · rename_i h5
      have h6 := this.1 h5
      simp only [beq_iff_eq]
      exact h6
    · simp only [decide_eq_true_eq]
      exact this.2 (by omega)
@[simp] theorem rackT_len (s : List UInt8) : (rackT s).length = 24 := by simp [rackT]
theorem rackT_take (s : List UInt8) : ((rackT s).map (C.int .i64)).take 24 = (rackT s).map (C.int .i64) := List.take_of_length_le (by simp)
theorem rTi_take (s : List UInt8) (i : Nat) : ((rTi s i).map (C.int .i64)).take 24 = (rTi s i).map (C.int .i64) := List.take_of_length_le (by simp)
def LpI (s : List UInt8) (i : Nat) (st : Env × Heap) : Prop := (∀ j, j < i → okc s j) ∧ st = ([(0, V.c (C.str s)), (2, V.c (C.ptr 0 0)), (4, V.c (C.ptr 1 0)), (5, V.c (C.int .i64 i))], [Blk.cells (List.replicate 24 (C.int .i64 0)) true, Blk.cells ((rTi s i).map (C.int .i64)) true])
def LpE (s : List UInt8) (r : Ex × Env × Heap) : Prop := ((∀ j, j < 29 → okc s j) ∧ r = (.exit 0, [(0, V.c (C.str s)), (2, V.c (C.ptr 0 0)), (4, V.c (C.ptr 1 0)), (5, V.c (C.int .i64 29)), (13, V.c (C.bool false))], [Blk.cells (List.replicate 24 (C.int .i64 0)) true, Blk.cells ((rTi s 29).map (C.int .i64)) true])) ∨ (∃ j, (j < 29 ∧ ¬ okc s j) ∧ r = (.ret, [(2, V.c (C.ptr 0 0)), (3, V.c (C.bool false))], [Blk.cells (List.replicate 24 (C.int .i64 0)) true, Blk.cells ((rTi s j).map (C.int .i64)) true]))
theorem c_spec_l2Parse (s : List UInt8) : fnI pr np 10 [.c (.str s)] [] = some (.tup [.agg ((rkS s).map (C.int .i64)), .c (.bool (okS s))], []) := by
  rw [fb (fn := a10) rfl rfl rfl]
  have z24 : List.map (C.int IntKind.i64) (List.replicate 24 0) = List.replicate 24 (C.int IntKind.i64 0) := by simp
  have hno : ∀ h : goodS s = false, okS s = false ∧ rkS s = List.replicate 24 0 := fun hT => by
    have e1 : okS s = false := by unfold okS; rw [hT]; rfl
    exact ⟨e1, by unfold rkS; rw [e1]; rfl⟩
  by_cases hl : s.length = 29
  · have hlI : (s.length : Int) = 29 := by omega
    simp [a10, hl, hlI, sub]
    generalize hX : exI pr np 0 (ACode.loop _ _) _ _ = X
    have hlp := loop_exit hX (LpI s) 29 (LpE s) ⟨([(0, V.c (C.str s)), (2, V.c (C.ptr 0 0)), (4, V.c (C.ptr 1 0)), (5, V.c (C.int .i64 0))], [Blk.cells (List.replicate 24 (C.int .i64 0)) true, Blk.cells (List.replicate 24 (C.int .i64 0)) true]), by simp [sub], fun j h => by omega, by rw [rTi_zero]; simp⟩ ?_
    · obtain ⟨r, rfl, hr⟩ := hlp
      rcases hr with ⟨hg, rfl⟩ | ⟨j, ⟨h1, h2⟩, rfl⟩
      · have hT : goodT s = true := (goodT_iff s).2 ⟨hl, hg⟩
        have hS := good_TS hT
        have hrk := callA_pure (c_rack_spec (rTi s 29) (by simp)) (by simp) (by simp)
        rw [rTi_end] at hrk
        cases hk : okRack (rackT s) with
        | true =>
          rw [hk] at hrk
          have e1 : okS s = true := by unfold okS; rw [hS.1, hS.2, hk]; rfl
          have e2 : rkS s = rackT s := by unfold rkS; rw [if_pos e1, hS.2]
          simp [e1, e2, rTi_end, rackT_take, setAt_all, hrk, sub]
        | false =>
          rw [hk] at hrk
          have e1 : okS s = false := by unfold okS; rw [hS.1, hS.2, hk]; rfl
          have e2 : rkS s = List.replicate 24 0 := by unfold rkS; rw [e1]; rfl
          simp [e1, e2, rTi_end, rackT_take, setAt_all, hrk, sub]
      · have hT : goodS s = false := by
          rw [good_eq]
          cases h : goodT s with
          | false => rfl
          | true =>
            exact absurd (((goodT_iff s).1 h).2 j h1) h2
        obtain ⟨e1, e2⟩ := hno hT
        simp [e1, e2, sub]
    · rintro i hi st ⟨hg, rfl⟩
      by_cases hi29 : i = 29
      · subst hi29
        right
        simp
        exact .inl ⟨hg, rfl⟩
      · have hilt : i < 29 := by omega
        have hil : i < s.length := by omega
        have hI : ((i : Int) < 29) := by omega
        have wi := wrapS (k := i) (by omega)
        have hsg := callA_pure (c_spec_l2Sign (s[i]'hil).toNat) (by simp) (by simp)
        have hgd : s.getD i 0 = s[i]'hil := by rw [List.getD_eq_getElem?_getD, List.getElem?_eq_getElem hil]; rfl
        obtain ⟨m, hmm⟩ : ∃ m, m = i % 5 := ⟨_, rfl⟩
        obtain ⟨q, hqq⟩ : ∃ q, q = i / 5 := ⟨_, rfl⟩
        have hm : (i : Int).tmod 5 = (m : Int) := by rw [hmm]; rfl
        have hd : (i : Int).tdiv 5 = (q : Int) := by rw [hqq]; rfl
        have hq6 : q < 6 := by omega
        have hq6I : (q : Int) < 6 := by omega
        generalize hb : s[i]'hil = b at *
        by_cases h5 : i % 5 = 4
        · have h4 : ¬ (m : Int) < 4 := by omega
          have h5I : (m : Int) = 4 := by omega
          have h5B : ((m : Int) == 4) = true := by simp; omega
          by_cases hc : b = 47
          · have hcI : (b.toNat : Int) = 47 := by rw [hc]; rfl
            have hcN : ((b.toNat : Int) != 47) = false := by rw [hcI]; rfl
            left
            refine ⟨hilt, ?_⟩
            simp [hil, hb, hI, hsg, hcN, hm, h5I, h5B, h4, wi, sub]
            refine ⟨fun j hj => ?_, by rw [rTi_skip s h5]; rfl⟩
            by_cases hji : j = i
            · subst hji
              exact ⟨fun _ => by rw [hgd, hc], fun h => by omega⟩
            · exact hg j (by omega)
          · have hcI : ¬ (b.toNat : Int) = 47 := fun h => hc (UInt8.toNat_inj.1 (by simp; omega))
            have hcN : ((b.toNat : Int) != 47) = true := by simpa using hcI
            right
            simp [hil, hb, hI, hsg, hcN, hm, h5I, h5B, h4, wi, sub]
            exact .inr ⟨i, ⟨hilt, fun h => hc (by rw [← hgd]; exact h.1 h5)⟩, rfl⟩
        · have h54 : i % 5 < 4 := by omega
          have hm4 : m < 4 := by omega
          have h4 : (m : Int) < 4 := by omega
          have h5I : ¬ (m : Int) = 4 := by omega
          have h5B : ((m : Int) == 4) = false := by simp; omega
          by_cases hc : 0 ≤ sgB b
          · have hcI : ¬ sgn b.toNat < 0 := by show ¬ sgB b < 0; omega
            have hset := rTi_set s h54 hilt
            rw [hgd, ← hmm, ← hqq] at hset
            have hsetC : ((rTi s i).map (C.int .i64)).set (q * 4 + m) (C.int .i64 (sgn b.toNat)) = (rTi s (i + 1)).map (C.int .i64) := by rw [← List.map_set, ← hset]; rfl
            have wq : IntKind.i64.wrap (q : Int) = (q : Int) := wrapI (by omega) (by omega)
            have hle : q * 4 + m ≤ 23 := by omega
            left
            refine ⟨hilt, ?_⟩
            simp [hil, hb, hI, hsg, hcI, hm, hd, h5I, h5B, h4, hm4, hq6, hq6I, hle, wq, hsetC, wi, sub]
            refine ⟨fun j hj => ?_, rfl⟩
            by_cases hji : j = i
            · subst hji
              exact ⟨fun h => by omega, fun _ => by rw [hgd]; exact hc⟩
            · exact hg j (by omega)
          · have hcI : sgn b.toNat < 0 := by show sgB b < 0; omega
            right
            simp [hil, hb, hI, hsg, hcI, hm, h5I, h5B, h4, wi, sub]
            exact .inr ⟨i, ⟨hilt, fun h => hc (by rw [← hgd]; exact h.2 h54)⟩, rfl⟩
  · have hlI : ¬ (s.length : Int) = 29 := by omega
    have hT : goodS s = false := by
      rw [good_eq]
      unfold goodT
      simp [hl]
    obtain ⟨e1, e2⟩ := hno hT
    simp [a10, hl, hlI, e1, e2, sub]
end Go.Proofs.YtanbjhhaoolneaaDoor.AM
