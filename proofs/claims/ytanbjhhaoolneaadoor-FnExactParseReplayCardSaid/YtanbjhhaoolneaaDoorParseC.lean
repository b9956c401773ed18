import Derived.Test.YtanbjhhaoolneaaDoorParseB
/- Contracts: the implementation reads a rack. -/
namespace Go.Proofs.YtanbjhhaoolneaaDoor.AM
open Go
set_option maxRecDepth 1000000
set_option linter.unusedSimpArgs false
set_option linter.unusedVariables false
theorem c_split (s : List UInt8) (hs : s.length ≤ 1048576) (c : UInt8) : fnI pr np 13 [.c (.str s), .c (.str [c])] [] = some (.c (.sl 0 0 (splC c s).length 1), [.cells (strs (splC c s)) true]) := by
  refine (fnI_iff pr np).2 ⟨1, ?_⟩
  show (if s.length < 4294967281 then some (V.c (.sl 0 0 (splC c s).length 1), [Blk.cells (strs (splC c s)) true]) else none) = _
  rw [if_pos (by omega)]
theorem strs_get {P : List (List UInt8)} {k : Nat} (hk : k < P.length) : ((strs P).drop k).take 1 = [C.str (P.getD k [])] := by
  unfold strs
  rw [List.drop_eq_getElem_cons (by simpa using hk)]
  simp [List.getD_eq_getElem?_getD, List.getElem?_eq_getElem hk]
theorem bytesG {s : List UInt8} {k : Nat} (hk : k < s.length) : ((bytesC s).drop k).take 1 = [C.int .u8 (s.getD k 0).toNat] := by
  unfold bytesC
  rw [List.drop_eq_getElem_cons (by simpa using hk)]
  simp [List.getD_eq_getElem?_getD, List.getElem?_eq_getElem hk]
@[simp] theorem bC_len (s : List UInt8) : (bytesC s).length = s.length := by simp [bytesC]
@[simp] theorem bC_ids (s : List UInt8) : cids (bytesC s) = [] := by
  induction s with
  | nil => rfl
  | cons x s ih => simp only [bytesC, List.map_cons, cids] at ih ⊢; rw [ih]; rfl
@[simp] theorem bC_cmp (g : Nat → Nat) (s : List UInt8) : cmp g (bytesC s) = bytesC s := cmp_pure (bC_ids s)
@[simp] theorem bC_dead (s : List UInt8) : noDead (bytesC s) = true := by
  induction s with
  | nil => rfl
  | cons x s ih => simp only [bytesC, List.map_cons, noDead] at ih ⊢; exact ih
def rP (P : List (List UInt8)) (i k : Nat) : List Int := (List.range 24).map fun j => if j / 4 < i ∨ (j / 4 = i ∧ j % 4 < k) then sgB ((P.getD (j / 4) []).getD (j % 4) 0) else 0
@[simp] theorem rP_len (P : List (List UInt8)) (i k : Nat) : (rP P i k).length = 24 := by simp [rP]
theorem rP_zero (P : List (List UInt8)) : rP P 0 0 = List.replicate 24 0 := by simp [rP, List.range, List.range.loop]
theorem rP_next (P : List (List UInt8)) (i : Nat) : rP P i 4 = rP P (i + 1) 0 := by
  unfold rP
  refine List.map_congr_left fun j hj => ?_
  have e : (j / 4 < i ∨ (j / 4 = i ∧ j % 4 < 4)) ↔ (j / 4 < i + 1 ∨ (j / 4 = i + 1 ∧ j % 4 < 0)) := by omega
  simp only [e]
theorem rP_set (P : List (List UInt8)) {i k : Nat} (hi : i < 6) (hk : k < 4) : (rP P i k).set (i * 4 + k) (sgB ((P.getD i []).getD k 0)) = rP P i (k + 1) := by
  refine List.ext_getElem (by simp) fun j h1 h2 => ?_
  rw [List.getElem_set]
  simp only [rP, List.getElem_map, List.getElem_range]
  by_cases hj : i * 4 + k = j
  · have e1 : j / 4 = i := by omega
    have e2 : j % 4 = k := by omega
    rw [if_pos hj, e1, e2, if_pos (by omega)]
  · rw [if_neg hj]
    have e : (j / 4 < i ∨ (j / 4 = i ∧ j % 4 < k + 1)) ↔ (j / 4 < i ∨ (j / 4 = i ∧ j % 4 < k)) := by omega
    simp only [e]
theorem rP_dot (P : List (List UInt8)) {i k : Nat} (hi : i < 6) (hk : k < 4) (h : sgB ((P.getD i []).getD k 0) = 0) : rP P i k = rP P i (k + 1) := by
  unfold rP
  refine List.map_congr_left fun j hj => ?_
  by_cases hj : i * 4 + k = j
  · have e1 : j / 4 = i := by omega
    have e2 : j % 4 = k := by omega
    rw [e1, e2, h]
    simp
  · have e : (j / 4 < i ∨ (j / 4 = i ∧ j % 4 < k + 1)) ↔ (j / 4 < i ∨ (j / 4 = i ∧ j % 4 < k)) := by omega
    simp only [e]
theorem rP_end {s : List UInt8} (h : goodS s = true) : rP (splC 47 s) 6 0 = rackS s := by
  unfold goodS at h
  simp only [Bool.and_eq_true, decide_eq_true_eq] at h
  obtain ⟨hl, h⟩ := h
  unfold rackS
  generalize splC 47 s = P at *
  match P, hl, h with
  | [p0, p1, p2, p3, p4, p5], _, h =>
    simp only [List.all_cons, List.all_nil, Bool.and_true, Bool.and_eq_true, goodP, decide_eq_true_eq] at h
    obtain ⟨⟨l0, g0⟩, ⟨l1, g1⟩, ⟨l2, g2⟩, ⟨l3, g3⟩, ⟨l4, g4⟩, ⟨l5, g5⟩⟩ := h
    obtain ⟨_, _, _, _, rfl⟩ := split4 p0 l0
    obtain ⟨_, _, _, _, rfl⟩ := split4 p1 l1
    obtain ⟨_, _, _, _, rfl⟩ := split4 p2 l2
    obtain ⟨_, _, _, _, rfl⟩ := split4 p3 l3
    obtain ⟨_, _, _, _, rfl⟩ := split4 p4 l4
    obtain ⟨_, _, _, _, rfl⟩ := split4 p5 l5
    simp [rP, List.range, List.range.loop]
def zz : Blk := .cells (List.replicate 24 (C.int .i64 0)) true
def failR (r : Ex × Env × Heap) : Prop := ∃ (h : Heap), r = (.ret, [(2, V.c (C.ptr 0 0)), (3, V.c (C.bool false))], zz :: h)
def PrI (P : List (List UInt8)) (i : Nat) (st : Env × Heap) : Prop := (∀ j, j < i → goodP (P.getD j []) = true) ∧ st = ([(2, V.c (C.ptr 0 0)), (5, V.c (C.ptr 1 0)), (16, V.c (C.sl 2 0 6 1)), (17, V.c (C.int .i64 6)), (18, V.c (C.int .i64 i))], [zz, Blk.cells ((rP P i 0).map (C.int .i64)) true, Blk.cells (strs P) true])
def PrE (P : List (List UInt8)) (r : Ex × Env × Heap) : Prop := ((∀ j, j < 6 → goodP (P.getD j []) = true) ∧ r = (.exit 0, [(2, V.c (C.ptr 0 0)), (5, V.c (C.ptr 1 0)), (16, V.c (C.sl 2 0 6 1)), (17, V.c (C.int .i64 6)), (18, V.c (C.int .i64 6)), (19, V.c (C.bool false))], [zz, Blk.cells ((rP P 6 0).map (C.int .i64)) true, Blk.cells (strs P) true])) ∨ ((∃ j, j < 6 ∧ goodP (P.getD j []) = false) ∧ failR r)
def PqI (P : List (List UInt8)) (i k : Nat) (st : Env × Heap) : Prop := (∀ j, j < k → 0 ≤ sgB ((P.getD i []).getD j 0)) ∧ st = ([(2, V.c (C.ptr 0 0)), (5, V.c (C.ptr 1 0)), (6, V.c (C.int .i64 i)), (16, V.c (C.sl 2 0 6 1)), (17, V.c (C.int .i64 6)), (18, V.c (C.int .i64 i)), (28, V.c (C.sl 3 0 4 1)), (29, V.c (C.int .i64 4)), (30, V.c (C.int .i64 k))], [zz, Blk.cells ((rP P i k).map (C.int .i64)) true, Blk.cells (strs P) true, Blk.cells (bytesC (P.getD i [])) true])
def PqE (P : List (List UInt8)) (i : Nat) (r : Ex × Env × Heap) : Prop := ((∀ j, j < 4 → 0 ≤ sgB ((P.getD i []).getD j 0)) ∧ r = (.exit 2, [(2, V.c (C.ptr 0 0)), (5, V.c (C.ptr 1 0)), (6, V.c (C.int .i64 i)), (16, V.c (C.sl 2 0 6 1)), (17, V.c (C.int .i64 6)), (18, V.c (C.int .i64 i)), (28, V.c (C.sl 3 0 4 1)), (29, V.c (C.int .i64 4)), (30, V.c (C.int .i64 4)), (31, V.c (C.bool false))], [zz, Blk.cells ((rP P i 4).map (C.int .i64)) true, Blk.cells (strs P) true, Blk.cells (bytesC (P.getD i [])) true])) ∨ ((∃ j, j < 4 ∧ ¬ 0 ≤ sgB ((P.getD i []).getD j 0)) ∧ failR r)
theorem goodP_iff (p : List UInt8) : goodP p = true ↔ p.length = 4 ∧ ∀ j, j < 4 → 0 ≤ sgB (p.getD j 0) := by
  unfold goodP
  simp only [Bool.and_eq_true, decide_eq_true_eq, List.all_eq_true]
  constructor
  · rintro ⟨h1, h2⟩
    refine ⟨h1, fun j hj => ?_⟩
    have hj' : j < p.length := by omega
    have := h2 (p[j]) (List.getElem_mem hj')
    rw [List.getD_eq_getElem?_getD, List.getElem?_eq_getElem hj']
    simpa using this
  · rintro ⟨h1, h2⟩
    refine ⟨h1, fun x hx => ?_⟩
    obtain ⟨j, hj⟩ := List.getElem?_of_mem hx
    have hj' := (List.getElem?_eq_some_iff.1 hj).1
    have := h2 j (by omega)
    rw [List.getD_eq_getElem?_getD, hj] at this
    exact this
theorem c_impl_parseRack (s : List UInt8) (hs : s.length ≤ 1048576) : fnI pr np 14 [.c (.str s)] [] = some (.tup [.agg ((rkS s).map (C.int .i64)), .c (.bool (okS s))], []) := by
  have hsp := callA_new (c_split s hs 47) (by simp)
  rw [fb (fn := a14) rfl rfl rfl]
  have hno : ∀ h : goodS s = false, okS s = false ∧ rkS s = List.replicate 24 0 := fun hT => by
    have e1 : okS s = false := by unfold okS; rw [hT]; rfl
    exact ⟨e1, by unfold rkS; rw [e1]; rfl⟩
  by_cases hl : (splC 47 s).length = 6
  · have hP : goodS s = (splC 47 s).all goodP := by unfold goodS; simp [hl]
    have hend : goodS s = true → rP (splC 47 s) 6 0 = rackS s := rP_end
    generalize splC 47 s = P at *
    simp [a14, hsp, hl, sub]
    generalize hX : exI pr np 0 (ACode.loop _ _) _ _ = X
    have hlp := loop_exit hX (PrI P) 6 (PrE P) ⟨_, by simp [sub, zz]; rfl, fun j h => by omega, by rw [rP_zero]; rfl⟩ ?_
    · obtain ⟨r, rfl, hr⟩ := hlp
      rcases hr with ⟨hg, rfl⟩ | ⟨⟨j, h1, h2⟩, h, rfl⟩
      · have hT : goodS s = true := by
          rw [hP, List.all_eq_true]
          intro p hp
          obtain ⟨j, hj⟩ := List.getElem?_of_mem hp
          have hj' := (List.getElem?_eq_some_iff.1 hj).1
          have := hg j (by omega)
          rwa [List.getD_eq_getElem?_getD, hj] at this
        have hS := hend hT
        have hlen : (rackS s).length = 24 := good_len hT
        have htk : ((rackS s).map (C.int .i64)).take 24 = (rackS s).map (C.int .i64) := List.take_of_length_le (by simp [hlen])
        have hrk := callA_pure (c_rack_impl (rackS s) hlen) (by simp) (by simp)
        cases hk : okRack (rackS s) with
        | true =>
          rw [hk] at hrk
          have e1 : okS s = true := by unfold okS; rw [hT, hk]; rfl
          have e2 : rkS s = rackS s := by unfold rkS; rw [if_pos e1]
          simp [e1, e2, hS, zz, hlen, htk, setAt_all, hrk, sub]
        | false =>
          rw [hk] at hrk
          have e1 : okS s = false := by unfold okS; rw [hT, hk]; rfl
          have e2 : rkS s = List.replicate 24 0 := by unfold rkS; rw [e1]; rfl
          simp [e1, e2, hS, zz, hlen, htk, setAt_all, hrk, sub]
      · have hT : goodS s = false := by
          rw [hP]
          cases h : P.all goodP with
          | false => rfl
          | true =>
            rw [List.all_eq_true] at h
            have hj' : j < P.length := by omega
            have := h (P[j]) (List.getElem_mem hj')
            rw [List.getD_eq_getElem?_getD, List.getElem?_eq_getElem hj'] at h2
            simp [this] at h2
        obtain ⟨e1, e2⟩ := hno hT
        simp [e1, e2, zz, sub]
    · rintro i hi st ⟨hg, rfl⟩
      by_cases hi6 : i = 6
      · subst hi6
        right
        simp
        exact .inl ⟨hg, rfl⟩
      · have hilt : i < 6 := by omega
        have hI : ((i : Int) < 6) := by omega
        have wi := wrapS (k := i) (by omega)
        have hget := strs_get (P := P) (k := i) (by omega)
        have b1 : i + 1 ≤ P.length := by omega
        have b5 : i ≤ 5 := by omega
        obtain ⟨p, hp⟩ : ∃ p, p = P.getD i [] := ⟨_, rfl⟩
        rw [← hp] at hget
        by_cases hp4 : p.length = 4
        · have hp4I : (p.length : Int) = 4 := by omega
          generalize hB : exI pr np 0 _ _ _ = B
          simp [hI, hget, hl, b1, b5, hilt, hp4, hp4I, zz, sub] at hB
          generalize hY : exI pr np 0 (ACode.loop _ _) _ _ = Y at hB
          have hlq := loop_exit hY (PqI P i) 4 (PqE P i) ⟨_, by simp [sub, zz, hp4]; rfl, fun j h => by omega, by rw [← hp]; rfl⟩ ?_
          · obtain ⟨r, rfl, hr⟩ := hlq
            rcases hr with ⟨hq, rfl⟩ | ⟨⟨j, h1, h2⟩, h, rfl⟩
            · simp [wi, sub] at hB
              subst hB
              left
              refine ⟨hilt, ?_⟩
              simp [hp4, zz, b5, wi, sub]
              refine ⟨fun j hj => ?_, by rw [rP_next]; rfl⟩
              by_cases hji : j = i
              · subst hji
                exact (goodP_iff _).2 ⟨by rw [← hp]; exact hp4, hq⟩
              · exact hg j (by omega)
            · simp [sub] at hB
              subst hB
              right
              refine ⟨_, by simp [zz, sub], .inr ⟨⟨i, hilt, ?_⟩, h, rfl⟩⟩
              cases hgp : goodP (P.getD i []) with
              | false => rfl
              | true => exact absurd (((goodP_iff _).1 hgp).2 j h1) h2
          · rintro k hk st ⟨hg2, rfl⟩
            rw [← hp]
            by_cases hk4 : k = 4
            · subst hk4
              right
              simp
              exact .inl ⟨hg2, by rw [← hp]⟩
            · have hklt : k < 4 := by omega
              have hkI : ((k : Int) < 4) := by omega
              have wk := wrapS (k := k) (by omega)
              have hgk := bytesG (s := p) (k := k) (by omega)
              have b2 : k + 1 ≤ p.length := by omega
              have hgd : sgB ((P.getD i []).getD k 0) = sgB (p.getD k 0) := by rw [hp]
              have hx := sgn_facts (p.getD k 0).toNat
              have hxl := UInt8.toNat_lt (p.getD k 0)
              have hset := rP_set P hilt hklt
              have hdot := rP_dot P hilt hklt
              rw [hgd] at hset hdot
              have hsgd : sgB (p.getD k 0) = sgn (p.getD k 0).toNat := rfl
              rw [hsgd] at hset hdot hgd
              have hsetC : ((rP P i k).map (C.int .i64)).set (i * 4 + k) (C.int .i64 (sgn (p.getD k 0).toNat)) = (rP P i (k + 1)).map (C.int .i64) := by rw [← List.map_set, ← hset]
              have hle : i * 4 + k ≤ 23 := by omega
              have k3 : k ≤ 3 := by omega
              generalize (p.getD k 0).toNat = x at *
              have hstep : 0 ≤ sgn x → ∀ j, j < k + 1 → 0 ≤ sgB ((P.getD i []).getD j 0) := fun h0 j hj => by
                by_cases hjk : j = k
                · subst hjk; rw [hgd]; exact h0
                · exact hg2 j (by omega)
              by_cases h97 : 97 ≤ x ∧ x ≤ 101
              · have hs : sgn x = (x : Int) - 96 := by unfold sgn; rw [if_neg (by omega), if_pos h97]
                have w1 : IntKind.u8.wrap ((x : Int) - 97) = (x : Int) - 97 := by
                  unfold IntKind.wrap IntKind.signed IntKind.bits
                  simp
                  omega
                have w2 : IntKind.i64.wrap ((x : Int) - 97) = (x : Int) - 97 := wrapI (by omega) (by omega)
                have w3 : IntKind.i64.wrap ((x : Int) - 97 + 1) = sgn x := by rw [hs, wrapI (by omega) (by omega)]; omega
                have c1 : (97 : Int) ≤ (x : Int) := by omega
                have c2 : (x : Int) < 102 := by omega
                left
                refine ⟨hklt, ?_⟩
                simp [hkI, hgk, hp4, b2, hklt, hilt, hI, hle, hsetC, k3, c1, c2, w1, w2, w3, wk, zz, sub]
                exact ⟨hstep (by rw [hs]; omega), by rw [← hp]; rfl⟩
              · by_cases h46 : x = 46
                · subst h46
                  have hcN : ((46 : Int) != 46) = false := by decide
                  left
                  refine ⟨hklt, ?_⟩
                  have s46 : sgn 46 = 0 := by decide
                  simp [hkI, hgk, hp4, b2, hklt, k3, hcN, wk, zz, sub]
                  exact ⟨hstep (by rw [s46]; omega), by rw [← hp, ← hdot s46]; rfl⟩
                · have hcN : ((x : Int) != 46) = true := by simp; omega
                  have hng : ¬ 0 ≤ sgn x := by
                    unfold sgn
                    rw [if_neg h46, if_neg h97]
                    omega
                  right
                  by_cases c1 : (97 : Int) ≤ (x : Int)
                  · have c2 : ¬ (x : Int) < 102 := by omega
                    simp [hkI, hgk, hp4, b2, hklt, k3, c1, c2, hcN, wk, zz, sub]
                    exact .inr ⟨⟨k, hklt, by rw [hgd]; exact hng⟩, _, rfl⟩
                  · simp [hkI, hgk, hp4, b2, hklt, k3, c1, hcN, wk, zz, sub]
                    exact .inr ⟨⟨k, hklt, by rw [hgd]; exact hng⟩, _, rfl⟩
        · have hp4I : ¬ (p.length : Int) = 4 := by omega
          generalize hB : exI pr np 0 _ _ _ = B
          simp [hI, hget, hl, b1, b5, hilt, hp4, hp4I, zz, sub] at hB
          subst hB
          right
          refine ⟨_, by simp [zz, sub]; rfl, .inr ⟨⟨i, hilt, ?_⟩, _, rfl⟩⟩
          rw [← hp]
          unfold goodP
          simp [hp4]
  · have hlI : ¬ ((splC 47 s).length : Int) = 6 := by omega
    have hT : goodS s = false := by
      unfold goodS
      simp [hl]
    obtain ⟨e1, e2⟩ := hno hT
    simp [a14, hsp, hl, hlI, e1, e2, sub]
end Go.Proofs.YtanbjhhaoolneaaDoor.AM
