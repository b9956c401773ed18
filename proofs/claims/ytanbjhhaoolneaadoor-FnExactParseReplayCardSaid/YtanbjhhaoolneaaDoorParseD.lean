import Derived.Test.YtanbjhhaoolneaaDoorParseC
import Derived.Test.YtanbjhhaoolneaaDoorRepLaws
import Derived.Test.YtanbjhhaoolneaaDoorRepRes
/- Contracts: the implementation reads a replay. -/
namespace Go.Proofs.YtanbjhhaoolneaaDoor.AM
open Go
set_option maxRecDepth 1000000
set_option linter.unusedSimpArgs false
set_option linter.unusedVariables false
theorem splC_mem_len (c : UInt8) : ∀ s : List UInt8, ∀ p ∈ splC c s, p.length ≤ s.length
  | [], p, hp => by
    simp [splC] at hp
    simp [hp]
  | b :: s, p, hp => by
    have ih := splC_mem_len c s
    obtain ⟨x, r, hx⟩ : ∃ x r, splC c s = x :: r := by
      cases hc : splC c s with
      | nil => exact absurd hc (splC_ne c s)
      | cons x r => exact ⟨x, r, rfl⟩
    by_cases h : b = c
    · subst h
      have e : splC b (b :: s) = [] :: splC b s := by simp [splC]
      rw [e] at hp
      rcases List.mem_cons.1 hp with h1 | h1
      · subst h1; simp
      · have := ih p h1; simp; omega
    · rw [splC_cons h s x r hx] at hp
      rcases List.mem_cons.1 hp with h1 | h1
      · subst h1
        have := ih x (by rw [hx]; simp)
        simp; omega
      · have := ih p (by rw [hx]; simp [h1])
        simp; omega
theorem headW_len (s : List UInt8) : (headW s).length ≤ s.length := splC_mem_len 32 s _ (by rw [headW_tailW]; simp)
theorem strs_tail {h : List UInt8} {T : List (List UInt8)} {k : Nat} (hk : k < T.length) : ((strs (h :: T)).drop (1 + k)).take 1 = [C.str (T.getD k [])] := by
  have := strs_get (P := h :: T) (k := k + 1) (by simp; omega)
  rw [Nat.add_comm 1 k, this]
  simp
def parV (r : List Int) (m : List (Int × Int)) (q : Bool) : V := .tup [.agg (r.map (C.int .i64) ++ [C.sl 0 0 m.length 2]), .c (.bool q)]
def parR (q : Bool) (s : List UInt8) : List Int := if q = true then rkS (headW s) else List.replicate 24 0
def parL (q : Bool) (s : List UInt8) : List (Int × Int) := if q = true then (tailW s).map pz else []
def parX (q : Bool) (s : List UInt8) : Option (V × Heap) := some (parV (parR q s) (parL q s) q, [.cells (cZ (parL q s)) true])
theorem parX_f (s : List UInt8) : parX false s = some (.tup [.agg (z25 0), .c (.bool false)], [.cells [] true]) := by
  simp [parX, parV, parR, parL, cZ_nil, z25]
theorem z25_dead (i : Nat) : noDead (z25 i) = true := rfl
theorem z25_take (i : Nat) : (z25 i).take 25 = z25 i := rfl
theorem z25_cmp (g : Nat → Nat) (i : Nat) : cmp g (z25 i) = z25 (g i) := rfl
def mK (s : List UInt8) (k : Nat) : List (Int × Int) := ((tailW s).take k).map pz
theorem mK_len {s : List UInt8} {k : Nat} (hk : k ≤ (tailW s).length) : (mK s k).length = k := by simp [mK]; omega
theorem mK_end (s : List UInt8) : mK s (tailW s).length = (tailW s).map pz := by unfold mK; rw [List.take_length]
theorem mK_succ {s : List UInt8} {k : Nat} (hk : k < (tailW s).length) : mK s (k + 1) = mK s k ++ [pz ((tailW s).getD k [])] := by
  unfold mK
  rw [List.take_add_one, List.getElem?_eq_getElem hk, List.map_append, List.getD_eq_getElem?_getD, List.getElem?_eq_getElem hk]
  rfl
theorem split2 : ∀ s : List UInt8, s.length = 2 → ∃ a b, s = [a, b]
  | [a, b], _ => ⟨_, _, rfl⟩
def ipH (s : List UInt8) (k e : Nat) : Heap := [Blk.cells (z25 e) true, Blk.cells ((rkS (headW s)).map (C.int .i64) ++ [C.sl 4 0 k 2]) true, Blk.cells (strs (headW s :: tailW s)) true, Blk.cells [] true, Blk.cells (cZ (mK s k)) true]
def IpI (s : List UInt8) (k : Nat) (st : Env × Heap) : Prop := (∀ j, j < k → two ((tailW s).getD j []) = true) ∧ st = ([(2, V.c (C.ptr 0 0)), (7, V.c (C.ptr 1 0)), (30, V.c (C.sl 2 1 (tailW s).length 1)), (31, V.c (C.int .i64 (tailW s).length)), (32, V.c (C.int .i64 k))], ipH s k 3)
def IpE (s : List UInt8) (r : Ex × Env × Heap) : Prop := ((∀ j, j < (tailW s).length → two ((tailW s).getD j []) = true) ∧ r = (.exit 0, [(2, V.c (C.ptr 0 0)), (7, V.c (C.ptr 1 0)), (30, V.c (C.sl 2 1 (tailW s).length 1)), (31, V.c (C.int .i64 (tailW s).length)), (32, V.c (C.int .i64 (tailW s).length)), (33, V.c (C.bool false))], ipH s (tailW s).length 3)) ∨ (∃ k, (k < (tailW s).length ∧ two ((tailW s).getD k []) = false) ∧ r = (.ret, [(2, V.c (C.ptr 0 0)), (3, V.c (C.bool false))], ipH s k 5 ++ [Blk.cells [] true]))
theorem tail_all (s : List UInt8) (f : List UInt8 → Bool) : (tailW s).all f = true ↔ ∀ j, j < (tailW s).length → f ((tailW s).getD j []) = true := by
  rw [List.all_eq_true]
  constructor
  · intro h j hj
    rw [List.getD_eq_getElem?_getD, List.getElem?_eq_getElem hj]
    exact h _ (List.getElem_mem hj)
  · intro h x hx
    obtain ⟨j, hj⟩ := List.getElem?_of_mem hx
    have := h j (List.getElem?_eq_some_iff.1 hj).1
    rw [List.getD_eq_getElem?_getD, hj] at this
    exact this
theorem c_impl_ParseReplay (s : List UInt8) (hs : s.length ≤ 1048576) : fnI pr np 5 [.c (.str s)] [] = parX (repI s) s := by
  have hsp := callA_new (c_split s hs 32) (by simp)
  have hpr := callA_pure (c_impl_parseRack (headW s) (Nat.le_trans (headW_len s) hs)) (by simp) (by simp)
  have h24 := take24 (rkS_len (headW s))
  have hr := rkS_len (headW s)
  rw [fb (fn := a5) rfl rfl rfl]
  have g0 := strs_get (P := headW s :: tailW s) (k := 0) (by simp)
  simp at g0
  rw [headW_tailW] at hsp
  cases hq : okS (headW s) with
  | false =>
    have e : repI s = false := by unfold repI; rw [hq]; rfl
    rw [hq] at hpr
    rw [e, parX_f]
    simp [a5, hsp, g0, hpr, h24, hr, setAt_all, z25_eq, z25_dead, z25_take, z25_cmp, z25_set hr, sub]
  | true =>
    rw [hq] at hpr
    by_cases hn : (tailW s).length ≤ 60
    · have hnI : ¬ (61 : Int) < ((tailW s).length : Int) + 1 := by omega
      have c1 : (1 : Int) ≤ ((tailW s).length : Int) + 1 := by omega
      simp [a5, hsp, g0, hpr, h24, hr, setAt_all, z25_eq, z25_dead, z25_take, z25_cmp, z25_set hr, hnI, c1, sub]
      generalize hX : exI pr np 0 (ACode.loop _ _) _ _ = X
      have hlp := loop_exit hX (IpI s) (tailW s).length (IpE s) ⟨_, by simp [sub, hr, z25_dead, z25_take, z25_cmp]; rfl, fun j h => by omega, rfl⟩ ?_
      · obtain ⟨r, rfl, hx⟩ := hlp
        rcases hx with ⟨hg, rfl⟩ | ⟨k, ⟨h1, h2⟩, rfl⟩
        · have hall := (tail_all s two).2 hg
          have hre : repI s = repB (rkS (headW s)) ((tailW s).map pz) := by
            unfold repI
            rw [hq, hall, headW_tailW]
            simp [hn]
          have hir := call_rep (rest := []) rfl (by simp) (c_impl_IsReplay (rkS (headW s)) hr ((tailW s).map pz) true)
          have t3 := fun i n => repC_all hr (C.sl i 0 n 2)
          rw [hre]
          unfold ipH
          rw [mK_end]
          rw [List.length_map] at hir
          cases hb : repB (rkS (headW s)) ((tailW s).map pz) with
          | false =>
            rw [hb] at hir
            rw [parX_f]
            simp [hr, t3, hir, z25_eq, setAt_all, z25_dead, z25_take, z25_cmp, sub]
          | true =>
            rw [hb] at hir
            simp [parX, parV, parR, parL, hr, t3, hir, z25_eq, z25_setAll hr, setAt_all, z25_dead, z25_take, z25_cmp, sub]
        · have e : repI s = false := by
            cases h : repI s with
            | false => rfl
            | true =>
              unfold repI at h
              simp only [Bool.and_eq_true] at h
              rw [(tail_all s two).1 h.1.2 k h1] at h2
              cases h2
          rw [e, parX_f]
          simp [ipH, z25_eq, z25_dead, z25_take, z25_cmp, sub]
      · rintro k hk st ⟨hg, rfl⟩
        by_cases hkn : k = (tailW s).length
        · subst hkn
          right
          simp [ipH]
          exact .inl ⟨hg, rfl⟩
        · have hlt : k < (tailW s).length := by omega
          have hget := strs_tail (h := headW s) hlt
          have wk := wrapS (k := k) (by omega)
          have b1 : 1 + k + 1 ≤ (tailW s).length + 1 := by omega
          have hlen := mK_len (s := s) hk
          have hms := mK_succ hlt
          cases h2 : two ((tailW s).getD k []) with
          | false =>
            right
            have hp : ¬ ((tailW s).getD k []).length = 2 := by simpa [two] using h2
            have hpp : IpE s (.ret, [(2, V.c (C.ptr 0 0)), (3, V.c (C.bool false))], ipH s k 5 ++ [Blk.cells [] true]) := .inr ⟨k, ⟨hlt, h2⟩, rfl⟩
            generalize (tailW s).getD k [] = w at *
            have hpI : ¬ (w.length : Int) = 2 := by omega
            refine ⟨_, ?_, hpp⟩
            simp [ipH, hlt, hget, b1, hp, hpI, hr, z25_eq, z25_dead, setAt_all, sub]
          | true =>
            left
            have hp : ((tailW s).getD k []).length = 2 := by simpa [two] using h2
            have hnx : ∀ j, j < k + 1 → two ((tailW s).getD j []) = true := fun j hj => by
              by_cases hjk : j = k
              · rw [hjk]; exact h2
              · exact hg j (by omega)
            obtain ⟨a, b, hab⟩ := split2 _ hp
            rw [hab] at hget hms
            have t2 := fun i n => repC_drop hr (C.sl i 0 n 2)
            have t6 := fun i n d => repC_set hr (C.sl i 0 n 2) d
            have hroom : k + 1 ≤ 68719476736 := by omega
            have htk := cZ_take (mK s k)
            rw [hlen] at htk
            have wa : IntKind.i64.wrap (a.toNat : Int) = (a.toNat : Int) := wrapI (by omega) (by have := UInt8.toNat_lt a; omega)
            have wb : IntKind.i64.wrap (b.toNat : Int) = (b.toNat : Int) := wrapI (by omega) (by have := UInt8.toNat_lt b; omega)
            have wa2 : IntKind.i64.wrap ((a.toNat : Int) - 48) = (a.toNat : Int) - 48 := wrapI (by omega) (by have := UInt8.toNat_lt a; omega)
            have wb2 : IntKind.i64.wrap ((b.toNat : Int) - 48) = (b.toNat : Int) - 48 := wrapI (by omega) (by have := UInt8.toNat_lt b; omega)
            have e1 : cZ (mK s k) ++ [C.int .i64 ((a.toNat : Int) - 48), C.int .i64 ((b.toNat : Int) - 48)] = cZ (mK s (k + 1)) := by rw [hms, cZ_app]; rfl
            refine ⟨hlt, _, ?_, hnx, rfl⟩
            simp [ipH, hlt, hget, b1, hr, t2, t6, hroom, htk, hlen, wa, wb, wa2, wb2, wk, e1, z25_eq, setAt_all, setAt, z25_dead, z25_take, z25_cmp, sub]
    · have hnI : (61 : Int) < ((tailW s).length : Int) + 1 := by omega
      have e : repI s = false := by unfold repI; rw [headW_tailW]; simp; omega
      rw [e, parX_f]
      simp [a5, hsp, g0, hpr, h24, hr, setAt_all, z25_eq, z25_dead, z25_take, z25_cmp, z25_set hr, hnI, sub]
end Go.Proofs.YtanbjhhaoolneaaDoor.AM
