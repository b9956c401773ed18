import Derived.Test.YtanbjhhaoolneaaDoorParseD
/- Contracts: the reference reads a replay. -/
namespace Go.Proofs.YtanbjhhaoolneaaDoor.AM
open Go
set_option maxRecDepth 1000000
set_option linter.unusedSimpArgs false
set_option linter.unusedVariables false
def spS (s : List UInt8) (f : Bool) (m i : Nat) (tl : Env) : Env × Heap := ([(2, V.c (C.ptr 0 0)), (4, V.c (C.sl 1 0 ((tailW s).length + 1) 1)), (6, V.c (C.bool f)), (7, V.c (C.ptr 2 0)), (8, V.c (C.int .i64 i))] ++ tl, [Blk.cells (z25 3) true, Blk.cells (strs (headW s :: tailW s)) true, Blk.cells ((rkS (headW s)).map (C.int .i64) ++ [C.sl 4 0 m 2]) true, Blk.cells [] true, Blk.cells (cZ (mK s m)) true])
def SqI (s : List UInt8) (k : Nat) (st : Env × Heap) : Prop := ((∀ j, j < k → dig ((tailW s).getD j []) = true) ∧ st = spS s true k (k + 1) []) ∨ (∃ q, k = q + 1 ∧ dig ((tailW s).getD q []) = false ∧ st = spS s false q (k + 1) [])
def SqE (s : List UInt8) (r : Ex × Env × Heap) : Prop := ((∀ j, j < (tailW s).length → dig ((tailW s).getD j []) = true) ∧ r = (.exit 0, spS s true (tailW s).length ((tailW s).length + 1) [(32, V.c (C.bool false))])) ∨ (∃ q, (q < (tailW s).length ∧ dig ((tailW s).getD q []) = false) ∧ r = (.exit 0, spS s false q (q + 2) [(32, V.c (C.bool false))]))
theorem c_spec_ParseReplay (s : List UInt8) (hs : s.length ≤ 1048576) : fnI pr np 4 [.c (.str s)] [] = parX (repS s) s := by
  have hs1 := c_spec_l1Split s 32 hs
  rw [show (((32 : UInt8).toNat : Nat) : Int) = 32 from rfl] at hs1
  have hsp := callA_new hs1 (by simp)
  have hpr := callA_pure (c_spec_l2Parse (headW s)) (by simp) (by simp)
  have h24 := take24 (rkS_len (headW s))
  have hr := rkS_len (headW s)
  rw [fb (fn := a4) rfl rfl rfl]
  have g0 := strs_get (P := headW s :: tailW s) (k := 0) (by simp)
  simp at g0
  rw [headW_tailW] at hsp
  by_cases hl : s.length ≤ 209
  · have hlI : ¬ (209 : Int) < (s.length : Int) := by omega
    have hpl : (tailW s).length ≤ 209 := by
      have h1 := splC_len 32 s
      have h2 := List.count_le_length (a := (32 : UInt8)) (l := s)
      rw [headW_tailW] at h1
      simp at h1
      omega
    cases hq : okS (headW s) with
    | false =>
      have e : repS s = false := by unfold repS; rw [hq]; simp
      rw [hq] at hpr
      rw [e, parX_f]
      by_cases c1 : (1 : Int) < ((tailW s).length : Int) + 1
      · have c2 : 0 < (tailW s).length := by omega
        simp [a4, exI_loop', hlI, hsp, g0, hpr, h24, hr, setAt_all, z25_eq, z25_dead, z25_take, z25_cmp, z25_set hr, c1, c2, sub]
      · have c2 : (tailW s).length = 0 := by omega
        simp [a4, exI_loop', hlI, hsp, g0, hpr, h24, hr, setAt_all, z25_eq, z25_dead, z25_take, z25_cmp, z25_set hr, c2, sub]
    | true =>
      rw [hq] at hpr
      simp [a4, hlI, hsp, g0, hpr, h24, hr, setAt_all, z25_eq, z25_dead, z25_take, z25_cmp, z25_set hr, sub]
      generalize hX : exI pr np 0 (ACode.loop _ _) _ _ = X
      have hlp := loop_exit hX (SqI s) (tailW s).length (SqE s) ⟨_, by simp [sub, hr, z25_dead, z25_take, z25_cmp]; rfl, .inl ⟨fun j h => by omega, rfl⟩⟩ ?_
      · obtain ⟨r, rfl, hx⟩ := hlp
        rcases hx with ⟨hg, rfl⟩ | ⟨k, ⟨h1, h2⟩, rfl⟩
        · have hall := (tail_all s dig).2 hg
          have hre : repS s = repB (rkS (headW s)) ((tailW s).map pz) := by
            unfold repS
            rw [hq, hall]
            simp [hl]
          have hir := call_rep (rest := []) rfl (by simp) (c_spec_IsReplay (rkS (headW s)) hr ((tailW s).map pz) true)
          have t3 := fun i n => repC_all hr (C.sl i 0 n 2)
          rw [hre]
          unfold spS
          rw [mK_end]
          rw [List.length_map] at hir
          cases hb : repB (rkS (headW s)) ((tailW s).map pz) with
          | false =>
            rw [hb] at hir
            rw [parX_f]
            simp [hr, t3, hir, z25_eq, setAt_all, z25_dead, z25_take, z25_cmp, sub]
          | true =>
            rw [hb] at hir
            simp [parX, parV, parR, parL, hr, t3, hir, z25_eq, z25_setAll hr, setAt_all, z25_dead, z25_take, z25_cmp, sub]
        · have e : repS s = false := by
            cases h : repS s with
            | false => rfl
            | true =>
              unfold repS at h
              simp only [Bool.and_eq_true] at h
              rw [(tail_all s dig).1 h.1.2 k h1] at h2
              cases h2
          have t3 := fun i n => repC_all hr (C.sl i 0 n 2)
          rw [e, parX_f]
          simp [spS, hr, t3, z25_eq, setAt_all, z25_dead, z25_take, z25_cmp, sub]
      · rintro k hk st (⟨hg, rfl⟩ | ⟨q, rfl, hqf, rfl⟩)
        · by_cases hkn : k = (tailW s).length
          · subst hkn
            right
            refine ⟨_, ?_, .inl ⟨hg, rfl⟩⟩
            simp [spS]
          · have hlt : k < (tailW s).length := by omega
            have hget := strs_tail (h := headW s) hlt
            have wk : IntKind.i64.wrap ((k : Int) + 1 + 1) = (k : Int) + 2 := by rw [wrapI (by omega) (by omega)]; omega
            have wk1 : IntKind.i64.wrap ((k : Int) + 1 + 1) = (k : Int) + 1 + 1 := wrapI (by omega) (by omega)
            have b1 : k + 1 ≤ (tailW s).length := by omega
            have z1 : (0 : Int) ≤ (k : Int) + 1 := by omega
            rw [Nat.add_comm 1 k] at hget
            have hlen := mK_len (s := s) hk
            have hms := mK_succ hlt
            left
            refine ⟨hlt, ?_⟩
            have hil : (k : Int) + 1 < ((tailW s).length : Int) + 1 := by omega
            have hnx : dig ((tailW s).getD k []) = true → ∀ j, j < k + 1 → dig ((tailW s).getD j []) = true := fun h2 j hj => by
              by_cases hjk : j = k
              · rw [hjk]; exact h2
              · exact hg j (by omega)
            have hbad : dig ((tailW s).getD k []) = false → SqI s (k + 1) (spS s false k (k + 2) []) := fun h2 => .inr ⟨k, rfl, h2, rfl⟩
            by_cases hp : ((tailW s).getD k []).length = 2
            · obtain ⟨a, b, hab⟩ := split2 _ hp
              rw [hab] at hget hms hnx hbad
              have hA := callA_pure (c_spec_l1In (a.toNat : Int) 48 53) (by simp) (by simp)
              have hB := callA_pure (c_spec_l1In (b.toNat : Int) 48 53) (by simp) (by simp)
              have la := UInt8.toNat_lt a
              have lb := UInt8.toNat_lt b
              have wa : IntKind.i64.wrap (a.toNat : Int) = (a.toNat : Int) := wrapI (by omega) (by omega)
              have wb : IntKind.i64.wrap (b.toNat : Int) = (b.toNat : Int) := wrapI (by omega) (by omega)
              have hdg : dig [a, b] = ((decide ((48 : Int) ≤ (a.toNat : Int)) && decide ((a.toNat : Int) ≤ 53)) && (decide ((48 : Int) ≤ (b.toNat : Int)) && decide ((b.toNat : Int) ≤ 53))) := by
                have x1 : ((48 : Int) ≤ (a.toNat : Int)) ↔ 48 ≤ a.toNat := by omega
                have x2 : ((a.toNat : Int) ≤ 53) ↔ a.toNat ≤ 53 := by omega
                have x3 : ((48 : Int) ≤ (b.toNat : Int)) ↔ 48 ≤ b.toNat := by omega
                have x4 : ((b.toNat : Int) ≤ 53) ↔ b.toNat ≤ 53 := by omega
                simp only [x1, x2, x3, x4]
                simp [dig, two]
              cases qa : (decide ((48 : Int) ≤ (a.toNat : Int)) && decide ((a.toNat : Int) ≤ 53)) with
              | false =>
                rw [qa] at hA hdg
                refine ⟨_, ?_, hbad (by rw [hdg]; rfl)⟩
                simp [spS, hlt, hil, hget, b1, z1, hA, wa, wk, z25_dead, z25_cmp, sub]
              | true =>
                rw [qa] at hA hdg
                cases qb : (decide ((48 : Int) ≤ (b.toNat : Int)) && decide ((b.toNat : Int) ≤ 53)) with
                | false =>
                  rw [qb] at hB hdg
                  refine ⟨_, ?_, hbad (by rw [hdg]; rfl)⟩
                  simp [spS, hlt, hil, hget, b1, z1, hA, hB, wa, wb, wk, z25_dead, z25_cmp, sub]
                | true =>
                  rw [qb] at hB hdg
                  simp only [Bool.and_eq_true, decide_eq_true_eq] at qa qb
                  have t2 := fun i n => repC_drop hr (C.sl i 0 n 2)
                  have t6 := fun i n d => repC_set hr (C.sl i 0 n 2) d
                  have hroom : k + 1 ≤ 68719476736 := by omega
                  have htk := cZ_take (mK s k)
                  rw [hlen] at htk
                  have u8w : ∀ x : Nat, 48 ≤ x → x < 256 → IntKind.u8.wrap ((x : Int) - 48) = (x : Int) - 48 := fun x h1 h2 => by
                    unfold IntKind.wrap IntKind.signed IntKind.bits
                    simp
                    omega
                  have ua := u8w a.toNat (by omega) la
                  have ub := u8w b.toNat (by omega) lb
                  have wa2 : IntKind.i64.wrap ((a.toNat : Int) - 48) = (a.toNat : Int) - 48 := wrapI (by omega) (by omega)
                  have wb2 : IntKind.i64.wrap ((b.toNat : Int) - 48) = (b.toNat : Int) - 48 := wrapI (by omega) (by omega)
                  have e1 : cZ (mK s k) ++ [C.int .i64 ((a.toNat : Int) - 48), C.int .i64 ((b.toNat : Int) - 48)] = cZ (mK s (k + 1)) := by rw [hms, cZ_app]; rfl
                  refine ⟨_, ?_, .inl ⟨hnx (by rw [hdg]; rfl), rfl⟩⟩
                  simp [spS, hlt, hil, hget, b1, z1, hA, hB, hr, t2, t6, hroom, htk, hlen, wa, wb, ua, ub, wa2, wb2, wk1, e1, z25_eq, setAt_all, setAt, z25_dead, z25_take, z25_cmp, sub]
            · have hdf : dig ((tailW s).getD k []) = false := by unfold dig two; rw [decide_eq_false hp]; rfl
              have hb2 := hbad hdf
              generalize (tailW s).getD k [] = w at *
              have hpI : ((w.length : Int) == 2) = false := by simp; omega
              refine ⟨_, ?_, hb2⟩
              simp [spS, hlt, hil, hget, b1, z1, hpI, wk, z25_dead, z25_cmp, sub]
        · right
          by_cases c1 : q + 1 < (tailW s).length
          · have c1I : (q : Int) + 1 + 1 < ((tailW s).length : Int) + 1 := by omega
            refine ⟨_, ?_, .inr ⟨q, ⟨by omega, hqf⟩, rfl⟩⟩
            simp [spS, c1, c1I]
            omega
          · have c1I : ¬ (q : Int) + 1 + 1 < ((tailW s).length : Int) + 1 := by omega
            refine ⟨_, ?_, .inr ⟨q, ⟨by omega, hqf⟩, rfl⟩⟩
            simp [spS, c1, c1I]
            omega
  · have hlI : (209 : Int) < (s.length : Int) := by omega
    have e : repS s = false := by unfold repS; simp [hl]
    rw [e, parX_f]
    simp [a4, hlI, hsp, g0, hpr, h24, hr, setAt_all, z25_eq, z25_dead, z25_take, z25_cmp, z25_set hr, sub]
end Go.Proofs.YtanbjhhaoolneaaDoor.AM
