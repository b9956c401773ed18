import Derived.Test.YtgpafbbnobanbaaGreatDoorAmC
import Derived.Lib.Bytealg
import Derived.Lib.Strings
import Derived.Lib.IndexMore
import Derived.Lib.ItoaNum
import Derived.Lib.Join
/-
  The evaluator is sound: what it answers for a function, a call of that function ends in.
-/
namespace Go.Proofs.YtgpafbbnobanbaaGreatDoor.AM
open Go

theorem get_restrict (e : Env) (t : Nat) : ∀ (live : List Nat), get (restrict e live) t = if t ∈ live then get e t else .c .dead
  | [] => by simp [restrict, AM.get]
  | x :: live => by
    have ih := get_restrict e t live
    unfold restrict at ih ⊢
    simp only [List.map_cons, AM.get]
    by_cases hx : x = t
    · subst hx; simp
    · rw [if_neg hx, ih]
      simp [Ne.symm hx]
theorem EnvOK.restrict {φ : Phi} {e : Env} {a : Act} (h : EnvOK φ e a) (live : List Nat) : EnvOK φ (restrict e live) a := by
  intro t
  rw [get_restrict]
  split
  · exact h t
  · trivial
theorem get_map (g : Nat → Nat) (t : Nat) : ∀ (e : Env), (get (e.map fun p => (p.1, p.2.mp g)) t) = (get e t).mp g
  | [] => rfl
  | (i, v) :: e => by
    have ih := get_map g t e
    simp only [List.map_cons, AM.get]
    split
    · rfl
    · exact ih
theorem get_ids (t : Nat) : ∀ (e : Env) i, i ∈ (get e t).ids → i ∈ envIds e
  | [], i, h => by simp [AM.get, V.ids, C.ids] at h
  | (j, v) :: e, i, h => by
    simp only [envIds, List.flatMap_cons, List.mem_append]
    simp only [AM.get] at h
    split at h
    · exact .inl h
    · exact .inr (get_ids t e i h)
theorem upto_get : ∀ (m i : Nat), i < m → (upto m)[i]? = some i
  | m + 1, i, h => by
    have hl : ∀ m, (upto m).length = m := fun m => by induction m <;> simp_all [upto]
    simp only [upto]
    by_cases hi : i < m
    · rw [List.getElem?_append_left (by rw [hl]; exact hi)]
      exact upto_get m i hi
    · have : i = m := by omega
      subst this
      rw [List.getElem?_append_right (by rw [hl]; exact Nat.le_refl _)]
      simp [hl]
theorem upto_length : ∀ m, (upto m).length = m := fun m => by induction m <;> simp_all [upto]
theorem upto_lt : ∀ m i, i ∈ upto m → i < m
  | m + 1, i, h => by
    simp only [upto, List.mem_append, List.mem_singleton] at h
    rcases h with h | h
    · have := upto_lt m i h; omega
    · omega
theorem upto_nodup : ∀ m, (upto m).Nodup
  | 0 => List.nodup_nil
  | m + 1 => List.nodup_append.2 ⟨upto_nodup m, by simp, fun a ha b hb => by simp at hb; have := upto_lt m a ha; omega⟩
theorem gcL_facts (m : Nat) (roots : List Nat) (h : Heap) : (gcL m roots h).Nodup ∧ m ≤ (gcL m roots h).length ∧ ∀ i, i < m → (gcL m roots h)[i]? = some i := by
  unfold gcL
  obtain ⟨r, hr⟩ := reach_prefix (lkp h) 64 (roots ++ (h.take m).flatMap Blk.ids) (upto m)
  refine ⟨reach_nodup _ _ _ _ (upto_nodup m), ?_, fun i hi => ?_⟩
  · rw [hr, List.length_append, upto_length]; omega
  · rw [hr, List.getElem?_append_left (by rw [upto_length]; exact hi)]
    exact upto_get m i hi
/-- a heap cut down to what is reached -/
theorem Later.cut {φ : Phi} {h : Heap} {w : World} {L : List Nat} {m : Nat} (hh : HeapOK φ (lkp h) w) (hn : L.Nodup) (hm : m ≤ L.length) (hL : ∀ i, i < m → L[i]? = some i) (hc : closed L (lkp h) = true) : Later m φ h w (φ.sub L) (AM.sub L (lkp h)) w := by
  refine ⟨fun i hi => ?_, ⟨hh.sub hn hc, Fr.refl _ _, fun k hk => ?_, fun k hk => ?_⟩, by simpa [AM.sub] using hm⟩
  · unfold Phi.sub; rw [hL i hi]; rfl
  · obtain ⟨i, b, p, _, hb, ho, hp, hk⟩ := OS.sub hc hk
    exact .inl ⟨i, b, p, hb, ho, hp, hk⟩
  · obtain ⟨i, b, p, _, hb, ho, hp, hk⟩ := LS.sub hc hk
    exact .inl ⟨i, b, p, hb, ho, hp, hk⟩
theorem inL_sub {L is js : List Nat} (h : inL L is = true) (hs : ∀ i ∈ js, i ∈ is) : inL L js = true := by
  rw [inL, List.all_eq_true] at *
  exact fun i hi => h i (hs i hi)
theorem gcE_ok {m nt : Nat} {live : List Nat} {e e' : Env} {h h' : Heap} {φ : Phi} {a : Act} {w : World} (hs : StOK φ e h nt a w) (hg : gcE m live e h = some (e', h')) : ∃ φ', StOK φ' e' h' nt a w ∧ Later m φ h w φ' h' w := by
  unfold gcE at hg
  simp only at hg
  split at hg
  · rename_i hc
    injection hg with hg
    injection hg with h1 h2
    obtain ⟨hn, hm, hL⟩ := gcL_facts m (envIds (restrict e live)) h
    have hl := Later.cut hs.heap hn hm hL hc.1
    rw [← h1, ← h2]
    refine ⟨_, ⟨fun t => ?_, hl.mv.ok, hs.size, hs.defers⟩, hl⟩
    rw [get_map]
    exact (hs.env.restrict live t).mp (keeps_sub (inL_sub hc.2 (get_ids t _)))
  · cases hg

/-! ### code -/
def okCode (P : Program) (nt : Nat) : Code → ACode → Bool
  | .skip, .skip => true
  | .region _ ops false, .region qs _ => okOps P nt ops ops.toList qs
  | .region _ ops true, .regionD qs _ ap => okOps P nt ops ops.toList qs && okDraw ops qs ap
  | .region _ ops true, .regionE qs _ ap ms => okOps P nt ops ops.toList qs && okDrawE ops qs ap ms
  | .seq a b, .seq a' b' => okCode P nt a a' && okCode P nt b b'
  | .cond c a b, .cond c' a' b' => okOpd c c' && okCode P nt a a' && okCode P nt b b'
  | .block id a, .block id' a' => (id == id') && okCode P nt a a'
  | .loop a, .loop a' _ => okCode P nt a a'
  | .exit id, .exit id' => id == id'
  | .ret, .ret => true
  | _, _ => false
def Ex.up : Ex → Exit
  | .norm => .normal
  | .exit id => .exit id
  | .ret => .ret
theorem least {p : Nat → Prop} (h : ∃ k, p k) : ∃ k, p k ∧ ∀ j, p j → k ≤ j := by
  obtain ⟨k, hk⟩ := h
  induction k using Nat.strongRecOn with
  | ind k ih =>
    by_cases hx : ∃ j, j < k ∧ p j
    · obtain ⟨j, hj, hpj⟩ := hx
      exact ih j hj hpj
    · exact ⟨k, hk, fun j hj => Nat.le_of_not_lt fun hlt => hx ⟨j, hlt, hj⟩⟩
theorem exS_ok {P : Program} {pr : Prog} {pm : Prim} (hm : P.follows .mixedOrders = true) {N : Nat} (hF : ∀ n, n < N → FnOK P (fnN pr pm n)) {nt m : Nat} : ∀ (ac : ACode) (c : Code), okCode P nt c ac = true → ∀ (n : Nat), n < N → ∀ {φ : Phi} {e e' : Env} {h h' : Heap} {a : Act} {w : World} {x : Ex}, StOK φ e h nt a w → m ≤ h.length →
    exS (fnN pr pm n) (exN pr pm n m) m ac e h = some (x, e', h') → ∀ {Q : Exit → Act → World → Prop}, (∀ φ' a' w', StOK φ' e' h' nt a' w' → Later m φ h w φ' h' w' → Q x.up a' w') → c.wp P Q a w := by
  intro ac
  induction ac with
  | skip =>
    intro c hk n hn φ e e' h h' a w x hs hml hr Q hQ
    cases c <;> simp [okCode] at hk
    simp only [exS, Option.some.injEq, Prod.mk.injEq] at hr
    obtain ⟨rfl, rfl, rfl⟩ := hr
    exact wp_skip (hQ φ a w hs (Later.refl hs.heap hml))
  | ret =>
    intro c hk n hn φ e e' h h' a w x hs hml hr Q hQ
    cases c <;> simp [okCode] at hk
    simp only [exS, Option.some.injEq, Prod.mk.injEq] at hr
    obtain ⟨rfl, rfl, rfl⟩ := hr
    exact wp_ret (hQ φ a w hs (Later.refl hs.heap hml))
  | exit id =>
    intro c hk n hn φ e e' h h' a w x hs hml hr Q hQ
    cases c <;> simp [okCode] at hk
    subst hk
    simp only [exS, Option.some.injEq, Prod.mk.injEq] at hr
    obtain ⟨rfl, rfl, rfl⟩ := hr
    exact wp_exit (hQ φ a w hs (Later.refl hs.heap hml))
  | region qs live =>
    intro c hk n hn φ e e' h h' a w x hs hml hr Q hQ
    cases c with
    | region id ops draw =>
      cases draw with
      | false =>
        simp only [okCode] at hk
        simp only [exS] at hr
        obtain ⟨s, hs1, hr⟩ := Option.map_eq_some_iff.1 hr
        injection hr with hx hr
        injection hr with he hh
        subst hx; subst he; subst hh
        refine wp_region ?_
        have hrg : List.range ops.size = List.range' 0 ops.toList.length := by simp [List.range_eq_range']
        rw [hrg]
        refine ops_seq (hF n hn) qs ops.toList 0 (fun j => by simp) hk hs hs1 hml fun φ' a' w' hs' hl => ?_
        exact hQ φ' a' w' ⟨hs'.env.restrict live, hs'.heap, hs'.size, hs'.defers⟩ hl
      | true => simp [okCode] at hk
    | _ => simp [okCode] at hk
  | regionD qs live ap =>
    intro c hk n hn φ e e' h h' a w x hs hml hr Q hQ
    cases c with
    | region id ops draw =>
      cases draw with
      | true =>
        simp only [okCode, Bool.and_eq_true] at hk
        simp only [exS] at hr
        obtain ⟨s, hs1, hr⟩ := Option.bind_eq_some_iff.1 hr
        split at hr
        · rename_i hap
          injection hr with hr
          injection hr with hx hr
          injection hr with he hh
          subst hx; subst he; subst hh
          exact regionD_ok (hF n hn) hm hk.1 hk.2 hs hs1 hap hml fun φ' a' w' hs' hl => hQ φ' a' w' ⟨hs'.env.restrict live, hs'.heap, hs'.size, hs'.defers⟩ hl
        · cases hr
      | false => simp [okCode] at hk
    | _ => simp [okCode] at hk
  | regionE qs live ap ms =>
    intro c hk n hn φ e e' h h' a w x hs hml hr Q hQ
    cases c with
    | region id ops draw =>
      cases draw with
      | true =>
        simp only [okCode, Bool.and_eq_true] at hk
        simp only [exS] at hr
        obtain ⟨s, hs1, hr⟩ := Option.bind_eq_some_iff.1 hr
        split at hr
        · rename_i hap
          injection hr with hr
          injection hr with hx hr
          injection hr with he hh
          subst hx; subst he; subst hh
          exact regionE_ok (hF n hn) hm hk.1 hk.2 hs hs1 hap hml fun φ' a' w' hs' hl => hQ φ' a' w' ⟨hs'.env.restrict live, hs'.heap, hs'.size, hs'.defers⟩ hl
        · cases hr
      | false => simp [okCode] at hk
    | _ => simp [okCode] at hk
  | seq p q ihp ihq =>
    intro c hk n hn φ e e' h h' a w x hs hml hr Q hQ
    cases c with
    | seq c1 c2 =>
      simp only [okCode, Bool.and_eq_true] at hk
      simp only [exS] at hr
      obtain ⟨⟨x1, e1, h1⟩, hr1, hr⟩ := Option.bind_eq_some_iff.1 hr
      refine wp_seq (ihp c1 hk.1 n hn hs hml hr1 fun φ1 a1 w1 hs1 hl1 => ?_)
      cases x1 with
      | norm => exact ihq c2 hk.2 n hn hs1 hl1.len hr fun φ2 a2 w2 hs2 hl2 => hQ φ2 a2 w2 hs2 (hl1.trans hl2)
      | exit id =>
        simp only [Option.some.injEq, Prod.mk.injEq] at hr
        obtain ⟨rfl, rfl, rfl⟩ := hr
        exact hQ φ1 a1 w1 hs1 hl1
      | ret =>
        simp only [Option.some.injEq, Prod.mk.injEq] at hr
        obtain ⟨rfl, rfl, rfl⟩ := hr
        exact hQ φ1 a1 w1 hs1 hl1
    | _ => simp [okCode] at hk
  | cond co p q ihp ihq =>
    intro c hk n hn φ e e' h h' a w x hs hml hr Q hQ
    cases c with
    | cond c0 c1 c2 =>
      simp only [okCode, Bool.and_eq_true] at hk
      have hc := opd_ok hs.env hk.1.1
      simp only [exS] at hr
      split at hr
      · rename_i t ht
        rw [ht] at hc
        refine wp_cond (t := t) hc ?_
        cases t with
        | true => exact ihp c1 hk.1.2 n hn hs hml hr hQ
        | false => exact ihq c2 hk.2 n hn hs hml hr hQ
      · cases hr
    | _ => simp [okCode] at hk
  | block id p ih =>
    intro c hk n hn φ e e' h h' a w x hs hml hr Q hQ
    cases c with
    | block id' c1 =>
      simp only [okCode, Bool.and_eq_true, beq_iff_eq] at hk
      obtain ⟨rfl, hk⟩ := hk
      simp only [exS] at hr
      obtain ⟨⟨x1, e1, h1⟩, hr1, hr⟩ := Option.map_eq_some_iff.1 hr
      refine wp_block (ih c1 hk n hn hs hml hr1 fun φ1 a1 w1 hs1 hl1 => ?_)
      cases x1 with
      | norm =>
        simp only [Prod.mk.injEq] at hr
        obtain ⟨rfl, rfl, rfl⟩ := hr
        exact hQ φ1 a1 w1 hs1 hl1
      | exit i =>
        simp only at hr
        simp only [Ex.up, Exit.inBlock]
        split at hr
        · rename_i hi
          simp only [Prod.mk.injEq] at hr
          obtain ⟨rfl, rfl, rfl⟩ := hr
          rw [if_pos hi]
          exact hQ φ1 a1 w1 hs1 hl1
        · rename_i hi
          simp only [Prod.mk.injEq] at hr
          obtain ⟨rfl, rfl, rfl⟩ := hr
          rw [if_neg hi]
          exact hQ φ1 a1 w1 hs1 hl1
      | ret =>
        simp only [Prod.mk.injEq] at hr
        obtain ⟨rfl, rfl, rfl⟩ := hr
        exact hQ φ1 a1 w1 hs1 hl1
    | _ => simp [okCode] at hk
  | loop p live ih =>
    intro c hk n hn φ e e' h h' a w x hs hml hr Q hQ
    cases c with
    | loop c1 =>
      simp only [okCode] at hk
      have hr1 : exN pr pm (n + 1) m (.loop p live) e h = some (x, e', h') := hr
      let I : Nat → Act → World → Prop := fun k a1 w1 => k ≤ n + 1 ∧ ∃ φ1 e1 h1, StOK φ1 e1 h1 nt a1 w1 ∧ Later m φ h w φ1 h1 w1 ∧ exN pr pm k m (.loop p live) e1 h1 = some (x, e', h')
      have hI0 : ∃ k, I k a w := ⟨n + 1, Nat.le_refl _, φ, e, h, hs, Later.refl hs.heap hml, hr1⟩
      classical
      let μ : Act → World → Nat := fun a1 w1 => if hx : ∃ k, I k a1 w1 then Classical.choose (least hx) else 0
      refine wp_loop (fun a1 w1 => ∃ k, I k a1 w1) μ hI0 fun a1 w1 hI => ?_
      have hmu : μ a1 w1 = Classical.choose (least hI) := by simp only [μ]; rw [dif_pos hI]
      obtain ⟨hkn, φ1, e1, h1, hs1, hl1, hk1⟩ := (Classical.choose_spec (least hI)).1
      rw [← hmu] at hkn hk1
      cases hj : μ a1 w1 with
      | zero => rw [hj] at hk1; simp [exN] at hk1
      | succ j =>
        rw [hj] at hk1 hkn
        simp only [exN, exS] at hk1
        obtain ⟨⟨e2, h2⟩, hg, hk1⟩ := Option.bind_eq_some_iff.1 hk1
        obtain ⟨⟨x3, e3, h3⟩, hr3, hk1⟩ := Option.bind_eq_some_iff.1 hk1
        obtain ⟨φ2, hs2, hl2⟩ := gcE_ok hs1 hg
        refine ih c1 hk j (by omega) hs2 hl2.len hr3 fun φ3 a3 w3 hs3 hl3 => ?_
        have hl : Later m φ h w φ3 h3 w3 := hl1.trans (hl2.trans hl3)
        cases x3 with
        | norm =>
          have hI3 : I j a3 w3 := ⟨by omega, φ3, e3, h3, hs3, hl, hk1⟩
          refine ⟨⟨j, hI3⟩, ?_⟩
          have hx3 : ∃ k, I k a3 w3 := ⟨j, hI3⟩
          have : μ a3 w3 = Classical.choose (least hx3) := by simp only [μ]; rw [dif_pos hx3]
          rw [this]
          have := (Classical.choose_spec (least hx3)).2 j hI3
          omega
        | exit i =>
          simp only [Option.some.injEq, Prod.mk.injEq] at hk1
          obtain ⟨rfl, rfl, rfl⟩ := hk1
          exact hQ φ3 a3 w3 hs3 hl
        | ret =>
          simp only [Option.some.injEq, Prod.mk.injEq] at hk1
          obtain ⟨rfl, rfl, rfl⟩ := hk1
          exact hQ φ3 a3 w3 hs3 hl
    | _ => simp [okCode] at hk

/-! ### functions -/
def okRes (P : Program) : List ResultVar → List RV → Bool
  | [], [] => true
  | .tmp t :: rs, .t n :: qs => (t == n) && okRes P rs qs
  | .cell t ty :: rs, .cell t' n agg :: qs => (t == t') && (szT P ty == some n) && (aggT P ty == some agg) && (agg || n == 1) && okRes P rs qs
  | _, _ => false
theorem V.down_ok {φ : Phi} {v : V} {x : V1} {rv : Value} (h : VR φ v rv) (hd : v.down = some x) : VR1 φ x rv := by
  cases v with
  | c c => simp only [V.down, Option.some.injEq] at hd; subst hd; exact h
  | agg xs => simp only [V.down, Option.some.injEq] at hd; subst hd; exact h
  | tup xs => simp [V.down] at hd
theorem load_ok {P : Program} {φ : Phi} {H : HF} {w : World} (h : HeapOK φ H w) {i o n : Nat} {cs : List C} {p : Pl} (hr : readB H i o n = some cs) (hp : φ i = some p) {t : TypeId} {agg : Bool} (hs : szT P t = some n) (hb : aggT P t = some agg) (h1 : agg = true ∨ n = 1) :
    ∃ v, (loadVar t ⟨p.b, p.o + o, none⟩).run P w = .ok v w ∧ VR φ (mkV agg cs) v := by
  obtain ⟨vs, ha, hl, _, hcell⟩ := read_ok h hr hp
  refine ⟨if agg then .agg vs.toArray else vs.headD Go.undef, ?_, mkV_ok ha (by rcases h1 with h1 | h1; exact .inl h1; right; rw [ha.length, hl, h1])⟩
  cases agg with
  | true =>
    have hlc := run_loadCells_list (P := P) w ⟨p.b, p.o + o, none⟩ vs fun j v hj => by rw [add_lit]; exact hcell j v hj
    rw [hl] at hlc
    simp [loadVar, run_aggT hb, run_size hs, hlc]
  | false =>
    have hn : n = 1 := by simpa using h1
    subst hn
    obtain ⟨v, rfl⟩ := List.length_eq_one_iff.1 hl
    have hc0 := hcell 0 v (by simp)
    simp only [Nat.add_zero] at hc0
    simp [loadVar, run_aggT hb, hc0]
def resOne (tmps : Array Value) : ResultVar → Sem Value
  | .tmp t => pure (tmps.getD t undef)
  | .cell a t => do loadVar t (← asAddr (tmps.getD a undef))
theorem res_ok {P : Program} {φ : Phi} {e : Env} {h : Heap} {nt : Nat} {a : Act} {w : World} (hs : StOK φ e h nt a w) : ∀ {rs : List ResultVar} {qs : List RV} {vs : List V1}, okRes P rs qs = true → resL e h qs = some vs → ∃ us : List Value, (rs.mapM (resOne a.tmps)).run P w = .ok us w ∧ All2 (VR1 φ) vs us
  | [], [], vs, _, hr => by
    simp only [resL, Option.some.injEq] at hr
    subst hr
    exact ⟨[], by simp, trivial⟩
  | .tmp t :: rs, .t n :: qs, vs, hk, hr => by
    simp only [okRes, Bool.and_eq_true, beq_iff_eq] at hk
    obtain ⟨rfl, hk⟩ := hk
    simp only [resL, resV] at hr
    obtain ⟨v, hv, hr⟩ := Option.bind_eq_some_iff.1 hr
    obtain ⟨vs', hvs, rfl⟩ := Option.map_eq_some_iff.1 hr
    obtain ⟨us, hu, ha⟩ := res_ok hs hk hvs
    exact ⟨a.tmps.getD t undef :: us, by simp [List.mapM_cons, resOne, hu], V.down_ok (hs.env t) hv, ha⟩
  | .cell t ty :: rs, .cell t' n agg :: qs, vs, hk, hr => by
    simp only [okRes, Bool.and_eq_true, beq_iff_eq, Bool.or_eq_true] at hk
    obtain ⟨⟨⟨⟨rfl, h1⟩, h2⟩, h3⟩, hk⟩ := hk
    simp only [resL, resV] at hr
    obtain ⟨v, hv, hr⟩ := Option.bind_eq_some_iff.1 hr
    obtain ⟨vs', hvs, rfl⟩ := Option.map_eq_some_iff.1 hr
    obtain ⟨us, hu, ha⟩ := res_ok hs hk hvs
    have hx := hs.env t
    split at hv
    · rename_i i o hm
      rw [hm] at hx
      obtain ⟨p, hp, hxv⟩ := hx
      obtain ⟨cs, hc, hv⟩ := Option.bind_eq_some_iff.1 hv
      obtain ⟨u, hu1, hu2⟩ := load_ok hs.heap hc hp h1 h2 h3
      refine ⟨u :: us, ?_, V.down_ok hu2 hv, ha⟩
      have hxv' : a.tmps.getD t undef = ptrV p o := hxv
      simp [List.mapM_cons, resOne]
      rw [show (a.tmps[t]?.getD undef) = ptrV p o by simpa [Array.getD_eq_getD_getElem?] using hxv']
      simp [ptrV, asAddr, hu1, hu]
    · cases hv
  | [], _ :: _, _, h, _ => by simp [okRes] at h
  | .tmp _ :: _, [], _, h, _ => by simp [okRes] at h
  | .cell _ _ :: _, [], _, h, _ => by simp [okRes] at h
  | .tmp _ :: _, .cell _ _ _ :: _, _, h, _ => by simp [okRes] at h
  | .cell _ _ :: _, .t _ :: _, _, h, _ => by simp [okRes] at h
theorem results_ok {P : Program} {φ : Phi} {e : Env} {h : Heap} {nt : Nat} {a : Act} {w : World} (hs : StOK φ e h nt a w) {fn : Func} {qs : List RV} {vs : List V1} (hk : okRes P fn.results.toList qs = true) (hr : resL e h qs = some vs) : ∃ v, (results fn a.tmps).run P w = .ok v w ∧ VR φ (oneV vs) v := by
  obtain ⟨us, hu, ha⟩ := res_ok hs hk hr
  have e1 : results fn a.tmps = (do
      let vs ← fn.results.mapM (resOne a.tmps)
      pure (if h : vs.size = 1 then vs[0] else .tuple vs)) := by
    unfold results
    congr 1
  have e2 : (fn.results.mapM (resOne a.tmps)).run P w = .ok us.toArray w := by
    rw [Array.mapM_eq_mapM_toList]
    simp [hu]
  refine ⟨_, by rw [e1]; simp only [Sem.run_bind, e2, Result.andThen_ok]; rfl, ?_⟩
  cases vs with
  | nil =>
    cases us with
    | nil => exact ⟨[], rfl, trivial⟩
    | cons => exact ha.elim
  | cons v vs =>
    cases us with
    | nil => exact ha.elim
    | cons u us =>
      cases vs with
      | nil =>
        cases us with
        | nil => exact VR1.up.2 ha.1
        | cons => exact ha.2.elim
      | cons v2 vs =>
        cases us with
        | nil => exact ha.2.elim
        | cons u2 us =>
          refine ⟨u :: u2 :: us, ?_, ha⟩
          simp
theorem get_enter : ∀ (args : List V) (k t : Nat), get (enter args k) t = if k ≤ t then args.getD (t - k) (.c .dead) else .c .dead
  | [], k, t => by simp [enter, AM.get]
  | v :: args, k, t => by
    simp only [enter, AM.get]
    rw [get_enter args (k + 1) t]
    by_cases hkt : k = t
    · subst hkt; simp
    · rw [if_neg hkt]
      by_cases hle : k + 1 ≤ t
      · rw [if_pos hle, if_pos (by omega), show t - k = (t - (k + 1)) + 1 by omega, List.getD_cons_succ]
      · rw [if_neg hle, if_neg (by omega)]
/-- a function of the program and its code in the abstract machine -/
def okFn (P : Program) (f : Nat) (fn : AFn) : Bool :=
  match P.funcs[f]? with
  | some g => (match g.body with
    | some c => !(g.name == "runtime.NumGoroutine") && okCode P g.ntmps c fn.body && okRes P g.results.toList fn.res && decide (fn.np ≤ g.ntmps)
    | none => false)
  | none => false
/-- a function told by what it answers -/
def PrimOK (P : Program) (pm : Prim) : Prop := ∀ f q, pm f = some q → ∀ args h res h', q args h = some (res, h') → ∀ (φ : Phi) (w : World) (vs : List Value), HeapOK φ (lkp h) w → All2 (VR φ) args vs →
    Invokes P f vs.toArray w fun rv w' => ∃ φ', (∀ i, i < h.length → φ' i = φ i) ∧ VR φ' res rv ∧ Mv φ (lkp h) w φ' (lkp h') w'
def ProgOK (P : Program) (pr : Prog) : Prop := ∀ f fn, pr f = some fn → okFn P f fn = true
theorem fn_step {P : Program} {pr : Prog} {pm : Prim} (hm : P.follows .mixedOrders = true) (hpr : ProgOK P pr) (hpm : PrimOK P pm) {n : Nat} (ih : ∀ j, j < n → FnOK P (fnN pr pm j)) : FnOK P (fnN pr pm n) := by
  intro f args h res h' hr φ w vs hh ha
  unfold fnN fnOf at hr
  split at hr
  · rename_i q hq
    exact hpm f q hq args h res h' hr φ w vs hh ha
  · split at hr
    · cases hr
    · rename_i fn hfn
      have hok := hpr f fn hfn
      unfold okFn at hok
      split at hok
      · rename_i g hg
        split at hok
        · rename_i c hc
          simp only [Bool.and_eq_true, decide_eq_true_eq] at hok
          obtain ⟨⟨⟨hname, hcode⟩, hres⟩, hnp⟩ := hok
          split at hr
          · rename_i hlen
            obtain ⟨⟨x, e1, h1⟩, hr1, hr⟩ := Option.bind_eq_some_iff.1 hr
            cases n with
            | zero => simp [exN] at hr1
            | succ j =>
              simp only [exN] at hr1
              refine .inr ⟨Go.MuLone.run_callFunc_enter hg (by simpa using hname) hc _ _, calls_of_wp hg hc ?_⟩
              have hvl := ha.length
              have hst : StOK φ (enter args 0) h g.ntmps { tmps := vs.toArray ++ Array.replicate (g.ntmps - vs.toArray.size) undef, defers := [] } w := by
                refine ⟨fun t => ?_, hh, by simp; omega, rfl⟩
                rw [get_enter]
                simp only [Nat.zero_le, if_true, Nat.sub_zero]
                by_cases ht : t < args.length
                · obtain ⟨u, hu, hvr⟩ := ha.get (List.getElem?_eq_getElem ht)
                  rw [List.getD_eq_getElem?_getD, List.getElem?_eq_getElem ht]
                  have hult := (List.getElem?_eq_some_iff.1 hu).1
                  have : (vs.toArray ++ Array.replicate (g.ntmps - vs.toArray.size) undef).getD t undef = u := by
                    rw [Array.getD_eq_getD_getElem?, Array.getElem?_append_left (by simpa using hult)]
                    simp [hu]
                  show VR φ _ ((vs.toArray ++ Array.replicate (g.ntmps - vs.toArray.size) undef).getD t undef)
                  rw [this]
                  exact hvr
                · rw [List.getD_eq_getElem?_getD, List.getElem?_eq_none (by omega)]
                  trivial
              have hfin : ∀ φ' a' w', StOK φ' e1 h1 g.ntmps a' w' → Later h.length φ h w φ' h1 w' → leave h.length fn.res e1 h1 = some (res, h') → a'.defers = [] ∧ ∃ v, (results g a'.tmps).run P w' = .ok v w' ∧ ∃ rv, Ending.returned v = .returned rv ∧ ∃ φ', (∀ i, i < h.length → φ' i = φ i) ∧ VR φ' res rv ∧ Mv φ (lkp h) w φ' (lkp h') w' := by
                intro φ' a' w' hs' hl hlv
                unfold leave at hlv
                obtain ⟨xs, hxs, hlv⟩ := Option.bind_eq_some_iff.1 hlv
                simp only at hlv
                split at hlv
                · rename_i hcl
                  injection hlv with hlv
                  injection hlv with hl1 hl2
                  obtain ⟨v, hv, hvr⟩ := results_ok (P := P) hs' hres hxs
                  obtain ⟨hn, hm', hL⟩ := gcL_facts h.length (oneV xs).ids h1
                  have hcut := hl.trans (Later.cut hs'.heap hn hm' hL hcl.1)
                  refine ⟨hs'.defers, v, hv, v, rfl, _, hcut.keep, ?_, ?_⟩
                  · rw [← hl1]
                    exact hvr.mp (keeps_sub hcl.2)
                  · rw [← hl2]
                    exact hcut.mv
                · cases hlv
              refine exS_ok (N := j + 1) hm (fun i hi => ih i (by omega)) fn.body c hcode j (by omega) hst (Nat.le_refl _) hr1 fun φ' a' w' hs' hl => ?_
              cases x with
              | norm => exact hfin φ' a' w' hs' hl hr
              | ret => exact hfin φ' a' w' hs' hl hr
              | exit i => simp at hr
          · cases hr
        · cases hok
      · cases hok
theorem fn_ok {P : Program} {pr : Prog} {pm : Prim} (hm : P.follows .mixedOrders = true) (hpr : ProgOK P pr) (hpm : PrimOK P pm) (n : Nat) : FnOK P (fnN pr pm n) := by
  induction n using Nat.strongRecOn with
  | ind n ih => exact fn_step hm hpr hpm ih
end Go.Proofs.YtgpafbbnobanbaaGreatDoor.AM

/-
  The evaluator without fuel: equations to rewrite by.
-/
namespace Go.Proofs.YtgpafbbnobanbaaGreatDoor.AM
open Go

def FLe (F F' : Fns) : Prop := ∀ f a h r, F f a h = some r → F' f a h = some r
abbrev Rec := ACode → Env → Heap → R
def RLe (A B : Rec) : Prop := ∀ c e h r, A c e h = some r → B c e h = some r
theorem callA_mono {F F' : Fns} (hF : FLe F F') {f : Nat} {args : List V} {H : HF} {base : Nat} {r : Out} (h : callA F f args H base = some r) : callA F' f args H base = some r := by
  unfold callA at h ⊢
  simp only at h ⊢
  split at h
  · rename_i hc
    rw [if_pos hc]
    obtain ⟨x, hx, h⟩ := Option.bind_eq_some_iff.1 h
    rw [hF _ _ _ _ hx]
    exact h
  · cases h
theorem ev_mono {F F' : Fns} (hF : FLe F F') {q : AOp} {e : Env} {H : HF} {base : Nat} {r : Out} (h : q.ev F e H base = some r) : q.ev F' e H base = some r := by
  cases q with
  | p q => exact h
  | h q =>
    cases q with
    | call f xs =>
      simp only [AOp.ev, HOp.ev] at h ⊢
      split at h
      · exact callA_mono hF h
      · cases h
    | _ => exact h
theorem outA_mono {F F' : Fns} (hF : FLe F F') {q : AOper} {e : Env} {H : HF} {base : Nat} {r : Out} (h : outA F q e H base = some r) : outA F' q e H base = some r := by
  unfold outA at h ⊢
  obtain ⟨w, hw, h⟩ := Option.bind_eq_some_iff.1 h
  rw [hw]
  simp only [Option.bind_some]
  cases w with
  | true => simp only [if_true] at h ⊢; exact ev_mono hF h
  | false => exact h
theorem runOps_mono {F F' : Fns} (hF : FLe F F') : ∀ (qs : List AOper) (e : Env) (h : Heap) r, runOps F qs e h = some r → runOps F' qs e h = some r
  | [], _, _, _, hr => hr
  | q :: qs, e, h, r, hr => by
    simp only [runOps, stepA] at hr ⊢
    obtain ⟨s, hs, hr⟩ := Option.bind_eq_some_iff.1 hr
    obtain ⟨o, ho, hs⟩ := Option.map_eq_some_iff.1 hs
    rw [outA_mono hF ho]
    simp only [Option.map_some, Option.bind_some]
    subst hs
    exact runOps_mono hF qs _ _ r hr
theorem runOpsD_mono {F F' : Fns} (hF : FLe F F') {n0 : Nat} : ∀ (qs : List AOper) (e : Env) (h : Heap) r, runOpsD F n0 qs e h = some r → runOpsD F' n0 qs e h = some r
  | [], _, _, _, hr => hr
  | q :: qs, e, h, r, hr => by
    simp only [runOpsD, stepD] at hr ⊢
    obtain ⟨s, hs, hr⟩ := Option.bind_eq_some_iff.1 hr
    obtain ⟨o, ho, hs⟩ := Option.bind_eq_some_iff.1 hs
    rw [outA_mono hF ho]
    simp only [Option.bind_some]
    rw [hs]
    exact runOpsD_mono hF qs _ _ r hr
theorem runOpsE_mono {F F' : Fns} (hF : FLe F F') {n0 : Nat} : ∀ (qs : List AOper) (ms : List (List Nat)) (bs : List (Nat × Nat)) (e : Env) (h : Heap) r, runOpsE F n0 qs ms bs e h = some r → runOpsE F' n0 qs ms bs e h = some r
  | [], _, _, _, _, _, hr => hr
  | q :: qs, ms, bs, e, h, r, hr => by
    simp only [runOpsE, stepE] at hr ⊢
    obtain ⟨s, hs, hr⟩ := Option.bind_eq_some_iff.1 hr
    obtain ⟨o, ho, hs⟩ := Option.bind_eq_some_iff.1 hs
    rw [outA_mono hF ho]
    simp only [Option.bind_some]
    rw [hs]
    exact runOpsE_mono hF qs _ _ _ _ r hr
theorem exS_mono {F F' : Fns} {A B : Rec} {m : Nat} (hF : FLe F F') (hA : RLe A B) : ∀ (c : ACode) (e : Env) (h : Heap) r, exS F A m c e h = some r → exS F' B m c e h = some r := by
  intro c
  induction c with
  | skip => intro e h r hr; exact hr
  | ret => intro e h r hr; exact hr
  | exit id => intro e h r hr; exact hr
  | region qs live =>
    intro e h r hr
    simp only [exS] at hr ⊢
    obtain ⟨s, hs, hr⟩ := Option.map_eq_some_iff.1 hr
    rw [runOps_mono hF _ _ _ _ hs]
    simpa using hr
  | regionD qs live ap =>
    intro e h r hr
    simp only [exS] at hr ⊢
    obtain ⟨s, hs, hr⟩ := Option.bind_eq_some_iff.1 hr
    rw [runOpsD_mono hF _ _ _ _ hs]
    exact hr
  | regionE qs live ap ms =>
    intro e h r hr
    simp only [exS] at hr ⊢
    obtain ⟨s, hs, hr⟩ := Option.bind_eq_some_iff.1 hr
    rw [runOpsE_mono hF _ _ _ _ _ _ hs]
    exact hr
  | seq a b iha ihb =>
    intro e h r hr
    simp only [exS] at hr ⊢
    obtain ⟨⟨x, e1, h1⟩, hs, hr⟩ := Option.bind_eq_some_iff.1 hr
    rw [iha _ _ _ hs]
    simp only [Option.bind_some]
    cases x with
    | norm => exact ihb _ _ _ hr
    | exit id => exact hr
    | ret => exact hr
  | cond c a b iha ihb =>
    intro e h r hr
    simp only [exS] at hr ⊢
    split at hr
    · rename_i t ht
      cases t with
      | true => exact iha _ _ _ hr
      | false => exact ihb _ _ _ hr
    · cases hr
  | block id a ih =>
    intro e h r hr
    simp only [exS] at hr ⊢
    obtain ⟨s, hs, hr⟩ := Option.map_eq_some_iff.1 hr
    rw [ih _ _ _ hs]
    simpa using hr
  | loop a live ih =>
    intro e h r hr
    simp only [exS] at hr ⊢
    obtain ⟨s, hs, hr⟩ := Option.bind_eq_some_iff.1 hr
    obtain ⟨⟨x, e1, h1⟩, hs1, hr⟩ := Option.bind_eq_some_iff.1 hr
    rw [hs]
    simp only [Option.bind_some]
    rw [ih _ _ _ hs1]
    simp only [Option.bind_some]
    cases x with
    | norm => exact hA _ _ _ _ hr
    | exit id => exact hr
    | ret => exact hr
theorem fnOf_mono {P : Prog} {Q : Prim} {A B : Nat → Rec} (hA : ∀ m, RLe (A m) (B m)) : FLe (fnOf P Q A) (fnOf P Q B) := by
  intro f a h r hr
  unfold fnOf at hr ⊢
  split
  · rename_i q hq
    rw [hq] at hr
    exact hr
  · rename_i hq
    rw [hq] at hr
    simp only at hr
    split
    · rename_i hp; rw [hp] at hr; cases hr
    · rename_i fn hp
      rw [hp] at hr
      simp only at hr
      split at hr
      · rename_i hl
        rw [if_pos hl]
        obtain ⟨s, hs, hr⟩ := Option.bind_eq_some_iff.1 hr
        rw [hA _ _ _ _ _ hs]
        exact hr
      · cases hr
section
variable (P : Prog) (Q : Prim)
theorem exN_succ : ∀ (n m : Nat), RLe (exN P Q n m) (exN P Q (n + 1) m)
  | 0, m => fun c e h r hr => by simp [exN] at hr
  | n + 1, m => fun c e h r hr => by
    simp only [exN] at hr
    rw [exN]
    exact exS_mono (fnOf_mono fun m => exN_succ n m) (exN_succ n m) c e h r hr
theorem exN_le {n k : Nat} (h : n ≤ k) (m : Nat) : RLe (exN P Q n m) (exN P Q k m) := by
  induction h with
  | refl => exact fun _ _ _ _ hr => hr
  | step _ ih => exact fun c e h r hr => exN_succ P Q _ m c e h r (ih c e h r hr)
theorem fnN_le {n k : Nat} (h : n ≤ k) : FLe (fnN P Q n) (fnN P Q k) := fnOf_mono fun m => exN_le P Q h m
open Classical in
noncomputable def fnI : Fns := fun f a h => if hx : ∃ r n, fnN P Q n f a h = some r then some (Classical.choose hx) else none
open Classical in
noncomputable def exI (m : Nat) : Rec := fun c e h => if hx : ∃ r n, exN P Q n m c e h = some r then some (Classical.choose hx) else none
theorem fnI_iff {f : Nat} {a : List V} {h : Heap} {r : V × Heap} : fnI P Q f a h = some r ↔ ∃ n, fnN P Q n f a h = some r := by
  unfold fnI
  constructor
  · intro hr
    split at hr
    · rename_i hx
      injection hr with hr
      rw [← hr]
      exact Classical.choose_spec hx
    · cases hr
  · intro ⟨n, hn⟩
    have hx : ∃ r n, fnN P Q n f a h = some r := ⟨r, n, hn⟩
    rw [dif_pos hx]
    obtain ⟨k, hk⟩ := Classical.choose_spec hx
    have h1 := fnN_le P Q (Nat.le_max_left n k) _ _ _ _ hn
    have h2 := fnN_le P Q (Nat.le_max_right n k) _ _ _ _ hk
    rw [h1] at h2
    exact h2.symm
theorem exI_iff {m : Nat} {c : ACode} {e : Env} {h : Heap} {r : Ex × Env × Heap} : exI P Q m c e h = some r ↔ ∃ n, exN P Q n m c e h = some r := by
  unfold exI
  constructor
  · intro hr
    split at hr
    · rename_i hx
      injection hr with hr
      rw [← hr]
      exact Classical.choose_spec hx
    · cases hr
  · intro ⟨n, hn⟩
    have hx : ∃ r n, exN P Q n m c e h = some r := ⟨r, n, hn⟩
    rw [dif_pos hx]
    obtain ⟨k, hk⟩ := Classical.choose_spec hx
    have h1 := exN_le P Q (Nat.le_max_left n k) m _ _ _ _ hn
    have h2 := exN_le P Q (Nat.le_max_right n k) m _ _ _ _ hk
    rw [h1] at h2
    exact h2.symm
theorem fnN_le_I (n : Nat) : FLe (fnN P Q n) (fnI P Q) := fun _ _ _ _ hr => (fnI_iff P Q).2 ⟨n, hr⟩
theorem exN_le_I (n m : Nat) : RLe (exN P Q n m) (exI P Q m) := fun _ _ _ _ hr => (exI_iff P Q).2 ⟨n, hr⟩
/-! what is reckoned without fuel is reckoned with some -/
theorem callA_fin {f : Nat} {args : List V} {H : HF} {base : Nat} {r : Out} (h : callA (fnI P Q) f args H base = some r) : ∃ n, callA (fnN P Q n) f args H base = some r := by
  unfold callA at h
  simp only at h
  split at h
  · rename_i hc
    obtain ⟨x, hx, h⟩ := Option.bind_eq_some_iff.1 h
    obtain ⟨n, hn⟩ := (fnI_iff P Q).1 hx
    refine ⟨n, ?_⟩
    unfold callA
    simp only
    rw [if_pos hc, hn]
    exact h
  · cases h
theorem ev_fin {q : AOp} {e : Env} {H : HF} {base : Nat} {r : Out} (h : q.ev (fnI P Q) e H base = some r) : ∃ n, q.ev (fnN P Q n) e H base = some r := by
  cases q with
  | p q => exact ⟨0, h⟩
  | h q =>
    cases q with
    | call f xs =>
      simp only [AOp.ev, HOp.ev] at h ⊢
      split at h
      · obtain ⟨n, hn⟩ := callA_fin P Q h
        exact ⟨n, hn⟩
      · cases h
    | _ => exact ⟨0, h⟩
theorem outA_fin {q : AOper} {e : Env} {H : HF} {base : Nat} {r : Out} (h : outA (fnI P Q) q e H base = some r) : ∃ n, outA (fnN P Q n) q e H base = some r := by
  unfold outA at h ⊢
  obtain ⟨w, hw, h⟩ := Option.bind_eq_some_iff.1 h
  rw [hw]
  simp only [Option.bind_some]
  cases w with
  | true => simp only [if_true] at h ⊢; exact ev_fin P Q h
  | false => exact ⟨0, h⟩
theorem runOps_fin : ∀ (qs : List AOper) (e : Env) (h : Heap) r, runOps (fnI P Q) qs e h = some r → ∃ n, runOps (fnN P Q n) qs e h = some r
  | [], _, _, _, hr => ⟨0, hr⟩
  | q :: qs, e, h, r, hr => by
    simp only [runOps, stepA] at hr ⊢
    obtain ⟨s, hs, hr⟩ := Option.bind_eq_some_iff.1 hr
    obtain ⟨o, ho, hs⟩ := Option.map_eq_some_iff.1 hs
    obtain ⟨n1, h1⟩ := outA_fin P Q ho
    obtain ⟨n2, h2⟩ := runOps_fin qs _ _ r hr
    refine ⟨max n1 n2, ?_⟩
    rw [outA_mono (fnN_le P Q (Nat.le_max_left n1 n2)) h1]
    simp only [Option.map_some, Option.bind_some]
    subst hs
    exact runOps_mono (fnN_le P Q (Nat.le_max_right n1 n2)) _ _ _ _ h2
theorem runOpsD_fin {n0 : Nat} : ∀ (qs : List AOper) (e : Env) (h : Heap) r, runOpsD (fnI P Q) n0 qs e h = some r → ∃ n, runOpsD (fnN P Q n) n0 qs e h = some r
  | [], _, _, _, hr => ⟨0, hr⟩
  | q :: qs, e, h, r, hr => by
    simp only [runOpsD, stepD] at hr ⊢
    obtain ⟨s, hs, hr⟩ := Option.bind_eq_some_iff.1 hr
    obtain ⟨o, ho, hs⟩ := Option.bind_eq_some_iff.1 hs
    obtain ⟨n1, h1⟩ := outA_fin P Q ho
    obtain ⟨n2, h2⟩ := runOpsD_fin qs _ _ r hr
    refine ⟨max n1 n2, ?_⟩
    rw [outA_mono (fnN_le P Q (Nat.le_max_left n1 n2)) h1]
    simp only [Option.bind_some]
    rw [hs]
    exact runOpsD_mono (fnN_le P Q (Nat.le_max_right n1 n2)) _ _ _ _ h2
theorem runOpsE_fin {n0 : Nat} : ∀ (qs : List AOper) (ms : List (List Nat)) (bs : List (Nat × Nat)) (e : Env) (h : Heap) r, runOpsE (fnI P Q) n0 qs ms bs e h = some r → ∃ n, runOpsE (fnN P Q n) n0 qs ms bs e h = some r
  | [], _, _, _, _, _, hr => ⟨0, hr⟩
  | q :: qs, ms, bs, e, h, r, hr => by
    simp only [runOpsE, stepE] at hr ⊢
    obtain ⟨s, hs, hr⟩ := Option.bind_eq_some_iff.1 hr
    obtain ⟨o, ho, hs⟩ := Option.bind_eq_some_iff.1 hs
    obtain ⟨n1, h1⟩ := outA_fin P Q ho
    obtain ⟨n2, h2⟩ := runOpsE_fin qs _ _ _ _ r hr
    refine ⟨max n1 n2, ?_⟩
    rw [outA_mono (fnN_le P Q (Nat.le_max_left n1 n2)) h1]
    simp only [Option.bind_some]
    rw [hs]
    exact runOpsE_mono (fnN_le P Q (Nat.le_max_right n1 n2)) _ _ _ _ _ _ h2
theorem exS_fin {m : Nat} : ∀ (c : ACode) (e : Env) (h : Heap) r, exS (fnI P Q) (exI P Q m) m c e h = some r → ∃ n, exS (fnN P Q n) (exN P Q n m) m c e h = some r := by
  have up : ∀ {n k : Nat}, n ≤ k → ∀ {c e h r}, exS (fnN P Q n) (exN P Q n m) m c e h = some r → exS (fnN P Q k) (exN P Q k m) m c e h = some r := fun hle c e h r hr => exS_mono (fnN_le P Q hle) (exN_le P Q hle m) c e h r hr
  intro c
  induction c with
  | skip => intro e h r hr; exact ⟨0, hr⟩
  | ret => intro e h r hr; exact ⟨0, hr⟩
  | exit id => intro e h r hr; exact ⟨0, hr⟩
  | region qs live =>
    intro e h r hr
    simp only [exS] at hr ⊢
    obtain ⟨s, hs, hr⟩ := Option.map_eq_some_iff.1 hr
    obtain ⟨n, hn⟩ := runOps_fin P Q _ _ _ _ hs
    exact ⟨n, by rw [hn]; simpa using hr⟩
  | regionD qs live ap =>
    intro e h r hr
    simp only [exS] at hr ⊢
    obtain ⟨s, hs, hr⟩ := Option.bind_eq_some_iff.1 hr
    obtain ⟨n, hn⟩ := runOpsD_fin P Q _ _ _ _ hs
    exact ⟨n, by rw [hn]; exact hr⟩
  | regionE qs live ap ms =>
    intro e h r hr
    simp only [exS] at hr ⊢
    obtain ⟨s, hs, hr⟩ := Option.bind_eq_some_iff.1 hr
    obtain ⟨n, hn⟩ := runOpsE_fin P Q _ _ _ _ _ _ hs
    exact ⟨n, by rw [hn]; exact hr⟩
  | seq a b iha ihb =>
    intro e h r hr
    simp only [exS] at hr ⊢
    obtain ⟨⟨x, e1, h1⟩, hs, hr⟩ := Option.bind_eq_some_iff.1 hr
    obtain ⟨n1, hn1⟩ := iha _ _ _ hs
    cases x with
    | norm =>
      obtain ⟨n2, hn2⟩ := ihb _ _ _ hr
      refine ⟨max n1 n2, ?_⟩
      rw [up (Nat.le_max_left n1 n2) hn1]
      exact up (Nat.le_max_right n1 n2) hn2
    | exit id => exact ⟨n1, by rw [hn1]; exact hr⟩
    | ret => exact ⟨n1, by rw [hn1]; exact hr⟩
  | cond c a b iha ihb =>
    intro e h r hr
    simp only [exS] at hr ⊢
    split at hr
    · rename_i t ht
      cases t with
      | true => exact iha _ _ _ hr
      | false => exact ihb _ _ _ hr
    · cases hr
  | block id a ih =>
    intro e h r hr
    simp only [exS] at hr ⊢
    obtain ⟨s, hs, hr⟩ := Option.map_eq_some_iff.1 hr
    obtain ⟨n, hn⟩ := ih _ _ _ hs
    exact ⟨n, by rw [hn]; simpa using hr⟩
  | loop a live ih =>
    intro e h r hr
    simp only [exS] at hr ⊢
    obtain ⟨s, hs, hr⟩ := Option.bind_eq_some_iff.1 hr
    obtain ⟨⟨x, e1, h1⟩, hs1, hr⟩ := Option.bind_eq_some_iff.1 hr
    obtain ⟨n1, hn1⟩ := ih _ _ _ hs1
    rw [hs]
    simp only [Option.bind_some]
    cases x with
    | norm =>
      obtain ⟨n2, hn2⟩ := (exI_iff P Q).1 hr
      refine ⟨max n1 n2, ?_⟩
      rw [up (Nat.le_max_left n1 n2) hn1]
      exact exN_le P Q (Nat.le_max_right n1 n2) m _ _ _ _ hn2
    | exit id => exact ⟨n1, by rw [hn1]; exact hr⟩
    | ret => exact ⟨n1, by rw [hn1]; exact hr⟩
theorem opt_ext {α : Type} {a b : Option α} (h : ∀ r, a = some r ↔ b = some r) : a = b := by
  cases a with
  | none => cases b with
    | none => rfl
    | some y => exact absurd ((h y).2 rfl) (by simp)
  | some x => exact ((h x).1 rfl).symm
/-- the code's equation -/
theorem exI_eq (m : Nat) (c : ACode) (e : Env) (h : Heap) : exI P Q m c e h = exS (fnI P Q) (exI P Q m) m c e h := by
  refine opt_ext fun r => ⟨fun hr => ?_, fun hr => ?_⟩
  · obtain ⟨n, hn⟩ := (exI_iff P Q).1 hr
    cases n with
    | zero => simp [exN] at hn
    | succ n => exact exS_mono (fnN_le_I P Q n) (exN_le_I P Q n m) c e h r hn
  · obtain ⟨n, hn⟩ := exS_fin P Q c e h r hr
    exact (exI_iff P Q).2 ⟨n + 1, hn⟩
/-- a function's equation -/
theorem fnI_eq (f : Nat) (a : List V) (h : Heap) : fnI P Q f a h = fnOf P Q (exI P Q) f a h := by
  refine opt_ext fun r => ⟨fun hr => ?_, fun hr => ?_⟩
  · obtain ⟨n, hn⟩ := (fnI_iff P Q).1 hr
    exact fnOf_mono (fun m => exN_le_I P Q n m) _ _ _ _ hn
  · unfold fnOf at hr
    rw [fnI_iff]
    split at hr
    · rename_i q hq
      exact ⟨0, by unfold fnN fnOf; rw [hq]; exact hr⟩
    · rename_i hq
      split at hr
      · cases hr
      · rename_i fn hp
        split at hr
        · rename_i hl
          obtain ⟨s, hs, hr⟩ := Option.bind_eq_some_iff.1 hr
          obtain ⟨n, hn⟩ := (exI_iff P Q).1 hs
          refine ⟨n, ?_⟩
          unfold fnN fnOf
          rw [hq]
          simp only [hp]
          rw [if_pos hl, hn]
          exact hr
        · cases hr
/-- a call's equation -/
theorem fnI_body {f : Nat} {fn : AFn} (hq : Q f = none) (hp : P f = some fn) {a : List V} (hl : a.length = fn.np) (h : Heap) : fnI P Q f a h = (exI P Q h.length fn.body (enter a 0) h).bind fun
    | (.exit _, _, _) => none
    | (_, e, h') => leave h.length fn.res e h' := by
  rw [fnI_eq]
  unfold fnOf
  rw [hq]
  simp only [hp]
  rw [if_pos hl]
  rfl
theorem exI_skip (m : Nat) (e : Env) (h : Heap) : exI P Q m .skip e h = some (.norm, e, h) := by rw [exI_eq]; rfl
theorem exI_ret (m : Nat) (e : Env) (h : Heap) : exI P Q m .ret e h = some (.ret, e, h) := by rw [exI_eq]; rfl
theorem exI_exit (m id : Nat) (e : Env) (h : Heap) : exI P Q m (.exit id) e h = some (.exit id, e, h) := by rw [exI_eq]; rfl
theorem exI_region (m : Nat) (qs : List AOper) (live : List Nat) (e : Env) (h : Heap) : exI P Q m (.region qs live) e h = (runOps (fnI P Q) qs e h).map fun s => (.norm, restrict s.1 live, s.2) := by rw [exI_eq]; rfl
theorem exI_regionD (m : Nat) (qs : List AOper) (live : List Nat) (ap : List (Opd × Opd)) (e : Env) (h : Heap) : exI P Q m (.regionD qs live ap) e h = (runOpsD (fnI P Q) h.length qs e h).bind fun s => if apartA s.1 ap then some (.norm, restrict s.1 live, s.2) else none := by rw [exI_eq]; rfl
theorem exI_regionE (m : Nat) (qs : List AOper) (live : List Nat) (ap : List (Opd × Opd)) (ms : List (List Nat)) (e : Env) (h : Heap) : exI P Q m (.regionE qs live ap ms) e h = (runOpsE (fnI P Q) h.length qs ms [] e h).bind fun s => if apartA s.1 ap then some (.norm, restrict s.1 live, s.2) else none := by rw [exI_eq]; rfl
theorem exI_seq (m : Nat) (a b : ACode) (e : Env) (h : Heap) : exI P Q m (.seq a b) e h = (exI P Q m a e h).bind fun
    | (.norm, e', h') => exI P Q m b e' h'
    | r => some r := by
  rw [exI_eq P Q m (.seq a b)]
  simp only [exS]
  rw [← exI_eq]
  congr 1
  funext ⟨x, e', h'⟩
  cases x <;> simp only [← exI_eq]
theorem exI_cond (m : Nat) (c : Opd) (a b : ACode) (e : Env) (h : Heap) : exI P Q m (.cond c a b) e h = match c.ev e with
    | .c (.bool t) => if t then exI P Q m a e h else exI P Q m b e h
    | _ => none := by
  rw [exI_eq P Q m (.cond c a b)]
  simp only [exS, ← exI_eq]
  rfl
theorem exI_block (m id : Nat) (a : ACode) (e : Env) (h : Heap) : exI P Q m (.block id a) e h = (exI P Q m a e h).map fun
    | (.exit i, e', h') => if i = id then (.norm, e', h') else (.exit i, e', h')
    | r => r := by
  rw [exI_eq P Q m (.block id a)]
  simp only [exS]
  rw [← exI_eq]
  rfl
theorem exI_loop (m : Nat) (a : ACode) (live : List Nat) (e : Env) (h : Heap) : exI P Q m (.loop a live) e h = (gcE m live e h).bind fun s => (exI P Q m a s.1 s.2).bind fun
    | (.norm, e', h') => exI P Q m (.loop a live) e' h'
    | r => some r := by
  rw [exI_eq P Q m (.loop a live)]
  simp only [exS, ← exI_eq]
  rfl
end
theorem fnI_ok {P : Program} {pr : Prog} {pm : Prim} (hm : P.follows .mixedOrders = true) (hpr : ProgOK P pr) (hpm : PrimOK P pm) : FnOK P (fnI pr pm) := by
  intro f args h res h' hr
  obtain ⟨n, hn⟩ := (fnI_iff pr pm).1 hr
  exact fn_ok hm hpr hpm n f args h res h' hn
end Go.Proofs.YtgpafbbnobanbaaGreatDoor.AM

/-
  Running code of the abstract machine by rewriting: the rules.
-/
namespace Go.Proofs.YtgpafbbnobanbaaGreatDoor.AM
open Go

theorem cids_ints (k : IntKind) (l : List Int) : cids (l.map (C.int k)) = [] := by induction l <;> simp_all [cids, C.ids]
theorem cmp_ints (g : Nat → Nat) (k : IntKind) (l : List Int) : cmp g (l.map (C.int k)) = l.map (C.int k) := by induction l <;> simp_all [cmp, C.mp]
theorem noDead_ints (k : IntKind) (l : List Int) : noDead (l.map (C.int k)) = true := by induction l <;> simp_all [noDead]
/-- a value of no blocks is the same under every renaming -/
theorem C.mp_pure {g : Nat → Nat} {c : C} (h : c.ids = []) : c.mp g = c := by
  cases c <;> simp_all [C.ids, C.mp]
theorem cmp_pure {g : Nat → Nat} : ∀ {l : List C}, cids l = [] → cmp g l = l
  | [], _ => rfl
  | c :: l, h => by
    simp only [cids, List.append_eq_nil_iff] at h
    simp only [cmp, C.mp_pure h.1, cmp_pure h.2]
theorem V1.mp_pure {g : Nat → Nat} {v : V1} (h : v.ids = []) : v.mp g = v := by
  cases v with
  | c x => simp only [V1.mp, C.mp_pure h]
  | agg xs => simp only [V1.mp, cmp_pure h]
theorem V.mp_pure {g : Nat → Nat} {v : V} (h : v.ids = []) : v.mp g = v := by
  cases v with
  | c x => simp only [V.mp, C.mp_pure h]
  | agg xs => simp only [V.mp, cmp_pure h]
  | tup xs =>
    simp only [V.mp]
    congr 1
    have : ∀ (xs : List V1), xs.flatMap V1.ids = [] → xs.map (V1.mp g) = xs := by
      intro xs
      induction xs with
      | nil => intro _; rfl
      | cons x xs ih =>
        intro h
        simp only [List.flatMap_cons, List.append_eq_nil_iff] at h
        simp only [List.map_cons, V1.mp_pure h.1, ih h.2]
    exact this xs h
theorem mps_pure {g : Nat → Nat} : ∀ {vs : List V}, vs.flatMap V.ids = [] → vs.map (V.mp g) = vs
  | [], _ => rfl
  | v :: vs, h => by
    simp only [List.flatMap_cons, List.append_eq_nil_iff] at h
    simp only [List.map_cons, V.mp_pure h.1, mps_pure h.2]
/-- a renaming that leaves the numbers below n alone -/
theorem C.mp_below {g : Nat → Nat} {c : C} (h : ∀ i ∈ c.ids, g i = i) : c.mp g = c := by
  cases c with
  | ptr i o => simp [C.mp, h i (by simp [C.ids])]
  | sl i o n s => simp [C.mp, h i (by simp [C.ids])]
  | map i => simp [C.mp, h i (by simp [C.ids])]
  | fn f cs =>
    simp only [C.mp]
    congr 1
    have : ∀ (cs : List (Nat × Nat)), (∀ i ∈ cs.map (·.1), g i = i) → cs.map (fun p => (g p.1, p.2)) = cs := by
      intro cs
      induction cs with
      | nil => intro _; rfl
      | cons p cs ih =>
        intro h
        simp only [List.map_cons, h p.1 (by simp), ih fun i hi => h i (by simp only [List.map_cons, List.mem_cons]; exact .inr hi)]
    exact this cs h
  | _ => rfl
theorem cmp_below {g : Nat → Nat} : ∀ {l : List C}, (∀ i ∈ cids l, g i = i) → cmp g l = l
  | [], _ => rfl
  | c :: l, h => by
    have h1 : c.mp g = c := C.mp_below fun i hi => h i (by rw [cids]; exact List.mem_append_left _ hi)
    have h2 : cmp g l = l := cmp_below fun i hi => h i (by rw [cids]; exact List.mem_append_right _ hi)
    rw [cmp, h1, h2]
theorem V1.mp_below {g : Nat → Nat} {v : V1} (h : ∀ i ∈ v.ids, g i = i) : v.mp g = v := by
  cases v with
  | c x => simp only [V1.mp, C.mp_below h]
  | agg xs => simp only [V1.mp, cmp_below h]
theorem V.mp_below {g : Nat → Nat} {v : V} (h : ∀ i ∈ v.ids, g i = i) : v.mp g = v := by
  cases v with
  | c x => simp only [V.mp, C.mp_below h]
  | agg xs => simp only [V.mp, cmp_below h]
  | tup xs =>
    simp only [V.mp]
    congr 1
    have : ∀ (xs : List V1), (∀ i ∈ xs.flatMap V1.ids, g i = i) → xs.map (V1.mp g) = xs := by
      intro xs
      induction xs with
      | nil => intro _; rfl
      | cons x xs ih =>
        intro h
        simp only [List.map_cons, V1.mp_below fun i hi => h i (by simp only [List.flatMap_cons, List.mem_append]; exact .inl hi), ih fun i hi => h i (by simp only [List.flatMap_cons, List.mem_append]; exact .inr hi)]
    exact this xs h
theorem Blk.mp_below {g : Nat → Nat} {b : Blk} (h : ∀ i ∈ b.ids, g i = i) : b.mp g = b := by
  cases b with
  | cells cs o => simp only [Blk.mp, cmp_below h]
  | dead => rfl
  | map es =>
    simp only [Blk.mp]
    congr 1
    have : ∀ (es : List (List C × C)), (∀ i ∈ es.flatMap (fun e => e.2.ids), g i = i) → es.map (fun e => (e.1, e.2.mp g)) = es := by
      intro es
      induction es with
      | nil => intro _; rfl
      | cons x es ih =>
        intro h
        simp only [List.map_cons, C.mp_below fun i hi => h i (by simp only [List.flatMap_cons, List.mem_append]; exact .inl hi), ih fun i hi => h i (by simp only [List.flatMap_cons, List.mem_append]; exact .inr hi)]
    exact this es h
/-- the blocks name blocks below n alone -/
def wfH (n : Nat) (h : Heap) : Bool := h.all fun b => b.ids.all fun i => decide (i < n)
theorem wfH_at {n : Nat} {h : Heap} (hw : wfH n h = true) {i : Nat} {b : Blk} (hb : lkp h i = some b) : ∀ j ∈ b.ids, j < n := by
  have := List.all_eq_true.1 hw b (List.mem_of_getElem? hb)
  intro j hj
  simpa using List.all_eq_true.1 this j hj
theorem pos_upto {m i : Nat} (h : i < m) : pos (upto m) i = i := pos_of_get (upto_nodup m) (upto_get m i h)
theorem mem_upto {m i : Nat} : i ∈ upto m ↔ i < m := by
  refine ⟨upto_lt m i, fun h => List.mem_of_getElem? (upto_get m i h)⟩
theorem reach_done (H : HF) (m : Nat) : ∀ (n : Nat) (todo : List Nat), (∀ i ∈ todo, i < m) → reach H n todo (upto m) = upto m
  | 0, _, _ => rfl
  | _ + 1, [], _ => rfl
  | n + 1, i :: todo, h => by
    unfold reach
    rw [if_pos (mem_upto.2 (h i (by simp)))]
    exact reach_done H m n todo fun j hj => h j (by simp [hj])
theorem sub_upto {m : Nat} {h : Heap} (hm : m ≤ h.length) (hw : wfH m (h.take m) = true) : sub (upto m) (lkp h) = h.take m := by
  apply List.ext_getElem?
  intro i
  unfold sub
  rw [List.getElem?_map]
  by_cases hi : i < m
  · rw [upto_get m i hi, List.getElem?_take, if_pos hi]
    have hb : lkp (h.take m) i = some (h[i]'(by omega)) := by unfold lkp; rw [List.getElem?_take, if_pos hi, List.getElem?_eq_getElem]
    have : lkp h i = some (h[i]'(by omega)) := List.getElem?_eq_getElem _
    simp only [Option.map_some, this, Option.getD_some]
    rw [List.getElem?_eq_getElem (by omega)]
    congr 1
    exact Blk.mp_below fun j hj => pos_upto (wfH_at hw hb j hj)
  · rw [List.getElem?_eq_none (by rw [upto_length]; omega), List.getElem?_eq_none (by simp; omega)]
    rfl
theorem closed_upto {m : Nat} {h : Heap} (hm : m ≤ h.length) (hw : wfH m (h.take m) = true) : closed (upto m) (lkp h) = true := by
  unfold closed
  rw [List.all_eq_true]
  intro i hi
  have hi := mem_upto.1 hi
  have hb : lkp (h.take m) i = some (h[i]'(by omega)) := by unfold lkp; rw [List.getElem?_take, if_pos hi, List.getElem?_eq_getElem]
  have : lkp h i = some (h[i]'(by omega)) := List.getElem?_eq_getElem _
  simp only [idsAt, this, Option.isSome_some, Bool.true_and, inL, List.all_eq_true, decide_eq_true_eq]
  exact fun j hj => mem_upto.2 (wfH_at hw hb j hj)
theorem gcL_upto {m : Nat} {roots : List Nat} {h : Heap} (hr : ∀ i ∈ roots, i < m) (hw : wfH m (h.take m) = true) : gcL m roots h = upto m := by
  unfold gcL
  refine reach_done _ m _ _ fun i hi => ?_
  rcases List.mem_append.1 hi with hi | hi
  · exact hr i hi
  · obtain ⟨b, hb, hib⟩ := List.mem_flatMap.1 hi
    have := List.all_eq_true.1 (List.all_eq_true.1 hw b hb) i hib
    simpa using this
/-- what is cut off behind a value -/
def cut (m : Nat) (v : V) (h : Heap) : Option (V × Heap) := if closed (gcL m v.ids h) (lkp h) ∧ inL (gcL m v.ids h) v.ids then some (v.mp (pos (gcL m v.ids h)), sub (gcL m v.ids h) (lkp h)) else none
theorem leave_eq (m : Nat) (rs : List RV) (e : Env) (h : Heap) : leave m rs e h = (resL e h rs).bind fun vs => cut m (oneV vs) h := rfl
/-- a value that names the old blocks alone -/
theorem cut_old {m : Nat} {v : V} {h : Heap} (hv : ∀ i ∈ v.ids, i < m) (hm : m ≤ h.length) (hw : wfH m (h.take m) = true) : cut m v h = some (v, h.take m) := by
  unfold cut
  rw [gcL_upto hv hw, closed_upto hm hw, sub_upto hm hw]
  have : inL (upto m) v.ids = true := by
    rw [inL, List.all_eq_true]
    exact fun i hi => by simpa using mem_upto.2 (hv i hi)
  rw [this]
  simp only [and_self, if_true]
  rw [V.mp_below fun i hi => pos_upto (hv i hi)]
theorem cut_zero {v : V} {h : Heap} (hv : v.ids = []) : cut 0 v h = some (v, []) := by
  rw [cut_old (by simp [hv]) (Nat.zero_le _) rfl]
  rfl
theorem envIds_restrict {m : Nat} {e : Env} {live : List Nat} (h : ∀ t ∈ live, ∀ i ∈ (get e t).ids, i < m) : ∀ i ∈ envIds (restrict e live), i < m := by
  intro i hi
  unfold envIds restrict at hi
  obtain ⟨p, hp, hi⟩ := List.mem_flatMap.1 hi
  obtain ⟨t, ht, rfl⟩ := List.mem_map.1 hp
  exact h t ht i hi
/-- a loop's head where all that lives is old -/
theorem gcE_old {m : Nat} {live : List Nat} {e : Env} {h : Heap} (he : ∀ t ∈ live, ∀ i ∈ (get e t).ids, i < m) (hm : m ≤ h.length) (hw : wfH m (h.take m) = true) : gcE m live e h = some (restrict e live, h.take m) := by
  unfold gcE
  simp only
  have he := envIds_restrict he
  rw [gcL_upto he hw, closed_upto hm hw, sub_upto hm hw]
  have : inL (upto m) (envIds (restrict e live)) = true := by
    rw [inL, List.all_eq_true]
    exact fun i hi => by simpa using mem_upto.2 (he i hi)
  rw [this]
  simp only [and_self, if_true, Option.some.injEq, Prod.mk.injEq, and_true]
  have : ∀ (e : Env), (∀ i ∈ envIds e, i < m) → e.map (fun p => (p.1, p.2.mp (pos (upto m)))) = e := by
    intro e
    induction e with
    | nil => intro _; rfl
    | cons p e ih =>
      intro h
      simp only [List.map_cons]
      rw [V.mp_below fun i hi => pos_upto (h i (by simp only [envIds, List.flatMap_cons, List.mem_append]; exact .inl hi)), ih fun i hi => h i (by simp only [envIds, List.flatMap_cons, List.mem_append]; exact .inr hi)]
  exact this _ he
/-- a call with values alone -/
theorem callA_val {F : Fns} {f : Nat} {args : List V} {H : HF} {base : Nat} {v : V} (ha : args.flatMap V.ids = []) (hF : F f args [] = some (v, [])) (hv : v.ids = []) : callA F f args H base = some (v, [], []) := by
  unfold callA
  simp only [ha, reach]
  have : closed [] H = true := rfl
  rw [if_pos ⟨this, rfl⟩, mps_pure ha]
  have : sub [] H = [] := rfl
  rw [this, hF]
  simp [V.mp_pure hv]
theorem take_len (h g : Heap) (m : Nat) (hm : h.length = m) : (h ++ g).take m = h := by subst hm; simp
end Go.Proofs.YtgpafbbnobanbaaGreatDoor.AM

/-
  The rules as a set for simp: no rule leaves code under a binder.
-/
namespace Go.Proofs.YtgpafbbnobanbaaGreatDoor.AM
open Go
/-- a text cut at each instance of a byte -/
def splC (c : UInt8) : List UInt8 → List (List UInt8)
  | [] => [[]]
  | b :: s => if b = c then [] :: splC c s else match splC c s with | x :: r => (b :: x) :: r | [] => [[b]]
def isStrC : C → Bool
  | .str _ => true
  | _ => false
def strC : C → List UInt8
  | .str s => s
  | _ => []
def np : Prim := fun f =>
  if f = 49 then some (fun args h => match args with | [.c (.str s), .c (.str [c])] => some (.c (.bool (decide (0 ≤ Lib.indexByte s c))), h) | _ => none) else
  if f = 212 then some (fun args h => match args with | [.c (.str s), .c (.str [c])] => if s.length ≤ 9223372036854775807 then some (.tup [.c (.str (Lib.cut s [c]).1), .c (.str (Lib.cut s [c]).2.1), .c (.bool (Lib.cut s [c]).2.2)], h) else none | _ => none) else
  if f = 214 then some (fun args h => match args with | [.c (.str s), .c (.str p)] => some (.tup [.c (.str (Lib.trimPrefix s p)), .c (.bool (Lib.hasPrefix s p))], h) | _ => none) else
  if f = 142 then some (fun args h => match args with | [.c (.str s), .c (.str p)] => if s.length ≤ 9223372036854775807 then some (.c (.bool (Lib.hasSuffix s p)), h) else none | _ => none) else
  if f = 82 then some (fun args h => match args with | [.c (.int .i64 n)] => if -9223372036854775808 ≤ n ∧ n ≤ 9223372036854775807 then some (.c (.str (Lib.itoa n)), h) else none | _ => none) else
  if f = 50 then some (fun args h => match args with | [.c (.str s), .c (.str [c])] => if s.length < 4294967281 then some (.c (.sl h.length 0 (splC c s).length 1), h ++ [.cells ((splC c s).map C.str) true]) else none | _ => none) else
  if f = 62 then some (fun args h => match args with | [.c (.sl i o n 1), .c (.str sep)] => (match h[i]? with | some (.cells cs _) => if o + n ≤ cs.length ∧ n ≤ 140737488355328 ∧ ((cs.drop o).take n).all isStrC = true ∧ (Lib.join (((cs.drop o).take n).map strC) sep).length ≤ 140737488355328 then some (.c (.str (Lib.join (((cs.drop o).take n).map strC) sep)), h) else none | _ => none) | _ => none) else none
section
variable (P : Prog) (Q : Prim)
noncomputable def seqK (m : Nat) (b : ACode) : R → R
  | some (.norm, e, h) => exI P Q m b e h
  | r => r
noncomputable def loopK (m : Nat) (a : ACode) (live : List Nat) : R → R
  | some (.norm, e, h) => exI P Q m (.loop a live) e h
  | r => r
noncomputable def loopG (m : Nat) (a : ACode) (live : List Nat) : Option (Env × Heap) → R
  | some (e, h) => loopK P Q m a live (exI P Q m a e h)
  | none => none
noncomputable def condK (m : Nat) (a b : ACode) (e : Env) (h : Heap) : V → R
  | .c (.bool t) => if t then exI P Q m a e h else exI P Q m b e h
  | _ => none
def blockK (id : Nat) : R → R
  | some (.exit i, e, h) => if i = id then some (.norm, e, h) else some (.exit i, e, h)
  | r => r
def regK (live : List Nat) : Option (Env × Heap) → R
  | some (e, h) => some (.norm, restrict e live, h)
  | none => none
def regDK (live : List Nat) (ap : List (Opd × Opd)) : Option (Env × Heap) → R
  | some (e, h) => if apartA e ap then some (.norm, restrict e live, h) else none
  | none => none
def runK (F : Fns) (r : List AOper) : Option (Env × Heap) → Option (Env × Heap)
  | some (e, h) => runOps F r e h
  | none => none
def runDK (F : Fns) (n : Nat) (r : List AOper) : Option (Env × Heap) → Option (Env × Heap)
  | some (e, h) => runOpsD F n r e h
  | none => none
def runEK (F : Fns) (n : Nat) (r : List AOper) (ms : List (List Nat)) (bs : List (Nat × Nat)) (n1 : Nat) : Option (Env × Heap) → Option (Env × Heap)
  | some (e, h) => runOpsE F n r ms (bs ++ [(n1, h.length)]) e h
  | none => none
def stepEK (n : Nat) (as : List Nat) (bs : List (Nat × Nat)) (o : AOp) (d : Option Nat) (e : Env) (h : Heap) : Option Out → Option (Env × Heap)
  | some (v, ns, us) => if okE n as bs h e us o = true then some (put e d v, ups us h ++ ns) else none
  | none => none
def stepK (d : Option Nat) (e : Env) (h : Heap) : Option Out → Option (Env × Heap)
  | some (v, ns, us) => some (put e d v, ups us h ++ ns)
  | none => none
def stepDK (n : Nat) (o : AOp) (d : Option Nat) (e : Env) (h : Heap) : Option Out → Option (Env × Heap)
  | some (v, ns, us) => if okD n h e us o = true then some (put e d v, ups us h ++ ns) else none
  | none => none
def wantK (F : Fns) (o : AOp) (e : Env) (H : HF) (base : Nat) : Option Bool → Option Out
  | some true => o.ev F e H base
  | some false => some (.c .undef, [], [])
  | none => none
def leaveK (m : Nat) (rs : List RV) : R → Option (V × Heap)
  | some (.exit _, _, _) => none
  | some (_, e, h) => leave m rs e h
  | none => none
theorem exI_seq' (m : Nat) (a b : ACode) (e : Env) (h : Heap) : exI P Q m (.seq a b) e h = seqK P Q m b (exI P Q m a e h) := by
  rw [exI_seq]
  cases exI P Q m a e h with
  | none => rfl
  | some r => obtain ⟨x, e1, h1⟩ := r; cases x <;> rfl
theorem exI_loop' (m : Nat) (a : ACode) (live : List Nat) (e : Env) (h : Heap) : exI P Q m (.loop a live) e h = loopG P Q m a live (gcE m live e h) := by
  rw [exI_loop]
  cases gcE m live e h with
  | none => rfl
  | some s =>
    obtain ⟨e1, h1⟩ := s
    simp only [Option.bind_some, loopG]
    cases exI P Q m a e1 h1 with
    | none => rfl
    | some r => obtain ⟨x, e2, h2⟩ := r; cases x <;> rfl
theorem exI_cond' (m : Nat) (c : Opd) (a b : ACode) (e : Env) (h : Heap) : exI P Q m (.cond c a b) e h = condK P Q m a b e h (c.ev e) := by
  rw [exI_cond]; rfl
theorem exI_block' (m id : Nat) (a : ACode) (e : Env) (h : Heap) : exI P Q m (.block id a) e h = blockK id (exI P Q m a e h) := by
  rw [exI_block]
  cases exI P Q m a e h with
  | none => rfl
  | some r => obtain ⟨x, e1, h1⟩ := r; cases x <;> first | rfl | (simp only [Option.map_some, blockK]; split <;> rfl)
theorem exI_region' (m : Nat) (qs : List AOper) (live : List Nat) (e : Env) (h : Heap) : exI P Q m (.region qs live) e h = regK live (runOps (fnI P Q) qs e h) := by
  rw [exI_region]
  cases runOps (fnI P Q) qs e h <;> rfl
theorem exI_regionD' (m : Nat) (qs : List AOper) (live : List Nat) (ap : List (Opd × Opd)) (e : Env) (h : Heap) : exI P Q m (.regionD qs live ap) e h = regDK live ap (runOpsD (fnI P Q) h.length qs e h) := by
  rw [exI_regionD]
  cases runOpsD (fnI P Q) h.length qs e h <;> rfl
theorem exI_regionE' (m : Nat) (qs : List AOper) (live : List Nat) (ap : List (Opd × Opd)) (ms : List (List Nat)) (e : Env) (h : Heap) : exI P Q m (.regionE qs live ap ms) e h = regDK live ap (runOpsE (fnI P Q) h.length qs ms [] e h) := by
  rw [exI_regionE]
  cases runOpsE (fnI P Q) h.length qs ms [] e h <;> rfl
end
theorem runOps_nil (F : Fns) (e : Env) (h : Heap) : runOps F [] e h = some (e, h) := rfl
theorem runOps_cons (F : Fns) (o : AOper) (r : List AOper) (e : Env) (h : Heap) : runOps F (o :: r) e h = runK F r (stepK o.d e h (wantK F o.o e (lkp h) h.length (wantedA e o.g))) := by
  simp only [runOps, stepA, outA]
  cases wantedA e o.g with
  | none => rfl
  | some w =>
    simp only [Option.bind_some]
    cases w with
    | true =>
      simp only [wantK, if_true]
      cases o.o.ev F e (lkp h) h.length <;> rfl
    | false => rfl
theorem runOpsD_nil (F : Fns) (n : Nat) (e : Env) (h : Heap) : runOpsD F n [] e h = some (e, h) := rfl
theorem runOpsD_cons (F : Fns) (n : Nat) (o : AOper) (r : List AOper) (e : Env) (h : Heap) : runOpsD F n (o :: r) e h = runDK F n r (stepDK n o.o o.d e h (wantK F o.o e (lkp h) h.length (wantedA e o.g))) := by
  simp only [runOpsD, stepD, outA]
  cases wantedA e o.g with
  | none => rfl
  | some w =>
    simp only [Option.bind_some]
    cases w with
    | true =>
      simp only [wantK, if_true]
      cases o.o.ev F e (lkp h) h.length with
      | none => rfl
      | some r =>
        simp only [Option.bind_some, stepDK]
        split
        · rfl
        · rfl
    | false =>
      simp only [Bool.false_eq_true, if_false, Option.bind_some, wantK, stepDK]
      split
      · rfl
      · rfl
theorem runOpsE_nil (F : Fns) (n : Nat) (ms : List (List Nat)) (bs : List (Nat × Nat)) (e : Env) (h : Heap) : runOpsE F n [] ms bs e h = some (e, h) := rfl
theorem runOpsE_cons (F : Fns) (n : Nat) (o : AOper) (r : List AOper) (ms : List (List Nat)) (bs : List (Nat × Nat)) (e : Env) (h : Heap) : runOpsE F n (o :: r) ms bs e h = runEK F n r ms.tail bs h.length (stepEK n (ms.headD []) bs o.o o.d e h (wantK F o.o e (lkp h) h.length (wantedA e o.g))) := by
  simp only [runOpsE, stepE, outA]
  cases wantedA e o.g with
  | none => rfl
  | some w =>
    simp only [Option.bind_some]
    cases w with
    | true =>
      simp only [wantK, if_true]
      cases o.o.ev F e (lkp h) h.length with
      | none => rfl
      | some r =>
        simp only [Option.bind_some, stepEK]
        split
        · rfl
        · rfl
    | false =>
      simp only [Bool.false_eq_true, if_false, Option.bind_some, wantK, stepEK]
      split
      · rfl
      · rfl
theorem fnI_body' (P : Prog) (Q : Prim) {f : Nat} {fn : AFn} (hq : Q f = none) (hp : P f = some fn) {a : List V} (hl : a.length = fn.np) (h : Heap) : fnI P Q f a h = leaveK h.length fn.res (exI P Q h.length fn.body (enter a 0) h) := by
  rw [fnI_body P Q hq hp hl]
  cases exI P Q h.length fn.body (enter a 0) h with
  | none => rfl
  | some r => obtain ⟨x, e1, h1⟩ := r; cases x <;> rfl
section
variable {P : Prog} {Q : Prim} {m : Nat}
@[simp] theorem seqK_norm (b : ACode) (e : Env) (h : Heap) : seqK P Q m b (some (.norm, e, h)) = exI P Q m b e h := rfl
@[simp] theorem seqK_ret (b : ACode) (e : Env) (h : Heap) : seqK P Q m b (some (.ret, e, h)) = some (.ret, e, h) := rfl
@[simp] theorem seqK_exit (b : ACode) (i : Nat) (e : Env) (h : Heap) : seqK P Q m b (some (.exit i, e, h)) = some (.exit i, e, h) := rfl
@[simp] theorem seqK_ite (b : ACode) (c : Prop) [Decidable c] (x y : R) : seqK P Q m b (if c then x else y) = if c then seqK P Q m b x else seqK P Q m b y := by split <;> rfl
@[simp] theorem loopK_norm (a : ACode) (l : List Nat) (e : Env) (h : Heap) : loopK P Q m a l (some (.norm, e, h)) = exI P Q m (.loop a l) e h := rfl
@[simp] theorem loopK_ret (a : ACode) (l : List Nat) (e : Env) (h : Heap) : loopK P Q m a l (some (.ret, e, h)) = some (.ret, e, h) := rfl
@[simp] theorem loopK_exit (a : ACode) (l : List Nat) (i : Nat) (e : Env) (h : Heap) : loopK P Q m a l (some (.exit i, e, h)) = some (.exit i, e, h) := rfl
@[simp] theorem loopK_ite (a : ACode) (l : List Nat) (c : Prop) [Decidable c] (x y : R) : loopK P Q m a l (if c then x else y) = if c then loopK P Q m a l x else loopK P Q m a l y := by split <;> rfl
@[simp] theorem loopG_some (a : ACode) (l : List Nat) (e : Env) (h : Heap) : loopG P Q m a l (some (e, h)) = loopK P Q m a l (exI P Q m a e h) := rfl
@[simp] theorem condK_bool (a b : ACode) (e : Env) (h : Heap) (t : Bool) : condK P Q m a b e h (.c (.bool t)) = if t = true then exI P Q m a e h else exI P Q m b e h := rfl
@[simp] theorem blockK_norm (id : Nat) (e : Env) (h : Heap) : blockK id (some (.norm, e, h)) = some (.norm, e, h) := rfl
@[simp] theorem blockK_ret (id : Nat) (e : Env) (h : Heap) : blockK id (some (.ret, e, h)) = some (.ret, e, h) := rfl
@[simp] theorem blockK_exit (id i : Nat) (e : Env) (h : Heap) : blockK id (some (.exit i, e, h)) = if i = id then some (.norm, e, h) else some (.exit i, e, h) := rfl
@[simp] theorem blockK_ite (id : Nat) (c : Prop) [Decidable c] (x y : R) : blockK id (if c then x else y) = if c then blockK id x else blockK id y := by split <;> rfl
@[simp] theorem regK_some (live : List Nat) (e : Env) (h : Heap) : regK live (some (e, h)) = some (.norm, restrict e live, h) := rfl
@[simp] theorem regK_ite (live : List Nat) (c : Prop) [Decidable c] (x y : Option (Env × Heap)) : regK live (if c then x else y) = if c then regK live x else regK live y := by split <;> rfl
@[simp] theorem regDK_some (live : List Nat) (ap : List (Opd × Opd)) (e : Env) (h : Heap) : regDK live ap (some (e, h)) = if apartA e ap then some (.norm, restrict e live, h) else none := rfl
@[simp] theorem runK_some (F : Fns) (r : List AOper) (e : Env) (h : Heap) : runK F r (some (e, h)) = runOps F r e h := rfl
@[simp] theorem runK_ite (F : Fns) (r : List AOper) (c : Prop) [Decidable c] (x y : Option (Env × Heap)) : runK F r (if c then x else y) = if c then runK F r x else runK F r y := by split <;> rfl
@[simp] theorem runDK_some (F : Fns) (n : Nat) (r : List AOper) (e : Env) (h : Heap) : runDK F n r (some (e, h)) = runOpsD F n r e h := rfl
@[simp] theorem stepK_some (d : Option Nat) (e : Env) (h : Heap) (v : V) (ns : List Blk) (us : List (Nat × Blk)) : stepK d e h (some (v, ns, us)) = some (put e d v, ups us h ++ ns) := rfl
@[simp] theorem stepK_ite (d : Option Nat) (e : Env) (h : Heap) (c : Prop) [Decidable c] (x y : Option Out) : stepK d e h (if c then x else y) = if c then stepK d e h x else stepK d e h y := by split <;> rfl
@[simp] theorem stepDK_some (n : Nat) (o : AOp) (d : Option Nat) (e : Env) (h : Heap) (v : V) (ns : List Blk) (us : List (Nat × Blk)) : stepDK n o d e h (some (v, ns, us)) = if okD n h e us o = true then some (put e d v, ups us h ++ ns) else none := rfl
@[simp] theorem runEK_some (F : Fns) (n : Nat) (r : List AOper) (ms : List (List Nat)) (bs : List (Nat × Nat)) (n1 : Nat) (e : Env) (h : Heap) : runEK F n r ms bs n1 (some (e, h)) = runOpsE F n r ms (bs ++ [(n1, h.length)]) e h := rfl
@[simp] theorem stepEK_some (n : Nat) (as : List Nat) (bs : List (Nat × Nat)) (o : AOp) (d : Option Nat) (e : Env) (h : Heap) (v : V) (ns : List Blk) (us : List (Nat × Blk)) : stepEK n as bs o d e h (some (v, ns, us)) = if okE n as bs h e us o = true then some (put e d v, ups us h ++ ns) else none := rfl
@[simp] theorem wantK_true (F : Fns) (o : AOp) (e : Env) (H : HF) (base : Nat) : wantK F o e H base (some true) = o.ev F e H base := rfl
@[simp] theorem wantK_false (F : Fns) (o : AOp) (e : Env) (H : HF) (base : Nat) : wantK F o e H base (some false) = some (.c .undef, [], []) := rfl
@[simp] theorem leaveK_norm (rs : List RV) (e : Env) (h : Heap) : leaveK m rs (some (.norm, e, h)) = leave m rs e h := rfl
@[simp] theorem leaveK_ret (rs : List RV) (e : Env) (h : Heap) : leaveK m rs (some (.ret, e, h)) = leave m rs e h := rfl
@[simp] theorem leaveK_ite (rs : List RV) (c : Prop) [Decidable c] (x y : R) : leaveK m rs (if c then x else y) = if c then leaveK m rs x else leaveK m rs y := by split <;> rfl
end
attribute [simp] exI_regionE' runOpsE_nil runOpsE_cons okE smallE farE
attribute [simp] exI_seq' exI_region' exI_regionD' exI_ret exI_skip exI_cond' exI_block' exI_exit runOps_nil runOps_cons runOpsD_nil runOpsD_cons
attribute [simp] wantedA AOp.ev POp.ev Opd.ev AM.get AM.put enter restrict binV binI unV binS ups readB mkV noDead cids oneV resV leave_eq cids_ints cmp_ints noDead_ints cmp bnd isBool capsOf mmL mmI inst fillAt setAt rep okD smallSl apartA
section
variable (g : Nat → Nat) (x : C) (xs : List C) (ys : List V1)
@[simp] theorem ids_c : (V.c x).ids = x.ids := rfl
@[simp] theorem ids_agg : (V.agg xs).ids = cids xs := rfl
@[simp] theorem ids_tup : (V.tup ys).ids = ys.flatMap V1.ids := rfl
@[simp] theorem ids1_c : (V1.c x).ids = x.ids := rfl
@[simp] theorem ids1_agg : (V1.agg xs).ids = cids xs := rfl
@[simp] theorem idsC_dead : C.dead.ids = [] := rfl
@[simp] theorem idsC_undef : C.undef.ids = [] := rfl
@[simp] theorem idsC_int (k : IntKind) (n : Int) : (C.int k n).ids = [] := rfl
@[simp] theorem idsC_bool (b : Bool) : (C.bool b).ids = [] := rfl
@[simp] theorem idsC_str (b : List UInt8) : (C.str b).ids = [] := rfl
@[simp] theorem idsC_nsl : C.nsl.ids = [] := rfl
@[simp] theorem idsC_err (b : Bool) : (C.err b).ids = [] := rfl
@[simp] theorem idsC_ptr (i o : Nat) : (C.ptr i o).ids = [i] := rfl
@[simp] theorem idsC_sl (i o n s : Nat) : (C.sl i o n s).ids = [i] := rfl
@[simp] theorem idsC_fn (f : Nat) (cs : List (Nat × Nat)) : (C.fn f cs).ids = cs.map (·.1) := rfl
@[simp] theorem mp_c : (V.c x).mp g = .c (x.mp g) := rfl
@[simp] theorem mp_agg : (V.agg xs).mp g = .agg (cmp g xs) := rfl
@[simp] theorem mp_tup : (V.tup ys).mp g = .tup (ys.map (V1.mp g)) := rfl
@[simp] theorem mp1_c : (V1.c x).mp g = .c (x.mp g) := rfl
@[simp] theorem mp1_agg : (V1.agg xs).mp g = .agg (cmp g xs) := rfl
@[simp] theorem mpC_dead : C.dead.mp g = .dead := rfl
@[simp] theorem mpC_undef : C.undef.mp g = .undef := rfl
@[simp] theorem mpC_int (k : IntKind) (n : Int) : (C.int k n).mp g = .int k n := rfl
@[simp] theorem mpC_bool (b : Bool) : (C.bool b).mp g = .bool b := rfl
@[simp] theorem mpC_str (b : List UInt8) : (C.str b).mp g = .str b := rfl
@[simp] theorem mpC_nsl : C.nsl.mp g = .nsl := rfl
@[simp] theorem mpC_err (b : Bool) : (C.err b).mp g = .err b := rfl
@[simp] theorem mpC_ptr (i o : Nat) : (C.ptr i o).mp g = .ptr (g i) o := rfl
@[simp] theorem mpC_sl (i o n s : Nat) : (C.sl i o n s).mp g = .sl (g i) o n s := rfl
@[simp] theorem mpC_fn (f : Nat) (cs : List (Nat × Nat)) : (C.fn f cs).mp g = .fn f (cs.map fun p => (g p.1, p.2)) := rfl
@[simp] theorem mpB_cells (o : Bool) : (Blk.cells xs o).mp g = .cells (cmp g xs) o := rfl
@[simp] theorem idsB_cells (o : Bool) : (Blk.cells xs o).ids = cids xs := rfl
@[simp] theorem cells_c : (V.c x).cells = [x] := rfl
@[simp] theorem cells_agg : (V.agg xs).cells = xs := rfl
@[simp] theorem down_c : (V.c x).down = some (.c x) := rfl
@[simp] theorem down_agg : (V.agg xs).down = some (.agg xs) := rfl
@[simp] theorem up_c : (V1.c x).up = .c x := rfl
@[simp] theorem up_agg : (V1.agg xs).up = .agg xs := rfl
@[simp] theorem okCells_agg : okCells (.agg xs) = true := rfl
@[simp] theorem okCells_int (k : IntKind) (n : Int) : okCells (.c (.int k n)) = true := rfl
@[simp] theorem okCells_bool (b : Bool) : okCells (.c (.bool b)) = true := rfl
@[simp] theorem okCells_str (b : List UInt8) : okCells (.c (.str b)) = true := rfl
@[simp] theorem okCells_nsl : okCells (.c .nsl) = true := rfl
@[simp] theorem okCells_ptr (i o : Nat) : okCells (.c (.ptr i o)) = true := rfl
@[simp] theorem okCells_sl (i o n s : Nat) : okCells (.c (.sl i o n s)) = true := rfl
@[simp] theorem okCells_fn (f : Nat) (cs : List (Nat × Nat)) : okCells (.c (.fn f cs)) = true := rfl
@[simp] theorem okCells_err (b : Bool) : okCells (.c (.err b)) = true := rfl
end
@[simp] theorem load_ev (F : Fns) (e : Env) (H : HF) (base n : Nat) (agg : Bool) (a : Opd) : (HOp.load n agg a).ev F e H base = match a.ev e with
    | .c (.ptr i o) => (readB H i o n).map fun cs => (mkV agg cs, [], [])
    | _ => none := rfl
@[simp] theorem slA_ev (F : Fns) (e : Env) (H : HF) (base m sz : Nat) (x : Opd) (lo hi : Option Opd) : (HOp.slA m sz x lo hi).ev F e H base = match x.ev e with
    | .c (.ptr i o) => match readB H i o (m * sz) with
      | some _ => (bnd e hi m m).bind fun h' => (bnd e lo 0 h').map fun l => (.c (.sl i (o + l * sz) (h' - l) sz), [], [])
      | none => none
    | _ => none := rfl
@[simp] theorem store_ev (F : Fns) (e : Env) (H : HF) (base n : Nat) (a x : Opd) : (HOp.store n a x).ev F e H base = match a.ev e with
    | .c (.ptr i o) => match H i with
      | some (.cells cs true) => if o + n ≤ cs.length ∧ (x.ev e).cells.length = n ∧ okCells (x.ev e) ∧ noDead (x.ev e).cells then some (.c .undef, [], [(i, .cells (setAt cs o (x.ev e).cells) true)]) else none
      | _ => none
    | _ => none := rfl
@[simp] theorem clr_ev (F : Fns) (e : Env) (H : HF) (base sz : Nat) (z : List Z) (x : Opd) : (HOp.clr sz z x).ev F e H base = match x.ev e with
    | .c (.sl i o ln sz') => match H i with
      | some (.cells cs true) => if sz = sz' ∧ o + ln * sz ≤ cs.length ∧ noDead (inst (rep ln z) 0).1 = true then
          some (.c .undef, [], [(i, .cells (setAt cs o (inst (rep ln z) 0).1) true)]) else none
      | _ => none
    | .c .nsl => some (.c .undef, [], [])
    | _ => none := rfl
@[simp] theorem mnew_ev (F : Fns) (e : Env) (H : HF) (base : Nat) : HOp.mnew.ev F e H base = some (.c (.map base), [.map []], []) := rfl
@[simp] theorem mget_ev (F : Fns) (e : Env) (H : HF) (base : Nat) (z : C) (ok : Bool) (m k : Opd) : (HOp.mget z ok m k).ev F e H base = match m.ev e, k.ev e with
    | .c (.map i), .agg cs => match H i with
      | some (.map es) => if keyC cs = true ∧ mapK es = true then
          some (if ok then .tup [.c ((findK cs es).getD z), .c (.bool (findK cs es).isSome)] else .c ((findK cs es).getD z), [], []) else none
      | _ => none
    | _, _ => none := rfl
@[simp] theorem mset_ev (F : Fns) (e : Env) (H : HF) (base : Nat) (m k x : Opd) : (HOp.mset m k x).ev F e H base = match m.ev e, k.ev e, x.ev e with
    | .c (.map i), .agg cs, .c (.int kd n) => match H i with
      | some (.map es) => if keyC cs = true ∧ mapK es = true then some (.c .undef, [], [(i, .map (setK cs (.int kd n) es))]) else none
      | _ => none
    | _, _, _ => none := rfl
@[simp] theorem mlen_ev (F : Fns) (e : Env) (H : HF) (base : Nat) (m : Opd) : (HOp.mlen m).ev F e H base = match m.ev e with
    | .c (.map i) => match H i with
      | some (.map es) => some (.c (.int .i64 es.length), [], [])
      | _ => none
    | _ => none := rfl
@[simp] theorem call_ev (F : Fns) (e : Env) (H : HF) (base : Nat) (f : Opd) (args : List Opd) : (HOp.call f args).ev F e H base = match f.ev e with
    | .c (.fn g caps) => callA F g (args.map (Opd.ev e) ++ caps.map fun p => V.c (.ptr p.1 p.2)) H base
    | _ => none := rfl
@[simp] theorem resL_nil (e : Env) (h : Heap) : resL e h [] = some [] := rfl
@[simp] theorem resL_cons (e : Env) (h : Heap) (r : RV) (rs : List RV) : resL e h (r :: rs) = (resV e h r).bind fun v => (resL e h rs).map (v :: ·) := rfl
@[simp] theorem lkp_get (h : Heap) (i : Nat) : lkp h i = h[i]? := rfl
@[simp] theorem cut_zero' (v : V) (h : Heap) (hv : (v.ids == []) = true) : cut 0 v h = some (v, []) := cut_zero (by simpa using hv)
/-- a call with values alone, of a function whose answer is known -/
theorem callA_pure {F : Fns} {f : Nat} {args : List V} {v : V} (hF : F f args [] = some (v, [])) (ha : (args.flatMap V.ids == []) = true) (hv : (v.ids == []) = true) (H : HF) (base : Nat) : callA F f args H base = some (v, [], []) :=
  callA_val (by simpa using ha) hF (by simpa using hv)
theorem gcE_old' {m : Nat} {live : List Nat} {e : Env} {h : Heap} (he : (live.all fun t => (get e t).ids.all fun i => decide (i < m)) = true) (hm : decide (m ≤ h.length) = true) (hw : wfH m (h.take m) = true) : gcE m live e h = some (restrict e live, h.take m) :=
  gcE_old (fun t ht i hi => by simpa using List.all_eq_true.1 (List.all_eq_true.1 he t ht) i hi) (by simpa using hm) hw
theorem cut_old' {m : Nat} {v : V} {h : Heap} (hv : ((v.ids.all fun i => decide (i < m)) && decide (m ≤ h.length) && wfH m (h.take m)) = true) : cut m v h = some (v, h.take m) := by
  simp only [Bool.and_eq_true] at hv
  exact cut_old (fun i hi => by simpa using List.all_eq_true.1 hv.1.1 i hi) (by simpa using hv.1.2) hv.2
/-- a call with a value and one place of a block that names no other -/
theorem callA_at {F : Fns} {f : Nat} {x : V} {i : Nat} {H : HF} {b : Blk} {v : V} (hb : H i = some b) (hx : x.ids = []) (hbi : b.ids = []) (hF : F f [x, .c (.ptr 0 0)] [b] = some (v, [b])) (hv : v.ids = []) (base : Nat) : callA F f [x, .c (.ptr i 0)] H base = some (v, [], [(i, b)]) := by
  have hr : reach H 64 ([x, V.c (.ptr i 0)].flatMap V.ids) [] = [i] := by
    simp [hx, reach, idsAt, hb, hbi]
  have hbm : ∀ g, b.mp g = b := fun g => Blk.mp_below (by simp [hbi])
  unfold callA
  simp only [hr]
  have hc : closed [i] H = true := by simp [closed, hb, idsAt, hbi, inL]
  have hl : inL [i] ([x, V.c (.ptr i 0)].flatMap V.ids) = true := by simp [inL, hx]
  rw [if_pos ⟨hc, hl⟩]
  have hs : sub [i] H = [b] := by simp [sub, hb, hbm]
  have ha : [x, V.c (.ptr i 0)].map (V.mp (pos [i])) = [x, .c (.ptr 0 0)] := by simp [V.mp_pure hx, pos]
  rw [hs, ha, hF]
  simp [V.mp_pure hv, hbm]
/-- a call, its reach told -/
theorem callA_gen {F : Fns} {f : Nat} {args args' : List V} {H : HF} {L : List Nat} {hs h' : Heap} {v : V} (hr : reach H 64 (args.flatMap V.ids) [] = L) (hc : (closed L H && inL L (args.flatMap V.ids)) = true) (hsub : sub L H = hs) (ha : args.map (V.mp (pos L)) = args') (hF : F f args' hs = some (v, h')) (hl : L.length ≤ h'.length) (base : Nat) :
    callA F f args H base = some (v.mp (back L base), (h'.drop L.length).map (Blk.mp (back L base)), L.zip ((h'.take L.length).map (Blk.mp (back L base)))) := by
  unfold callA
  simp only [Bool.and_eq_true] at hc
  simp only [hr]
  rw [if_pos hc, hsub, ha, hF]
  simp only [Option.bind_some]
  rw [if_pos hl]
theorem gcE_told {m : Nat} {live : List Nat} {e : Env} {h : Heap} {L : List Nat} (hr : gcL m (envIds (restrict e live)) h = L) (hc : (closed L (lkp h) && inL L (envIds (restrict e live))) = true) : gcE m live e h = some ((restrict e live).map (fun p => (p.1, p.2.mp (pos L))), sub L (lkp h)) := by
  subst hr
  simp only [Bool.and_eq_true] at hc
  unfold gcE
  simp only
  rw [if_pos hc]
/-- a loop's head where one block of plain cells lives, and others that nobody names -/
theorem gcE_one {live : List Nat} {e : Env} {cs : List C} {o : Bool} {g : Heap} (hcs : (cids cs == []) = true) (he : (envIds (restrict e live) == [0]) = true) : gcE 0 live e (.cells cs o :: g) = some ((restrict e live).map (fun p => (p.1, p.2.mp (pos [0]))), [.cells cs o]) := by
  have hcs : cids cs = [] := by simpa using hcs
  have he : envIds (restrict e live) = [0] := by simpa using he
  have hr : gcL 0 (envIds (restrict e live)) (.cells cs o :: g) = [0] := by rw [he]; simp [gcL, upto, reach, idsAt, hcs]
  rw [gcE_told hr (by rw [he]; simp [closed, inL, idsAt, hcs])]
  simp [sub, cmp_pure hcs]
/-- a call with values alone that leaves blocks of its own -/
theorem callA_new {F : Fns} {f : Nat} {args : List V} {v : V} {h' : Heap} (hF : F f args [] = some (v, h')) (ha : (args.flatMap V.ids == []) = true) (H : HF) (base : Nat) : callA F f args H base = some (v.mp (back [] base), h'.map (Blk.mp (back [] base)), []) := by
  have ha : args.flatMap V.ids = [] := by simpa using ha
  unfold callA
  simp only [ha, reach]
  have : closed [] H = true := rfl
  rw [if_pos ⟨this, rfl⟩, mps_pure ha]
  have : sub [] H = [] := rfl
  rw [this, hF]
  simp
theorem wrapI {n : Int} (h0 : -9223372036854775808 ≤ n) (h1 : n < 9223372036854775808) : IntKind.i64.wrap n = n := by
  have : IntKind.i64.wrap n = (n + 9223372036854775808) % 18446744073709551616 - 9223372036854775808 := by
    simp [IntKind.wrap, IntKind.bits, IntKind.signed]
    split <;> omega
  rw [this]; omega
end Go.Proofs.YtgpafbbnobanbaaGreatDoor.AM

