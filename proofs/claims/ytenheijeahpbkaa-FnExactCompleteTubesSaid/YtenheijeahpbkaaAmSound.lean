/-
  The evaluator is sound: what it answers for a function, a call of that function ends in.
-/
import Derived.Test.YtenheijeahpbkaaAmDraw4
namespace Go.Proofs.Ytenheijeahpbkaa.AM
open Go

theorem get_restrict (e : Env) (t : Nat) : ∀ (live : List Nat), get (restrict e live) t = if t ∈ live then get e t else .c .dead
  | [] => by simp [restrict, AM.get]
  | x :: live => by
    have ih := get_restrict e t live
    unfold restrict at ih ⊢
    simp only [List.map_cons, AM.get]
    by_cases hx : x = t
    · subst hx; simp
    · rw [if_neg hx, ih]
      simp [Ne.symm hx]
theorem EnvOK.restrict {φ : Phi} {e : Env} {a : Act} (h : EnvOK φ e a) (live : List Nat) : EnvOK φ (restrict e live) a := by
  intro t
  rw [get_restrict]
  split
  · exact h t
  · trivial
theorem get_map (g : Nat → Nat) (t : Nat) : ∀ (e : Env), (get (e.map fun p => (p.1, p.2.mp g)) t) = (get e t).mp g
  | [] => rfl
  | (i, v) :: e => by
    have ih := get_map g t e
    simp only [List.map_cons, AM.get]
    split
    · rfl
    · exact ih
theorem get_ids (t : Nat) : ∀ (e : Env) i, i ∈ (get e t).ids → i ∈ envIds e
  | [], i, h => by simp [AM.get, V.ids, C.ids] at h
  | (j, v) :: e, i, h => by
    simp only [envIds, List.flatMap_cons, List.mem_append]
    simp only [AM.get] at h
    split at h
    · exact .inl h
    · exact .inr (get_ids t e i h)
theorem upto_get : ∀ (m i : Nat), i < m → (upto m)[i]? = some i
  | m + 1, i, h => by
    have hl : ∀ m, (upto m).length = m := fun m => by induction m <;> simp_all [upto]
    simp only [upto]
    by_cases hi : i < m
    · rw [List.getElem?_append_left (by rw [hl]; exact hi)]
      exact upto_get m i hi
    · have : i = m := by omega
      subst this
      rw [List.getElem?_append_right (by rw [hl]; exact Nat.le_refl _)]
      simp [hl]
theorem upto_length : ∀ m, (upto m).length = m := fun m => by induction m <;> simp_all [upto]
theorem upto_lt : ∀ m i, i ∈ upto m → i < m
  | m + 1, i, h => by
    simp only [upto, List.mem_append, List.mem_singleton] at h
    rcases h with h | h
    · have := upto_lt m i h; omega
    · omega
theorem upto_nodup : ∀ m, (upto m).Nodup
  | 0 => List.nodup_nil
  | m + 1 => List.nodup_append.2 ⟨upto_nodup m, by simp, fun a ha b hb => by simp at hb; have := upto_lt m a ha; omega⟩
theorem gcL_facts (m : Nat) (roots : List Nat) (h : Heap) : (gcL m roots h).Nodup ∧ m ≤ (gcL m roots h).length ∧ ∀ i, i < m → (gcL m roots h)[i]? = some i := by
  unfold gcL
  obtain ⟨r, hr⟩ := reach_prefix (lkp h) 64 (roots ++ (h.take m).flatMap Blk.ids) (upto m)
  refine ⟨reach_nodup _ _ _ _ (upto_nodup m), ?_, fun i hi => ?_⟩
  · rw [hr, List.length_append, upto_length]; omega
  · rw [hr, List.getElem?_append_left (by rw [upto_length]; exact hi)]
    exact upto_get m i hi
/-- a heap cut down to what is reached -/
theorem Later.cut {φ : Phi} {h : Heap} {w : World} {L : List Nat} {m : Nat} (hh : HeapOK φ (lkp h) w) (hn : L.Nodup) (hm : m ≤ L.length) (hL : ∀ i, i < m → L[i]? = some i) (hc : closed L (lkp h) = true) : Later m φ h w (φ.sub L) (AM.sub L (lkp h)) w := by
  refine ⟨fun i hi => ?_, ⟨hh.sub hn hc, Fr.refl _ _, fun k hk => ?_, fun k hk => ?_⟩, by simpa [AM.sub] using hm⟩
  · unfold Phi.sub; rw [hL i hi]; rfl
  · obtain ⟨i, b, p, _, hb, ho, hp, hk⟩ := OS.sub hc hk
    exact .inl ⟨i, b, p, hb, ho, hp, hk⟩
  · obtain ⟨i, b, p, _, hb, ho, hp, hk⟩ := LS.sub hc hk
    exact .inl ⟨i, b, p, hb, ho, hp, hk⟩
theorem inL_sub {L is js : List Nat} (h : inL L is = true) (hs : ∀ i ∈ js, i ∈ is) : inL L js = true := by
  rw [inL, List.all_eq_true] at *
  exact fun i hi => h i (hs i hi)
theorem gcE_ok {m nt : Nat} {live : List Nat} {e e' : Env} {h h' : Heap} {φ : Phi} {a : Act} {w : World} (hs : StOK φ e h nt a w) (hg : gcE m live e h = some (e', h')) : ∃ φ', StOK φ' e' h' nt a w ∧ Later m φ h w φ' h' w := by
  unfold gcE at hg
  simp only at hg
  split at hg
  · rename_i hc
    injection hg with hg
    injection hg with h1 h2
    obtain ⟨hn, hm, hL⟩ := gcL_facts m (envIds (restrict e live)) h
    have hl := Later.cut hs.heap hn hm hL hc.1
    rw [← h1, ← h2]
    refine ⟨_, ⟨fun t => ?_, hl.mv.ok, hs.size, hs.defers⟩, hl⟩
    rw [get_map]
    exact (hs.env.restrict live t).mp (keeps_sub (inL_sub hc.2 (get_ids t _)))
  · cases hg

/-! ### code -/
def okCode (P : Program) (nt : Nat) : Code → ACode → Bool
  | .skip, .skip => true
  | .region _ ops false, .region qs _ => okOps P nt ops ops.toList qs
  | .region _ ops true, .regionD qs _ ap => okOps P nt ops ops.toList qs && okDraw ops qs ap
  | .seq a b, .seq a' b' => okCode P nt a a' && okCode P nt b b'
  | .cond c a b, .cond c' a' b' => okOpd c c' && okCode P nt a a' && okCode P nt b b'
  | .block id a, .block id' a' => (id == id') && okCode P nt a a'
  | .loop a, .loop a' _ => okCode P nt a a'
  | .exit id, .exit id' => id == id'
  | .ret, .ret => true
  | _, _ => false
def Ex.up : Ex → Exit
  | .norm => .normal
  | .exit id => .exit id
  | .ret => .ret
theorem least {p : Nat → Prop} (h : ∃ k, p k) : ∃ k, p k ∧ ∀ j, p j → k ≤ j := by
  obtain ⟨k, hk⟩ := h
  induction k using Nat.strongRecOn with
  | ind k ih =>
    by_cases hx : ∃ j, j < k ∧ p j
    · obtain ⟨j, hj, hpj⟩ := hx
      exact ih j hj hpj
    · exact ⟨k, hk, fun j hj => Nat.le_of_not_lt fun hlt => hx ⟨j, hlt, hj⟩⟩
theorem exS_ok {P : Program} {pr : Prog} {pm : Prim} (hm : P.follows .mixedOrders = true) {N : Nat} (hF : ∀ n, n < N → FnOK P (fnN pr pm n)) {nt m : Nat} : ∀ (ac : ACode) (c : Code), okCode P nt c ac = true → ∀ (n : Nat), n < N → ∀ {φ : Phi} {e e' : Env} {h h' : Heap} {a : Act} {w : World} {x : Ex}, StOK φ e h nt a w → m ≤ h.length →
    exS (fnN pr pm n) (exN pr pm n m) m ac e h = some (x, e', h') → ∀ {Q : Exit → Act → World → Prop}, (∀ φ' a' w', StOK φ' e' h' nt a' w' → Later m φ h w φ' h' w' → Q x.up a' w') → c.wp P Q a w := by
  intro ac
  induction ac with
  | skip =>
    intro c hk n hn φ e e' h h' a w x hs hml hr Q hQ
    cases c <;> simp [okCode] at hk
    simp only [exS, Option.some.injEq, Prod.mk.injEq] at hr
    obtain ⟨rfl, rfl, rfl⟩ := hr
    exact wp_skip (hQ φ a w hs (Later.refl hs.heap hml))
  | ret =>
    intro c hk n hn φ e e' h h' a w x hs hml hr Q hQ
    cases c <;> simp [okCode] at hk
    simp only [exS, Option.some.injEq, Prod.mk.injEq] at hr
    obtain ⟨rfl, rfl, rfl⟩ := hr
    exact wp_ret (hQ φ a w hs (Later.refl hs.heap hml))
  | exit id =>
    intro c hk n hn φ e e' h h' a w x hs hml hr Q hQ
    cases c <;> simp [okCode] at hk
    subst hk
    simp only [exS, Option.some.injEq, Prod.mk.injEq] at hr
    obtain ⟨rfl, rfl, rfl⟩ := hr
    exact wp_exit (hQ φ a w hs (Later.refl hs.heap hml))
  | region qs live =>
    intro c hk n hn φ e e' h h' a w x hs hml hr Q hQ
    cases c with
    | region id ops draw =>
      cases draw with
      | false =>
        simp only [okCode] at hk
        simp only [exS] at hr
        obtain ⟨s, hs1, hr⟩ := Option.map_eq_some_iff.1 hr
        injection hr with hx hr
        injection hr with he hh
        subst hx; subst he; subst hh
        refine wp_region ?_
        have hrg : List.range ops.size = List.range' 0 ops.toList.length := by simp [List.range_eq_range']
        rw [hrg]
        refine ops_seq (hF n hn) qs ops.toList 0 (fun j => by simp) hk hs hs1 hml fun φ' a' w' hs' hl => ?_
        exact hQ φ' a' w' ⟨hs'.env.restrict live, hs'.heap, hs'.size, hs'.defers⟩ hl
      | true => simp [okCode] at hk
    | _ => simp [okCode] at hk
  | regionD qs live ap =>
    intro c hk n hn φ e e' h h' a w x hs hml hr Q hQ
    cases c with
    | region id ops draw =>
      cases draw with
      | true =>
        simp only [okCode, Bool.and_eq_true] at hk
        simp only [exS] at hr
        obtain ⟨s, hs1, hr⟩ := Option.bind_eq_some_iff.1 hr
        split at hr
        · rename_i hap
          injection hr with hr
          injection hr with hx hr
          injection hr with he hh
          subst hx; subst he; subst hh
          exact regionD_ok (hF n hn) hm hk.1 hk.2 hs hs1 hap hml fun φ' a' w' hs' hl => hQ φ' a' w' ⟨hs'.env.restrict live, hs'.heap, hs'.size, hs'.defers⟩ hl
        · cases hr
      | false => simp [okCode] at hk
    | _ => simp [okCode] at hk
  | seq p q ihp ihq =>
    intro c hk n hn φ e e' h h' a w x hs hml hr Q hQ
    cases c with
    | seq c1 c2 =>
      simp only [okCode, Bool.and_eq_true] at hk
      simp only [exS] at hr
      obtain ⟨⟨x1, e1, h1⟩, hr1, hr⟩ := Option.bind_eq_some_iff.1 hr
      refine wp_seq (ihp c1 hk.1 n hn hs hml hr1 fun φ1 a1 w1 hs1 hl1 => ?_)
      cases x1 with
      | norm => exact ihq c2 hk.2 n hn hs1 hl1.len hr fun φ2 a2 w2 hs2 hl2 => hQ φ2 a2 w2 hs2 (hl1.trans hl2)
      | exit id =>
        simp only [Option.some.injEq, Prod.mk.injEq] at hr
        obtain ⟨rfl, rfl, rfl⟩ := hr
        exact hQ φ1 a1 w1 hs1 hl1
      | ret =>
        simp only [Option.some.injEq, Prod.mk.injEq] at hr
        obtain ⟨rfl, rfl, rfl⟩ := hr
        exact hQ φ1 a1 w1 hs1 hl1
    | _ => simp [okCode] at hk
  | cond co p q ihp ihq =>
    intro c hk n hn φ e e' h h' a w x hs hml hr Q hQ
    cases c with
    | cond c0 c1 c2 =>
      simp only [okCode, Bool.and_eq_true] at hk
      have hc := opd_ok hs.env hk.1.1
      simp only [exS] at hr
      split at hr
      · rename_i t ht
        rw [ht] at hc
        refine wp_cond (t := t) hc ?_
        cases t with
        | true => exact ihp c1 hk.1.2 n hn hs hml hr hQ
        | false => exact ihq c2 hk.2 n hn hs hml hr hQ
      · cases hr
    | _ => simp [okCode] at hk
  | block id p ih =>
    intro c hk n hn φ e e' h h' a w x hs hml hr Q hQ
    cases c with
    | block id' c1 =>
      simp only [okCode, Bool.and_eq_true, beq_iff_eq] at hk
      obtain ⟨rfl, hk⟩ := hk
      simp only [exS] at hr
      obtain ⟨⟨x1, e1, h1⟩, hr1, hr⟩ := Option.map_eq_some_iff.1 hr
      refine wp_block (ih c1 hk n hn hs hml hr1 fun φ1 a1 w1 hs1 hl1 => ?_)
      cases x1 with
      | norm =>
        simp only [Prod.mk.injEq] at hr
        obtain ⟨rfl, rfl, rfl⟩ := hr
        exact hQ φ1 a1 w1 hs1 hl1
      | exit i =>
        simp only at hr
        simp only [Ex.up, Exit.inBlock]
        split at hr
        · rename_i hi
          simp only [Prod.mk.injEq] at hr
          obtain ⟨rfl, rfl, rfl⟩ := hr
          rw [if_pos hi]
          exact hQ φ1 a1 w1 hs1 hl1
        · rename_i hi
          simp only [Prod.mk.injEq] at hr
          obtain ⟨rfl, rfl, rfl⟩ := hr
          rw [if_neg hi]
          exact hQ φ1 a1 w1 hs1 hl1
      | ret =>
        simp only [Prod.mk.injEq] at hr
        obtain ⟨rfl, rfl, rfl⟩ := hr
        exact hQ φ1 a1 w1 hs1 hl1
    | _ => simp [okCode] at hk
  | loop p live ih =>
    intro c hk n hn φ e e' h h' a w x hs hml hr Q hQ
    cases c with
    | loop c1 =>
      simp only [okCode] at hk
      have hr1 : exN pr pm (n + 1) m (.loop p live) e h = some (x, e', h') := hr
      let I : Nat → Act → World → Prop := fun k a1 w1 => k ≤ n + 1 ∧ ∃ φ1 e1 h1, StOK φ1 e1 h1 nt a1 w1 ∧ Later m φ h w φ1 h1 w1 ∧ exN pr pm k m (.loop p live) e1 h1 = some (x, e', h')
      have hI0 : ∃ k, I k a w := ⟨n + 1, Nat.le_refl _, φ, e, h, hs, Later.refl hs.heap hml, hr1⟩
      classical
      let μ : Act → World → Nat := fun a1 w1 => if hx : ∃ k, I k a1 w1 then Classical.choose (least hx) else 0
      refine wp_loop (fun a1 w1 => ∃ k, I k a1 w1) μ hI0 fun a1 w1 hI => ?_
      have hmu : μ a1 w1 = Classical.choose (least hI) := by simp only [μ]; rw [dif_pos hI]
      obtain ⟨hkn, φ1, e1, h1, hs1, hl1, hk1⟩ := (Classical.choose_spec (least hI)).1
      rw [← hmu] at hkn hk1
      cases hj : μ a1 w1 with
      | zero => rw [hj] at hk1; simp [exN] at hk1
      | succ j =>
        rw [hj] at hk1 hkn
        simp only [exN, exS] at hk1
        obtain ⟨⟨e2, h2⟩, hg, hk1⟩ := Option.bind_eq_some_iff.1 hk1
        obtain ⟨⟨x3, e3, h3⟩, hr3, hk1⟩ := Option.bind_eq_some_iff.1 hk1
        obtain ⟨φ2, hs2, hl2⟩ := gcE_ok hs1 hg
        refine ih c1 hk j (by omega) hs2 hl2.len hr3 fun φ3 a3 w3 hs3 hl3 => ?_
        have hl : Later m φ h w φ3 h3 w3 := hl1.trans (hl2.trans hl3)
        cases x3 with
        | norm =>
          have hI3 : I j a3 w3 := ⟨by omega, φ3, e3, h3, hs3, hl, hk1⟩
          refine ⟨⟨j, hI3⟩, ?_⟩
          have hx3 : ∃ k, I k a3 w3 := ⟨j, hI3⟩
          have : μ a3 w3 = Classical.choose (least hx3) := by simp only [μ]; rw [dif_pos hx3]
          rw [this]
          have := (Classical.choose_spec (least hx3)).2 j hI3
          omega
        | exit i =>
          simp only [Option.some.injEq, Prod.mk.injEq] at hk1
          obtain ⟨rfl, rfl, rfl⟩ := hk1
          exact hQ φ3 a3 w3 hs3 hl
        | ret =>
          simp only [Option.some.injEq, Prod.mk.injEq] at hk1
          obtain ⟨rfl, rfl, rfl⟩ := hk1
          exact hQ φ3 a3 w3 hs3 hl
    | _ => simp [okCode] at hk

/-! ### functions -/
def okRes (P : Program) : List ResultVar → List RV → Bool
  | [], [] => true
  | .tmp t :: rs, .t n :: qs => (t == n) && okRes P rs qs
  | .cell t ty :: rs, .cell t' n agg :: qs => (t == t') && (szT P ty == some n) && (aggT P ty == some agg) && (agg || n == 1) && okRes P rs qs
  | _, _ => false
theorem V.down_ok {φ : Phi} {v : V} {x : V1} {rv : Value} (h : VR φ v rv) (hd : v.down = some x) : VR1 φ x rv := by
  cases v with
  | c c => simp only [V.down, Option.some.injEq] at hd; subst hd; exact h
  | agg xs => simp only [V.down, Option.some.injEq] at hd; subst hd; exact h
  | tup xs => simp [V.down] at hd
theorem load_ok {P : Program} {φ : Phi} {H : HF} {w : World} (h : HeapOK φ H w) {i o n : Nat} {cs : List C} {p : Pl} (hr : readB H i o n = some cs) (hp : φ i = some p) {t : TypeId} {agg : Bool} (hs : szT P t = some n) (hb : aggT P t = some agg) (h1 : agg = true ∨ n = 1) :
    ∃ v, (loadVar t ⟨p.b, p.o + o, none⟩).run P w = .ok v w ∧ VR φ (mkV agg cs) v := by
  obtain ⟨vs, ha, hl, _, hcell⟩ := read_ok h hr hp
  refine ⟨if agg then .agg vs.toArray else vs.headD Go.undef, ?_, mkV_ok ha (by rcases h1 with h1 | h1; exact .inl h1; right; rw [ha.length, hl, h1])⟩
  cases agg with
  | true =>
    have hlc := run_loadCells_list (P := P) w ⟨p.b, p.o + o, none⟩ vs fun j v hj => by rw [add_lit]; exact hcell j v hj
    rw [hl] at hlc
    simp [loadVar, run_aggT hb, run_size hs, hlc]
  | false =>
    have hn : n = 1 := by simpa using h1
    subst hn
    obtain ⟨v, rfl⟩ := List.length_eq_one_iff.1 hl
    have hc0 := hcell 0 v (by simp)
    simp only [Nat.add_zero] at hc0
    simp [loadVar, run_aggT hb, hc0]
def resOne (tmps : Array Value) : ResultVar → Sem Value
  | .tmp t => pure (tmps.getD t undef)
  | .cell a t => do loadVar t (← asAddr (tmps.getD a undef))
theorem res_ok {P : Program} {φ : Phi} {e : Env} {h : Heap} {nt : Nat} {a : Act} {w : World} (hs : StOK φ e h nt a w) : ∀ {rs : List ResultVar} {qs : List RV} {vs : List V1}, okRes P rs qs = true → resL e h qs = some vs → ∃ us : List Value, (rs.mapM (resOne a.tmps)).run P w = .ok us w ∧ All2 (VR1 φ) vs us
  | [], [], vs, _, hr => by
    simp only [resL, Option.some.injEq] at hr
    subst hr
    exact ⟨[], by simp, trivial⟩
  | .tmp t :: rs, .t n :: qs, vs, hk, hr => by
    simp only [okRes, Bool.and_eq_true, beq_iff_eq] at hk
    obtain ⟨rfl, hk⟩ := hk
    simp only [resL, resV] at hr
    obtain ⟨v, hv, hr⟩ := Option.bind_eq_some_iff.1 hr
    obtain ⟨vs', hvs, rfl⟩ := Option.map_eq_some_iff.1 hr
    obtain ⟨us, hu, ha⟩ := res_ok hs hk hvs
    exact ⟨a.tmps.getD t undef :: us, by simp [List.mapM_cons, resOne, hu], V.down_ok (hs.env t) hv, ha⟩
  | .cell t ty :: rs, .cell t' n agg :: qs, vs, hk, hr => by
    simp only [okRes, Bool.and_eq_true, beq_iff_eq, Bool.or_eq_true] at hk
    obtain ⟨⟨⟨⟨rfl, h1⟩, h2⟩, h3⟩, hk⟩ := hk
    simp only [resL, resV] at hr
    obtain ⟨v, hv, hr⟩ := Option.bind_eq_some_iff.1 hr
    obtain ⟨vs', hvs, rfl⟩ := Option.map_eq_some_iff.1 hr
    obtain ⟨us, hu, ha⟩ := res_ok hs hk hvs
    have hx := hs.env t
    split at hv
    · rename_i i o hm
      rw [hm] at hx
      obtain ⟨p, hp, hxv⟩ := hx
      obtain ⟨cs, hc, hv⟩ := Option.bind_eq_some_iff.1 hv
      obtain ⟨u, hu1, hu2⟩ := load_ok hs.heap hc hp h1 h2 h3
      refine ⟨u :: us, ?_, V.down_ok hu2 hv, ha⟩
      have hxv' : a.tmps.getD t undef = ptrV p o := hxv
      simp [List.mapM_cons, resOne]
      rw [show (a.tmps[t]?.getD undef) = ptrV p o by simpa [Array.getD_eq_getD_getElem?] using hxv']
      simp [ptrV, asAddr, hu1, hu]
    · cases hv
  | [], _ :: _, _, h, _ => by simp [okRes] at h
  | .tmp _ :: _, [], _, h, _ => by simp [okRes] at h
  | .cell _ _ :: _, [], _, h, _ => by simp [okRes] at h
  | .tmp _ :: _, .cell _ _ _ :: _, _, h, _ => by simp [okRes] at h
  | .cell _ _ :: _, .t _ :: _, _, h, _ => by simp [okRes] at h
theorem results_ok {P : Program} {φ : Phi} {e : Env} {h : Heap} {nt : Nat} {a : Act} {w : World} (hs : StOK φ e h nt a w) {fn : Func} {qs : List RV} {vs : List V1} (hk : okRes P fn.results.toList qs = true) (hr : resL e h qs = some vs) : ∃ v, (results fn a.tmps).run P w = .ok v w ∧ VR φ (oneV vs) v := by
  obtain ⟨us, hu, ha⟩ := res_ok hs hk hr
  have e1 : results fn a.tmps = (do
      let vs ← fn.results.mapM (resOne a.tmps)
      pure (if h : vs.size = 1 then vs[0] else .tuple vs)) := by
    unfold results
    congr 1
  have e2 : (fn.results.mapM (resOne a.tmps)).run P w = .ok us.toArray w := by
    rw [Array.mapM_eq_mapM_toList]
    simp [hu]
  refine ⟨_, by rw [e1]; simp only [Sem.run_bind, e2, Result.andThen_ok]; rfl, ?_⟩
  cases vs with
  | nil =>
    cases us with
    | nil => exact ⟨[], rfl, trivial⟩
    | cons => exact ha.elim
  | cons v vs =>
    cases us with
    | nil => exact ha.elim
    | cons u us =>
      cases vs with
      | nil =>
        cases us with
        | nil => exact VR1.up.2 ha.1
        | cons => exact ha.2.elim
      | cons v2 vs =>
        cases us with
        | nil => exact ha.2.elim
        | cons u2 us =>
          refine ⟨u :: u2 :: us, ?_, ha⟩
          simp
theorem get_enter : ∀ (args : List V) (k t : Nat), get (enter args k) t = if k ≤ t then args.getD (t - k) (.c .dead) else .c .dead
  | [], k, t => by simp [enter, AM.get]
  | v :: args, k, t => by
    simp only [enter, AM.get]
    rw [get_enter args (k + 1) t]
    by_cases hkt : k = t
    · subst hkt; simp
    · rw [if_neg hkt]
      by_cases hle : k + 1 ≤ t
      · rw [if_pos hle, if_pos (by omega), show t - k = (t - (k + 1)) + 1 by omega, List.getD_cons_succ]
      · rw [if_neg hle, if_neg (by omega)]
/-- a function of the program and its code in the abstract machine -/
def okFn (P : Program) (f : Nat) (fn : AFn) : Bool :=
  match P.funcs[f]? with
  | some g => (match g.body with
    | some c => !(g.name == "runtime.NumGoroutine") && okCode P g.ntmps c fn.body && okRes P g.results.toList fn.res && decide (fn.np ≤ g.ntmps)
    | none => false)
  | none => false
/-- a function told by what it answers -/
def PrimOK (P : Program) (pm : Prim) : Prop := ∀ f q, pm f = some q → ∀ args h res h', q args h = some (res, h') → ∀ (φ : Phi) (w : World) (vs : List Value), HeapOK φ (lkp h) w → All2 (VR φ) args vs →
    Invokes P f vs.toArray w fun rv w' => ∃ φ', (∀ i, i < h.length → φ' i = φ i) ∧ VR φ' res rv ∧ Mv φ (lkp h) w φ' (lkp h') w'
def ProgOK (P : Program) (pr : Prog) : Prop := ∀ f fn, pr f = some fn → okFn P f fn = true
theorem fn_step {P : Program} {pr : Prog} {pm : Prim} (hm : P.follows .mixedOrders = true) (hpr : ProgOK P pr) (hpm : PrimOK P pm) {n : Nat} (ih : ∀ j, j < n → FnOK P (fnN pr pm j)) : FnOK P (fnN pr pm n) := by
  intro f args h res h' hr φ w vs hh ha
  unfold fnN fnOf at hr
  split at hr
  · rename_i q hq
    exact hpm f q hq args h res h' hr φ w vs hh ha
  · split at hr
    · cases hr
    · rename_i fn hfn
      have hok := hpr f fn hfn
      unfold okFn at hok
      split at hok
      · rename_i g hg
        split at hok
        · rename_i c hc
          simp only [Bool.and_eq_true, decide_eq_true_eq] at hok
          obtain ⟨⟨⟨hname, hcode⟩, hres⟩, hnp⟩ := hok
          split at hr
          · rename_i hlen
            obtain ⟨⟨x, e1, h1⟩, hr1, hr⟩ := Option.bind_eq_some_iff.1 hr
            cases n with
            | zero => simp [exN] at hr1
            | succ j =>
              simp only [exN] at hr1
              refine .inr ⟨Go.MuLone.run_callFunc_enter hg (by simpa using hname) hc _ _, calls_of_wp hg hc ?_⟩
              have hvl := ha.length
              have hst : StOK φ (enter args 0) h g.ntmps { tmps := vs.toArray ++ Array.replicate (g.ntmps - vs.toArray.size) undef, defers := [] } w := by
                refine ⟨fun t => ?_, hh, by simp; omega, rfl⟩
                rw [get_enter]
                simp only [Nat.zero_le, if_true, Nat.sub_zero]
                by_cases ht : t < args.length
                · obtain ⟨u, hu, hvr⟩ := ha.get (List.getElem?_eq_getElem ht)
                  rw [List.getD_eq_getElem?_getD, List.getElem?_eq_getElem ht]
                  have hult := (List.getElem?_eq_some_iff.1 hu).1
                  have : (vs.toArray ++ Array.replicate (g.ntmps - vs.toArray.size) undef).getD t undef = u := by
                    rw [Array.getD_eq_getD_getElem?, Array.getElem?_append_left (by simpa using hult)]
                    simp [hu]
                  show VR φ _ ((vs.toArray ++ Array.replicate (g.ntmps - vs.toArray.size) undef).getD t undef)
                  rw [this]
                  exact hvr
                · rw [List.getD_eq_getElem?_getD, List.getElem?_eq_none (by omega)]
                  trivial
              have hfin : ∀ φ' a' w', StOK φ' e1 h1 g.ntmps a' w' → Later h.length φ h w φ' h1 w' → leave h.length fn.res e1 h1 = some (res, h') → a'.defers = [] ∧ ∃ v, (results g a'.tmps).run P w' = .ok v w' ∧ ∃ rv, Ending.returned v = .returned rv ∧ ∃ φ', (∀ i, i < h.length → φ' i = φ i) ∧ VR φ' res rv ∧ Mv φ (lkp h) w φ' (lkp h') w' := by
                intro φ' a' w' hs' hl hlv
                unfold leave at hlv
                obtain ⟨xs, hxs, hlv⟩ := Option.bind_eq_some_iff.1 hlv
                simp only at hlv
                split at hlv
                · rename_i hcl
                  injection hlv with hlv
                  injection hlv with hl1 hl2
                  obtain ⟨v, hv, hvr⟩ := results_ok (P := P) hs' hres hxs
                  obtain ⟨hn, hm', hL⟩ := gcL_facts h.length (oneV xs).ids h1
                  have hcut := hl.trans (Later.cut hs'.heap hn hm' hL hcl.1)
                  refine ⟨hs'.defers, v, hv, v, rfl, _, hcut.keep, ?_, ?_⟩
                  · rw [← hl1]
                    exact hvr.mp (keeps_sub hcl.2)
                  · rw [← hl2]
                    exact hcut.mv
                · cases hlv
              refine exS_ok (N := j + 1) hm (fun i hi => ih i (by omega)) fn.body c hcode j (by omega) hst (Nat.le_refl _) hr1 fun φ' a' w' hs' hl => ?_
              cases x with
              | norm => exact hfin φ' a' w' hs' hl hr
              | ret => exact hfin φ' a' w' hs' hl hr
              | exit i => simp at hr
          · cases hr
        · cases hok
      · cases hok
theorem fn_ok {P : Program} {pr : Prog} {pm : Prim} (hm : P.follows .mixedOrders = true) (hpr : ProgOK P pr) (hpm : PrimOK P pm) (n : Nat) : FnOK P (fnN pr pm n) := by
  induction n using Nat.strongRecOn with
  | ind n ih => exact fn_step hm hpr hpm ih
end Go.Proofs.Ytenheijeahpbkaa.AM
