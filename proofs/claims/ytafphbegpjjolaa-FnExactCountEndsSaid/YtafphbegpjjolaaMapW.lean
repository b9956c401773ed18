import Derived.Test.YtafphbegpjjolaaMapZ
/- Code with maps of racks: what has been shown of the abstract machine's states holds of the model's run; a function of such code. -/
namespace Go.Proofs.Ytafphbegpjjolaa.AM
open Go
set_option linter.unusedSimpArgs false
set_option linter.unusedVariables false
section
variable {P : Program} {pr : Prog} {pm : Prim} {φ0 : Phi} {w0 : World} {nt : Nat} {tm : TypeId}
theorem opsX_ok (hF : FnOK P (fnI pr pm)) (K : KeyF P tm) {ops : Array Oper} {R : Exit → Act → World → Prop} : ∀ (qs : List XOp) (os : List Oper) (k : Nat), (∀ j, os[j]? = ops[k + j]?) → okXs P nt tm ops os qs = true → ∀ {φ : Phi} {s : XS} {a : Act} {w : World} {Q : XS → Prop}, SM φ0 w0 nt φ s a w → runX (fnI pr pm) qs s Q →
    (∀ s' φ' a' w', Q s' → SM φ0 w0 nt φ' s' a' w' → R .normal a' w') → wpOps P ops R (List.range' k os.length) a w
  | [], [], k, _, _, φ, s, a, w, Q, hs, hr, hQ => hQ s φ a w hr hs
  | q :: qs, o :: os, k, hos, hk, φ, s, a, w, Q, hs, hr, hQ => by
    simp only [okXs, Bool.and_eq_true] at hk
    have ho : ops[k]? = some o := by have := hos 0; simpa using this.symm
    simp only [List.length_cons, List.range'_succ, wpOps, ho]
    refine opX_ok hF K hk.1 hs hr fun s1 φ1 a1 w1 hr1 hs1 => ?_
    exact opsX_ok hF K qs os (k + 1) (fun j => by have := hos (j + 1); simpa [Nat.add_assoc, Nat.add_comm 1 j] using this) hk.2 hs1 hr1 hQ
  | [], _ :: _, _, _, h, _, _, _, _, _, _, _, _ => by simp [okXs] at h
  | _ :: _, [], _, _, h, _, _, _, _, _, _, _, _ => by simp [okXs] at h
theorem Gc.ok {live : List Nat} {s s' : XS} (hg : Gc live s s') {φ : Phi} {a : Act} {w : World} (hs : SM φ0 w0 nt φ s a w) : ∃ φ', SM φ0 w0 nt φ' s' a w := by
  obtain ⟨hg, hM⟩ := hg
  unfold gcE at hg
  simp only at hg
  split at hg
  · rename_i hc
    injection hg with hg
    injection hg with h1 h2
    obtain ⟨L, hL⟩ : ∃ L, L = gcL 0 (envIds (restrict s.e live)) s.h := ⟨_, rfl⟩
    rw [← hL] at hc h1 h2 hM
    obtain ⟨hn, hm, hLu⟩ := gcL_facts 0 (envIds (restrict s.e live)) s.h
    rw [← hL] at hn hm hLu
    have hl := Later.cut hs.st.heap hn hm hLu hc.1
    have hst : StOK (φ.sub L) s'.e s'.h nt a w := by
      rw [← h1, ← h2]
      refine ⟨fun t => ?_, hl.mv.ok, hs.st.size, hs.st.defers⟩
      rw [get_map]
      exact (hs.st.env.restrict live t).mp (keeps_sub (inL_sub hc.2 (get_ids t _)))
    have hph : ∀ j i, L[j]? = some i → φ.sub L j = φ i := fun j i hj => by unfold Phi.sub; rw [hj]; rfl
    refine ⟨φ.sub L, hst, by rw [← h2]; exact hs.mv.trans hl.mv, fun j o hj => ?_, fun i j oi oj p q hi hj hij hp hq => ?_⟩
    · obtain ⟨i, o0, hi, hm0, rfl, hids⟩ := hM j o hj
      obtain ⟨b, hb, hob, hnl, h0, hok⟩ := hs.mo i o0 hm0
      refine ⟨b, (hph j i hi).trans hb, ?_, fun hls => hnl ?_, h0, ?_⟩
      · rw [hob]
        congr 1
        cases o0 with
        | map ks => rfl
        | iter i2 n seen =>
          have hin : i2 ∈ L := hids i2 (by simp [MO.ids])
          simp only [objOf, MO.mp, hph _ _ (pos_get hin)]
      · rw [← h2] at hls
        obtain ⟨i, b', p, _, h3, h4, h5, h6⟩ := LS.sub hc.1 hls
        exact ⟨i, b', p, h3, h4, h5, h6⟩
      · cases o0 with
        | map ks => exact hok
        | iter i2 n seen =>
          have hin : i2 ∈ L := hids i2 (by simp [MO.ids])
          obtain ⟨p, hp⟩ := hok
          exact ⟨p, (hph _ _ (pos_get hin)).trans hp⟩
    · obtain ⟨i', oi', hi', hmi, _, _⟩ := hM i oi hi
      obtain ⟨j', oj', hj', hmj, _, _⟩ := hM j oj hj
      rw [hph _ _ hi'] at hp
      rw [hph _ _ hj'] at hq
      exact hs.ap i' j' oi' oj' p q hmi hmj (fun e => hij (by subst e; exact nodup_inj hn hi' hj')) hp hq
  · cases hg
theorem exI_code (hm : P.follows .mixedOrders = true) (hpr : ProgOK P pr) (hpm : PrimOK P pm) {m : Nat} {ac : ACode} {c : Code} (hk : okCode P nt c ac = true) {φ : Phi} {e e' : Env} {h h' : Heap} {a : Act} {w : World} {x : Ex} (hs : StOK φ e h nt a w) (hml : m ≤ h.length) (hr : exI pr pm m ac e h = some (x, e', h')) {Q : Exit → Act → World → Prop}
    (hQ : ∀ φ' a' w', StOK φ' e' h' nt a' w' → Later m φ h w φ' h' w' → Q x.up a' w') : c.wp P Q a w := by
  obtain ⟨n, hn⟩ := (exI_iff pr pm).1 hr
  cases n with
  | zero => simp [exN] at hn
  | succ n => exact exS_ok hm (N := n + 1) (fun i _ => fn_ok hm hpr hpm i) ac c hk n (Nat.lt_succ_self n) hs hml hn hQ
theorem exW_ok (hm : P.follows .mixedOrders = true) (hpr : ProgOK P pr) (hpm : PrimOK P pm) (K : KeyF P tm) : ∀ (xc : XC) (c : Code), okXC P nt tm c xc = true → ∀ {φ : Phi} {s : XS} {a : Act} {w : World} {Q : Ex → XS → Prop} {R : Exit → Act → World → Prop}, SM φ0 w0 nt φ s a w → exW pr pm xc s Q →
    (∀ x s' φ' a' w', Q x s' → SM φ0 w0 nt φ' s' a' w' → R x.up a' w') → c.wp P R a w := by
  intro xc
  induction xc with
  | am ac =>
    intro c hk φ s a w Q R hs hr hQ
    have hk : okCode P nt c ac = true := by cases c <;> exact hk
    obtain ⟨x, e', h', hx, hq⟩ := hr
    exact exI_code hm hpr hpm hk hs.st (Nat.le_refl _) hx fun φ' a' w' hs' hl => hQ x _ φ' a' w' hq (hs.later hs' hl)
  | ops l live =>
    intro c hk φ s a w Q R hs hr hQ
    cases c with
    | region id ops draw =>
      cases draw with
      | false =>
        have hk : okXs P nt tm ops ops.toList l = true := hk
        refine wp_region ?_
        have hrg : List.range ops.size = List.range' 0 ops.toList.length := by simp [List.range_eq_range']
        rw [hrg]
        refine opsX_ok (fnI_ok hm hpr hpm) K l ops.toList 0 (fun j => by simp) hk hs hr fun s' φ' a' w' hq hs' => ?_
        exact hQ .norm _ φ' a' w' hq ⟨⟨hs'.st.env.restrict live, hs'.st.heap, hs'.st.size, hs'.st.defers⟩, hs'.mv, hs'.mo, hs'.ap⟩
      | true => simp [okXC] at hk
    | _ => simp [okXC] at hk
  | seq p q ihp ihq =>
    intro c hk φ s a w Q R hs hr hQ
    cases c with
    | seq c1 c2 =>
      simp only [okXC, Bool.and_eq_true] at hk
      refine wp_seq (ihp c1 hk.1 hs hr fun x s1 φ1 a1 w1 hq hs1 => ?_)
      cases x with
      | norm => exact ihq c2 hk.2 hs1 hq hQ
      | exit id => exact hQ _ s1 φ1 a1 w1 hq hs1
      | ret => exact hQ _ s1 φ1 a1 w1 hq hs1
    | _ => simp [okXC] at hk
  | cond co p q ihp ihq =>
    intro c hk φ s a w Q R hs hr hQ
    cases c with
    | cond c0 c1 c2 =>
      simp only [okXC, Bool.and_eq_true] at hk
      have hc := opd_ok hs.st.env hk.1.1
      obtain ⟨t, ht, hr⟩ := hr
      rw [ht] at hc
      refine wp_cond (t := t) hc ?_
      cases t with
      | true => exact ihp c1 hk.1.2 hs hr hQ
      | false => exact ihq c2 hk.2 hs hr hQ
    | _ => simp [okXC] at hk
  | block id p ih =>
    intro c hk φ s a w Q R hs hr hQ
    cases c with
    | block id' c1 =>
      simp only [okXC, Bool.and_eq_true, beq_iff_eq] at hk
      obtain ⟨rfl, hk⟩ := hk
      refine wp_block (ih c1 hk hs hr fun x s1 φ1 a1 w1 hq hs1 => ?_)
      cases x with
      | norm => exact hQ .norm s1 φ1 a1 w1 hq hs1
      | exit i =>
        simp only [blockX] at hq
        simp only [Ex.up, Exit.inBlock]
        split at hq
        · rename_i hi
          rw [if_pos hi]
          exact hQ .norm s1 φ1 a1 w1 hq hs1
        · rename_i hi
          rw [if_neg hi]
          exact hQ (.exit i) s1 φ1 a1 w1 hq hs1
      | ret => exact hQ .ret s1 φ1 a1 w1 hq hs1
    | _ => simp [okXC] at hk
  | loop p ih =>
    intro c hk φ s a w Q R hs hr hQ
    cases c with
    | loop c1 =>
      have hk : okXC P nt tm c1 p = true := hk
      obtain ⟨I, μ, ⟨live, s', hg, hI⟩, hround⟩ := hr
      obtain ⟨φ', hs'⟩ := hg.ok hs
      let J : Nat → Act → World → Prop := fun k a1 w1 => ∃ s1 φ1, I s1 ∧ SM φ0 w0 nt φ1 s1 a1 w1 ∧ μ s1 = k
      have hJ0 : ∃ k, J k a w := ⟨_, s', φ', hI, hs', rfl⟩
      classical
      let ν : Act → World → Nat := fun a1 w1 => if hx : ∃ k, J k a1 w1 then Classical.choose (least hx) else 0
      refine wp_loop (fun a1 w1 => ∃ k, J k a1 w1) ν hJ0 fun a1 w1 hJ => ?_
      have hnu : ν a1 w1 = Classical.choose (least hJ) := by simp only [ν]; rw [dif_pos hJ]
      obtain ⟨s1, φ1, hI1, hs1, hmu⟩ := (Classical.choose_spec (least hJ)).1
      rw [← hnu] at hmu
      refine ih c1 hk hs1 (hround s1 hI1) fun x s2 φ2 a2 w2 hq hs2 => ?_
      cases x with
      | norm =>
        obtain ⟨live2, s3, hg3, hI3, hlt⟩ := hq
        obtain ⟨φ3, hs3⟩ := hg3.ok hs2
        have hJ3 : J (μ s3) a2 w2 := ⟨s3, φ3, hI3, hs3, rfl⟩
        refine ⟨⟨_, hJ3⟩, ?_⟩
        have hx3 : ∃ k, J k a2 w2 := ⟨_, hJ3⟩
        have : ν a2 w2 = Classical.choose (least hx3) := by simp only [ν]; rw [dif_pos hx3]
        rw [this]
        have := (Classical.choose_spec (least hx3)).2 _ hJ3
        omega
      | exit i => exact hQ (.exit i) s2 φ2 a2 w2 hq hs2
      | ret => exact hQ .ret s2 φ2 a2 w2 hq hs2
    | _ => simp [okXC] at hk
/-- a function with maps and its code -/
def okXF (P : Program) (tm : TypeId) (f : Nat) (np : Nat) (res : List RV) (xc : XC) : Bool :=
  match P.funcs[f]? with
  | some g => (match g.body with
    | some c => !(g.name == "runtime.NumGoroutine") && okXC P g.ntmps tm c xc && okRes P g.results.toList res && decide (np ≤ g.ntmps)
    | none => false)
  | none => false
theorem fnX_ok (hm : P.follows .mixedOrders = true) (hpr : ProgOK P pr) (hpm : PrimOK P pm) (K : KeyF P tm) {f np : Nat} {rs : List RV} {xc : XC} (hok : okXF P tm f np rs xc = true) {args : List V} (hlen : args.length = np) {res : V} {Q : Ex → XS → Prop} (hr : exW pr pm xc ⟨enter args 0, [], []⟩ Q)
    (hQ : ∀ x s, Q x s → (∀ i, x ≠ .exit i) ∧ leave 0 rs s.e s.h = some (res, [])) {φ : Phi} {w : World} {vs : List Value} (hh : HeapOK φ (lkp []) w) (ha : All2 (VR φ) args vs) :
    Invokes P f vs.toArray w fun rv w' => ∃ φ', VR φ' res rv ∧ Mv φ (lkp []) w φ' (lkp []) w' := by
  unfold okXF at hok
  split at hok
  · rename_i g hg
    split at hok
    · rename_i c hc
      simp only [Bool.and_eq_true, decide_eq_true_eq] at hok
      obtain ⟨⟨⟨hname, hcode⟩, hres⟩, hnp⟩ := hok
      refine .inr ⟨Go.MuLone.run_callFunc_enter hg (by simpa using hname) hc _ _, calls_of_wp hg hc ?_⟩
      have hvl := ha.length
      have hst : StOK φ (enter args 0) [] g.ntmps { tmps := vs.toArray ++ Array.replicate (g.ntmps - vs.toArray.size) undef, defers := [] } w := by
        refine ⟨fun t => ?_, hh, by simp; omega, rfl⟩
        rw [get_enter]
        simp only [Nat.zero_le, if_true, Nat.sub_zero]
        by_cases ht : t < args.length
        · obtain ⟨u, hu, hvr⟩ := ha.get (List.getElem?_eq_getElem ht)
          rw [List.getD_eq_getElem?_getD, List.getElem?_eq_getElem ht]
          have hult := (List.getElem?_eq_some_iff.1 hu).1
          have : (vs.toArray ++ Array.replicate (g.ntmps - vs.toArray.size) undef).getD t undef = u := by
            rw [Array.getD_eq_getD_getElem?, Array.getElem?_append_left (by simpa using hult)]
            simp [hu]
          show VR φ _ ((vs.toArray ++ Array.replicate (g.ntmps - vs.toArray.size) undef).getD t undef)
          rw [this]
          exact hvr
        · rw [List.getD_eq_getElem?_getD, List.getElem?_eq_none (by omega)]
          trivial
      have hsm : SM φ w g.ntmps φ ⟨enter args 0, [], []⟩ { tmps := vs.toArray ++ Array.replicate (g.ntmps - vs.toArray.size) undef, defers := [] } w :=
        ⟨hst, Mv.refl hh, fun i o hi => by simp [mget] at hi, fun i j oi oj p q hi => by simp [mget] at hi⟩
      have hfin : ∀ s' φ' a' w', SM φ w g.ntmps φ' s' a' w' → leave 0 rs s'.e s'.h = some (res, []) → a'.defers = [] ∧ ∃ v, (results g a'.tmps).run P w' = .ok v w' ∧ ∃ rv, Ending.returned v = .returned rv ∧ ∃ φ', VR φ' res rv ∧ Mv φ (lkp []) w φ' (lkp []) w' := by
        intro s' φ' a' w' hs' hlv
        unfold leave at hlv
        obtain ⟨xs, hxs, hlv⟩ := Option.bind_eq_some_iff.1 hlv
        simp only at hlv
        split at hlv
        · rename_i hcl
          injection hlv with hlv
          injection hlv with hl1 hl2
          obtain ⟨v, hv, hvr⟩ := results_ok (P := P) hs'.st hres hxs
          obtain ⟨hn, hm', hL⟩ := gcL_facts 0 (oneV xs).ids s'.h
          have hcut := Later.cut hs'.st.heap hn hm' hL hcl.1
          refine ⟨hs'.st.defers, v, hv, v, rfl, φ'.sub (gcL 0 (oneV xs).ids s'.h), ?_, ?_⟩
          · rw [← hl1]
            exact hvr.mp (keeps_sub hcl.2)
          · have := hs'.mv.trans hcut.mv
            rw [hl2] at this
            exact this
        · cases hlv
      refine exW_ok hm hpr hpm K xc c hcode hsm hr fun x s' φ' a' w' hq hs' => ?_
      obtain ⟨hx, hlv⟩ := hQ x s' hq
      cases x with
      | norm => exact hfin s' φ' a' w' hs' hlv
      | ret => exact hfin s' φ' a' w' hs' hlv
      | exit i => exact absurd rfl (hx i)
    · cases hok
  · cases hok
end
/-! ### more functions told by what they answer -/
theorem prim_mono {P : Prog} {Q Q' : Prim} (hq : ∀ f q, Q f = some q → Q' f = some q) (hp : ∀ f, Q f = none → Q' f ≠ none → P f = none) : ∀ n, (∀ m, RLe (exN P Q n m) (exN P Q' n m)) ∧ FLe (fnN P Q n) (fnN P Q' n) := by
  have step : ∀ n, (∀ m, RLe (exN P Q n m) (exN P Q' n m)) → FLe (fnN P Q n) (fnN P Q' n) := by
    intro n h f a hp' r hr
    unfold fnN fnOf at hr ⊢
    split at hr
    · rename_i q hf
      rw [hq f q hf]
      exact hr
    · rename_i hf
      split at hr
      · cases hr
      · rename_i fn hfn
        have hf' : Q' f = none := by
          cases hx : Q' f with
          | none => rfl
          | some q => rw [hp f hf (by rw [hx]; simp)] at hfn; cases hfn
        rw [hf']
        split at hr
        · rename_i hl
          simp only [hfn, if_pos hl]
          obtain ⟨x, hx, hr⟩ := Option.bind_eq_some_iff.1 hr
          exact Option.bind_eq_some_iff.2 ⟨x, h _ _ _ _ _ hx, hr⟩
        · cases hr
  intro n
  induction n with
  | zero => exact ⟨fun m c e h r hr => by simp [exN] at hr, step 0 fun m c e h r hr => by simp [exN] at hr⟩
  | succ n ih =>
    have h1 : ∀ m, RLe (exN P Q (n + 1) m) (exN P Q' (n + 1) m) := fun m c e h r hr => by
      simp only [exN] at hr ⊢
      exact exS_mono ih.2 (ih.1 m) c e h r hr
    exact ⟨h1, step (n + 1) h1⟩
theorem fnI_prim {P : Prog} {Q Q' : Prim} (hq : ∀ f q, Q f = some q → Q' f = some q) (hp : ∀ f, Q f = none → Q' f ≠ none → P f = none) : FLe (fnI P Q) (fnI P Q') := by
  intro f a h r hr
  obtain ⟨n, hn⟩ := (fnI_iff P Q).1 hr
  exact (fnI_iff P Q').2 ⟨n, (prim_mono hq hp n).2 f a h r hn⟩
end Go.Proofs.Ytafphbegpjjolaa.AM
