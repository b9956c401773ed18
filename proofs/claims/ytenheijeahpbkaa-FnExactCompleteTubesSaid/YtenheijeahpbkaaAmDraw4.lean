/-
  A region whose order is open, as a whole; the test by computation that a region's code must pass.
-/
import Derived.Test.YtenheijeahpbkaaAmDraw3
namespace Go.Proofs.Ytenheijeahpbkaa.AM
open Go
section
variable {P : Program} {F : Fns} {nt n0 : Nat} {ops : Array Oper} {qs : List AOper} {tr : Nat → Env × Heap} {out : Nat → Out}
theorem HS_zero (S : Nat → Bool) (hS : ∀ k, S k = false) : ∀ K, HS qs tr out S K = lkp (tr 0).2
  | 0 => rfl
  | K + 1 => by simp only [HS, hS K, Bool.false_eq_true, if_false, HS_zero S hS K]
theorem ranges (ht : Tr F n0 qs tr out) {i k b : Nat} (hi : i < qs.length) (hk : k < qs.length) (hne : k ≠ i) (hb : (tr i).2.length ≤ b ∧ b < (tr i).2.length + (nsT qs out i).length) : b < (tr k).2.length ∨ (tr k).2.length + (nsT qs out k).length ≤ b := by
  rcases Nat.lt_or_ge k i with h | h
  · have := tr_end ht h (by omega); omega
  · have := tr_end ht (show i < k by omega) (by omega); omega
theorem HS_none (hy : Hyp P F nt n0 ops qs tr out) {φ0 φ : Phi} {w0 w : World} {S : Nat → Bool} {a : Act} (hl : Rel ops qs tr out nt n0 φ0 w0 S φ a w) {i : Nat} (hi : i < qs.length) (hS : S i = false) {b : Nat} (hb : (tr i).2.length ≤ b ∧ b < (tr i).2.length + (nsT qs out i).length) : HS qs tr out S qs.length b = none := by
  have hn : n0 ≤ b := by have := tr_mono hy.ht (Nat.zero_le i) (by omega); rw [hy.n0] at this; omega
  have h1 := HS_agree (qs := qs) (tr := tr) (out := out) (S := S) (S' := fun _ => false) (b := b) qs.length fun k hk hne => by
    have hk1 : S k = true := by simpa using hne
    have hki : k ≠ i := fun e => by rw [e, hS] at hk1; cases hk1
    refine ⟨ranges hy.ht hi hk hki hb, fun p hp hpb => ?_⟩
    rcases hl.us k p hk hk1 hp with h | ⟨pl, hpl⟩
    · omega
    · have := hl.free i hi hS (b - (tr i).2.length) (by omega)
      rw [show (tr i).2.length + (b - (tr i).2.length) = b by omega, ← hpb, hpl] at this
      cases this
  rw [h1, HS_zero _ fun _ => rfl]
  unfold lkp
  exact List.getElem?_eq_none (by rw [hy.n0]; exact hn)
theorem rel_next (hy : Hyp P F nt n0 ops qs tr out) {φ0 φ φ' : Phi} {w0 w w' : World} {S S' : Nat → Bool} {a : Act} (hl : Rel ops qs tr out nt n0 φ0 w0 S φ a w) {i : Nat} {o : Oper} {q : AOper} (ho : ops[i]? = some o) (hq : qs[i]? = some q) (hS : S i = false) (hr : EdgesIn ops S i)
    (hS1 : S' i = true) (hS2 : ∀ k, k ≠ i → S' k = S k) {rv : Value} (hv : VR φ' (out i).1 rv) (hout : OutOK φ (HS qs tr out S qs.length) w (tr i).2.length (out i).2.1 (out i).2.2 φ' w') :
    Rel ops qs tr out nt n0 φ0 w0 S' φ' (a.put o.dst rv) w' := by
  have hi : i < qs.length := (List.getElem?_eq_some_iff.1 hq).1
  have hns : nsT qs out i = (out i).2.1 := by unfold nsT; rw [hq]
  have hfree := hl.free i hi hS
  rw [hns] at hfree
  have hle : Le φ φ' := le_of_old hout.old hfree
  have hokq := hy.ok i o q ho hq
  simp only [okOper, Bool.and_eq_true] at hokq
  obtain ⟨hd1, hd2⟩ := okDst_eq hokq.1.1
  have hdT : dT qs i = q.d := by unfold dT; rw [hq]; rfl
  have hdown : Down ops S' := by
    intro j hj o' e ho' he hb
    by_cases hji : j = i
    · subst hji
      have h1 := hr o' e ho' he hb
      have : e.on ≠ j := fun h => by rw [h, hS] at h1; cases h1
      rw [hS2 _ this]; exact h1
    · rw [hS2 j hji] at hj
      have h1 := hl.down j hj o' e ho' he hb
      have : e.on ≠ i := fun h => by rw [h, hS] at h1; cases h1
      rw [hS2 _ this]; exact h1
  have hafter : ∀ k, i < k → S' k = true → Anc ops i k → False := by
    intro k hik hk ha
    rw [hS2 k (by omega)] at hk
    have := anc_down hl.down ha hk
    rw [hS] at this; cases this
  have hn0i : n0 ≤ (tr i).2.length := by have := tr_mono hy.ht (Nat.zero_le i) (by omega); rw [hy.n0] at this; exact this
  /- what has been written by others lies elsewhere than what is made now -/
  have husr : ∀ k p, k < qs.length → S k = true → p ∈ usT qs out k → ¬ ((tr i).2.length ≤ p.1 ∧ p.1 < (tr i).2.length + (out i).2.1.length) := by
    intro k p hk hk1 hp hin
    rcases hl.us k p hk hk1 hp with h | ⟨pl, hpl⟩
    · omega
    · have := hfree (p.1 - (tr i).2.length) (by omega)
      rw [show (tr i).2.length + (p.1 - (tr i).2.length) = p.1 by omega, hpl] at this
      cases this
  have hwsi : ∀ (k : Nat) p, p ∈ usT qs out k → ∃ q', qs[k]? = some q' ∧ ∃ x ∈ q'.o.ws, idOf (x.ev (tr k).1) = some p.1 ∧ q'.o.ev F (tr k).1 (lkp (tr k).2) (tr k).2.length = some (out k) := by
    intro k p hp
    obtain ⟨q', hq', hnc, hpo, _⟩ := usT_some hy.ht hp
    obtain ⟨hko, _, _⟩ := hy.ht.step k q' hq'
    unfold outA at hko
    obtain ⟨wd, _, hko⟩ := Option.bind_eq_some_iff.1 hko
    split at hko
    · obtain ⟨x, hx, hxb⟩ := ws_ids hnc hko p hpo
      exact ⟨q', hq', x, hx, hxb, hko⟩
    · injection hko with hko; rw [← hko] at hpo; simp at hpo
  have hHS : updH (HS qs tr out S qs.length) (tr i).2.length (out i).2.1 (out i).2.2 = HS qs tr out S' qs.length := by
    have e1 : updH (HS qs tr out S qs.length) (tr i).2.length (out i).2.1 (out i).2.2 = updH (HS qs tr out S qs.length) (tr i).2.length (nsT qs out i) (usT qs out i) := by
      rw [hns]
      unfold usT
      rw [hq]
      simp only
      split
      · rename_i hcall
        have := (out_agree hy hl hq hS hr).2 hcall
        funext b
        simp only [updH, updU, this]
      · rfl
    rw [e1]
    funext b
    have hS2' : ∀ k, S' k ≠ S k → k = i := fun k h => by
      by_cases hki : k = i
      · exact hki
      · exact absurd (hS2 k hki) h
    by_cases hrange : (tr i).2.length ≤ b ∧ b < (tr i).2.length + (nsT qs out i).length
    · have h1 := HS_skip (qs := qs) (tr := tr) (out := out) (S := S') (K := i + 1) (b := b) (qs.length - (i + 1)) fun k h1 h2 h3 => by
        have hk : S k = true := by rw [← hS2 k (by omega)]; exact h3
        refine ⟨ranges hy.ht hi (by omega) (by omega) hrange, fun p hp hpb => husr k p (by omega) hk hp ?_⟩
        rw [hpb, ← hns]; exact hrange
      rw [show i + 1 + (qs.length - (i + 1)) = qs.length by omega] at h1
      rw [h1]
      simp only [HS, hS1, if_true, updH]
      rw [if_pos hrange, if_pos hrange]
    · by_cases hu : ∃ p ∈ usT qs out i, p.1 = b
      · obtain ⟨p, hp, hpb⟩ := hu
        obtain ⟨_, _, _, _, hlt⟩ := usT_some hy.ht hp
        obtain ⟨q0, hq0, x, hx, hxb, _⟩ := hwsi i p hp
        have h1 := HS_skip (qs := qs) (tr := tr) (out := out) (S := S') (K := i + 1) (b := b) (qs.length - (i + 1)) fun k h1 h2 h3 => by
          refine ⟨.inl ?_, fun p' hp' hpb' => ?_⟩
          · have := tr_mono hy.ht (show i ≤ k by omega) (by omega); omega
          · obtain ⟨q', hq', x', hx', hxb', _⟩ := hwsi k p' hp'
            rcases hy.c2 i k q0 q' (by omega) hq0 hq' with ha | ha
            · exact hafter k (by omega) h3 ha
            · exact ha.1 x hx x' (ws_rs hx') p.1 hxb (by rw [hxb', hpb', hpb])
        rw [show i + 1 + (qs.length - (i + 1)) = qs.length by omega] at h1
        rw [h1]
        simp only [HS, hS1, if_true, updH]
        rw [if_neg hrange, if_neg hrange]
        exact updU_hit _ _ _ b ⟨p, hp, hpb⟩
      · rw [updH_at (by omega) fun p hp hpb => hu ⟨p, hp, hpb⟩]
        refine (HS_agree qs.length fun k hk hne => ?_)
        have := hS2' k fun e => hne e.symm
        subst this
        exact ⟨by omega, fun p hp hpb => hu ⟨p, hp, hpb⟩⟩
  refine ⟨?_, fun k hk hk0 => ?_, fun k p hk hk1 hp => ?_, by rw [put_size]; exact hl.size, by rw [put_defers']; exact hl.defers, hdown, fun j hj => ?_, ?_⟩
  · have h1 : EnvOK φ' (put (ES qs tr out S qs.length) q.d (out i).1) (a.put q.d rv) := (hl.env.mono hle).put hv fun k hk => by rw [hl.size]; exact hd2 k hk
    rw [hd1]
    intro t
    have h2 := h1 t
    have h3 : get (ES qs tr out S' qs.length) t = get (put (ES qs tr out S qs.length) q.d (out i).1) t := by
      rw [get_put]
      by_cases hdt : q.d = some t
      · rw [if_pos hdt]
        have h4 := ES_skip (qs := qs) (tr := tr) (out := out) (S := S') (K := i + 1) (t := t) (qs.length - (i + 1)) fun k h1 h2 h3 hdk =>
          hafter k (by omega) h3 (hy.c1 i k (by omega) (by omega) ⟨t, .inl ⟨hdT.trans hdt, .inr hdk⟩⟩)
        rw [show i + 1 + (qs.length - (i + 1)) = qs.length by omega] at h4
        rw [h4]
        simp only [ES, hS1, if_true]
        rw [get_put, hdT, if_pos hdt]
      · rw [if_neg hdt]
        refine ES_agree qs.length fun k hk hdk => hS2 k fun e => ?_
        subst e
        exact hdt (hdT.symm.trans hdk)
    rw [h3]
    exact h2
  · have hki : k ≠ i := fun e => by rw [e, hS1] at hk0; cases hk0
    rw [hS2 k hki] at hk0
    intro j hj
    have hro := ranges hy.ht hk hi (Ne.symm hki) (b := (tr k).2.length + j) ⟨by omega, by omega⟩
    rw [hns] at hro
    rw [hout.old _ hro]
    exact hl.free k hk hk0 j hj
  · by_cases hki : k = i
    · subst hki
      obtain ⟨q0, hq0, x, hx, hxb, hev⟩ := hwsi k p hp
      exact (known hy hl hq0 hS hr hev x (ws_rs hx) p.1 hxb).imp id fun ⟨pl, hpl⟩ => ⟨pl, hle _ _ hpl⟩
    · rw [hS2 k hki] at hk1
      exact (hl.us k p hk hk1 hp).imp id fun ⟨pl, hpl⟩ => ⟨pl, hle _ _ hpl⟩
  · rw [hout.old j (.inl (by omega))]
    exact hl.keep j hj
  · have := hout.mv
    rw [hHS] at this
    exact hl.mv.trans this
theorem rel_step (hF : FnOK P F) (hy : Hyp P F nt n0 ops qs tr out) {φ0 φ : Phi} {w0 w : World} {S S' : Nat → Bool} {a : Act} (hl : Rel ops qs tr out nt n0 φ0 w0 S φ a w) {i : Nat} {o : Oper} {q : AOper} (ho : ops[i]? = some o) (hq : qs[i]? = some q) (hS : S i = false) (hr : EdgesIn ops S i)
    (hS1 : S' i = true) (hS2 : ∀ k, k ≠ i → S' k = S k) {K : Act → World → Prop} {Q : Exit → Act → World → Prop} (hK : ∀ φ' a' w', Rel ops qs tr out nt n0 φ0 w0 S' φ' a' w' → K a' w') :
    if Region.wanted o (yielded ops a.tmps) then o.wp P a w K Q ∨ (o.asks P a w ∧ LetsOut Q) else K (a.put o.dst Go.undef) w := by
  have hi : i < qs.length := (List.getElem?_eq_some_iff.1 hq).1
  have hns : nsT qs out i = (out i).2.1 := by unfold nsT; rw [hq]
  have hokq := hy.ok i o q ho hq
  simp only [okOper, Bool.and_eq_true] at hokq
  obtain ⟨⟨hd, hg⟩, hop⟩ := hokq
  have hev := (out_agree hy hl hq hS hr).1
  unfold outA at hev
  obtain ⟨wd, hwd, hev⟩ := Option.bind_eq_some_iff.1 hev
  rw [wanted_ok hl.env hg hwd]
  cases wd with
  | true =>
    simp only [if_true] at hev ⊢
    have hf := hl.free i hi hS
    rw [hns] at hf
    refine .inl ((okA_does hF hop hl.env hl.mv.ok hev hf fun hne => HS_none hy hl hi hS ⟨Nat.le_refl _, ?_⟩).wp fun rv w' ⟨φ', hv, hout⟩ => hK φ' _ _ (rel_next hy hl ho hq hS hr hS1 hS2 hv hout))
    rw [hns]
    have := List.length_pos_iff.2 hne
    omega
  | false =>
    simp only [Bool.false_eq_true, if_false] at hev ⊢
    injection hev with hev
    refine hK φ _ _ (rel_next hy hl ho hq hS hr hS1 hS2 (by rw [← hev]; rfl) ?_)
    rw [← hev]
    exact OutOK.same _ hl.mv.ok

def cnt (S : Nat → Bool) : Nat → Nat
  | 0 => 0
  | k + 1 => cnt S k + if S k then 0 else 1
theorem cnt_le (S : Nat → Bool) : ∀ n, cnt S n ≤ n
  | 0 => Nat.le_refl _
  | n + 1 => by have := cnt_le S n; simp only [cnt]; split <;> omega
theorem cnt_zero {S : Nat → Bool} : ∀ {n}, cnt S n = 0 → ∀ k, k < n → S k = true
  | n + 1, h, k, hk => by
    simp only [cnt] at h
    by_cases hkn : k = n
    · subst hkn
      split at h
      · assumption
      · omega
    · exact cnt_zero (n := n) (by omega) k (by omega)
theorem cnt_set {S S' : Nat → Bool} {i : Nat} (hS : S i = false) (hS1 : S' i = true) (hS2 : ∀ k, k ≠ i → S' k = S k) : ∀ n, (n ≤ i → cnt S' n = cnt S n) ∧ (i < n → cnt S' n + 1 = cnt S n)
  | 0 => ⟨fun _ => rfl, fun h => by omega⟩
  | n + 1 => by
    obtain ⟨h1, h2⟩ := cnt_set hS hS1 hS2 n
    constructor
    · intro h
      simp only [cnt, h1 (by omega), hS2 n (by omega)]
    · intro h
      by_cases hn : n = i
      · subst hn
        simp only [cnt, h1 (Nat.le_refl _), hS, hS1, if_true]
        simp
      · simp only [cnt, hS2 n hn]
        have := h2 (by omega)
        omega
theorem any_ok (hF : FnOK P F) (hy : Hyp P F nt n0 ops qs tr out) {φ0 : Phi} {w0 : World} {Q : Exit → Act → World → Prop} (hQ : ∀ (S : Nat → Bool) φ a w, (∀ k, k < qs.length → S k = true) → Rel ops qs tr out nt n0 φ0 w0 S φ a w → Q .normal a w) :
    ∀ (fuel : Nat) (listed : Array Bool) (φ : Phi) (a : Act) (w : World), listed.size = qs.length → cnt (fun k => listed.getD k false) qs.length ≤ fuel → Rel ops qs tr out nt n0 φ0 w0 (fun k => listed.getD k false) φ a w → wpAny P .any ops Q fuel listed a w := by
  have hdone : ∀ (listed : Array Bool), listed.size = qs.length → (Region.ready .any ops listed = [] ↔ ∀ k, k < qs.length → listed.getD k false = true) := by
    intro listed hsz
    constructor
    · intro hr
      have key : ∀ n k, k ≤ n → k < qs.length → listed.getD k false = true := by
        intro n
        induction n with
        | zero =>
          intro k hk hkn
          have : k = 0 := by omega
          subst this
          cases hb : listed.getD 0 false with
          | true => rfl
          | false =>
            have : 0 ∈ Region.ready .any ops listed := by
              rw [mem_ready]
              refine ⟨?_, ops[0]'(by rw [hy.len]; omega), Array.getElem?_eq_getElem _, fun e he hbd => ?_⟩
              · have hl : 0 < listed.size := by omega
                simpa [Array.getD, hl] using hb
              · have := hy.lower _ _ (Anc.edge (Array.getElem?_eq_getElem (by rw [hy.len]; omega)) he hbd); omega
            rw [hr] at this; cases this
        | succ n ih =>
          intro k hk hkn
          by_cases hkle : k ≤ n
          · exact ih k hkle hkn
          · cases hb : listed.getD k false with
            | true => rfl
            | false =>
              have : k ∈ Region.ready .any ops listed := by
                rw [mem_ready]
                refine ⟨?_, ops[k]'(by rw [hy.len]; omega), Array.getElem?_eq_getElem _, fun e he hbd => ?_⟩
                · have hl : k < listed.size := by omega
                  simpa [Array.getD, hl] using hb
                · have := hy.lower _ _ (Anc.edge (Array.getElem?_eq_getElem (by rw [hy.len]; omega)) he hbd)
                  exact ih e.on (by omega) (by omega)
              rw [hr] at this; cases this
      exact fun k hk => key k k (Nat.le_refl _) hk
    · intro h
      apply List.eq_nil_iff_forall_not_mem.2
      intro k hk
      obtain ⟨h0, o, ho, _⟩ := mem_ready.1 hk
      have hkn : k < qs.length := by rw [← hy.len]; exact (Array.getElem?_eq_some_iff.1 ho).1
      have h1 := h k hkn
      have hl : k < listed.size := by omega
      simp [Array.getD, hl] at h0 h1
      rw [h0] at h1; cases h1
  intro fuel
  induction fuel with
  | zero =>
    intro listed φ a w hsz hc hl
    have hall := cnt_zero (Nat.le_zero.1 hc)
    exact ⟨(hdone listed hsz).2 hall, hQ _ φ a w hall hl⟩
  | succ fuel ih =>
    intro listed φ a w hsz hc hl
    refine ⟨fun hr => hQ _ φ a w ((hdone listed hsz).1 hr) hl, fun i hi => ?_⟩
    obtain ⟨h0, o, ho, hall⟩ := mem_ready.1 hi
    have hin : i < qs.length := by rw [← hy.len]; exact (Array.getElem?_eq_some_iff.1 ho).1
    have hil : i < listed.size := by omega
    have hS : listed.getD i false = false := by simpa [Array.getD, hil] using h0
    have hS1 : (listed.setIfInBounds i true).getD i false = true := by simp [hil]
    have hS2 : ∀ k, k ≠ i → (listed.setIfInBounds i true).getD k false = listed.getD k false := fun k hk => getD_set_ne false (Ne.symm hk)
    have hr : EdgesIn ops (fun k => listed.getD k false) i := fun o' e ho' he hb => by
      rw [ho] at ho'; injection ho' with ho'; subst ho'
      exact hall e he hb
    unfold wpOp
    rw [ho]
    refine rel_step hF hy hl ho (List.getElem?_eq_getElem hin) hS hr (S' := fun k => (listed.setIfInBounds i true).getD k false) hS1 hS2 fun φ' a' w' hl' => ih _ φ' a' w' (by simp [hsz]) ?_ hl'
    have := (cnt_set (S := fun k => listed.getD k false) (S' := fun k => (listed.setIfInBounds i true).getD k false) hS hS1 hS2 qs.length).2 hin
    omega
end

/-! ### the test -/
def ancM (acc : List Nat) : List Edge → Nat
  | [] => 0
  | e :: es => if Region.binds .any e then ancM acc es ||| 2 ^ e.on ||| acc.getD e.on 0 else ancM acc es
def ancL : List Oper → List Nat → List Nat
  | [], acc => acc
  | o :: os, acc => ancL os (acc ++ [ancM acc o.after.toList])
def lowL : List Oper → Nat → Bool
  | [], _ => true
  | o :: os, k => (o.after.toList.all fun e => !Region.binds .any e || decide (e.on < k)) && lowL os (k + 1)
def freeS (q q' : AOper) : Bool :=
  (match q.d with | some t => !q'.reads.contains t && !(q'.d == some t) | none => true) && (match q'.d with | some t => !q.reads.contains t | none => true)
def stableX (qs : List AOper) (i : Nat) : Opd → Bool
  | .t t => (qs.drop i).all fun q => !(q.d == some t)
  | _ => true
def apIn (qs : List AOper) (ap : List (Opd × Opd)) (i j : Nat) (x y : Opd) : Bool := (ap.contains (x, y) || ap.contains (y, x)) && stableX qs i x && stableX qs j y
def freeH (qs : List AOper) (ap : List (Opd × Opd)) (i j : Nat) (q q' : AOper) : Bool :=
  (q.o.ws.all fun x => q'.o.rs.all fun y => apIn qs ap i j x y) && (q.o.rs.all fun x => q'.o.ws.all fun y => apIn qs ap i j x y) && (!q.o.isCall || q'.o.ws.isEmpty) && (!q'.o.isCall || q.o.ws.isEmpty)
def plainB (q : AOper) : Bool := q.o.rs.all fun y => match y with | .t _ => true | .k v => (idOf v).isNone | .f _ => true
def pairB (qs : List AOper) (anc : List Nat) (ap : List (Opd × Opd)) (i j : Nat) : Bool :=
  (anc.getD j 0).testBit i || (match qs[i]?, qs[j]? with | some q, some q' => freeS q q' && freeH qs ap i j q q' | _, _ => true)
def okDraw (ops : Array Oper) (qs : List AOper) (ap : List (Opd × Opd)) : Bool :=
  lowL ops.toList 0 && qs.all plainB && (let anc := ancL ops.toList []; (List.range qs.length).all fun j => (List.range j).all fun i => pairB qs anc ap i j)
theorem lowL_ok : ∀ {os : List Oper} {k : Nat}, lowL os k = true → ∀ (j : Nat) o e, os[j]? = some o → e ∈ o.after → Region.binds .any e = true → e.on < k + j
  | o :: os, k, h, 0, o', e, ho, he, hb => by
    simp only [lowL, Bool.and_eq_true] at h
    simp at ho; subst ho
    have := List.all_eq_true.1 h.1 e (by simpa using he)
    simpa [hb] using this
  | o :: os, k, h, j + 1, o', e, ho, he, hb => by
    simp only [lowL, Bool.and_eq_true] at h
    have := lowL_ok h.2 j o' e (by simpa using ho) he hb
    omega
  | [], _, _, j, _, _, ho, _, _ => by simp at ho
theorem anc_lower {ops : Array Oper} (h : lowL ops.toList 0 = true) : ∀ {i j : Nat}, Anc ops i j → i < j := by
  intro i j ha
  have key : ∀ (j : Nat) o e, ops[j]? = some o → e ∈ o.after → Region.binds .any e = true → e.on < j := fun j o e ho he hb => by
    have := lowL_ok h j o e (by simpa using ho) he hb; omega
  induction ha with
  | edge ho he hb => exact key _ _ _ ho he hb
  | step ho he hb _ ih => exact Nat.lt_trans ih (key _ _ _ ho he hb)
theorem ancM_ok {ops : Array Oper} {acc : List Nat} (hacc : ∀ j i, (acc.getD j 0).testBit i = true → Anc ops i j) {j : Nat} {o : Oper} (ho : ops[j]? = some o) : ∀ (es : List Edge), (∀ e ∈ es, e ∈ o.after) → ∀ i, (ancM acc es).testBit i = true → Anc ops i j
  | [], _, i, h => by simp [ancM] at h
  | e :: es, hes, i, h => by
    simp only [ancM] at h
    have he := hes e (by simp)
    split at h
    · rename_i hb
      simp only [Nat.testBit_or, Bool.or_eq_true] at h
      rcases h with (h | h) | h
      · exact ancM_ok hacc ho es (fun e he => hes e (by simp [he])) i h
      · rw [Nat.testBit_two_pow] at h
        have : e.on = i := by simpa using h
        subst this
        exact .edge ho he hb
      · exact .step ho he hb (hacc _ _ h)
    · exact ancM_ok hacc ho es (fun e he => hes e (by simp [he])) i h
theorem ancL_ok {ops : Array Oper} : ∀ (os : List Oper) (acc : List Nat), (∀ j, os[j]? = ops[acc.length + j]?) → (∀ j i, (acc.getD j 0).testBit i = true → Anc ops i j) → ∀ j i, ((ancL os acc).getD j 0).testBit i = true → Anc ops i j
  | [], acc, _, h, j, i, hb => h j i hb
  | o :: os, acc, hos, h, j, i, hb => by
    have ho : ops[acc.length]? = some o := by simpa using (hos 0).symm
    refine ancL_ok os (acc ++ [ancM acc o.after.toList]) (fun j => ?_) (fun j i hb => ?_) j i hb
    · have := hos (j + 1)
      simp only [List.length_append, List.length_singleton]
      rw [show acc.length + 1 + j = acc.length + (j + 1) by omega, ← this]; rfl
    · rw [List.getD_eq_getElem?_getD] at hb
      rcases Nat.lt_trichotomy j acc.length with hj | hj | hj
      · rw [List.getElem?_append_left hj, ← List.getD_eq_getElem?_getD] at hb
        exact h j i hb
      · subst hj
        rw [List.getElem?_append_right (Nat.le_refl _)] at hb
        simp at hb
        exact ancM_ok h ho _ (fun e he => by simpa using he) i hb
      · rw [List.getElem?_eq_none (by simp; omega)] at hb
        simp at hb
theorem apartA_ok {e : Env} : ∀ {ap : List (Opd × Opd)}, apartA e ap = true → ∀ p ∈ ap, ∃ i j, idOf (p.1.ev e) = some i ∧ idOf (p.2.ev e) = some j ∧ i ≠ j
  | [], _, p, hp => by simp at hp
  | (x, y) :: r, h, p, hp => by
    simp only [apartA, Bool.and_eq_true] at h
    rcases List.mem_cons.1 hp with rfl | hp
    · have h1 := h.1
      split at h1
      · rename_i i j hi hj
        exact ⟨i, j, hi, hj, by simpa using h1⟩
      · cases h1
    · exact apartA_ok h.2 p hp
theorem stable_ok {F : Fns} {n0 : Nat} {qs : List AOper} {tr : Nat → Env × Heap} {out : Nat → Out} (ht : Tr F n0 qs tr out) {i : Nat} (hi : i ≤ qs.length) {x : Opd} (h : stableX qs i x = true) : x.ev (tr i).1 = x.ev (tr qs.length).1 := by
  cases x with
  | t t =>
    simp only [Opd.ev]
    rw [← ES_all ht (S := fun _ => true) i hi fun _ _ => rfl, ← ES_all ht (S := fun _ => true) qs.length (Nat.le_refl _) fun _ _ => rfl]
    have h1 := ES_skip (qs := qs) (tr := tr) (out := out) (S := fun _ => true) (K := i) (t := t) (qs.length - i) fun k h1 h2 _ hd => by
      have hk : k < qs.length := by omega
      have hm : qs[k] ∈ qs.drop i := by
        refine List.mem_iff_getElem?.2 ⟨k - i, ?_⟩
        rw [List.getElem?_drop, show i + (k - i) = k by omega, List.getElem?_eq_getElem hk]
      have := List.all_eq_true.1 h _ hm
      unfold dT at hd
      rw [List.getElem?_eq_getElem hk] at hd
      simp only [Option.bind_some] at hd
      simp [hd] at this
    rw [show i + (qs.length - i) = qs.length by omega] at h1
    exact h1.symm
  | k v => rfl
  | f f => rfl
theorem hyp_of {P : Program} {F : Fns} {nt : Nat} {ops : Array Oper} {qs : List AOper} {ap : List (Opd × Opd)} {tr : Nat → Env × Heap} {out : Nat → Out} (ht : Tr F (tr 0).2.length qs tr out) (hk : okOps P nt ops ops.toList qs = true) (hd : okDraw ops qs ap = true) (hap : apartA (tr qs.length).1 ap = true) :
    Hyp P F nt (tr 0).2.length ops qs tr out := by
  simp only [okDraw, Bool.and_eq_true] at hd
  obtain ⟨⟨hlow, hpl⟩, hpairs⟩ := hd
  have hlist : ∀ (os : List Oper) (qs : List AOper), okOps P nt ops os qs = true → os.length = qs.length ∧ ∀ (k : Nat) o q, os[k]? = some o → qs[k]? = some q → okOper P nt ops o q = true := by
    intro os
    induction os with
    | nil => intro qs h; cases qs <;> simp_all [okOps]
    | cons o os ih =>
      intro qs h
      cases qs with
      | nil => simp [okOps] at h
      | cons q qs =>
        simp only [okOps, Bool.and_eq_true] at h
        obtain ⟨h1, h2⟩ := ih qs h.2
        refine ⟨by simp [h1], fun k o' q' ho hq => ?_⟩
        cases k with
        | zero => simp at ho hq; subst ho; subst hq; exact h.1
        | succ k => exact h2 k o' q' (by simpa using ho) (by simpa using hq)
  obtain ⟨hlen, hok⟩ := hlist _ _ hk
  have hlen : ops.size = qs.length := by simpa using hlen
  have hanc := ancL_ok (ops := ops) ops.toList [] (fun j => by simp) (fun j i h => by simp at h)
  have hpair : ∀ i j, i < j → j < qs.length → Anc ops i j ∨ ∀ q q', qs[i]? = some q → qs[j]? = some q' → freeS q q' = true ∧ freeH qs ap i j q q' = true := by
    intro i j hij hj
    have := List.all_eq_true.1 (List.all_eq_true.1 hpairs j (by simpa using hj)) i (by simpa using hij)
    simp only [pairB, Bool.or_eq_true] at this
    rcases this with h | h
    · exact .inl (hanc j i h)
    · refine .inr fun q q' hq hq' => ?_
      rw [hq, hq'] at h
      simpa using h
  refine ⟨ht, hlen, rfl, fun k o q ho hq => hok k o q (by simpa using ho) hq, fun k q hq y hy => ?_, fun i j => anc_lower hlow, fun i j hij hj ⟨t, hc⟩ => ?_, fun i j q q' hij hq hq' => ?_⟩
  · have := List.all_eq_true.1 (List.all_eq_true.1 hpl q (List.mem_of_getElem? hq)) y hy
    cases y with
    | t t => exact .inl ⟨t, rfl⟩
    | k v => exact .inr fun e => by simpa [Opd.ev] using this
    | f f => exact .inr fun e => rfl
  · rcases hpair i j hij hj with h | h
    · exact h
    · exfalso
      have hqi := List.getElem?_eq_getElem (show i < qs.length by omega)
      have hqj := List.getElem?_eq_getElem hj
      obtain ⟨h1, _⟩ := h _ _ hqi hqj
      simp only [freeS, Bool.and_eq_true] at h1
      have hdi : dT qs i = (qs[i]'(by omega)).d := by unfold dT; rw [hqi]; rfl
      have hdj : dT qs j = (qs[j]).d := by unfold dT; rw [hqj]; rfl
      have hri : readsT qs i = (qs[i]'(by omega)).reads := by unfold readsT; rw [hqi]
      have hrj : readsT qs j = (qs[j]).reads := by unfold readsT; rw [hqj]
      rw [hdi, hdj, hri, hrj] at hc
      rcases hc with ⟨h2, h3⟩ | ⟨h2, h3⟩
      · rw [h2] at h1
        rcases h3 with h3 | h3
        · simp [h3] at h1
        · simp [h3] at h1
      · rw [h2] at h1
        simp [h3] at h1
  · rcases hpair i j hij (List.getElem?_eq_some_iff.1 hq').1 with h | h
    · exact .inl h
    · right
      obtain ⟨_, h1⟩ := h _ _ hq hq'
      simp only [freeH, Bool.and_eq_true] at h1
      obtain ⟨⟨⟨h1, h2⟩, h3⟩, h4⟩ := h1
      have hi : i ≤ qs.length := by have := (List.getElem?_eq_some_iff.1 hq).1; omega
      have hj : j ≤ qs.length := by have := (List.getElem?_eq_some_iff.1 hq').1; omega
      have hapx : ∀ x y b, apIn qs ap i j x y = true → idOf (x.ev (tr i).1) = some b → idOf (y.ev (tr j).1) ≠ some b := by
        intro x y b h hx hyb
        simp only [apIn, Bool.and_eq_true, Bool.or_eq_true] at h
        rw [stable_ok ht hi h.1.2] at hx
        rw [stable_ok ht hj h.2] at hyb
        rcases h.1.1 with h | h
        · obtain ⟨a, b', ha, hb', hne⟩ := apartA_ok hap _ (by simpa using h)
          simp only [hx, hyb, Option.some.injEq] at ha hb'
          omega
        · obtain ⟨a, b', ha, hb', hne⟩ := apartA_ok hap _ (by simpa using h)
          simp only [hx, hyb, Option.some.injEq] at ha hb'
          omega
      refine ⟨fun x hx y hy b => hapx x y b (List.all_eq_true.1 (List.all_eq_true.1 h1 x hx) y hy), fun x hx y hy b => hapx x y b (List.all_eq_true.1 (List.all_eq_true.1 h2 x hx) y hy), fun hc => by simpa [hc] using h3, fun hc => by simpa [hc] using h4⟩
theorem regionD_ok {P : Program} {F : Fns} (hF : FnOK P F) (hm : P.follows .mixedOrders = true) {nt id : Nat} {ops : Array Oper} {qs : List AOper} {ap : List (Opd × Opd)} (hk : okOps P nt ops ops.toList qs = true) (hd : okDraw ops qs ap = true)
    {φ : Phi} {e e' : Env} {h h' : Heap} {a : Act} {w : World} (hs : StOK φ e h nt a w) (hr : runOpsD F h.length qs e h = some (e', h')) (hap : apartA e' ap = true) {m : Nat} (hml : m ≤ h.length) {Q : Exit → Act → World → Prop}
    (hQ : ∀ φ' a' w', StOK φ' e' h' nt a' w' → Later m φ h w φ' h' w' → Q .normal a' w') : (Code.region id ops true).wp P Q a w := by
  obtain ⟨tr, out, ht, h0, hn⟩ := tr_of qs e h e' h' hr
  have hh0 : (tr 0).2 = h := by rw [h0]
  have he0 : (tr 0).1 = e := by rw [h0]
  have hen : (tr qs.length).1 = e' := by rw [hn]
  have hhn : (tr qs.length).2 = h' := by rw [hn]
  have hy : Hyp P F nt (tr 0).2.length ops qs tr out := hyp_of (by rw [hh0]; exact ht) hk hd (by rw [hen]; exact hap)
  refine wp_region_any hm ?_
  rw [hy.len]
  have hdrew : HeapOK φ (lkp h) { w with drawn := w.drawn + 1 } := ⟨fun i b p hb hp => by
    have := hs.heap.blk i b p hb hp
    cases b with
    | dead => trivial
    | cells cs own => exact this
    | map es => exact this, hs.heap.sep, hs.heap.dom⟩
  have hmv0 : Mv φ (lkp (tr 0).2) w φ (lkp (tr 0).2) { w with drawn := w.drawn + 1 } := by
    rw [hh0]
    exact ⟨hdrew, ⟨rfl, rfl, rfl, Nat.le_refl _, fun _ _ _ => rfl⟩, fun _ hk => .inl hk, fun _ hk => .inl hk⟩
  have hS0 : ∀ k, (Array.replicate qs.length false).getD k false = false := fun k => by
    by_cases hk : k < qs.length <;> simp [Array.getD, hk]
  refine any_ok hF hy (φ0 := φ) (w0 := w) (fun S φ' a' w' hS hl => ?_) qs.length (Array.replicate qs.length false) φ a _ (by simp) (cnt_le _ _) ⟨?_, fun k hk _ => ?_, fun k p _ hk => ?_, hs.size, hs.defers, fun j hj => ?_, fun _ _ => rfl, ?_⟩
  · have henv := hl.env
    have hmv := hl.mv
    rw [ES_all hy.ht qs.length (Nat.le_refl _) hS, hen] at henv
    rw [HS_all hy.ht qs.length (Nat.le_refl _) hS, hhn, hh0] at hmv
    have hlen := tr_mono hy.ht (Nat.zero_le qs.length) (Nat.le_refl _)
    rw [hh0, hhn] at hlen
    exact hQ φ' a' w' ⟨henv, hmv.ok, hl.size, hl.defers⟩ ⟨fun i hi => hl.keep i (by rw [hh0]; omega), hmv, by omega⟩
  · have : ∀ K, ES qs tr out (fun k => (Array.replicate qs.length false).getD k false) K = e := by
      intro K
      induction K with
      | zero => exact he0
      | succ K ih => simp only [ES, hS0 K, Bool.false_eq_true, if_false]; exact ih
    rw [this]
    exact hs.env
  · intro j hj
    have hlen := tr_mono hy.ht (Nat.zero_le k) (by omega)
    have := hs.heap.free ((tr k).2.length - h.length + j + 1) ((tr k).2.length - h.length + j) (by omega)
    rw [hh0] at hlen
    rwa [show h.length + ((tr k).2.length - h.length + j) = (tr k).2.length + j by omega] at this
  · rw [hS0 k] at hk; cases hk
  · rw [hS0 j] at hj; cases hj
  · rw [HS_zero _ hS0]
    exact hmv0
end Go.Proofs.Ytenheijeahpbkaa.AM
