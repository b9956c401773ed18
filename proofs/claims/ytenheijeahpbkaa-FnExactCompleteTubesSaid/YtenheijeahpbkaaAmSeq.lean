/-
  Operations one behind the other: what the abstract machine reckons is what the model does.
-/
import Derived.Test.YtenheijeahpbkaaAmMatch
import Derived.Conc.MuLone
namespace Go.Proofs.Ytenheijeahpbkaa.AM
open Go

def okGuard (ops : Array Oper) : Option (Nat × Bool) → Option (Nat × Bool) → Bool
  | none, none => true
  | some (j, b), some (s, b') => ((ops[j]?).bind (·.dst) == some s) && b == b'
  | _, _ => false
def okDst (nt : Nat) : Option Tmp → Option Nat → Bool
  | none, none => true
  | some d, some d' => d == d' && decide (d < nt)
  | _, _ => false
def okOper (P : Program) (nt : Nat) (ops : Array Oper) (o : Oper) (q : AOper) : Bool := okDst nt o.dst q.d && okGuard ops o.guard q.g && okA P o.op q.o
def okOps (P : Program) (nt : Nat) (ops : Array Oper) : List Oper → List AOper → Bool
  | [], [] => true
  | o :: os, q :: qs => okOper P nt ops o q && okOps P nt ops os qs
  | _, _ => false
theorem okDst_eq {nt : Nat} {d : Option Tmp} {d' : Option Nat} (h : okDst nt d d' = true) : d = d' ∧ ∀ k, d' = some k → k < nt := by
  unfold okDst at h
  split at h
  · exact ⟨rfl, by simp⟩
  · simp only [Bool.and_eq_true, beq_iff_eq, decide_eq_true_eq] at h
    obtain ⟨rfl, h⟩ := h
    exact ⟨rfl, fun k hk => by injection hk with hk; subst hk; exact h⟩
  · cases h
theorem EnvOK.mono {φ φ' : Phi} {e : Env} {a : Act} (h : EnvOK φ e a) (hl : Le φ φ') : EnvOK φ' e a := fun t => (h t).mono hl
theorem EnvOK.put {φ : Phi} {e : Env} {a : Act} {v : V} {rv : Value} {d : Option Nat} (h : EnvOK φ e a) (hv : VR φ v rv) (hd : ∀ k, d = some k → k < a.tmps.size) : EnvOK φ (AM.put e d v) (a.put d rv) := by
  cases d with
  | none => exact h
  | some d =>
    intro t
    have hlt := hd d rfl
    simp only [AM.put, Act.put, AM.get]
    by_cases ht : d = t
    · subst ht
      rw [if_pos rfl]
      simpa [Array.getD_eq_getD_getElem?, Array.getElem?_setIfInBounds, hlt] using hv
    · rw [if_neg ht]
      have := h t
      simpa [Array.getD_eq_getD_getElem?, Array.getElem?_setIfInBounds_ne ht] using this
theorem put_size (a : Act) (d : Option Nat) (v : Value) : (a.put d v).tmps.size = a.tmps.size := by cases d <;> simp [Act.put]
theorem put_defers' (a : Act) (d : Option Nat) (v : Value) : (a.put d v).defers = a.defers := by cases d <;> rfl
theorem wanted_ok {φ : Phi} {e : Env} {a : Act} {ops : Array Oper} {o : Oper} {g : Option (Nat × Bool)} {b : Bool} (he : EnvOK φ e a) (hg : okGuard ops o.guard g = true) (hw : wantedA e g = some b) : Region.wanted o (yielded ops a.tmps) = b := by
  unfold okGuard at hg
  split at hg
  · rename_i h1
    simp only [wantedA, Option.some.injEq] at hw
    subst hw
    simp [Region.wanted, h1]
  · rename_i j b1 s b2 h1
    simp only [Bool.and_eq_true, beq_iff_eq] at hg
    obtain ⟨h2, rfl⟩ := hg
    have hs := he s
    simp only [wantedA] at hw
    simp only [Region.wanted, h1, yielded, h2, Option.bind_some]
    rw [Array.getD_eq_getD_getElem?] at hs
    split at hw
    · rename_i b' hb
      rw [hb] at hs
      injection hw with hw
      subst hw
      have hs : (a.tmps[s]?).getD Go.undef = .bool b' := hs
      cases hx : a.tmps[s]? with
      | none => rw [hx] at hs; cases hs
      | some v =>
        rw [hx] at hs
        simp only [Option.getD_some] at hs
        subst hs
        simp
    · rename_i hb
      rw [hb] at hs
      injection hw with hw
      subst hw
      have hs : (a.tmps[s]?).getD Go.undef = Go.undef := hs
      cases hx : a.tmps[s]? with
      | none => simp
      | some v =>
        rw [hx] at hs
        simp only [Option.getD_some] at hs
        subst hs
        simp [Go.undef]
    · cases hw
  · cases hg
/-- what an operation writes is there -/
theorem ev_ups {F : Fns} {q : AOp} {e : Env} {H : HF} {base : Nat} {r : Out} (h : q.ev F e H base = some r) : ∀ p ∈ r.2.2, (H p.1).isSome = true := by
  cases q with
  | p q =>
    simp only [AOp.ev] at h
    obtain ⟨s, _, rfl⟩ := Option.map_eq_some_iff.1 h
    simp
  | h q =>
    simp only [AOp.ev] at h
    cases q with
    | load n agg a =>
      simp only [HOp.ev] at h
      split at h
      · obtain ⟨s, _, rfl⟩ := Option.map_eq_some_iff.1 h; simp
      · cases h
    | slA m sz x lo hi =>
      simp only [HOp.ev] at h
      split at h
      · split at h
        · obtain ⟨_, _, h⟩ := Option.bind_eq_some_iff.1 h
          obtain ⟨_, _, rfl⟩ := Option.map_eq_some_iff.1 h
          simp
        · cases h
      · cases h
    | store n a x =>
      simp only [HOp.ev] at h
      split at h
      · split at h
        · rename_i hb
          split at h
          · injection h with h; subst h; simp [hb]
          · cases h
        · cases h
      · cases h
    | app sz a b =>
      simp only [HOp.ev] at h
      obtain ⟨_, _, h⟩ := Option.bind_eq_some_iff.1 h
      split at h
      · split at h
        · rename_i hb
          split at h
          · injection h with h; subst h; simp [hb]
          · cases h
        · cases h
      · split at h
        · injection h with h; subst h; simp
        · cases h
      · cases h
    | s2b x =>
      simp only [HOp.ev] at h
      split at h
      · split at h
        · injection h with h; subst h; simp
        · cases h
      · cases h
    | b2s x =>
      simp only [HOp.ev] at h
      split at h
      · obtain ⟨_, _, h⟩ := Option.bind_eq_some_iff.1 h
        split at h
        · injection h with h; subst h; simp
        · cases h
      · injection h with h; subst h; simp
      · cases h
    | call f args =>
      simp only [HOp.ev] at h
      split at h
      · unfold callA at h
        simp only at h
        split at h
        · rename_i hc
          obtain ⟨_, _, h⟩ := Option.bind_eq_some_iff.1 h
          split at h
          · injection h with h
            subst h
            intro p hp
            have hm := (List.of_mem_zip (a := p.1) (b := p.2) hp).1
            obtain ⟨b, hb, _⟩ := closed_at hc.1 hm
            simp [hb]
          · cases h
        · cases h
      · cases h
theorem out_ups {F : Fns} {q : AOper} {e : Env} {H : HF} {base : Nat} {r : Out} (h : outA F q e H base = some r) : ∀ p ∈ r.2.2, (H p.1).isSome = true := by
  unfold outA at h
  obtain ⟨w, _, h⟩ := Option.bind_eq_some_iff.1 h
  split at h
  · exact ev_ups h
  · injection h with h; subst h; simp
theorem ups_length : ∀ (us : List (Nat × Blk)) (h : Heap), (ups us h).length = h.length
  | [], _ => rfl
  | p :: us, h => by simp [ups, ups_length us]
theorem lkp_ups : ∀ (us : List (Nat × Blk)) (h : Heap), (∀ p ∈ us, p.1 < h.length) → lkp (ups us h) = updU us (lkp h)
  | [], _, _ => rfl
  | p :: us, h, hp => by
    simp only [ups, updU]
    rw [lkp_ups us _ (fun q hq => by simpa using hp q (by simp [hq]))]
    congr 1
    funext i
    unfold lkp
    rw [List.getElem?_set]
    have := hp p (by simp)
    by_cases hi : p.1 = i
    · subst hi; simp [this]
    · rw [if_neg hi, if_neg (Ne.symm hi)]
theorem updU_none : ∀ (us : List (Nat × Blk)) (H : HF) (i : Nat), (∀ p ∈ us, (H p.1).isSome = true) → H i = none → updU us H i = none
  | [], _, _, _, h => h
  | p :: us, H, i, hp, h => by
    simp only [updU]
    refine updU_none us _ i (fun q hq => ?_) ?_
    · have := hp q (by simp [hq])
      split
      · rfl
      · exact this
    · have := hp p (by simp)
      rw [if_neg]
      · exact h
      · intro e; rw [← e, h] at this; cases this
theorem lkp_step {h : Heap} {ns : List Blk} {us : List (Nat × Blk)} (hp : ∀ p ∈ us, (lkp h p.1).isSome = true) : lkp (ups us h ++ ns) = updH (lkp h) h.length ns us := by
  have hlt : ∀ p ∈ us, p.1 < h.length := fun p hpu => by
    obtain ⟨b, hb⟩ := Option.isSome_iff_exists.1 (hp p hpu)
    exact (List.getElem?_eq_some_iff.1 hb).1
  have hl := ups_length us h
  funext i
  unfold updH
  by_cases hi : h.length ≤ i ∧ i < h.length + ns.length
  · rw [if_pos hi]
    unfold lkp
    rw [List.getElem?_append_right (by omega), hl]
  · rw [if_neg hi]
    by_cases hi2 : i < h.length
    · rw [← lkp_ups us h hlt]
      unfold lkp
      rw [List.getElem?_append_left (by omega)]
    · rw [updU_none us (lkp h) i hp (by unfold lkp; exact List.getElem?_eq_none (by omega))]
      unfold lkp
      exact List.getElem?_eq_none (by rw [List.length_append]; omega)
theorem HeapOK.free {φ : Phi} {h : Heap} {w : World} (hh : HeapOK φ (lkp h) w) (k : Nat) : Free φ h.length k := by
  intro j _
  cases hp : φ (h.length + j) with
  | none => rfl
  | some p =>
    obtain ⟨b, hb⟩ := hh.dom _ p hp
    have := (List.getElem?_eq_some_iff.1 hb).1
    omega
/-- one state of a call's run -/
structure StOK (φ : Phi) (e : Env) (h : Heap) (nt : Nat) (a : Act) (w : World) : Prop where
  env : EnvOK φ e a
  heap : HeapOK φ (lkp h) w
  size : a.tmps.size = nt
  defers : a.defers = []
/-- a later state, seen from an earlier one: the first m blocks have kept their numbers -/
structure Later (m : Nat) (φ : Phi) (h : Heap) (w : World) (φ' : Phi) (h' : Heap) (w' : World) : Prop where
  keep : ∀ i, i < m → φ' i = φ i
  mv : Mv φ (lkp h) w φ' (lkp h') w'
  len : m ≤ h'.length
theorem Later.refl {m : Nat} {φ : Phi} {h : Heap} {w : World} (hh : HeapOK φ (lkp h) w) (hm : m ≤ h.length) : Later m φ h w φ h w := ⟨fun _ _ => rfl, Mv.refl hh, hm⟩
theorem Later.trans {m : Nat} {φ φ' φ'' : Phi} {h h' h'' : Heap} {w w' w'' : World} (a : Later m φ h w φ' h' w') (b : Later m φ' h' w' φ'' h'' w'') : Later m φ h w φ'' h'' w'' :=
  ⟨fun i hi => (b.keep i hi).trans (a.keep i hi), a.mv.trans b.mv, b.len⟩
/-- one operation -/
theorem step_ok {P : Program} {F : Fns} (hF : FnOK P F) {nt : Nat} {ops : Array Oper} {o : Oper} {q : AOper} (hk : okOper P nt ops o q = true) {φ : Phi} {e e' : Env} {h h' : Heap} {a : Act} {w : World} (hs : StOK φ e h nt a w) (hst : stepA F q e h = some (e', h')) {m : Nat} (hm : m ≤ h.length)
    {K : Act → World → Prop} {Q : Exit → Act → World → Prop} (hK : ∀ φ' a' w', StOK φ' e' h' nt a' w' → Later m φ h w φ' h' w' → K a' w') :
    if Region.wanted o (yielded ops a.tmps) then o.wp P a w K Q ∨ (o.asks P a w ∧ LetsOut Q) else K (a.put o.dst Go.undef) w := by
  simp only [okOper, Bool.and_eq_true] at hk
  obtain ⟨⟨hd, hg⟩, hop⟩ := hk
  obtain ⟨hd1, hd2⟩ := okDst_eq hd
  unfold stepA at hst
  obtain ⟨r, hr, hst⟩ := Option.map_eq_some_iff.1 hst
  have hups := out_ups hr
  unfold outA at hr
  obtain ⟨b, hb, hr⟩ := Option.bind_eq_some_iff.1 hr
  rw [wanted_ok hs.env hg hb]
  injection hst with he' hh'
  have hlk := lkp_step (h := h) (ns := r.2.1) hups
  cases b with
  | true =>
    simp only [if_true] at hr ⊢
    refine .inl ((okA_does hF hop hs.env hs.heap hr (hs.heap.free _) (fun _ => by unfold lkp; exact List.getElem?_eq_none (Nat.le_refl _))).wp fun rv w' ⟨φ', hv, ho⟩ => ?_)
    have hle : Le φ φ' := le_of_old ho.old (hs.heap.free _)
    have hmv : Mv φ (lkp h) w φ' (lkp h') w' := by rw [← hh', hlk]; exact ho.mv
    refine hK φ' _ _ ⟨?_, hmv.ok, by rw [put_size]; exact hs.size, by rw [put_defers']; exact hs.defers⟩ ⟨fun i hi => ho.old i (.inl (by omega)), hmv, by rw [← hh', List.length_append, ups_length]; omega⟩
    rw [← he', hd1]
    exact (hs.env.mono hle).put hv fun k hk => by rw [hs.size]; exact hd2 k hk
  | false =>
    simp only [Bool.false_eq_true, if_false] at hr ⊢
    injection hr with hr
    subst hr
    simp only [ups, List.append_nil] at hh'
    subst hh'
    refine hK φ _ _ ⟨?_, hs.heap, by rw [put_size]; exact hs.size, by rw [put_defers']; exact hs.defers⟩ (Later.refl hs.heap hm)
    rw [← he', hd1]
    exact hs.env.put rfl fun k hk => by rw [hs.size]; exact hd2 k hk
theorem ops_seq {P : Program} {F : Fns} (hF : FnOK P F) {nt : Nat} {ops : Array Oper} {Q : Exit → Act → World → Prop} {m : Nat} : ∀ (qs : List AOper) (os : List Oper) (k : Nat), (∀ j, os[j]? = ops[k + j]?) → okOps P nt ops os qs = true → ∀ {φ : Phi} {e e' : Env} {h h' : Heap} {a : Act} {w : World}, StOK φ e h nt a w → runOps F qs e h = some (e', h') → m ≤ h.length →
    (∀ φ' a' w', StOK φ' e' h' nt a' w' → Later m φ h w φ' h' w' → Q .normal a' w') → wpOps P ops Q (List.range' k os.length) a w
  | [], [], k, _, _, φ, e, e', h, h', a, w, hs, hr, hm, hQ => by
    simp only [runOps, Option.some.injEq, Prod.mk.injEq] at hr
    obtain ⟨rfl, rfl⟩ := hr
    exact hQ φ a w hs (Later.refl hs.heap hm)
  | q :: qs, o :: os, k, hos, hk, φ, e, e', h, h', a, w, hs, hr, hm, hQ => by
    simp only [okOps, Bool.and_eq_true] at hk
    simp only [runOps] at hr
    obtain ⟨s, hs1, hr⟩ := Option.bind_eq_some_iff.1 hr
    have ho : ops[k]? = some o := by have := hos 0; simpa using this.symm
    simp only [List.length_cons, List.range'_succ, wpOps, ho]
    refine step_ok hF hk.1 hs hs1 hm fun φ1 a1 w1 hs' hl' => ?_
    exact ops_seq hF qs os (k + 1) (fun j => by have := hos (j + 1); simpa [Nat.add_assoc, Nat.add_comm 1 j] using this) hk.2 hs' hr hl'.len fun φ2 a2 w2 hs2 hl2 => hQ φ2 a2 w2 hs2 (hl'.trans hl2)
  | [], _ :: _, _, _, h, _, _, _, _, _, _, _, _, _, _, _ => by simp [okOps] at h
  | _ :: _, [], _, _, h, _, _, _, _, _, _, _, _, _, _, _ => by simp [okOps] at h
end Go.Proofs.Ytenheijeahpbkaa.AM
